import Derived.Test.YtghjmiggobpmoaaGreatDoorTok
import Derived.Test.YtghjmiggobpmoaaGreatDoorGa
set_option linter.unusedVariables false
set_option linter.unusedSimpArgs false
set_option autoImplicit false
set_option maxRecDepth 20000
namespace Go.Proofs.YtghjmiggobpmoaaGreatDoor.K
open Go Go.Proofs Go.RowKit

theorem rd_tail {w : World} {tb cap : Nat} {A : Option Addr} {Z : List Tok} (hcap : Z.length ≤ cap) (hS : Sl tok5E w (fun k => k = tb) A Z) : Sl tok5E w (fun k => k = tb) (if cap = 1 then A else A.map (·.add (1 * 5))) Z.tail := by
  by_cases h : cap = 1
  · have : Z.tail = [] := List.eq_nil_of_length_eq_zero (by rw [List.length_tail]; omega)
    rw [this]; exact .nil
  · rw [if_neg h, ← List.drop_one]; exact hS.drop 1
theorem sl_str {w : World} {b : Nat} {Z : TypeId} (xs : List Bytes) (h : Blk w b (xs.map S) Z) : Sl sE w (fun k => k = b) (some ⟨b, 0, none⟩) xs :=
  .inr ⟨b, 0, rfl, h.lt, rfl, fun i x hx => ⟨[S x], rfl, fun j v hj => by
    cases j with
    | zero => cases hj; exact h.cell (by rw [nthV_eq]; simp [sE, Enc.flat, hx])
    | succ j => simp at hj⟩⟩
def rnone : Rdr := ⟨0, [], [], [], false⟩
theorem isT_tail {k : Int} {l : List Bytes} {Z : List Tok} (h : isT k l Z = true) : (hd Z).kind = k ∧ (hd Z).text ∈ l := by
  simpa [isT] using h

theorem lines_on {Y : List Tok} (h : GT Y) (hk : (hd Y).kind = 3) : linesG Y = linesG Y.tail := by
  cases Y with
  | nil => exact h.elim
  | cons t r => have hk : t.kind = 3 := hk; rw [linesG, if_pos hk]; rfl
theorem lines_off {Y : List Tok} (h : GT Y) (hk : (hd Y).kind ≠ 3) : linesG Y = Y := by
  cases Y with
  | nil => exact h.elim
  | cons t r => have hk : t.kind ≠ 3 := hk; rw [linesG, if_neg hk]

theorem gtok_spec {Z : List Tok} {rb tb : Nat} {d : Int} {w : World} (hg : GT Z) (hR : RdAt w rb tb d Z) : CallR Tryz.prog 15 #[.pointer (some ⟨rb, 0, none⟩)] w fun v w' => v = .agg ⟨tokC5 (hd Z)⟩ ∧ Chg [] w w' := by
 refine callR_of_wp (args := [_]) Tryz.func15 rfl (Nat.le_of_ble_eq_true rfl) ?_
 have HC : Chg [] w w := .refl _
 have hrl := hR.lt hg
 obtain ⟨A, cap, hb, hcap, hS⟩ := hR
 have hgp := hg.pos
 refine sr rfl <| Wp rfl <| st_alloc T.zero51 ?_
 intro b2 w1 e2 c3 hb4
 have ge_b2 := gB e2 HC.size
 have ne_rb_b2 := nF e2 hb.ne_size
 replace HC := HC.then c3
 replace hb := hb.tr0 c3
 replace hS := hS.tr0 c3
 clear e2
 refine en <| sr rfl <| mP rfl <| nc rfl <| fa T.fld49_0 rfl <| lL T.one41 rfl (hb.cell rfl) ?_
 obtain ⟨lb9, _, vs8, hA5, hR7, hC6⟩ := hS.at (i := 0) (x := (hd Z)) (hd_at hg)
 obtain rfl : vs8 = [.int .i64 (hd Z).kind, S (hd Z).text, .int .i64 (hd Z).at_, S (hd Z).here, .bool (hd Z).raw] := hR7
 refine Wp rfl <| st_indexAddr T.u41 T.size51 (congrArg (fun z => Value.slice z _ _) hA5) rfl (by decide) (by omega) <| Wp rfl <| st_loadA (vs := [_, _, _, _, _]) T.agg51 rfl hC6 rfl <| Wp rfl <| st_st (v := .agg ⟨[_, _, _, _, _]⟩) T.size51 rfl rfl rfl hb4 ?_
 intro w10 c11 hb12; simp only [setVs, setV] at hb12
 clear hb4
 replace HC := HC.then1 c11 ge_b2
 refine en <| x_ret <| ret_cellA (vs := [_, _, _, _, _]) rfl rfl T.agg51 (hb12.cells (n := 5) rfl) rfl ?_
 exact ⟨rfl, HC⟩

theorem gnext_spec {Z : List Tok} {rb tb : Nat} {d : Int} {w : World} (hg : GT Z) (hR : RdAt w rb tb d Z) (hq : QOk rb tb) : CallR Tryz.prog 29 #[.pointer (some ⟨rb, 0, none⟩)] w fun v w' => v = .agg ⟨tokC5 (hd Z)⟩ ∧ RdAt w' rb tb d Z.tail ∧ Chg [rb] w w' := by
 refine callR_of_wp (args := [_]) Tryz.func29 rfl (Nat.le_of_ble_eq_true rfl) ?_
 have HC : Chg [rb] w w := .refl _
 have hrl := hR.lt hg
 obtain ⟨hq1, _, _⟩ := hq
 have hR9 := hR
 obtain ⟨A, cap, hb, hcap, hS⟩ := hR
 have hgp := hg.pos
 refine sr rfl <| Wp rfl <| st_alloc T.zero51 ?_
 intro b2 w1 e2 c3 hb4
 have ge_b2 := gB e2 HC.size
 have ne_rb_b2 := nF e2 hb.ne_size
 replace HC := HC.then c3
 replace hR9 := hR9.tr0 c3
 replace hb := hb.tr0 c3
 replace hS := hS.tr0 c3
 clear e2
 refine en <| sr rfl <| mP rfl <| Wp rfl <| st_call (ags := [_]) rfl rfl T.ent15 rfl (gtok_spec hg hR9) ?_
 rintro _ w5 ⟨rfl, c6⟩
 replace HC := HC.then c6
 replace hb := hb.tr0 c6
 replace hS := hS.tr0 c6
 replace hb4 := hb4.tr0 c6
 refine Wp rfl <| st_alloc T.zero51 ?_
 intro b3 w7 e8 c9 hb10
 have ge_b3 := gB e8 HC.size
 have ne_rb_b3 := nF e8 hb.ne_size
 have ne_b2_b3 := nF e8 hb4.ne_size
 replace HC := HC.then c9
 replace hb := hb.tr0 c9
 replace hS := hS.tr0 c9
 replace hb4 := hb4.tr0 c9
 clear e8
 refine Wp rfl <| st_st (v := .agg ⟨[_, _, _, _, _]⟩) T.size51 rfl rfl rfl hb10 ?_
 intro w11 c12 hb13; simp only [setVs, setV] at hb13
 clear hb10
 replace HC := HC.then1 c12 ge_b3
 replace hb := hb.tr1 c12 ne_rb_b3
 replace hS := hS.tr c12 (by intro k hx hD; simp only [List.mem_singleton] at hx; subst hx; omega)
 replace hb4 := hb4.tr1 c12 ne_b2_b3
 refine en <| sr rfl <| mP rfl <| mP rfl <| nc rfl <| fa T.fld49_0 rfl <| lL T.one41 rfl (hb.cell rfl) <| Wp rfl <| st_slice (i := 1) (j := Z.length) T.u41 T.size51 rfl ⟨_, rfl⟩ (by rfl) (by omega) (by omega) <| nc rfl <| fa T.fld49_0 rfl <| Wp rfl <| st_st (v := .slice _ _ _) T.size41 rfl rfl rfl hb ?_
 intro w14 c15 hb16; simp only [setVs, setV] at hb16
 clear hb
 replace HC := HC.trans c15 q4
 replace hS := hS.tr c15 (by intro k hx hD; simp only [List.mem_singleton] at hx; subst hx; omega)
 replace hb4 := hb4.tr1 c15 (Ne.symm ne_rb_b2)
 replace hb13 := hb13.tr1 c15 (Ne.symm ne_rb_b3)
 refine en <| sr rfl <| Wp rfl <| st_loadA (vs := [_, _, _, _, _]) T.agg51 rfl (hb13.cells (n := 5) (vs := [_, _, _, _, _]) rfl) rfl <| Wp rfl <| st_st (v := .agg ⟨[_, _, _, _, _]⟩) T.size51 rfl rfl rfl hb4 ?_
 intro w17 c18 hb19; simp only [setVs, setV] at hb19
 clear hb4
 replace HC := HC.then1 c18 ge_b2
 replace hS := hS.tr c18 (by intro k hx hD; simp only [List.mem_singleton] at hx; subst hx; omega)
 replace hb16 := hb16.tr1 c18 ne_rb_b2
 refine en <| x_ret <| ret_cellA (vs := [_, _, _, _, _]) rfl rfl T.agg51 (hb19.cells (n := 5) rfl) rfl ?_
 have htl := tail_len hg
 exact ⟨rfl, ⟨_, cap - 1, by rw [show Z.tail.length = Z.length - 1 by omega]; exact hb16, ⟨by omega, trivial⟩, rd_tail hcap.1 hS⟩, HC⟩

theorem gfail_spec {Z : List Tok} {rb tb : Nat} {d : Int} {w : World} (e : Int) (hg : GT Z) (hR : RdAt w rb tb d Z) : CallP Tryz.prog 17 #[.pointer (some ⟨rb, 0, none⟩), .int .i64 e] w (fun _ _ => False) (fun v w' => v = wrongV Z e ∧ Chg [] w w') := by
 refine callP_of_wp (args := [_, _]) Tryz.func17 rfl (Nat.le_of_ble_eq_true rfl) ?_
 have HC : Chg [] w w := .refl _
 have hrl := hR.lt hg
 refine x_region rfl <| mP rfl <| Wp rfl <| st_call (ags := [_]) rfl rfl T.ent15 rfl (gtok_spec hg hR) ?_
 rintro _ w1 ⟨rfl, c2⟩
 replace HC := HC.then c2
 refine Wp rfl <| st_field (v := .int _ _) T.fone51_2 rfl rfl <| mI rfl <| Wp rfl <| st_bld (ps := [(0, .tmp 6), (1, .tmp 7)]) (vs := [.int _ _, .int _ _]) T.bld45 rfl <| Wp rfl <| st_makeIface T.ux45 rfl rfl <| Wp rfl <| st_panic rfl <| pp_panic ?_
 exact ⟨rfl, HC⟩

theorem gis_spec {Z : List Tok} {rb tb : Nat} {d : Int} {w : World} {l : List Bytes} {Al : Option Addr} {capl : Nat} {Dl : Nat → Prop} (k : Int) (hg : GT Z) (hR : RdAt w rb tb d Z) (hl : Sl sE w Dl Al l) (hll : l.length ≤ 9223372036854775807) : CallR Tryz.prog 32 #[.pointer (some ⟨rb, 0, none⟩), .int .i64 k, .slice Al l.length capl] w fun v w' => v = .bool (isT k l Z) ∧ Chg [] w w' := by
 refine callR_of_wp (args := [_, _, _]) Tryz.func32 rfl (Nat.le_of_ble_eq_true rfl) ?_
 have HC : Chg [] w w := .refl _
 have hrl := hR.lt hg
 refine sr rfl <| aB rfl <| en <| sr rfl <| mP rfl <| Wp rfl <| st_call (ags := [_]) rfl rfl T.ent15 rfl (gtok_spec hg hR) ?_
 rintro _ w1 ⟨rfl, c2⟩
 replace HC := HC.then c2
 replace hR := hR.tr0 c2
 replace hl := hl.tr0 c2
 refine Wp rfl <| st_field (v := .int _ _) T.fone51_0 rfl rfl <| mI rfl <| Wp rfl <| st_eql rfl rfl <| mB rfl <| w_split (d := 12) rfl (fun g3 => ?_) (fun g3 => ?_)
 ·try simp only [nm, ne_eq] at g3
  refine w_yes 5 12 true <| st_move (v := .slice _ _ _) rfl <| w_yes 5 12 true <| st_move (v := .pointer _) rfl <| w_yes 5 12 true <| st_call (ags := [_]) rfl rfl T.ent15 rfl (gtok_spec hg hR) ?_
  rintro _ w4 ⟨rfl, c5⟩
  replace HC := HC.then c5
  replace hl := hl.tr0 c5
  refine w_yes 5 12 true <| st_field (v := S _) T.fone51_1 rfl rfl <| w_yes 5 12 true <| st_call (ags := [_, _]) rfl rfl T.ent44 rfl (Contains_spec (hd Z).text hl hll) ?_
  rintro _ w6 ⟨rfl, c7⟩
  replace HC := HC.then c7
  refine pT rfl rfl <| aB rfl <| en <| x_ret <| ret_tmp (v := .bool _) rfl rfl <| ⟨congrArg Value.bool ?_, HC⟩
  first | (simp_all [isT]; done) | (simp [isT, *]; done)
 ·try simp only [nm, ne_eq] at g3
  iterate 5 refine w_no 5 12 true ?_
  refine pF rfl rfl <| aB rfl <| en <| x_ret <| ret_tmp (v := .bool _) rfl rfl <| ⟨congrArg Value.bool ?_, HC⟩
  first | (simp_all [isT]; done) | (simp [isT, *]; done)

theorem gtake_spec {Z : List Tok} {rb tb : Nat} {d : Int} {w : World} {l : List Bytes} {Al : Option Addr} {capl : Nat} {Dl : Nat → Prop} (k : Int) (hg : GT Z) (hR : RdAt w rb tb d Z) (hq : QOk rb tb) (hl : Sl sE w Dl Al l) (hll : l.length ≤ 9223372036854775807) : CallR Tryz.prog 63 #[.pointer (some ⟨rb, 0, none⟩), .int .i64 k, .slice Al l.length capl] w fun v w' => v = .bool (isT k l Z) ∧ RdAt w' rb tb d (if isT k l Z = true then Z.tail else Z) ∧ Chg [rb] w w' := by
 refine callR_of_wp (args := [_, _, _]) Tryz.func63 rfl (Nat.le_of_ble_eq_true rfl) ?_
 have HC : Chg [rb] w w := .refl _
 have hrl := hR.lt hg
 refine sr rfl <| aB rfl <| en <| sr rfl <| mP rfl <| mI rfl <| mL rfl <| Wp rfl <| st_call (ags := [_, _, _]) rfl rfl T.ent32 rfl (gis_spec k hg hR hl hll) ?_
 rintro _ w1 ⟨rfl, c2⟩
 replace HC := HC.then c2
 replace hR := hR.tr0 c2
 refine aB rfl <| en <| x_seq <| sr rfl <| mB rfl <| en <| x_cond rfl (fun h0 => ?_) (fun h0 => ?_)
 ·try simp only [nm, ne_eq] at h0
  refine x_region rfl <| mP rfl <| Wp rfl <| st_call (ags := [_]) rfl rfl T.ent29 rfl (gnext_spec hg hR hq) ?_
  rintro _ w3 ⟨rfl, hR2, c4⟩
  replace HC := HC.trans c4 q4
  refine en <| sr rfl <| mB rfl <| aB rfl <| en <| x_ret <| ret_tmp (v := .bool _) rfl rfl ?_
  rw [if_pos (by assumption)]
  exact ⟨rfl, hR2, HC⟩
 ·try simp only [nm, ne_eq] at h0
  refine x_skip <| then_n <| sr rfl <| mB rfl <| aB rfl <| en <| x_ret <| ret_tmp (v := .bool _) rfl rfl ?_
  rw [if_neg (by first | assumption | simp_all)]
  exact ⟨rfl, hR, HC⟩

theorem gwant_spec {Z : List Tok} {rb tb : Nat} {d : Int} {w : World} (k : Int) (s : Bytes) (hg : GT Z) (hR : RdAt w rb tb d Z) (hq : QOk rb tb) : CallP Tryz.prog 98 #[.pointer (some ⟨rb, 0, none⟩), .int .i64 k, S s] w (fun v w' => isT k [s] Z = true ∧ RdAt w' rb tb d Z.tail ∧ Chg [rb] w w') (fun v w' => isT k [s] Z = false ∧ v = wrongV Z 101 ∧ Chg [rb] w w') := by
 refine callP_of_wp (args := [_, _, _]) Tryz.func98 rfl (Nat.le_of_ble_eq_true rfl) ?_
 have HC : Chg [rb] w w := .refl _
 have hrl := hR.lt hg
 refine sr rfl <| mP rfl <| mI rfl <| mS rfl <| Wp rfl <| st_lit (ps := [(0, .tmp 8)]) (vs := [S _]) T.lit23 (by decide) rfl q6 rfl ?_
 intro b1 w2 e3 c4 hb5
 have ge_b1 := gB e3 HC.size
 replace HC := HC.then c4
 replace hR := hR.tr0 c4
 clear e3
 refine Wp rfl <| st_call (ags := [_, _, _]) rfl rfl T.ent63 rfl (gtake_spec (l := [s]) k hg hR hq (sl_str [s] hb5) (by simp)) ?_
 rintro _ w6 ⟨rfl, hR2, c7⟩
 replace HC := HC.trans c7 q4
 refine Wp rfl <| st_not rfl <| en <| x_cond rfl (fun h0 => ?_) (fun h0 => ?_)
 ·try simp only [nm, ne_eq] at h0
  have hf : isT k [s] Z = false := by first | assumption | simp_all
  refine x_region rfl <| mP rfl <| w_plain rfl (st_callP (ags := [_, _]) rfl rfl T.ent17 rfl (gfail_spec 101 hg (show RdAt _ rb tb d Z by have h9 := hR2; rw [if_neg (by rw [hf]; simp)] at h9; exact h9)) ?_ ?_)
  ·rintro _ w8 ⟨rfl, c9⟩
   replace HC := HC.then c9
   refine pp_panic ?_
   exact ⟨hf, rfl, HC⟩
  exact fun _ _ h9 => h9.elim
 ·try simp only [nm, ne_eq] at h0
  have hf : isT k [s] Z = true := by first | assumption | simp_all
  refine x_skip <| pp_n <| ret_none_n rfl ?_
  exact ⟨hf, by have h9 := hR2; rw [if_pos hf] at h9; exact h9, HC⟩

theorem gany_spec {Z : List Tok} {rb tb : Nat} {d : Int} {w : World} (hg : GT Z) (hR : RdAt w rb tb d Z) (hq : QOk rb tb) : CallP Tryz.prog 114 #[.pointer (some ⟨rb, 0, none⟩)] w (fun v w' => (hd Z).kind = 1 ∧ v = .agg ⟨tokC5 (hd Z)⟩ ∧ RdAt w' rb tb d Z.tail ∧ Chg [rb] w w') (fun v w' => (hd Z).kind ≠ 1 ∧ v = wrongV Z 101 ∧ Chg [rb] w w') := by
 refine callP_of_wp (args := [_]) Tryz.func114 rfl (Nat.le_of_ble_eq_true rfl) ?_
 have HC : Chg [rb] w w := .refl _
 have hrl := hR.lt hg
 refine sr rfl <| Wp rfl <| st_alloc T.zero51 ?_
 intro b2 w1 e2 c3 hb4
 have ge_b2 := gB e2 HC.size
 replace HC := HC.then c3
 replace hR := hR.tr0 c3
 clear e2
 refine en <| x_seq <| sr rfl <| mP rfl <| Wp rfl <| st_call (ags := [_]) rfl rfl T.ent15 rfl (gtok_spec hg hR) ?_
 rintro _ w5 ⟨rfl, c6⟩
 replace HC := HC.then c6
 replace hR := hR.tr0 c6
 replace hb4 := hb4.tr0 c6
 refine Wp rfl <| st_field (v := .int _ _) T.fone51_0 rfl rfl <| Wp rfl <| st_neq rfl rfl <| en <| x_cond rfl (fun h0 => ?_) (fun h0 => ?_)
 ·try simp only [nm, ne_eq] at h0
  have hk1 : (hd Z).kind ≠ 1 := by first | assumption | simp_all
  refine x_region rfl <| mP rfl <| w_plain rfl (st_callP (ags := [_, _]) rfl rfl T.ent17 rfl (gfail_spec 101 hg hR) ?_ ?_)
  ·rintro _ w7 ⟨rfl, c8⟩
   replace HC := HC.then c8
   refine then_p <| pp_panic ?_
   exact ⟨hk1, rfl, HC⟩
  exact fun _ _ h9 => h9.elim
 ·try simp only [nm, ne_eq] at h0
  have hk1 : (hd Z).kind = 1 := by first | assumption | simp_all
  refine x_skip <| then_n <| sr rfl <| mP rfl <| Wp rfl <| st_call (ags := [_]) rfl rfl T.ent29 rfl (gnext_spec hg hR hq) ?_
  rintro _ w9 ⟨rfl, hR2, c10⟩
  replace HC := HC.trans c10 q4
  replace hb4 := hb4.tr1 c10 (by omega)
  refine Wp rfl <| st_st (v := .agg ⟨[_, _, _, _, _]⟩) T.size51 rfl rfl rfl hb4 ?_
  intro w11 c12 hb13; simp only [setVs, setV] at hb13
  clear hb4
  replace HC := HC.then1 c12 ge_b2
  replace hR2 := hR2.tr c12 q2
  refine en <| x_ret <| pp_ret <| ret_cellA (vs := [_, _, _, _, _]) rfl rfl T.agg51 (hb13.cells (n := 5) rfl) rfl ?_
  exact ⟨hk1, rfl, hR2, HC⟩

theorem glines_spec {Z : List Tok} {rb tb : Nat} {d : Int} {w : World} (hg : GT Z) (hR : RdAt w rb tb d Z) (hq : QOk rb tb) : CallR Tryz.prog 14 #[.pointer (some ⟨rb, 0, none⟩)] w fun v w' => RdAt w' rb tb d (linesG Z) ∧ Chg [rb] w w' := by
 refine callR_of_wp (args := [_]) Tryz.func14 rfl (Nat.le_of_ble_eq_true rfl) ?_
 have HC : Chg [rb] w w := .refl _
 have hrl := hR.lt hg
 refine x_block <| x_loop (ι := List Tok) [2, 3, 4, 5, 6, 7] (fun Y => []) (fun Y W => (GT Y ∧ linesG Z = linesG Y) ∧ (Chg [rb] w W) ∧ (RdAt W rb tb d Y)) (fun Y => Y.length) Z ?_ ?_ ?_
 · exact trivial
 ·refine ⟨?_, HC, hR⟩
  exact ⟨hg, rfl⟩
 intro Y G2 w1 ⟨⟨hgY, hle⟩, HC, hR⟩
 change wp _ _ _ _ _ (upds (over _ _ G2) []) _ _
 refine x_seq <| sr rfl <| mP rfl <| Wp rfl <| st_call (ags := [_]) rfl rfl T.ent15 rfl (gtok_spec (Z := Y) hgY hR) ?_
 rintro _ w3 ⟨rfl, c4⟩
 replace HC := HC.then c4
 replace hR := hR.tr0 c4
 refine Wp rfl <| st_field (v := .int _ _) T.fone51_0 rfl rfl <| Wp rfl <| st_eql rfl rfl <| en <| x_cond rfl (fun h0 => ?_) (fun h0 => ?_)
 ·try simp only [nm, ne_eq] at h0
  have hk3 : (hd Y).kind = 3 := by first | assumption | simp_all
  refine x_skip <| then_n <| x_block <| x_region rfl <| mP rfl <| Wp rfl <| st_call (ags := [_]) rfl rfl T.ent29 rfl (gnext_spec hgY hR hq) ?_
  rintro _ w5 ⟨rfl, hR2, c6⟩
  replace HC := HC.trans c6 q4
  refine wops_nil <| block_n <| then_n <| ⟨Y.tail, ?_, ?_, rfl, trivial, ?_⟩
  ·refine ⟨?_, HC, hR2⟩
   exact ⟨hgY.tail (by rw [hk3]; decide), by rw [hle]; exact lines_on hgY hk3⟩
  ·show Y.tail.length < Y.length; have := tail_len hgY; omega
  exact q9
 ·try simp only [nm, ne_eq] at h0
  have hk3 : (hd Y).kind ≠ 3 := by first | assumption | simp_all
  refine x_exit <| then_x <| then_x <| block_x <| ret_none_n rfl ?_
  rw [hle, lines_off hgY hk3]
  exact ⟨hR, HC⟩

theorem gstarts_spec {Z : List Tok} {rb tb : Nat} {d : Int} {w : World} (hg : GT Z) (hR : RdAt w rb tb d Z) (ht : Tab w) : CallR Tryz.prog 30 #[.pointer (some ⟨rb, 0, none⟩)] w fun v w' => v = .bool (startsB Z) ∧ Chg [] w w' := by
 refine callR_of_wp (args := [_]) Tryz.func30 rfl (Nat.le_of_ble_eq_true rfl) ?_
 have HC : Chg [] w w := .refl _
 have hrl := hR.lt hg
 have ht1 := ht.lt
 refine sr rfl <| aB rfl <| en <| sr rfl <| mP rfl <| Wp rfl <| st_call (ags := [_]) rfl rfl T.ent15 rfl (gtok_spec hg hR) ?_
 rintro _ w1 ⟨rfl, c2⟩
 replace HC := HC.then c2
 replace ht := ht.tr0 c2
 refine Wp rfl <| st_alloc T.zero51 ?_
 intro b3 w3 e4 c5 hb6
 have ge_b3 := gB e4 HC.size
 replace HC := HC.then c5
 replace ht := ht.tr0 c5
 clear e4
 refine Wp rfl <| st_st (v := .agg ⟨[_, _, _, _, _]⟩) T.size51 rfl rfl rfl hb6 ?_
 intro w7 c8 hb9; simp only [setVs, setV] at hb9
 clear hb6
 replace HC := HC.then1 c8 ge_b3
 replace ht := ht.tr c8 q1
 refine en <| x_seq <| sr rfl <| fa T.fld51_0 rfl <| lI T.one3 rfl (hb9.cell rfl) <| en <| x_block <| sr rfl <| Wp rfl <| st_eql rfl rfl <| aB rfl <| en <| x_cond rfl (fun h0 => ?_) (fun h0 => ?_)
 ·try simp only [nm, ne_eq] at h0
  refine sr rfl <| fa T.fld51_1 rfl <| lS T.one9 rfl (hb9.cell rfl) <| Wp rfl <| st_call (ags := [_]) rfl rfl T.ent40 rfl (Reserved_spec (hd Z).text _ ht) ?_
  rintro _ w10 ⟨rfl, c11⟩
  replace HC := HC.then c11
  replace ht := ht.tr0 c11
  replace hb9 := hb9.tr0 c11
  refine Wp rfl <| st_not rfl <| mB rfl <| w_split (d := 14) rfl (fun g12 => ?_) (fun g12 => ?_)
  ·try simp only [nm, ne_eq] at g12
   iterate 3 refine w_no 4 14 false ?_
   refine pT rfl rfl <| aB rfl <| en <| x_ret <| block_r <| then_r <| ret_tmp (v := .bool _) rfl rfl <| ⟨congrArg Value.bool ?_, HC⟩
   unfold startsB
   first | (simp_all; done) | (simp [*]; done)
  ·try simp only [nm, ne_eq] at g12
   refine w_yes 4 14 false <| st_fieldAddr T.fld51_1 rfl <| w_yes 4 14 false <| st_load1 (v := S _) T.one9 rfl (hb9.cell rfl) <| w_yes 4 14 false <| st_call (ags := [_]) rfl rfl T.ent41 rfl (begins_spec (hd Z).text _ ht) ?_
   rintro _ w13 ⟨rfl, c14⟩
   replace HC := HC.then c14
   refine pF rfl rfl <| aB rfl <| en <| x_ret <| block_r <| then_r <| ret_tmp (v := .bool _) rfl rfl <| ⟨congrArg Value.bool ?_, HC⟩
   unfold startsB
   first | (simp_all; done) | (simp [*]; done)
 ·try simp only [nm, ne_eq] at h0
  refine sr rfl <| Wp rfl <| st_eql rfl rfl <| aB rfl <| en <| x_cond rfl (fun h1 => ?_) (fun h1 => ?_)
  ·try simp only [nm, ne_eq] at h1
   refine sr rfl <| fa T.fld51_1 rfl <| lS T.one9 rfl (hb9.cell rfl) <| Wp rfl <| st_seql rfl rfl <| mB rfl <| w_split (d := 24) rfl (fun g15 => ?_) (fun g15 => ?_)
   ·try simp only [nm, ne_eq] at g15
    iterate 3 refine w_no 3 24 false ?_
    refine pT rfl rfl <| aB rfl <| en <| x_ret <| block_r <| then_r <| ret_tmp (v := .bool _) rfl rfl <| ⟨congrArg Value.bool ?_, HC⟩
    unfold startsB
    first | (simp_all; done) | (simp [*]; done)
   ·try simp only [nm, ne_eq] at g15
    refine w_yes 3 24 false <| st_fieldAddr T.fld51_1 rfl <| w_yes 3 24 false <| st_load1 (v := S _) T.one9 rfl (hb9.cell rfl) <| w_yes 3 24 false <| st_call (ags := [_]) rfl rfl T.ent42 rfl (redirection_spec (hd Z).text _ ht) ?_
    rintro _ w16 ⟨rfl, c17⟩
    replace HC := HC.then c17
    refine pF rfl rfl <| aB rfl <| en <| x_ret <| block_r <| then_r <| ret_tmp (v := .bool _) rfl rfl <| ⟨congrArg Value.bool ?_, HC⟩
    unfold startsB
    first | (simp_all; done) | (simp [*]; done)
  ·try simp only [nm, ne_eq] at h1
   refine x_skip <| block_n <| then_n <| sr rfl <| fa T.fld51_0 rfl <| lI T.one3 rfl (hb9.cell rfl) <| Wp rfl <| st_eql rfl rfl <| aB rfl <| en <| x_ret <| ret_tmp (v := .bool _) rfl rfl <| ⟨congrArg Value.bool ?_, HC⟩
   unfold startsB
   first | (simp_all; done) | (simp [*]; done)

theorem gopens_spec {Z : List Tok} {rb tb : Nat} {d : Int} {w : World} (hg : GT Z) (hR : RdAt w rb tb d Z) (ht : Tab w) : CallR Tryz.prog 77 #[.pointer (some ⟨rb, 0, none⟩)] w fun v w' => v = .bool (opensB Z) ∧ Chg [] w w' := by
 refine callR_of_wp (args := [_]) Tryz.func77 rfl (Nat.le_of_ble_eq_true rfl) ?_
 have HC : Chg [] w w := .refl _
 have hrl := hR.lt hg
 have ht1 := ht.lt
 refine sr rfl <| aB rfl <| en <| sr rfl <| mP rfl <| Wp rfl <| st_lit (ps := [(0, .const (S [40]))]) (vs := [S _]) T.lit23 (by decide) rfl q6 rfl ?_
 intro b1 w2 e3 c4 hb5
 have ge_b1 := gB e3 HC.size
 replace HC := HC.then c4
 replace hR := hR.tr0 c4
 replace ht := ht.tr0 c4
 clear e3
 refine Wp rfl <| st_call (ags := [_, _, _]) rfl rfl T.ent32 rfl (gis_spec (l := [[40]]) 2 hg hR (sl_str [[40]] hb5) (by simp)) ?_
 rintro _ w6 ⟨rfl, c7⟩
 replace HC := HC.then c7
 replace hR := hR.tr0 c7
 replace ht := ht.tr0 c7
 refine mB rfl <| w_split (d := 6) rfl (fun g8 => ?_) (fun g8 => ?_)
 ·try simp only [nm, ne_eq] at g8
  iterate 5 refine w_no 3 6 false ?_
  iterate 4 refine w_no 8 11 true ?_
  refine w_no 3 6 false <| w_no 3 6 false ?_
  iterate 4 refine w_no 14 17 true ?_
  refine w_no 3 6 false <| pT rfl rfl <| aB rfl <| en <| x_ret <| ret_tmp (v := .bool _) rfl rfl <| ⟨congrArg Value.bool ?_, HC⟩
  unfold opensB
  first | (simp_all; done) | (simp [*]; done)
 ·try simp only [nm, ne_eq] at g8
  refine w_yes 3 6 false <| st_move (v := .pointer _) rfl <| w_yes 3 6 false <| st_call (ags := [_]) rfl rfl T.ent15 rfl (gtok_spec hg hR) ?_
  rintro _ w9 ⟨rfl, c10⟩
  replace HC := HC.then c10
  replace hR := hR.tr0 c10
  replace ht := ht.tr0 c10
  refine w_yes 3 6 false <| st_field (v := .int _ _) T.fone51_0 rfl rfl <| w_yes 3 6 false <| st_eql rfl rfl <| w_yes 3 6 false <| st_move (v := .bool _) rfl <| w_split (d := 11) rfl (fun g11 => ?_) (fun g11 => ?_)
  ·try simp only [nm, ne_eq] at g11
   refine w_yes 8 11 true <| st_move (v := .pointer _) rfl <| w_yes 8 11 true <| st_call (ags := [_]) rfl rfl T.ent15 rfl (gtok_spec hg hR) ?_
   rintro _ w12 ⟨rfl, c13⟩
   replace HC := HC.then c13
   replace hR := hR.tr0 c13
   replace ht := ht.tr0 c13
   refine w_yes 8 11 true <| st_field (v := S _) T.fone51_1 rfl rfl <| w_yes 8 11 true <| st_call (ags := [_]) rfl rfl T.ent41 rfl (begins_spec (hd Z).text _ ht) ?_
   rintro _ w14 ⟨rfl, c15⟩
   replace HC := HC.then c15
   replace hR := hR.tr0 c15
   refine w_yes 3 6 false <| st_pick (b := true) (v := .bool _) rfl rfl <| w_yes 3 6 false <| st_move (v := .bool _) rfl <| w_split (d := 17) rfl (fun g16 => ?_) (fun g16 => ?_)
   ·try simp only [nm, ne_eq] at g16
    refine w_yes 14 17 true <| st_move (v := .pointer _) rfl <| w_yes 14 17 true <| st_call (ags := [_]) rfl rfl T.ent15 rfl (gtok_spec hg hR) ?_
    rintro _ w17 ⟨rfl, c18⟩
    replace HC := HC.then c18
    refine w_yes 14 17 true <| st_field (v := S _) T.fone51_1 rfl rfl <| w_yes 14 17 true <| st_sneq rfl rfl <| w_yes 3 6 false <| st_pick (b := true) (v := .bool _) rfl rfl <| pF rfl rfl <| aB rfl <| en <| x_ret <| ret_tmp (v := .bool _) rfl rfl <| ⟨congrArg Value.bool ?_, HC⟩
    unfold opensB
    first | (simp_all; done) | (simp [*]; done)
   ·try simp only [nm, ne_eq] at g16
    iterate 4 refine w_no 14 17 true ?_
    refine w_yes 3 6 false <| st_pick (b := false) (v := .bool _) rfl rfl <| pF rfl rfl <| aB rfl <| en <| x_ret <| ret_tmp (v := .bool _) rfl rfl <| ⟨congrArg Value.bool ?_, HC⟩
    unfold opensB
    first | (simp_all; done) | (simp [*]; done)
  ·try simp only [nm, ne_eq] at g11
   iterate 4 refine w_no 8 11 true ?_
   refine w_yes 3 6 false <| st_pick (b := false) (v := .bool _) rfl rfl <| w_yes 3 6 false <| st_move (v := .bool _) rfl ?_
   iterate 4 refine w_no 14 17 true ?_
   refine w_yes 3 6 false <| st_pick (b := false) (v := .bool _) rfl rfl <| pF rfl rfl <| aB rfl <| en <| x_ret <| ret_tmp (v := .bool _) rfl rfl <| ⟨congrArg Value.bool ?_, HC⟩
   unfold opensB
   first | (simp_all; done) | (simp [*]; done)

end Go.Proofs.YtghjmiggobpmoaaGreatDoor.K
