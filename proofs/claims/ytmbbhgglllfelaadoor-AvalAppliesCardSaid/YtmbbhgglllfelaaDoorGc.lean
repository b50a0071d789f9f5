/- Variables; the machine's small methods. -/
import Derived.Test.YtmbbhgglllfelaaDoorGb
import Derived.Test.YtmbbhgglllfelaaDoorKitQ
set_option linter.unusedVariables false
set_option linter.unusedSimpArgs false
set_option autoImplicit false
set_option maxRecDepth 20000
namespace Go.Proofs.YtmbbhgglllfelaaDoor.K
open Go Go.Proofs Go.RowKit

abbrev Vr := Bytes × Bytes
def prE : Enc Vr := .flat 2 (fun p => [S p.1, S p.2]) (by omega) (fun _ => rfl) (fun _ u hu => by simp at hu; rcases hu with rfl | rfl <;> rfl)
/-- Names that rise. -/
def Rise (vs : List Vr) : Prop := vs.Pairwise fun a b => Op.bytesLess a.1 b.1 = true
/-- Where a name stands, or would stand. -/
def plN : List Vr → Bytes → Nat
  | [], _ => 0
  | p :: vs, n => if Op.bytesLess p.1 n = true then plN vs n + 1 else 0
def isAt (vs : List Vr) (n : Bytes) : Bool := decide ((vs[plN vs n]?).map (·.1) = some n)
def getV (vs : List Vr) (n : Bytes) : Int × Int := if isAt vs n = true then valV (((vs[plN vs n]?).map (·.2)).getD []) else (0, 0)
theorem plN_le (vs : List Vr) (n : Bytes) : plN vs n ≤ vs.length := by
  induction vs with
  | nil => simp [plN]
  | cons p vs ih => simp only [plN, List.length_cons]; split <;> omega
theorem plN_at {vs : List Vr} {n : Bytes} : ∀ {i : Nat}, i ≤ vs.length → (∀ k p, k < i → vs[k]? = some p → Op.bytesLess p.1 n = true) → (∀ p, vs[i]? = some p → Op.bytesLess p.1 n = false) → plN vs n = i := by
  induction vs with
  | nil => intro i hi _ _; simp at hi; simp [plN, hi]
  | cons p vs ih =>
    intro i hi h1 h2
    cases i with
    | zero => simp only [plN]; rw [if_neg (by rw [h2 p rfl]; simp)]
    | succ i =>
      simp only [plN]; rw [if_pos (h1 0 p (by omega) rfl)]
      rw [ih (i := i) (by simpa using hi) (fun k q hk hq => h1 (k + 1) q (by omega) (by simpa using hq)) (fun q hq => h2 q (by simpa using hq))]
theorem rise_lt {vs : List Vr} (h : Rise vs) {i j : Nat} {a b : Vr} (hij : i < j) (ha : vs[i]? = some a) (hb : vs[j]? = some b) : Op.bytesLess a.1 b.1 = true := by
  obtain ⟨hi, rfl⟩ := List.getElem?_eq_some_iff.1 ha
  obtain ⟨hj, rfl⟩ := List.getElem?_eq_some_iff.1 hb
  exact List.pairwise_iff_getElem.1 h i j hi hj hij
theorem rise_below {vs : List Vr} {n : Bytes} (h : Rise vs) {j : Nat} {b : Vr} (hb : vs[j]? = some b) (hl : Op.bytesLess b.1 n = true) : ∀ k p, k < j + 1 → vs[k]? = some p → Op.bytesLess p.1 n = true := fun k p hk hp => by
  by_cases e : k = j
  · subst e; obtain rfl := Option.some.inj (hb.symm.trans hp); exact hl
  · exact less_trans _ _ _ (rise_lt h (by omega) hp hb) hl
theorem rise_above {vs : List Vr} {n : Bytes} (h : Rise vs) {j : Nat} {b : Vr} (hb : vs[j]? = some b) (hl : Op.bytesLess b.1 n = false) : ∀ k p, j ≤ k → vs[k]? = some p → Op.bytesLess p.1 n = false := fun k p hk hp => by
  by_cases e : k = j
  · subst e; obtain rfl := Option.some.inj (hb.symm.trans hp); exact hl
  · cases h2 : Op.bytesLess p.1 n with
    | false => rfl
    | true => rw [less_trans _ _ _ (rise_lt h (by omega) hb hp) h2] at hl; cases hl
theorem half64 {i j : Nat} (h : i + j ≤ 9223372036854775807) : IntKind.i64.wrap (shrV .u64 ((i : Int) + (j : Int)) 1) = (((i + j) / 2 : Nat) : Int) := by
  have h1 : shrV .u64 ((i : Int) + (j : Int)) 1 = (((i + j) / 2 : Nat) : Int) := by
    unfold shrV
    rw [show min (1 : Int).toNat IntKind.u64.bits = 1 from rfl, Int.fdiv_eq_ediv_of_nonneg _ (by decide)]; omega
  rw [h1, wrap64_id (by omega) (by omega)]
theorem cmp_less {a b : Bytes} : Lib.compareBytes a b < 0 ↔ Op.bytesLess a b = true := (cmp_lt a b).1
theorem cmp_zero {a b : Bytes} : Lib.compareBytes a b = 0 ↔ a = b := (cmp_lt a b).2

theorem wrap_s1 {i : Nat} (h : i ≤ 9223372036854775000) : IntKind.i64.wrap ((i : Int) + 1) = ((i + 1 : Nat) : Int) := by rw [wrap64_id (by omega) (by omega)]; omega

theorem place1_spec (p : Vr) (n : Bytes) (w : World) : CallR Tryd.prog 70 #[.agg ⟨[S p.1, S p.2]⟩, S n] w fun v w' => v = .int .i64 (Lib.compareBytes p.1 n) ∧ Chg [] w w' := by
 refine callR_of_wp (args := [_, _]) Tryd.func70 rfl (Nat.le_of_ble_eq_true rfl) ?_
 have HC : Chg [] w w := .refl _
 refine sr rfl <| Wp rfl <| st_box (v := .agg ⟨[S _, S _]⟩) (vs := [_, _]) rfl rfl ?_
 intro b1 w2 e3 c4 hb5
 have ge_b1 : w.heap.size ≤ b1 := by rw [e3]; exact HC.size
 replace HC := HC.then c4
 clear e3
 refine aI rfl <| en <| sr rfl <| fa T.fld46_0 rfl <| lS T.one9 rfl (hb5.cell rfl) <| mS rfl <| Wp rfl <| st_call (ags := [_, _]) rfl rfl T.ent71 rfl (Compare_spec _ _ _) ?_
 rintro _ w6 ⟨rfl, c7⟩
 replace HC := HC.then c7
 replace hb5 := hb5.tr0 c7
 refine aI rfl <| en <| x_ret <| ret_tmp (v := .int _ _) rfl rfl ?_
 exact ⟨rfl, HC⟩

theorem search_spec {vs : List Vr} {Av : Option Addr} {cv : Nat} {Dv : Nat → Prop} {w : World} (n : Bytes) (hv : Sl prE w Dv Av vs) (hr : Rise vs) (hl : vs.length ≤ 1000000000) : CallR Tryd.prog 69 #[.slice Av vs.length cv, S n, .func (.func 70) #[] #[]] w fun v w' => v = .tuple ⟨[.int .i64 (plN vs n : Int), .bool (isAt vs n)]⟩ ∧ Chg [] w w' := by
 refine callR_of_wp (args := [_, _, _]) Tryd.func69 rfl (Nat.le_of_ble_eq_true rfl) ?_
 have HC : Chg [] w w := .refl _
 refine sr rfl <| aI rfl <| aB rfl <| en <| sr rfl <| mL rfl <| Wp rfl <| st_len (ct := #[41]) (by rw [show ((#[41] : Array TypeId)[0]?).bind Tryd.prog.underlying = some (.slice 46) from T.u41]; rfl) rfl <| aI rfl <| en <| sr rfl <| mI rfl <| aI rfl <| aI rfl <| en <| x_seq <| x_block <| x_loop (ι := Nat × Nat) [9, 10, 11, 15, 16, 17, 18, 19, 20, 21, 22, 23, 24, 25, 26, 27, 28, 29, 30, 31, 32, 33, 34] (fun ⟨i, j⟩ => [(9, .int .i64 (i : Int)), (10, .int .i64 (j : Int))]) (fun ⟨i, j⟩ W => (i ≤ j ∧ j ≤ vs.length ∧ (∀ k p, k < i → vs[k]? = some p → Op.bytesLess p.1 n = true) ∧ (∀ k p, j ≤ k → vs[k]? = some p → Op.bytesLess p.1 n = false)) ∧ (Chg [] w W) ∧ (Sl prE W Dv Av vs)) (fun ⟨i, j⟩ => j - i) (0, vs.length) ?_ ?_ ?_
 · exact ⟨rfl, rfl, trivial⟩
 ·refine ⟨?_, HC, hv⟩
  exact ⟨Nat.zero_le _, Nat.le_refl _, fun k p hk => absurd hk (Nat.not_lt_zero _), fun k p hk hp => by have := (List.getElem?_eq_some_iff.1 hp).1; omega⟩
 intro ⟨i, j⟩ G2 w1 ⟨⟨hij, hjn, hlo, hhi⟩, HC, hv⟩
 change wp _ _ _ _ _ (upds (over _ _ G2) [(9, .int .i64 (i : Int)), (10, .int .i64 (j : Int))]) _ _
 refine x_seq <| sr rfl <| mI rfl <| mI rfl <| Wp rfl <| st_lss rfl rfl <| en <| x_cond rfl (fun h0 => ?_) (fun h0 => ?_)
 ·try simp only [nm, ne_eq] at h0
  refine x_skip <| then_n <| x_block <| sr rfl <| mI rfl <| mI rfl <| Wp rfl <| st_addn rfl rfl (by constructor <;> omega) <| Wp rfl <| st_convk T.u3 T.u112 rfl (by exact wrapu64_id (by omega) (by omega)) <| Wp rfl <| st_shr rfl rfl (by decide) <| Wp rfl <| st_convk T.u112 T.u3 rfl (by exact half64 (by omega)) <| aI rfl <| en <| sr rfl <| mv (v := .func _ _ _) rfl <| mL rfl <| mI rfl ?_
  obtain ⟨x3, hx4⟩ : ∃ zz, vs[((i + j) / 2)]? = some zz := ⟨_, List.getElem?_eq_getElem (by omega)⟩
  obtain ⟨lb9, _, vs8, hA5, hR7, hC6⟩ := hv.at hx4
  obtain rfl : vs8 = [S x3.1, S x3.2] := hR7
  refine Wp rfl <| st_indexAddr T.u41 T.size46 (congrArg (fun z => Value.slice z _ _) hA5) rfl (by omega) (by omega) <| Wp rfl <| st_loadA (vs := [_, _]) T.agg46 rfl hC6 rfl <| mS rfl <| Wp rfl <| st_call (ags := [_, _]) rfl rfl T.ent70 rfl (place1_spec _ _ _) ?_
  rintro _ w10 ⟨rfl, c11⟩
  replace HC := HC.then c11
  replace hv := hv.tr0 c11
  refine Wp rfl <| st_lss rfl rfl <| en <| x_cond rfl (fun h1 => ?_) (fun h1 => ?_)
  ·try simp only [nm, ne_eq] at h1
   refine x_region rfl <| mI rfl <| Wp rfl <| st_addk rfl rfl (by exact wrap_s1 (by omega)) <| aI rfl <| wops_nil <| block_n <| then_n <| ⟨((i + j) / 2 + 1, j), ?_, ?_, rfl, ⟨rfl, rfl, trivial⟩, ?_⟩
   ·refine ⟨?_, HC, hv⟩
    exact ⟨by omega, hjn, rise_below hr hx4 (cmp_less.1 h1), hhi⟩
   ·show j - ((i + j) / 2 + 1) < j - i; omega
   repeat (first | exact agree_upds agree_over rfl | refine agree_upd ?_ rfl | refine agree_upds ?_ rfl | refine agree_over_sub ?_ rfl)
  ·try simp only [nm, ne_eq] at h1
   refine x_region rfl <| mI rfl <| aI rfl <| wops_nil <| block_n <| then_n <| ⟨(i, (i + j) / 2), ?_, ?_, rfl, ⟨rfl, rfl, trivial⟩, ?_⟩
   ·refine ⟨?_, HC, hv⟩
    exact ⟨by omega, by omega, hlo, rise_above hr hx4 (by cases hb : Op.bytesLess x3.1 n with | false => rfl | true => exact absurd (cmp_less.2 hb) h1)⟩
   ·show (i + j) / 2 - i < j - i; omega
   repeat (first | exact agree_upds agree_over rfl | refine agree_upd ?_ rfl | refine agree_upds ?_ rfl | refine agree_over_sub ?_ rfl)
 ·try simp only [nm, ne_eq] at h0
  obtain rfl : i = j := by omega
  have hpl : plN vs n = i := plN_at hjn hlo (fun p hp => hhi i p (Nat.le_refl _) hp)
  refine x_exit <| then_x <| then_x <| block_x <| then_n <| sr rfl <| mI rfl <| mI rfl <| mI rfl <| Wp rfl <| st_lss rfl rfl <| mB rfl <| w_split (d := 39) rfl (fun g12 => ?_) (fun g12 => ?_)
  ·try simp only [nm, ne_eq] at g12
   refine w_yes 4 39 true <| st_move (v := .func _ _ _) rfl <| w_yes 4 39 true <| st_move (v := .slice _ _ _) rfl <| w_yes 4 39 true <| st_move (v := .int _ _) rfl ?_
   obtain ⟨x13, hx14⟩ : ∃ zz, vs[i]? = some zz := ⟨_, List.getElem?_eq_getElem (by omega)⟩
   obtain ⟨lb19, _, vs18, hA15, hR17, hC16⟩ := hv.at hx14
   obtain rfl : vs18 = [S x13.1, S x13.2] := hR17
   refine w_yes 4 39 true <| st_indexAddr T.u41 T.size46 (congrArg (fun z => Value.slice z _ _) hA15) rfl (by omega) (by omega) <| w_yes 4 39 true <| st_loadA (vs := [_, _]) T.agg46 rfl hC16 rfl <| w_yes 4 39 true <| st_move (v := S _) rfl <| w_yes 4 39 true <| st_call (ags := [_, _]) rfl rfl T.ent70 rfl (place1_spec _ _ _) ?_
   rintro _ w20 ⟨rfl, c21⟩
   replace HC := HC.then c21
   replace hv := hv.tr0 c21
   refine w_yes 4 39 true <| st_eql rfl rfl <| pT rfl rfl <| aI rfl <| aB rfl <| en <| x_ret <| ret_tmp2 (v := .int _ _) (v2 := .bool _) rfl rfl rfl <| ⟨?_, HC⟩
   unfold isAt; rw [hpl]
   rw [hx14]; simp only [Option.map_some, Option.some.injEq, cmp_zero]
  ·try simp only [nm, ne_eq] at g12
   iterate 8 refine w_no 4 39 true ?_
   refine pF rfl rfl <| aI rfl <| aB rfl <| en <| x_ret <| ret_tmp2 (v := .int _ _) (v2 := .bool _) rfl rfl rfl <| ⟨?_, HC⟩
   unfold isAt; rw [hpl]
   rw [List.getElem?_eq_none (by omega)]; rfl

theorem place_spec {vs : List Vr} {Av : Option Addr} {cv : Nat} {Dv : Nat → Prop} {w : World} (n : Bytes) (hv : Sl prE w Dv Av vs) (hr : Rise vs) (hl : vs.length ≤ 1000000000) : CallR Tryd.prog 57 #[.slice Av vs.length cv, S n] w fun v w' => v = .tuple ⟨[.int .i64 (plN vs n : Int), .bool (isAt vs n)]⟩ ∧ Chg [] w w' := by
 refine callR_of_wp (args := [_, _]) Tryd.func57 rfl (Nat.le_of_ble_eq_true rfl) ?_
 have HC : Chg [] w w := .refl _
 refine sr rfl <| aI rfl <| aB rfl <| en <| sr rfl <| mL rfl <| mS rfl <| Wp rfl <| st_call (ags := [_, _, _]) rfl rfl T.ent69 rfl (search_spec n hv hr hl) ?_
 rintro _ w1 ⟨rfl, c2⟩
 replace HC := HC.then c2
 replace hv := hv.tr0 c2
 refine Wp rfl <| st_extract (vs := [_, _]) (v := .int _ _) rfl rfl <| Wp rfl <| st_extract (vs := [_, _]) (v := .bool _) rfl rfl <| aI rfl <| aB rfl <| en <| x_ret <| ret_tmp2 (v := .int _ _) (v2 := .bool _) rfl rfl rfl ?_
 exact ⟨rfl, HC⟩

theorem get_spec {vs : List Vr} {Al Av : Option Addr} {ll capl cv b : Nat} {w : World} (n : Bytes) (hb : Blk w b [.slice Al ll capl, .slice Av vs.length cv, .int .i64 0] 57) (hv : Sl prE w (fun k => k ≠ b) Av vs) (hr : Rise vs) (hl : vs.length ≤ 1000000000) (hsz : ∀ p, p ∈ vs → p.2.length ≤ 9223372036854775807) : CallR Tryd.prog 47 #[.pointer (some ⟨b, 0, none⟩), S n] w fun v w' => v = .int .i64 (getV vs n).1 ∧ Blk w' b [.slice Al ll capl, .slice Av vs.length cv, .int .i64 (getV vs n).2] 57 ∧ Chg [b] w w' := by
 refine callR_of_wp (args := [_, _]) Tryd.func47 rfl (Nat.le_of_ble_eq_true rfl) ?_
 have HC : Chg [b] w w := .refl _
 refine sr rfl <| aI rfl <| en <| sr rfl <| mP rfl <| nc rfl <| fa T.fld57_1 rfl <| lL T.one41 rfl (hb.cell rfl) <| mS rfl <| Wp rfl <| st_call (ags := [_, _]) rfl rfl T.ent57 rfl (place_spec n hv hr hl) ?_
 rintro _ w1 ⟨rfl, c2⟩
 replace HC := HC.then c2
 replace hb := hb.tr0 c2
 replace hv := hv.tr0 c2
 refine mv (v := .tuple ⟨[_, _]⟩) rfl <| Wp rfl <| st_extract (vs := [_, _]) (v := .int _ _) rfl rfl <| Wp rfl <| st_extract (vs := [_, _]) (v := .bool _) rfl rfl <| aI rfl <| aB rfl <| en <| x_seq <| sr rfl <| mB rfl <| Wp rfl <| st_not rfl <| en <| x_cond rfl (fun h0 => ?_) (fun h0 => ?_)
 ·try simp only [nm, ne_eq] at h0
  have hgv : getV vs n = (0, 0) := by unfold getV; rw [if_neg (by simpa using h0)]
  refine sr rfl <| aI rfl <| en <| x_ret <| then_r <| ret_tmp (v := .int _ _) rfl rfl ?_
  rw [hgv]
  exact ⟨rfl, hb, HC⟩
 ·try simp only [nm, ne_eq] at h0
  have hat : isAt vs n = true := by simpa using h0
  obtain ⟨pv, hpv⟩ : ∃ p, vs[plN vs n]? = some p := by unfold isAt at hat; rw [decide_eq_true_eq] at hat; cases h5 : vs[plN vs n]? with | none => rw [h5] at hat; cases hat | some p => exact ⟨p, rfl⟩
  have hgv : getV vs n = valV pv.2 := by unfold getV; rw [if_pos hat, hpv]; rfl
  have hlt := (List.getElem?_eq_some_iff.1 hpv).1
  refine x_skip <| then_n <| sr rfl <| mP rfl <| nc rfl <| fa T.fld57_1 rfl <| lL T.one41 rfl (hb.cell rfl) <| mI rfl ?_
  obtain ⟨lb7, _, vs6, hA3, hR5, hC4⟩ := hv.at (i := (plN vs n)) (x := pv) (hpv)
  obtain rfl : vs6 = [S pv.1, S pv.2] := hR5
  refine Wp rfl <| st_indexAddr T.u41 T.size46 (congrArg (fun z => Value.slice z _ _) hA3) rfl (by omega) (by omega) <| fa T.fld46_1 rfl <| lS T.one9 rfl (hC4.at (j := 1) rfl) <| Wp rfl <| st_call (ags := [_]) rfl rfl T.ent7 rfl (Value_spec _ _ (hsz pv (List.mem_of_getElem? hpv))) ?_
  rintro _ w8 ⟨rfl, c9⟩
  replace HC := HC.then c9
  replace hb := hb.tr0 c9
  replace hv := hv.tr0 c9
  refine mv (v := .tuple ⟨[_, _]⟩) rfl <| Wp rfl <| st_extract (vs := [_, _]) (v := .int _ _) rfl rfl <| Wp rfl <| st_extract (vs := [_, _]) (v := .int _ _) rfl rfl <| aI rfl <| aI rfl <| en <| sr rfl <| mP rfl <| mI rfl <| nc rfl <| fa T.fld57_2 rfl <| Wp rfl <| st_store (v := .int _ _) T.size22 rfl rfl rfl hb rfl (Nat.le_of_ble_eq_true rfl) (by simp [Value.oneCell', S]) rfl ?_
  intro w10 c11 hb12; simp only [setVs, setV] at hb12
  clear hb
  replace HC := HC.trans c11 (by intro x hx; simp only [List.mem_singleton] at hx; subst hx; exact .inl (by simp))
  replace hv := hv.tr c11 (by intro k hx hD; obtain rfl := List.mem_singleton.1 hx; first | exact hD rfl | exact hD.1 rfl | (have hD2 := hD.2; omega))
  refine en <| sr rfl <| mI rfl <| aI rfl <| en <| x_ret <| ret_tmp (v := .int _ _) rfl rfl ?_
  rw [hgv]
  exact ⟨rfl, hb12, HC⟩

theorem mapply_spec {vl : Nat} {Al Av : Option Addr} {ll capl cv b : Nat} {e : Int} {w : World} (op : Bytes) (x y : Int) (hb : Blk w b [.slice Al ll capl, .slice Av vl cv, .int .i64 e] 57) : CallR Tryd.prog 50 #[.pointer (some ⟨b, 0, none⟩), S op, .int .i64 x, .int .i64 y] w fun v w' => v = .int .i64 (if e = 0 then (applyV op x y).1 else 0) ∧ Blk w' b [.slice Al ll capl, .slice Av vl cv, .int .i64 (if e = 0 then (applyV op x y).2 else e)] 57 ∧ Chg [b] w w' := by
 refine callR_of_wp (args := [_, _, _, _]) Tryd.func50 rfl (Nat.le_of_ble_eq_true rfl) ?_
 have HC : Chg [b] w w := .refl _
 refine sr rfl <| aI rfl <| en <| x_seq <| sr rfl <| mP rfl <| nc rfl <| fa T.fld57_2 rfl <| lI T.one22 rfl (hb.cell rfl) <| Wp rfl <| st_neq rfl rfl <| en <| x_cond rfl (fun h0 => ?_) (fun h0 => ?_)
 ·try simp only [nm, ne_eq] at h0
  refine sr rfl <| aI rfl <| en <| x_ret <| then_r <| ret_tmp (v := .int _ _) rfl rfl ?_
  rw [if_neg h0, if_neg h0]
  exact ⟨rfl, hb, HC⟩
 ·try simp only [nm, ne_eq] at h0
  have h9 : e = 0 := by omega
  refine x_skip <| then_n <| sr rfl <| mS rfl <| mI rfl <| mI rfl <| Wp rfl <| st_call (ags := [_, _, _]) rfl rfl T.ent5 rfl (Apply_spec _ _ _ _) ?_
  rintro _ w1 ⟨rfl, c2⟩
  replace HC := HC.then c2
  replace hb := hb.tr0 c2
  refine mv (v := .tuple ⟨[_, _]⟩) rfl <| Wp rfl <| st_extract (vs := [_, _]) (v := .int _ _) rfl rfl <| Wp rfl <| st_extract (vs := [_, _]) (v := .int _ _) rfl rfl <| aI rfl <| aI rfl <| en <| sr rfl <| mP rfl <| mI rfl <| nc rfl <| fa T.fld57_2 rfl <| Wp rfl <| st_store (v := .int _ _) T.size22 rfl rfl rfl hb rfl (Nat.le_of_ble_eq_true rfl) (by simp [Value.oneCell', S]) rfl ?_
  intro w3 c4 hb5; simp only [setVs, setV] at hb5
  clear hb
  replace HC := HC.trans c4 (by intro x hx; simp only [List.mem_singleton] at hx; subst hx; exact .inl (by simp))
  refine en <| sr rfl <| mI rfl <| aI rfl <| en <| x_ret <| ret_tmp (v := .int _ _) rfl rfl ?_
  rw [if_pos h9, if_pos h9]
  exact ⟨rfl, hb5, HC⟩

end Go.Proofs.YtmbbhgglllfelaaDoor.K
