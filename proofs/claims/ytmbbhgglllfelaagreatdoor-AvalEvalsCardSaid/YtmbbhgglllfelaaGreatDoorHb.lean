import Derived.Test.YtmbbhgglllfelaaGreatDoorGe
import Derived.Test.YtmbbhgglllfelaaGreatDoorKitQ
set_option linter.unusedVariables false
set_option linter.unusedSimpArgs false
set_option autoImplicit false
set_option maxRecDepth 20000
namespace Go.Proofs.YtmbbhgglllfelaaGreatDoor.K
open Go Go.Proofs Go.RowKit

theorem decT_big {n : Nat} (h : 10 ≤ n) : decT n = decT (n / 10) ++ [digC (n % 10)] := by rw [decT, dif_neg (by omega)]
theorem decT_small {n : Nat} (h : n < 10) : decT n = [digC n] := by rw [decT, dif_pos h]
theorem rem64 {m : Nat} : ((m : Int)).tmod 10 = ((m % 10 : Nat) : Int) := by rw [Int.tmod_eq_emod_of_nonneg (by omega)]; omega
theorem quo64 {m : Nat} (h : m ≤ 18446744073709551615) : IntKind.u64.wrap ((m : Int).tdiv 10) = ((m / 10 : Nat) : Int) := by rw [quou64 (by omega) (by omega) (by omega)]; omega
theorem dig64 {d : Nat} (h : d < 10) : IntKind.u64.wrap (48 + (d : Int)) = ((48 + d : Nat) : Int) := by rw [wrapu64_id (by omega) (by omega)]; omega
theorem dig8 {d : Nat} (h : d < 10) : IntKind.u8.wrap ((48 + d : Nat) : Int) = ((digC d).toNat : Int) := by rw [wrapu8_id (by omega) (by omega), digC_to h]
theorem decT_lenU {n : Nat} (h : n ≤ 18446744073709551615) : (decT n).length ≤ 20 := decT_len 19 n (by have : (10 : Nat) ^ (19 + 1) = 100000000000000000000 := rfl; omega)

theorem digits_spec (n : Nat) (hn : n ≤ 18446744073709551615) (w : World) : CallR Tryz.prog 76 #[.int .u64 (n : Int)] w fun v w' => v = S (decT n) ∧ Chg [] w w' := by
 refine callR_of_wp (args := [_]) Tryz.func76 rfl (Nat.le_of_ble_eq_true rfl) ?_
 have HC : Chg [] w w := .refl _
 refine sr rfl <| aS rfl <| en <| sr rfl <| aS rfl <| en <| x_seq <| x_block <| x_loop (ι := Nat × Bytes) [0, 3, 4, 5, 6, 7, 8, 9, 10, 11, 12, 13, 14, 15] (fun ⟨m, z⟩ => [(0, .int .u64 (m : Int)), (3, S z)]) (fun ⟨m, z⟩ W => (m ≤ n ∧ decT n = decT m ++ z ∧ (z = [] ∨ 1 ≤ m)) ∧ (Chg [] w W)) (fun ⟨m, z⟩ => m) (n, []) ?_ ?_ ?_
 · exact ⟨rfl, rfl, trivial⟩
 ·refine ⟨?_, HC⟩
  exact ⟨Nat.le_refl _, (List.append_nil _).symm, .inl rfl⟩
 intro ⟨m, z⟩ G2 w1 ⟨⟨hm, hz, hzm⟩, HC⟩
 change wp _ _ _ _ _ (upds (over _ _ G2) [(0, .int .u64 (m : Int)), (3, S z)]) _ _
 have hml : m ≤ 18446744073709551615 := by omega
 have hzl := congrArg List.length hz
 rw [List.length_append] at hzl
 have hzn := decT_lenU hn
 refine x_seq <| sr rfl <| mI rfl <| Wp rfl <| st_geq rfl rfl <| en <| x_cond rfl (fun h0 => ?_) (fun h0 => ?_)
 ·try simp only [nm, ne_eq] at h0
  refine x_skip <| then_n <| x_block <| sr rfl <| mI rfl <| Wp rfl <| st_remk rfl rfl (by decide) (by exact rem64) <| Wp rfl <| st_addk rfl rfl (by exact dig64 (by omega)) <| Wp rfl <| st_convk T.u87 T.u5 rfl (by exact dig8 (by omega)) <| Wp rfl <| st_lit (ps := [(0, .tmp 9)]) (vs := [.int _ _]) T.lit88 (by decide) rfl (by simp only [List.forall_mem_cons, List.not_mem_nil, false_imp_iff, implies_true, and_true]; exact rfl) rfl ?_
  intro b3 w4 e5 c6 hb7
  have ge_b3 : w.heap.size ≤ b3 := by rw [e5]; exact HC.size
  replace HC := HC.then c6
  clear e5
  refine Wp rfl <| st_bytesStr T.u88 T.u5 T.u9 rfl (Sl.of_one (c := uE) (x := digC (m % 10)) (D := fun _ => True) hb7 rfl trivial) <| mS rfl <| Wp rfl <| st_sadd rfl rfl (by (have := decT_lenU hn; simp only [List.length_cons, List.length_nil] at *; omega)) <| aS rfl <| en <| x_region rfl <| mI rfl <| Wp rfl <| st_quok rfl rfl (by decide) (by exact quo64 hml) <| aI rfl <| wops_nil <| block_n <| then_n <| ⟨(m / 10, digC (m % 10) :: z), ?_, ?_, rfl, ⟨rfl, rfl, trivial⟩, ?_⟩
  ·refine ⟨?_, HC⟩
   exact ⟨by omega, by rw [hz, decT_big (by omega)]; simp, .inr (by omega)⟩
  ·show m / 10 < m; omega
  repeat (first | exact agree_upds agree_over rfl | refine agree_upd ?_ rfl | refine agree_upds ?_ rfl | refine agree_over_sub ?_ rfl)
 ·try simp only [nm, ne_eq] at h0
  refine x_exit <| then_x <| then_x <| block_x <| then_n <| x_seq ?_
  have hm10 : m < 10 := by omega
  refine x_region rfl <| mI rfl <| Wp rfl <| st_addk rfl rfl (by exact dig64 (by omega)) <| Wp rfl <| st_convk T.u87 T.u5 rfl (by exact dig8 (by omega)) <| Wp rfl <| st_lit (ps := [(0, .tmp 18)]) (vs := [.int _ _]) T.lit88 (by decide) rfl (by simp only [List.forall_mem_cons, List.not_mem_nil, false_imp_iff, implies_true, and_true]; exact rfl) rfl ?_
  intro b8 w9 e10 c11 hb12
  have ge_b8 : w.heap.size ≤ b8 := by rw [e10]; exact HC.size
  replace HC := HC.then c11
  clear e10
  refine Wp rfl <| st_bytesStr T.u88 T.u5 T.u9 rfl (Sl.of_one (c := uE) (x := digC m) (D := fun _ => True) hb12 rfl trivial) <| mS rfl <| Wp rfl <| st_sadd rfl rfl (by (have h9 := congrArg List.length hz; rw [List.length_append] at h9; have := decT_lenU hn; simp only [List.length_cons, List.length_nil] at *; omega)) <| aS rfl <| en <| x_ret <| ret_tmp (v := S _) rfl rfl ?_
  rw [hz, decT_small hm10]
  exact ⟨rfl, HC⟩

theorem RText_spec (n : Int) (h0 : -9223372036854775808 ≤ n) (h1 : n ≤ 9223372036854775807) (w : World) : CallR Tryz.prog 53 #[.int .i64 n] w fun v w' => v = S (textV n) ∧ Chg [] w w' := by
 refine callR_of_wp (args := [_]) Tryz.func53 rfl (Nat.le_of_ble_eq_true rfl) ?_
 have HC : Chg [] w w := .refl _
 refine sr rfl <| aS rfl <| en <| x_seq <| sr rfl <| mI rfl <| Wp rfl <| st_lss rfl rfl <| en <| x_cond rfl (fun h0 => ?_) (fun h0 => ?_)
 ·try simp only [nm, ne_eq] at h0
  have hneg : IntKind.u64.wrap (0 - IntKind.u64.wrap n) = (((-n).toNat : Nat) : Int) := by simp only [IntKind.wrap, IntKind.signed, IntKind.bits]; simp; omega
  refine sr rfl <| mI rfl <| Wp rfl <| st_convInt T.u2 T.u87 rfl <| Wp rfl <| st_neg rfl <| Wp rfl <| st_call (ags := [_]) rfl rfl T.ent76 rfl ((hneg ▸ digits_spec (-n).toNat (by omega) _)) ?_
  rintro _ w1 ⟨rfl, c2⟩
  replace HC := HC.then c2
  refine Wp rfl <| st_sadd rfl rfl (by (have := decT_lenU (n := (-n).toNat) (by omega); simp only [List.length_cons, List.length_nil]; omega)) <| aS rfl <| en <| x_ret <| then_r <| ret_tmp (v := S _) rfl rfl ?_
  unfold textV
  first | rw [if_pos h0] | rw [if_neg h0]
  exact ⟨rfl, HC⟩
 ·try simp only [nm, ne_eq] at h0
  have hpos : IntKind.u64.wrap n = ((n.toNat : Nat) : Int) := by rw [wrapu64_id (by omega) (by omega)]; omega
  refine x_skip <| then_n <| sr rfl <| mI rfl <| Wp rfl <| st_convInt T.u2 T.u87 rfl <| Wp rfl <| st_call (ags := [_]) rfl rfl T.ent76 rfl ((hpos ▸ digits_spec n.toNat (by omega) _)) ?_
  rintro _ w3 ⟨rfl, c4⟩
  replace HC := HC.then c4
  refine aS rfl <| en <| x_ret <| ret_tmp (v := S _) rfl rfl ?_
  unfold textV
  first | rw [if_pos h0] | rw [if_neg h0]
  exact ⟨rfl, HC⟩

/-- A variable's text, looked for from the beginning. -/
def getR : List Vr → Bytes → Bytes
  | [], _ => []
  | p :: vs, n => if p.1 = n then p.2 else getR vs n
theorem getR_step {vs : List Vr} {i : Nat} {x : Vr} {n : Bytes} (h : vs[i]? = some x) : getR (vs.drop i) n = if x.1 = n then x.2 else getR (vs.drop (i + 1)) n := by
  obtain ⟨hi, rfl⟩ := List.getElem?_eq_some_iff.1 h
  rw [List.drop_eq_getElem_cons hi, getR]
theorem getR_none {vs : List Vr} {n : Bytes} (h : ∀ p, p ∈ vs → p.1 ≠ n) : getR vs n = [] := by
  induction vs with
  | nil => rfl
  | cons a vs ih => rw [getR, if_neg (h a (List.mem_cons_self ..)), ih fun p hp => h p (List.mem_cons_of_mem _ hp)]
theorem getR_len {vs : List Vr} {n : Bytes} (h : ∀ p, p ∈ vs → p.2.length ≤ 9223372036854775807) : (getR vs n).length ≤ 9223372036854775807 := by
  induction vs with
  | nil => simp [getR]
  | cons a vs ih =>
    rw [getR]
    split
    · exact h a (List.mem_cons_self ..)
    · exact ih fun p hp => h p (List.mem_cons_of_mem _ hp)
theorem less_ne {a b : Bytes} (h : Op.bytesLess a b = true) : a ≠ b := fun e => by rw [e, less_irrefl] at h; cases h
theorem getV_R {vs : List Vr} {n : Bytes} (hr : Rise vs) : getV vs n = valV (getR vs n) := by
  induction vs with
  | nil => rfl
  | cons a vs ih =>
    by_cases h1 : Op.bytesLess a.1 n = true
    · have hp2 : plN (a :: vs) n = plN vs n + 1 := by simp only [plN]; rw [if_pos h1]
      rw [getR, if_neg (less_ne h1), ← ih (List.pairwise_cons.1 hr).2]
      unfold getV isAt; rw [hp2]; simp
    · have hp2 : plN (a :: vs) n = 0 := by simp only [plN]; rw [if_neg h1]
      unfold getV isAt; rw [hp2, getR]
      by_cases e : a.1 = n
      · simp [e]
      · rw [if_neg e, getR_none fun p hp => (less_ne (less_trans _ _ _ (less_tri (by simpa using h1) e) ((List.pairwise_cons.1 hr).1 p hp))).symm]
        simp [e]; rfl
def putT (vs : List Vr) (n x : Bytes) : List Vr := if isAt vs n = true then vs.set (plN vs n) (n, x) else insL vs (plN vs n) (n, x)
theorem putL_T (vs : List Vr) (n : Bytes) (x : Int) : putL vs n x = putT vs n (textV x) := rfl
theorem plN_lt {vs : List Vr} {n : Bytes} {i : Nat} {x : Vr} (h : i < plN vs n) (hx : vs[i]? = some x) : Op.bytesLess x.1 n = true :=
  plN_take x (List.mem_of_getElem? (i := i) (by rw [List.getElem?_take, if_pos h]; exact hx))
theorem plN_ge {vs : List Vr} {n : Bytes} {x : Vr} (hx : vs[plN vs n]? = some x) : Op.bytesLess x.1 n = false := by
  induction vs with
  | nil => simp at hx
  | cons a vs ih =>
    simp only [plN] at hx
    split at hx
    · rw [List.getElem?_cons_succ] at hx; exact ih hx
    · rename_i h; rw [List.getElem?_cons_zero] at hx; cases hx; simpa using h
theorem plN_gt {vs : List Vr} {n : Bytes} {i : Nat} {x : Vr} (hr : Rise vs) (h : plN vs n < i) (hx : vs[i]? = some x) : x.1 ≠ n := fun e => by
  have hi := (List.getElem?_eq_some_iff.1 hx).1
  obtain ⟨y, hy⟩ : ∃ y, vs[plN vs n]? = some y := ⟨_, List.getElem?_eq_getElem (by omega)⟩
  have h1 := rise_lt hr h hy hx
  rw [e, plN_ge hy] at h1; cases h1
/-- Variables behind i of them, where one is put. -/
def setF (vs : List Vr) (n x : Bytes) (i : Nat) : List Vr := if plN vs n < i then (if isAt vs n = true then (vs.set (plN vs n) (n, x)).take i else (insL vs (plN vs n) (n, x)).take (i + 1)) else vs.take i
theorem take_snoc {α : Type} {l : List α} {i : Nat} {x : α} (h : l[i]? = some x) : l.take i ++ [x] = l.take (i + 1) := by rw [List.take_add_one, h]; rfl
theorem setF_lt {vs : List Vr} {n x : Bytes} {i : Nat} {p : Vr} (h : i < plN vs n) (hp : vs[i]? = some p) : setF vs n x i ++ [p] = setF vs n x (i + 1) := by
  unfold setF; rw [if_neg (by omega), if_neg (by omega)]; exact take_snoc hp
theorem setF_at {vs : List Vr} {n x : Bytes} {i : Nat} (h : i = plN vs n) (ha : isAt vs n = true) : setF vs n x i ++ [(n, x)] = setF vs n x (i + 1) := by
  have hlt := isAt_lt ha
  subst h
  unfold setF; rw [if_neg (by omega), if_pos (by omega), if_pos ha, ← take_snoc (x := (n, x)) (by rw [List.getElem?_set_self hlt]), List.take_set_of_le (Nat.le_refl _)]
theorem ins_at {vs : List Vr} {i : Nat} {y : Vr} (h : i ≤ vs.length) : (insL vs i y)[i]? = some y := by
  unfold insL; rw [List.getElem?_append_right (by rw [List.length_take]; omega), List.length_take, show i - min i vs.length = 0 by omega]; rfl
theorem ins_gt {vs : List Vr} {i j : Nat} {y : Vr} (h : i ≤ j) (hi : i ≤ vs.length) : (insL vs i y)[j + 1]? = vs[j]? := by
  unfold insL; rw [List.getElem?_append_right (by rw [List.length_take]; omega), List.length_take, show j + 1 - min i vs.length = (j - i) + 1 by omega, List.getElem?_cons_succ, List.getElem?_drop]; congr 1; omega
theorem ins_take {vs : List Vr} {i : Nat} {y : Vr} (h : i ≤ vs.length) : (insL vs i y).take i = vs.take i := by
  unfold insL; rw [List.take_append_of_le_length (by rw [List.length_take]; omega), List.take_take]; congr 1; omega
theorem setF_ins {vs : List Vr} {n x : Bytes} {i : Nat} {p : Vr} (h : i = plN vs n) (ha : isAt vs n = false) (hp : vs[i]? = some p) : (setF vs n x i ++ [(n, x)]) ++ [p] = setF vs n x (i + 1) := by
  have hlt := (List.getElem?_eq_some_iff.1 hp).1
  subst h
  unfold setF; rw [if_neg (by omega), if_pos (by omega), if_neg (by rw [ha]; simp), ← take_snoc (x := p) (by rw [ins_gt (Nat.le_refl _) (by omega)]; exact hp), ← take_snoc (x := (n, x)) (ins_at (by omega)), ins_take (by omega)]
theorem setF_gt {vs : List Vr} {n x : Bytes} {i : Nat} {p : Vr} (h : plN vs n < i) (hp : vs[i]? = some p) : setF vs n x i ++ [p] = setF vs n x (i + 1) := by
  have hlt := (List.getElem?_eq_some_iff.1 hp).1
  unfold setF; rw [if_pos h, if_pos (show plN vs n < i + 1 by omega)]
  split
  · exact take_snoc (by rw [List.getElem?_set_ne (by omega)]; exact hp)
  · exact take_snoc (by rw [ins_gt (by omega) (by omega)]; exact hp)
theorem setF_end {vs : List Vr} {n x : Bytes} (h : plN vs n < vs.length) : setF vs n x vs.length = putT vs n x := by
  unfold setF putT; rw [if_pos h]
  split
  · rw [List.take_of_length_le (by rw [List.length_set]; exact Nat.le_refl _)]
  · rw [List.take_of_length_le (by rw [insL_len (by omega)]; omega)]
theorem setF_out {vs : List Vr} {n x : Bytes} (h : ¬ plN vs n < vs.length) : setF vs n x vs.length ++ [(n, x)] = putT vs n x := by
  have h2 := plN_le vs n
  have ha : isAt vs n = false := by unfold isAt; rw [List.getElem?_eq_none (by omega)]; rfl
  unfold setF putT; rw [if_neg h, if_neg (by rw [ha]; simp), show plN vs n = vs.length by omega, insL_end, List.take_length]
theorem isAt_of {vs : List Vr} {n : Bytes} {p : Vr} {i : Nat} (h : i = plN vs n) (hp : vs[i]? = some p) : isAt vs n = decide (p.1 = n) := by subst h; unfold isAt; rw [hp]; simp

theorem RGet_spec {vs : List Vr} {Av : Option Addr} {cv : Nat} {Dv : Nat → Prop} {w : World} (n : Bytes) (hv : Sl prE w Dv Av vs) (hl : vs.length ≤ 1000000000) : CallR Tryz.prog 31 #[.slice Av vs.length cv, S n] w fun v w' => v = S (getR vs n) ∧ Chg [] w w' := by
 refine callR_of_wp (args := [_, _]) Tryz.func31 rfl (Nat.le_of_ble_eq_true rfl) ?_
 have HC : Chg [] w w := .refl _
 refine sr rfl <| aS rfl <| en <| x_seq <| sr rfl <| aI rfl <| en <| x_block <| x_loop (ι := Nat) [4, 5, 6, 7, 8, 9, 10, 11, 12, 13, 14, 15, 16, 17, 18, 19, 20, 21, 22, 23] (fun i => [(5, .int .i64 (i : Int))]) (fun i W => (i ≤ vs.length ∧ getR vs n = getR (vs.drop i) n) ∧ (Chg [] w W) ∧ (Sl prE W Dv Av vs)) (fun i => vs.length - i) 0 ?_ ?_ ?_
 · exact ⟨rfl, trivial⟩
 ·refine ⟨?_, HC, hv⟩
  exact ⟨Nat.zero_le _, rfl⟩
 intro i G2 w1 ⟨⟨hi, hg⟩, HC, hv⟩
 change wp _ _ _ _ _ (upds (over _ _ G2) [(5, .int .i64 (i : Int))]) _ _
 refine x_seq <| sr rfl <| mI rfl <| mL rfl <| Wp rfl <| st_len (ct := #[22]) (by rw [show ((#[22] : Array TypeId)[0]?).bind Tryz.prog.underlying = some (.slice 42) from T.u22]; rfl) rfl <| Wp rfl <| st_lss rfl rfl <| en <| x_cond rfl (fun h0 => ?_) (fun h0 => ?_)
 ·try simp only [nm, ne_eq] at h0
  obtain ⟨x, hxi⟩ : ∃ x, vs[i]? = some x := ⟨_, List.getElem?_eq_getElem (by omega)⟩
  refine x_skip <| then_n <| x_seq <| x_block <| sr rfl <| mL rfl <| mI rfl ?_
  obtain ⟨lb7, _, vs6, hA3, hR5, hC4⟩ := hv.at (i := i) (x := x) (hxi)
  obtain rfl : vs6 = [S x.1, S x.2] := hR5
  refine Wp rfl <| st_indexAddr T.u22 T.size42 (congrArg (fun z => Value.slice z _ _) hA3) rfl (by omega) (by omega) <| fa T.fld42_0 rfl <| lS T.one9 rfl (hC4.at (j := 0) rfl) <| mS rfl <| Wp rfl <| st_seql rfl rfl <| en <| x_cond rfl (fun h1 => ?_) (fun h1 => ?_)
  ·try simp only [nm, ne_eq] at h1
   refine sr rfl <| mL rfl <| mI rfl ?_
   obtain ⟨lb12, _, vs11, hA8, hR10, hC9⟩ := hv.at (i := i) (x := x) (hxi)
   obtain rfl : vs11 = [S x.1, S x.2] := hR10
   refine Wp rfl <| st_indexAddr T.u22 T.size42 (congrArg (fun z => Value.slice z _ _) hA8) rfl (by omega) (by omega) <| fa T.fld42_1 rfl <| lS T.one9 rfl (hC9.at (j := 1) rfl) <| aS rfl <| en <| x_ret <| block_r <| then_r <| then_r <| block_r <| then_r <| ret_tmp (v := S _) rfl rfl ?_
   rw [show getR vs n = x.2 by rw [hg, getR_step hxi, if_pos h1]]
   exact ⟨rfl, HC⟩
  ·try simp only [nm, ne_eq] at h1
   refine x_skip <| block_n <| then_n <| x_region rfl <| mI rfl <| Wp rfl <| st_addn rfl rfl (by constructor <;> omega) <| aI rfl <| en <| ⟨i + 1, ?_, ?_, rfl, ⟨rfl, trivial⟩, ?_⟩
   ·refine ⟨?_, HC, hv⟩
    exact ⟨by omega, by rw [hg, getR_step hxi, if_neg h1]⟩
   ·show vs.length - (i + 1) < vs.length - i; omega
   repeat (first | exact agree_upds agree_over rfl | refine agree_upd ?_ rfl | refine agree_upds ?_ rfl | refine agree_over_sub ?_ rfl)
 ·try simp only [nm, ne_eq] at h0
  refine x_exit <| then_x <| then_x <| block_x <| then_n <| sr rfl <| aS rfl <| en <| x_ret <| ret_tmp (v := S _) rfl rfl ?_
  rw [show getR vs n = [] by rw [hg, List.drop_of_length_le (by omega)]; rfl]
  exact ⟨rfl, HC⟩

theorem RSet_spec {vs : List Vr} {Av : Option Addr} {cv : Nat} {Dv : Nat → Prop} {w : World} (n x : Bytes) (hv : Sl prE w Dv Av vs) (hr : Rise vs) (hl : vs.length ≤ 1000000000) : CallR Tryz.prog 52 #[.slice Av vs.length cv, S n, S x] w fun v w' => (∃ A cap, v = .slice A (putT vs n x).length cap ∧ Sl prE w' (fun _ => True) A (putT vs n x)) ∧ Chg [] w w' := by
 replace hv := hv.mono (D' := fun k => k < w.heap.size) (fun k hk _ => hk)
 refine callR_of_wp (args := [_, _, _]) Tryz.func52 rfl (Nat.le_of_ble_eq_true rfl) ?_
 have HC : Chg [] w w := .refl _
 refine sr rfl <| aL rfl <| en <| sr rfl <| aL rfl <| en <| sr rfl <| aB rfl <| en <| x_seq <| sr rfl <| aI rfl <| en <| x_block <| x_loop (ι := Nat × List Vr × Option Addr × Nat × Bool) [7, 8, 9, 10, 11, 12, 13, 14, 15, 16, 17, 18, 19, 20, 21, 22, 23, 24, 25, 26, 27, 28, 29, 30, 31, 32, 33, 34, 35, 36, 37, 38, 39, 40, 41, 42, 43, 44, 45, 46] (fun ⟨i, o, A, cap, pt⟩ => [(9, .int .i64 (i : Int)), (7, .slice A o.length cap), (8, .bool pt)]) (fun ⟨i, o, A, cap, pt⟩ W => (i ≤ vs.length ∧ o = setF vs n x i ∧ pt = decide (plN vs n < i)) ∧ (Chg [] w W) ∧ (Sl prE W (fun k => k < w.heap.size) Av vs) ∧ (Own prE 42 W (fun k => w.heap.size ≤ k) A cap o)) (fun ⟨i, o, A, cap, pt⟩ => vs.length - i) (0, [], none, 0, false) ?_ ?_ ?_
 · exact ⟨rfl, rfl, rfl, trivial⟩
 ·refine ⟨?_, HC, hv, Own.nil⟩
  exact ⟨Nat.zero_le _, by simp [setF], by simp⟩
 intro ⟨i, o, A, cap, pt⟩ G2 w1 ⟨⟨hi, hso, hpt⟩, HC, hv, ho⟩
 change wp _ _ _ _ _ (upds (over _ _ G2) [(9, .int .i64 (i : Int)), (7, .slice A o.length cap), (8, .bool pt)]) _ _
 have hol : o.length ≤ i + 1 := by rw [hso]; unfold setF; split <;> (try split) <;> simp only [List.length_take] <;> omega
 refine x_seq <| sr rfl <| mI rfl <| mL rfl <| Wp rfl <| st_len (ct := #[22]) (by rw [show ((#[22] : Array TypeId)[0]?).bind Tryz.prog.underlying = some (.slice 42) from T.u22]; rfl) rfl <| Wp rfl <| st_lss rfl rfl <| en <| x_cond rfl (fun h0 => ?_) (fun h0 => ?_)
 ·try simp only [nm, ne_eq] at h0
  obtain ⟨y, hxi⟩ : ∃ x, vs[i]? = some x := ⟨_, List.getElem?_eq_getElem (by omega)⟩
  refine x_skip <| then_n <| x_seq <| x_block <| x_seq <| sr rfl <| mB rfl <| Wp rfl <| st_not rfl <| mB rfl <| w_split (d := 18) rfl (fun g3 => ?_) (fun g3 => ?_)
  ·try simp only [nm, ne_eq] at g3
   have hnp : ¬ plN vs n < i := by have h9 : pt = false := (by assumption); rw [hpt] at h9; simpa using h9
   refine w_yes 2 18 true <| st_move (v := .slice _ _ _) rfl <| w_yes 2 18 true <| st_move (v := .int _ _) rfl ?_
   obtain ⟨lb8, _, vs7, hA4, hR6, hC5⟩ := hv.at (i := i) (x := y) (hxi)
   obtain rfl : vs7 = [S y.1, S y.2] := hR6
   refine w_yes 2 18 true <| st_indexAddr T.u22 T.size42 (congrArg (fun z => Value.slice z _ _) hA4) rfl (by omega) (by omega) <| w_yes 2 18 true <| st_fieldAddr T.fld42_0 rfl <| w_yes 2 18 true <| st_load1 (v := S _) T.one9 rfl (hC5.at (j := 0) rfl) <| w_yes 2 18 true <| st_move (v := S _) rfl <| w_yes 2 18 true <| st_sgeq rfl rfl <| pT rfl rfl <| en <| x_cond rfl (fun h1 => ?_) (fun h1 => ?_)
   ·try simp only [nm, ne_eq] at h1
    have hik : i = plN vs n := by rcases Nat.lt_or_ge i (plN vs n) with h9 | h9; (rw [plN_lt h9 hxi] at h1; simp at h1); omega
    refine sr rfl <| mL rfl <| mS rfl <| mS rfl <| Wp rfl <| st_bld (ps := [(0, .tmp 28), (1, .tmp 29)]) (vs := [S _, S _]) T.bld42 rfl <| Wp rfl <| st_lit (ps := [(0, .tmp 30)]) (vs := [S _, S _]) T.lit22 (by decide) rfl (by simp only [List.forall_mem_cons, List.not_mem_nil, false_imp_iff, implies_true, and_true]; exact rfl) rfl ?_
    intro b9 w10 e11 c12 hb13
    have ge_b9 : w.heap.size ≤ b9 := by rw [e11]; exact HC.size
    have nf_hv_b9 : vs = [] ∨ b9 ∉ ob (Av) := hv.fresh (by rw [e11]; exact Nat.le_refl _)
    have na_b9 : b9 ∉ ob A := ho.fresh (by rw [e11]; exact Nat.le_refl _)
    replace HC := HC.then c12
    replace hv := hv.tr0 c12
    replace ho := ho.tr0 c12
    clear e11
    have hszA := HC.size
    refine Wp rfl <| st_append2 (c := prE) (D2 := fun _ => False) (xs := o) (ys := [((n, x) : Vr)]) T.slice22 rfl rfl ho rfl rfl (one_elem rfl (hb13.cells (n := 2) rfl)) (fun _ _ h => h.elim) (fun k hk => by omega) (by simp only [List.length_append, List.length_cons, List.length_nil]; omega) (by simp only [List.length_append, List.length_cons, List.length_nil]; omega) ?_
    intro A14 cap15 w16 ho17 c18 hg19
    replace HC := HC.trans c18 (fun k hk => .inr (ho.inD k hk))
    replace hv := hv.tr c18 (by intro k hx hD; have h1 := ho.inD k hx; omega)
    replace hb13 := hb13.tr c18 (fun hx => by first | (have h1 := ho.inD _ hx; omega) | exact na_b9 hx | exact hav _ hx (by simp))
    refine aL rfl <| en <| x_region rfl <| aB rfl <| en <| sr rfl <| mL rfl <| mI rfl ?_
    obtain ⟨lb24, _, vs23, hA20, hR22, hC21⟩ := hv.at (i := i) (x := y) (hxi)
    obtain rfl : vs23 = [S y.1, S y.2] := hR22
    refine Wp rfl <| st_indexAddr T.u22 T.size42 (congrArg (fun z => Value.slice z _ _) hA20) rfl (by omega) (by omega) <| fa T.fld42_0 rfl <| lS T.one9 rfl (hC21.at (j := 0) rfl) <| mS rfl <| Wp rfl <| st_sneq rfl rfl <| en <| x_cond rfl (fun h2 => ?_) (fun h2 => ?_)
    ·try simp only [nm, ne_eq] at h2
     have hat : isAt vs n = false := by rw [isAt_of hik hxi]; simpa using h2
     refine x_region rfl <| mL rfl <| mL rfl <| mI rfl ?_
     obtain ⟨lb29, _, vs28, hA25, hR27, hC26⟩ := hv.at (i := i) (x := y) (hxi)
     obtain rfl : vs28 = [S y.1, S y.2] := hR27
     refine Wp rfl <| st_indexAddr T.u22 T.size42 (congrArg (fun z => Value.slice z _ _) hA25) rfl (by omega) (by omega) <| Wp rfl <| st_loadA (vs := [_, _]) T.agg42 rfl hC26 rfl <| Wp rfl <| st_lit (ps := [(0, .tmp 44)]) (vs := [S _, S _]) T.lit22 (by decide) rfl (by simp only [List.forall_mem_cons, List.not_mem_nil, false_imp_iff, implies_true, and_true]; exact rfl) rfl ?_
     intro b30 w31 e32 c33 hb34
     have ge_b30 : w.heap.size ≤ b30 := by rw [e32]; exact HC.size
     have nf_hv_b30 : vs = [] ∨ b30 ∉ ob (Av) := hv.fresh (by rw [e32]; exact Nat.le_refl _)
     have na_b30 : b30 ∉ ob A14 := ho17.fresh (by rw [e32]; exact Nat.le_refl _)
     replace HC := HC.then c33
     replace hv := hv.tr0 c33
     replace ho17 := ho17.tr0 c33
     clear e32
     have hszA := HC.size
     refine Wp rfl <| st_append2 (c := prE) (D2 := fun _ => False) (xs := (o ++ [((n, x) : Vr)])) (ys := [y]) T.slice22 rfl rfl ho17 rfl rfl (one_elem rfl (hb34.cells (n := 2) rfl)) (fun _ _ h => h.elim) (fun k hk => by omega) (by simp only [List.length_append, List.length_cons, List.length_nil]; omega) (by simp only [List.length_append, List.length_cons, List.length_nil]; omega) ?_
     intro A35 cap36 w37 ho38 c39 hg40
     replace HC := HC.trans c39 (fun k hk => .inr (ho17.inD k hk))
     replace hv := hv.tr c39 (by intro k hx hD; have h1 := ho17.inD k hx; omega)
     replace hb34 := hb34.tr c39 (fun hx => by first | (have h1 := ho17.inD _ hx; omega) | exact na_b30 hx | exact hav _ hx (by simp))
     refine aL rfl <| wops_nil <| block_n <| then_n <| x_region rfl <| mI rfl <| Wp rfl <| st_addn rfl rfl (by constructor <;> omega) <| aI rfl <| en <| ⟨(i + 1, ((o ++ [((n, x) : Vr)]) ++ [y]), A35, cap36, true), ?_, ?_, rfl, ⟨rfl, rfl, rfl, trivial⟩, ?_⟩
     ·refine ⟨?_, HC, hv, ho38⟩
      exact ⟨by omega, by rw [hso]; exact setF_ins hik hat hxi, by symm; first | exact decide_eq_true (by omega) | (rw [hpt, decide_eq_false hnp]; exact decide_eq_false (by omega)) | (rw [hpt, decide_eq_true hip]; exact decide_eq_true (by omega))⟩
     ·show vs.length - (i + 1) < vs.length - i; omega
     repeat (first | exact agree_upds agree_over rfl | refine agree_upd ?_ rfl | refine agree_upds ?_ rfl | refine agree_over_sub ?_ rfl)
    ·try simp only [nm, ne_eq] at h2
     have hat : isAt vs n = true := by rw [isAt_of hik hxi]; simpa using h2
     refine x_skip <| block_n <| then_n <| x_region rfl <| mI rfl <| Wp rfl <| st_addn rfl rfl (by constructor <;> omega) <| aI rfl <| en <| ⟨(i + 1, (o ++ [((n, x) : Vr)]), A14, cap15, true), ?_, ?_, rfl, ⟨rfl, rfl, rfl, trivial⟩, ?_⟩
     ·refine ⟨?_, HC, hv, ho17⟩
      exact ⟨by omega, by rw [hso]; exact setF_at hik hat, by symm; first | exact decide_eq_true (by omega) | (rw [hpt, decide_eq_false hnp]; exact decide_eq_false (by omega)) | (rw [hpt, decide_eq_true hip]; exact decide_eq_true (by omega))⟩
     ·show vs.length - (i + 1) < vs.length - i; omega
     repeat (first | exact agree_upds agree_over rfl | refine agree_upd ?_ rfl | refine agree_upds ?_ rfl | refine agree_over_sub ?_ rfl)
   ·try simp only [nm, ne_eq] at h1
    have hik : i < plN vs n := by rcases Nat.lt_or_ge i (plN vs n) with h9 | h9; exact h9; (have e9 : i = plN vs n := by omega); (have hg := hxi); rw [e9] at hg; rw [plN_ge hg] at h1; simp at h1
    refine x_skip <| then_n <| sr rfl <| mL rfl <| mI rfl ?_
    obtain ⟨lb45, _, vs44, hA41, hR43, hC42⟩ := hv.at (i := i) (x := y) (hxi)
    obtain rfl : vs44 = [S y.1, S y.2] := hR43
    refine Wp rfl <| st_indexAddr T.u22 T.size42 (congrArg (fun z => Value.slice z _ _) hA41) rfl (by omega) (by omega) <| fa T.fld42_0 rfl <| lS T.one9 rfl (hC42.at (j := 0) rfl) <| mS rfl <| Wp rfl <| st_sneq rfl rfl <| en <| x_cond rfl (fun h2 => ?_) (fun h2 => ?_)
    ·try simp only [nm, ne_eq] at h2
     refine x_region rfl <| mL rfl <| mL rfl <| mI rfl ?_
     obtain ⟨lb50, _, vs49, hA46, hR48, hC47⟩ := hv.at (i := i) (x := y) (hxi)
     obtain rfl : vs49 = [S y.1, S y.2] := hR48
     refine Wp rfl <| st_indexAddr T.u22 T.size42 (congrArg (fun z => Value.slice z _ _) hA46) rfl (by omega) (by omega) <| Wp rfl <| st_loadA (vs := [_, _]) T.agg42 rfl hC47 rfl <| Wp rfl <| st_lit (ps := [(0, .tmp 44)]) (vs := [S _, S _]) T.lit22 (by decide) rfl (by simp only [List.forall_mem_cons, List.not_mem_nil, false_imp_iff, implies_true, and_true]; exact rfl) rfl ?_
     intro b51 w52 e53 c54 hb55
     have ge_b51 : w.heap.size ≤ b51 := by rw [e53]; exact HC.size
     have nf_hv_b51 : vs = [] ∨ b51 ∉ ob (Av) := hv.fresh (by rw [e53]; exact Nat.le_refl _)
     have na_b51 : b51 ∉ ob A := ho.fresh (by rw [e53]; exact Nat.le_refl _)
     replace HC := HC.then c54
     replace hv := hv.tr0 c54
     replace ho := ho.tr0 c54
     clear e53
     have hszA := HC.size
     refine Wp rfl <| st_append2 (c := prE) (D2 := fun _ => False) (xs := o) (ys := [y]) T.slice22 rfl rfl ho rfl rfl (one_elem rfl (hb55.cells (n := 2) rfl)) (fun _ _ h => h.elim) (fun k hk => by omega) (by simp only [List.length_append, List.length_cons, List.length_nil]; omega) (by simp only [List.length_append, List.length_cons, List.length_nil]; omega) ?_
     intro A56 cap57 w58 ho59 c60 hg61
     replace HC := HC.trans c60 (fun k hk => .inr (ho.inD k hk))
     replace hv := hv.tr c60 (by intro k hx hD; have h1 := ho.inD k hx; omega)
     replace hb55 := hb55.tr c60 (fun hx => by first | (have h1 := ho.inD _ hx; omega) | exact na_b51 hx | exact hav _ hx (by simp))
     refine aL rfl <| wops_nil <| block_n <| then_n <| x_region rfl <| mI rfl <| Wp rfl <| st_addn rfl rfl (by constructor <;> omega) <| aI rfl <| en <| ⟨(i + 1, (o ++ [y]), A56, cap57, pt), ?_, ?_, rfl, ⟨rfl, rfl, rfl, trivial⟩, ?_⟩
     ·refine ⟨?_, HC, hv, ho59⟩
      exact ⟨by omega, by rw [hso]; exact setF_lt hik hxi, by symm; first | exact decide_eq_true (by omega) | (rw [hpt, decide_eq_false hnp]; exact decide_eq_false (by omega)) | (rw [hpt, decide_eq_true hip]; exact decide_eq_true (by omega))⟩
     ·show vs.length - (i + 1) < vs.length - i; omega
     repeat (first | exact agree_upds agree_over rfl | refine agree_upd ?_ rfl | refine agree_upds ?_ rfl | refine agree_over_sub ?_ rfl)
    ·try simp only [nm, ne_eq] at h2
     exact absurd (by first | exact h2 | simpa using h2) (less_ne (plN_lt hik hxi))
  ·try simp only [nm, ne_eq] at g3
   have hip : plN vs n < i := by have h9 : pt = true := (by assumption); rw [hpt] at h9; simpa using h9
   iterate 7 refine w_no 2 18 true ?_
   refine pF rfl rfl <| en <| x_cond (t := false) rfl (fun h1 => ?_) (fun h1 => ?_)
   · exact absurd h1 (by decide)
   refine x_skip <| then_n <| sr rfl <| mL rfl <| mI rfl ?_
   obtain ⟨lb66, _, vs65, hA62, hR64, hC63⟩ := hv.at (i := i) (x := y) (hxi)
   obtain rfl : vs65 = [S y.1, S y.2] := hR64
   refine Wp rfl <| st_indexAddr T.u22 T.size42 (congrArg (fun z => Value.slice z _ _) hA62) rfl (by omega) (by omega) <| fa T.fld42_0 rfl <| lS T.one9 rfl (hC63.at (j := 0) rfl) <| mS rfl <| Wp rfl <| st_sneq rfl rfl <| en <| x_cond rfl (fun h2 => ?_) (fun h2 => ?_)
   ·try simp only [nm, ne_eq] at h2
    have hik := hip
    refine x_region rfl <| mL rfl <| mL rfl <| mI rfl ?_
    obtain ⟨lb71, _, vs70, hA67, hR69, hC68⟩ := hv.at (i := i) (x := y) (hxi)
    obtain rfl : vs70 = [S y.1, S y.2] := hR69
    refine Wp rfl <| st_indexAddr T.u22 T.size42 (congrArg (fun z => Value.slice z _ _) hA67) rfl (by omega) (by omega) <| Wp rfl <| st_loadA (vs := [_, _]) T.agg42 rfl hC68 rfl <| Wp rfl <| st_lit (ps := [(0, .tmp 44)]) (vs := [S _, S _]) T.lit22 (by decide) rfl (by simp only [List.forall_mem_cons, List.not_mem_nil, false_imp_iff, implies_true, and_true]; exact rfl) rfl ?_
    intro b72 w73 e74 c75 hb76
    have ge_b72 : w.heap.size ≤ b72 := by rw [e74]; exact HC.size
    have nf_hv_b72 : vs = [] ∨ b72 ∉ ob (Av) := hv.fresh (by rw [e74]; exact Nat.le_refl _)
    have na_b72 : b72 ∉ ob A := ho.fresh (by rw [e74]; exact Nat.le_refl _)
    replace HC := HC.then c75
    replace hv := hv.tr0 c75
    replace ho := ho.tr0 c75
    clear e74
    have hszA := HC.size
    refine Wp rfl <| st_append2 (c := prE) (D2 := fun _ => False) (xs := o) (ys := [y]) T.slice22 rfl rfl ho rfl rfl (one_elem rfl (hb76.cells (n := 2) rfl)) (fun _ _ h => h.elim) (fun k hk => by omega) (by simp only [List.length_append, List.length_cons, List.length_nil]; omega) (by simp only [List.length_append, List.length_cons, List.length_nil]; omega) ?_
    intro A77 cap78 w79 ho80 c81 hg82
    replace HC := HC.trans c81 (fun k hk => .inr (ho.inD k hk))
    replace hv := hv.tr c81 (by intro k hx hD; have h1 := ho.inD k hx; omega)
    replace hb76 := hb76.tr c81 (fun hx => by first | (have h1 := ho.inD _ hx; omega) | exact na_b72 hx | exact hav _ hx (by simp))
    refine aL rfl <| wops_nil <| block_n <| then_n <| x_region rfl <| mI rfl <| Wp rfl <| st_addn rfl rfl (by constructor <;> omega) <| aI rfl <| en <| ⟨(i + 1, (o ++ [y]), A77, cap78, pt), ?_, ?_, rfl, ⟨rfl, rfl, rfl, trivial⟩, ?_⟩
    ·refine ⟨?_, HC, hv, ho80⟩
     exact ⟨by omega, by rw [hso]; exact setF_gt hik hxi, by symm; first | exact decide_eq_true (by omega) | (rw [hpt, decide_eq_false hnp]; exact decide_eq_false (by omega)) | (rw [hpt, decide_eq_true hip]; exact decide_eq_true (by omega))⟩
    ·show vs.length - (i + 1) < vs.length - i; omega
    repeat (first | exact agree_upds agree_over rfl | refine agree_upd ?_ rfl | refine agree_upds ?_ rfl | refine agree_over_sub ?_ rfl)
   ·try simp only [nm, ne_eq] at h2
    exact absurd (by first | exact h2 | simpa using h2) (plN_gt hr hip hxi)
 ·try simp only [nm, ne_eq] at h0
  have hin : i = vs.length := by omega
  have hol : o.length ≤ i + 1 := by rw [hso]; unfold setF; split <;> (try split) <;> simp only [List.length_take] <;> omega
  refine x_exit <| then_x <| then_x <| block_x <| then_n <| x_seq <| sr rfl <| mB rfl <| Wp rfl <| st_not rfl <| en <| x_cond rfl (fun h3 => ?_) (fun h3 => ?_)
  ·try simp only [nm, ne_eq] at h3
   have hnp : ¬ plN vs n < vs.length := by rw [← hin]; rw [hpt] at h3; simpa using h3
   refine x_region rfl <| mL rfl <| mS rfl <| mS rfl <| Wp rfl <| st_bld (ps := [(0, .tmp 50), (1, .tmp 51)]) (vs := [S _, S _]) T.bld42 rfl <| Wp rfl <| st_lit (ps := [(0, .tmp 52)]) (vs := [S _, S _]) T.lit22 (by decide) rfl (by simp only [List.forall_mem_cons, List.not_mem_nil, false_imp_iff, implies_true, and_true]; exact rfl) rfl ?_
   intro b83 w84 e85 c86 hb87
   have ge_b83 : w.heap.size ≤ b83 := by rw [e85]; exact HC.size
   have nf_hv_b83 : vs = [] ∨ b83 ∉ ob (Av) := hv.fresh (by rw [e85]; exact Nat.le_refl _)
   have na_b83 : b83 ∉ ob A := ho.fresh (by rw [e85]; exact Nat.le_refl _)
   replace HC := HC.then c86
   replace hv := hv.tr0 c86
   replace ho := ho.tr0 c86
   clear e85
   have hszA := HC.size
   refine Wp rfl <| st_append2 (c := prE) (D2 := fun _ => False) (xs := o) (ys := [((n, x) : Vr)]) T.slice22 rfl rfl ho rfl rfl (one_elem rfl (hb87.cells (n := 2) rfl)) (fun _ _ h => h.elim) (fun k hk => by omega) (by simp only [List.length_append, List.length_cons, List.length_nil]; omega) (by simp only [List.length_append, List.length_cons, List.length_nil]; omega) ?_
   intro A88 cap89 w90 ho91 c92 hg93
   replace HC := HC.trans c92 (fun k hk => .inr (ho.inD k hk))
   replace hv := hv.tr c92 (by intro k hx hD; have h1 := ho.inD k hx; omega)
   replace hb87 := hb87.tr c92 (fun hx => by first | (have h1 := ho.inD _ hx; omega) | exact na_b83 hx | exact hav _ hx (by simp))
   refine aL rfl <| en <| sr rfl <| mL rfl <| aL rfl <| en <| x_ret <| ret_tmp (v := .slice _ _ _) rfl rfl ?_
   subst hin
   have hres : (o ++ [((n, x) : Vr)]) = putT vs n x := by rw [hso]; exact setF_out hnp
   rw [← hres]
   exact ⟨⟨A88, cap89, by rfl, ho91.sl.mono (fun _ _ _ => trivial)⟩, HC⟩
  ·try simp only [nm, ne_eq] at h3
   have hip : plN vs n < vs.length := by rw [← hin]; rw [hpt] at h3; simpa using h3
   refine x_skip <| then_n <| sr rfl <| mL rfl <| aL rfl <| en <| x_ret <| ret_tmp (v := .slice _ _ _) rfl rfl ?_
   subst hin
   have hres : o = putT vs n x := by rw [hso]; exact setF_end hip
   rw [← hres]
   exact ⟨⟨A, cap, by rfl, ho.sl.mono (fun _ _ _ => trivial)⟩, HC⟩

end Go.Proofs.YtmbbhgglllfelaaGreatDoor.K
set_option linter.unusedVariables false
set_option linter.unusedSimpArgs false
set_option autoImplicit false
set_option maxRecDepth 20000
namespace Go.Proofs.YtmbbhgglllfelaaGreatDoor.K
open Go Go.Proofs Go.RowKit

open Tr
theorem asg_trim {o : Bytes} (h : o ∈ asgL) (hne : o ≠ [61]) : Lib.trimSuffix o [61] = o.take (o.length - 1) ∧ Lib.trimSuffix o [61] ≠ [] ∧ 2 ≤ o.length := by revert o; decide
theorem asg_trim1 : Lib.trimSuffix [61] [61] = [] := by decide
def inR (x : Int) : Prop := -9223372036854775808 ≤ x ∧ x ≤ 9223372036854775807
theorem node_asg {t : Tr} {p : Nat} (h : t.ok) (h2 : (t.node p).op ≠ [36]) : ((t.node p).op ∈ asgL) ↔ (t.node p).name ≠ [] := by
  cases t with
  | num n => simp [node]; decide
  | var s => exact absurd rfl h2
  | asg o n t => simp only [node]; exact ⟨fun _ e => by have := h.2.1; unfold Nm at this; rw [e] at this; revert this; simp; decide, fun _ => h.1⟩
  | un o t => simp only [node]; exact ⟨fun e => absurd e (un_op h.1).2.2.1, fun e => absurd rfl e⟩
  | cnd x y z => simp only [node]; exact ⟨fun e => absurd e (by decide), fun e => absurd rfl e⟩
  | bin o x y => simp only [node]; exact ⟨fun e => absurd e (lv_op h.1).2.2.1, fun e => absurd rfl e⟩
theorem node_un {t : Tr} {p : Nat} (h : t.ok) (h1 : (t.node p).op ≠ [35]) (h3 : (t.node p).name = []) (h4 : (t.node p).kids.length = 1) : (t.node p).op = [117, 43] ∨ (t.node p).op = [117, 45] ∨ (t.node p).op = [117, 33] ∨ (t.node p).op = [117, 126] := by
  cases t with
  | num n => simp [node] at h4
  | var s => simp [node] at h4
  | asg o n t => simp only [node] at h3; have := h.2.1; unfold Nm at this; rw [h3] at this; exact absurd this.1 (by decide)
  | un o t =>
    have : ∀ o, o ∈ unL → (117 :: o : Bytes) = [117, 43] ∨ (117 :: o : Bytes) = [117, 45] ∨ (117 :: o : Bytes) = [117, 33] ∨ (117 :: o : Bytes) = [117, 126] := by decide
    exact this o h.1
  | cnd x y z => simp [node] at h4
  | bin o x y => simp [node] at h4
theorem node_nun {t : Tr} {p : Nat} (h : t.ok) (h4 : (t.node p).kids.length ≠ 1) : (t.node p).op ≠ [117, 43] ∧ (t.node p).op ≠ [117, 45] ∧ (t.node p).op ≠ [117, 33] ∧ (t.node p).op ≠ [117, 126] := by
  cases t with
  | num n => simp [node]
  | var s => simp [node]
  | asg o n t => simp [node] at h4
  | un o t => simp [node] at h4
  | cnd x y z => simp [node]
  | bin o x y =>
    have h2 := (lv_op h.1).2.2.2.1
    simp only [node]
    refine ⟨fun e => ?_, fun e => ?_, fun e => ?_, fun e => ?_⟩ <;> (subst e; exact h2 (by decide))
theorem not64 {x : Int} (h0 : -9223372036854775808 ≤ x) (h1 : x ≤ 9223372036854775807) : IntKind.i64.wrap (IntKind.i64.wrap (0 - x) - 1) = notV .i64 x := by
  have hn : (BitVec.ofInt 64 (-1) ^^^ BitVec.ofInt 64 x).toNat = 18446744073709551615 - (x % 18446744073709551616).toNat := by
    rw [show BitVec.ofInt 64 (-1) = BitVec.allOnes 64 by decide, BitVec.allOnes_xor, BitVec.toNat_not, BitVec.toNat_ofInt]; rfl
  unfold notV xorV
  rw [show (if IntKind.i64.signed = true then (-1 : Int) else IntKind.i64.max) = -1 from rfl, show IntKind.i64.bits = 64 from rfl, hn]
  simp only [IntKind.wrap, IntKind.signed, IntKind.bits]; simp; omega
theorem wrap_in (x : Int) : inR (IntKind.i64.wrap x) := by
  unfold inR; simp only [IntKind.wrap, IntKind.signed, IntKind.bits]; simp; omega
theorem truth_in (b : Bool) : inR (truthV b) := by cases b <;> exact ⟨by decide, by decide⟩
theorem valV_in (s : Bytes) : inR (valV s).1 := by
  unfold valV; split
  · exact ⟨by decide, by decide⟩
  · split
    · split
      · exact wrap_in _
      · exact ⟨by decide, by decide⟩
    · split
      · exact wrap_in _
      · exact ⟨by decide, by decide⟩
theorem getV_in (vs : List Vr) (n : Bytes) : inR (getV vs n).1 := by
  unfold getV; split
  · exact valV_in _
  · exact ⟨by decide, by decide⟩

theorem tmod_in {a b : Int} (h : inR a) : inR (a.tmod b) := by
  unfold inR at *
  have : (a.tmod b).natAbs ≤ a.natAbs := by rw [Int.natAbs_tmod]; exact Nat.mod_le _ _
  by_cases h2 : 0 ≤ a
  · have := Int.tmod_nonneg b h2; omega
  · have : 0 ≤ (-a).tmod b := Int.tmod_nonneg b (by omega)
    rw [Int.neg_tmod] at this; omega
theorem shr_in {a n : Int} (h : inR a) : inR (shrV .i64 a n) := by
  unfold inR shrV at *
  generalize min n.toNat IntKind.i64.bits = k
  have hp : (0 : Int) < 2 ^ k := Int.pow_pos (by decide)
  rw [Int.fdiv_eq_ediv_of_nonneg _ (Int.le_of_lt hp)]
  have h1 : (1 : Int) ≤ 2 ^ k := hp
  constructor
  · rw [Int.le_ediv_iff_mul_le hp]
    have := Int.mul_le_mul_of_nonpos_left (show (-9223372036854775808 : Int) ≤ 0 by decide) h1
    omega
  · by_cases h0 : 0 ≤ a
    · exact Int.le_trans (Int.ediv_le_self _ h0) h.2
    · have : a / 2 ^ k < 0 := Int.ediv_neg_of_neg_of_pos (by omega) hp
      omega
theorem opNum_in {op : Bytes} {a b v : Int} (ha : inR a) (hv : opNum op a b = some v) : inR v := by
  unfold opNum at hv
  by_cases h0 : op = [43]
  · rw [if_pos h0] at hv; rw [← Option.some.inj hv]; exact wrap_in _
  rw [if_neg h0] at hv
  by_cases h1 : op = [45]
  · rw [if_pos h1] at hv; rw [← Option.some.inj hv]; exact wrap_in _
  rw [if_neg h1] at hv
  by_cases h2 : op = [42]
  · rw [if_pos h2] at hv; rw [← Option.some.inj hv]; exact wrap_in _
  rw [if_neg h2] at hv
  by_cases h3 : op = [47]
  · rw [if_pos h3] at hv; rw [← Option.some.inj hv]; exact wrap_in _
  rw [if_neg h3] at hv
  by_cases h4 : op = [37]
  · rw [if_pos h4] at hv; rw [← Option.some.inj hv]; exact tmod_in ha
  rw [if_neg h4] at hv
  by_cases h5 : op = [60, 60]
  · rw [if_pos h5] at hv; rw [← Option.some.inj hv]; exact wrap_in _
  rw [if_neg h5] at hv
  by_cases h6 : op = [62, 62]
  · rw [if_pos h6] at hv; rw [← Option.some.inj hv]; exact shr_in ha
  rw [if_neg h6] at hv
  by_cases h7 : op = [60]
  · rw [if_pos h7] at hv; rw [← Option.some.inj hv]; exact truth_in _
  rw [if_neg h7] at hv
  by_cases h8 : op = [60, 61]
  · rw [if_pos h8] at hv; rw [← Option.some.inj hv]; exact truth_in _
  rw [if_neg h8] at hv
  by_cases h9 : op = [62]
  · rw [if_pos h9] at hv; rw [← Option.some.inj hv]; exact truth_in _
  rw [if_neg h9] at hv
  by_cases h10 : op = [62, 61]
  · rw [if_pos h10] at hv; rw [← Option.some.inj hv]; exact truth_in _
  rw [if_neg h10] at hv
  by_cases h11 : op = [61, 61]
  · rw [if_pos h11] at hv; rw [← Option.some.inj hv]; exact truth_in _
  rw [if_neg h11] at hv
  by_cases h12 : op = [33, 61]
  · rw [if_pos h12] at hv; rw [← Option.some.inj hv]; exact truth_in _
  rw [if_neg h12] at hv
  by_cases h13 : op = [38]
  · rw [if_pos h13] at hv; rw [← Option.some.inj hv]; exact wrap_in _
  rw [if_neg h13] at hv
  by_cases h14 : op = [94]
  · rw [if_pos h14] at hv; rw [← Option.some.inj hv]; exact wrap_in _
  rw [if_neg h14] at hv
  by_cases h15 : op = [124]
  · rw [if_pos h15] at hv; rw [← Option.some.inj hv]; exact wrap_in _
  rw [if_neg h15] at hv
  cases hv
theorem applyV_in {op : Bytes} {a b : Int} (ha : inR a) : inR (applyV op a b).1 := by
  have h0 : inR 0 := ⟨by decide, by decide⟩
  unfold applyV
  cases hv : opNum op a b with
  | none => exact h0
  | some v =>
    dsimp only
    split
    · exact h0
    · exact opNum_in ha hv

theorem valV_er (s : Bytes) : (valV s).2 ≠ 0 → (valV s).1 = 0 := by
  unfold valV; split
  · exact fun h => absurd rfl h
  · split
    · split
      · exact fun h => absurd rfl h
      · exact fun _ => rfl
    · split
      · exact fun h => absurd rfl h
      · exact fun _ => rfl
theorem getV_er (vs : List Vr) (n : Bytes) : (getV vs n).2 ≠ 0 → (getV vs n).1 = 0 := by
  unfold getV; split
  · exact valV_er _
  · exact fun _ => rfl
theorem applyV_er (op : Bytes) (a b : Int) : (applyV op a b).2 ≠ 0 → (applyV op a b).1 = 0 := by
  unfold applyV
  cases hv : opNum op a b with
  | none => exact fun _ => rfl
  | some v =>
    dsimp only
    split
    · exact fun _ => rfl
    · exact fun h => absurd rfl h
/-- What any run comes to. -/
def RP (r : Rs) : Prop := inR r.1 ∧ (r.2.2 ≠ 0 → r.1 = 0) ∧ VK r.2.1
theorem in0 : inR 0 := ⟨by decide, by decide⟩
theorem putV_some {vs : List Vr} {n : Bytes} {x : Int} (h : inR x) : putV vs n x = some (putL vs n x) := by unfold putV; exact if_pos h
theorem asgV_some {o n : Bytes} {a : Int} {vs : List Vr} (ha : inR a) (hv : VK vs) : ∃ r, asgV o n a vs = some r ∧ RP r := by
  unfold asgV
  by_cases c1 : Lib.trimSuffix o [61] = []
  · rw [if_pos c1, putV_some ha]; exact ⟨_, rfl, ha, fun h => absurd rfl h, (putV_vk (putV_some ha) hv).1⟩
  rw [if_neg c1]
  by_cases c2 : ¬ (getV vs n).2 = 0
  · rw [if_pos c2]; exact ⟨_, rfl, in0, fun _ => rfl, hv⟩
  rw [if_neg c2]
  by_cases c3 : ¬ (applyV (Lib.trimSuffix o [61]) (getV vs n).1 a).2 = 0
  · rw [if_pos c3]; exact ⟨_, rfl, in0, fun _ => rfl, hv⟩
  have hap := applyV_in (op := Lib.trimSuffix o [61]) (b := a) (getV_in vs n)
  rw [if_neg c3, putV_some hap]; exact ⟨_, rfl, hap, fun h => absurd rfl h, (putV_vk (putV_some hap) hv).1⟩
theorem evalN_some {x : Nd} {k : Nat → List Vr → Option Rs} {vs : List Vr} (hv : VK vs) (hn : x.op = [35] → inR x.num)
    (h0 : x.op ≠ [35] → x.op ≠ [36] → ∀ u, VK u → ∃ r, k 0 u = some r ∧ RP r)
    (h1 : x.op ≠ [35] → x.op ≠ [36] → x.name = [] → x.op ≠ [117, 43] → x.op ≠ [117, 45] → x.op ≠ [117, 33] → x.op ≠ [117, 126] → ∀ u, VK u → ∃ r, k 1 u = some r ∧ RP r)
    (h2 : x.op = [63] → ∀ u, VK u → ∃ r, k 2 u = some r ∧ RP r) : ∃ r, evalN x k vs = some r ∧ RP r := by
  unfold evalN
  by_cases c1 : x.op = [35]
  · rw [if_pos c1]; exact ⟨_, rfl, hn c1, fun h => absurd rfl h, hv⟩
  rw [if_neg c1]
  by_cases c2 : x.op = [36]
  · rw [if_pos c2]; exact ⟨_, rfl, getV_in _ _, getV_er _ _, hv⟩
  rw [if_neg c2]
  obtain ⟨q, hq, q1, q2, q3⟩ := h0 c1 c2 vs hv
  rw [hq, Option.bind_some]
  by_cases c3 : q.2.2 = 0
  case neg => rw [if_pos c3]; exact ⟨_, rfl, in0, fun _ => rfl, q3⟩
  rw [if_neg (fun h => h c3)]
  by_cases c4 : x.name = []
  case neg => rw [if_pos c4]; exact asgV_some q1 q3
  rw [if_neg (fun h => h c4)]
  by_cases c5 : x.op = [117, 43]
  · rw [if_pos c5]; exact ⟨_, rfl, q1, fun h => absurd rfl h, q3⟩
  rw [if_neg c5]
  by_cases c6 : x.op = [117, 45]
  · rw [if_pos c6]; exact ⟨_, rfl, wrap_in _, fun h => absurd rfl h, q3⟩
  rw [if_neg c6]
  by_cases c7 : x.op = [117, 33]
  · rw [if_pos c7]; exact ⟨_, rfl, truth_in _, fun h => absurd rfl h, q3⟩
  rw [if_neg c7]
  by_cases c8 : x.op = [117, 126]
  · rw [if_pos c8]; exact ⟨_, rfl, wrap_in _, fun h => absurd rfl h, q3⟩
  rw [if_neg c8]
  by_cases c9 : x.op = [63]
  · rw [if_pos c9]
    by_cases d : q.1 = 0
    · rw [if_neg (fun h => h d)]; exact h2 c9 _ q3
    · rw [if_pos d]; exact h1 c1 c2 c4 c5 c6 c7 c8 _ q3
  rw [if_neg c9]
  obtain ⟨z, hz, z1, z2, z3⟩ := h1 c1 c2 c4 c5 c6 c7 c8 _ q3
  have htr : z.2.2 ≠ 0 → truthV (!decide (z.1 = 0)) = 0 := fun h => by rw [z2 h]; rfl
  by_cases c10 : x.op = [38, 38]
  · rw [if_pos c10]
    by_cases d : q.1 = 0
    · rw [if_neg (fun h => h d)]; exact ⟨_, rfl, truth_in false, fun h => absurd rfl h, q3⟩
    · rw [if_pos d, hz]; exact ⟨_, rfl, truth_in _, htr, z3⟩
  rw [if_neg c10]
  by_cases c11 : x.op = [124, 124]
  · rw [if_pos c11]
    by_cases d : q.1 = 0
    · rw [if_neg (fun h => h d), hz]; exact ⟨_, rfl, truth_in _, htr, z3⟩
    · rw [if_pos d]; exact ⟨_, rfl, truth_in true, fun h => absurd rfl h, q3⟩
  rw [if_neg c11, hz]
  refine ⟨_, rfl, ?_, ?_, z3⟩
  · dsimp only; split
    · exact applyV_in q1
    · exact in0
  · dsimp only; split
    · exact applyV_er _ _ _
    · exact fun _ => rfl
theorem runV_some : ∀ (t : Tr) (vs : List Vr), t.ok → VK vs → ∃ r, runV t vs = some r ∧ RP r
  | .num n, vs, h, hv => by rw [runV]; exact evalN_some hv (fun _ => ⟨by have := h.1; simp only [node]; omega, h.2⟩) (fun e => absurd rfl e) (fun e => absurd rfl e) (fun e => by simp [node] at e)
  | .var s, vs, h, hv => by rw [runV]; exact evalN_some hv (fun e => by simp [node] at e) (fun _ e => absurd rfl e) (fun _ e => absurd rfl e) (fun e => by simp [node] at e)
  | .asg o n t, vs, h, hv => by
    rw [runV]
    exact evalN_some hv (fun e => absurd e (asg_op h.1).1) (fun _ _ u hu => runV_some t u h.2.2 hu) (fun _ _ e => by have := h.2.1; unfold Nm at this; rw [show n = [] from e] at this; exact absurd this.1 (by decide)) (fun e => by have h3 := h.1; rw [show o = [63] from e] at h3; exact absurd h3 (by decide))
  | .un o t, vs, h, hv => by
    rw [runV]
    have hu : ∀ o, o ∈ unL → (117 :: o : Bytes) = [117, 43] ∨ (117 :: o : Bytes) = [117, 45] ∨ (117 :: o : Bytes) = [117, 33] ∨ (117 :: o : Bytes) = [117, 126] := by decide
    refine evalN_some hv (fun e => absurd e (un_op h.1).1) (fun _ _ u hu => runV_some t u h.2 hu) (fun _ _ _ e1 e2 e3 e4 => ?_) (fun e => by simp at e)
    rcases hu o h.1 with e | e | e | e
    · exact absurd e e1
    · exact absurd e e2
    · exact absurd e e3
    · exact absurd e e4
  | .cnd a b c, vs, h, hv => by
    rw [runV]
    exact evalN_some hv (fun e => by simp at e) (fun _ _ u hu => runV_some a u h.1 hu) (fun _ _ _ _ _ _ _ u hu => runV_some b u h.2.1 hu) (fun _ u hu => runV_some c u h.2.2 hu)
  | .bin o a b, vs, h, hv => by
    rw [runV]
    exact evalN_some hv (fun e => absurd e (lv_op h.1).1) (fun _ _ u hu => runV_some a u h.2.1 hu) (fun _ _ _ _ _ _ _ u hu => runV_some b u h.2.2 hu) (fun e => absurd e (lv_op h.1).2.2.2.2)

theorem RAssign_spec {vs : List Vr} {Av : Option Addr} {cv : Nat} {Dv : Nat → Prop} {w : World} {a : Int} {r : Rs} {x : Nd} {us : List Value} {D : Nat → Prop} (hv : Sl prE w Dv Av vs) (hx : ndE.R w D x us) (hvk : VK vs) (hl : vs.length ≤ 100000000) (hxo : x.op ∈ asgL) (hr : asgV x.op x.name a vs = some r) : CallR Tryz.prog 32 #[.agg ⟨us⟩, .int .i64 a, .slice Av vs.length cv] w fun v w' => (∃ A cap, v = .tuple ⟨[.int .i64 r.1, .slice A r.2.1.length cap, .int .i64 r.2.2]⟩ ∧ Sl prE w' (fun _ => True) A r.2.1) ∧ Chg [] w w' := by
 obtain ⟨K, cx, rfl, hk1, hk2, hk3⟩ := hx
 unfold asgV at hr
 replace hv := hv.mono (D' := fun k => k < w.heap.size) (fun k hk _ => hk)
 have hxl := asg_len hxo
 refine callR_of_wp (args := [_, _, _]) Tryz.func32 rfl (Nat.le_of_ble_eq_true rfl) ?_
 have HC : Chg [] w w := .refl _
 refine sr rfl <| Wp rfl <| st_box (v := .agg ⟨[S _, .int _ _, S _, .slice _ _ _]⟩) (vs := [_, _, _, _]) rfl rfl ?_
 intro b3 w1 e2 c3 hb4
 have ge_b3 : w.heap.size ≤ b3 := by rw [e2]; exact HC.size
 have nf_hv_b3 : vs = [] ∨ b3 ∉ ob (Av) := hv.fresh (by rw [e2]; exact Nat.le_refl _)
 replace HC := HC.then c3
 replace hv := hv.tr0 c3
 clear e2
 refine aI rfl <| aL rfl <| aI rfl <| en <| x_seq <| sr rfl <| fa T.fld38_0 rfl <| lS T.one9 rfl (hb4.cell rfl) <| Wp rfl <| st_sneq rfl rfl <| en <| x_cond rfl (fun h0 => ?_) (fun h0 => ?_)
 ·try simp only [nm, ne_eq] at h0
  have h00 : x.op ≠ [61] := by simpa using h0
  obtain ⟨htr, htn, hx2⟩ := asg_trim hxo h00
  rw [if_neg htn] at hr
  refine sr rfl <| mL rfl <| fa T.fld38_2 rfl <| lS T.one9 rfl (hb4.cell rfl) <| Wp rfl <| st_call (ags := [_, _]) rfl rfl T.ent31 rfl (RGet_spec x.name hv (by omega)) ?_
  rintro _ w5 ⟨rfl, c6⟩
  replace HC := HC.then c6
  replace hv := hv.tr0 c6
  replace hb4 := hb4.tr0 c6
  refine Wp rfl <| st_call (ags := [_]) rfl rfl T.ent30 rfl (RValue_spec _ _ (getR_len hvk.2)) ?_
  rintro vg w7 ⟨hvg, c8⟩
  rw [← getV_R hvk.1] at hvg
  subst hvg
  replace HC := HC.then c8
  replace hv := hv.tr0 c8
  replace hb4 := hb4.tr0 c8
  refine mv (v := .tuple ⟨[_, _]⟩) rfl <| Wp rfl <| st_extract (vs := [_, _]) (v := .int _ _) rfl rfl <| Wp rfl <| st_extract (vs := [_, _]) (v := .int _ _) rfl rfl <| aI rfl <| aI rfl <| en <| x_seq <| sr rfl <| mI rfl <| Wp rfl <| st_neq rfl rfl <| en <| x_cond rfl (fun h1 => ?_) (fun h1 => ?_)
  ·try simp only [nm, ne_eq] at h1
   rw [if_pos h1] at hr
   obtain rfl := Option.some.inj hr
   refine sr rfl <| mL rfl <| mI rfl <| aI rfl <| aL rfl <| aI rfl <| en <| x_ret <| then_r <| then_r <| ret_tmp3 (v := .int _ _) (v2 := .slice _ _ _) (v3 := .int _ _) rfl rfl rfl rfl ?_
   exact ⟨⟨_, _, rfl, hv.mono (fun _ _ _ => trivial)⟩, HC⟩
  ·try simp only [nm, ne_eq] at h1
   rw [if_neg (fun h => h h1)] at hr
   refine x_skip <| then_n <| sr rfl <| fa T.fld38_0 rfl <| lS T.one9 rfl (hb4.cell rfl) <| fa T.fld38_0 rfl <| lS T.one9 rfl (hb4.cell rfl) <| Wp rfl <| st_slen (ct := #[9]) T.u9 rfl <| Wp rfl <| st_subk rfl rfl (by exact (show IntKind.i64.wrap _ = ((x.op.length - 1 : Nat) : Int) by rw [wrap64_id (by omega) (by omega)]; omega)) <| Wp rfl <| st_sshi (j := x.op.length - 1) T.u9 rfl ⟨_, rfl⟩ (by omega) <| mI rfl <| mI rfl <| Wp rfl <| st_call (ags := [_, _, _]) rfl rfl T.ent34 rfl (RApply_spec _ _ _ _) ?_
   rintro va w9 ⟨hva, c10⟩
   rw [← htr] at hva
   subst hva
   replace HC := HC.then c10
   replace hv := hv.tr0 c10
   replace hb4 := hb4.tr0 c10
   refine mv (v := .tuple ⟨[_, _]⟩) rfl <| Wp rfl <| st_extract (vs := [_, _]) (v := .int _ _) rfl rfl <| Wp rfl <| st_extract (vs := [_, _]) (v := .int _ _) rfl rfl <| aI rfl <| aI rfl <| en <| x_seq <| sr rfl <| mI rfl <| Wp rfl <| st_neq rfl rfl <| en <| x_cond rfl (fun h2 => ?_) (fun h2 => ?_)
   ·try simp only [nm, ne_eq] at h2
    rw [if_pos h2] at hr
    obtain rfl := Option.some.inj hr
    refine sr rfl <| mL rfl <| mI rfl <| aI rfl <| aL rfl <| aI rfl <| en <| x_ret <| then_r <| then_r <| ret_tmp3 (v := .int _ _) (v2 := .slice _ _ _) (v3 := .int _ _) rfl rfl rfl rfl ?_
    exact ⟨⟨_, _, rfl, hv.mono (fun _ _ _ => trivial)⟩, HC⟩
   ·try simp only [nm, ne_eq] at h2
    rw [if_neg (fun h => h h2)] at hr
    refine x_skip <| then_n <| x_region rfl <| mI rfl <| aI rfl <| en <| x_seq ?_
    obtain ⟨qv, hset, hr⟩ := obind hr
    obtain rfl := Option.some.inj hr
    unfold putV at hset
    have hsc := Classical.byContradiction (fun hn => by rw [if_neg hn] at hset; cases hset)
    rw [if_pos hsc] at hset
    obtain rfl := Option.some.inj hset
    refine x_draw [(0, 0), (1, 0), (2, 0), (3, 0), (4, 0), (5, 1), (6, 1), (7, 0), (8, 0), (9, 0)] T.mixed rfl rfl rfl (fun W => W.heap[b3]? = w9.heap[b3]? ∧ True) ⟨rfl, trivial⟩ ?_
    have o13 := hb4
    have c12 := Chg.drew w9
    generalize World.drew w9 = w11 at c12 ⊢
    replace HC := HC.then c12
    replace hv := hv.tr0 c12
    replace hb4 := hb4.tr0 c12
    refine sq_q rfl (fun W hT => r_move (v := .int _ _) rfl) <| sq_q rfl (fun W hT => r_move (v := .slice _ _ _) rfl) <| sq_q rfl (fun W hT => r_fieldAddr T.fld38_2 rfl) <| sq_q rfl (fun W hT => r_load1 (v := S _) T.one9 rfl (Blk.cell (show Blk W b3 _ _ from hT.1.trans o13) rfl)) <| sq_q rfl (fun W hT => r_move (v := .int _ _) rfl) <| sq_call1 rfl (r_call (ags := [_]) rfl rfl T.ent53 rfl) (RText_spec _ hsc.1 hsc.2 _) ?_
    rintro _ w14 ⟨rfl, c15⟩
    replace HC := HC.then c15
    replace hv := hv.tr0 c15
    replace hb4 := hb4.tr0 c15
    refine ⟨_, fun _ h => h, ⟨(Eq.trans hb4 o13.symm), trivial⟩, ?_⟩
    refine sq_call1 rfl (r_call (ags := [_, _, _]) rfl rfl T.ent52 rfl) (RSet_spec x.name (textV (applyV (Lib.trimSuffix x.op [61]) (getV vs x.name).1 a).1) hv hvk.1 (by omega)) ?_
    rintro vS w16 ⟨⟨A2, cap2, hS, hs2⟩, c17⟩
    rw [← putL_T] at hs2 hS
    subst hS
    replace HC := HC.then c17
    replace hv := hv.tr0 c17
    replace hb4 := hb4.tr0 c17
    refine ⟨_, fun _ h => h, ⟨(Eq.trans hb4 o13.symm), trivial⟩, ?_⟩
    refine sq_q rfl (fun W hT => r_assign (v := .int _ _) rfl) <| sq_q rfl (fun W hT => r_assign (v := .slice _ _ _) rfl) <| sq_q rfl (fun W hT => r_assign (v := .int _ _) rfl) ?_
    clear o13
    refine sq_nil <| then_n <| x_ret <| ret_tmp3 (v := .int _ _) (v2 := .slice _ _ _) (v3 := .int _ _) rfl rfl rfl rfl ?_
    exact ⟨⟨A2, cap2, rfl, hs2⟩, HC⟩
 ·try simp only [nm, ne_eq] at h0
  have h00 : x.op = [61] := by simpa using h0
  rw [h00, if_pos asg_trim1] at hr
  refine x_skip <| then_n <| x_seq ?_
  obtain ⟨qv, hset, hr⟩ := obind hr
  obtain rfl := Option.some.inj hr
  unfold putV at hset
  have hsc := Classical.byContradiction (fun hn => by rw [if_neg hn] at hset; cases hset)
  rw [if_pos hsc] at hset
  obtain rfl := Option.some.inj hset
  refine x_draw [(0, 0), (1, 0), (2, 0), (3, 0), (4, 0), (5, 1), (6, 1), (7, 0), (8, 0), (9, 0)] T.mixed rfl rfl rfl (fun W => W.heap[b3]? = w1.heap[b3]? ∧ True) ⟨rfl, trivial⟩ ?_
  have o20 := hb4
  have c19 := Chg.drew w1
  generalize World.drew w1 = w18 at c19 ⊢
  replace HC := HC.then c19
  replace hv := hv.tr0 c19
  replace hb4 := hb4.tr0 c19
  refine sq_q rfl (fun W hT => r_move (v := .int _ _) rfl) <| sq_q rfl (fun W hT => r_move (v := .slice _ _ _) rfl) <| sq_q rfl (fun W hT => r_fieldAddr T.fld38_2 rfl) <| sq_q rfl (fun W hT => r_load1 (v := S _) T.one9 rfl (Blk.cell (show Blk W b3 _ _ from hT.1.trans o20) rfl)) <| sq_q rfl (fun W hT => r_move (v := .int _ _) rfl) <| sq_call1 rfl (r_call (ags := [_]) rfl rfl T.ent53 rfl) (RText_spec _ hsc.1 hsc.2 _) ?_
  rintro _ w21 ⟨rfl, c22⟩
  replace HC := HC.then c22
  replace hv := hv.tr0 c22
  replace hb4 := hb4.tr0 c22
  refine ⟨_, fun _ h => h, ⟨(Eq.trans hb4 o20.symm), trivial⟩, ?_⟩
  refine sq_call1 rfl (r_call (ags := [_, _, _]) rfl rfl T.ent52 rfl) (RSet_spec x.name (textV a) hv hvk.1 (by omega)) ?_
  rintro vS w23 ⟨⟨A2, cap2, hS, hs2⟩, c24⟩
  rw [← putL_T] at hs2 hS
  subst hS
  replace HC := HC.then c24
  replace hv := hv.tr0 c24
  replace hb4 := hb4.tr0 c24
  refine ⟨_, fun _ h => h, ⟨(Eq.trans hb4 o20.symm), trivial⟩, ?_⟩
  refine sq_q rfl (fun W hT => r_assign (v := .int _ _) rfl) <| sq_q rfl (fun W hT => r_assign (v := .slice _ _ _) rfl) <| sq_q rfl (fun W hT => r_assign (v := .int _ _) rfl) ?_
  clear o20
  refine sq_nil <| then_n <| x_ret <| ret_tmp3 (v := .int _ _) (v2 := .slice _ _ _) (v3 := .int _ _) rfl rfl rfl rfl ?_
  exact ⟨⟨A2, cap2, rfl, hs2⟩, HC⟩

end Go.Proofs.YtmbbhgglllfelaaGreatDoor.K
