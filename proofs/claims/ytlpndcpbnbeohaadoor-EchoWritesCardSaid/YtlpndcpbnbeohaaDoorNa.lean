/- The document: Echo, escapes. -/
import Derived.Test.YtlpndcpbnbeohaaDoorEm
set_option linter.unusedVariables false
set_option linter.unusedSimpArgs false
set_option autoImplicit false
set_option maxRecDepth 20000
namespace Go.Proofs.YtlpndcpbnbeohaaDoor.K
open Go Go.Proofs Go.RowKit

theorem join_snoc {l : List Bytes} {x : Bytes} {i : Nat} (h : l[i]? = some x) (hi : 0 < i) : Lib.join (l.take (i + 1)) [32] = Lib.join (l.take i) [32] ++ [32] ++ x := by
  cases l with
  | nil => simp at h
  | cons y l =>
    obtain ⟨j, rfl⟩ : ∃ j, i = j + 1 := ⟨i - 1, by omega⟩
    rw [List.getElem?_cons_succ] at h
    rw [List.take_succ_cons, List.take_succ_cons, Lib.join_cons, Lib.join_cons, Lib.joinTail_take_succ _ _ _ _ h]
    simp
theorem join_first {l : List Bytes} {x : Bytes} {i : Nat} (h : l[i]? = some x) (hi : ¬ (0 : Int) < (i : Int)) : Lib.join (l.take (i + 1)) [32] = Lib.join (l.take i) [32] ++ x := by
  obtain rfl : i = 0 := by omega
  cases l with
  | nil => simp at h
  | cons y l => obtain rfl := Option.some.inj h; show Lib.join [y] [32] = Lib.join [] [32] ++ y; rw [Lib.join_one, Lib.join_nil]; rfl
theorem join_len : ∀ (l : List Bytes), (Lib.join l [32]).length ≤ tot l + l.length
  | [] => Nat.zero_le _
  | [x] => by rw [Lib.join_one]; show _ ≤ (x.length + 0) + 1; omega
  | x :: y :: l => by
    have h := join_len (y :: l)
    rw [Lib.join_cons] at h ⊢
    have e : Lib.joinTail [32] (y :: l) = [32] ++ y ++ Lib.joinTail [32] l := by simp [Lib.joinTail]
    rw [e]
    simp only [List.length_append, List.length_cons, List.length_nil, tot] at h ⊢; omega
theorem tot_tail (l : List Bytes) : tot l.tail ≤ tot l := by cases l with | nil => exact Nat.le_refl _ | cons x l => show tot l ≤ x.length + tot l; omega
theorem esc_tab : ((List.range 256).all fun n => decide (0 ≤ idx [97, 98, 116, 110, 118, 102, 114, 92] (UInt8.ofNat n)) == (n == 97 || n == 98 || n == 116 || n == 110 || n == 118 || n == 102 || n == 114 || n == 92)) = true := by kernel_rfl
theorem esc_no {c : UInt8} (h1 : ¬ (c.toNat : Int) = 97) (h2 : ¬ (c.toNat : Int) = 98) (h3 : ¬ (c.toNat : Int) = 116) (h4 : ¬ (c.toNat : Int) = 110) (h5 : ¬ (c.toNat : Int) = 118) (h6 : ¬ (c.toNat : Int) = 102) (h7 : ¬ (c.toNat : Int) = 114) (h8 : ¬ (c.toNat : Int) = 92) : ¬ 0 ≤ idx [97, 98, 116, 110, 118, 102, 114, 92] c := by
  have h := beq_iff_eq.1 (List.all_eq_true.1 esc_tab c.toNat (List.mem_range.2 c.toNat_lt))
  rw [UInt8.ofNat_toNat] at h
  have e : (c.toNat == 97 || c.toNat == 98 || c.toNat == 116 || c.toNat == 110 || c.toNat == 118 || c.toNat == 102 || c.toNat == 114 || c.toNat == 92) = false := by
    simp only [Bool.or_eq_false_iff, beq_eq_false_iff_ne]; omega
  rw [e] at h
  exact of_decide_eq_false h
theorem esc_yes {s : Bytes} {arg : Bool} (x y : UInt8) (hl : ¬ (s.length : Int) < 2) (h : ((byte s 1).toNat : Int) = (x.toNat : Int)) (hi : (decide (0 ≤ idx [97, 98, 116, 110, 118, 102, 114, 92] x) && decide (byte [7, 8, 9, 10, 11, 12, 13, 92] (idx [97, 98, 116, 110, 118, 102, 114, 92] x).toNat = y)) = true) : escV s arg = (y, 2) := by
  have e : byte s 1 = x := UInt8.toNat_inj.1 (by omega)
  simp only [Bool.and_eq_true, decide_eq_true_eq] at hi
  unfold escV
  rw [if_neg (by omega), e, if_pos hi.1, hi.2]
/-- An escape, as the document has it. -/
def rescV (s : Bytes) (arg : Bool) : UInt8 × Int × Bool := if (escV s arg).2 < 0 then (0, 2, true) else ((escV s arg).1, (escV s arg).2, false)
theorem rescV_ok {s : Bytes} {arg : Bool} {c : UInt8} {n : Int} (h : escV s arg = (c, n)) (hn : 0 ≤ n) : rescV s arg = (c, n, false) := by
  unfold rescV; rw [h]; simp only; rw [if_neg (by omega)]
theorem rescV_no {s : Bytes} {arg : Bool} {c : UInt8} (h : escV s arg = (c, -1)) : rescV s arg = (0, 2, true) := by
  unfold rescV; rw [h]; rfl
theorem oct_range {c : UInt8} (h : octB c = true) : 48 ≤ c.toNat ∧ c.toNat ≤ 55 := by unfold octB at h; exact of_decide_eq_true h
theorem wrapu8_mod (m : Nat) : IntKind.u8.wrap ((m % 256 : Nat) : Int) = (((UInt8.ofNat (m % 256)).toNat : Nat) : Int) := by
  rw [u8_ofNat (by omega), wrapu8_id (by omega) (by omega)]

theorem roct_spec (c : UInt8) (w : World) : CallR Tryd.prog 34 #[.int .u8 (c.toNat : Int)] w fun v w' => v = .bool (octB c) ∧ Chg [] w w' := by
 refine callR_of_wp (args := [_]) Tryd.func34 rfl (Nat.le_of_ble_eq_true rfl) ?_
 have HC : Chg [] w w := .refl _
 refine sr rfl <| aB rfl <| en <| sr rfl <| mI rfl <| Wp rfl <| st_geq rfl rfl <| mB rfl <| w_split (d := 5) rfl (fun g1 => ?_) (fun g1 => ?_)
 ·try simp only [nm, ne_eq] at g1
  refine w_yes 2 5 true <| st_move (v := .int _ _) rfl <| w_yes 2 5 true <| st_leq rfl rfl <| pT rfl rfl <| aB rfl <| en <| x_ret <| ret_tmp (v := .bool _) rfl rfl <| ⟨congrArg Value.bool ?_, HC⟩
  unfold octB
  first | (rw [decide_eq_decide]; omega) | (symm; rw [decide_eq_false_iff_not]; omega) | (symm; rw [decide_eq_true_eq]; omega)
 ·try simp only [nm, ne_eq] at g1
  refine w_no 2 5 true <| w_no 2 5 true <| pF rfl rfl <| aB rfl <| en <| x_ret <| ret_tmp (v := .bool _) rfl rfl <| ⟨congrArg Value.bool ?_, HC⟩
  unfold octB
  first | (rw [decide_eq_decide]; omega) | (symm; rw [decide_eq_false_iff_not]; omega) | (symm; rw [decide_eq_true_eq]; omega)

theorem REcho_spec {A : Option Addr} {c : Nat} {Dl : Nat → Prop} {args : List Bytes} {w : World} (hl : Sl sE w Dl A args) (hc : args.length ≤ c) (ht : tot args ≤ 2000) (hn : args.length ≤ 30) : CallR Tryd.prog 14 #[.slice A args.length c] w fun v w' => v = S (echoV args) ∧ Chg [] w w' := by
 replace hl := hl.mono (D' := fun k => k < w.heap.size) (fun k hk _ => hk)
 refine callR_of_wp (args := [_]) Tryd.func14 rfl (Nat.le_of_ble_eq_true rfl) ?_
 have HC : Chg [] w w := .refl _
 refine sr rfl <| aS rfl <| en <| sr rfl <| aS rfl <| en <| x_seq <| sr rfl <| mL rfl <| Wp rfl <| st_len (ct := #[22]) (by rw [show ((#[22] : Array TypeId)[0]?).bind Tryd.prog.underlying = some (.slice 9) from T.u22]; rfl) rfl <| Wp rfl <| st_gtr rfl rfl <| mB rfl <| w_split (d := 9) rfl (fun g1 => ?_) (fun g1 => ?_)
 ·try simp only [nm, ne_eq] at g1
  obtain ⟨f, l, rfl⟩ : ∃ f l, args = f :: l := by cases args with | nil => simp_all | cons a l => exact ⟨a, l, rfl⟩
  refine w_yes 3 9 true <| st_move (v := .slice _ _ _) rfl ?_
  obtain ⟨lb6, _, vs5, hA2, hR4, hC3⟩ := hl.at (i := 0) (x := f) (rfl)
  obtain rfl : vs5 = [S f] := hR4
  refine w_yes 3 9 true <| st_indexAddr T.u22 T.size9 (congrArg (fun z => Value.slice z _ _) hA2) rfl (by decide) (by (simp only [List.length_cons]; omega)) <| w_yes 3 9 true <| st_load1 (v := S _) T.one9 rfl (hC3.at (j := 0) rfl) <| w_yes 3 9 true <| st_seql rfl rfl <| pT rfl rfl <| en <| x_cond rfl (fun h0 => ?_) (fun h0 => ?_)
  ·try simp only [nm, ne_eq] at h0
   have hf9 : f = [45, 110] := by first | assumption | simp_all
   have htx : tot l ≤ 2000 ∧ l.length ≤ 30 := by have h9 : tot (f :: l) = f.length + tot l := rfl; simp only [List.length_cons] at hn; omega
   refine sr rfl <| aS rfl <| en <| x_region rfl <| mL rfl <| Wp rfl <| st_slice (i := 1) (j := _) T.u22 T.size9 rfl ⟨_, rfl⟩ (by rfl) (by (simp only [List.length_cons]; omega)) (by exact hc) <| aL rfl <| en <| x_seq ?_
   have hl5 := sl_tail hl rfl hc
   have hle9 : (f :: l).length - 1 = l.length := rfl
   refine x_region rfl <| aS rfl <| en <| x_seq <| sr rfl <| aI rfl <| en <| x_block <| x_loop (ι := Nat) [4, 5, 17, 18, 19, 20, 21, 22, 23, 24, 25, 26, 27, 28, 29, 30, 31, 32] (fun i => [(5, .int .i64 (i : Int)), (4, S (Lib.join (l.take i) [32]))]) (fun i W => (i ≤ l.length) ∧ (Chg [] w W) ∧ (Sl sE W (fun k => k < w.heap.size) (if c = 1 then A else A.map (·.add (1 * 1))) l)) (fun i => l.length - i) 0 ?_ ?_ ?_
   · exact ⟨rfl, rfl, trivial⟩
   ·refine ⟨?_, HC, hl5⟩
    exact Nat.zero_le _
   intro i G8 w7 ⟨hi, HC, hl5⟩
   change wp _ _ _ _ _ (upds (over _ _ G8) [(5, .int .i64 (i : Int)), (4, S (Lib.join (l.take i) [32]))]) _ _
   refine x_seq <| sr rfl <| mI rfl <| mL rfl <| Wp rfl <| st_len (ct := #[22]) (by rw [show ((#[22] : Array TypeId)[0]?).bind Tryd.prog.underlying = some (.slice 9) from T.u22]; rfl) rfl <| Wp rfl <| st_lss rfl rfl <| en <| x_cond rfl (fun h1 => ?_) (fun h1 => ?_)
   ·try simp only [nm, ne_eq] at h1
    obtain ⟨y, hy⟩ : ∃ y, l[i]? = some y := ⟨_, List.getElem?_eq_getElem (by omega)⟩
    have hjl := join_len (l.take i)
    have htt := tot_take l i
    have hlt := List.length_take_le i l
    have hyl := tot_mem (List.mem_of_getElem? hy)
    refine x_skip <| then_n <| x_seq <| x_block <| x_seq <| sr rfl <| mI rfl <| Wp rfl <| st_gtr rfl rfl <| en <| x_cond rfl (fun h2 => ?_) (fun h2 => ?_)
    ·try simp only [nm, ne_eq] at h2
     refine x_region rfl <| mS rfl <| Wp rfl <| st_sadd rfl rfl (by (simp only [List.length_cons, List.length_nil]; omega)) <| aS rfl <| en <| x_region rfl <| mS rfl <| mL rfl <| mI rfl ?_
     obtain ⟨lb13, _, vs12, hA9, hR11, hC10⟩ := hl5.at (i := i) (x := y) (hy)
     obtain rfl : vs12 = [S y] := hR11
     refine Wp rfl <| st_indexAddr T.u22 T.size9 (congrArg (fun z => Value.slice z _ _) hA9) rfl (by omega) (by omega) <| lS T.one9 rfl (hC10.at (j := 0) rfl) <| Wp rfl <| st_sadd rfl rfl (by ((try simp only [List.length_append, List.length_cons, List.length_nil]); omega)) <| aS rfl <| wops_nil <| block_n <| then_n <| x_region rfl <| mI rfl <| Wp rfl <| st_addn rfl rfl (by constructor <;> omega) <| aI rfl <| en <| ⟨i + 1, ?_, ?_, rfl, ⟨rfl, (congrArg S (join_snoc hy (by omega)).symm), trivial⟩, ?_⟩
     ·refine ⟨?_, HC, hl5⟩
      exact (by omega)
     ·show l.length - (i + 1) < l.length - i; omega
     repeat (first | exact agree_upds agree_over rfl | refine agree_upd ?_ rfl | refine agree_upds ?_ rfl | refine agree_over_sub ?_ rfl)
    ·try simp only [nm, ne_eq] at h2
     refine x_skip <| then_n <| x_region rfl <| mS rfl <| mL rfl <| mI rfl ?_
     obtain ⟨lb18, _, vs17, hA14, hR16, hC15⟩ := hl5.at (i := i) (x := y) (hy)
     obtain rfl : vs17 = [S y] := hR16
     refine Wp rfl <| st_indexAddr T.u22 T.size9 (congrArg (fun z => Value.slice z _ _) hA14) rfl (by omega) (by omega) <| lS T.one9 rfl (hC15.at (j := 0) rfl) <| Wp rfl <| st_sadd rfl rfl (by ((try simp only [List.length_append, List.length_cons, List.length_nil]); omega)) <| aS rfl <| wops_nil <| block_n <| then_n <| x_region rfl <| mI rfl <| Wp rfl <| st_addn rfl rfl (by constructor <;> omega) <| aI rfl <| en <| ⟨i + 1, ?_, ?_, rfl, ⟨rfl, (congrArg S (join_first hy (by assumption)).symm), trivial⟩, ?_⟩
     ·refine ⟨?_, HC, hl5⟩
      exact (by omega)
     ·show l.length - (i + 1) < l.length - i; omega
     repeat (first | exact agree_upds agree_over rfl | refine agree_upd ?_ rfl | refine agree_upds ?_ rfl | refine agree_over_sub ?_ rfl)
   ·try simp only [nm, ne_eq] at h1
    obtain rfl : i = l.length := by omega
    rw [List.take_length]
    have hjl := join_len l
    refine x_exit <| then_x <| then_x <| block_x <| then_n <| sr rfl <| mS rfl <| mS rfl <| Wp rfl <| st_sadd rfl rfl (by (simp only [List.length_cons, List.length_nil]; omega)) <| aS rfl <| en <| x_ret <| ret_tmp (v := S _) rfl rfl <| ⟨congrArg S ?_, HC⟩
    unfold echoV; rw [if_pos ⟨by simp, by assumption⟩]
    first | done | rfl | simp
  ·try simp only [nm, ne_eq] at h0
   have htx : tot (f :: l) ≤ 2000 ∧ (f :: l).length ≤ 30 := ⟨ht, hn⟩
   refine x_skip <| then_n <| x_seq ?_
   have hl5 := hl
   refine x_region rfl <| aS rfl <| en <| x_seq <| sr rfl <| aI rfl <| en <| x_block <| x_loop (ι := Nat) [4, 5, 17, 18, 19, 20, 21, 22, 23, 24, 25, 26, 27, 28, 29, 30, 31, 32] (fun i => [(5, .int .i64 (i : Int)), (4, S (Lib.join ((f :: l).take i) [32]))]) (fun i W => (i ≤ (f :: l).length) ∧ (Chg [] w W) ∧ (Sl sE W (fun k => k < w.heap.size) A (f :: l))) (fun i => (f :: l).length - i) 0 ?_ ?_ ?_
   · exact ⟨rfl, rfl, trivial⟩
   ·refine ⟨?_, HC, hl5⟩
    exact Nat.zero_le _
   intro i G20 w19 ⟨hi, HC, hl5⟩
   change wp _ _ _ _ _ (upds (over _ _ G20) [(5, .int .i64 (i : Int)), (4, S (Lib.join ((f :: l).take i) [32]))]) _ _
   refine x_seq <| sr rfl <| mI rfl <| mL rfl <| Wp rfl <| st_len (ct := #[22]) (by rw [show ((#[22] : Array TypeId)[0]?).bind Tryd.prog.underlying = some (.slice 9) from T.u22]; rfl) rfl <| Wp rfl <| st_lss rfl rfl <| en <| x_cond rfl (fun h1 => ?_) (fun h1 => ?_)
   ·try simp only [nm, ne_eq] at h1
    obtain ⟨y, hy⟩ : ∃ y, (f :: l)[i]? = some y := ⟨_, List.getElem?_eq_getElem (by omega)⟩
    have hjl := join_len ((f :: l).take i)
    have htt := tot_take (f :: l) i
    have hlt := List.length_take_le i (f :: l)
    have hyl := tot_mem (List.mem_of_getElem? hy)
    refine x_skip <| then_n <| x_seq <| x_block <| x_seq <| sr rfl <| mI rfl <| Wp rfl <| st_gtr rfl rfl <| en <| x_cond rfl (fun h2 => ?_) (fun h2 => ?_)
    ·try simp only [nm, ne_eq] at h2
     refine x_region rfl <| mS rfl <| Wp rfl <| st_sadd rfl rfl (by (simp only [List.length_cons, List.length_nil]; omega)) <| aS rfl <| en <| x_region rfl <| mS rfl <| mL rfl <| mI rfl ?_
     obtain ⟨lb25, _, vs24, hA21, hR23, hC22⟩ := hl5.at (i := i) (x := y) (hy)
     obtain rfl : vs24 = [S y] := hR23
     refine Wp rfl <| st_indexAddr T.u22 T.size9 (congrArg (fun z => Value.slice z _ _) hA21) rfl (by omega) (by omega) <| lS T.one9 rfl (hC22.at (j := 0) rfl) <| Wp rfl <| st_sadd rfl rfl (by ((try simp only [List.length_append, List.length_cons, List.length_nil]); omega)) <| aS rfl <| wops_nil <| block_n <| then_n <| x_region rfl <| mI rfl <| Wp rfl <| st_addn rfl rfl (by constructor <;> omega) <| aI rfl <| en <| ⟨i + 1, ?_, ?_, rfl, ⟨rfl, (congrArg S (join_snoc hy (by omega)).symm), trivial⟩, ?_⟩
     ·refine ⟨?_, HC, hl5⟩
      exact (by omega)
     ·show (f :: l).length - (i + 1) < (f :: l).length - i; omega
     repeat (first | exact agree_upds agree_over rfl | refine agree_upd ?_ rfl | refine agree_upds ?_ rfl | refine agree_over_sub ?_ rfl)
    ·try simp only [nm, ne_eq] at h2
     refine x_skip <| then_n <| x_region rfl <| mS rfl <| mL rfl <| mI rfl ?_
     obtain ⟨lb30, _, vs29, hA26, hR28, hC27⟩ := hl5.at (i := i) (x := y) (hy)
     obtain rfl : vs29 = [S y] := hR28
     refine Wp rfl <| st_indexAddr T.u22 T.size9 (congrArg (fun z => Value.slice z _ _) hA26) rfl (by omega) (by omega) <| lS T.one9 rfl (hC27.at (j := 0) rfl) <| Wp rfl <| st_sadd rfl rfl (by ((try simp only [List.length_append, List.length_cons, List.length_nil]); omega)) <| aS rfl <| wops_nil <| block_n <| then_n <| x_region rfl <| mI rfl <| Wp rfl <| st_addn rfl rfl (by constructor <;> omega) <| aI rfl <| en <| ⟨i + 1, ?_, ?_, rfl, ⟨rfl, (congrArg S (join_first hy (by assumption)).symm), trivial⟩, ?_⟩
     ·refine ⟨?_, HC, hl5⟩
      exact (by omega)
     ·show (f :: l).length - (i + 1) < (f :: l).length - i; omega
     repeat (first | exact agree_upds agree_over rfl | refine agree_upd ?_ rfl | refine agree_upds ?_ rfl | refine agree_over_sub ?_ rfl)
   ·try simp only [nm, ne_eq] at h1
    obtain rfl : i = (f :: l).length := by omega
    rw [List.take_length]
    have hjl := join_len (f :: l)
    refine x_exit <| then_x <| then_x <| block_x <| then_n <| sr rfl <| mS rfl <| mS rfl <| Wp rfl <| st_sadd rfl rfl (by (simp only [List.length_cons, List.length_nil]; omega)) <| aS rfl <| en <| x_ret <| ret_tmp (v := S _) rfl rfl <| ⟨congrArg S ?_, HC⟩
    unfold echoV; rw [if_neg (by rintro ⟨h8, h9⟩; simp_all [hdS])]
    first | done | rfl | simp
 ·try simp only [nm, ne_eq] at g1
  obtain rfl : args = [] := List.length_eq_zero_iff.1 (by omega)
  iterate 4 refine w_no 3 9 true ?_
  refine pF rfl rfl <| en <| x_cond (t := false) rfl (fun h0 => ?_) (fun h0 => ?_)
  · exact absurd h0 (by decide)
  have htx : tot ([] : List Bytes) ≤ 2000 ∧ ([] : List Bytes).length ≤ 30 := ⟨ht, hn⟩
  refine x_skip <| then_n <| x_seq ?_
  have hl5 := hl
  refine x_region rfl <| aS rfl <| en <| x_seq <| sr rfl <| aI rfl <| en <| x_block <| x_loop (ι := Nat) [4, 5, 17, 18, 19, 20, 21, 22, 23, 24, 25, 26, 27, 28, 29, 30, 31, 32] (fun i => [(5, .int .i64 (i : Int)), (4, S (Lib.join (([] : List Bytes).take i) [32]))]) (fun i W => (i ≤ ([] : List Bytes).length) ∧ (Chg [] w W) ∧ (Sl sE W (fun k => k < w.heap.size) A ([] : List Bytes))) (fun i => ([] : List Bytes).length - i) 0 ?_ ?_ ?_
  · exact ⟨rfl, rfl, trivial⟩
  ·refine ⟨?_, HC, hl5⟩
   exact Nat.zero_le _
  intro i G32 w31 ⟨hi, HC, hl5⟩
  change wp _ _ _ _ _ (upds (over _ _ G32) [(5, .int .i64 (i : Int)), (4, S (Lib.join (([] : List Bytes).take i) [32]))]) _ _
  refine x_seq <| sr rfl <| mI rfl <| mL rfl <| Wp rfl <| st_len (ct := #[22]) (by rw [show ((#[22] : Array TypeId)[0]?).bind Tryd.prog.underlying = some (.slice 9) from T.u22]; rfl) rfl <| Wp rfl <| st_lss rfl rfl <| en <| x_cond rfl (fun h1 => ?_) (fun h1 => ?_)
  ·try simp only [nm, ne_eq] at h1
   obtain ⟨y, hy⟩ : ∃ y, ([] : List Bytes)[i]? = some y := ⟨_, List.getElem?_eq_getElem (by omega)⟩
   have hjl := join_len (([] : List Bytes).take i)
   have htt := tot_take ([] : List Bytes) i
   have hlt := List.length_take_le i ([] : List Bytes)
   have hyl := tot_mem (List.mem_of_getElem? hy)
   refine x_skip <| then_n <| x_seq <| x_block <| x_seq <| sr rfl <| mI rfl <| Wp rfl <| st_gtr rfl rfl <| en <| x_cond rfl (fun h2 => ?_) (fun h2 => ?_)
   ·try simp only [nm, ne_eq] at h2
    refine x_region rfl <| mS rfl <| Wp rfl <| st_sadd rfl rfl (by (simp only [List.length_cons, List.length_nil]; omega)) <| aS rfl <| en <| x_region rfl <| mS rfl <| mL rfl <| mI rfl ?_
    obtain ⟨lb37, _, vs36, hA33, hR35, hC34⟩ := hl5.at (i := i) (x := y) (hy)
    obtain rfl : vs36 = [S y] := hR35
    refine Wp rfl <| st_indexAddr T.u22 T.size9 (congrArg (fun z => Value.slice z _ _) hA33) rfl (by omega) (by omega) <| lS T.one9 rfl (hC34.at (j := 0) rfl) <| Wp rfl <| st_sadd rfl rfl (by ((try simp only [List.length_append, List.length_cons, List.length_nil]); omega)) <| aS rfl <| wops_nil <| block_n <| then_n <| x_region rfl <| mI rfl <| Wp rfl <| st_addn rfl rfl (by constructor <;> omega) <| aI rfl <| en <| ⟨i + 1, ?_, ?_, rfl, ⟨rfl, (congrArg S (join_snoc hy (by omega)).symm), trivial⟩, ?_⟩
    ·refine ⟨?_, HC, hl5⟩
     exact (by omega)
    ·show ([] : List Bytes).length - (i + 1) < ([] : List Bytes).length - i; omega
    repeat (first | exact agree_upds agree_over rfl | refine agree_upd ?_ rfl | refine agree_upds ?_ rfl | refine agree_over_sub ?_ rfl)
   ·try simp only [nm, ne_eq] at h2
    refine x_skip <| then_n <| x_region rfl <| mS rfl <| mL rfl <| mI rfl ?_
    obtain ⟨lb42, _, vs41, hA38, hR40, hC39⟩ := hl5.at (i := i) (x := y) (hy)
    obtain rfl : vs41 = [S y] := hR40
    refine Wp rfl <| st_indexAddr T.u22 T.size9 (congrArg (fun z => Value.slice z _ _) hA38) rfl (by omega) (by omega) <| lS T.one9 rfl (hC39.at (j := 0) rfl) <| Wp rfl <| st_sadd rfl rfl (by ((try simp only [List.length_append, List.length_cons, List.length_nil]); omega)) <| aS rfl <| wops_nil <| block_n <| then_n <| x_region rfl <| mI rfl <| Wp rfl <| st_addn rfl rfl (by constructor <;> omega) <| aI rfl <| en <| ⟨i + 1, ?_, ?_, rfl, ⟨rfl, (congrArg S (join_first hy (by assumption)).symm), trivial⟩, ?_⟩
    ·refine ⟨?_, HC, hl5⟩
     exact (by omega)
    ·show ([] : List Bytes).length - (i + 1) < ([] : List Bytes).length - i; omega
    repeat (first | exact agree_upds agree_over rfl | refine agree_upd ?_ rfl | refine agree_upds ?_ rfl | refine agree_over_sub ?_ rfl)
  ·try simp only [nm, ne_eq] at h1
   obtain rfl : i = ([] : List Bytes).length := by omega
   rw [List.take_length]
   have hjl := join_len ([] : List Bytes)
   refine x_exit <| then_x <| then_x <| block_x <| then_n <| sr rfl <| mS rfl <| mS rfl <| Wp rfl <| st_sadd rfl rfl (by (simp only [List.length_cons, List.length_nil]; omega)) <| aS rfl <| en <| x_ret <| ret_tmp (v := S _) rfl rfl <| ⟨congrArg S ?_, HC⟩
   unfold echoV; rw [if_neg (by rintro ⟨h8, h9⟩; simp_all [hdS])]
   first | done | rfl | simp

theorem resc_spec (s : Bytes) (arg : Bool) (w : World) (hs : s.length ≤ 9223372036854775807) : CallR Tryd.prog 22 #[S s, .bool arg] w fun v w' => v = .tuple ⟨[.int .u8 ((rescV s arg).1.toNat : Int), .int .i64 (rescV s arg).2.1, .bool (rescV s arg).2.2]⟩ ∧ Chg [] w w' := by
 refine callR_of_wp (args := [_, _]) Tryd.func22 rfl (Nat.le_of_ble_eq_true rfl) ?_
 have HC : Chg [] w w := .refl _
 refine sr rfl <| aI rfl <| aI rfl <| aB rfl <| en <| x_seq <| sr rfl <| mS rfl <| Wp rfl <| st_slen (ct := #[9]) T.u9 rfl <| Wp rfl <| st_lss rfl rfl <| en <| x_cond rfl (fun h0 => ?_) (fun h0 => ?_)
 ·try simp only [nm, ne_eq] at h0
  have hev : rescV s arg = (92, 1, false) := rescV_ok (by unfold escV; rw [if_pos (by omega)]) (by decide)
  refine sr rfl <| aI rfl <| aI rfl <| aB rfl <| en <| x_ret <| then_r <| ret_tmp3 (v := .int _ _) (v2 := .int _ _) (v3 := .bool _) rfl rfl rfl rfl ?_
  rw [hev]
  exact ⟨rfl, HC⟩
 ·try simp only [nm, ne_eq] at h0
  refine x_skip <| then_n <| x_seq <| sr rfl <| mS rfl <| Wp rfl <| st_sidx T.u9 rfl rfl (by omega) (by omega) <| en <| x_block <| sr rfl <| Wp rfl <| st_eql rfl rfl <| aB rfl <| en <| x_cond rfl (fun h1 => ?_) (fun h1 => ?_)
  ·try simp only [nm, ne_eq] at h1
   have hev := rescV_ok (esc_yes (s := s) (arg := arg) 97 7 (by omega) (by assumption) (by kernel_rfl)) (by decide)
   refine sr rfl <| aI rfl <| aI rfl <| aB rfl <| en <| x_ret <| block_r <| then_r <| ret_tmp3 (v := .int _ _) (v2 := .int _ _) (v3 := .bool _) rfl rfl rfl rfl ?_
   rw [hev]
   exact ⟨rfl, HC⟩
  ·try simp only [nm, ne_eq] at h1
   refine sr rfl <| Wp rfl <| st_eql rfl rfl <| aB rfl <| en <| x_cond rfl (fun h2 => ?_) (fun h2 => ?_)
   ·try simp only [nm, ne_eq] at h2
    have hev := rescV_ok (esc_yes (s := s) (arg := arg) 98 8 (by omega) (by assumption) (by kernel_rfl)) (by decide)
    refine sr rfl <| aI rfl <| aI rfl <| aB rfl <| en <| x_ret <| block_r <| then_r <| ret_tmp3 (v := .int _ _) (v2 := .int _ _) (v3 := .bool _) rfl rfl rfl rfl ?_
    rw [hev]
    exact ⟨rfl, HC⟩
   ·try simp only [nm, ne_eq] at h2
    refine sr rfl <| Wp rfl <| st_eql rfl rfl <| aB rfl <| en <| x_cond rfl (fun h3 => ?_) (fun h3 => ?_)
    ·try simp only [nm, ne_eq] at h3
     have hev := rescV_ok (esc_yes (s := s) (arg := arg) 116 9 (by omega) (by assumption) (by kernel_rfl)) (by decide)
     refine sr rfl <| aI rfl <| aI rfl <| aB rfl <| en <| x_ret <| block_r <| then_r <| ret_tmp3 (v := .int _ _) (v2 := .int _ _) (v3 := .bool _) rfl rfl rfl rfl ?_
     rw [hev]
     exact ⟨rfl, HC⟩
    ·try simp only [nm, ne_eq] at h3
     refine sr rfl <| Wp rfl <| st_eql rfl rfl <| aB rfl <| en <| x_cond rfl (fun h4 => ?_) (fun h4 => ?_)
     ·try simp only [nm, ne_eq] at h4
      have hev := rescV_ok (esc_yes (s := s) (arg := arg) 110 10 (by omega) (by assumption) (by kernel_rfl)) (by decide)
      refine sr rfl <| aI rfl <| aI rfl <| aB rfl <| en <| x_ret <| block_r <| then_r <| ret_tmp3 (v := .int _ _) (v2 := .int _ _) (v3 := .bool _) rfl rfl rfl rfl ?_
      rw [hev]
      exact ⟨rfl, HC⟩
     ·try simp only [nm, ne_eq] at h4
      refine sr rfl <| Wp rfl <| st_eql rfl rfl <| aB rfl <| en <| x_cond rfl (fun h5 => ?_) (fun h5 => ?_)
      ·try simp only [nm, ne_eq] at h5
       have hev := rescV_ok (esc_yes (s := s) (arg := arg) 118 11 (by omega) (by assumption) (by kernel_rfl)) (by decide)
       refine sr rfl <| aI rfl <| aI rfl <| aB rfl <| en <| x_ret <| block_r <| then_r <| ret_tmp3 (v := .int _ _) (v2 := .int _ _) (v3 := .bool _) rfl rfl rfl rfl ?_
       rw [hev]
       exact ⟨rfl, HC⟩
      ·try simp only [nm, ne_eq] at h5
       refine sr rfl <| Wp rfl <| st_eql rfl rfl <| aB rfl <| en <| x_cond rfl (fun h6 => ?_) (fun h6 => ?_)
       ·try simp only [nm, ne_eq] at h6
        have hev := rescV_ok (esc_yes (s := s) (arg := arg) 102 12 (by omega) (by assumption) (by kernel_rfl)) (by decide)
        refine sr rfl <| aI rfl <| aI rfl <| aB rfl <| en <| x_ret <| block_r <| then_r <| ret_tmp3 (v := .int _ _) (v2 := .int _ _) (v3 := .bool _) rfl rfl rfl rfl ?_
        rw [hev]
        exact ⟨rfl, HC⟩
       ·try simp only [nm, ne_eq] at h6
        refine sr rfl <| Wp rfl <| st_eql rfl rfl <| aB rfl <| en <| x_cond rfl (fun h7 => ?_) (fun h7 => ?_)
        ·try simp only [nm, ne_eq] at h7
         have hev := rescV_ok (esc_yes (s := s) (arg := arg) 114 13 (by omega) (by assumption) (by kernel_rfl)) (by decide)
         refine sr rfl <| aI rfl <| aI rfl <| aB rfl <| en <| x_ret <| block_r <| then_r <| ret_tmp3 (v := .int _ _) (v2 := .int _ _) (v3 := .bool _) rfl rfl rfl rfl ?_
         rw [hev]
         exact ⟨rfl, HC⟩
        ·try simp only [nm, ne_eq] at h7
         refine sr rfl <| Wp rfl <| st_eql rfl rfl <| aB rfl <| en <| x_cond rfl (fun h8 => ?_) (fun h8 => ?_)
         ·try simp only [nm, ne_eq] at h8
          have hev := rescV_ok (esc_yes (s := s) (arg := arg) 92 92 (by omega) (by assumption) (by kernel_rfl)) (by decide)
          refine sr rfl <| aI rfl <| aI rfl <| aB rfl <| en <| x_ret <| block_r <| then_r <| ret_tmp3 (v := .int _ _) (v2 := .int _ _) (v3 := .bool _) rfl rfl rfl rfl ?_
          rw [hev]
          exact ⟨rfl, HC⟩
         ·try simp only [nm, ne_eq] at h8
          refine sr rfl <| Wp rfl <| st_eql rfl rfl <| aB rfl <| en <| x_cond rfl (fun h9 => ?_) (fun h9 => ?_)
          ·try simp only [nm, ne_eq] at h9
           refine sr rfl <| mB rfl <| en <| x_cond rfl (fun h10 => ?_) (fun h10 => ?_)
           ·try simp only [nm, ne_eq] at h10
            have hev : rescV s arg = (0, 2, true) := rescV_no (c := 0) (by unfold escV; rw [if_neg (by omega), if_neg (esc_no (by assumption) (by assumption) (by assumption) (by assumption) (by assumption) (by assumption) (by assumption) (by assumption)), if_pos ⟨by assumption, by first | assumption | simp_all⟩])
            refine sr rfl <| aI rfl <| aI rfl <| aB rfl <| en <| x_ret <| block_r <| then_r <| ret_tmp3 (v := .int _ _) (v2 := .int _ _) (v3 := .bool _) rfl rfl rfl rfl ?_
            rw [hev]
            exact ⟨rfl, HC⟩
           ·try simp only [nm, ne_eq] at h10
            refine x_skip <| block_n <| then_n <| x_seq <| x_seq ?_
            have hni : ¬ 0 ≤ idx [97, 98, 116, 110, 118, 102, 114, 92] (byte s 1) := esc_no (by assumption) (by assumption) (by assumption) (by assumption) (by assumption) (by assumption) (by assumption) (by assumption)
            have hnc : ¬ (((byte s 1).toNat : Int) = 99 ∧ arg = true) := by rintro ⟨h8, h9⟩; simp_all
            refine x_region rfl <| mS rfl <| Wp rfl <| st_sidx T.u9 rfl rfl (by omega) (by omega) <| Wp rfl <| st_call (ags := [_]) rfl rfl T.ent34 rfl (roct_spec _ _) ?_
            rintro _ w1 ⟨rfl, c2⟩
            replace HC := HC.then c2
            refine Wp rfl <| st_not rfl <| en <| x_cond rfl (fun h11 => ?_) (fun h11 => ?_)
            ·try simp only [nm, ne_eq] at h11
             have hev : rescV s arg = (92, 1, false) := rescV_ok (by unfold escV; rw [if_neg (by omega), if_neg hni, if_neg hnc, if_pos (by first | assumption | simp_all)]) (by decide)
             refine sr rfl <| aI rfl <| aI rfl <| aB rfl <| en <| x_ret <| then_r <| ret_tmp3 (v := .int _ _) (v2 := .int _ _) (v3 := .bool _) rfl rfl rfl rfl ?_
             rw [hev]
             exact ⟨rfl, HC⟩
            ·try simp only [nm, ne_eq] at h11
             have ho1 : octB (byte s 1) = true := by first | assumption | simp_all
             refine x_skip <| then_n <| sr rfl <| aI rfl <| en <| sr rfl <| aI rfl <| en <| x_seq <| sr rfl <| mB rfl <| mB rfl <| w_split (d := 39) rfl (fun g3 => ?_) (fun g3 => ?_)
             ·try simp only [nm, ne_eq] at g3
              refine w_yes 1 39 true <| st_move (v := S _) rfl <| w_yes 1 39 true <| st_sidx T.u9 rfl rfl (by omega) (by omega) <| w_yes 1 39 true <| st_eql rfl rfl <| pT rfl rfl <| en <| x_cond rfl (fun h12 => ?_) (fun h12 => ?_)
              ·try simp only [nm, ne_eq] at h12
               refine x_region rfl <| aI rfl <| en <| x_seq ?_
               have hen : escN s arg = 5 := by unfold escN; rw [if_pos ⟨by first | assumption | simp_all, by assumption⟩]
               refine x_region rfl <| aI rfl <| en <| x_seq <| x_block <| x_loop (ι := Nat × Nat) [7, 9, 44, 45, 46, 47, 48, 49, 50, 51, 52, 53, 54, 55, 56, 57, 58, 59, 60, 61, 62, 63, 64, 65, 66, 67, 68] (fun ⟨k, m⟩ => [(7, .int .i64 (k : Int)), (9, .int .i64 (m : Int))]) (fun ⟨k, m⟩ W => (1 ≤ k ∧ k ≤ 5 ∧ k ≤ s.length ∧ m < 8 ^ (k - 1) ∧ octF (5 - 1) (s.drop 1) 0 = ((octF (5 - k) (s.drop k) (m % 256)).1, (octF (5 - k) (s.drop k) (m % 256)).2 + (k - 1))) ∧ (Chg [] w W)) (fun ⟨k, m⟩ => 5 - k) (1, 0) ?_ ?_ ?_
               · exact ⟨rfl, rfl, trivial⟩
               ·refine ⟨?_, HC⟩
                exact ⟨Nat.le_refl _, by decide, by omega, by decide, rfl⟩
               intro ⟨k, m⟩ G5 w4 ⟨⟨hk1, hk2, hk3, hm, hof⟩, HC⟩
               change wp _ _ _ _ _ (upds (over _ _ G5) [(7, .int .i64 (k : Int)), (9, .int .i64 (m : Int))]) _ _
               have hp8 : 8 ^ (k - 1) ≤ 4096 := Nat.le_trans (Nat.pow_le_pow_right (by decide) (show k - 1 ≤ 4 by omega)) (by decide)
               have hps : 8 ^ (k + 1 - 1) = 8 ^ (k - 1) * 8 := by rw [show k + 1 - 1 = (k - 1) + 1 by omega, Nat.pow_succ]
               refine x_seq <| sr rfl <| mI rfl <| mS rfl <| Wp rfl <| st_slen (ct := #[9]) T.u9 rfl <| Wp rfl <| st_lss rfl rfl <| mB rfl <| w_split (d := 48) rfl (fun g6 => ?_) (fun g6 => ?_)
               ·try simp only [nm, ne_eq] at g6
                refine w_yes 4 48 true <| st_move (v := .int _ _) rfl <| w_yes 4 48 true <| st_move (v := .int _ _) rfl <| w_yes 4 48 true <| st_lss rfl rfl <| pT rfl rfl <| mB rfl <| w_split (d := 53) rfl (fun g7 => ?_) (fun g7 => ?_)
                ·try simp only [nm, ne_eq] at g7
                 refine w_yes 9 53 true <| st_move (v := S _) rfl <| w_yes 9 53 true <| st_move (v := .int _ _) rfl <| w_yes 9 53 true <| st_sidx T.u9 rfl rfl (by omega) (by omega) <| w_yes 9 53 true <| st_call (ags := [_]) rfl rfl T.ent34 rfl (roct_spec _ _) ?_
                 rintro _ w8 ⟨rfl, c9⟩
                 replace HC := HC.then c9
                 refine pT rfl rfl <| en <| x_cond rfl (fun h13 => ?_) (fun h13 => ?_)
                 ·try simp only [nm, ne_eq] at h13
                  have hob : octB (byte s k) = true := by first | assumption | simp_all
                  have hor := oct_range hob
                  refine x_skip <| then_n <| x_block <| sr rfl <| mI rfl <| Wp rfl <| st_mulk rfl rfl (by exact (show _ = ((m * 8 : Nat) : Int) by rw [wrap64_id (by omega) (by omega)]; omega)) <| mS rfl <| mI rfl <| Wp rfl <| st_sidx T.u9 rfl rfl (by omega) (by omega) <| Wp rfl <| st_subk rfl rfl (by exact (show _ = (((byte s k).toNat - 48 : Nat) : Int) by (try rw [Int.toNat_natCast]); rw [wrapu8_id (by omega) (by omega)]; omega)) <| Wp rfl <| st_convk T.u5 T.u3 rfl (by exact wrap64_id (by omega) (by omega)) <| Wp rfl <| st_addk rfl rfl (by exact (show _ = ((m * 8 + ((byte s k).toNat - 48) : Nat) : Int) by rw [wrap64_id (by omega) (by omega)]; omega)) <| aI rfl <| en <| x_region rfl <| mI rfl <| Wp rfl <| st_addn rfl rfl (by constructor <;> omega) <| aI rfl <| wops_nil <| block_n <| then_n <| ⟨(k + 1, m * 8 + ((byte s k).toNat - 48)), ?_, ?_, rfl, ⟨rfl, rfl, trivial⟩, ?_⟩
                  ·refine ⟨?_, HC⟩
                   exact ⟨by omega, by omega, by omega, by rw [hps]; omega, by rw [hof, octF_on (by omega) (by omega) hob, show m % 256 * 8 % 256 + ((byte s k).toNat - 48) = (m * 8 + ((byte s k).toNat - 48)) % 256 by omega]; ext <;> simp only <;> omega⟩
                  ·show 5 - (k + 1) < 5 - k; omega
                  repeat (first | exact agree_upds agree_over rfl | refine agree_upd ?_ rfl | refine agree_upds ?_ rfl | refine agree_over_sub ?_ rfl)
                 ·try simp only [nm, ne_eq] at h13
                  have hev1 : octF (5 - 1) (s.drop 1) 0 = (m % 256, k - 1) := by rw [hof, octF_off (by first | omega | (right; right; first | assumption | simp_all))]; simp
                  have hev : rescV s arg = (UInt8.ofNat (m % 256), (k : Int), false) := rescV_ok (by unfold escV; rw [if_neg (by omega), if_neg hni, if_neg hnc, if_neg (by rw [ho1]; decide), hen, hev1]; simp only [Prod.mk.injEq, true_and]; omega) (by omega)
                  refine x_exit <| then_x <| then_x <| block_x <| then_n <| sr rfl <| mI rfl <| Wp rfl <| st_remk rfl rfl (by decide) (by exact (show _ = ((m % 256 : Nat) : Int) by rw [Int.tmod_eq_emod_of_nonneg (by omega)]; omega)) <| Wp rfl <| st_convk T.u3 T.u5 rfl (by exact wrapu8_mod m) <| mI rfl <| aI rfl <| aI rfl <| aB rfl <| en <| x_ret <| ret_tmp3 (v := .int _ _) (v2 := .int _ _) (v3 := .bool _) rfl rfl rfl rfl ?_
                  rw [hev]
                  exact ⟨rfl, HC⟩
                ·try simp only [nm, ne_eq] at g7
                 iterate 4 refine w_no 9 53 true ?_
                 refine pF rfl rfl <| en <| x_cond (t := false) rfl (fun h13 => ?_) (fun h13 => ?_)
                 · exact absurd h13 (by decide)
                 have hev1 : octF (5 - 1) (s.drop 1) 0 = (m % 256, k - 1) := by rw [hof, octF_off (by first | omega | (right; right; first | assumption | simp_all))]; simp
                 have hev : rescV s arg = (UInt8.ofNat (m % 256), (k : Int), false) := rescV_ok (by unfold escV; rw [if_neg (by omega), if_neg hni, if_neg hnc, if_neg (by rw [ho1]; decide), hen, hev1]; simp only [Prod.mk.injEq, true_and]; omega) (by omega)
                 refine x_exit <| then_x <| then_x <| block_x <| then_n <| sr rfl <| mI rfl <| Wp rfl <| st_remk rfl rfl (by decide) (by exact (show _ = ((m % 256 : Nat) : Int) by rw [Int.tmod_eq_emod_of_nonneg (by omega)]; omega)) <| Wp rfl <| st_convk T.u3 T.u5 rfl (by exact wrapu8_mod m) <| mI rfl <| aI rfl <| aI rfl <| aB rfl <| en <| x_ret <| ret_tmp3 (v := .int _ _) (v2 := .int _ _) (v3 := .bool _) rfl rfl rfl rfl ?_
                 rw [hev]
                 exact ⟨rfl, HC⟩
               ·try simp only [nm, ne_eq] at g6
                iterate 3 refine w_no 4 48 true ?_
                refine pF rfl rfl <| mB rfl ?_
                iterate 4 refine w_no 9 53 true ?_
                refine pF rfl rfl <| en <| x_cond (t := false) rfl (fun h13 => ?_) (fun h13 => ?_)
                · exact absurd h13 (by decide)
                have hev1 : octF (5 - 1) (s.drop 1) 0 = (m % 256, k - 1) := by rw [hof, octF_off (by first | omega | (right; right; first | assumption | simp_all))]; simp
                have hev : rescV s arg = (UInt8.ofNat (m % 256), (k : Int), false) := rescV_ok (by unfold escV; rw [if_neg (by omega), if_neg hni, if_neg hnc, if_neg (by rw [ho1]; decide), hen, hev1]; simp only [Prod.mk.injEq, true_and]; omega) (by omega)
                refine x_exit <| then_x <| then_x <| block_x <| then_n <| sr rfl <| mI rfl <| Wp rfl <| st_remk rfl rfl (by decide) (by exact (show _ = ((m % 256 : Nat) : Int) by rw [Int.tmod_eq_emod_of_nonneg (by omega)]; omega)) <| Wp rfl <| st_convk T.u3 T.u5 rfl (by exact wrapu8_mod m) <| mI rfl <| aI rfl <| aI rfl <| aB rfl <| en <| x_ret <| ret_tmp3 (v := .int _ _) (v2 := .int _ _) (v3 := .bool _) rfl rfl rfl rfl ?_
                rw [hev]
                exact ⟨rfl, HC⟩
              ·try simp only [nm, ne_eq] at h12
               refine x_skip <| then_n <| x_seq ?_
               have hen : escN s arg = 4 := by unfold escN; rw [if_neg (by rintro ⟨h8, h9⟩; simp_all)]
               refine x_region rfl <| aI rfl <| en <| x_seq <| x_block <| x_loop (ι := Nat × Nat) [7, 9, 44, 45, 46, 47, 48, 49, 50, 51, 52, 53, 54, 55, 56, 57, 58, 59, 60, 61, 62, 63, 64, 65, 66, 67, 68] (fun ⟨k, m⟩ => [(7, .int .i64 (k : Int)), (9, .int .i64 (m : Int))]) (fun ⟨k, m⟩ W => (1 ≤ k ∧ k ≤ 4 ∧ k ≤ s.length ∧ m < 8 ^ (k - 1) ∧ octF (4 - 1) (s.drop 1) 0 = ((octF (4 - k) (s.drop k) (m % 256)).1, (octF (4 - k) (s.drop k) (m % 256)).2 + (k - 1))) ∧ (Chg [] w W)) (fun ⟨k, m⟩ => 4 - k) (1, 0) ?_ ?_ ?_
               · exact ⟨rfl, rfl, trivial⟩
               ·refine ⟨?_, HC⟩
                exact ⟨Nat.le_refl _, by decide, by omega, by decide, rfl⟩
               intro ⟨k, m⟩ G11 w10 ⟨⟨hk1, hk2, hk3, hm, hof⟩, HC⟩
               change wp _ _ _ _ _ (upds (over _ _ G11) [(7, .int .i64 (k : Int)), (9, .int .i64 (m : Int))]) _ _
               have hp8 : 8 ^ (k - 1) ≤ 4096 := Nat.le_trans (Nat.pow_le_pow_right (by decide) (show k - 1 ≤ 4 by omega)) (by decide)
               have hps : 8 ^ (k + 1 - 1) = 8 ^ (k - 1) * 8 := by rw [show k + 1 - 1 = (k - 1) + 1 by omega, Nat.pow_succ]
               refine x_seq <| sr rfl <| mI rfl <| mS rfl <| Wp rfl <| st_slen (ct := #[9]) T.u9 rfl <| Wp rfl <| st_lss rfl rfl <| mB rfl <| w_split (d := 48) rfl (fun g12 => ?_) (fun g12 => ?_)
               ·try simp only [nm, ne_eq] at g12
                refine w_yes 4 48 true <| st_move (v := .int _ _) rfl <| w_yes 4 48 true <| st_move (v := .int _ _) rfl <| w_yes 4 48 true <| st_lss rfl rfl <| pT rfl rfl <| mB rfl <| w_split (d := 53) rfl (fun g13 => ?_) (fun g13 => ?_)
                ·try simp only [nm, ne_eq] at g13
                 refine w_yes 9 53 true <| st_move (v := S _) rfl <| w_yes 9 53 true <| st_move (v := .int _ _) rfl <| w_yes 9 53 true <| st_sidx T.u9 rfl rfl (by omega) (by omega) <| w_yes 9 53 true <| st_call (ags := [_]) rfl rfl T.ent34 rfl (roct_spec _ _) ?_
                 rintro _ w14 ⟨rfl, c15⟩
                 replace HC := HC.then c15
                 refine pT rfl rfl <| en <| x_cond rfl (fun h13 => ?_) (fun h13 => ?_)
                 ·try simp only [nm, ne_eq] at h13
                  have hob : octB (byte s k) = true := by first | assumption | simp_all
                  have hor := oct_range hob
                  refine x_skip <| then_n <| x_block <| sr rfl <| mI rfl <| Wp rfl <| st_mulk rfl rfl (by exact (show _ = ((m * 8 : Nat) : Int) by rw [wrap64_id (by omega) (by omega)]; omega)) <| mS rfl <| mI rfl <| Wp rfl <| st_sidx T.u9 rfl rfl (by omega) (by omega) <| Wp rfl <| st_subk rfl rfl (by exact (show _ = (((byte s k).toNat - 48 : Nat) : Int) by (try rw [Int.toNat_natCast]); rw [wrapu8_id (by omega) (by omega)]; omega)) <| Wp rfl <| st_convk T.u5 T.u3 rfl (by exact wrap64_id (by omega) (by omega)) <| Wp rfl <| st_addk rfl rfl (by exact (show _ = ((m * 8 + ((byte s k).toNat - 48) : Nat) : Int) by rw [wrap64_id (by omega) (by omega)]; omega)) <| aI rfl <| en <| x_region rfl <| mI rfl <| Wp rfl <| st_addn rfl rfl (by constructor <;> omega) <| aI rfl <| wops_nil <| block_n <| then_n <| ⟨(k + 1, m * 8 + ((byte s k).toNat - 48)), ?_, ?_, rfl, ⟨rfl, rfl, trivial⟩, ?_⟩
                  ·refine ⟨?_, HC⟩
                   exact ⟨by omega, by omega, by omega, by rw [hps]; omega, by rw [hof, octF_on (by omega) (by omega) hob, show m % 256 * 8 % 256 + ((byte s k).toNat - 48) = (m * 8 + ((byte s k).toNat - 48)) % 256 by omega]; ext <;> simp only <;> omega⟩
                  ·show 4 - (k + 1) < 4 - k; omega
                  repeat (first | exact agree_upds agree_over rfl | refine agree_upd ?_ rfl | refine agree_upds ?_ rfl | refine agree_over_sub ?_ rfl)
                 ·try simp only [nm, ne_eq] at h13
                  have hev1 : octF (4 - 1) (s.drop 1) 0 = (m % 256, k - 1) := by rw [hof, octF_off (by first | omega | (right; right; first | assumption | simp_all))]; simp
                  have hev : rescV s arg = (UInt8.ofNat (m % 256), (k : Int), false) := rescV_ok (by unfold escV; rw [if_neg (by omega), if_neg hni, if_neg hnc, if_neg (by rw [ho1]; decide), hen, hev1]; simp only [Prod.mk.injEq, true_and]; omega) (by omega)
                  refine x_exit <| then_x <| then_x <| block_x <| then_n <| sr rfl <| mI rfl <| Wp rfl <| st_remk rfl rfl (by decide) (by exact (show _ = ((m % 256 : Nat) : Int) by rw [Int.tmod_eq_emod_of_nonneg (by omega)]; omega)) <| Wp rfl <| st_convk T.u3 T.u5 rfl (by exact wrapu8_mod m) <| mI rfl <| aI rfl <| aI rfl <| aB rfl <| en <| x_ret <| ret_tmp3 (v := .int _ _) (v2 := .int _ _) (v3 := .bool _) rfl rfl rfl rfl ?_
                  rw [hev]
                  exact ⟨rfl, HC⟩
                ·try simp only [nm, ne_eq] at g13
                 iterate 4 refine w_no 9 53 true ?_
                 refine pF rfl rfl <| en <| x_cond (t := false) rfl (fun h13 => ?_) (fun h13 => ?_)
                 · exact absurd h13 (by decide)
                 have hev1 : octF (4 - 1) (s.drop 1) 0 = (m % 256, k - 1) := by rw [hof, octF_off (by first | omega | (right; right; first | assumption | simp_all))]; simp
                 have hev : rescV s arg = (UInt8.ofNat (m % 256), (k : Int), false) := rescV_ok (by unfold escV; rw [if_neg (by omega), if_neg hni, if_neg hnc, if_neg (by rw [ho1]; decide), hen, hev1]; simp only [Prod.mk.injEq, true_and]; omega) (by omega)
                 refine x_exit <| then_x <| then_x <| block_x <| then_n <| sr rfl <| mI rfl <| Wp rfl <| st_remk rfl rfl (by decide) (by exact (show _ = ((m % 256 : Nat) : Int) by rw [Int.tmod_eq_emod_of_nonneg (by omega)]; omega)) <| Wp rfl <| st_convk T.u3 T.u5 rfl (by exact wrapu8_mod m) <| mI rfl <| aI rfl <| aI rfl <| aB rfl <| en <| x_ret <| ret_tmp3 (v := .int _ _) (v2 := .int _ _) (v3 := .bool _) rfl rfl rfl rfl ?_
                 rw [hev]
                 exact ⟨rfl, HC⟩
               ·try simp only [nm, ne_eq] at g12
                iterate 3 refine w_no 4 48 true ?_
                refine pF rfl rfl <| mB rfl ?_
                iterate 4 refine w_no 9 53 true ?_
                refine pF rfl rfl <| en <| x_cond (t := false) rfl (fun h13 => ?_) (fun h13 => ?_)
                · exact absurd h13 (by decide)
                have hev1 : octF (4 - 1) (s.drop 1) 0 = (m % 256, k - 1) := by rw [hof, octF_off (by first | omega | (right; right; first | assumption | simp_all))]; simp
                have hev : rescV s arg = (UInt8.ofNat (m % 256), (k : Int), false) := rescV_ok (by unfold escV; rw [if_neg (by omega), if_neg hni, if_neg hnc, if_neg (by rw [ho1]; decide), hen, hev1]; simp only [Prod.mk.injEq, true_and]; omega) (by omega)
                refine x_exit <| then_x <| then_x <| block_x <| then_n <| sr rfl <| mI rfl <| Wp rfl <| st_remk rfl rfl (by decide) (by exact (show _ = ((m % 256 : Nat) : Int) by rw [Int.tmod_eq_emod_of_nonneg (by omega)]; omega)) <| Wp rfl <| st_convk T.u3 T.u5 rfl (by exact wrapu8_mod m) <| mI rfl <| aI rfl <| aI rfl <| aB rfl <| en <| x_ret <| ret_tmp3 (v := .int _ _) (v2 := .int _ _) (v3 := .bool _) rfl rfl rfl rfl ?_
                rw [hev]
                exact ⟨rfl, HC⟩
             ·try simp only [nm, ne_eq] at g3
              iterate 3 refine w_no 1 39 true ?_
              refine pF rfl rfl <| en <| x_cond (t := false) rfl (fun h12 => ?_) (fun h12 => ?_)
              · exact absurd h12 (by decide)
              refine x_skip <| then_n <| x_seq ?_
              have hen : escN s arg = 4 := by unfold escN; rw [if_neg (by rintro ⟨h8, h9⟩; simp_all)]
              refine x_region rfl <| aI rfl <| en <| x_seq <| x_block <| x_loop (ι := Nat × Nat) [7, 9, 44, 45, 46, 47, 48, 49, 50, 51, 52, 53, 54, 55, 56, 57, 58, 59, 60, 61, 62, 63, 64, 65, 66, 67, 68] (fun ⟨k, m⟩ => [(7, .int .i64 (k : Int)), (9, .int .i64 (m : Int))]) (fun ⟨k, m⟩ W => (1 ≤ k ∧ k ≤ 4 ∧ k ≤ s.length ∧ m < 8 ^ (k - 1) ∧ octF (4 - 1) (s.drop 1) 0 = ((octF (4 - k) (s.drop k) (m % 256)).1, (octF (4 - k) (s.drop k) (m % 256)).2 + (k - 1))) ∧ (Chg [] w W)) (fun ⟨k, m⟩ => 4 - k) (1, 0) ?_ ?_ ?_
              · exact ⟨rfl, rfl, trivial⟩
              ·refine ⟨?_, HC⟩
               exact ⟨Nat.le_refl _, by decide, by omega, by decide, rfl⟩
              intro ⟨k, m⟩ G17 w16 ⟨⟨hk1, hk2, hk3, hm, hof⟩, HC⟩
              change wp _ _ _ _ _ (upds (over _ _ G17) [(7, .int .i64 (k : Int)), (9, .int .i64 (m : Int))]) _ _
              have hp8 : 8 ^ (k - 1) ≤ 4096 := Nat.le_trans (Nat.pow_le_pow_right (by decide) (show k - 1 ≤ 4 by omega)) (by decide)
              have hps : 8 ^ (k + 1 - 1) = 8 ^ (k - 1) * 8 := by rw [show k + 1 - 1 = (k - 1) + 1 by omega, Nat.pow_succ]
              refine x_seq <| sr rfl <| mI rfl <| mS rfl <| Wp rfl <| st_slen (ct := #[9]) T.u9 rfl <| Wp rfl <| st_lss rfl rfl <| mB rfl <| w_split (d := 48) rfl (fun g18 => ?_) (fun g18 => ?_)
              ·try simp only [nm, ne_eq] at g18
               refine w_yes 4 48 true <| st_move (v := .int _ _) rfl <| w_yes 4 48 true <| st_move (v := .int _ _) rfl <| w_yes 4 48 true <| st_lss rfl rfl <| pT rfl rfl <| mB rfl <| w_split (d := 53) rfl (fun g19 => ?_) (fun g19 => ?_)
               ·try simp only [nm, ne_eq] at g19
                refine w_yes 9 53 true <| st_move (v := S _) rfl <| w_yes 9 53 true <| st_move (v := .int _ _) rfl <| w_yes 9 53 true <| st_sidx T.u9 rfl rfl (by omega) (by omega) <| w_yes 9 53 true <| st_call (ags := [_]) rfl rfl T.ent34 rfl (roct_spec _ _) ?_
                rintro _ w20 ⟨rfl, c21⟩
                replace HC := HC.then c21
                refine pT rfl rfl <| en <| x_cond rfl (fun h13 => ?_) (fun h13 => ?_)
                ·try simp only [nm, ne_eq] at h13
                 have hob : octB (byte s k) = true := by first | assumption | simp_all
                 have hor := oct_range hob
                 refine x_skip <| then_n <| x_block <| sr rfl <| mI rfl <| Wp rfl <| st_mulk rfl rfl (by exact (show _ = ((m * 8 : Nat) : Int) by rw [wrap64_id (by omega) (by omega)]; omega)) <| mS rfl <| mI rfl <| Wp rfl <| st_sidx T.u9 rfl rfl (by omega) (by omega) <| Wp rfl <| st_subk rfl rfl (by exact (show _ = (((byte s k).toNat - 48 : Nat) : Int) by (try rw [Int.toNat_natCast]); rw [wrapu8_id (by omega) (by omega)]; omega)) <| Wp rfl <| st_convk T.u5 T.u3 rfl (by exact wrap64_id (by omega) (by omega)) <| Wp rfl <| st_addk rfl rfl (by exact (show _ = ((m * 8 + ((byte s k).toNat - 48) : Nat) : Int) by rw [wrap64_id (by omega) (by omega)]; omega)) <| aI rfl <| en <| x_region rfl <| mI rfl <| Wp rfl <| st_addn rfl rfl (by constructor <;> omega) <| aI rfl <| wops_nil <| block_n <| then_n <| ⟨(k + 1, m * 8 + ((byte s k).toNat - 48)), ?_, ?_, rfl, ⟨rfl, rfl, trivial⟩, ?_⟩
                 ·refine ⟨?_, HC⟩
                  exact ⟨by omega, by omega, by omega, by rw [hps]; omega, by rw [hof, octF_on (by omega) (by omega) hob, show m % 256 * 8 % 256 + ((byte s k).toNat - 48) = (m * 8 + ((byte s k).toNat - 48)) % 256 by omega]; ext <;> simp only <;> omega⟩
                 ·show 4 - (k + 1) < 4 - k; omega
                 repeat (first | exact agree_upds agree_over rfl | refine agree_upd ?_ rfl | refine agree_upds ?_ rfl | refine agree_over_sub ?_ rfl)
                ·try simp only [nm, ne_eq] at h13
                 have hev1 : octF (4 - 1) (s.drop 1) 0 = (m % 256, k - 1) := by rw [hof, octF_off (by first | omega | (right; right; first | assumption | simp_all))]; simp
                 have hev : rescV s arg = (UInt8.ofNat (m % 256), (k : Int), false) := rescV_ok (by unfold escV; rw [if_neg (by omega), if_neg hni, if_neg hnc, if_neg (by rw [ho1]; decide), hen, hev1]; simp only [Prod.mk.injEq, true_and]; omega) (by omega)
                 refine x_exit <| then_x <| then_x <| block_x <| then_n <| sr rfl <| mI rfl <| Wp rfl <| st_remk rfl rfl (by decide) (by exact (show _ = ((m % 256 : Nat) : Int) by rw [Int.tmod_eq_emod_of_nonneg (by omega)]; omega)) <| Wp rfl <| st_convk T.u3 T.u5 rfl (by exact wrapu8_mod m) <| mI rfl <| aI rfl <| aI rfl <| aB rfl <| en <| x_ret <| ret_tmp3 (v := .int _ _) (v2 := .int _ _) (v3 := .bool _) rfl rfl rfl rfl ?_
                 rw [hev]
                 exact ⟨rfl, HC⟩
               ·try simp only [nm, ne_eq] at g19
                iterate 4 refine w_no 9 53 true ?_
                refine pF rfl rfl <| en <| x_cond (t := false) rfl (fun h13 => ?_) (fun h13 => ?_)
                · exact absurd h13 (by decide)
                have hev1 : octF (4 - 1) (s.drop 1) 0 = (m % 256, k - 1) := by rw [hof, octF_off (by first | omega | (right; right; first | assumption | simp_all))]; simp
                have hev : rescV s arg = (UInt8.ofNat (m % 256), (k : Int), false) := rescV_ok (by unfold escV; rw [if_neg (by omega), if_neg hni, if_neg hnc, if_neg (by rw [ho1]; decide), hen, hev1]; simp only [Prod.mk.injEq, true_and]; omega) (by omega)
                refine x_exit <| then_x <| then_x <| block_x <| then_n <| sr rfl <| mI rfl <| Wp rfl <| st_remk rfl rfl (by decide) (by exact (show _ = ((m % 256 : Nat) : Int) by rw [Int.tmod_eq_emod_of_nonneg (by omega)]; omega)) <| Wp rfl <| st_convk T.u3 T.u5 rfl (by exact wrapu8_mod m) <| mI rfl <| aI rfl <| aI rfl <| aB rfl <| en <| x_ret <| ret_tmp3 (v := .int _ _) (v2 := .int _ _) (v3 := .bool _) rfl rfl rfl rfl ?_
                rw [hev]
                exact ⟨rfl, HC⟩
              ·try simp only [nm, ne_eq] at g18
               iterate 3 refine w_no 4 48 true ?_
               refine pF rfl rfl <| mB rfl ?_
               iterate 4 refine w_no 9 53 true ?_
               refine pF rfl rfl <| en <| x_cond (t := false) rfl (fun h13 => ?_) (fun h13 => ?_)
               · exact absurd h13 (by decide)
               have hev1 : octF (4 - 1) (s.drop 1) 0 = (m % 256, k - 1) := by rw [hof, octF_off (by first | omega | (right; right; first | assumption | simp_all))]; simp
               have hev : rescV s arg = (UInt8.ofNat (m % 256), (k : Int), false) := rescV_ok (by unfold escV; rw [if_neg (by omega), if_neg hni, if_neg hnc, if_neg (by rw [ho1]; decide), hen, hev1]; simp only [Prod.mk.injEq, true_and]; omega) (by omega)
               refine x_exit <| then_x <| then_x <| block_x <| then_n <| sr rfl <| mI rfl <| Wp rfl <| st_remk rfl rfl (by decide) (by exact (show _ = ((m % 256 : Nat) : Int) by rw [Int.tmod_eq_emod_of_nonneg (by omega)]; omega)) <| Wp rfl <| st_convk T.u3 T.u5 rfl (by exact wrapu8_mod m) <| mI rfl <| aI rfl <| aI rfl <| aB rfl <| en <| x_ret <| ret_tmp3 (v := .int _ _) (v2 := .int _ _) (v3 := .bool _) rfl rfl rfl rfl ?_
               rw [hev]
               exact ⟨rfl, HC⟩
          ·try simp only [nm, ne_eq] at h9
           refine x_skip <| block_n <| then_n <| x_seq <| x_seq ?_
           have hni : ¬ 0 ≤ idx [97, 98, 116, 110, 118, 102, 114, 92] (byte s 1) := esc_no (by assumption) (by assumption) (by assumption) (by assumption) (by assumption) (by assumption) (by assumption) (by assumption)
           have hnc : ¬ (((byte s 1).toNat : Int) = 99 ∧ arg = true) := by rintro ⟨h8, h9⟩; simp_all
           refine x_region rfl <| mS rfl <| Wp rfl <| st_sidx T.u9 rfl rfl (by omega) (by omega) <| Wp rfl <| st_call (ags := [_]) rfl rfl T.ent34 rfl (roct_spec _ _) ?_
           rintro _ w22 ⟨rfl, c23⟩
           replace HC := HC.then c23
           refine Wp rfl <| st_not rfl <| en <| x_cond rfl (fun h11 => ?_) (fun h11 => ?_)
           ·try simp only [nm, ne_eq] at h11
            have hev : rescV s arg = (92, 1, false) := rescV_ok (by unfold escV; rw [if_neg (by omega), if_neg hni, if_neg hnc, if_pos (by first | assumption | simp_all)]) (by decide)
            refine sr rfl <| aI rfl <| aI rfl <| aB rfl <| en <| x_ret <| then_r <| ret_tmp3 (v := .int _ _) (v2 := .int _ _) (v3 := .bool _) rfl rfl rfl rfl ?_
            rw [hev]
            exact ⟨rfl, HC⟩
           ·try simp only [nm, ne_eq] at h11
            have ho1 : octB (byte s 1) = true := by first | assumption | simp_all
            refine x_skip <| then_n <| sr rfl <| aI rfl <| en <| sr rfl <| aI rfl <| en <| x_seq <| sr rfl <| mB rfl <| mB rfl <| w_split (d := 39) rfl (fun g24 => ?_) (fun g24 => ?_)
            ·try simp only [nm, ne_eq] at g24
             refine w_yes 1 39 true <| st_move (v := S _) rfl <| w_yes 1 39 true <| st_sidx T.u9 rfl rfl (by omega) (by omega) <| w_yes 1 39 true <| st_eql rfl rfl <| pT rfl rfl <| en <| x_cond rfl (fun h12 => ?_) (fun h12 => ?_)
             ·try simp only [nm, ne_eq] at h12
              refine x_region rfl <| aI rfl <| en <| x_seq ?_
              have hen : escN s arg = 5 := by unfold escN; rw [if_pos ⟨by first | assumption | simp_all, by assumption⟩]
              refine x_region rfl <| aI rfl <| en <| x_seq <| x_block <| x_loop (ι := Nat × Nat) [7, 9, 44, 45, 46, 47, 48, 49, 50, 51, 52, 53, 54, 55, 56, 57, 58, 59, 60, 61, 62, 63, 64, 65, 66, 67, 68] (fun ⟨k, m⟩ => [(7, .int .i64 (k : Int)), (9, .int .i64 (m : Int))]) (fun ⟨k, m⟩ W => (1 ≤ k ∧ k ≤ 5 ∧ k ≤ s.length ∧ m < 8 ^ (k - 1) ∧ octF (5 - 1) (s.drop 1) 0 = ((octF (5 - k) (s.drop k) (m % 256)).1, (octF (5 - k) (s.drop k) (m % 256)).2 + (k - 1))) ∧ (Chg [] w W)) (fun ⟨k, m⟩ => 5 - k) (1, 0) ?_ ?_ ?_
              · exact ⟨rfl, rfl, trivial⟩
              ·refine ⟨?_, HC⟩
               exact ⟨Nat.le_refl _, by decide, by omega, by decide, rfl⟩
              intro ⟨k, m⟩ G26 w25 ⟨⟨hk1, hk2, hk3, hm, hof⟩, HC⟩
              change wp _ _ _ _ _ (upds (over _ _ G26) [(7, .int .i64 (k : Int)), (9, .int .i64 (m : Int))]) _ _
              have hp8 : 8 ^ (k - 1) ≤ 4096 := Nat.le_trans (Nat.pow_le_pow_right (by decide) (show k - 1 ≤ 4 by omega)) (by decide)
              have hps : 8 ^ (k + 1 - 1) = 8 ^ (k - 1) * 8 := by rw [show k + 1 - 1 = (k - 1) + 1 by omega, Nat.pow_succ]
              refine x_seq <| sr rfl <| mI rfl <| mS rfl <| Wp rfl <| st_slen (ct := #[9]) T.u9 rfl <| Wp rfl <| st_lss rfl rfl <| mB rfl <| w_split (d := 48) rfl (fun g27 => ?_) (fun g27 => ?_)
              ·try simp only [nm, ne_eq] at g27
               refine w_yes 4 48 true <| st_move (v := .int _ _) rfl <| w_yes 4 48 true <| st_move (v := .int _ _) rfl <| w_yes 4 48 true <| st_lss rfl rfl <| pT rfl rfl <| mB rfl <| w_split (d := 53) rfl (fun g28 => ?_) (fun g28 => ?_)
               ·try simp only [nm, ne_eq] at g28
                refine w_yes 9 53 true <| st_move (v := S _) rfl <| w_yes 9 53 true <| st_move (v := .int _ _) rfl <| w_yes 9 53 true <| st_sidx T.u9 rfl rfl (by omega) (by omega) <| w_yes 9 53 true <| st_call (ags := [_]) rfl rfl T.ent34 rfl (roct_spec _ _) ?_
                rintro _ w29 ⟨rfl, c30⟩
                replace HC := HC.then c30
                refine pT rfl rfl <| en <| x_cond rfl (fun h13 => ?_) (fun h13 => ?_)
                ·try simp only [nm, ne_eq] at h13
                 have hob : octB (byte s k) = true := by first | assumption | simp_all
                 have hor := oct_range hob
                 refine x_skip <| then_n <| x_block <| sr rfl <| mI rfl <| Wp rfl <| st_mulk rfl rfl (by exact (show _ = ((m * 8 : Nat) : Int) by rw [wrap64_id (by omega) (by omega)]; omega)) <| mS rfl <| mI rfl <| Wp rfl <| st_sidx T.u9 rfl rfl (by omega) (by omega) <| Wp rfl <| st_subk rfl rfl (by exact (show _ = (((byte s k).toNat - 48 : Nat) : Int) by (try rw [Int.toNat_natCast]); rw [wrapu8_id (by omega) (by omega)]; omega)) <| Wp rfl <| st_convk T.u5 T.u3 rfl (by exact wrap64_id (by omega) (by omega)) <| Wp rfl <| st_addk rfl rfl (by exact (show _ = ((m * 8 + ((byte s k).toNat - 48) : Nat) : Int) by rw [wrap64_id (by omega) (by omega)]; omega)) <| aI rfl <| en <| x_region rfl <| mI rfl <| Wp rfl <| st_addn rfl rfl (by constructor <;> omega) <| aI rfl <| wops_nil <| block_n <| then_n <| ⟨(k + 1, m * 8 + ((byte s k).toNat - 48)), ?_, ?_, rfl, ⟨rfl, rfl, trivial⟩, ?_⟩
                 ·refine ⟨?_, HC⟩
                  exact ⟨by omega, by omega, by omega, by rw [hps]; omega, by rw [hof, octF_on (by omega) (by omega) hob, show m % 256 * 8 % 256 + ((byte s k).toNat - 48) = (m * 8 + ((byte s k).toNat - 48)) % 256 by omega]; ext <;> simp only <;> omega⟩
                 ·show 5 - (k + 1) < 5 - k; omega
                 repeat (first | exact agree_upds agree_over rfl | refine agree_upd ?_ rfl | refine agree_upds ?_ rfl | refine agree_over_sub ?_ rfl)
                ·try simp only [nm, ne_eq] at h13
                 have hev1 : octF (5 - 1) (s.drop 1) 0 = (m % 256, k - 1) := by rw [hof, octF_off (by first | omega | (right; right; first | assumption | simp_all))]; simp
                 have hev : rescV s arg = (UInt8.ofNat (m % 256), (k : Int), false) := rescV_ok (by unfold escV; rw [if_neg (by omega), if_neg hni, if_neg hnc, if_neg (by rw [ho1]; decide), hen, hev1]; simp only [Prod.mk.injEq, true_and]; omega) (by omega)
                 refine x_exit <| then_x <| then_x <| block_x <| then_n <| sr rfl <| mI rfl <| Wp rfl <| st_remk rfl rfl (by decide) (by exact (show _ = ((m % 256 : Nat) : Int) by rw [Int.tmod_eq_emod_of_nonneg (by omega)]; omega)) <| Wp rfl <| st_convk T.u3 T.u5 rfl (by exact wrapu8_mod m) <| mI rfl <| aI rfl <| aI rfl <| aB rfl <| en <| x_ret <| ret_tmp3 (v := .int _ _) (v2 := .int _ _) (v3 := .bool _) rfl rfl rfl rfl ?_
                 rw [hev]
                 exact ⟨rfl, HC⟩
               ·try simp only [nm, ne_eq] at g28
                iterate 4 refine w_no 9 53 true ?_
                refine pF rfl rfl <| en <| x_cond (t := false) rfl (fun h13 => ?_) (fun h13 => ?_)
                · exact absurd h13 (by decide)
                have hev1 : octF (5 - 1) (s.drop 1) 0 = (m % 256, k - 1) := by rw [hof, octF_off (by first | omega | (right; right; first | assumption | simp_all))]; simp
                have hev : rescV s arg = (UInt8.ofNat (m % 256), (k : Int), false) := rescV_ok (by unfold escV; rw [if_neg (by omega), if_neg hni, if_neg hnc, if_neg (by rw [ho1]; decide), hen, hev1]; simp only [Prod.mk.injEq, true_and]; omega) (by omega)
                refine x_exit <| then_x <| then_x <| block_x <| then_n <| sr rfl <| mI rfl <| Wp rfl <| st_remk rfl rfl (by decide) (by exact (show _ = ((m % 256 : Nat) : Int) by rw [Int.tmod_eq_emod_of_nonneg (by omega)]; omega)) <| Wp rfl <| st_convk T.u3 T.u5 rfl (by exact wrapu8_mod m) <| mI rfl <| aI rfl <| aI rfl <| aB rfl <| en <| x_ret <| ret_tmp3 (v := .int _ _) (v2 := .int _ _) (v3 := .bool _) rfl rfl rfl rfl ?_
                rw [hev]
                exact ⟨rfl, HC⟩
              ·try simp only [nm, ne_eq] at g27
               iterate 3 refine w_no 4 48 true ?_
               refine pF rfl rfl <| mB rfl ?_
               iterate 4 refine w_no 9 53 true ?_
               refine pF rfl rfl <| en <| x_cond (t := false) rfl (fun h13 => ?_) (fun h13 => ?_)
               · exact absurd h13 (by decide)
               have hev1 : octF (5 - 1) (s.drop 1) 0 = (m % 256, k - 1) := by rw [hof, octF_off (by first | omega | (right; right; first | assumption | simp_all))]; simp
               have hev : rescV s arg = (UInt8.ofNat (m % 256), (k : Int), false) := rescV_ok (by unfold escV; rw [if_neg (by omega), if_neg hni, if_neg hnc, if_neg (by rw [ho1]; decide), hen, hev1]; simp only [Prod.mk.injEq, true_and]; omega) (by omega)
               refine x_exit <| then_x <| then_x <| block_x <| then_n <| sr rfl <| mI rfl <| Wp rfl <| st_remk rfl rfl (by decide) (by exact (show _ = ((m % 256 : Nat) : Int) by rw [Int.tmod_eq_emod_of_nonneg (by omega)]; omega)) <| Wp rfl <| st_convk T.u3 T.u5 rfl (by exact wrapu8_mod m) <| mI rfl <| aI rfl <| aI rfl <| aB rfl <| en <| x_ret <| ret_tmp3 (v := .int _ _) (v2 := .int _ _) (v3 := .bool _) rfl rfl rfl rfl ?_
               rw [hev]
               exact ⟨rfl, HC⟩
             ·try simp only [nm, ne_eq] at h12
              refine x_skip <| then_n <| x_seq ?_
              have hen : escN s arg = 4 := by unfold escN; rw [if_neg (by rintro ⟨h8, h9⟩; simp_all)]
              refine x_region rfl <| aI rfl <| en <| x_seq <| x_block <| x_loop (ι := Nat × Nat) [7, 9, 44, 45, 46, 47, 48, 49, 50, 51, 52, 53, 54, 55, 56, 57, 58, 59, 60, 61, 62, 63, 64, 65, 66, 67, 68] (fun ⟨k, m⟩ => [(7, .int .i64 (k : Int)), (9, .int .i64 (m : Int))]) (fun ⟨k, m⟩ W => (1 ≤ k ∧ k ≤ 4 ∧ k ≤ s.length ∧ m < 8 ^ (k - 1) ∧ octF (4 - 1) (s.drop 1) 0 = ((octF (4 - k) (s.drop k) (m % 256)).1, (octF (4 - k) (s.drop k) (m % 256)).2 + (k - 1))) ∧ (Chg [] w W)) (fun ⟨k, m⟩ => 4 - k) (1, 0) ?_ ?_ ?_
              · exact ⟨rfl, rfl, trivial⟩
              ·refine ⟨?_, HC⟩
               exact ⟨Nat.le_refl _, by decide, by omega, by decide, rfl⟩
              intro ⟨k, m⟩ G32 w31 ⟨⟨hk1, hk2, hk3, hm, hof⟩, HC⟩
              change wp _ _ _ _ _ (upds (over _ _ G32) [(7, .int .i64 (k : Int)), (9, .int .i64 (m : Int))]) _ _
              have hp8 : 8 ^ (k - 1) ≤ 4096 := Nat.le_trans (Nat.pow_le_pow_right (by decide) (show k - 1 ≤ 4 by omega)) (by decide)
              have hps : 8 ^ (k + 1 - 1) = 8 ^ (k - 1) * 8 := by rw [show k + 1 - 1 = (k - 1) + 1 by omega, Nat.pow_succ]
              refine x_seq <| sr rfl <| mI rfl <| mS rfl <| Wp rfl <| st_slen (ct := #[9]) T.u9 rfl <| Wp rfl <| st_lss rfl rfl <| mB rfl <| w_split (d := 48) rfl (fun g33 => ?_) (fun g33 => ?_)
              ·try simp only [nm, ne_eq] at g33
               refine w_yes 4 48 true <| st_move (v := .int _ _) rfl <| w_yes 4 48 true <| st_move (v := .int _ _) rfl <| w_yes 4 48 true <| st_lss rfl rfl <| pT rfl rfl <| mB rfl <| w_split (d := 53) rfl (fun g34 => ?_) (fun g34 => ?_)
               ·try simp only [nm, ne_eq] at g34
                refine w_yes 9 53 true <| st_move (v := S _) rfl <| w_yes 9 53 true <| st_move (v := .int _ _) rfl <| w_yes 9 53 true <| st_sidx T.u9 rfl rfl (by omega) (by omega) <| w_yes 9 53 true <| st_call (ags := [_]) rfl rfl T.ent34 rfl (roct_spec _ _) ?_
                rintro _ w35 ⟨rfl, c36⟩
                replace HC := HC.then c36
                refine pT rfl rfl <| en <| x_cond rfl (fun h13 => ?_) (fun h13 => ?_)
                ·try simp only [nm, ne_eq] at h13
                 have hob : octB (byte s k) = true := by first | assumption | simp_all
                 have hor := oct_range hob
                 refine x_skip <| then_n <| x_block <| sr rfl <| mI rfl <| Wp rfl <| st_mulk rfl rfl (by exact (show _ = ((m * 8 : Nat) : Int) by rw [wrap64_id (by omega) (by omega)]; omega)) <| mS rfl <| mI rfl <| Wp rfl <| st_sidx T.u9 rfl rfl (by omega) (by omega) <| Wp rfl <| st_subk rfl rfl (by exact (show _ = (((byte s k).toNat - 48 : Nat) : Int) by (try rw [Int.toNat_natCast]); rw [wrapu8_id (by omega) (by omega)]; omega)) <| Wp rfl <| st_convk T.u5 T.u3 rfl (by exact wrap64_id (by omega) (by omega)) <| Wp rfl <| st_addk rfl rfl (by exact (show _ = ((m * 8 + ((byte s k).toNat - 48) : Nat) : Int) by rw [wrap64_id (by omega) (by omega)]; omega)) <| aI rfl <| en <| x_region rfl <| mI rfl <| Wp rfl <| st_addn rfl rfl (by constructor <;> omega) <| aI rfl <| wops_nil <| block_n <| then_n <| ⟨(k + 1, m * 8 + ((byte s k).toNat - 48)), ?_, ?_, rfl, ⟨rfl, rfl, trivial⟩, ?_⟩
                 ·refine ⟨?_, HC⟩
                  exact ⟨by omega, by omega, by omega, by rw [hps]; omega, by rw [hof, octF_on (by omega) (by omega) hob, show m % 256 * 8 % 256 + ((byte s k).toNat - 48) = (m * 8 + ((byte s k).toNat - 48)) % 256 by omega]; ext <;> simp only <;> omega⟩
                 ·show 4 - (k + 1) < 4 - k; omega
                 repeat (first | exact agree_upds agree_over rfl | refine agree_upd ?_ rfl | refine agree_upds ?_ rfl | refine agree_over_sub ?_ rfl)
                ·try simp only [nm, ne_eq] at h13
                 have hev1 : octF (4 - 1) (s.drop 1) 0 = (m % 256, k - 1) := by rw [hof, octF_off (by first | omega | (right; right; first | assumption | simp_all))]; simp
                 have hev : rescV s arg = (UInt8.ofNat (m % 256), (k : Int), false) := rescV_ok (by unfold escV; rw [if_neg (by omega), if_neg hni, if_neg hnc, if_neg (by rw [ho1]; decide), hen, hev1]; simp only [Prod.mk.injEq, true_and]; omega) (by omega)
                 refine x_exit <| then_x <| then_x <| block_x <| then_n <| sr rfl <| mI rfl <| Wp rfl <| st_remk rfl rfl (by decide) (by exact (show _ = ((m % 256 : Nat) : Int) by rw [Int.tmod_eq_emod_of_nonneg (by omega)]; omega)) <| Wp rfl <| st_convk T.u3 T.u5 rfl (by exact wrapu8_mod m) <| mI rfl <| aI rfl <| aI rfl <| aB rfl <| en <| x_ret <| ret_tmp3 (v := .int _ _) (v2 := .int _ _) (v3 := .bool _) rfl rfl rfl rfl ?_
                 rw [hev]
                 exact ⟨rfl, HC⟩
               ·try simp only [nm, ne_eq] at g34
                iterate 4 refine w_no 9 53 true ?_
                refine pF rfl rfl <| en <| x_cond (t := false) rfl (fun h13 => ?_) (fun h13 => ?_)
                · exact absurd h13 (by decide)
                have hev1 : octF (4 - 1) (s.drop 1) 0 = (m % 256, k - 1) := by rw [hof, octF_off (by first | omega | (right; right; first | assumption | simp_all))]; simp
                have hev : rescV s arg = (UInt8.ofNat (m % 256), (k : Int), false) := rescV_ok (by unfold escV; rw [if_neg (by omega), if_neg hni, if_neg hnc, if_neg (by rw [ho1]; decide), hen, hev1]; simp only [Prod.mk.injEq, true_and]; omega) (by omega)
                refine x_exit <| then_x <| then_x <| block_x <| then_n <| sr rfl <| mI rfl <| Wp rfl <| st_remk rfl rfl (by decide) (by exact (show _ = ((m % 256 : Nat) : Int) by rw [Int.tmod_eq_emod_of_nonneg (by omega)]; omega)) <| Wp rfl <| st_convk T.u3 T.u5 rfl (by exact wrapu8_mod m) <| mI rfl <| aI rfl <| aI rfl <| aB rfl <| en <| x_ret <| ret_tmp3 (v := .int _ _) (v2 := .int _ _) (v3 := .bool _) rfl rfl rfl rfl ?_
                rw [hev]
                exact ⟨rfl, HC⟩
              ·try simp only [nm, ne_eq] at g33
               iterate 3 refine w_no 4 48 true ?_
               refine pF rfl rfl <| mB rfl ?_
               iterate 4 refine w_no 9 53 true ?_
               refine pF rfl rfl <| en <| x_cond (t := false) rfl (fun h13 => ?_) (fun h13 => ?_)
               · exact absurd h13 (by decide)
               have hev1 : octF (4 - 1) (s.drop 1) 0 = (m % 256, k - 1) := by rw [hof, octF_off (by first | omega | (right; right; first | assumption | simp_all))]; simp
               have hev : rescV s arg = (UInt8.ofNat (m % 256), (k : Int), false) := rescV_ok (by unfold escV; rw [if_neg (by omega), if_neg hni, if_neg hnc, if_neg (by rw [ho1]; decide), hen, hev1]; simp only [Prod.mk.injEq, true_and]; omega) (by omega)
               refine x_exit <| then_x <| then_x <| block_x <| then_n <| sr rfl <| mI rfl <| Wp rfl <| st_remk rfl rfl (by decide) (by exact (show _ = ((m % 256 : Nat) : Int) by rw [Int.tmod_eq_emod_of_nonneg (by omega)]; omega)) <| Wp rfl <| st_convk T.u3 T.u5 rfl (by exact wrapu8_mod m) <| mI rfl <| aI rfl <| aI rfl <| aB rfl <| en <| x_ret <| ret_tmp3 (v := .int _ _) (v2 := .int _ _) (v3 := .bool _) rfl rfl rfl rfl ?_
               rw [hev]
               exact ⟨rfl, HC⟩
            ·try simp only [nm, ne_eq] at g24
             iterate 3 refine w_no 1 39 true ?_
             refine pF rfl rfl <| en <| x_cond (t := false) rfl (fun h12 => ?_) (fun h12 => ?_)
             · exact absurd h12 (by decide)
             refine x_skip <| then_n <| x_seq ?_
             have hen : escN s arg = 4 := by unfold escN; rw [if_neg (by rintro ⟨h8, h9⟩; simp_all)]
             refine x_region rfl <| aI rfl <| en <| x_seq <| x_block <| x_loop (ι := Nat × Nat) [7, 9, 44, 45, 46, 47, 48, 49, 50, 51, 52, 53, 54, 55, 56, 57, 58, 59, 60, 61, 62, 63, 64, 65, 66, 67, 68] (fun ⟨k, m⟩ => [(7, .int .i64 (k : Int)), (9, .int .i64 (m : Int))]) (fun ⟨k, m⟩ W => (1 ≤ k ∧ k ≤ 4 ∧ k ≤ s.length ∧ m < 8 ^ (k - 1) ∧ octF (4 - 1) (s.drop 1) 0 = ((octF (4 - k) (s.drop k) (m % 256)).1, (octF (4 - k) (s.drop k) (m % 256)).2 + (k - 1))) ∧ (Chg [] w W)) (fun ⟨k, m⟩ => 4 - k) (1, 0) ?_ ?_ ?_
             · exact ⟨rfl, rfl, trivial⟩
             ·refine ⟨?_, HC⟩
              exact ⟨Nat.le_refl _, by decide, by omega, by decide, rfl⟩
             intro ⟨k, m⟩ G38 w37 ⟨⟨hk1, hk2, hk3, hm, hof⟩, HC⟩
             change wp _ _ _ _ _ (upds (over _ _ G38) [(7, .int .i64 (k : Int)), (9, .int .i64 (m : Int))]) _ _
             have hp8 : 8 ^ (k - 1) ≤ 4096 := Nat.le_trans (Nat.pow_le_pow_right (by decide) (show k - 1 ≤ 4 by omega)) (by decide)
             have hps : 8 ^ (k + 1 - 1) = 8 ^ (k - 1) * 8 := by rw [show k + 1 - 1 = (k - 1) + 1 by omega, Nat.pow_succ]
             refine x_seq <| sr rfl <| mI rfl <| mS rfl <| Wp rfl <| st_slen (ct := #[9]) T.u9 rfl <| Wp rfl <| st_lss rfl rfl <| mB rfl <| w_split (d := 48) rfl (fun g39 => ?_) (fun g39 => ?_)
             ·try simp only [nm, ne_eq] at g39
              refine w_yes 4 48 true <| st_move (v := .int _ _) rfl <| w_yes 4 48 true <| st_move (v := .int _ _) rfl <| w_yes 4 48 true <| st_lss rfl rfl <| pT rfl rfl <| mB rfl <| w_split (d := 53) rfl (fun g40 => ?_) (fun g40 => ?_)
              ·try simp only [nm, ne_eq] at g40
               refine w_yes 9 53 true <| st_move (v := S _) rfl <| w_yes 9 53 true <| st_move (v := .int _ _) rfl <| w_yes 9 53 true <| st_sidx T.u9 rfl rfl (by omega) (by omega) <| w_yes 9 53 true <| st_call (ags := [_]) rfl rfl T.ent34 rfl (roct_spec _ _) ?_
               rintro _ w41 ⟨rfl, c42⟩
               replace HC := HC.then c42
               refine pT rfl rfl <| en <| x_cond rfl (fun h13 => ?_) (fun h13 => ?_)
               ·try simp only [nm, ne_eq] at h13
                have hob : octB (byte s k) = true := by first | assumption | simp_all
                have hor := oct_range hob
                refine x_skip <| then_n <| x_block <| sr rfl <| mI rfl <| Wp rfl <| st_mulk rfl rfl (by exact (show _ = ((m * 8 : Nat) : Int) by rw [wrap64_id (by omega) (by omega)]; omega)) <| mS rfl <| mI rfl <| Wp rfl <| st_sidx T.u9 rfl rfl (by omega) (by omega) <| Wp rfl <| st_subk rfl rfl (by exact (show _ = (((byte s k).toNat - 48 : Nat) : Int) by (try rw [Int.toNat_natCast]); rw [wrapu8_id (by omega) (by omega)]; omega)) <| Wp rfl <| st_convk T.u5 T.u3 rfl (by exact wrap64_id (by omega) (by omega)) <| Wp rfl <| st_addk rfl rfl (by exact (show _ = ((m * 8 + ((byte s k).toNat - 48) : Nat) : Int) by rw [wrap64_id (by omega) (by omega)]; omega)) <| aI rfl <| en <| x_region rfl <| mI rfl <| Wp rfl <| st_addn rfl rfl (by constructor <;> omega) <| aI rfl <| wops_nil <| block_n <| then_n <| ⟨(k + 1, m * 8 + ((byte s k).toNat - 48)), ?_, ?_, rfl, ⟨rfl, rfl, trivial⟩, ?_⟩
                ·refine ⟨?_, HC⟩
                 exact ⟨by omega, by omega, by omega, by rw [hps]; omega, by rw [hof, octF_on (by omega) (by omega) hob, show m % 256 * 8 % 256 + ((byte s k).toNat - 48) = (m * 8 + ((byte s k).toNat - 48)) % 256 by omega]; ext <;> simp only <;> omega⟩
                ·show 4 - (k + 1) < 4 - k; omega
                repeat (first | exact agree_upds agree_over rfl | refine agree_upd ?_ rfl | refine agree_upds ?_ rfl | refine agree_over_sub ?_ rfl)
               ·try simp only [nm, ne_eq] at h13
                have hev1 : octF (4 - 1) (s.drop 1) 0 = (m % 256, k - 1) := by rw [hof, octF_off (by first | omega | (right; right; first | assumption | simp_all))]; simp
                have hev : rescV s arg = (UInt8.ofNat (m % 256), (k : Int), false) := rescV_ok (by unfold escV; rw [if_neg (by omega), if_neg hni, if_neg hnc, if_neg (by rw [ho1]; decide), hen, hev1]; simp only [Prod.mk.injEq, true_and]; omega) (by omega)
                refine x_exit <| then_x <| then_x <| block_x <| then_n <| sr rfl <| mI rfl <| Wp rfl <| st_remk rfl rfl (by decide) (by exact (show _ = ((m % 256 : Nat) : Int) by rw [Int.tmod_eq_emod_of_nonneg (by omega)]; omega)) <| Wp rfl <| st_convk T.u3 T.u5 rfl (by exact wrapu8_mod m) <| mI rfl <| aI rfl <| aI rfl <| aB rfl <| en <| x_ret <| ret_tmp3 (v := .int _ _) (v2 := .int _ _) (v3 := .bool _) rfl rfl rfl rfl ?_
                rw [hev]
                exact ⟨rfl, HC⟩
              ·try simp only [nm, ne_eq] at g40
               iterate 4 refine w_no 9 53 true ?_
               refine pF rfl rfl <| en <| x_cond (t := false) rfl (fun h13 => ?_) (fun h13 => ?_)
               · exact absurd h13 (by decide)
               have hev1 : octF (4 - 1) (s.drop 1) 0 = (m % 256, k - 1) := by rw [hof, octF_off (by first | omega | (right; right; first | assumption | simp_all))]; simp
               have hev : rescV s arg = (UInt8.ofNat (m % 256), (k : Int), false) := rescV_ok (by unfold escV; rw [if_neg (by omega), if_neg hni, if_neg hnc, if_neg (by rw [ho1]; decide), hen, hev1]; simp only [Prod.mk.injEq, true_and]; omega) (by omega)
               refine x_exit <| then_x <| then_x <| block_x <| then_n <| sr rfl <| mI rfl <| Wp rfl <| st_remk rfl rfl (by decide) (by exact (show _ = ((m % 256 : Nat) : Int) by rw [Int.tmod_eq_emod_of_nonneg (by omega)]; omega)) <| Wp rfl <| st_convk T.u3 T.u5 rfl (by exact wrapu8_mod m) <| mI rfl <| aI rfl <| aI rfl <| aB rfl <| en <| x_ret <| ret_tmp3 (v := .int _ _) (v2 := .int _ _) (v3 := .bool _) rfl rfl rfl rfl ?_
               rw [hev]
               exact ⟨rfl, HC⟩
             ·try simp only [nm, ne_eq] at g39
              iterate 3 refine w_no 4 48 true ?_
              refine pF rfl rfl <| mB rfl ?_
              iterate 4 refine w_no 9 53 true ?_
              refine pF rfl rfl <| en <| x_cond (t := false) rfl (fun h13 => ?_) (fun h13 => ?_)
              · exact absurd h13 (by decide)
              have hev1 : octF (4 - 1) (s.drop 1) 0 = (m % 256, k - 1) := by rw [hof, octF_off (by first | omega | (right; right; first | assumption | simp_all))]; simp
              have hev : rescV s arg = (UInt8.ofNat (m % 256), (k : Int), false) := rescV_ok (by unfold escV; rw [if_neg (by omega), if_neg hni, if_neg hnc, if_neg (by rw [ho1]; decide), hen, hev1]; simp only [Prod.mk.injEq, true_and]; omega) (by omega)
              refine x_exit <| then_x <| then_x <| block_x <| then_n <| sr rfl <| mI rfl <| Wp rfl <| st_remk rfl rfl (by decide) (by exact (show _ = ((m % 256 : Nat) : Int) by rw [Int.tmod_eq_emod_of_nonneg (by omega)]; omega)) <| Wp rfl <| st_convk T.u3 T.u5 rfl (by exact wrapu8_mod m) <| mI rfl <| aI rfl <| aI rfl <| aB rfl <| en <| x_ret <| ret_tmp3 (v := .int _ _) (v2 := .int _ _) (v3 := .bool _) rfl rfl rfl rfl ?_
              rw [hev]
              exact ⟨rfl, HC⟩

theorem REscapes_spec (s : Bytes) (w : World) (hs : s.length ≤ 100000000000000) : CallR Tryd.prog 12 #[S s] w fun v w' => v = .tuple ⟨[S (escsV s).1, .bool (escsV s).2]⟩ ∧ Chg [] w w' := by
 refine callR_of_wp (args := [_]) Tryd.func12 rfl (Nat.le_of_ble_eq_true rfl) ?_
 have HC : Chg [] w w := .refl _
 refine sr rfl <| aS rfl <| aB rfl <| en <| sr rfl <| aL rfl <| en <| x_seq <| x_block <| x_loop (ι := Bytes × Nat × Bytes × Option Addr × Nat) [0, 2, 3, 4, 5, 6, 7, 8, 9, 10, 11, 12, 13, 14, 15, 16, 17, 18, 19, 20, 21, 22, 23, 24, 25, 26, 27, 28, 29, 30, 31, 32, 33, 34, 35] (fun ⟨rest, j, out, A, cap⟩ => [(0, S rest), (4, .slice A out.length cap)]) (fun ⟨rest, j, out, A, cap⟩ W => (rest.length < j ∧ out.length + rest.length ≤ s.length ∧ escsF (s.length + 1) s = (out ++ (escsF j rest).1, (escsF j rest).2)) ∧ (Chg [] w W) ∧ (Own uE 5 W (fun k => w.heap.size ≤ k) A cap out)) (fun ⟨rest, j, out, A, cap⟩ => j) (s, s.length + 1, [], none, 0) ?_ ?_ ?_
 · exact ⟨rfl, rfl, trivial⟩
 ·refine ⟨?_, HC, Own.nil⟩
  exact ⟨Nat.lt_succ_self _, by simp, by simp⟩
 intro ⟨rest, j, out, A, cap⟩ G2 w1 ⟨⟨hj, hol, htot⟩, HC, ho⟩
 change wp _ _ _ _ _ (upds (over _ _ G2) [(0, S rest), (4, .slice A out.length cap)]) _ _
 refine x_seq <| sr rfl <| mS rfl <| Wp rfl <| st_sneq rfl rfl <| en <| x_cond rfl (fun h0 => ?_) (fun h0 => ?_)
 ·try simp only [nm, ne_eq] at h0
  obtain ⟨c, r', rfl⟩ := List.exists_cons_of_ne_nil h0
  obtain ⟨j, rfl⟩ : ∃ i, j = i + 1 := ⟨j - 1, by omega⟩
  refine x_skip <| then_n <| x_block <| x_seq <| sr rfl <| mS rfl <| Wp rfl <| st_sidx T.u9 rfl rfl (by decide) (by (simp only [List.length_cons]; omega)) <| Wp rfl <| st_neq rfl rfl <| en <| x_cond rfl (fun h1 => ?_) (fun h1 => ?_)
  ·try simp only [nm, ne_eq] at h1
   have hc92 : ¬ c.toNat = 92 := by have h9 : ¬ ((c.toNat : Nat) : Int) = 92 := h1; omega
   refine sr rfl <| mL rfl <| mS rfl <| Wp rfl <| st_sidx T.u9 rfl rfl (by decide) (by (simp only [List.length_cons]; omega)) <| Wp rfl <| st_lit (ps := [(0, .tmp 15)]) (vs := [.int _ _]) T.lit38 (by decide) rfl (by simp only [List.forall_mem_cons, List.not_mem_nil, false_imp_iff, implies_true, and_true]; exact rfl) rfl ?_
   intro b3 w4 e5 c6 hb7
   have ge_b3 : w.heap.size ≤ b3 := by rw [e5]; exact HC.size
   have na_b3 : b3 ∉ ob A := ho.fresh (by rw [e5]; exact Nat.le_refl _)
   replace HC := HC.then c6
   replace ho := ho.tr0 c6
   clear e5
   have hszA := HC.size
   refine Wp rfl <| st_append2 (c := uE) (D2 := fun _ => False) (xs := out) (ys := [c]) T.slice38 rfl rfl ho rfl rfl (one_elem rfl (hb7.cells (n := 1) rfl)) (fun _ _ h => h.elim) (fun k hk => by have := HC.size; omega) (by simp only [List.length_append, List.length_cons, List.length_nil]; omega) (by simp only [List.length_append, List.length_cons, List.length_nil]; omega) ?_
   intro A8 cap9 w10 ho11 c12 hg13
   replace HC := HC.trans c12 (fun k hk => .inr ((ho.inD k hk)))
   replace hb7 := hb7.tr c12 (fun hx => by first | (have h1 := ho.inD _ hx; omega) | exact na_b3 hx | exact hav _ hx (by simp))
   refine aL rfl <| en <| sr rfl <| mS rfl <| Wp rfl <| st_sslo (i := 1) T.u9 rfl ⟨_, rfl⟩ (by (simp only [List.length_cons]; omega)) <| aS rfl <| en <| x_exit <| then_x <| block_x <| then_n <| ⟨(r', j, out ++ [c], A8, cap9), ?_, ?_, rfl, ⟨rfl, rfl, trivial⟩, ?_⟩
   ·refine ⟨?_, HC, ho11⟩
    exact ⟨by simp only [List.length_cons] at *; omega, by simp only [List.length_append, List.length_cons, List.length_nil] at *; omega, by rw [htot, escsF, if_neg hc92]; simp⟩
   ·show j < j + 1; omega
   repeat (first | exact agree_upds agree_over rfl | refine agree_upd ?_ rfl | refine agree_upds ?_ rfl | refine agree_over_sub ?_ rfl)
  ·try simp only [nm, ne_eq] at h1
   have hc92 : c.toNat = 92 := by have h9 : ((c.toNat : Nat) : Int) = 92 := (by first | assumption | simp_all); omega
   have hei := esc_in (c :: r') true (by simp)
   refine x_skip <| then_n <| sr rfl <| mS rfl <| Wp rfl <| st_call (ags := [_, _]) rfl rfl T.ent22 rfl (resc_spec (c :: r') true _ (by simp only [List.length_cons] at *; omega)) ?_
   rintro _ w14 ⟨rfl, c15⟩
   replace HC := HC.then c15
   replace ho := ho.tr0 c15
   refine mv (v := .tuple ⟨[_, _, _]⟩) rfl <| Wp rfl <| st_extract (vs := [_, _, _]) (v := .int _ _) rfl rfl <| Wp rfl <| st_extract (vs := [_, _, _]) (v := .int _ _) rfl rfl <| Wp rfl <| st_extract (vs := [_, _, _]) (v := .bool _) rfl rfl <| aI rfl <| aI rfl <| aB rfl <| en <| x_seq <| sr rfl <| mB rfl <| en <| x_cond rfl (fun h2 => ?_) (fun h2 => ?_)
   ·try simp only [nm, ne_eq] at h2
    have hneg : (escV (c :: r') true).2 < 0 := by unfold rescV at h2; split at h2; assumption; cases h2
    have hev : escsV s = (out, true) := by unfold escsV; rw [htot, escsF, if_pos hc92, if_pos hneg]; simp
    refine sr rfl <| mL rfl <| Wp rfl <| st_bytesStr T.u38 T.u5 T.u9 rfl (ho.sl) <| aS rfl <| aB rfl <| en <| x_ret <| then_r <| block_r <| then_r <| block_r <| then_r <| ret_tmp2 (v := S _) (v2 := .bool _) rfl rfl rfl ?_
    rw [hev]
    exact ⟨rfl, HC⟩
   ·try simp only [nm, ne_eq] at h2
    have hneg : ¬ (escV (c :: r') true).2 < 0 := by intro h9; unfold rescV at h2; rw [if_pos h9] at h2; exact absurd h2 (by decide)
    have hre : rescV (c :: r') true = ((escV (c :: r') true).1, (escV (c :: r') true).2, false) := by unfold rescV; rw [if_neg hneg]
    rw [hre]
    obtain ⟨n, hn⟩ : ∃ n : Nat, (escV (c :: r') true).2 = (n : Int) := ⟨(escV (c :: r') true).2.toNat, by omega⟩
    rw [hn] at hei ⊢
    refine x_skip <| then_n <| sr rfl <| mL rfl <| mI rfl <| Wp rfl <| st_lit (ps := [(0, .tmp 30)]) (vs := [.int _ _]) T.lit38 (by decide) rfl (by simp only [List.forall_mem_cons, List.not_mem_nil, false_imp_iff, implies_true, and_true]; exact rfl) rfl ?_
    intro b16 w17 e18 c19 hb20
    have ge_b16 : w.heap.size ≤ b16 := by rw [e18]; exact HC.size
    have na_b16 : b16 ∉ ob A := ho.fresh (by rw [e18]; exact Nat.le_refl _)
    replace HC := HC.then c19
    replace ho := ho.tr0 c19
    clear e18
    have hszA := HC.size
    refine Wp rfl <| st_append2 (c := uE) (D2 := fun _ => False) (xs := out) (ys := [(escV (c :: r') true).1]) T.slice38 rfl rfl ho rfl rfl (one_elem rfl (hb20.cells (n := 1) rfl)) (fun _ _ h => h.elim) (fun k hk => by have := HC.size; omega) (by simp only [List.length_append, List.length_cons, List.length_nil]; omega) (by simp only [List.length_append, List.length_cons, List.length_nil]; omega) ?_
    intro A21 cap22 w23 ho24 c25 hg26
    replace HC := HC.trans c25 (fun k hk => .inr ((ho.inD k hk)))
    replace hb20 := hb20.tr c25 (fun hx => by first | (have h1 := ho.inD _ hx; omega) | exact na_b16 hx | exact hav _ hx (by simp))
    refine aL rfl <| en <| x_region rfl <| mS rfl <| mI rfl <| Wp rfl <| st_sslo (i := n) T.u9 rfl ⟨_, rfl⟩ (by (simp only [List.length_cons] at *; omega)) <| aS rfl <| wops_nil <| block_n <| then_n <| ⟨((c :: r').drop n, j, out ++ [(escV (c :: r') true).1], A21, cap22), ?_, ?_, rfl, ⟨rfl, rfl, trivial⟩, ?_⟩
    ·refine ⟨?_, HC, ho24⟩
     exact ⟨by rw [List.length_drop]; simp only [List.length_cons] at *; omega, by rw [List.length_drop]; simp only [List.length_append, List.length_cons, List.length_nil] at *; omega, by rw [htot, escsF, if_pos hc92, if_neg (by omega), hn, Int.toNat_natCast]; simp⟩
    ·show j < j + 1; omega
    repeat (first | exact agree_upds agree_over rfl | refine agree_upd ?_ rfl | refine agree_upds ?_ rfl | refine agree_over_sub ?_ rfl)
 ·try simp only [nm, ne_eq] at h0
  have hre : rest = [] := by first | assumption | simpa using h0
  obtain ⟨j, rfl⟩ : ∃ i, j = i + 1 := ⟨j - 1, by omega⟩
  have hev : escsV s = (out, false) := by unfold escsV; rw [htot, hre]; simp [escsF]
  refine x_exit <| then_x <| then_x <| block_x <| then_n <| sr rfl <| mL rfl <| Wp rfl <| st_bytesStr T.u38 T.u5 T.u9 rfl (ho.sl) <| aS rfl <| aB rfl <| en <| x_ret <| ret_tmp2 (v := S _) (v2 := .bool _) rfl rfl rfl ?_
  rw [hev]
  exact ⟨rfl, HC⟩

end Go.Proofs.YtlpndcpbnbeohaaDoor.K
