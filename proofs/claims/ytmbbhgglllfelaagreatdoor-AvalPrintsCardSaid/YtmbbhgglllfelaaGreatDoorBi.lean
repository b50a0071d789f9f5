import Derived.Test.YtmbbhgglllfelaaGreatDoorBf
import Derived.Test.YtmbbhgglllfelaaGreatDoorKitQ
set_option linter.unusedVariables false
set_option linter.unusedSimpArgs false
set_option autoImplicit false
set_option maxRecDepth 20000
namespace Go.Proofs.YtmbbhgglllfelaaGreatDoor.K
open Go Go.Proofs Go.RowKit

theorem ops_len {o : Bytes} (h : o ∈ opsL) : o.length ≤ 3 := by revert o; decide
def cmb (l : List Tk) (L : List Yd) : List Tk × Int × Int := match L.find? errV with
  | some y => ([], y.2.1, y.2.2)
  | none => (l ++ L.map toTk, 0, 0)
theorem cmb_nil (L : List Yd) : cmb [] L = tokV L := by unfold cmb tokV; cases L.find? errV <;> rfl
theorem cmb_cons {l : List Tk} {y : Yd} {L : List Yd} (h : y.2.2 = 0) : cmb l (y :: L) = cmb (l ++ [toTk y]) L := by
  have : errV y = false := by simp [errV, h]
  unfold cmb
  rw [List.find?_cons, this]
  cases L.find? errV <;> simp
theorem cmb_bad {l : List Tk} {y : Yd} {L : List Yd} (h : ¬ y.2.2 = 0) : cmb l (y :: L) = ([], y.2.1, y.2.2) := by
  have : errV y = true := by simp [errV, h]
  unfold cmb
  rw [List.find?_cons, this]
theorem atV_on {s : Bytes} {i : Nat} (hi : i < s.length) (h : blankB (byte s i) = true) : atV s i = atV s (i + 1) := by
  unfold atV; rw [runN_on hi h]; omega
theorem atV_off {s : Bytes} {i : Nat} (hi : i < s.length) (h : blankB (byte s i) = false) : atV s i = i := by
  unfold atV; rw [runN_off hi h]; rfl
theorem atV_end (s : Bytes) : atV s s.length = s.length := by unfold atV; rw [runN_end (by omega)]; rfl
theorem toksF_blank {s : Bytes} {i k : Nat} (hi : i < s.length) (h : blankB (byte s i) = true) : toksF (k + 1) s i = toksF (k + 1) s (i + 1) := by
  rw [toksF_succ, toksF_succ, atV_on hi h]
theorem toksF_tok {s : Bytes} {i k : Nat} {t : Int × Int × Bytes} {n : Nat} (hi : i < s.length) (h : blankB (byte s i) = false) (hn : nextV (s.drop i) = (t, (n : Int), 0)) (ht : ¬ t.1 = 0) : toksF (k + 1) s i = (t, (i : Int), 0) :: toksF k s (i + n) := by
  have e : yV s i = (t, (i : Int), 0) := by unfold yV; rw [hn]
  rw [toksF_succ, atV_off hi h, e, hn, if_neg (by simp [stopV, ht])]
  rfl
theorem toksF_bad {s : Bytes} {i k : Nat} {t : Int × Int × Bytes} {n e : Int} (hi : i < s.length) (h : blankB (byte s i) = false) (hn : nextV (s.drop i) = (t, n, e)) (he : ¬ e = 0) : toksF (k + 1) s i = [(t, (i : Int), e)] := by
  have e1 : yV s i = (t, (i : Int), e) := by unfold yV; rw [hn]
  rw [toksF_succ, atV_off hi h, e1, if_pos (by simp [stopV, he])]
theorem toksF_end (s : Bytes) (k : Nat) : toksF (k + 1) s s.length = [((0, 0, []), (s.length : Int), 0)] := by
  have e1 : yV s s.length = ((0, 0, []), (s.length : Int), 0) := by unfold yV; rw [List.drop_of_length_le (Nat.le_refl _)]; rfl
  rw [toksF_succ, atV_end, e1, if_pos (by simp [stopV])]
theorem byte_drop (s : Bytes) (i : Nat) : byte (s.drop i) 0 = byte s i := by simp [byte, List.getD_eq_getElem?_getD]
theorem drop_ne {s : Bytes} {i : Nat} (h : i < s.length) : s.drop i ≠ [] := by intro e; have := congrArg List.length e; simp at this; omega
theorem next_num {s : Bytes} {i : Nat} {W : Bytes} (hi : i < s.length) (hd : digB (byte s i) = true) (hW : W = (s.drop i).take (runN wordB (s.drop i))) (hc : (constV W).2 = true) : nextV (s.drop i) = ((1, (constV W).1, []), ((runN wordB (s.drop i) : Nat) : Int), 0) := by
  subst hW; unfold nextV; rw [if_neg (drop_ne hi), byte_drop, if_pos hd, if_pos hc]
theorem next_bad {s : Bytes} {i : Nat} {W : Bytes} (hi : i < s.length) (hd : digB (byte s i) = true) (hW : W = (s.drop i).take (runN wordB (s.drop i))) (hc : (constV W).2 = false) : nextV (s.drop i) = ((0, 0, []), 0, 102) := by
  subst hW; unfold nextV; rw [if_neg (drop_ne hi), byte_drop, if_pos hd, if_neg (by simp [hc])]
theorem next_name {s : Bytes} {i : Nat} {W : Bytes} (hi : i < s.length) (hd : digB (byte s i) = false) (hb : begB (byte s i) = true) (hW : W = (s.drop i).take (runN wordB (s.drop i))) : nextV (s.drop i) = ((2, 0, W), ((runN wordB (s.drop i) : Nat) : Int), 0) := by
  subst hW; unfold nextV; rw [if_neg (drop_ne hi), byte_drop, if_neg (by simp [hd]), if_pos (by rw [runN_on hi (by simp [wordB, hb])]; omega)]
theorem find_findN {q : Bytes → Bool} : ∀ (l : List Bytes) (i : Nat), (l.find? q = none → findN q i l = -1) ∧ ∀ x, l.find? q = some x → ∃ j : Nat, findN q i l = ((i + j : Nat) : Int) ∧ l[j]? = some x
  | [], i => by simp [findN]
  | y :: l, i => by
    have ih := find_findN (q := q) l (i + 1)
    rw [List.find?_cons]
    unfold findN
    cases hq : q y with
    | true => simp only [if_true]; exact ⟨fun h => (by cases h), fun x hx => ⟨0, rfl, by simpa using hx⟩⟩
    | false =>
      simp only [if_false, Bool.false_eq_true]
      refine ⟨ih.1, fun x hx => ?_⟩
      obtain ⟨j, h1, h2⟩ := ih.2 x hx
      exact ⟨j + 1, by rw [h1]; omega, by simpa using h2⟩
theorem next_op {s : Bytes} {i : Nat} (hi : i < s.length) (hd : digB (byte s i) = false) (hb : begB (byte s i) = false) (ho : ¬ opV (s.drop i) = []) : nextV (s.drop i) = ((3, 0, opV (s.drop i)), (((opV (s.drop i)).length : Nat) : Int), 0) := by
  unfold nextV; rw [if_neg (drop_ne hi), byte_drop, if_neg (by simp [hd]), if_neg (by rw [show runN wordB (s.drop i) = 0 from runN_off hi (by simp [wordB, hb, hd])]; omega)]
  have hf := find_findN (q := Lib.hasPrefix (s.drop i)) opsL 0
  cases hx : opsL.find? (Lib.hasPrefix (s.drop i)) with
  | none => exact absurd (by unfold opV; rw [hx]; rfl) ho
  | some x =>
    obtain ⟨j, h1, h2⟩ := hf.2 x hx
    have e : opV (s.drop i) = x := by unfold opV; rw [hx]; rfl
    rw [h1, if_neg (by omega), e, Nat.zero_add, Int.toNat_natCast, List.getD_eq_getElem?_getD, h2]
    rfl
theorem next_none {s : Bytes} {i : Nat} (hi : i < s.length) (hd : digB (byte s i) = false) (hb : begB (byte s i) = false) (ho : opV (s.drop i) = []) : nextV (s.drop i) = ((0, 0, []), 0, 101) := by
  unfold nextV; rw [if_neg (drop_ne hi), byte_drop, if_neg (by simp [hd]), if_neg (by rw [show runN wordB (s.drop i) = 0 from runN_off hi (by simp [wordB, hb, hd])]; omega)]
  have hf := find_findN (q := Lib.hasPrefix (s.drop i)) opsL 0
  cases hx : opsL.find? (Lib.hasPrefix (s.drop i)) with
  | none => rw [hf.1 hx]; rfl
  | some x =>
    have e : opV (s.drop i) = x := by unfold opV; rw [hx]; rfl
    have := ops_pos x (List.mem_of_find?_eq_some hx)
    rw [← e, ho] at this; cases this

theorem opV_le (s : Bytes) (i : Nat) : (opV (s.drop i)).length ≤ s.length - i := by
  unfold opV
  cases hx : opsL.find? (Lib.hasPrefix (s.drop i)) with
  | none => exact Nat.zero_le _
  | some x =>
    have := pre_len (List.find?_some hx)
    rw [List.length_drop] at this; exact this

theorem ROperators_spec (w : World) : CallR Tryz.prog 55 #[] w fun v w' => ∃ b, v = .slice (some ⟨b, 0, none⟩) opsL.length opsL.length ∧ w.heap.size ≤ b ∧ Sl sE w' (fun k => k = b) (some ⟨b, 0, none⟩) opsL ∧ Chg [] w w' := by
 refine callR_of_wp (args := []) Tryz.func55 rfl (Nat.le_of_ble_eq_true rfl) ?_
 have HC : Chg [] w w := .refl _
 refine sr rfl <| aL rfl <| en <| sr rfl <| Wp rfl <| st_lit (ps := [(0, .const (S [60, 60, 61])), (1, .const (S [62, 62, 61])), (2, .const (S [38, 38])), (3, .const (S [124, 124])), (4, .const (S [61, 61])), (5, .const (S [33, 61])), (6, .const (S [60, 61])), (7, .const (S [62, 61])), (8, .const (S [60, 60])), (9, .const (S [62, 62])), (10, .const (S [43, 61])), (11, .const (S [45, 61])), (12, .const (S [42, 61])), (13, .const (S [47, 61])), (14, .const (S [37, 61])), (15, .const (S [38, 61])), (16, .const (S [94, 61])), (17, .const (S [124, 61])), (18, .const (S [43])), (19, .const (S [45])), (20, .const (S [42])), (21, .const (S [47])), (22, .const (S [37])), (23, .const (S [60])), (24, .const (S [62])), (25, .const (S [38])), (26, .const (S [94])), (27, .const (S [124])), (28, .const (S [33])), (29, .const (S [126])), (30, .const (S [63])), (31, .const (S [58])), (32, .const (S [61])), (33, .const (S [40])), (34, .const (S [41]))]) (vs := [S _, S _, S _, S _, S _, S _, S _, S _, S _, S _, S _, S _, S _, S _, S _, S _, S _, S _, S _, S _, S _, S _, S _, S _, S _, S _, S _, S _, S _, S _, S _, S _, S _, S _, S _]) T.lit62 (by decide) rfl (by simp only [List.forall_mem_cons, List.not_mem_nil, false_imp_iff, implies_true, and_true]; exact ⟨rfl, rfl, rfl, rfl, rfl, rfl, rfl, rfl, rfl, rfl, rfl, rfl, rfl, rfl, rfl, rfl, rfl, rfl, rfl, rfl, rfl, rfl, rfl, rfl, rfl, rfl, rfl, rfl, rfl, rfl, rfl, rfl, rfl, rfl, rfl⟩) rfl ?_
 intro b1 w2 e3 c4 hb5
 have ge_b1 : w.heap.size ≤ b1 := by rw [e3]; exact HC.size
 replace HC := HC.then c4
 clear e3
 refine aL rfl <| en <| x_ret <| ret_tmp (v := .slice _ _ _) rfl rfl ?_
 exact ⟨b1, rfl, ge_b1, sl_of_map (xs := opsL) (T := 9) hb5, HC⟩

theorem op_spec (s : Bytes) (i : Nat) (w : World) (hi : i ≤ s.length) (hs : s.length ≤ 1000000000) : CallR Tryz.prog 38 #[S s, .int .i64 (i : Int)] w fun v w' => v = S (opV (s.drop i)) ∧ Chg [] w w' := by
 refine callR_of_wp (args := [_, _]) Tryz.func38 rfl (Nat.le_of_ble_eq_true rfl) ?_
 have HC : Chg [] w w := .refl _
 refine sr rfl <| aS rfl <| en <| sr rfl <| Wp rfl <| st_call (ags := []) rfl rfl T.ent55 rfl (ROperators_spec _) ?_
 rintro _ w1 ⟨bo, rfl, hgo, hops, c2⟩
 replace HC := HC.then c2
 refine aL rfl <| en <| x_seq <| sr rfl <| aI rfl <| en <| x_block <| x_loop (ι := Nat) [4, 6, 8, 9, 10, 11, 12, 13, 14, 15, 16, 17, 18, 19, 20, 21, 22, 23, 24, 25, 26, 27, 28, 29, 30, 31, 32, 33, 34, 35, 36, 37, 38, 39, 40, 41, 42, 43, 44] (fun j => [(6, .int .i64 (j : Int))]) (fun j W => (j ≤ opsL.length ∧ opsL.find? (Lib.hasPrefix (s.drop i)) = (opsL.drop j).find? (Lib.hasPrefix (s.drop i))) ∧ (Chg [] w W) ∧ (Sl sE W (fun k => k = bo) (some ⟨bo, 0, none⟩) opsL)) (fun j => opsL.length - j) 0 ?_ ?_ ?_
 · exact ⟨rfl, trivial⟩
 ·refine ⟨?_, HC, hops⟩
  exact ⟨Nat.zero_le _, by rw [List.drop_zero]⟩
 intro j G4 w3 ⟨⟨hj, hr⟩, HC, hops⟩
 change wp _ _ _ _ _ (upds (over _ _ G4) [(6, .int .i64 (j : Int))]) _ _
 have h35 : opsL.length = 35 := rfl
 refine x_seq <| sr rfl <| mI rfl <| mL rfl <| Wp rfl <| st_len (ct := #[62]) (by rw [show ((#[62] : Array TypeId)[0]?).bind Tryz.prog.underlying = some (.slice 9) from T.u62]; rfl) rfl <| Wp rfl <| st_lss rfl rfl <| en <| x_cond rfl (fun h0 => ?_) (fun h0 => ?_)
 ·try simp only [nm, ne_eq] at h0
  refine x_skip <| then_n <| x_seq <| x_block <| x_seq ?_
  obtain ⟨x1, hx5⟩ : ∃ zz, opsL[j]? = some zz := ⟨_, List.getElem?_eq_getElem (by omega)⟩
  obtain ⟨lb10, _, vs9, hA6, hR8, hC7⟩ := hops.at hx5
  obtain rfl : vs9 = [S x1] := hR8
  obtain ⟨x2, hx11⟩ : ∃ zz, opsL[j]? = some zz := ⟨_, List.getElem?_eq_getElem (by omega)⟩
  obtain ⟨lb16, _, vs15, hA12, hR14, hC13⟩ := hops.at hx11
  obtain rfl : vs15 = [S x2] := hR14
  obtain ⟨x3, hx17⟩ : ∃ zz, opsL[j]? = some zz := ⟨_, List.getElem?_eq_getElem (by omega)⟩
  obtain ⟨lb22, _, vs21, hA18, hR20, hC19⟩ := hops.at hx17
  obtain rfl : vs21 = [S x3] := hR20
  refine x_draw [(0, 0), (1, 0), (2, 0), (3, 0), (4, 0), (5, 0), (6, 0), (7, 0), (8, 0), (9, 0), (10, 0), (11, 0), (12, 0), (13, 0), (14, 0), (15, 0), (16, 0), (17, 0), (18, 0), (19, 0), (20, 0), (21, 0), (22, 0), (23, 0), (24, 0), (25, 0), (26, 0)] T.mixed rfl rfl rfl (fun W => W.heap[lb10]? = w3.heap[lb10]? ∧ W.heap[lb16]? = w3.heap[lb16]? ∧ W.heap[lb22]? = w3.heap[lb22]? ∧ True) ⟨rfl, rfl, rfl, trivial⟩ ?_
  have c24 := Chg.drew w3
  generalize World.drew w3 = w23 at c24 ⊢
  have ht_lb10 : lb10 < w23.heap.size ∧ w23.heap[lb10]? = w3.heap[lb10]? := ⟨Nat.lt_of_lt_of_le hC7.lt c24.size, c24.block lb10 hC7.lt (by simp)⟩
  have ht_lb16 : lb16 < w23.heap.size ∧ w23.heap[lb16]? = w3.heap[lb16]? := ⟨Nat.lt_of_lt_of_le hC13.lt c24.size, c24.block lb16 hC13.lt (by simp)⟩
  have ht_lb22 : lb22 < w23.heap.size ∧ w23.heap[lb22]? = w3.heap[lb22]? := ⟨Nat.lt_of_lt_of_le hC19.lt c24.size, c24.block lb22 hC19.lt (by simp)⟩
  replace HC := HC.then c24
  replace hops := hops.tr0 c24
  have he2 : x2 = x1 := Option.some.inj (hx11.symm.trans hx5)
  have he3 : x3 = x1 := Option.some.inj (hx17.symm.trans hx5)
  have hel := congrArg List.length he2
  have hol := ops_len (List.mem_of_getElem? hx5)
  refine sq_q rfl (fun W hT => r_move (v := .int _ _) rfl) <| sq_q rfl (fun W hT => r_move (v := .slice _ _ _) rfl) <| sq_q rfl (fun W hT => r_move (v := .int _ _) rfl) <| sq_q rfl (fun W hT => r_indexAddr T.u62 T.size9 (congrArg (fun z => Value.slice z _ _) hA6) rfl (by omega) (by omega)) <| sq_q rfl (fun W hT => r_load1 (v := S _) T.one9 rfl (Cells.at (j := 0) (Cells.tr hC7 hT.1) rfl)) <| sq_q rfl (fun W hT => r_slen (ct := #[9]) T.u9 rfl) <| sq_q rfl (fun W hT => r_addn rfl rfl (by constructor <;> omega)) <| sq_q rfl (fun W hT => r_move (v := S _) rfl) <| sq_q rfl (fun W hT => r_slen (ct := #[9]) T.u9 rfl) <| sq_q rfl (fun W hT => r_leq rfl rfl) <| sq_q rfl (fun W hT => r_move (v := .bool _) rfl) <| sq_split (d := 24) rfl (fun g25 => ?_) (fun g25 => ?_)
  ·try simp only [nm, ne_eq] at g25
   refine sq_q rfl (fun W hT => r_move (v := S _) rfl) <| sq_q rfl (fun W hT => r_move (v := .int _ _) rfl) <| sq_q rfl (fun W hT => r_move (v := .int _ _) rfl) <| sq_q rfl (fun W hT => r_move (v := .slice _ _ _) rfl) <| sq_q rfl (fun W hT => r_move (v := .int _ _) rfl) <| sq_q rfl (fun W hT => r_indexAddr T.u62 T.size9 (congrArg (fun z => Value.slice z _ _) hA12) rfl (by omega) (by omega)) <| sq_q rfl (fun W hT => r_load1 (v := S _) T.one9 rfl (Cells.at (j := 0) (Cells.tr hC13 hT.2.1) rfl)) <| sq_q rfl (fun W hT => r_slen (ct := #[9]) T.u9 rfl) <| sq_q rfl (fun W hT => r_addn rfl rfl (by constructor <;> omega)) <| sq_q rfl (fun W hT => r_sslice (i := i) (j := (i + x2.length)) T.u9 rfl ⟨_, rfl⟩ ⟨_, rfl⟩ (by omega) (by omega)) <| sq_q rfl (fun W hT => r_move (v := .slice _ _ _) rfl) <| sq_q rfl (fun W hT => r_move (v := .int _ _) rfl) <| sq_q rfl (fun W hT => r_indexAddr T.u62 T.size9 (congrArg (fun z => Value.slice z _ _) hA18) rfl (by omega) (by omega)) <| sq_q rfl (fun W hT => r_load1 (v := S _) T.one9 rfl (Cells.at (j := 0) (Cells.tr hC19 hT.2.2.1) rfl)) <| sq_q rfl (fun W hT => r_seql rfl rfl) <| sq_q rfl (fun W hT => r_pick (b := true) (v := .bool _) rfl rfl) <| sq_nil <| then_n <| x_cond rfl (fun h1 => ?_) (fun h1 => ?_)
   ·try simp only [nm, ne_eq] at h1
    refine sr rfl <| mL rfl <| mI rfl ?_
    obtain ⟨x4, hx26⟩ : ∃ zz, opsL[j]? = some zz := ⟨_, List.getElem?_eq_getElem (by omega)⟩
    obtain ⟨lb31, _, vs30, hA27, hR29, hC28⟩ := hops.at hx26
    obtain rfl : vs30 = [S x4] := hR29
    refine Wp rfl <| st_indexAddr T.u62 T.size9 (congrArg (fun z => Value.slice z _ _) hA27) rfl (by omega) (by omega) <| lS T.one9 rfl (hC28.at (j := 0) rfl) <| aS rfl <| en <| x_ret <| block_r <| then_r <| then_r <| block_r <| then_r <| ret_tmp (v := S _) rfl rfl <| ⟨congrArg S ?_, HC⟩
    have he4 : x4 = x1 := Option.some.inj (hx26.symm.trans hx5)
    unfold opV
    rw [hr, find_drop hx5, if_pos ((pre_cut hi).2 ⟨by omega, by rw [he2, he3] at h1; exact h1⟩), he4]; rfl
   ·try simp only [nm, ne_eq] at h1
    refine x_skip <| block_n <| then_n <| x_region rfl <| mI rfl <| Wp rfl <| st_addn rfl rfl (by constructor <;> omega) <| aI rfl <| en <| ⟨j + 1, ?_, ?_, rfl, ⟨rfl, trivial⟩, ?_⟩
    ·refine ⟨?_, HC, hops⟩
     exact ⟨by omega, by rw [hr, find_drop hx5, if_neg (fun e => by obtain ⟨e1, e2⟩ := (pre_cut hi).1 e; first | (exfalso; omega) | (apply h1; rw [he2, he3]; exact e2))]⟩
    ·show opsL.length - (j + 1) < opsL.length - j; omega
    repeat (first | exact agree_upds agree_over rfl | refine agree_upd ?_ rfl | refine agree_upds ?_ rfl | refine agree_over_sub ?_ rfl)
  ·try simp only [nm, ne_eq] at g25
   refine sq_no rfl rfl <| sq_no rfl rfl <| sq_no rfl rfl <| sq_no rfl rfl <| sq_no rfl rfl <| sq_no rfl rfl <| sq_no rfl rfl <| sq_no rfl rfl <| sq_no rfl rfl <| sq_no rfl rfl <| sq_no rfl rfl <| sq_no rfl rfl <| sq_no rfl rfl <| sq_no rfl rfl <| sq_no rfl rfl <| sq_q rfl (fun W hT => r_pick (b := false) (v := .bool _) rfl rfl) <| sq_nil <| then_n <| x_cond (t := false) rfl (fun h1 => ?_) (fun h1 => ?_)
   · exact absurd h1 (by decide)
   refine x_skip <| block_n <| then_n <| x_region rfl <| mI rfl <| Wp rfl <| st_addn rfl rfl (by constructor <;> omega) <| aI rfl <| en <| ⟨j + 1, ?_, ?_, rfl, ⟨rfl, trivial⟩, ?_⟩
   ·refine ⟨?_, HC, hops⟩
    exact ⟨by omega, by rw [hr, find_drop hx5, if_neg (fun e => by obtain ⟨e1, e2⟩ := (pre_cut hi).1 e; first | (exfalso; omega) | (apply h1; rw [he2, he3]; exact e2))]⟩
   ·show opsL.length - (j + 1) < opsL.length - j; omega
   repeat (first | exact agree_upds agree_over rfl | refine agree_upd ?_ rfl | refine agree_upds ?_ rfl | refine agree_over_sub ?_ rfl)
 ·try simp only [nm, ne_eq] at h0
  refine x_exit <| then_x <| then_x <| block_x <| then_n <| sr rfl <| aS rfl <| en <| x_ret <| ret_tmp (v := S _) rfl rfl <| ⟨congrArg S ?_, HC⟩
  unfold opV; rw [hr, List.drop_of_length_le (l := opsL) (by omega)]; rfl

theorem RTokens_spec {L : List Yd} (s : Bytes) (w : World) (hL : toksF (s.length + 1) s 0 = L) (hs : s.length ≤ 1000000000) : CallR Tryz.prog 17 #[S s] w fun v w' => ∃ A cap, v = .tuple ⟨[.slice A (tokV L).1.length cap, .int .i64 (tokV L).2.1, .int .i64 (tokV L).2.2]⟩ ∧ Own tkE 60 w' (fun k => w.heap.size ≤ k) A cap (tokV L).1 ∧ Chg [] w w' := by
 refine callR_of_wp (args := [_]) Tryz.func17 rfl (Nat.le_of_ble_eq_true rfl) ?_
 have HC : Chg [] w w := .refl _
 refine sr rfl <| aL rfl <| aI rfl <| aI rfl <| en <| sr rfl <| aL rfl <| en <| sr rfl <| aI rfl <| en <| x_seq <| x_block <| x_loop (ι := Nat × Nat × List Tk × Option Addr × Nat) [2, 3, 4, 5, 6, 7, 8, 9, 10, 11, 12, 13, 14, 15, 16, 17, 18, 19, 20, 21, 22, 23, 24, 25, 26, 27, 28, 29, 30, 31, 32, 33, 34, 35, 36, 37, 38, 39, 40, 41, 42, 43, 44, 45, 46, 47, 48, 49, 50, 51, 52, 53, 54, 55, 56, 57, 58, 59, 60, 61, 62, 63, 64, 65, 66, 67, 68, 69, 70, 71, 72, 73, 74, 75, 76, 77, 78, 79, 80, 81, 82, 83, 84, 85, 86, 87, 88, 89, 90, 91, 92, 93, 94, 95, 96, 97, 98] (fun ⟨i, k, l, A, cap⟩ => [(6, .int .i64 (i : Int)), (5, .slice A l.length cap)]) (fun ⟨i, k, l, A, cap⟩ W => (i ≤ s.length ∧ s.length - i < k ∧ cmb l (toksF k s i) = tokV L ∧ l.length ≤ i) ∧ (Chg [] w W) ∧ (Own tkE 60 W (fun k => w.heap.size ≤ k) A cap l)) (fun ⟨i, k, l, A, cap⟩ => s.length - i) (0, s.length + 1, [], none, 0) ?_ ?_ ?_
 · exact ⟨rfl, rfl, trivial⟩
 ·refine ⟨?_, HC, Own.nil⟩
  exact ⟨Nat.zero_le _, by omega, by rw [cmb_nil, hL], by simp⟩
 intro ⟨i, k, l, A, cap⟩ G2 w1 ⟨⟨hi, hkl, hq, hll⟩, HC, ho⟩
 change wp _ _ _ _ _ (upds (over _ _ G2) [(6, .int .i64 (i : Int)), (5, .slice A l.length cap)]) _ _
 obtain ⟨k, rfl⟩ : ∃ k', k = k' + 1 := ⟨k - 1, by omega⟩
 refine x_seq <| sr rfl <| mI rfl <| mS rfl <| Wp rfl <| st_slen (ct := #[9]) T.u9 rfl <| Wp rfl <| st_lss rfl rfl <| en <| x_cond rfl (fun h0 => ?_) (fun h0 => ?_)
 ·try simp only [nm, ne_eq] at h0
  have hil : i < s.length := by omega
  refine x_skip <| then_n <| x_block <| sr rfl <| mS rfl <| mI rfl <| Wp rfl <| st_sidx T.u9 rfl rfl (by omega) (by omega) <| aI rfl <| en <| x_seq <| sr rfl <| mI rfl <| Wp rfl <| st_eql rfl rfl <| mB rfl <| w_split (d := 21) rfl (fun g3 => ?_) (fun g3 => ?_)
  ·try simp only [nm, ne_eq] at g3
   refine w_no 2 21 false <| w_no 2 21 false <| pT rfl rfl <| mB rfl <| w_no 6 25 false <| w_no 6 25 false <| pT rfl rfl <| en <| x_cond (t := true) rfl (fun h1 => ?_) (fun h1 => ?_)
   rotate_left
   · exact absurd h1 (by decide)
   have hbl : blankB (byte s i) = true := by simp only [blankB, Bool.or_eq_true, decide_eq_true_eq]; omega
   refine sr rfl <| mI rfl <| Wp rfl <| st_addn rfl rfl (by constructor <;> omega) <| aI rfl <| en <| x_exit <| then_x <| block_x <| then_n <| ⟨(i + 1, k + 1, l, A, cap), ?_, ?_, rfl, ⟨rfl, rfl, trivial⟩, ?_⟩
   ·refine ⟨?_, HC, ho⟩
    exact ⟨by omega, by omega, by rw [← toksF_blank hil hbl]; exact hq, by omega⟩
   ·show s.length - (i + 1) < s.length - i; omega
   repeat (first | exact agree_upds agree_over rfl | refine agree_upd ?_ rfl | refine agree_upds ?_ rfl | refine agree_over_sub ?_ rfl)
  ·try simp only [nm, ne_eq] at g3
   refine w_yes 2 21 false <| st_move (v := .int _ _) rfl <| w_yes 2 21 false <| st_eql rfl rfl <| pF rfl rfl <| mB rfl <| w_split (d := 25) rfl (fun g4 => ?_) (fun g4 => ?_)
   ·try simp only [nm, ne_eq] at g4
    refine w_no 6 25 false <| w_no 6 25 false <| pT rfl rfl <| en <| x_cond (t := true) rfl (fun h1 => ?_) (fun h1 => ?_)
    rotate_left
    · exact absurd h1 (by decide)
    have hbl : blankB (byte s i) = true := by simp only [blankB, Bool.or_eq_true, decide_eq_true_eq]; omega
    refine sr rfl <| mI rfl <| Wp rfl <| st_addn rfl rfl (by constructor <;> omega) <| aI rfl <| en <| x_exit <| then_x <| block_x <| then_n <| ⟨(i + 1, k + 1, l, A, cap), ?_, ?_, rfl, ⟨rfl, rfl, trivial⟩, ?_⟩
    ·refine ⟨?_, HC, ho⟩
     exact ⟨by omega, by omega, by rw [← toksF_blank hil hbl]; exact hq, by omega⟩
    ·show s.length - (i + 1) < s.length - i; omega
    repeat (first | exact agree_upds agree_over rfl | refine agree_upd ?_ rfl | refine agree_upds ?_ rfl | refine agree_over_sub ?_ rfl)
   ·try simp only [nm, ne_eq] at g4
    refine w_yes 6 25 false <| st_move (v := .int _ _) rfl <| w_yes 6 25 false <| st_eql rfl rfl <| pF rfl rfl <| en <| x_cond rfl (fun h1 => ?_) (fun h1 => ?_)
    ·try simp only [nm, ne_eq] at h1
     have hbl : blankB (byte s i) = true := by simp only [blankB, Bool.or_eq_true, decide_eq_true_eq]; omega
     refine sr rfl <| mI rfl <| Wp rfl <| st_addn rfl rfl (by constructor <;> omega) <| aI rfl <| en <| x_exit <| then_x <| block_x <| then_n <| ⟨(i + 1, k + 1, l, A, cap), ?_, ?_, rfl, ⟨rfl, rfl, trivial⟩, ?_⟩
     ·refine ⟨?_, HC, ho⟩
      exact ⟨by omega, by omega, by rw [← toksF_blank hil hbl]; exact hq, by omega⟩
     ·show s.length - (i + 1) < s.length - i; omega
     repeat (first | exact agree_upds agree_over rfl | refine agree_upd ?_ rfl | refine agree_upds ?_ rfl | refine agree_over_sub ?_ rfl)
    ·try simp only [nm, ne_eq] at h1
     have hbl : blankB (byte s i) = false := by simp only [blankB, Bool.or_eq_false_iff, decide_eq_false_iff_not]; omega
     refine x_skip <| then_n <| sr rfl <| mI rfl <| aI rfl <| en <| x_seq <| x_block <| x_loop (ι := Nat) [8, 32, 33, 34, 35, 36, 37, 38, 39, 40, 41, 42, 43, 44, 45, 46, 47, 48, 49] (fun m => [(8, .int .i64 (m : Int))]) (fun m W => (i ≤ m ∧ m ≤ s.length ∧ runN wordB (s.drop i) + i = m + runN wordB (s.drop m)) ∧ (Chg [] w W) ∧ (Own tkE 60 W (fun k => w.heap.size ≤ k) A cap l)) (fun m => s.length - m) i ?_ ?_ ?_
     · exact ⟨rfl, trivial⟩
     ·refine ⟨?_, HC, ho⟩
      exact ⟨Nat.le_refl _, by omega, by omega⟩
     intro m G6 w5 ⟨⟨hm1, hm2, hrn⟩, HC, ho⟩
     change wp _ _ _ _ _ (upds (over _ _ G6) [(8, .int .i64 (m : Int))]) _ _
     refine x_seq <| sr rfl <| mI rfl <| mS rfl <| Wp rfl <| st_slen (ct := #[9]) T.u9 rfl <| Wp rfl <| st_lss rfl rfl <| mB rfl <| w_split (d := 36) rfl (fun g7 => ?_) (fun g7 => ?_)
     ·try simp only [nm, ne_eq] at g7
      refine w_yes 4 36 true <| st_move (v := S _) rfl <| w_yes 4 36 true <| st_move (v := .int _ _) rfl <| w_yes 4 36 true <| st_sidx T.u9 rfl rfl (by omega) (by omega) <| w_yes 4 36 true <| st_call (ags := [_]) rfl rfl T.ent35 rfl (r_begins (byte s m) _) ?_
      rintro _ w8 ⟨rfl, c9⟩
      replace HC := HC.then c9
      replace ho := ho.tr0 c9
      refine w_yes 4 36 true <| st_move (v := .bool _) rfl <| w_split (d := 41) rfl (fun g10 => ?_) (fun g10 => ?_)
      ·try simp only [nm, ne_eq] at g10
       iterate 4 refine w_no 9 41 false ?_
       refine w_yes 4 36 true <| st_pick (b := true) (v := .bool _) rfl rfl <| pT rfl rfl <| en <| x_cond (t := true) rfl (fun h2 => ?_) (fun h2 => ?_)
       rotate_left
       · exact absurd h2 (by decide)
       have hwd : wordB (byte s m) = true := by unfold wordB; first | rw [show begB (byte s m) = true by assumption, Bool.true_or] | rw [show digB (byte s m) = true by assumption, Bool.or_true]
       refine x_skip <| then_n <| x_block <| x_region rfl <| mI rfl <| Wp rfl <| st_addn rfl rfl (by constructor <;> omega) <| aI rfl <| wops_nil <| block_n <| then_n <| ⟨m + 1, ?_, ?_, rfl, ⟨rfl, trivial⟩, ?_⟩
       ·refine ⟨?_, HC, ho⟩
        exact ⟨by omega, by omega, by rw [runN_on (by omega) hwd] at hrn; omega⟩
       ·show s.length - (m + 1) < s.length - m; omega
       repeat (first | exact agree_upds agree_over rfl | refine agree_upd ?_ rfl | refine agree_upds ?_ rfl | refine agree_over_sub ?_ rfl)
      ·try simp only [nm, ne_eq] at g10
       refine w_yes 9 41 false <| st_move (v := S _) rfl <| w_yes 9 41 false <| st_move (v := .int _ _) rfl <| w_yes 9 41 false <| st_sidx T.u9 rfl rfl (by omega) (by omega) <| w_yes 9 41 false <| st_call (ags := [_]) rfl rfl T.ent36 rfl (r_digitb (byte s m) _) ?_
       rintro _ w11 ⟨rfl, c12⟩
       replace HC := HC.then c12
       replace ho := ho.tr0 c12
       refine w_yes 4 36 true <| st_pick (b := false) (v := .bool _) rfl rfl <| pT rfl rfl <| en <| x_cond rfl (fun h2 => ?_) (fun h2 => ?_)
       ·try simp only [nm, ne_eq] at h2
        have hwd : wordB (byte s m) = true := by unfold wordB; first | rw [show begB (byte s m) = true by assumption, Bool.true_or] | rw [show digB (byte s m) = true by assumption, Bool.or_true]
        refine x_skip <| then_n <| x_block <| x_region rfl <| mI rfl <| Wp rfl <| st_addn rfl rfl (by constructor <;> omega) <| aI rfl <| wops_nil <| block_n <| then_n <| ⟨m + 1, ?_, ?_, rfl, ⟨rfl, trivial⟩, ?_⟩
        ·refine ⟨?_, HC, ho⟩
         exact ⟨by omega, by omega, by rw [runN_on (by omega) hwd] at hrn; omega⟩
        ·show s.length - (m + 1) < s.length - m; omega
        repeat (first | exact agree_upds agree_over rfl | refine agree_upd ?_ rfl | refine agree_upds ?_ rfl | refine agree_over_sub ?_ rfl)
       ·try simp only [nm, ne_eq] at h2
        have hm : m = i + runN wordB (s.drop i) := by first | (rw [runN_end (s := s) (n := m) (by omega)] at hrn; omega) | (rw [runN_off (s := s) (n := m) (by omega) (by unfold wordB; rw [show begB (byte s m) = false by assumption, show digB (byte s m) = false by assumption]; rfl)] at hrn; omega)
        have hW : (s.take m).drop i = (s.drop i).take (runN wordB (s.drop i)) := by rw [List.drop_take, hm, Nat.add_sub_cancel_left]
        have hwl := runN_le wordB (s.drop i)
        rw [List.length_drop] at hwl
        refine x_exit <| then_x <| then_x <| block_x <| then_n <| x_seq <| x_block <| sr rfl <| mI rfl <| Wp rfl <| st_call (ags := [_]) rfl rfl T.ent36 rfl (r_digitb (byte s i) _) ?_
        rintro _ w13 ⟨rfl, c14⟩
        replace HC := HC.then c14
        replace ho := ho.tr0 c14
        refine aB rfl <| en <| x_cond rfl (fun h3 => ?_) (fun h3 => ?_)
        ·try simp only [nm, ne_eq] at h3
         refine sr rfl <| mS rfl <| mI rfl <| mI rfl <| Wp rfl <| st_sslice (i := i) (j := m) T.u9 rfl ⟨_, rfl⟩ ⟨_, rfl⟩ (by omega) (by omega) <| Wp rfl <| st_call (ags := [_]) rfl rfl T.ent37 rfl (RConstant_spec ((s.take m).drop i) _ (by simp only [List.length_drop, List.length_take]; omega)) ?_
         rintro _ w15 ⟨rfl, c16⟩
         replace HC := HC.then c16
         replace ho := ho.tr0 c16
         refine mv (v := .tuple ⟨[_, _]⟩) rfl <| Wp rfl <| st_extract (vs := [_, _]) (v := .int _ _) rfl rfl <| Wp rfl <| st_extract (vs := [_, _]) (v := .bool _) rfl rfl <| aI rfl <| aB rfl <| en <| x_seq <| sr rfl <| mB rfl <| Wp rfl <| st_not rfl <| en <| x_cond rfl (fun h4 => ?_) (fun h4 => ?_)
         ·try simp only [nm, ne_eq] at h4
          refine sr rfl <| mI rfl <| aL rfl <| aI rfl <| aI rfl <| en <| x_ret <| then_r <| block_r <| then_r <| block_r <| then_r <| block_r <| then_r <| ret_tmp3 (v := .slice _ _ _) (v2 := .int _ _) (v3 := .int _ _) rfl rfl rfl rfl ?_
          rw [show tokV L = ([], (i : Int), 102) by rw [← hq, toksF_bad hil hbl (next_bad hil h3 hW h4) (by simp), cmb_bad (by simp)]]
          exact ⟨none, 0, rfl, Own.nil, HC⟩
         ·try simp only [nm, ne_eq] at h4
          have hnx : nextV (s.drop i) = ((1, (constV ((s.take m).drop i)).1, []), ((m - i : Nat) : Int), 0) := by rw [next_num hil h3 hW h4]; rw [show m - i = runN wordB (s.drop i) by omega]
          have hmi : i + (m - i) = m := by omega
          have hmp : 0 < runN wordB (s.drop i) := by rw [runN_on hil (by unfold wordB; rw [h3, Bool.or_true])]; omega
          refine x_skip <| then_n <| x_region rfl <| mL rfl <| mI rfl <| mI rfl <| Wp rfl <| st_bld (ps := [(0, .const (.int .i64 1)), (1, .tmp 81), (3, .tmp 82)]) (vs := [.int _ _, .int _ _, S _, .int _ _]) T.bld60 rfl <| Wp rfl <| st_lit (ps := [(0, .tmp 83)]) (vs := [.int _ _, .int _ _, S _, .int _ _]) T.lit52 (by decide) rfl (by simp only [List.forall_mem_cons, List.not_mem_nil, false_imp_iff, implies_true, and_true]; exact rfl) rfl ?_
          intro b17 w18 e19 c20 hb21
          have ge_b17 : w.heap.size ≤ b17 := by rw [e19]; exact HC.size
          have na_b17 : b17 ∉ ob A := ho.fresh (by rw [e19]; exact Nat.le_refl _)
          replace HC := HC.then c20
          replace ho := ho.tr0 c20
          clear e19
          have hszA := HC.size
          refine Wp rfl <| st_append2 (c := tkE) (D2 := fun _ => False) (xs := l) (ys := [((1, (constV ((s.take m).drop i)).1, []), (i : Int))]) T.slice52 rfl rfl ho rfl rfl (one_elem rfl (hb21.cells (n := 4) rfl)) (fun _ _ h => h.elim) (fun k hk => by have := HC.size; omega) (by simp only [List.length_cons, List.length_nil]; omega) (by simp only [List.length_cons, List.length_nil]; omega) ?_
          intro A22 cap23 w24 ho25 c26 hg27
          replace HC := HC.trans c26 (fun k hk => .inr (ho.inD k hk))
          replace hb21 := hb21.tr c26 (fun hx => by first | (have h1 := ho.inD _ hx; omega) | exact na_b17 hx | exact hav _ hx (by simp))
          refine aL rfl <| wops_nil <| block_n <| then_n <| x_region rfl <| mI rfl <| aI rfl <| wops_nil <| block_n <| then_n <| ⟨(m, k, l ++ [((1, (constV ((s.take m).drop i)).1, []), (i : Int))], A22, cap23), ?_, ?_, rfl, ⟨rfl, rfl, trivial⟩, ?_⟩
          ·refine ⟨?_, HC, ho25⟩
           exact ⟨by omega, by omega, by rw [← hq, toksF_tok hil hbl hnx (by simp), cmb_cons rfl, hmi]; rfl, by simp only [List.length_append, List.length_cons, List.length_nil]; omega⟩
          ·show s.length - (m) < s.length - i; omega
          repeat (first | exact agree_upds agree_over rfl | refine agree_upd ?_ rfl | refine agree_upds ?_ rfl | refine agree_over_sub ?_ rfl)
        ·try simp only [nm, ne_eq] at h3
         refine sr rfl <| mI rfl <| Wp rfl <| st_call (ags := [_]) rfl rfl T.ent35 rfl (r_begins (byte s i) _) ?_
         rintro _ w28 ⟨rfl, c29⟩
         replace HC := HC.then c29
         replace ho := ho.tr0 c29
         refine aB rfl <| en <| x_cond rfl (fun h5 => ?_) (fun h5 => ?_)
         ·try simp only [nm, ne_eq] at h5
          have hnx : nextV (s.drop i) = ((2, 0, (s.take m).drop i), ((m - i : Nat) : Int), 0) := by rw [next_name hil h3 h5 hW]; rw [show m - i = runN wordB (s.drop i) by omega]
          have hmi : i + (m - i) = m := by omega
          have hmp : 0 < runN wordB (s.drop i) := by rw [runN_on hil (by unfold wordB; rw [h5, Bool.true_or])]; omega
          refine x_region rfl <| mL rfl <| mS rfl <| mI rfl <| mI rfl <| Wp rfl <| st_sslice (i := i) (j := m) T.u9 rfl ⟨_, rfl⟩ ⟨_, rfl⟩ (by omega) (by omega) <| mI rfl <| Wp rfl <| st_bld (ps := [(0, .const (.int .i64 2)), (2, .tmp 93), (3, .tmp 94)]) (vs := [.int _ _, .int _ _, S _, .int _ _]) T.bld60 rfl <| Wp rfl <| st_lit (ps := [(0, .tmp 95)]) (vs := [.int _ _, .int _ _, S _, .int _ _]) T.lit52 (by decide) rfl (by simp only [List.forall_mem_cons, List.not_mem_nil, false_imp_iff, implies_true, and_true]; exact rfl) rfl ?_
          intro b30 w31 e32 c33 hb34
          have ge_b30 : w.heap.size ≤ b30 := by rw [e32]; exact HC.size
          have na_b30 : b30 ∉ ob A := ho.fresh (by rw [e32]; exact Nat.le_refl _)
          replace HC := HC.then c33
          replace ho := ho.tr0 c33
          clear e32
          have hszA := HC.size
          refine Wp rfl <| st_append2 (c := tkE) (D2 := fun _ => False) (xs := l) (ys := [((2, 0, (s.take m).drop i), (i : Int))]) T.slice52 rfl rfl ho rfl rfl (one_elem rfl (hb34.cells (n := 4) rfl)) (fun _ _ h => h.elim) (fun k hk => by have := HC.size; omega) (by simp only [List.length_cons, List.length_nil]; omega) (by simp only [List.length_cons, List.length_nil]; omega) ?_
          intro A35 cap36 w37 ho38 c39 hg40
          replace HC := HC.trans c39 (fun k hk => .inr (ho.inD k hk))
          replace hb34 := hb34.tr c39 (fun hx => by first | (have h1 := ho.inD _ hx; omega) | exact na_b30 hx | exact hav _ hx (by simp))
          refine aL rfl <| wops_nil <| block_n <| then_n <| x_region rfl <| mI rfl <| aI rfl <| wops_nil <| block_n <| then_n <| ⟨(m, k, l ++ [((2, 0, (s.take m).drop i), (i : Int))], A35, cap36), ?_, ?_, rfl, ⟨rfl, rfl, trivial⟩, ?_⟩
          ·refine ⟨?_, HC, ho38⟩
           exact ⟨by omega, by omega, by rw [← hq, toksF_tok hil hbl hnx (by simp), cmb_cons rfl, hmi]; rfl, by simp only [List.length_append, List.length_cons, List.length_nil]; omega⟩
          ·show s.length - (m) < s.length - i; omega
          repeat (first | exact agree_upds agree_over rfl | refine agree_upd ?_ rfl | refine agree_upds ?_ rfl | refine agree_over_sub ?_ rfl)
         ·try simp only [nm, ne_eq] at h5
          refine sr rfl <| mS rfl <| mI rfl <| Wp rfl <| st_call (ags := [_, _]) rfl rfl T.ent38 rfl (op_spec s i _ (by omega) hs) ?_
          rintro _ w41 ⟨rfl, c42⟩
          replace HC := HC.then c42
          replace ho := ho.tr0 c42
          refine aS rfl <| en <| x_seq <| sr rfl <| mS rfl <| Wp rfl <| st_seql rfl rfl <| en <| x_cond rfl (fun h6 => ?_) (fun h6 => ?_)
          ·try simp only [nm, ne_eq] at h6
           refine sr rfl <| mI rfl <| aL rfl <| aI rfl <| aI rfl <| en <| x_ret <| then_r <| block_r <| then_r <| block_r <| then_r <| block_r <| then_r <| ret_tmp3 (v := .slice _ _ _) (v2 := .int _ _) (v3 := .int _ _) rfl rfl rfl rfl ?_
           rw [show tokV L = ([], (i : Int), 101) by rw [← hq, toksF_bad hil hbl (next_none hil h3 h5 h6) (by simp), cmb_bad (by simp)]]
           exact ⟨none, 0, rfl, Own.nil, HC⟩
          ·try simp only [nm, ne_eq] at h6
           have hol : (opV (s.drop i)).length ≤ s.length - i := opV_le s i
           have hop : 0 < (opV (s.drop i)).length := List.length_pos_iff.2 h6
           refine x_skip <| then_n <| sr rfl <| mL rfl <| mS rfl <| mI rfl <| Wp rfl <| st_bld (ps := [(0, .const (.int .i64 3)), (2, .tmp 57), (3, .tmp 58)]) (vs := [.int _ _, .int _ _, S _, .int _ _]) T.bld60 rfl <| Wp rfl <| st_lit (ps := [(0, .tmp 59)]) (vs := [.int _ _, .int _ _, S _, .int _ _]) T.lit52 (by decide) rfl (by simp only [List.forall_mem_cons, List.not_mem_nil, false_imp_iff, implies_true, and_true]; exact rfl) rfl ?_
           intro b43 w44 e45 c46 hb47
           have ge_b43 : w.heap.size ≤ b43 := by rw [e45]; exact HC.size
           have na_b43 : b43 ∉ ob A := ho.fresh (by rw [e45]; exact Nat.le_refl _)
           replace HC := HC.then c46
           replace ho := ho.tr0 c46
           clear e45
           have hszA := HC.size
           refine Wp rfl <| st_append2 (c := tkE) (D2 := fun _ => False) (xs := l) (ys := [((3, 0, opV (s.drop i)), (i : Int))]) T.slice52 rfl rfl ho rfl rfl (one_elem rfl (hb47.cells (n := 4) rfl)) (fun _ _ h => h.elim) (fun k hk => by have := HC.size; omega) (by simp only [List.length_cons, List.length_nil]; omega) (by simp only [List.length_cons, List.length_nil]; omega) ?_
           intro A48 cap49 w50 ho51 c52 hg53
           replace HC := HC.trans c52 (fun k hk => .inr (ho.inD k hk))
           replace hb47 := hb47.tr c52 (fun hx => by first | (have h1 := ho.inD _ hx; omega) | exact na_b43 hx | exact hav _ hx (by simp))
           refine aL rfl <| en ?_
           have hadd65 : IntKind.i64.wrap ((i : Int) + ((opV (s.drop i)).length : Int)) = ((i + (opV (s.drop i)).length : Nat) : Int) := by rw [wrap64_id (by omega) (by omega)]; omega
           refine x_region rfl <| mI rfl <| mS rfl <| Wp rfl <| st_slen (ct := #[9]) T.u9 rfl <| Wp rfl <| st_addk rfl rfl (by exact hadd65) <| aI rfl <| wops_nil <| block_n <| then_n <| x_region rfl <| mI rfl <| aI rfl <| wops_nil <| block_n <| then_n <| ⟨(i + (opV (s.drop i)).length, k, l ++ [((3, 0, opV (s.drop i)), (i : Int))], A48, cap49), ?_, ?_, rfl, ⟨rfl, rfl, trivial⟩, ?_⟩
           ·refine ⟨?_, HC, ho51⟩
            exact ⟨by omega, by omega, by rw [← hq, toksF_tok hil hbl (next_op hil h3 h5 h6) (by simp), cmb_cons rfl]; rfl, by simp only [List.length_append, List.length_cons, List.length_nil]; omega⟩
           ·show s.length - (i + (opV (s.drop i)).length) < s.length - i; omega
           repeat (first | exact agree_upds agree_over rfl | refine agree_upd ?_ rfl | refine agree_upds ?_ rfl | refine agree_over_sub ?_ rfl)
     ·try simp only [nm, ne_eq] at g7
      iterate 5 refine w_no 4 36 true ?_
      iterate 4 refine w_no 9 41 false ?_
      refine w_no 4 36 true <| pF rfl rfl <| en <| x_cond (t := false) rfl (fun h2 => ?_) (fun h2 => ?_)
      · exact absurd h2 (by decide)
      have hm : m = i + runN wordB (s.drop i) := by first | (rw [runN_end (s := s) (n := m) (by omega)] at hrn; omega) | (rw [runN_off (s := s) (n := m) (by omega) (by unfold wordB; rw [show begB (byte s m) = false by assumption, show digB (byte s m) = false by assumption]; rfl)] at hrn; omega)
      have hW : (s.take m).drop i = (s.drop i).take (runN wordB (s.drop i)) := by rw [List.drop_take, hm, Nat.add_sub_cancel_left]
      have hwl := runN_le wordB (s.drop i)
      rw [List.length_drop] at hwl
      refine x_exit <| then_x <| then_x <| block_x <| then_n <| x_seq <| x_block <| sr rfl <| mI rfl <| Wp rfl <| st_call (ags := [_]) rfl rfl T.ent36 rfl (r_digitb (byte s i) _) ?_
      rintro _ w54 ⟨rfl, c55⟩
      replace HC := HC.then c55
      replace ho := ho.tr0 c55
      refine aB rfl <| en <| x_cond rfl (fun h3 => ?_) (fun h3 => ?_)
      ·try simp only [nm, ne_eq] at h3
       refine sr rfl <| mS rfl <| mI rfl <| mI rfl <| Wp rfl <| st_sslice (i := i) (j := m) T.u9 rfl ⟨_, rfl⟩ ⟨_, rfl⟩ (by omega) (by omega) <| Wp rfl <| st_call (ags := [_]) rfl rfl T.ent37 rfl (RConstant_spec ((s.take m).drop i) _ (by simp only [List.length_drop, List.length_take]; omega)) ?_
       rintro _ w56 ⟨rfl, c57⟩
       replace HC := HC.then c57
       replace ho := ho.tr0 c57
       refine mv (v := .tuple ⟨[_, _]⟩) rfl <| Wp rfl <| st_extract (vs := [_, _]) (v := .int _ _) rfl rfl <| Wp rfl <| st_extract (vs := [_, _]) (v := .bool _) rfl rfl <| aI rfl <| aB rfl <| en <| x_seq <| sr rfl <| mB rfl <| Wp rfl <| st_not rfl <| en <| x_cond rfl (fun h4 => ?_) (fun h4 => ?_)
       ·try simp only [nm, ne_eq] at h4
        refine sr rfl <| mI rfl <| aL rfl <| aI rfl <| aI rfl <| en <| x_ret <| then_r <| block_r <| then_r <| block_r <| then_r <| block_r <| then_r <| ret_tmp3 (v := .slice _ _ _) (v2 := .int _ _) (v3 := .int _ _) rfl rfl rfl rfl ?_
        rw [show tokV L = ([], (i : Int), 102) by rw [← hq, toksF_bad hil hbl (next_bad hil h3 hW h4) (by simp), cmb_bad (by simp)]]
        exact ⟨none, 0, rfl, Own.nil, HC⟩
       ·try simp only [nm, ne_eq] at h4
        have hnx : nextV (s.drop i) = ((1, (constV ((s.take m).drop i)).1, []), ((m - i : Nat) : Int), 0) := by rw [next_num hil h3 hW h4]; rw [show m - i = runN wordB (s.drop i) by omega]
        have hmi : i + (m - i) = m := by omega
        have hmp : 0 < runN wordB (s.drop i) := by rw [runN_on hil (by unfold wordB; rw [h3, Bool.or_true])]; omega
        refine x_skip <| then_n <| x_region rfl <| mL rfl <| mI rfl <| mI rfl <| Wp rfl <| st_bld (ps := [(0, .const (.int .i64 1)), (1, .tmp 81), (3, .tmp 82)]) (vs := [.int _ _, .int _ _, S _, .int _ _]) T.bld60 rfl <| Wp rfl <| st_lit (ps := [(0, .tmp 83)]) (vs := [.int _ _, .int _ _, S _, .int _ _]) T.lit52 (by decide) rfl (by simp only [List.forall_mem_cons, List.not_mem_nil, false_imp_iff, implies_true, and_true]; exact rfl) rfl ?_
        intro b58 w59 e60 c61 hb62
        have ge_b58 : w.heap.size ≤ b58 := by rw [e60]; exact HC.size
        have na_b58 : b58 ∉ ob A := ho.fresh (by rw [e60]; exact Nat.le_refl _)
        replace HC := HC.then c61
        replace ho := ho.tr0 c61
        clear e60
        have hszA := HC.size
        refine Wp rfl <| st_append2 (c := tkE) (D2 := fun _ => False) (xs := l) (ys := [((1, (constV ((s.take m).drop i)).1, []), (i : Int))]) T.slice52 rfl rfl ho rfl rfl (one_elem rfl (hb62.cells (n := 4) rfl)) (fun _ _ h => h.elim) (fun k hk => by have := HC.size; omega) (by simp only [List.length_cons, List.length_nil]; omega) (by simp only [List.length_cons, List.length_nil]; omega) ?_
        intro A63 cap64 w65 ho66 c67 hg68
        replace HC := HC.trans c67 (fun k hk => .inr (ho.inD k hk))
        replace hb62 := hb62.tr c67 (fun hx => by first | (have h1 := ho.inD _ hx; omega) | exact na_b58 hx | exact hav _ hx (by simp))
        refine aL rfl <| wops_nil <| block_n <| then_n <| x_region rfl <| mI rfl <| aI rfl <| wops_nil <| block_n <| then_n <| ⟨(m, k, l ++ [((1, (constV ((s.take m).drop i)).1, []), (i : Int))], A63, cap64), ?_, ?_, rfl, ⟨rfl, rfl, trivial⟩, ?_⟩
        ·refine ⟨?_, HC, ho66⟩
         exact ⟨by omega, by omega, by rw [← hq, toksF_tok hil hbl hnx (by simp), cmb_cons rfl, hmi]; rfl, by simp only [List.length_append, List.length_cons, List.length_nil]; omega⟩
        ·show s.length - (m) < s.length - i; omega
        repeat (first | exact agree_upds agree_over rfl | refine agree_upd ?_ rfl | refine agree_upds ?_ rfl | refine agree_over_sub ?_ rfl)
      ·try simp only [nm, ne_eq] at h3
       refine sr rfl <| mI rfl <| Wp rfl <| st_call (ags := [_]) rfl rfl T.ent35 rfl (r_begins (byte s i) _) ?_
       rintro _ w69 ⟨rfl, c70⟩
       replace HC := HC.then c70
       replace ho := ho.tr0 c70
       refine aB rfl <| en <| x_cond rfl (fun h5 => ?_) (fun h5 => ?_)
       ·try simp only [nm, ne_eq] at h5
        have hnx : nextV (s.drop i) = ((2, 0, (s.take m).drop i), ((m - i : Nat) : Int), 0) := by rw [next_name hil h3 h5 hW]; rw [show m - i = runN wordB (s.drop i) by omega]
        have hmi : i + (m - i) = m := by omega
        have hmp : 0 < runN wordB (s.drop i) := by rw [runN_on hil (by unfold wordB; rw [h5, Bool.true_or])]; omega
        refine x_region rfl <| mL rfl <| mS rfl <| mI rfl <| mI rfl <| Wp rfl <| st_sslice (i := i) (j := m) T.u9 rfl ⟨_, rfl⟩ ⟨_, rfl⟩ (by omega) (by omega) <| mI rfl <| Wp rfl <| st_bld (ps := [(0, .const (.int .i64 2)), (2, .tmp 93), (3, .tmp 94)]) (vs := [.int _ _, .int _ _, S _, .int _ _]) T.bld60 rfl <| Wp rfl <| st_lit (ps := [(0, .tmp 95)]) (vs := [.int _ _, .int _ _, S _, .int _ _]) T.lit52 (by decide) rfl (by simp only [List.forall_mem_cons, List.not_mem_nil, false_imp_iff, implies_true, and_true]; exact rfl) rfl ?_
        intro b71 w72 e73 c74 hb75
        have ge_b71 : w.heap.size ≤ b71 := by rw [e73]; exact HC.size
        have na_b71 : b71 ∉ ob A := ho.fresh (by rw [e73]; exact Nat.le_refl _)
        replace HC := HC.then c74
        replace ho := ho.tr0 c74
        clear e73
        have hszA := HC.size
        refine Wp rfl <| st_append2 (c := tkE) (D2 := fun _ => False) (xs := l) (ys := [((2, 0, (s.take m).drop i), (i : Int))]) T.slice52 rfl rfl ho rfl rfl (one_elem rfl (hb75.cells (n := 4) rfl)) (fun _ _ h => h.elim) (fun k hk => by have := HC.size; omega) (by simp only [List.length_cons, List.length_nil]; omega) (by simp only [List.length_cons, List.length_nil]; omega) ?_
        intro A76 cap77 w78 ho79 c80 hg81
        replace HC := HC.trans c80 (fun k hk => .inr (ho.inD k hk))
        replace hb75 := hb75.tr c80 (fun hx => by first | (have h1 := ho.inD _ hx; omega) | exact na_b71 hx | exact hav _ hx (by simp))
        refine aL rfl <| wops_nil <| block_n <| then_n <| x_region rfl <| mI rfl <| aI rfl <| wops_nil <| block_n <| then_n <| ⟨(m, k, l ++ [((2, 0, (s.take m).drop i), (i : Int))], A76, cap77), ?_, ?_, rfl, ⟨rfl, rfl, trivial⟩, ?_⟩
        ·refine ⟨?_, HC, ho79⟩
         exact ⟨by omega, by omega, by rw [← hq, toksF_tok hil hbl hnx (by simp), cmb_cons rfl, hmi]; rfl, by simp only [List.length_append, List.length_cons, List.length_nil]; omega⟩
        ·show s.length - (m) < s.length - i; omega
        repeat (first | exact agree_upds agree_over rfl | refine agree_upd ?_ rfl | refine agree_upds ?_ rfl | refine agree_over_sub ?_ rfl)
       ·try simp only [nm, ne_eq] at h5
        refine sr rfl <| mS rfl <| mI rfl <| Wp rfl <| st_call (ags := [_, _]) rfl rfl T.ent38 rfl (op_spec s i _ (by omega) hs) ?_
        rintro _ w82 ⟨rfl, c83⟩
        replace HC := HC.then c83
        replace ho := ho.tr0 c83
        refine aS rfl <| en <| x_seq <| sr rfl <| mS rfl <| Wp rfl <| st_seql rfl rfl <| en <| x_cond rfl (fun h6 => ?_) (fun h6 => ?_)
        ·try simp only [nm, ne_eq] at h6
         refine sr rfl <| mI rfl <| aL rfl <| aI rfl <| aI rfl <| en <| x_ret <| then_r <| block_r <| then_r <| block_r <| then_r <| block_r <| then_r <| ret_tmp3 (v := .slice _ _ _) (v2 := .int _ _) (v3 := .int _ _) rfl rfl rfl rfl ?_
         rw [show tokV L = ([], (i : Int), 101) by rw [← hq, toksF_bad hil hbl (next_none hil h3 h5 h6) (by simp), cmb_bad (by simp)]]
         exact ⟨none, 0, rfl, Own.nil, HC⟩
        ·try simp only [nm, ne_eq] at h6
         have hol : (opV (s.drop i)).length ≤ s.length - i := opV_le s i
         have hop : 0 < (opV (s.drop i)).length := List.length_pos_iff.2 h6
         refine x_skip <| then_n <| sr rfl <| mL rfl <| mS rfl <| mI rfl <| Wp rfl <| st_bld (ps := [(0, .const (.int .i64 3)), (2, .tmp 57), (3, .tmp 58)]) (vs := [.int _ _, .int _ _, S _, .int _ _]) T.bld60 rfl <| Wp rfl <| st_lit (ps := [(0, .tmp 59)]) (vs := [.int _ _, .int _ _, S _, .int _ _]) T.lit52 (by decide) rfl (by simp only [List.forall_mem_cons, List.not_mem_nil, false_imp_iff, implies_true, and_true]; exact rfl) rfl ?_
         intro b84 w85 e86 c87 hb88
         have ge_b84 : w.heap.size ≤ b84 := by rw [e86]; exact HC.size
         have na_b84 : b84 ∉ ob A := ho.fresh (by rw [e86]; exact Nat.le_refl _)
         replace HC := HC.then c87
         replace ho := ho.tr0 c87
         clear e86
         have hszA := HC.size
         refine Wp rfl <| st_append2 (c := tkE) (D2 := fun _ => False) (xs := l) (ys := [((3, 0, opV (s.drop i)), (i : Int))]) T.slice52 rfl rfl ho rfl rfl (one_elem rfl (hb88.cells (n := 4) rfl)) (fun _ _ h => h.elim) (fun k hk => by have := HC.size; omega) (by simp only [List.length_cons, List.length_nil]; omega) (by simp only [List.length_cons, List.length_nil]; omega) ?_
         intro A89 cap90 w91 ho92 c93 hg94
         replace HC := HC.trans c93 (fun k hk => .inr (ho.inD k hk))
         replace hb88 := hb88.tr c93 (fun hx => by first | (have h1 := ho.inD _ hx; omega) | exact na_b84 hx | exact hav _ hx (by simp))
         refine aL rfl <| en ?_
         have hadd65 : IntKind.i64.wrap ((i : Int) + ((opV (s.drop i)).length : Int)) = ((i + (opV (s.drop i)).length : Nat) : Int) := by rw [wrap64_id (by omega) (by omega)]; omega
         refine x_region rfl <| mI rfl <| mS rfl <| Wp rfl <| st_slen (ct := #[9]) T.u9 rfl <| Wp rfl <| st_addk rfl rfl (by exact hadd65) <| aI rfl <| wops_nil <| block_n <| then_n <| x_region rfl <| mI rfl <| aI rfl <| wops_nil <| block_n <| then_n <| ⟨(i + (opV (s.drop i)).length, k, l ++ [((3, 0, opV (s.drop i)), (i : Int))], A89, cap90), ?_, ?_, rfl, ⟨rfl, rfl, trivial⟩, ?_⟩
         ·refine ⟨?_, HC, ho92⟩
          exact ⟨by omega, by omega, by rw [← hq, toksF_tok hil hbl (next_op hil h3 h5 h6) (by simp), cmb_cons rfl]; rfl, by simp only [List.length_append, List.length_cons, List.length_nil]; omega⟩
         ·show s.length - (i + (opV (s.drop i)).length) < s.length - i; omega
         repeat (first | exact agree_upds agree_over rfl | refine agree_upd ?_ rfl | refine agree_upds ?_ rfl | refine agree_over_sub ?_ rfl)
 ·try simp only [nm, ne_eq] at h0
  have hie : i = s.length := by omega
  rw [hie, toksF_end, cmb_cons rfl] at hq
  have hq2 : tokV L = (l ++ [((0, 0, []), (s.length : Int))], 0, 0) := by rw [← hq]; simp [cmb, toTk]
  refine x_exit <| then_x <| then_x <| block_x <| then_n <| sr rfl <| mL rfl <| mS rfl <| Wp rfl <| st_slen (ct := #[9]) T.u9 rfl <| Wp rfl <| st_bld (ps := [(3, .tmp 101)]) (vs := [.int _ _, .int _ _, S _, .int _ _]) T.bld60 rfl <| Wp rfl <| st_lit (ps := [(0, .tmp 102)]) (vs := [.int _ _, .int _ _, S _, .int _ _]) T.lit52 (by decide) rfl (by simp only [List.forall_mem_cons, List.not_mem_nil, false_imp_iff, implies_true, and_true]; exact rfl) rfl ?_
  intro b95 w96 e97 c98 hb99
  have ge_b95 : w.heap.size ≤ b95 := by rw [e97]; exact HC.size
  have na_b95 : b95 ∉ ob A := ho.fresh (by rw [e97]; exact Nat.le_refl _)
  replace HC := HC.then c98
  replace ho := ho.tr0 c98
  clear e97
  have hszA := HC.size
  refine Wp rfl <| st_append2 (c := tkE) (D2 := fun _ => False) (xs := l) (ys := [((0, 0, []), (s.length : Int))]) T.slice52 rfl rfl ho rfl rfl (one_elem rfl (hb99.cells (n := 4) rfl)) (fun _ _ h => h.elim) (fun k hk => by have := HC.size; omega) (by simp only [List.length_cons, List.length_nil]; omega) (by simp only [List.length_cons, List.length_nil]; omega) ?_
  intro A100 cap101 w102 ho103 c104 hg105
  replace HC := HC.trans c104 (fun k hk => .inr (ho.inD k hk))
  replace hb99 := hb99.tr c104 (fun hx => by first | (have h1 := ho.inD _ hx; omega) | exact na_b95 hx | exact hav _ hx (by simp))
  refine aL rfl <| aI rfl <| aI rfl <| en <| x_ret <| ret_tmp3 (v := .slice _ _ _) (v2 := .int _ _) (v3 := .int _ _) rfl rfl rfl rfl ?_
  rw [hq2]
  exact ⟨A100, cap101, rfl, ho103, HC⟩

def nameV (s : Bytes) : Bool := match s with
  | [] => false
  | c :: s => begB c && s.all wordB
end Go.Proofs.YtmbbhgglllfelaaGreatDoor.K
set_option linter.unusedVariables false
set_option linter.unusedSimpArgs false
set_option autoImplicit false
set_option maxRecDepth 20000
namespace Go.Proofs.YtmbbhgglllfelaaGreatDoor.K
open Go Go.Proofs Go.RowKit

theorem chunks_flat {α : Type} {sz : Nat} {f : α → List Value} {h1 h2 h3} {w : World} {D : Nat → Prop} : ∀ xs : List α, Chunks (Enc.flat sz f h1 h2 h3) w D xs (xs.flatMap f)
  | [] => .nil
  | x :: xs => by rw [List.flatMap_cons]; exact Chunks.cons rfl (chunks_flat xs)
theorem sl_lit {α : Type} {sz : Nat} {f : α → List Value} {h1 h2 h3} {w : World} {b : Nat} {T : TypeId} (xs : List α) (hm : xs.length ≤ 9223372036854775807) (h : Blk w b (xs.flatMap f) T) : Sl (Enc.flat sz f h1 h2 h3) w (fun k => k = b) (some ⟨b, 0, none⟩) xs :=
  (Own.of_blk (D := fun k => k = b) h rfl hm (chunks_flat xs)).sl
end Go.Proofs.YtmbbhgglllfelaaGreatDoor.K
set_option linter.unusedVariables false
set_option linter.unusedSimpArgs false
set_option autoImplicit false
set_option maxRecDepth 20000
namespace Go.Proofs.YtmbbhgglllfelaaGreatDoor.K
open Go Go.Proofs Go.RowKit

theorem runN_app {p : UInt8 → Bool} {s t : Bytes} (h : s.all p = true) : runN p (s ++ t) = s.length + runN p t := by
  induction s with
  | nil => simp
  | cons c s ih =>
    simp only [List.all_cons, Bool.and_eq_true] at h
    simp only [List.cons_append, runN, if_pos h.1, ih h.2, List.length_cons]; omega
theorem beg_word {c : UInt8} (h : begB c = true) : wordB c = true := by unfold wordB; rw [h, Bool.true_or]
theorem beg_dig {c : UInt8} (h : begB c = true) : digB c = false := by
  simp only [begB, alphaB, upB, loB, digB, Bool.or_eq_true, decide_eq_true_eq, decide_eq_false_iff_not] at *; omega
theorem beg_blank {c : UInt8} (h : begB c = true) : blankB c = false := by
  simp only [begB, alphaB, upB, loB, blankB, Bool.or_eq_true, decide_eq_true_eq, Bool.or_eq_false_iff, decide_eq_false_iff_not] at *; omega
theorem byte_app {a b : Bytes} {i : Nat} (h : a.length = i) : byte (a ++ b) i = byte b 0 := by
  subst h; simp [byte, List.getD_eq_getElem?_getD, List.getElem?_append_right]
theorem drop_app' {a b : Bytes} {i : Nat} (h : a.length = i) : (a ++ b).drop i = b := by subst h; simp
/-- A token at a place: what stands before it, and what the rest is. -/
theorem toksF_at {a b : Bytes} {k n : Nat} {t : Int × Int × Bytes} (hb : b ≠ []) (h : blankB (byte b 0) = false) (hn : nextV b = (t, (n : Int), 0)) (ht : ¬ t.1 = 0) : toksF (k + 1) (a ++ b) a.length = (t, (a.length : Int), 0) :: toksF k (a ++ b) (a.length + n) :=
  toksF_tok (by have := List.length_pos_iff.2 hb; simp; omega) (by rw [byte_app rfl]; exact h) (by rw [drop_app' rfl]; exact hn) ht
theorem toksF_at' {s a b : Bytes} {i k n : Nat} {t : Int × Int × Bytes} (hs : s = a ++ b) (hi : a.length = i) (hb : b ≠ []) (h : blankB (byte b 0) = false) (hn : nextV b = (t, (n : Int), 0)) (ht : ¬ t.1 = 0) : toksF (k + 1) s i = (t, (i : Int), 0) :: toksF k s (i + n) := by
  subst hs; subst hi; exact toksF_at hb h hn ht
theorem nameV_cons {s : Bytes} (h : nameV s = true) : ∃ c r, s = c :: r ∧ begB c = true ∧ s.all wordB = true := by
  cases s with
  | nil => cases h
  | cons c r =>
    simp only [nameV, Bool.and_eq_true] at h
    exact ⟨c, r, rfl, h.1, by rw [List.all_cons, beg_word h.1, h.2]; rfl⟩
theorem next_name' {s t : Bytes} (h : nameV s = true) (ht : runN wordB t = 0) : nextV (s ++ t) = ((2, 0, s), ((s.length : Nat) : Int), 0) := by
  obtain ⟨c, r, rfl, h1, h2⟩ := nameV_cons h
  have hr := runN_app (t := t) h2
  rw [ht, Nat.add_zero] at hr
  have := next_name (s := c :: r ++ t) (i := 0) (W := (c :: r ++ t).take ((c :: r).length)) (by simp) (beg_dig h1) h1 (by rw [List.drop_zero, hr])
  rw [List.drop_zero, hr] at this
  rw [this]; simp
end Go.Proofs.YtmbbhgglllfelaaGreatDoor.K
