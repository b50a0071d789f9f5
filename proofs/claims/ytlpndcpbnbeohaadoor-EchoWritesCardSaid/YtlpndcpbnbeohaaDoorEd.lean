/- Counts, arguments. -/
import Derived.Test.YtlpndcpbnbeohaaDoorEc
set_option linter.unusedVariables false
set_option linter.unusedSimpArgs false
set_option autoImplicit false
set_option maxRecDepth 20000
namespace Go.Proofs.YtlpndcpbnbeohaaDoor.K
open Go Go.Proofs Go.RowKit

theorem byte_take {s : Bytes} {k n : Nat} (h : k < n) : byte (s.take n) k = byte s k := by simp [byte, List.getD_eq_getElem?_getD, List.getElem?_take_of_lt h]
/-- A number's digits, read by 10. -/
def decB : Bytes → Nat → Nat
  | [], n => n
  | c :: s, n => decB s (n * 10 + (c.toNat - 48))
theorem decN_cons (n : Nat) (c : UInt8) (s : Bytes) : decB (c :: s) n = decB s (n * 10 + (c.toNat - 48)) := rfl
theorem numN_cons (n : Int) (c : UInt8) (s : Bytes) : numN n (c :: s) = if digB c = false ∨ n < (-9223372036854775808 + dgV c).tdiv 10 then none else numN (n * 10 - dgV c) s := rfl
theorem decN_nil (n : Nat) : decB [] n = n := rfl
theorem numN_nil (n : Int) : numN n [] = some n := rfl
theorem numN_dec (M : Nat) (hM : M ≤ 1000000000000) : ∀ (ds : Bytes) (n : Nat), (∀ c, c ∈ ds → digB c = true) → (n + 1) * 10 ^ ds.length ≤ M → numN (-(n : Int)) ds = some (-((decB ds n : Nat) : Int)) ∧ decB ds n < M
  | [], n, _, h => ⟨by rw [decN_nil, numN_nil], by rw [decN_nil]; rw [List.length_nil, Nat.pow_zero, Nat.mul_one] at h; exact h⟩
  | c :: ds, n, hd, h => by
    have hc := hd c (by simp)
    have h2 := dig_in hc
    have hcn : 48 ≤ c.toNat ∧ c.toNat ≤ 57 := by unfold digB at hc; rw [decide_eq_true_eq] at hc; exact hc
    rw [List.length_cons, Nat.pow_succ, Nat.mul_comm (10 ^ ds.length) 10, ← Nat.mul_assoc] at h
    have h3 : (n * 10 + (c.toNat - 48) + 1) * 10 ^ ds.length ≤ M := Nat.le_trans (Nat.mul_le_mul_right _ (by omega)) h
    have h4 : (n + 1) * 10 ≤ M := Nat.le_trans (Nat.le_mul_of_pos_right _ (Nat.pow_pos (by decide))) h
    have ih := numN_dec M hM ds (n * 10 + (c.toNat - 48)) (fun x hx => hd x (by simp [hx])) h3
    have hq : (-9223372036854775808 + dgV c).tdiv 10 = -((9223372036854775808 - dgV c) / 10) := by
      rw [show (-9223372036854775808 + dgV c : Int) = -(9223372036854775808 - dgV c) by omega, Int.neg_tdiv, Int.tdiv_eq_ediv_of_nonneg (by omega)]
    have hno : ¬ (digB c = false ∨ (-(n : Int)) < (-9223372036854775808 + dgV c).tdiv 10) := by
      rintro (h5 | h5)
      · rw [hc] at h5; cases h5
      · rw [hq] at h5; omega
    have he2 : -(n : Int) * 10 - dgV c = -((n * 10 + (c.toNat - 48) : Nat) : Int) := by unfold dgV; omega
    refine ⟨?_, by rw [decN_cons]; exact ih.2⟩
    rw [numN_cons, if_neg hno, decN_cons, he2]; exact ih.1
theorem num_0 {ds : Bytes} (hd : ∀ c, c ∈ ds → digB c = true) (hl : ds.length ≤ 4) : numV (48 :: ds) = (((decB ds 0 : Nat) : Int), true) ∧ decB ds 0 < 10000 := by
  have hpw : (0 + 1) * 10 ^ ds.length ≤ 10000 := by
    rw [Nat.zero_add, Nat.one_mul]
    exact Nat.le_trans (Nat.pow_le_pow_right (by decide) hl) (by decide)
  have h := numN_dec 10000 (by decide) ds 0 hd hpw
  have hb : decB ds 0 < 10000 := h.2
  have ht : Lib.trimPrefix (48 :: ds) [45] = 48 :: ds := by simp [Lib.trimPrefix, Lib.hasPrefix]
  have hr : restV (48 :: ds) = 48 :: ds := by unfold restV; rw [ht]; simp [Lib.trimPrefix, Lib.hasPrefix]
  have hn : numN 0 (48 :: ds) = some (-((decB ds 0 : Nat) : Int)) := by
    rw [numN_cons, if_neg (by decide)]; exact h.1
  refine ⟨?_, hb⟩
  unfold numV; rw [hr, hn]; simp only
  rw [if_neg (by rintro (h3 | ⟨_, h3⟩); (cases h3); omega), ht, if_pos rfl, Int.zero_sub, Int.neg_neg, wrap64_id (by omega) (by omega)]
def cntK (s : Bytes) : Nat := runN digB (s.take 4)
def cntN (s : Bytes) : Nat := decB (s.take (cntK s)) 0
theorem cnt_le (s : Bytes) : cntK s ≤ 4 ∧ cntK s ≤ s.length := by
  have := runN_le digB (s.take 4); rw [List.length_take] at this; unfold cntK; omega
theorem runN_all : ∀ (p : UInt8 → Bool) (s : Bytes), ∀ c, c ∈ s.take (runN p s) → p c = true
  | p, [], c, h => by simp at h
  | p, x :: s, c, h => by
    rw [runN] at h
    by_cases hx : p x = true
    · rw [if_pos hx, List.take_succ_cons] at h
      rcases List.mem_cons.1 h with rfl | h
      · exact hx
      · exact runN_all p s c h
    · rw [if_neg hx] at h; simp at h
theorem cnt_dig (s : Bytes) : ∀ c, c ∈ s.take (cntK s) → digB c = true := fun c hc => by
  refine runN_all digB (s.take 4) c ?_
  rw [List.take_take, show min (runN digB (List.take 4 s)) 4 = runN digB (s.take 4) by have := (cnt_le s).1; unfold cntK at this; omega]; exact hc
theorem cnt_num (s : Bytes) : numV (48 :: s.take (cntK s)) = (((cntN s : Nat) : Int), true) ∧ cntN s < 10000 := num_0 (cnt_dig s) (by rw [List.length_take]; have := cnt_le s; omega)

theorem sl_tail {w : World} {D : Nat → Prop} {A : Option Addr} {xs l : List Bytes} {x : Bytes} {c : Nat} (h : Sl sE w D A xs) (hx : xs = x :: l) (hc : xs.length ≤ c) : Sl sE w D (if c = 1 then A else A.map (·.add (1 * 1))) l := by
  subst hx
  split
  · rename_i e
    rw [List.length_cons] at hc
    exact .inl (List.length_eq_zero_iff.1 (by omega))
  · exact h.drop 1

theorem count_spec (s : Bytes) (w : World) (hs : s.length ≤ 100000000000000) : CallR Tryd.prog 37 #[S s] w fun v w' => v = .tuple ⟨[.int .i64 ((cntN s : Nat) : Int), S (s.drop (cntK s)), .bool (decide (cntN s ≤ 1000))]⟩ ∧ Chg [] w w' := by
 have hcl := cnt_le s
 have hcn := cnt_num s
 refine callR_of_wp (args := [_]) Tryd.func37 rfl (Nat.le_of_ble_eq_true rfl) ?_
 have HC : Chg [] w w := .refl _
 refine sr rfl <| aI rfl <| aS rfl <| aB rfl <| en <| sr rfl <| aI rfl <| en <| x_seq <| x_block <| x_loop (ι := Nat) [5, 8, 9, 10, 11, 12, 13, 14, 15, 16, 17, 18, 19, 20] (fun k => [(5, .int .i64 (k : Int))]) (fun k W => (k ≤ 4 ∧ k ≤ s.length ∧ cntK s = k + runN digB ((s.take 4).drop k)) ∧ (Chg [] w W)) (fun k => 4 - k) 0 ?_ ?_ ?_
 · exact ⟨rfl, trivial⟩
 ·refine ⟨?_, HC⟩
  exact ⟨Nat.zero_le _, Nat.zero_le _, by simp [cntK]⟩
 intro k G2 w1 ⟨⟨hk4, hkl, hkr⟩, HC⟩
 change wp _ _ _ _ _ (upds (over _ _ G2) [(5, .int .i64 (k : Int))]) _ _
 refine x_seq <| sr rfl <| mI rfl <| mS rfl <| Wp rfl <| st_slen (ct := #[9]) T.u9 rfl <| Wp rfl <| st_min rfl rfl <| Wp rfl <| st_lss rfl rfl <| mB rfl <| w_split (d := 13) rfl (fun g3 => ?_) (fun g3 => ?_)
 ·try simp only [nm, ne_eq] at g3
  refine w_yes 5 13 true <| st_move (v := S _) rfl <| w_yes 5 13 true <| st_move (v := .int _ _) rfl <| w_yes 5 13 true <| st_sidx T.u9 rfl rfl (by omega) (by omega) <| w_yes 5 13 true <| st_call (ags := [_]) rfl rfl T.ent54 rfl (digit_spec _ _) ?_
  rintro _ w4 ⟨rfl, c5⟩
  replace HC := HC.then c5
  refine pT rfl rfl <| en <| x_cond rfl (fun h0 => ?_) (fun h0 => ?_)
  ·try simp only [nm, ne_eq] at h0
   refine x_skip <| then_n <| x_block <| x_region rfl <| mI rfl <| Wp rfl <| st_addn rfl rfl (by constructor <;> omega) <| aI rfl <| wops_nil <| block_n <| then_n <| ⟨k + 1, ?_, ?_, rfl, ⟨rfl, trivial⟩, ?_⟩
   ·refine ⟨?_, HC⟩
    exact ⟨by omega, by omega, by rw [hkr, runN_on (by rw [List.length_take]; omega) (by rw [byte_take (by omega)]; first | assumption | simp_all)]; omega⟩
   ·show 4 - (k + 1) < 4 - k; omega
   repeat (first | exact agree_upds agree_over rfl | refine agree_upd ?_ rfl | refine agree_upds ?_ rfl | refine agree_over_sub ?_ rfl)
  ·try simp only [nm, ne_eq] at h0
   have hk : cntK s = k := by rw [hkr, runN_off (by rw [List.length_take]; omega) (by rw [byte_take (by omega)]; first | assumption | simp_all)]; omega
   refine x_exit <| then_x <| then_x <| block_x <| then_n <| sr rfl <| mS rfl <| mI rfl <| Wp rfl <| st_sshi (j := k) T.u9 rfl ⟨_, rfl⟩ (by omega) <| Wp rfl <| st_sadd rfl rfl (by (simp only [List.length_take, List.length_cons, List.length_nil]; omega)) <| Wp rfl <| st_call (ags := [_]) rfl rfl T.ent55 rfl (Number_spec _ _ (by simp only [List.length_append, List.length_take, List.length_cons, List.length_nil]; omega)) ?_
   rintro _ w6 ⟨rfl, c7⟩
   replace HC := HC.then c7
   refine mv (v := .tuple ⟨[_, _]⟩) rfl <| Wp rfl <| st_extract (vs := [_, _]) (v := .int _ _) rfl rfl <| Wp rfl <| st_extract (vs := [_, _]) (v := .bool _) rfl rfl <| aI rfl <| aB rfl <| en <| x_seq ?_
   rw [show numV ([48] ++ List.take k s) = (((cntN s : Nat) : Int), true) from by rw [← hk]; exact hcn.1]
   refine x_draw [(0, 0), (1, 0), (2, 0), (3, 0), (4, 0), (5, 0), (6, 0), (7, 0), (8, 0)] T.mixed rfl rfl rfl (fun _ => True) trivial ?_
   have c9 := Chg.drew w6
   generalize World.drew w6 = w8 at c9 ⊢
   replace HC := HC.then c9
   refine sq_q rfl (fun W hT => r_move (v := .int _ _) rfl) <| sq_q rfl (fun W hT => r_move (v := S _) rfl) <| sq_q rfl (fun W hT => r_move (v := .int _ _) rfl) <| sq_q rfl (fun W hT => r_sslo (i := k) T.u9 rfl ⟨_, rfl⟩ (by omega)) <| sq_q rfl (fun W hT => r_move (v := .int _ _) rfl) <| sq_q rfl (fun W hT => r_leq rfl rfl) <| sq_q rfl (fun W hT => r_assign (v := .int _ _) rfl) <| sq_q rfl (fun W hT => r_assign (v := S _) rfl) <| sq_q rfl (fun W hT => r_assign (v := .bool _) rfl) <| sq_nil <| then_n <| x_ret <| ret_tmp3 (v := .int _ _) (v2 := S _) (v3 := .bool _) rfl rfl rfl rfl ?_
   rw [hk]
   refine ⟨?_, HC⟩
   rw [show decide (cntN s ≤ 1000) = decide (((cntN s : Nat) : Int) ≤ 1000) from decide_eq_decide.2 (by omega)]
 ·try simp only [nm, ne_eq] at g3
  iterate 4 refine w_no 5 13 true ?_
  refine pF rfl rfl <| en <| x_cond (t := false) rfl (fun h0 => ?_) (fun h0 => ?_)
  · exact absurd h0 (by decide)
  have hk : cntK s = k := by rw [hkr, List.drop_of_length_le (by rw [List.length_take]; omega), show runN digB ([] : Bytes) = 0 from rfl]; omega
  refine x_exit <| then_x <| then_x <| block_x <| then_n <| sr rfl <| mS rfl <| mI rfl <| Wp rfl <| st_sshi (j := k) T.u9 rfl ⟨_, rfl⟩ (by omega) <| Wp rfl <| st_sadd rfl rfl (by (simp only [List.length_take, List.length_cons, List.length_nil]; omega)) <| Wp rfl <| st_call (ags := [_]) rfl rfl T.ent55 rfl (Number_spec _ _ (by simp only [List.length_append, List.length_take, List.length_cons, List.length_nil]; omega)) ?_
  rintro _ w10 ⟨rfl, c11⟩
  replace HC := HC.then c11
  refine mv (v := .tuple ⟨[_, _]⟩) rfl <| Wp rfl <| st_extract (vs := [_, _]) (v := .int _ _) rfl rfl <| Wp rfl <| st_extract (vs := [_, _]) (v := .bool _) rfl rfl <| aI rfl <| aB rfl <| en <| x_seq ?_
  rw [show numV ([48] ++ List.take k s) = (((cntN s : Nat) : Int), true) from by rw [← hk]; exact hcn.1]
  refine x_draw [(0, 0), (1, 0), (2, 0), (3, 0), (4, 0), (5, 0), (6, 0), (7, 0), (8, 0)] T.mixed rfl rfl rfl (fun _ => True) trivial ?_
  have c13 := Chg.drew w10
  generalize World.drew w10 = w12 at c13 ⊢
  replace HC := HC.then c13
  refine sq_q rfl (fun W hT => r_move (v := .int _ _) rfl) <| sq_q rfl (fun W hT => r_move (v := S _) rfl) <| sq_q rfl (fun W hT => r_move (v := .int _ _) rfl) <| sq_q rfl (fun W hT => r_sslo (i := k) T.u9 rfl ⟨_, rfl⟩ (by omega)) <| sq_q rfl (fun W hT => r_move (v := .int _ _) rfl) <| sq_q rfl (fun W hT => r_leq rfl rfl) <| sq_q rfl (fun W hT => r_assign (v := .int _ _) rfl) <| sq_q rfl (fun W hT => r_assign (v := S _) rfl) <| sq_q rfl (fun W hT => r_assign (v := .bool _) rfl) <| sq_nil <| then_n <| x_ret <| ret_tmp3 (v := .int _ _) (v2 := S _) (v3 := .bool _) rfl rfl rfl rfl ?_
  rw [hk]
  refine ⟨?_, HC⟩
  rw [show decide (cntN s ≤ 1000) = decide (((cntN s : Nat) : Int) ≤ 1000) from decide_eq_decide.2 (by omega)]

def hdS : List Bytes → Bytes
  | [] => []
  | s :: _ => s
theorem tl_len (l : List Bytes) : l.tail.length ≤ l.length := by cases l <;> simp

theorem arg_spec {b : Nat} {pv sv : Value} {Aa : Option Addr} {ca : Nat} {args : List Bytes} {tk ee : Bool} {st : Int} {D : Nat → Prop} {w : World} (hb : Blk w b [pv, sv, .slice Aa args.length ca, .bool tk, .bool ee, .int .i64 st] 42) (ha : Sl sE w D Aa args) (hca : args.length ≤ ca) (hDb : ¬ D b) : CallR Tryd.prog 39 #[.pointer (some ⟨b, 0, none⟩)] w fun v w' => v = S (hdS args) ∧ ∃ Aa' ca', Blk w' b [pv, sv, .slice Aa' args.tail.length ca', .bool true, .bool ee, .int .i64 st] 42 ∧ Sl sE w' D Aa' args.tail ∧ args.tail.length ≤ ca' ∧ Chg [b] w w' := by
 refine callR_of_wp (args := [_]) Tryd.func39 rfl (Nat.le_of_ble_eq_true rfl) ?_
 have HC : Chg [b] w w := .refl _
 refine sr rfl <| aS rfl <| en <| sr rfl <| mP rfl <| nc rfl <| fa T.fld42_2 rfl <| Wp rfl <| st_store (v := .bool _) T.size4 rfl rfl rfl hb rfl (Nat.le_of_ble_eq_true rfl) (by simp [Value.oneCell', S]) rfl ?_
 intro w1 c2 hb3; simp only [setVs, setV] at hb3
 clear hb
 replace HC := HC.trans c2 (by intro x hx; simp only [List.mem_singleton] at hx; subst hx; exact .inl (by simp))
 replace ha := ha.tr c2 (by intro k hk hD; rw [List.mem_singleton.1 hk] at hD; exact hDb hD)
 refine en <| x_seq <| sr rfl <| mP rfl <| nc rfl <| fa T.fld42_1 rfl <| lL T.one22 rfl (hb3.cell rfl) <| Wp rfl <| st_len (ct := #[22]) (by rw [show ((#[22] : Array TypeId)[0]?).bind Tryd.prog.underlying = some (.slice 9) from T.u22]; rfl) rfl <| Wp rfl <| st_eql rfl rfl <| en <| x_cond rfl (fun h0 => ?_) (fun h0 => ?_)
 ·try simp only [nm, ne_eq] at h0
  obtain rfl : args = [] := List.length_eq_zero_iff.1 (by omega)
  refine sr rfl <| aS rfl <| en <| x_ret <| then_r <| ret_tmp (v := S _) rfl rfl ?_
  exact ⟨rfl, _, _, hb3, .inl rfl, Nat.zero_le _, HC⟩
 ·try simp only [nm, ne_eq] at h0
  obtain ⟨a, l, rfl⟩ : ∃ a l, args = a :: l := by cases args with | nil => simp at h0 | cons a l => exact ⟨a, l, rfl⟩
  refine x_skip <| then_n <| sr rfl <| mP rfl <| nc rfl <| fa T.fld42_1 rfl <| lL T.one22 rfl (hb3.cell rfl) ?_
  obtain ⟨lb8, _, vs7, hA4, hR6, hC5⟩ := ha.at (i := 0) (x := a) (rfl)
  obtain rfl : vs7 = [S a] := hR6
  refine Wp rfl <| st_indexAddr T.u22 T.size9 (congrArg (fun z => Value.slice z _ _) hA4) rfl (by decide) (by (simp only [List.length_cons]; omega)) <| lS T.one9 rfl (hC5.at (j := 0) rfl) <| aS rfl <| en <| sr rfl <| mP rfl <| mP rfl <| nc rfl <| fa T.fld42_1 rfl <| lL T.one22 rfl (hb3.cell rfl) <| Wp rfl <| st_slice (i := 1) (j := _) T.u22 T.size9 rfl ⟨_, rfl⟩ (by rfl) (by (simp only [List.length_cons]; omega)) (by exact hca) <| nc rfl <| fa T.fld42_1 rfl <| Wp rfl <| st_store (v := .slice _ _ _) T.size22 rfl rfl rfl hb3 rfl (Nat.le_of_ble_eq_true rfl) (by simp [Value.oneCell', S]) rfl ?_
  intro w9 c10 hb11; simp only [setVs, setV] at hb11
  clear hb3
  replace HC := HC.trans c10 (by intro x hx; simp only [List.mem_singleton] at hx; subst hx; exact .inl (by simp))
  replace ha := ha.tr c10 (by intro k hk hD; rw [List.mem_singleton.1 hk] at hD; exact hDb hD)
  refine en <| x_seq ?_
  have hl2 := sl_tail ha rfl hca
  refine x_region rfl <| mS rfl <| aS rfl <| en <| x_ret <| ret_tmp (v := S _) rfl rfl ?_
  exact ⟨rfl, _, _, hb11, hl2, by simp only [List.tail_cons, List.length_cons] at *; omega, HC⟩

/-- What a text is as a number; and whether it is none. -/
def nmV (s : Bytes) : Int × Bool :=
  if s ≠ [] ∧ (((byte s 0).toNat : Int) = 39 ∨ ((byte s 0).toNat : Int) = 34) then (if s.length = 1 then 0 else ((byte s 1).toNat : Int), false)
  else ((valV s).1, !decide ((valV s).2 = 0))
def stV (s : Bytes) (st : Int) : Int := if (nmV s).2 = true then 1 else st

theorem number_spec {b : Nat} {pv sv : Value} {Aa : Option Addr} {ca : Nat} {args : List Bytes} {tk ee : Bool} {st : Int} {D : Nat → Prop} {w : World} (hb : Blk w b [pv, sv, .slice Aa args.length ca, .bool tk, .bool ee, .int .i64 st] 42) (ha : Sl sE w D Aa args) (hca : args.length ≤ ca) (hDb : ¬ D b) (hs : (hdS args).length ≤ 100000000000000) : CallR Tryd.prog 41 #[.pointer (some ⟨b, 0, none⟩)] w fun v w' => v = .int .i64 (nmV (hdS args)).1 ∧ ∃ Aa' ca', Blk w' b [pv, sv, .slice Aa' args.tail.length ca', .bool true, .bool ee, .int .i64 (stV (hdS args) st)] 42 ∧ Sl sE w' D Aa' args.tail ∧ args.tail.length ≤ ca' ∧ Chg [b] w w' := by
 refine callR_of_wp (args := [_]) Tryd.func41 rfl (Nat.le_of_ble_eq_true rfl) ?_
 have HC : Chg [b] w w := .refl _
 refine sr rfl <| aI rfl <| en <| sr rfl <| mP rfl <| Wp rfl <| st_call (ags := [_]) rfl rfl T.ent39 rfl (arg_spec hb ha hca hDb) ?_
 rintro _ w1 ⟨rfl, Aa2, ca2, hb2, ha2, hca2, c2⟩
 replace HC := HC.trans c2 (by intro x hx; simp only [List.mem_singleton] at hx; subst hx; exact .inl (by simp))
 refine aS rfl <| en <| x_seq <| sr rfl <| mS rfl <| Wp rfl <| st_sneq rfl rfl <| mB rfl <| w_split (d := 10) rfl (fun g3 => ?_) (fun g3 => ?_)
 ·try simp only [nm, ne_eq] at g3
  have hne : hdS args ≠ [] := by assumption
  have hpp := List.length_pos_iff.2 hne
  refine w_yes 2 10 true <| st_move (v := S _) rfl <| w_yes 2 10 true <| st_sidx T.u9 rfl rfl (by omega) (by omega) <| w_yes 2 10 true <| st_eql rfl rfl <| w_yes 2 10 true <| st_move (v := .bool _) rfl <| w_split (d := 14) rfl (fun g4 => ?_) (fun g4 => ?_)
  ·try simp only [nm, ne_eq] at g4
   iterate 3 refine w_no 6 14 false ?_
   refine w_yes 2 10 true <| st_pick (b := true) (v := .bool _) rfl rfl <| pT rfl rfl <| en <| x_cond (t := true) rfl (fun h0 => ?_) (fun h0 => ?_)
   rotate_left
   · exact absurd h0 (by decide)
   have hnm : nmV (hdS args) = (if (hdS args).length = 1 then 0 else ((byte (hdS args) 1).toNat : Int), false) := by unfold nmV; rw [if_pos ⟨hne, by first | exact .inl (by assumption) | exact .inr (by assumption)⟩]
   refine x_seq <| sr rfl <| mS rfl <| Wp rfl <| st_slen (ct := #[9]) T.u9 rfl <| Wp rfl <| st_eql rfl rfl <| en <| x_cond rfl (fun h1 => ?_) (fun h1 => ?_)
   ·try simp only [nm, ne_eq] at h1
    have hst : stV (hdS args) st = st := by unfold stV; rw [hnm]; rfl
    refine sr rfl <| aI rfl <| en <| x_ret <| then_r <| then_r <| ret_tmp (v := .int _ _) rfl rfl ?_
    rw [hst]
    refine ⟨?_, _, _, hb2, ha2, hca2, HC⟩
    first | (rw [hnm]; done) | (rw [hnm]; rfl) | (rw [hnm]; simp only; rw [if_pos (by omega)]; done) | (rw [hnm]; simp only; rw [if_neg (by omega)]; rfl)
   ·try simp only [nm, ne_eq] at h1
    have hst : stV (hdS args) st = st := by unfold stV; rw [hnm]; rfl
    refine x_skip <| then_n <| sr rfl <| mS rfl <| Wp rfl <| st_sidx T.u9 rfl rfl (by omega) (by omega) <| Wp rfl <| st_convk T.u5 T.u2 rfl (by exact wrap64_id (by omega) (by have := (byte (hdS args) (Int.toNat 1)).toNat_lt; omega)) <| aI rfl <| en <| x_ret <| then_r <| ret_tmp (v := .int _ _) rfl rfl ?_
    rw [hst]
    refine ⟨?_, _, _, hb2, ha2, hca2, HC⟩
    first | (rw [hnm]; done) | (rw [hnm]; rfl) | (rw [hnm]; simp only; rw [if_pos (by omega)]; done) | (rw [hnm]; simp only; rw [if_neg (by omega)]; rfl)
  ·try simp only [nm, ne_eq] at g4
   refine w_yes 6 14 false <| st_move (v := S _) rfl <| w_yes 6 14 false <| st_sidx T.u9 rfl rfl (by omega) (by omega) <| w_yes 6 14 false <| st_eql rfl rfl <| w_yes 2 10 true <| st_pick (b := false) (v := .bool _) rfl rfl <| pT rfl rfl <| en <| x_cond rfl (fun h0 => ?_) (fun h0 => ?_)
   ·try simp only [nm, ne_eq] at h0
    have hnm : nmV (hdS args) = (if (hdS args).length = 1 then 0 else ((byte (hdS args) 1).toNat : Int), false) := by unfold nmV; rw [if_pos ⟨hne, by first | exact .inl (by assumption) | exact .inr (by assumption)⟩]
    refine x_seq <| sr rfl <| mS rfl <| Wp rfl <| st_slen (ct := #[9]) T.u9 rfl <| Wp rfl <| st_eql rfl rfl <| en <| x_cond rfl (fun h1 => ?_) (fun h1 => ?_)
    ·try simp only [nm, ne_eq] at h1
     have hst : stV (hdS args) st = st := by unfold stV; rw [hnm]; rfl
     refine sr rfl <| aI rfl <| en <| x_ret <| then_r <| then_r <| ret_tmp (v := .int _ _) rfl rfl ?_
     rw [hst]
     refine ⟨?_, _, _, hb2, ha2, hca2, HC⟩
     first | (rw [hnm]; done) | (rw [hnm]; rfl) | (rw [hnm]; simp only; rw [if_pos (by omega)]; done) | (rw [hnm]; simp only; rw [if_neg (by omega)]; rfl)
    ·try simp only [nm, ne_eq] at h1
     have hst : stV (hdS args) st = st := by unfold stV; rw [hnm]; rfl
     refine x_skip <| then_n <| sr rfl <| mS rfl <| Wp rfl <| st_sidx T.u9 rfl rfl (by omega) (by omega) <| Wp rfl <| st_convk T.u5 T.u2 rfl (by exact wrap64_id (by omega) (by have := (byte (hdS args) (Int.toNat 1)).toNat_lt; omega)) <| aI rfl <| en <| x_ret <| then_r <| ret_tmp (v := .int _ _) rfl rfl ?_
     rw [hst]
     refine ⟨?_, _, _, hb2, ha2, hca2, HC⟩
     first | (rw [hnm]; done) | (rw [hnm]; rfl) | (rw [hnm]; simp only; rw [if_pos (by omega)]; done) | (rw [hnm]; simp only; rw [if_neg (by omega)]; rfl)
   ·try simp only [nm, ne_eq] at h0
    have hnm : nmV (hdS args) = ((valV (hdS args)).1, !decide ((valV (hdS args)).2 = 0)) := by unfold nmV; rw [if_neg (by rintro ⟨h8, h9⟩; simp_all)]
    refine x_skip <| then_n <| sr rfl <| mS rfl <| Wp rfl <| st_call (ags := [_]) rfl rfl T.ent57 rfl (Value_spec (hdS args) _ (by omega)) ?_
    rintro _ w5 ⟨rfl, c6⟩
    replace HC := HC.then c6
    replace hb2 := hb2.tr0 c6
    replace ha2 := ha2.tr0 c6
    refine mv (v := .tuple ⟨[_, _]⟩) rfl <| Wp rfl <| st_extract (vs := [_, _]) (v := .int _ _) rfl rfl <| Wp rfl <| st_extract (vs := [_, _]) (v := .int _ _) rfl rfl <| aI rfl <| aI rfl <| en <| x_seq <| sr rfl <| mI rfl <| Wp rfl <| st_neq rfl rfl <| en <| x_cond rfl (fun h2 => ?_) (fun h2 => ?_)
    ·try simp only [nm, ne_eq] at h2
     have hst : stV (hdS args) st = 1 := by unfold stV; rw [hnm]; show (if (!decide ((valV (hdS args)).2 = 0)) = true then (1 : Int) else st) = 1; rw [decide_eq_false h2]; rfl
     refine x_region rfl <| mP rfl <| nc rfl <| fa T.fld42_4 rfl <| Wp rfl <| st_store (v := .int _ _) T.size3 rfl rfl rfl hb2 rfl (Nat.le_of_ble_eq_true rfl) (by simp [Value.oneCell', S]) rfl ?_
     intro w7 c8 hb9; simp only [setVs, setV] at hb9
     clear hb2
     replace HC := HC.trans c8 (by intro x hx; simp only [List.mem_singleton] at hx; subst hx; exact .inl (by simp))
     replace ha2 := ha2.tr c8 (by intro k hk hD; rw [List.mem_singleton.1 hk] at hD; exact hDb hD)
     refine en <| sr rfl <| mI rfl <| aI rfl <| en <| x_ret <| ret_tmp (v := .int _ _) rfl rfl ?_
     rw [hst]
     refine ⟨?_, _, _, hb9, ha2, hca2, HC⟩
     first | (rw [hnm]; done) | (rw [hnm]; rfl) | (rw [hnm]; simp only; rw [if_pos (by omega)]; done) | (rw [hnm]; simp only; rw [if_neg (by omega)]; rfl)
    ·try simp only [nm, ne_eq] at h2
     have hst : stV (hdS args) st = st := by unfold stV; rw [hnm]; show (if (!decide ((valV (hdS args)).2 = 0)) = true then (1 : Int) else st) = st; rw [decide_eq_true (by first | assumption | simp_all)]; rfl
     refine x_skip <| then_n <| sr rfl <| mI rfl <| aI rfl <| en <| x_ret <| ret_tmp (v := .int _ _) rfl rfl ?_
     rw [hst]
     refine ⟨?_, _, _, hb2, ha2, hca2, HC⟩
     first | (rw [hnm]; done) | (rw [hnm]; rfl) | (rw [hnm]; simp only; rw [if_pos (by omega)]; done) | (rw [hnm]; simp only; rw [if_neg (by omega)]; rfl)
 ·try simp only [nm, ne_eq] at g3
  have hem : ¬ hdS args ≠ [] := by first | assumption | simp_all
  iterate 4 refine w_no 2 10 true ?_
  iterate 3 refine w_no 6 14 false ?_
  refine w_no 2 10 true <| pF rfl rfl <| en <| x_cond (t := false) rfl (fun h0 => ?_) (fun h0 => ?_)
  · exact absurd h0 (by decide)
  have hnm : nmV (hdS args) = ((valV (hdS args)).1, !decide ((valV (hdS args)).2 = 0)) := by unfold nmV; rw [if_neg (by rintro ⟨h8, h9⟩; simp_all)]
  refine x_skip <| then_n <| sr rfl <| mS rfl <| Wp rfl <| st_call (ags := [_]) rfl rfl T.ent57 rfl (Value_spec (hdS args) _ (by omega)) ?_
  rintro _ w10 ⟨rfl, c11⟩
  replace HC := HC.then c11
  replace hb2 := hb2.tr0 c11
  replace ha2 := ha2.tr0 c11
  refine mv (v := .tuple ⟨[_, _]⟩) rfl <| Wp rfl <| st_extract (vs := [_, _]) (v := .int _ _) rfl rfl <| Wp rfl <| st_extract (vs := [_, _]) (v := .int _ _) rfl rfl <| aI rfl <| aI rfl <| en <| x_seq <| sr rfl <| mI rfl <| Wp rfl <| st_neq rfl rfl <| en <| x_cond rfl (fun h2 => ?_) (fun h2 => ?_)
  ·try simp only [nm, ne_eq] at h2
   have hst : stV (hdS args) st = 1 := by unfold stV; rw [hnm]; show (if (!decide ((valV (hdS args)).2 = 0)) = true then (1 : Int) else st) = 1; rw [decide_eq_false h2]; rfl
   refine x_region rfl <| mP rfl <| nc rfl <| fa T.fld42_4 rfl <| Wp rfl <| st_store (v := .int _ _) T.size3 rfl rfl rfl hb2 rfl (Nat.le_of_ble_eq_true rfl) (by simp [Value.oneCell', S]) rfl ?_
   intro w12 c13 hb14; simp only [setVs, setV] at hb14
   clear hb2
   replace HC := HC.trans c13 (by intro x hx; simp only [List.mem_singleton] at hx; subst hx; exact .inl (by simp))
   replace ha2 := ha2.tr c13 (by intro k hk hD; rw [List.mem_singleton.1 hk] at hD; exact hDb hD)
   refine en <| sr rfl <| mI rfl <| aI rfl <| en <| x_ret <| ret_tmp (v := .int _ _) rfl rfl ?_
   rw [hst]
   refine ⟨?_, _, _, hb14, ha2, hca2, HC⟩
   first | (rw [hnm]; done) | (rw [hnm]; rfl) | (rw [hnm]; simp only; rw [if_pos (by omega)]; done) | (rw [hnm]; simp only; rw [if_neg (by omega)]; rfl)
  ·try simp only [nm, ne_eq] at h2
   have hst : stV (hdS args) st = st := by unfold stV; rw [hnm]; show (if (!decide ((valV (hdS args)).2 = 0)) = true then (1 : Int) else st) = st; rw [decide_eq_true (by first | assumption | simp_all)]; rfl
   refine x_skip <| then_n <| sr rfl <| mI rfl <| aI rfl <| en <| x_ret <| ret_tmp (v := .int _ _) rfl rfl ?_
   rw [hst]
   refine ⟨?_, _, _, hb2, ha2, hca2, HC⟩
   first | (rw [hnm]; done) | (rw [hnm]; rfl) | (rw [hnm]; simp only; rw [if_pos (by omega)]; done) | (rw [hnm]; simp only; rw [if_neg (by omega)]; rfl)

end Go.Proofs.YtlpndcpbnbeohaaDoor.K
