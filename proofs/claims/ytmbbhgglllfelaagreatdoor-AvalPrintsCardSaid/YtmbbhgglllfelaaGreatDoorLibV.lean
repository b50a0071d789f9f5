import Derived.Test.YtmbbhgglllfelaaGreatDoorCh
import Derived.Test.YtmbbhgglllfelaaGreatDoorKitQ
set_option linter.unusedVariables false
set_option linter.unusedSimpArgs false
set_option autoImplicit false
set_option maxRecDepth 20000
namespace Go.Proofs.YtmbbhgglllfelaaGreatDoor.K
open Go Go.Proofs Go.RowKit

def truthV (b : Bool) : Int := if b = true then 1 else 0
/-- What an operator of two numbers tells. -/
def opNum (op : Bytes) (a b : Int) : Option Int := if op = [43] then some (IntKind.i64.wrap (a + b)) else if op = [45] then some (IntKind.i64.wrap (a - b)) else if op = [42] then some (IntKind.i64.wrap (a * b)) else if op = [47] then some (IntKind.i64.wrap (a.tdiv b)) else if op = [37] then some (a.tmod b) else if op = [60, 60] then some (shlV .i64 a (b % 64)) else if op = [62, 62] then some (shrV .i64 a (b % 64)) else if op = [60] then some (truthV (decide (a < b))) else if op = [60, 61] then some (truthV (decide (a ≤ b))) else if op = [62] then some (truthV (decide (b < a))) else if op = [62, 61] then some (truthV (decide (b ≤ a))) else if op = [61, 61] then some (truthV (decide (a = b))) else if op = [33, 61] then some (truthV (!decide (a = b))) else if op = [38] then some (andV .i64 a b) else if op = [94] then some (xorV .i64 a b) else if op = [124] then some (orV .i64 a b) else none
/-- An operator's value, or its error. -/
def applyV (op : Bytes) (a b : Int) : Int × Int := match opNum op a b with
  | none => (0, 101)
  | some v => if b = 0 ∧ (op = [47] ∨ op = [37]) then (0, 103) else (v, 0)
theorem wrap_small {x : Nat} (h : x ≤ 9223372036854775807) : IntKind.i64.wrap (x : Int) = x := wrap64_id (by omega) (by omega)
theorem and63 (b : Int) : andV .i64 b 63 = b % 64 := by
  have h1 : (BitVec.ofInt 64 b &&& BitVec.ofInt 64 63).toNat = (b % 64).toNat := by
    rw [BitVec.toNat_and, show (BitVec.ofInt 64 63).toNat = 2 ^ 6 - 1 from rfl, Nat.and_two_pow_sub_one_eq_mod, BitVec.toNat_ofInt]
    omega
  unfold andV
  rw [show IntKind.i64.bits = 64 from rfl, h1, wrap_small (by omega)]; omega
theorem truth_spec (b : Bool) (w : World) : CallR Tryz.prog 28 #[.bool b] w fun v w' => v = .int .i64 (truthV b) ∧ Chg [] w w' := by
 refine callR_of_wp (args := [_]) Tryz.func28 rfl (Nat.le_of_ble_eq_true rfl) ?_
 have HC : Chg [] w w := .refl _
 refine sr rfl <| aI rfl <| en <| x_seq <| sr rfl <| mB rfl <| en <| x_cond rfl (fun h0 => ?_) (fun h0 => ?_)
 ·try simp only [nm, ne_eq] at h0
  refine sr rfl <| aI rfl <| en <| x_ret <| then_r <| ret_tmp (v := .int _ _) rfl rfl ?_
  rw [show b = true by simpa using h0]
  exact ⟨rfl, HC⟩
 ·try simp only [nm, ne_eq] at h0
  refine x_skip <| then_n <| sr rfl <| aI rfl <| en <| x_ret <| ret_tmp (v := .int _ _) rfl rfl ?_
  rw [show b = false by simpa using h0]
  exact ⟨rfl, HC⟩

theorem op1_spec (a b : Int) (w : World) : CallR Tryz.prog 97 #[.int .i64 a, .int .i64 b] w fun v w' => v = .int .i64 (IntKind.i64.wrap (a + b)) ∧ Chg [] w w' := by
 refine callR_of_wp (args := [_, _]) Tryz.func97 rfl (Nat.le_of_ble_eq_true rfl) ?_
 have HC : Chg [] w w := .refl _
 refine sr rfl <| aI rfl <| en <| sr rfl <| mI rfl <| mI rfl <| Wp rfl <| st_add rfl rfl <| aI rfl <| en <| x_ret <| ret_tmp (v := .int _ _) rfl rfl ?_
 exact ⟨rfl, HC⟩

theorem op2_spec (a b : Int) (w : World) : CallR Tryz.prog 98 #[.int .i64 a, .int .i64 b] w fun v w' => v = .int .i64 (IntKind.i64.wrap (a - b)) ∧ Chg [] w w' := by
 refine callR_of_wp (args := [_, _]) Tryz.func98 rfl (Nat.le_of_ble_eq_true rfl) ?_
 have HC : Chg [] w w := .refl _
 refine sr rfl <| aI rfl <| en <| sr rfl <| mI rfl <| mI rfl <| Wp rfl <| st_sub rfl rfl <| aI rfl <| en <| x_ret <| ret_tmp (v := .int _ _) rfl rfl ?_
 exact ⟨rfl, HC⟩

theorem op3_spec (a b : Int) (w : World) : CallR Tryz.prog 99 #[.int .i64 a, .int .i64 b] w fun v w' => v = .int .i64 (IntKind.i64.wrap (a * b)) ∧ Chg [] w w' := by
 refine callR_of_wp (args := [_, _]) Tryz.func99 rfl (Nat.le_of_ble_eq_true rfl) ?_
 have HC : Chg [] w w := .refl _
 refine sr rfl <| aI rfl <| en <| sr rfl <| mI rfl <| mI rfl <| Wp rfl <| st_mul rfl rfl <| aI rfl <| en <| x_ret <| ret_tmp (v := .int _ _) rfl rfl ?_
 exact ⟨rfl, HC⟩

theorem op4_spec (a b : Int) (w : World) (hb : b ≠ 0) : CallR Tryz.prog 100 #[.int .i64 a, .int .i64 b] w fun v w' => v = .int .i64 (IntKind.i64.wrap (a.tdiv b)) ∧ Chg [] w w' := by
 refine callR_of_wp (args := [_, _]) Tryz.func100 rfl (Nat.le_of_ble_eq_true rfl) ?_
 have HC : Chg [] w w := .refl _
 refine sr rfl <| aI rfl <| en <| sr rfl <| mI rfl <| mI rfl <| Wp rfl <| st_quo rfl rfl (by exact hb) <| aI rfl <| en <| x_ret <| ret_tmp (v := .int _ _) rfl rfl ?_
 exact ⟨rfl, HC⟩

theorem op5_spec (a b : Int) (w : World) (hb : b ≠ 0) : CallR Tryz.prog 101 #[.int .i64 a, .int .i64 b] w fun v w' => v = .int .i64 (a.tmod b) ∧ Chg [] w w' := by
 refine callR_of_wp (args := [_, _]) Tryz.func101 rfl (Nat.le_of_ble_eq_true rfl) ?_
 have HC : Chg [] w w := .refl _
 refine sr rfl <| aI rfl <| en <| sr rfl <| mI rfl <| mI rfl <| Wp rfl <| st_rem rfl rfl (by exact hb) <| aI rfl <| en <| x_ret <| ret_tmp (v := .int _ _) rfl rfl ?_
 exact ⟨rfl, HC⟩

theorem op6_spec (a b : Int) (w : World) : CallR Tryz.prog 102 #[.int .i64 a, .int .i64 b] w fun v w' => v = .int .i64 (shlV .i64 a (b % 64)) ∧ Chg [] w w' := by
 refine callR_of_wp (args := [_, _]) Tryz.func102 rfl (Nat.le_of_ble_eq_true rfl) ?_
 have HC : Chg [] w w := .refl _
 refine sr rfl <| aI rfl <| en <| sr rfl <| mI rfl <| mI rfl <| Wp rfl <| st_and rfl rfl <| Wp rfl <| st_shl rfl rfl (by rw [and63]; omega) <| aI rfl <| en <| x_ret <| ret_tmp (v := .int _ _) rfl rfl ?_
 rw [and63]
 exact ⟨rfl, HC⟩

theorem op7_spec (a b : Int) (w : World) : CallR Tryz.prog 103 #[.int .i64 a, .int .i64 b] w fun v w' => v = .int .i64 (shrV .i64 a (b % 64)) ∧ Chg [] w w' := by
 refine callR_of_wp (args := [_, _]) Tryz.func103 rfl (Nat.le_of_ble_eq_true rfl) ?_
 have HC : Chg [] w w := .refl _
 refine sr rfl <| aI rfl <| en <| sr rfl <| mI rfl <| mI rfl <| Wp rfl <| st_and rfl rfl <| Wp rfl <| st_shr rfl rfl (by rw [and63]; omega) <| aI rfl <| en <| x_ret <| ret_tmp (v := .int _ _) rfl rfl ?_
 rw [and63]
 exact ⟨rfl, HC⟩

theorem op8_spec (a b : Int) (w : World) : CallR Tryz.prog 104 #[.int .i64 a, .int .i64 b] w fun v w' => v = .int .i64 (truthV (decide (a < b))) ∧ Chg [] w w' := by
 refine callR_of_wp (args := [_, _]) Tryz.func104 rfl (Nat.le_of_ble_eq_true rfl) ?_
 have HC : Chg [] w w := .refl _
 refine sr rfl <| aI rfl <| en <| sr rfl <| mI rfl <| mI rfl <| Wp rfl <| st_lss rfl rfl <| Wp rfl <| st_call (ags := [_]) rfl rfl T.ent28 rfl (truth_spec _ _) ?_
 rintro _ w1 ⟨rfl, c2⟩
 replace HC := HC.then c2
 refine aI rfl <| en <| x_ret <| ret_tmp (v := .int _ _) rfl rfl ?_
 exact ⟨rfl, HC⟩

theorem op9_spec (a b : Int) (w : World) : CallR Tryz.prog 105 #[.int .i64 a, .int .i64 b] w fun v w' => v = .int .i64 (truthV (decide (a ≤ b))) ∧ Chg [] w w' := by
 refine callR_of_wp (args := [_, _]) Tryz.func105 rfl (Nat.le_of_ble_eq_true rfl) ?_
 have HC : Chg [] w w := .refl _
 refine sr rfl <| aI rfl <| en <| sr rfl <| mI rfl <| mI rfl <| Wp rfl <| st_leq rfl rfl <| Wp rfl <| st_call (ags := [_]) rfl rfl T.ent28 rfl (truth_spec _ _) ?_
 rintro _ w1 ⟨rfl, c2⟩
 replace HC := HC.then c2
 refine aI rfl <| en <| x_ret <| ret_tmp (v := .int _ _) rfl rfl ?_
 exact ⟨rfl, HC⟩

theorem op10_spec (a b : Int) (w : World) : CallR Tryz.prog 106 #[.int .i64 a, .int .i64 b] w fun v w' => v = .int .i64 (truthV (decide (b < a))) ∧ Chg [] w w' := by
 refine callR_of_wp (args := [_, _]) Tryz.func106 rfl (Nat.le_of_ble_eq_true rfl) ?_
 have HC : Chg [] w w := .refl _
 refine sr rfl <| aI rfl <| en <| sr rfl <| mI rfl <| mI rfl <| Wp rfl <| st_gtr rfl rfl <| Wp rfl <| st_call (ags := [_]) rfl rfl T.ent28 rfl (truth_spec _ _) ?_
 rintro _ w1 ⟨rfl, c2⟩
 replace HC := HC.then c2
 refine aI rfl <| en <| x_ret <| ret_tmp (v := .int _ _) rfl rfl ?_
 exact ⟨rfl, HC⟩

theorem op11_spec (a b : Int) (w : World) : CallR Tryz.prog 107 #[.int .i64 a, .int .i64 b] w fun v w' => v = .int .i64 (truthV (decide (b ≤ a))) ∧ Chg [] w w' := by
 refine callR_of_wp (args := [_, _]) Tryz.func107 rfl (Nat.le_of_ble_eq_true rfl) ?_
 have HC : Chg [] w w := .refl _
 refine sr rfl <| aI rfl <| en <| sr rfl <| mI rfl <| mI rfl <| Wp rfl <| st_geq rfl rfl <| Wp rfl <| st_call (ags := [_]) rfl rfl T.ent28 rfl (truth_spec _ _) ?_
 rintro _ w1 ⟨rfl, c2⟩
 replace HC := HC.then c2
 refine aI rfl <| en <| x_ret <| ret_tmp (v := .int _ _) rfl rfl ?_
 exact ⟨rfl, HC⟩

theorem op12_spec (a b : Int) (w : World) : CallR Tryz.prog 108 #[.int .i64 a, .int .i64 b] w fun v w' => v = .int .i64 (truthV (decide (a = b))) ∧ Chg [] w w' := by
 refine callR_of_wp (args := [_, _]) Tryz.func108 rfl (Nat.le_of_ble_eq_true rfl) ?_
 have HC : Chg [] w w := .refl _
 refine sr rfl <| aI rfl <| en <| sr rfl <| mI rfl <| mI rfl <| Wp rfl <| st_eql rfl rfl <| Wp rfl <| st_call (ags := [_]) rfl rfl T.ent28 rfl (truth_spec _ _) ?_
 rintro _ w1 ⟨rfl, c2⟩
 replace HC := HC.then c2
 refine aI rfl <| en <| x_ret <| ret_tmp (v := .int _ _) rfl rfl ?_
 exact ⟨rfl, HC⟩

theorem op13_spec (a b : Int) (w : World) : CallR Tryz.prog 109 #[.int .i64 a, .int .i64 b] w fun v w' => v = .int .i64 (truthV (!decide (a = b))) ∧ Chg [] w w' := by
 refine callR_of_wp (args := [_, _]) Tryz.func109 rfl (Nat.le_of_ble_eq_true rfl) ?_
 have HC : Chg [] w w := .refl _
 refine sr rfl <| aI rfl <| en <| sr rfl <| mI rfl <| mI rfl <| Wp rfl <| st_neq rfl rfl <| Wp rfl <| st_call (ags := [_]) rfl rfl T.ent28 rfl (truth_spec _ _) ?_
 rintro _ w1 ⟨rfl, c2⟩
 replace HC := HC.then c2
 refine aI rfl <| en <| x_ret <| ret_tmp (v := .int _ _) rfl rfl ?_
 exact ⟨rfl, HC⟩

theorem op14_spec (a b : Int) (w : World) : CallR Tryz.prog 110 #[.int .i64 a, .int .i64 b] w fun v w' => v = .int .i64 (andV .i64 a b) ∧ Chg [] w w' := by
 refine callR_of_wp (args := [_, _]) Tryz.func110 rfl (Nat.le_of_ble_eq_true rfl) ?_
 have HC : Chg [] w w := .refl _
 refine sr rfl <| aI rfl <| en <| sr rfl <| mI rfl <| mI rfl <| Wp rfl <| st_and rfl rfl <| aI rfl <| en <| x_ret <| ret_tmp (v := .int _ _) rfl rfl ?_
 exact ⟨rfl, HC⟩

theorem op15_spec (a b : Int) (w : World) : CallR Tryz.prog 111 #[.int .i64 a, .int .i64 b] w fun v w' => v = .int .i64 (xorV .i64 a b) ∧ Chg [] w w' := by
 refine callR_of_wp (args := [_, _]) Tryz.func111 rfl (Nat.le_of_ble_eq_true rfl) ?_
 have HC : Chg [] w w := .refl _
 refine sr rfl <| aI rfl <| en <| sr rfl <| mI rfl <| mI rfl <| Wp rfl <| st_xor rfl rfl <| aI rfl <| en <| x_ret <| ret_tmp (v := .int _ _) rfl rfl ?_
 exact ⟨rfl, HC⟩

theorem op16_spec (a b : Int) (w : World) : CallR Tryz.prog 112 #[.int .i64 a, .int .i64 b] w fun v w' => v = .int .i64 (orV .i64 a b) ∧ Chg [] w w' := by
 refine callR_of_wp (args := [_, _]) Tryz.func112 rfl (Nat.le_of_ble_eq_true rfl) ?_
 have HC : Chg [] w w := .refl _
 refine sr rfl <| aI rfl <| en <| sr rfl <| mI rfl <| mI rfl <| Wp rfl <| st_or rfl rfl <| aI rfl <| en <| x_ret <| ret_tmp (v := .int _ _) rfl rfl ?_
 exact ⟨rfl, HC⟩

/-- The operators' map. -/
def opsM : List (Bytes × Value) := [([43], .func (.func 97) #[] #[]), ([45], .func (.func 98) #[] #[]), ([42], .func (.func 99) #[] #[]), ([47], .func (.func 100) #[] #[]), ([37], .func (.func 101) #[] #[]), ([60, 60], .func (.func 102) #[] #[]), ([62, 62], .func (.func 103) #[] #[]), ([60], .func (.func 104) #[] #[]), ([60, 61], .func (.func 105) #[] #[]), ([62], .func (.func 106) #[] #[]), ([62, 61], .func (.func 107) #[] #[]), ([61, 61], .func (.func 108) #[] #[]), ([33, 61], .func (.func 109) #[] #[]), ([38], .func (.func 110) #[] #[]), ([94], .func (.func 111) #[] #[]), ([124], .func (.func 112) #[] #[])]
theorem ops_at (op : Bytes) : (mget opsM op = none ∧ ∀ a b, opNum op a b = none) ∨ ∃ k, mget opsM op = some (.func (.func k) #[] #[]) ∧ (∀ args (w : World), (callFunc k args).run Tryz.prog w = .ok (.enter k args) w) ∧ ∀ a b (w : World), (b = 0 → op ≠ [47] ∧ op ≠ [37]) → ∃ v, opNum op a b = some v ∧ CallR Tryz.prog k ⟨[.int .i64 a, .int .i64 b]⟩ w fun x w' => x = .int .i64 v ∧ Chg [] w w' := by
  by_cases h0 : op = [43]
  · subst h0; exact .inr ⟨97, rfl, T.ent97, fun a b w hb => ⟨_, rfl, op1_spec a b w⟩⟩
  by_cases h1 : op = [45]
  · subst h1; exact .inr ⟨98, rfl, T.ent98, fun a b w hb => ⟨_, rfl, op2_spec a b w⟩⟩
  by_cases h2 : op = [42]
  · subst h2; exact .inr ⟨99, rfl, T.ent99, fun a b w hb => ⟨_, rfl, op3_spec a b w⟩⟩
  by_cases h3 : op = [47]
  · subst h3; exact .inr ⟨100, rfl, T.ent100, fun a b w hb => ⟨_, rfl, op4_spec a b w (fun e => absurd rfl (hb e).1)⟩⟩
  by_cases h4 : op = [37]
  · subst h4; exact .inr ⟨101, rfl, T.ent101, fun a b w hb => ⟨_, rfl, op5_spec a b w (fun e => absurd rfl (hb e).2)⟩⟩
  by_cases h5 : op = [60, 60]
  · subst h5; exact .inr ⟨102, rfl, T.ent102, fun a b w hb => ⟨_, rfl, op6_spec a b w⟩⟩
  by_cases h6 : op = [62, 62]
  · subst h6; exact .inr ⟨103, rfl, T.ent103, fun a b w hb => ⟨_, rfl, op7_spec a b w⟩⟩
  by_cases h7 : op = [60]
  · subst h7; exact .inr ⟨104, rfl, T.ent104, fun a b w hb => ⟨_, rfl, op8_spec a b w⟩⟩
  by_cases h8 : op = [60, 61]
  · subst h8; exact .inr ⟨105, rfl, T.ent105, fun a b w hb => ⟨_, rfl, op9_spec a b w⟩⟩
  by_cases h9 : op = [62]
  · subst h9; exact .inr ⟨106, rfl, T.ent106, fun a b w hb => ⟨_, rfl, op10_spec a b w⟩⟩
  by_cases h10 : op = [62, 61]
  · subst h10; exact .inr ⟨107, rfl, T.ent107, fun a b w hb => ⟨_, rfl, op11_spec a b w⟩⟩
  by_cases h11 : op = [61, 61]
  · subst h11; exact .inr ⟨108, rfl, T.ent108, fun a b w hb => ⟨_, rfl, op12_spec a b w⟩⟩
  by_cases h12 : op = [33, 61]
  · subst h12; exact .inr ⟨109, rfl, T.ent109, fun a b w hb => ⟨_, rfl, op13_spec a b w⟩⟩
  by_cases h13 : op = [38]
  · subst h13; exact .inr ⟨110, rfl, T.ent110, fun a b w hb => ⟨_, rfl, op14_spec a b w⟩⟩
  by_cases h14 : op = [94]
  · subst h14; exact .inr ⟨111, rfl, T.ent111, fun a b w hb => ⟨_, rfl, op15_spec a b w⟩⟩
  by_cases h15 : op = [124]
  · subst h15; exact .inr ⟨112, rfl, T.ent112, fun a b w hb => ⟨_, rfl, op16_spec a b w⟩⟩
  exact .inl ⟨by simp only [opsM, mget]; simp only [Ne.symm h0, Ne.symm h1, Ne.symm h2, Ne.symm h3, Ne.symm h4, Ne.symm h5, Ne.symm h6, Ne.symm h7, Ne.symm h8, Ne.symm h9, Ne.symm h10, Ne.symm h11, Ne.symm h12, Ne.symm h13, Ne.symm h14, Ne.symm h15, if_false], fun a b => by simp only [opNum]; simp only [h0, h1, h2, h3, h4, h5, h6, h7, h8, h9, h10, h11, h12, h13, h14, h15, if_false]⟩

theorem vops_spec (w : World) : CallR Tryz.prog 75 #[] w fun v w' => (∃ b, v = .map (some b) ∧ MapAt w' b opsM) ∧ Chg [] w w' := by
 refine callR_of_wp (args := []) Tryz.func75 rfl (Nat.le_of_ble_eq_true rfl) ?_
 have HC : Chg [] w w := .refl _
 refine sr rfl <| av (v := .map _) rfl <| en <| sr rfl <| Wp rfl <| st_makeMap ?_
 intro b1 w2 e3 c4 hm5
 have ge_b1 : w.heap.size ≤ b1 := by rw [e3]; exact HC.size
 replace HC := HC.then c4
 clear e3
 refine Wp rfl <| st_mapIns T.map118 rfl rfl rfl hm5 ?_
 intro w6 c7 hm8
 clear hm5
 replace HC := HC.then1 c7 ge_b1
 refine Wp rfl <| st_mapIns T.map118 rfl rfl rfl hm8 ?_
 intro w9 c10 hm11
 clear hm8
 replace HC := HC.then1 c10 ge_b1
 refine Wp rfl <| st_mapIns T.map118 rfl rfl rfl hm11 ?_
 intro w12 c13 hm14
 clear hm11
 replace HC := HC.then1 c13 ge_b1
 refine Wp rfl <| st_mapIns T.map118 rfl rfl rfl hm14 ?_
 intro w15 c16 hm17
 clear hm14
 replace HC := HC.then1 c16 ge_b1
 refine Wp rfl <| st_mapIns T.map118 rfl rfl rfl hm17 ?_
 intro w18 c19 hm20
 clear hm17
 replace HC := HC.then1 c19 ge_b1
 refine Wp rfl <| st_mapIns T.map118 rfl rfl rfl hm20 ?_
 intro w21 c22 hm23
 clear hm20
 replace HC := HC.then1 c22 ge_b1
 refine Wp rfl <| st_mapIns T.map118 rfl rfl rfl hm23 ?_
 intro w24 c25 hm26
 clear hm23
 replace HC := HC.then1 c25 ge_b1
 refine Wp rfl <| st_mapIns T.map118 rfl rfl rfl hm26 ?_
 intro w27 c28 hm29
 clear hm26
 replace HC := HC.then1 c28 ge_b1
 refine Wp rfl <| st_mapIns T.map118 rfl rfl rfl hm29 ?_
 intro w30 c31 hm32
 clear hm29
 replace HC := HC.then1 c31 ge_b1
 refine Wp rfl <| st_mapIns T.map118 rfl rfl rfl hm32 ?_
 intro w33 c34 hm35
 clear hm32
 replace HC := HC.then1 c34 ge_b1
 refine Wp rfl <| st_mapIns T.map118 rfl rfl rfl hm35 ?_
 intro w36 c37 hm38
 clear hm35
 replace HC := HC.then1 c37 ge_b1
 refine Wp rfl <| st_mapIns T.map118 rfl rfl rfl hm38 ?_
 intro w39 c40 hm41
 clear hm38
 replace HC := HC.then1 c40 ge_b1
 refine Wp rfl <| st_mapIns T.map118 rfl rfl rfl hm41 ?_
 intro w42 c43 hm44
 clear hm41
 replace HC := HC.then1 c43 ge_b1
 refine Wp rfl <| st_mapIns T.map118 rfl rfl rfl hm44 ?_
 intro w45 c46 hm47
 clear hm44
 replace HC := HC.then1 c46 ge_b1
 refine Wp rfl <| st_mapIns T.map118 rfl rfl rfl hm47 ?_
 intro w48 c49 hm50
 clear hm47
 replace HC := HC.then1 c49 ge_b1
 refine Wp rfl <| st_mapIns T.map118 rfl rfl rfl hm50 ?_
 intro w51 c52 hm53
 clear hm50
 replace HC := HC.then1 c52 ge_b1
 refine mv (v := .map _) rfl <| av (v := .map _) rfl <| en <| x_ret <| ret_tmp (v := .map _) rfl rfl ?_
 exact ⟨⟨_, rfl, hm53⟩, HC⟩

theorem Apply_spec (op : Bytes) (a b : Int) (w : World) : CallR Tryz.prog 51 #[S op, .int .i64 a, .int .i64 b] w fun v w' => v = .tuple ⟨[.int .i64 (applyV op a b).1, .int .i64 (applyV op a b).2]⟩ ∧ Chg [] w w' := by
 refine callR_of_wp (args := [_, _, _]) Tryz.func51 rfl (Nat.le_of_ble_eq_true rfl) ?_
 have HC : Chg [] w w := .refl _
 refine sr rfl <| aI rfl <| aI rfl <| en <| x_seq ?_
 rcases ops_at op with ⟨hno, hnn⟩ | ⟨kf, hk, hent, hspec⟩
 ·refine x_region rfl <| Wp rfl <| st_call (ags := []) rfl rfl T.ent75 rfl (vops_spec _) ?_
  rintro _ w1 ⟨⟨bm, rfl, hmap⟩, c2⟩
  replace HC := HC.then c2
  refine mS rfl <| Wp rfl <| st_lookOk (v := .nilFunc) (q := false) T.map118 T.zvn rfl rfl hmap (by rw [hno]; rfl) (by rw [hno]; rfl) <| mv (v := .tuple ⟨[_, _]⟩) rfl <| Wp rfl <| st_extract (vs := [_, _]) (v := .nilFunc) rfl rfl <| Wp rfl <| st_extract (vs := [_, _]) (v := .bool false) rfl rfl <| av (v := .nilFunc) rfl <| aB rfl <| en <| x_seq <| x_block <| sr rfl <| mB rfl <| Wp rfl <| st_not rfl <| aB rfl <| en <| x_cond (t := true) rfl (fun h0 => ?_) (fun h0 => ?_)
  rotate_left
  · exact absurd h0 (by decide)
  refine sr rfl <| aI rfl <| aI rfl <| en <| x_ret <| block_r <| then_r <| ret_tmp2 (v := .int _ _) (v2 := .int _ _) rfl rfl rfl ?_
  rw [show applyV op a b = (0, 101) by unfold applyV; rw [hnn]]
  exact ⟨rfl, HC⟩
 ·refine x_region rfl <| Wp rfl <| st_call (ags := []) rfl rfl T.ent75 rfl (vops_spec _) ?_
  rintro _ w3 ⟨⟨bm, rfl, hmap⟩, c4⟩
  replace HC := HC.then c4
  refine mS rfl <| Wp rfl <| st_lookOk (v := .func (.func kf) #[] #[]) (q := true) T.map118 T.zvn rfl rfl hmap (by rw [hk]; rfl) (by rw [hk]; rfl) <| mv (v := .tuple ⟨[_, _]⟩) rfl <| Wp rfl <| st_extract (vs := [_, _]) (v := .func (.func kf) #[] #[]) rfl rfl <| Wp rfl <| st_extract (vs := [_, _]) (v := .bool true) rfl rfl <| av (v := .func _ _ _) rfl <| aB rfl <| en <| x_seq <| x_block <| sr rfl <| mB rfl <| Wp rfl <| st_not rfl <| aB rfl <| en <| x_cond (t := false) rfl (fun h0 => ?_) (fun h0 => ?_)
  · exact absurd h0 (by decide)
  refine sr rfl <| mI rfl <| Wp rfl <| st_eql rfl rfl <| mB rfl <| w_split (d := 22) rfl (fun g5 => ?_) (fun g5 => ?_)
  ·try simp only [nm, ne_eq] at g5
   refine w_yes 2 22 true <| st_move (v := S _) rfl <| w_yes 2 22 true <| st_seql rfl rfl <| w_yes 2 22 true <| st_move (v := .bool _) rfl <| w_split (d := 25) rfl (fun g6 => ?_) (fun g6 => ?_)
   ·try simp only [nm, ne_eq] at g6
    refine w_no 5 25 false <| w_no 5 25 false <| w_yes 2 22 true <| st_pick (b := true) (v := .bool _) rfl rfl <| pT rfl rfl <| aB rfl <| en <| x_cond (t := true) rfl (fun h1 => ?_) (fun h1 => ?_)
    rotate_left
    · exact absurd h1 (by decide)
    have hap : applyV op a b = (0, 103) := by (first | (have e5 : op = [47] := (by assumption); subst e5; simp [applyV, opNum, *]; done) | (have e5 : op = [37] := (by assumption); subst e5; simp [applyV, opNum, *]; done))
    refine sr rfl <| aI rfl <| aI rfl <| en <| x_ret <| block_r <| then_r <| ret_tmp2 (v := .int _ _) (v2 := .int _ _) rfl rfl rfl ?_
    rw [hap]
    exact ⟨rfl, HC⟩
   ·try simp only [nm, ne_eq] at g6
    refine w_yes 5 25 false <| st_move (v := S _) rfl <| w_yes 5 25 false <| st_seql rfl rfl <| w_yes 2 22 true <| st_pick (b := false) (v := .bool _) rfl rfl <| pT rfl rfl <| aB rfl <| en <| x_cond rfl (fun h1 => ?_) (fun h1 => ?_)
    ·try simp only [nm, ne_eq] at h1
     have hap : applyV op a b = (0, 103) := by (first | (have e5 : op = [47] := (by assumption); subst e5; simp [applyV, opNum, *]; done) | (have e5 : op = [37] := (by assumption); subst e5; simp [applyV, opNum, *]; done))
     refine sr rfl <| aI rfl <| aI rfl <| en <| x_ret <| block_r <| then_r <| ret_tmp2 (v := .int _ _) (v2 := .int _ _) rfl rfl rfl ?_
     rw [hap]
     exact ⟨rfl, HC⟩
    ·try simp only [nm, ne_eq] at h1
     have hz : b = 0 → op ≠ [47] ∧ op ≠ [37] := by intro e; first | exact absurd e (by assumption) | exact ⟨by assumption, by assumption⟩
     refine x_skip <| block_n <| then_n <| sr rfl <| mv (v := .func _ _ _) rfl <| mI rfl <| mI rfl ?_
     obtain ⟨v0, hv0, hc0⟩ := hspec a b w3 hz
     refine Wp rfl <| st_call (f := kf) (cap := #[]) (ags := [_, _]) rfl rfl hent rfl hc0 ?_
     rintro _ w7 ⟨rfl, c8⟩
     replace HC := HC.then c8
     replace hmap := hmap.tr0 c8
     refine aI rfl <| aI rfl <| en <| x_ret <| ret_tmp2 (v := .int _ _) (v2 := .int _ _) rfl rfl rfl ?_
     rw [show applyV op a b = (v0, 0) by unfold applyV; rw [hv0]; exact if_neg (fun e => by have h5 := hz e.1; rcases e.2 with e2 | e2; exact h5.1 e2; exact h5.2 e2)]
     exact ⟨rfl, HC⟩
  ·try simp only [nm, ne_eq] at g5
   iterate 3 refine w_no 2 22 true ?_
   refine w_no 5 25 false <| w_no 5 25 false <| w_no 2 22 true <| pF rfl rfl <| aB rfl <| en <| x_cond (t := false) rfl (fun h1 => ?_) (fun h1 => ?_)
   · exact absurd h1 (by decide)
   have hz : b = 0 → op ≠ [47] ∧ op ≠ [37] := by intro e; first | exact absurd e (by assumption) | exact ⟨by assumption, by assumption⟩
   refine x_skip <| block_n <| then_n <| sr rfl <| mv (v := .func _ _ _) rfl <| mI rfl <| mI rfl ?_
   obtain ⟨v0, hv0, hc0⟩ := hspec a b w3 hz
   refine Wp rfl <| st_call (f := kf) (cap := #[]) (ags := [_, _]) rfl rfl hent rfl hc0 ?_
   rintro _ w9 ⟨rfl, c10⟩
   replace HC := HC.then c10
   replace hmap := hmap.tr0 c10
   refine aI rfl <| aI rfl <| en <| x_ret <| ret_tmp2 (v := .int _ _) (v2 := .int _ _) rfl rfl rfl ?_
   rw [show applyV op a b = (v0, 0) by unfold applyV; rw [hv0]; exact if_neg (fun e => by have h5 := hz e.1; rcases e.2 with e2 | e2; exact h5.1 e2; exact h5.2 e2)]
   exact ⟨rfl, HC⟩

end Go.Proofs.YtmbbhgglllfelaaGreatDoor.K
set_option linter.unusedVariables false
set_option linter.unusedSimpArgs false
set_option autoImplicit false
namespace Go.Proofs.YtmbbhgglllfelaaGreatDoor.K
open Go Go.Proofs Go.RowKit
theorem TrimPrefix_spec (s p : Bytes) (w : World) : CallR Tryz.prog 70 #[S s, S p] w fun v w' => v = S (Lib.trimPrefix s p) ∧ Chg [] w w' :=
  CallR.of (Tryz.strings_TrimPrefix ⟨⟨s⟩⟩ ⟨⟨p⟩⟩ w) fun e w' ⟨h1, h2⟩ => ⟨_, h1, rfl, .refl' h2⟩
theorem TrimSuffix_spec (s p : Bytes) (w : World) (hs : s.length ≤ 9223372036854775807) : CallR Tryz.prog 49 #[S s, S p] w fun v w' => v = S (Lib.trimSuffix s p) ∧ Chg [] w w' :=
  CallR.of (Tryz.strings_TrimSuffix ⟨⟨s⟩⟩ ⟨⟨p⟩⟩ w hs) fun e w' ⟨h1, h2⟩ => ⟨_, h1, rfl, .refl' h2⟩
theorem Compare_spec (s p : Bytes) (w : World) : CallR Tryz.prog 69 #[S s, S p] w fun v w' => v = .int .i64 (Lib.compareBytes s p) ∧ Chg [] w w' :=
  CallR.of (Tryz.strings_Compare ⟨⟨s⟩⟩ ⟨⟨p⟩⟩ w) fun e w' ⟨h1, h2⟩ => ⟨_, h1, rfl, .refl' h2⟩
/-! ### the order of texts -/
theorem cmp_lt : ∀ a b : Bytes, (Lib.compareBytes a b < 0 ↔ Op.bytesLess a b = true) ∧ (Lib.compareBytes a b = 0 ↔ a = b)
  | [], [] => by simp [Lib.compareBytes, Op.bytesLess]
  | [], _ :: _ => by simp [Lib.compareBytes, Op.bytesLess]
  | _ :: _, [] => by simp [Lib.compareBytes, Op.bytesLess]
  | a :: x, b :: y => by
    obtain ⟨h1, h2⟩ := cmp_lt x y
    simp only [Lib.compareBytes, Op.bytesLess]
    by_cases e : a = b
    · subst e; simp [h1, h2]
    · by_cases l : a < b
      · simp [l, e]
      · have hb : b < a := by
          rcases UInt8.lt_or_le b a with h | h
          · exact h
          · exact absurd (UInt8.lt_of_le_of_ne h e) l
        simp [l, e, hb]
theorem less_trans : ∀ a b c : Bytes, Op.bytesLess a b = true → Op.bytesLess b c = true → Op.bytesLess a c = true
  | _, [], _, h, _ => by cases ‹Bytes› <;> simp [Op.bytesLess] at h
  | _, _ :: _, [], _, h => by simp [Op.bytesLess] at h
  | [], _ :: _, _ :: _, _, _ => rfl
  | a :: x, b :: y, c :: z, h1, h2 => by
    simp only [Op.bytesLess, Bool.or_eq_true, decide_eq_true_eq, Bool.and_eq_true, beq_iff_eq] at h1 h2 ⊢
    rcases h1 with h1 | ⟨h1, h3⟩ <;> rcases h2 with h2 | ⟨h2, h4⟩
    · exact .inl (UInt8.lt_trans h1 h2)
    · subst h2; exact .inl h1
    · subst h1; exact .inl h2
    · subst h1; subst h2; exact .inr ⟨rfl, less_trans x y z h3 h4⟩
end Go.Proofs.YtmbbhgglllfelaaGreatDoor.K
