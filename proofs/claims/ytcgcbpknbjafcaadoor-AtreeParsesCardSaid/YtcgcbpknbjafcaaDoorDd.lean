/- Printing, as the document does; the law AtreeParses. -/
import Derived.Test.YtcgcbpknbjafcaaDoorDc
import Derived.Test.YtcgcbpknbjafcaaDoorCq
import Derived.Test.YtcgcbpknbjafcaaDoorKitQ
set_option linter.unusedVariables false
set_option linter.unusedSimpArgs false
set_option autoImplicit false
set_option maxRecDepth 20000
namespace Go.Proofs.YtcgcbpknbjafcaaDoor.K
open Go Go.Proofs Go.RowKit
open Tr
namespace Tr
/-- A tree's own operation. -/
def node : Tr → Nat → Nd
  | num n, _ => ⟨[35], n, [], []⟩
  | var s, _ => ⟨[36], 0, s, []⟩
  | asg o n t, b => ⟨o, 0, n, [t.root b]⟩
  | un o t, b => ⟨117 :: o, 0, [], [t.root b]⟩
  | cnd x y z, b => ⟨[63], 0, [], [x.root b, y.root (b + x.sz), z.root (b + x.sz + y.sz)]⟩
  | bin o x y, b => ⟨o, 0, [], [x.root b, y.root (b + x.sz)]⟩
/-- Its kids: each a tree, and where it begins. -/
def kidsT : Tr → Nat → List (Tr × Nat)
  | num _, _ => []
  | var _, _ => []
  | asg _ _ t, b => [(t, b)]
  | un _ t, b => [(t, b)]
  | cnd x y z, b => [(x, b), (y, b + x.sz), (z, b + x.sz + y.sz)]
  | bin _ x y, b => [(x, b), (y, b + x.sz)]
theorem node_kids (t : Tr) (b : Nat) : (t.node b).kids = (t.kidsT b).map fun c => c.1.root c.2 := by cases t <;> rfl
/-- A tree's row lies in a row, from a place on. -/
def SubAt (l : List Nd) (t : Tr) (b : Nat) : Prop := ∀ j x, (t.row b)[j]? = some x → l[b + j]? = some x
theorem SubAt.left {l : List Nd} {t : Tr} {b : Nat} {r s : List Nd} (h : ∀ j x, (r ++ s)[j]? = some x → l[b + j]? = some x) : ∀ j x, r[j]? = some x → l[b + j]? = some x := fun j x hj => h j x (by
  have := (List.getElem?_eq_some_iff.1 hj).1
  rw [List.getElem?_append_left this]; exact hj)
theorem SubAt.right {l : List Nd} {b : Nat} {r s : List Nd} {n : Nat} (hn : r.length = n) (h : ∀ j x, (r ++ s)[j]? = some x → l[b + j]? = some x) : ∀ j x, s[j]? = some x → l[b + n + j]? = some x := fun j x hj => by
  rw [Nat.add_assoc]
  refine h (n + j) x ?_
  rw [List.getElem?_append_right (by omega), show n + j - r.length = j by omega]; exact hj
theorem sub_node {l : List Nd} {t : Tr} {b : Nat} (h : SubAt l t b) : l[b + t.sz - 1]? = some (t.node b) := by
  have hp := t.sz_pos
  have : (t.row b)[t.sz - 1]? = some (t.node b) := by
    cases t with
    | num n => rfl
    | var s => rfl
    | asg o n t => simp only [row, sz, node]; rw [List.getElem?_append_right (by rw [row_len]; omega), row_len, show t.sz + 1 - 1 - t.sz = 0 by omega]; rfl
    | un o t => simp only [row, sz, node]; rw [List.getElem?_append_right (by rw [row_len]; omega), row_len, show t.sz + 1 - 1 - t.sz = 0 by omega]; rfl
    | cnd x y z =>
      simp only [row, sz, node]
      rw [List.getElem?_append_right (by rw [row_len]; omega), row_len, List.getElem?_append_right (by rw [row_len]; omega), row_len, List.getElem?_append_right (by rw [row_len]; omega), row_len, show x.sz + y.sz + z.sz + 1 - 1 - x.sz - y.sz - z.sz = 0 by omega]; rfl
    | bin o x y =>
      simp only [row, sz, node]
      rw [List.getElem?_append_right (by rw [row_len]; omega), row_len, List.getElem?_append_right (by rw [row_len]; omega), row_len, show x.sz + y.sz + 1 - 1 - x.sz - y.sz = 0 by omega]; rfl
  have h2 := h _ _ this
  rwa [show b + (t.sz - 1) = b + t.sz - 1 by omega] at h2
theorem sub_kid {l : List Nd} {t : Tr} {b : Nat} (h : SubAt l t b) (hok : t.ok) : ∀ c, c ∈ t.kidsT b → SubAt l c.1 c.2 ∧ c.1.sz < t.sz ∧ c.2 + c.1.sz ≤ b + t.sz ∧ c.1.ok ∧ lightN (c.1.row c.2) ≤ lightN (t.row b) := by
  intro c hc
  cases t with
  | num n => cases hc
  | var s => cases hc
  | asg o n t =>
    obtain rfl := List.mem_singleton.1 hc
    exact ⟨SubAt.left (t := t) h, by simp [sz], by simp [sz], hok.2.2, by simp only [row, lightN_append]; omega⟩
  | un o t =>
    obtain rfl := List.mem_singleton.1 hc
    exact ⟨SubAt.left (t := t) h, by simp [sz], by simp [sz], hok.2, by simp only [row, lightN_append]; omega⟩
  | cnd x y z =>
    simp only [kidsT, List.mem_cons, List.not_mem_nil, or_false] at hc
    have hy := SubAt.right (row_len x b) h
    rcases hc with rfl | rfl | rfl
    · exact ⟨SubAt.left (t := x) h, by simp only [sz]; omega, by simp only [sz]; omega, hok.1, by simp only [row, lightN_append]; omega⟩
    · exact ⟨SubAt.left (t := y) hy, by simp only [sz]; omega, by simp only [sz]; omega, hok.2.1, by simp only [row, lightN_append]; omega⟩
    · exact ⟨SubAt.left (t := z) (SubAt.right (row_len y _) hy), by simp only [sz]; omega, by simp only [sz]; omega, hok.2.2, by simp only [row, lightN_append]; omega⟩
  | bin o x y =>
    simp only [kidsT, List.mem_cons, List.not_mem_nil, or_false] at hc
    have hy := SubAt.right (row_len x b) h
    rcases hc with rfl | rfl
    · exact ⟨SubAt.left (t := x) h, by simp only [sz]; omega, by simp only [sz]; omega, hok.2.1, by simp only [row, lightN_append]; omega⟩
    · exact ⟨SubAt.left (t := y) hy, by simp only [sz]; omega, by simp only [sz]; omega, hok.2.2, by simp only [row, lightN_append]; omega⟩
end Tr
open Tr
/-- An operation's text, as the document prints it. -/
def rnodeT (x : Nd) (k : List Bytes) : Bytes :=
  if x.op = [35] then decT x.num.toNat
  else if x.op = [36] then x.name
  else if x.op ∈ asgL then ((([40] ++ x.name) ++ x.op) ++ k.getD 0 []) ++ [41]
  else if x.op = [63] then ((((([40] ++ k.getD 0 []) ++ [63]) ++ k.getD 1 []) ++ [58]) ++ k.getD 2 []) ++ [41]
  else if k.length = 1 then (([40] ++ x.op.drop 1) ++ k.getD 0 []) ++ [41]
  else ((([40] ++ k.getD 0 []) ++ x.op) ++ k.getD 1 []) ++ [41]
theorem rnodeT_eq (o : Bytes) (num : Int) (n : Bytes) (ks : List Int) (k : List Bytes) : rnodeT ⟨o, num, n, ks⟩ k =
  if o = [35] then decT num.toNat
  else if o = [36] then n
  else if o ∈ asgL then ((([40] ++ n) ++ o) ++ k.getD 0 []) ++ [41]
  else if o = [63] then ((((([40] ++ k.getD 0 []) ++ [63]) ++ k.getD 1 []) ++ [58]) ++ k.getD 2 []) ++ [41]
  else if k.length = 1 then (([40] ++ o.drop 1) ++ k.getD 0 []) ++ [41]
  else ((([40] ++ k.getD 0 []) ++ o) ++ k.getD 1 []) ++ [41] := rfl
theorem rnode_str (t : Tr) (b : Nat) (h : t.ok) : rnodeT (t.node b) ((t.kidsT b).map fun c => str c.1) = str t := by
  cases t with
  | num n => rfl
  | var s => rfl
  | asg o n t =>
    have h1 := asg_op h.1
    rw [node, rnodeT_eq, if_neg h1.1, if_neg h1.2, if_pos h.1]; rfl
  | un o t =>
    obtain ⟨h1, h2, h3, h4⟩ := un_op h.1
    rw [node, rnodeT_eq, if_neg h1, if_neg h2, if_neg h3, if_neg (by simp), if_pos (by rfl)]; rfl
  | cnd x y z => rw [node, rnodeT_eq, if_neg (by decide), if_neg (by decide), if_neg (by decide), if_pos rfl]; rfl
  | bin o x y =>
    obtain ⟨h1, h2, h3, h4, h5⟩ := lv_op h.1
    rw [node, rnodeT_eq, if_neg h1, if_neg h2, if_neg h3, if_neg h5, if_neg (by simp [kidsT])]; rfl
/-- How many kids an operation has, and how long what it prints is. -/
theorem node_is (t : Tr) (b : Nat) (h : t.ok) : ((t.node b).op = [35] → 0 ≤ (t.node b).num ∧ (t.node b).num ≤ 9223372036854775807) ∧ (t.node b).op.length ≤ 3 ∧ ((t.node b).op ∈ asgL → (t.kidsT b).length = 1) ∧ ((t.node b).op = [63] → (t.kidsT b).length = 3) ∧
    ((t.node b).op ≠ [35] → (t.node b).op ≠ [36] → (t.node b).op ∉ asgL → (t.node b).op ≠ [63] → (t.kidsT b).length = 1 ∧ 1 ≤ (t.node b).op.length ∨ (t.kidsT b).length = 2) ∧ totL ((t.kidsT b).map fun c => str c.1) + (t.node b).name.length + 30 ≤ lightN (t.row b) := by
  cases t with
  | num n => exact ⟨fun _ => h, by simp [node], fun h => absurd h (by simp [node]; decide), fun h => absurd h (by simp [node]), fun h => absurd rfl h, by simp [kidsT, totL, node, row, lightN]⟩
  | var s => exact ⟨fun h => absurd h (by simp [node]), by simp [node], fun h => absurd h (by simp [node]; decide), fun h => absurd h (by simp [node]), fun _ h => absurd rfl h, by simp [kidsT, totL, node, row, lightN]⟩
  | asg o n t =>
    have h1 := str_len t b h.2.2
    have h2 := asg_op h.1
    exact ⟨fun e => absurd e h2.1, asg_len h.1, fun _ => rfl, fun e => by have h3 := h.1; rw [show o = [63] from e] at h3; exact absurd h3 (by decide), fun _ _ h3 => absurd h.1 h3, by simp only [kidsT, List.map_cons, List.map_nil, totL, node, row, lightN, lightN_append]; omega⟩
  | un o t =>
    have h1 := str_len t b h.2
    obtain ⟨h2, h3, h4, h5⟩ := un_op h.1
    exact ⟨fun e => absurd e h2, by have := un_len h.1; simp only [node, List.length_cons]; omega, fun e => absurd e h4, fun e => by simp [node] at e, fun _ _ _ _ => .inl ⟨rfl, by simp [node]⟩, by simp only [kidsT, List.map_cons, List.map_nil, totL, node, row, lightN, lightN_append, List.length_nil]; omega⟩
  | cnd x y z =>
    have h1 := str_len x b h.1
    have h2 := str_len y (b + x.sz) h.2.1
    have h3 := str_len z (b + x.sz + y.sz) h.2.2
    exact ⟨fun e => by simp [node] at e, by simp [node], fun e => absurd e (by simp [node]; decide), fun _ => rfl, fun _ _ _ h => absurd rfl h, by simp only [kidsT, List.map_cons, List.map_nil, totL, node, row, lightN, lightN_append, List.length_nil]; omega⟩
  | bin o x y =>
    have h1 := str_len x b h.2.1
    have h2 := str_len y (b + x.sz) h.2.2
    obtain ⟨q1, q2, q3, q4, q5⟩ := lv_op h.1
    exact ⟨fun e => absurd e q1, by have := (lvl_len h.1).1; simp only [node]; omega, fun e => absurd e q3, fun e => absurd e q5, fun _ _ _ _ => .inr rfl, by simp only [kidsT, List.map_cons, List.map_nil, totL, node, row, lightN, lightN_append, List.length_nil]; omega⟩
/-- A whole number's digits, with its sign. -/
def textV (n : Int) : Bytes := if n < 0 then [45] ++ decT (-n).toNat else decT n.toNat
theorem decT_big {n : Nat} (h : 10 ≤ n) : decT n = decT (n / 10) ++ [digC (n % 10)] := by rw [decT, dif_neg (by omega)]
theorem decT_small {n : Nat} (h : n < 10) : decT n = [digC n] := by rw [decT, dif_pos h]
theorem rem64 {m : Nat} : ((m : Int)).tmod 10 = ((m % 10 : Nat) : Int) := by rw [Int.tmod_eq_emod_of_nonneg (by omega)]; omega
theorem quo64 {m : Nat} (h : m ≤ 18446744073709551615) : IntKind.u64.wrap ((m : Int).tdiv 10) = ((m / 10 : Nat) : Int) := by rw [quou64 (by omega) (by omega) (by omega)]; omega
theorem dig64 {d : Nat} (h : d < 10) : IntKind.u64.wrap (48 + (d : Int)) = ((48 + d : Nat) : Int) := by rw [wrapu64_id (by omega) (by omega)]; omega
theorem dig8 {d : Nat} (h : d < 10) : IntKind.u8.wrap ((48 + d : Nat) : Int) = ((digC d).toNat : Int) := by rw [wrapu8_id (by omega) (by omega), digC_to h]
theorem decT_lenU {n : Nat} (h : n ≤ 18446744073709551615) : (decT n).length ≤ 20 := decT_len 19 n (by have : (10 : Nat) ^ (19 + 1) = 100000000000000000000 := rfl; omega)

theorem digits_spec (n : Nat) (hn : n ≤ 18446744073709551615) (w : World) : CallR Tryd.prog 85 #[.int .u64 (n : Int)] w fun v w' => v = S (decT n) ∧ Chg [] w w' := by
 refine callR_of_wp (args := [_]) Tryd.func85 rfl (Nat.le_of_ble_eq_true rfl) ?_
 have HC : Chg [] w w := .refl _
 refine sr rfl <| aS rfl <| en <| sr rfl <| aS rfl <| en <| x_seq <| x_block <| x_loop (ι := Nat × Bytes) [0, 3, 4, 5, 6, 7, 8, 9, 10, 11, 12, 13, 14, 15] (fun ⟨m, z⟩ => [(0, .int .u64 (m : Int)), (3, S z)]) (fun ⟨m, z⟩ W => (m ≤ n ∧ decT n = decT m ++ z ∧ (z = [] ∨ 1 ≤ m)) ∧ (Chg [] w W)) (fun ⟨m, z⟩ => m) (n, []) ?_ ?_ ?_
 · exact ⟨rfl, rfl, trivial⟩
 ·refine ⟨?_, HC⟩
  exact ⟨Nat.le_refl _, (List.append_nil _).symm, .inl rfl⟩
 intro ⟨m, z⟩ G2 w1 ⟨⟨hm, hz, hzm⟩, HC⟩
 change wp _ _ _ _ _ (upds (over _ _ G2) [(0, .int .u64 (m : Int)), (3, S z)]) _ _
 have hml : m ≤ 18446744073709551615 := by omega
 have hzl := congrArg List.length hz
 rw [List.length_append] at hzl
 have hzn := decT_lenU hn
 refine x_seq <| sr rfl <| mI rfl <| Wp rfl <| st_geq rfl rfl <| en <| x_cond rfl (fun h0 => ?_) (fun h0 => ?_)
 ·try simp only [nm, ne_eq] at h0
  refine x_skip <| then_n <| x_block <| sr rfl <| mI rfl <| Wp rfl <| st_remk rfl rfl (by decide) (by exact rem64) <| Wp rfl <| st_addk rfl rfl (by exact dig64 (by omega)) <| Wp rfl <| st_convk T.u35 T.u5 rfl (by exact dig8 (by omega)) <| Wp rfl <| st_lit (ps := [(0, .tmp 9)]) (vs := [.int _ _]) T.lit54 (by decide) rfl (by simp only [List.forall_mem_cons, List.not_mem_nil, false_imp_iff, implies_true, and_true]; exact rfl) rfl ?_
  intro b3 w4 e5 c6 hb7
  have ge_b3 : w.heap.size ≤ b3 := by rw [e5]; exact HC.size
  replace HC := HC.then c6
  clear e5
  refine Wp rfl <| st_bytesStr T.u54 T.u5 T.u9 rfl (Sl.of_one (c := uE) (x := digC (m % 10)) (D := fun _ => True) hb7 rfl trivial) <| mS rfl <| Wp rfl <| st_sadd rfl rfl (by (have := decT_lenU hn; simp only [List.length_cons, List.length_nil] at *; omega)) <| aS rfl <| en <| x_region rfl <| mI rfl <| Wp rfl <| st_quok rfl rfl (by decide) (by exact quo64 hml) <| aI rfl <| wops_nil <| block_n <| then_n <| ⟨(m / 10, digC (m % 10) :: z), ?_, ?_, rfl, ⟨rfl, rfl, trivial⟩, ?_⟩
  ·refine ⟨?_, HC⟩
   exact ⟨by omega, by rw [hz, decT_big (by omega)]; simp, .inr (by omega)⟩
  ·show m / 10 < m; omega
  repeat (first | exact agree_upds agree_over rfl | refine agree_upd ?_ rfl | refine agree_upds ?_ rfl | refine agree_over_sub ?_ rfl)
 ·try simp only [nm, ne_eq] at h0
  refine x_exit <| then_x <| then_x <| block_x <| then_n <| x_seq ?_
  have hm10 : m < 10 := by omega
  refine x_region rfl <| mI rfl <| Wp rfl <| st_addk rfl rfl (by exact dig64 (by omega)) <| Wp rfl <| st_convk T.u35 T.u5 rfl (by exact dig8 (by omega)) <| Wp rfl <| st_lit (ps := [(0, .tmp 18)]) (vs := [.int _ _]) T.lit54 (by decide) rfl (by simp only [List.forall_mem_cons, List.not_mem_nil, false_imp_iff, implies_true, and_true]; exact rfl) rfl ?_
  intro b8 w9 e10 c11 hb12
  have ge_b8 : w.heap.size ≤ b8 := by rw [e10]; exact HC.size
  replace HC := HC.then c11
  clear e10
  refine Wp rfl <| st_bytesStr T.u54 T.u5 T.u9 rfl (Sl.of_one (c := uE) (x := digC m) (D := fun _ => True) hb12 rfl trivial) <| mS rfl <| Wp rfl <| st_sadd rfl rfl (by (have h9 := congrArg List.length hz; rw [List.length_append] at h9; have := decT_lenU hn; simp only [List.length_cons, List.length_nil] at *; omega)) <| aS rfl <| en <| x_ret <| ret_tmp (v := S _) rfl rfl ?_
  rw [hz, decT_small hm10]
  exact ⟨rfl, HC⟩

theorem RText_spec (n : Int) (h0 : -9223372036854775808 ≤ n) (h1 : n ≤ 9223372036854775807) (w : World) : CallR Tryd.prog 68 #[.int .i64 n] w fun v w' => v = S (textV n) ∧ Chg [] w w' := by
 refine callR_of_wp (args := [_]) Tryd.func68 rfl (Nat.le_of_ble_eq_true rfl) ?_
 have HC : Chg [] w w := .refl _
 refine sr rfl <| aS rfl <| en <| x_seq <| sr rfl <| mI rfl <| Wp rfl <| st_lss rfl rfl <| en <| x_cond rfl (fun h0 => ?_) (fun h0 => ?_)
 ·try simp only [nm, ne_eq] at h0
  have hneg : IntKind.u64.wrap (0 - IntKind.u64.wrap n) = (((-n).toNat : Nat) : Int) := by simp only [IntKind.wrap, IntKind.signed, IntKind.bits]; simp; omega
  refine sr rfl <| mI rfl <| Wp rfl <| st_convInt T.u2 T.u35 rfl <| Wp rfl <| st_neg rfl <| Wp rfl <| st_call (ags := [_]) rfl rfl T.ent85 rfl ((hneg ▸ digits_spec (-n).toNat (by omega) _)) ?_
  rintro _ w1 ⟨rfl, c2⟩
  replace HC := HC.then c2
  refine Wp rfl <| st_sadd rfl rfl (by (have := decT_lenU (n := (-n).toNat) (by omega); simp only [List.length_cons, List.length_nil]; omega)) <| aS rfl <| en <| x_ret <| then_r <| ret_tmp (v := S _) rfl rfl ?_
  unfold textV
  first | rw [if_pos h0] | rw [if_neg h0]
  exact ⟨rfl, HC⟩
 ·try simp only [nm, ne_eq] at h0
  have hpos : IntKind.u64.wrap n = ((n.toNat : Nat) : Int) := by rw [wrapu64_id (by omega) (by omega)]; omega
  refine x_skip <| then_n <| sr rfl <| mI rfl <| Wp rfl <| st_convInt T.u2 T.u35 rfl <| Wp rfl <| st_call (ags := [_]) rfl rfl T.ent85 rfl ((hpos ▸ digits_spec n.toNat (by omega) _)) ?_
  rintro _ w3 ⟨rfl, c4⟩
  replace HC := HC.then c4
  refine aS rfl <| en <| x_ret <| ret_tmp (v := S _) rfl rfl ?_
  unfold textV
  first | rw [if_pos h0] | rw [if_neg h0]
  exact ⟨rfl, HC⟩

theorem rprint_step (n : Nat) (ih : ∀ (t : Tr) (b : Nat) (l : List Nd) (Al : Option Addr) (capl : Nat) (D : Nat → Prop) (w : World), t.sz ≤ n → t.ok → SubAt l t b → Sl ndE w D Al l → b + t.sz ≤ l.length → l.length ≤ 100000 → lightN (t.row b) ≤ 100000 → CallR Tryd.prog 46 #[.slice Al l.length capl, .int .i64 (t.root b)] w fun v w' => v = S (str t) ∧ Chg [] w w')
    (t : Tr) (b : Nat) (l : List Nd) (Al : Option Addr) (capl : Nat) (D : Nat → Prop) (w : World) (hn : t.sz ≤ n + 1) (hok : t.ok) (hsub : SubAt l t b) (hl : Sl ndE w D Al l) (hbl : b + t.sz ≤ l.length) (hll : l.length ≤ 100000) (hli : lightN (t.row b) ≤ 100000) : CallR Tryd.prog 46 #[.slice Al l.length capl, .int .i64 (t.root b)] w fun v w' => v = S (str t) ∧ Chg [] w w' := by
 replace hl := hl.mono (D' := fun k => k < w.heap.size) (fun k hk _ => hk)
 have hnode := sub_node hsub
 have hkids := sub_kid hsub hok
 obtain ⟨hnm, hop3, hasg, hite, hoth, htot⟩ := node_is t b hok
 have hsp := t.sz_pos
 have hk33 : (t.kidsT b).length ≤ 3 := by cases t <;> simp [kidsT]
 refine callR_of_wp (args := [_, _]) Tryd.func46 rfl (Nat.le_of_ble_eq_true rfl) ?_
 have HC : Chg [] w w := .refl _
 refine sr rfl <| aS rfl <| en <| sr rfl <| mL rfl <| mI rfl ?_
 obtain ⟨lb5, _, vs4, hA1, hR3, hC2⟩ := hl.at (i := (b + t.sz - 1)) (x := (t.node b)) (hnode)
 obtain ⟨K6, cK6, rfl, hk1_6, hk2_6, hk3_6⟩ := hR3
 refine Wp rfl <| st_indexAddr T.u39 T.size60 (congrArg (fun z => Value.slice z _ _) hA1) rfl (by unfold Tr.root; omega) (by unfold Tr.root; omega) <| Wp rfl <| st_loadA (vs := [_, _, _, _]) T.agg60 rfl hC2 rfl <| Wp rfl <| st_alloc T.zero60 ?_
 intro b5 w7 e8 c9 hb10
 have ge_b5 : w.heap.size ≤ b5 := by rw [e8]; exact HC.size
 replace HC := HC.then c9
 replace hl := hl.tr0 c9
 replace hk3_6 := hk3_6.tr0 c9
 clear e8
 refine Wp rfl <| st_store (v := .agg ⟨[S _, .int _ _, S _, .slice _ _ _]⟩) T.size60 rfl rfl rfl hb10 rfl (Nat.le_of_ble_eq_true rfl) (by simp [Value.oneCell', S]) rfl ?_
 intro w11 c12 hb13; simp only [setVs, setV] at hb13
 clear hb10
 replace HC := HC.then1 c12 ge_b5
 replace hl := hl.tr c12 (by intro k hx hD; simp only [List.mem_cons, List.mem_nil_iff, or_false] at hx; have hD2 : k < w.heap.size := hD; omega)
 replace hk3_6 := hk3_6.tr c12 (by intro k hx hD; simp only [List.mem_cons, List.mem_nil_iff, or_false] at hx; have hD2 : k < w.heap.size := hD; omega)
 refine en <| sr rfl <| aL rfl <| en <| x_seq <| sr rfl <| aI rfl <| en <| x_block <| x_loop (ι := Nat × List Bytes × Option Addr × Nat) [6, 7, 12, 13, 14, 15, 16, 17, 18, 19, 20, 21, 22, 23, 24, 25, 26, 27, 28] (fun ⟨j, ks, A, cap⟩ => [(7, .int .i64 (j : Int)), (6, .slice A ks.length cap)]) (fun ⟨j, ks, A, cap⟩ W => (j ≤ (t.kidsT b).length ∧ ks = ((t.kidsT b).take j).map (fun c => str c.1)) ∧ (Chg [] w W) ∧ (Sl ndE W (fun k => k < w.heap.size) Al l) ∧ (Blk W b5 [S (t.node b).op, .int .i64 (t.node b).num, S (t.node b).name, .slice K6 (t.node b).kids.length cK6] 60) ∧ (Own sE 9 W (fun k => b5 < k) A cap ks) ∧ (Sl (iE .i64) W (fun k => k < w.heap.size) K6 (t.node b).kids)) (fun ⟨j, ks, A, cap⟩ => (t.kidsT b).length - j) (0, [], none, 0) ?_ ?_ ?_
 · exact ⟨rfl, rfl, trivial⟩
 ·refine ⟨?_, HC, hl, hb13, Own.nil, hk3_6⟩
  exact ⟨Nat.zero_le _, rfl⟩
 intro ⟨j, ks, A, cap⟩ G15 w14 ⟨⟨hj, hks⟩, HC, hl, hb13, ho, hk3_6⟩
 change wp _ _ _ _ _ (upds (over _ _ G15) [(7, .int .i64 (j : Int)), (6, .slice A ks.length cap)]) _ _
 have hkl : (t.node b).kids.length = (t.kidsT b).length := by rw [node_kids, List.length_map]
 have hksl : ks.length = j := by rw [hks, List.length_map, List.length_take]; omega
 refine x_seq <| sr rfl <| mI rfl <| fa T.fld60_3 rfl <| lL T.one58 rfl (hb13.cell rfl) <| Wp rfl <| st_len (ct := #[58]) (by rw [show ((#[58] : Array TypeId)[0]?).bind Tryd.prog.underlying = some (.slice 3) from T.u58]; rfl) rfl <| Wp rfl <| st_lss rfl rfl <| en <| x_cond rfl (fun h0 => ?_) (fun h0 => ?_)
 ·try simp only [nm, ne_eq] at h0
  obtain ⟨cj, hcj⟩ : ∃ c, (t.kidsT b)[j]? = some c := ⟨_, List.getElem?_eq_getElem (by omega)⟩
  obtain ⟨hs1, hs2, hs3, hs4, hs5⟩ := hkids cj (List.mem_of_getElem? hcj)
  have hkj : (t.node b).kids[j]? = some (cj.1.root cj.2) := by rw [node_kids, List.getElem?_map, hcj]; rfl
  have htj := totL_at (k := ((t.kidsT b).map fun c => str c.1)) (i := j) (s := str cj.1) (by rw [List.getElem?_map, hcj]; rfl)
  refine x_skip <| then_n <| x_seq <| x_block <| x_region rfl <| mL rfl <| mL rfl <| fa T.fld60_3 rfl <| lL T.one58 rfl (hb13.cell rfl) <| mI rfl ?_
  obtain ⟨lb20, _, vs19, hA16, hR18, hC17⟩ := hk3_6.at (i := j) (x := (cj.1.root cj.2)) (hkj)
  obtain rfl : vs19 = [.int .i64 (cj.1.root cj.2)] := hR18
  refine Wp rfl <| st_indexAddr T.u58 T.size3 (congrArg (fun z => Value.slice z _ _) hA16) rfl (by omega) (by omega) <| lI T.one3 rfl (hC17.at (j := 0) rfl) <| Wp rfl <| st_call (ags := [_, _]) rfl rfl T.ent46 rfl (ih cj.1 cj.2 l _ _ _ _ (by omega) hs4 hs1 hl (by omega) hll (by omega)) ?_
  rintro _ w21 ⟨rfl, c22⟩
  replace HC := HC.then c22
  replace hl := hl.tr0 c22
  replace hb13 := hb13.tr0 c22
  replace ho := ho.tr0 c22
  replace hk3_6 := hk3_6.tr0 c22
  refine Wp rfl <| st_lit (ps := [(0, .tmp 26)]) (vs := [S _]) T.lit72 (by decide) rfl (by simp only [List.forall_mem_cons, List.not_mem_nil, false_imp_iff, implies_true, and_true]; exact rfl) rfl ?_
  intro b23 w24 e25 c26 hb27
  have ge_b23 : w.heap.size ≤ b23 := by rw [e25]; exact HC.size
  have ne_b5_b23 : b5 ≠ b23 := by rw [e25]; exact hb13.ne_size
  have na_b23 : b23 ∉ ob A := ho.fresh (by rw [e25]; exact Nat.le_refl _)
  replace HC := HC.then c26
  replace hl := hl.tr0 c26
  replace hb13 := hb13.tr0 c26
  replace ho := ho.tr0 c26
  replace hk3_6 := hk3_6.tr0 c26
  clear e25
  have hszA := HC.size
  refine Wp rfl <| st_append2 (c := sE) (D2 := fun _ => False) (xs := ks) (ys := [str cj.1]) T.slice72 rfl rfl ho rfl rfl (one_elem rfl (hb27.cells (n := 1) rfl)) (fun _ _ h => h.elim) (fun k hk => by have := hb13.lt; omega) (by simp only [List.length_cons, List.length_nil]; omega) (by simp only [List.length_cons, List.length_nil]; omega) ?_
  intro A28 cap29 w30 ho31 c32 hg33
  replace HC := HC.trans c32 (fun k hk => .inr ((by have h1 := ho.inD k hk; omega)))
  replace hl := hl.tr c32 (by intro k hx hD; have h1 := ho.inD k hx; omega)
  replace hb13 := hb13.tr c32 (fun hx => by first | (have h1 := ho.inD _ hx; omega) | exact na_b5 hx | exact hav _ hx (by simp))
  replace hk3_6 := hk3_6.tr c32 (by intro k hx hD; have h1 := ho.inD k hx; omega)
  replace hb27 := hb27.tr c32 (fun hx => by first | (have h1 := ho.inD _ hx; omega) | exact na_b23 hx | exact hav _ hx (by simp))
  refine aL rfl <| wops_nil <| block_n <| then_n <| x_region rfl <| mI rfl <| Wp rfl <| st_addn rfl rfl (by constructor <;> omega) <| aI rfl <| en <| ⟨(j + 1, ks ++ [str cj.1], A28, cap29), ?_, ?_, rfl, ⟨rfl, rfl, trivial⟩, ?_⟩
  ·refine ⟨?_, HC, hl, hb13, ho31, hk3_6⟩
   exact ⟨by omega, by rw [hks, List.take_add_one, hcj]; simp⟩
  ·show (t.kidsT b).length - (j + 1) < (t.kidsT b).length - j; omega
  repeat (first | exact agree_upds agree_over rfl | refine agree_upd ?_ rfl | refine agree_upds ?_ rfl | refine agree_over_sub ?_ rfl)
 ·try simp only [nm, ne_eq] at h0
  have hjl : j = (t.kidsT b).length := by omega
  rw [hjl, List.take_length] at hks
  have hklen : ks.length = (t.kidsT b).length := by omega
  have htk : totL ks + (t.node b).name.length + 30 ≤ lightN (t.row b) := by rw [hks]; exact htot
  have hres := rnode_str t b hok
  rw [← hks] at hres
  refine x_exit <| then_x <| then_x <| block_x <| then_n <| x_seq <| x_block <| x_seq ?_
  have hz := ho.sl
  refine x_region rfl <| fa T.fld60_0 rfl <| lS T.one9 rfl (hb13.cell rfl) <| Wp rfl <| st_seql rfl rfl <| aB rfl <| en <| x_cond rfl (fun h1 => ?_) (fun h1 => ?_)
  ·try simp only [nm, ne_eq] at h1
   have htx : textV (t.node b).num = decT (t.node b).num.toNat := by unfold textV; rw [if_neg (by have := (hnm h1).1; omega)]
   refine sr rfl <| fa T.fld60_1 rfl <| lI T.one2 rfl (hb13.cell rfl) <| Wp rfl <| st_call (ags := [_]) rfl rfl T.ent68 rfl (RText_spec _ (by have := hnm h1; omega) (hnm h1).2 _) ?_
   rintro _ w34 ⟨rfl, c35⟩
   replace HC := HC.then c35
   replace hl := hl.tr0 c35
   replace hb13 := hb13.tr0 c35
   replace ho := ho.tr0 c35
   replace hk3_6 := hk3_6.tr0 c35
   replace hz := hz.tr0 c35
   refine aS rfl <| en <| x_ret <| block_r <| then_r <| ret_tmp (v := S _) rfl rfl ?_
   rw [← hres]
   refine ⟨congrArg S ?_, HC⟩
   unfold rnodeT
   rw [if_pos h1]
   first | done | exact htx | rfl
  ·try simp only [nm, ne_eq] at h1
   refine sr rfl <| fa T.fld60_0 rfl <| lS T.one9 rfl (hb13.cell rfl) <| Wp rfl <| st_seql rfl rfl <| aB rfl <| en <| x_cond rfl (fun h2 => ?_) (fun h2 => ?_)
   ·try simp only [nm, ne_eq] at h2
    refine sr rfl <| fa T.fld60_2 rfl <| lS T.one9 rfl (hb13.cell rfl) <| aS rfl <| en <| x_ret <| block_r <| then_r <| ret_tmp (v := S _) rfl rfl ?_
    rw [← hres]
    refine ⟨congrArg S ?_, HC⟩
    unfold rnodeT
    rw [if_neg h1, if_pos h2]
    first | done | exact htx | rfl
   ·try simp only [nm, ne_eq] at h2
    refine sr rfl <| fa T.fld60_0 rfl <| lS T.one9 rfl (hb13.cell rfl) <| Wp rfl <| st_call (ags := [_]) rfl rfl T.ent63 rfl (RAssigns_spec _ _) ?_
    rintro _ w36 ⟨rfl, c37⟩
    replace HC := HC.then c37
    replace hl := hl.tr0 c37
    replace hb13 := hb13.tr0 c37
    replace ho := ho.tr0 c37
    replace hk3_6 := hk3_6.tr0 c37
    replace hz := hz.tr0 c37
    refine aB rfl <| en <| x_cond rfl (fun h3 => ?_) (fun h3 => ?_)
    ·try simp only [nm, ne_eq] at h3
     have hk1 := hasg h3
     refine x_seq ?_
     obtain ⟨e0, hx38⟩ : ∃ zz, ks[0]? = some zz := ⟨_, List.getElem?_eq_getElem (by omega)⟩
     obtain ⟨lb43, _, vs42, hA39, hR41, hC40⟩ := hz.at hx38
     obtain rfl : vs42 = [S e0] := hR41
     refine x_draw [(0, 0), (1, 0), (2, 0), (3, 0), (4, 0), (5, 0), (6, 0), (7, 0), (8, 0), (9, 0), (10, 0), (11, 0)] T.mixed rfl rfl rfl (fun W => W.heap[b5]? = w36.heap[b5]? ∧ W.heap[lb43]? = w36.heap[lb43]? ∧ True) ⟨rfl, rfl, trivial⟩ ?_
     have o46 := hb13
     have c45 := Chg.drew w36
     generalize World.drew w36 = w44 at c45 ⊢
     have ht_lb43 : lb43 < w44.heap.size ∧ w44.heap[lb43]? = w36.heap[lb43]? := ⟨Nat.lt_of_lt_of_le hC40.lt c45.size, c45.block lb43 hC40.lt (by simp)⟩
     replace HC := HC.then c45
     replace hl := hl.tr0 c45
     replace hb13 := hb13.tr0 c45
     replace ho := ho.tr0 c45
     replace hk3_6 := hk3_6.tr0 c45
     replace hz := hz.tr0 c45
     have hel0 := totL_at hx38
     refine sq_q rfl (fun W hT => r_fieldAddr T.fld60_2 rfl) <| sq_q rfl (fun W hT => r_load1 (v := S _) T.one9 rfl (Blk.cell (show Blk W b5 _ _ from hT.1.trans o46) rfl)) <| sq_q rfl (fun W hT => r_sadd rfl rfl (by (simp only [List.length_append, List.length_cons, List.length_nil, List.length_drop]; omega))) <| sq_q rfl (fun W hT => r_fieldAddr T.fld60_0 rfl) <| sq_q rfl (fun W hT => r_load1 (v := S _) T.one9 rfl (Blk.cell (show Blk W b5 _ _ from hT.1.trans o46) rfl)) <| sq_q rfl (fun W hT => r_sadd rfl rfl (by (simp only [List.length_append, List.length_cons, List.length_nil, List.length_drop]; omega))) <| sq_q rfl (fun W hT => r_move (v := .slice _ _ _) rfl) <| sq_q rfl (fun W hT => r_indexAddr T.u72 T.size9 (congrArg (fun z => Value.slice z _ _) hA39) rfl (by omega) (by omega)) <| sq_q rfl (fun W hT => r_load1 (v := S _) T.one9 rfl (Cells.at (j := 0) (Cells.tr hC40 hT.2.1) rfl)) <| sq_q rfl (fun W hT => r_sadd rfl rfl (by (simp only [List.length_append, List.length_cons, List.length_nil, List.length_drop]; omega))) <| sq_q rfl (fun W hT => r_sadd rfl rfl (by (simp only [List.length_append, List.length_cons, List.length_nil, List.length_drop]; omega))) <| sq_q rfl (fun W hT => r_assign (v := S _) rfl) ?_
     clear o46
     refine sq_nil <| then_n <| x_ret <| block_r <| then_r <| ret_tmp (v := S _) rfl rfl ?_
     rw [← hres]
     refine ⟨congrArg S ?_, HC⟩
     unfold rnodeT
     rw [if_neg h1, if_neg h2, if_pos h3]
     first | done | exact htx | rfl | (simp only [getD_at hx38])
    ·try simp only [nm, ne_eq] at h3
     refine sr rfl <| fa T.fld60_0 rfl <| lS T.one9 rfl (hb13.cell rfl) <| Wp rfl <| st_seql rfl rfl <| aB rfl <| en <| x_cond rfl (fun h4 => ?_) (fun h4 => ?_)
     ·try simp only [nm, ne_eq] at h4
      have hk3 := hite h4
      refine x_seq ?_
      obtain ⟨e0, hx47⟩ : ∃ zz, ks[0]? = some zz := ⟨_, List.getElem?_eq_getElem (by omega)⟩
      obtain ⟨lb52, _, vs51, hA48, hR50, hC49⟩ := hz.at hx47
      obtain rfl : vs51 = [S e0] := hR50
      obtain ⟨e1, hx53⟩ : ∃ zz, ks[1]? = some zz := ⟨_, List.getElem?_eq_getElem (by omega)⟩
      obtain ⟨lb58, _, vs57, hA54, hR56, hC55⟩ := hz.at hx53
      obtain rfl : vs57 = [S e1] := hR56
      obtain ⟨e2, hx59⟩ : ∃ zz, ks[2]? = some zz := ⟨_, List.getElem?_eq_getElem (by omega)⟩
      obtain ⟨lb64, _, vs63, hA60, hR62, hC61⟩ := hz.at hx59
      obtain rfl : vs63 = [S e2] := hR62
      refine x_draw [(0, 0), (1, 0), (2, 0), (3, 0), (4, 0), (5, 0), (6, 0), (7, 0), (8, 0), (9, 0), (10, 0), (11, 0), (12, 0), (13, 0), (14, 0), (15, 0)] T.mixed rfl rfl rfl (fun W => W.heap[b5]? = w36.heap[b5]? ∧ W.heap[lb52]? = w36.heap[lb52]? ∧ W.heap[lb58]? = w36.heap[lb58]? ∧ W.heap[lb64]? = w36.heap[lb64]? ∧ True) ⟨rfl, rfl, rfl, rfl, trivial⟩ ?_
      have o67 := hb13
      have c66 := Chg.drew w36
      generalize World.drew w36 = w65 at c66 ⊢
      have ht_lb52 : lb52 < w65.heap.size ∧ w65.heap[lb52]? = w36.heap[lb52]? := ⟨Nat.lt_of_lt_of_le hC49.lt c66.size, c66.block lb52 hC49.lt (by simp)⟩
      have ht_lb58 : lb58 < w65.heap.size ∧ w65.heap[lb58]? = w36.heap[lb58]? := ⟨Nat.lt_of_lt_of_le hC55.lt c66.size, c66.block lb58 hC55.lt (by simp)⟩
      have ht_lb64 : lb64 < w65.heap.size ∧ w65.heap[lb64]? = w36.heap[lb64]? := ⟨Nat.lt_of_lt_of_le hC61.lt c66.size, c66.block lb64 hC61.lt (by simp)⟩
      replace HC := HC.then c66
      replace hl := hl.tr0 c66
      replace hb13 := hb13.tr0 c66
      replace ho := ho.tr0 c66
      replace hk3_6 := hk3_6.tr0 c66
      replace hz := hz.tr0 c66
      have hq := tot3 (n := 3) (by omega) rfl hx47 hx53 hx59
      refine sq_q rfl (fun W hT => r_move (v := .slice _ _ _) rfl) <| sq_q rfl (fun W hT => r_indexAddr T.u72 T.size9 (congrArg (fun z => Value.slice z _ _) hA48) rfl (by omega) (by omega)) <| sq_q rfl (fun W hT => r_load1 (v := S _) T.one9 rfl (Cells.at (j := 0) (Cells.tr hC49 hT.2.1) rfl)) <| sq_q rfl (fun W hT => r_sadd rfl rfl (by (simp only [List.length_append, List.length_cons, List.length_nil, List.length_drop]; omega))) <| sq_q rfl (fun W hT => r_sadd rfl rfl (by (simp only [List.length_append, List.length_cons, List.length_nil, List.length_drop]; omega))) <| sq_q rfl (fun W hT => r_move (v := .slice _ _ _) rfl) <| sq_q rfl (fun W hT => r_indexAddr T.u72 T.size9 (congrArg (fun z => Value.slice z _ _) hA54) rfl (by omega) (by omega)) <| sq_q rfl (fun W hT => r_load1 (v := S _) T.one9 rfl (Cells.at (j := 0) (Cells.tr hC55 hT.2.2.1) rfl)) <| sq_q rfl (fun W hT => r_sadd rfl rfl (by (simp only [List.length_append, List.length_cons, List.length_nil, List.length_drop]; omega))) <| sq_q rfl (fun W hT => r_sadd rfl rfl (by (simp only [List.length_append, List.length_cons, List.length_nil, List.length_drop]; omega))) <| sq_q rfl (fun W hT => r_move (v := .slice _ _ _) rfl) <| sq_q rfl (fun W hT => r_indexAddr T.u72 T.size9 (congrArg (fun z => Value.slice z _ _) hA60) rfl (by omega) (by omega)) <| sq_q rfl (fun W hT => r_load1 (v := S _) T.one9 rfl (Cells.at (j := 0) (Cells.tr hC61 hT.2.2.2.1) rfl)) <| sq_q rfl (fun W hT => r_sadd rfl rfl (by (simp only [List.length_append, List.length_cons, List.length_nil, List.length_drop]; omega))) <| sq_q rfl (fun W hT => r_sadd rfl rfl (by (simp only [List.length_append, List.length_cons, List.length_nil, List.length_drop]; omega))) <| sq_q rfl (fun W hT => r_assign (v := S _) rfl) ?_
      clear o67
      refine sq_nil <| then_n <| x_ret <| block_r <| then_r <| ret_tmp (v := S _) rfl rfl ?_
      rw [← hres]
      refine ⟨congrArg S ?_, HC⟩
      unfold rnodeT
      rw [if_neg h1, if_neg h2, if_neg h3, if_pos h4]
      first | done | exact htx | rfl | (simp only [getD_at hx47, getD_at hx53, getD_at hx59])
     ·try simp only [nm, ne_eq] at h4
      have hk12 := hoth h1 h2 h3 h4
      refine sr rfl <| mL rfl <| Wp rfl <| st_len (ct := #[72]) (by rw [show ((#[72] : Array TypeId)[0]?).bind Tryd.prog.underlying = some (.slice 9) from T.u72]; rfl) rfl <| Wp rfl <| st_eql rfl rfl <| aB rfl <| en <| x_cond rfl (fun h5 => ?_) (fun h5 => ?_)
      ·try simp only [nm, ne_eq] at h5
       refine x_seq ?_
       obtain ⟨e0, hx68⟩ : ∃ zz, ks[0]? = some zz := ⟨_, List.getElem?_eq_getElem (by omega)⟩
       obtain ⟨lb73, _, vs72, hA69, hR71, hC70⟩ := hz.at hx68
       obtain rfl : vs72 = [S e0] := hR71
       refine x_draw [(0, 0), (1, 0), (2, 0), (3, 0), (4, 0), (5, 0), (6, 0), (7, 0), (8, 0), (9, 0)] T.mixed rfl rfl rfl (fun W => W.heap[b5]? = w36.heap[b5]? ∧ W.heap[lb73]? = w36.heap[lb73]? ∧ True) ⟨rfl, rfl, trivial⟩ ?_
       have o76 := hb13
       have c75 := Chg.drew w36
       generalize World.drew w36 = w74 at c75 ⊢
       have ht_lb73 : lb73 < w74.heap.size ∧ w74.heap[lb73]? = w36.heap[lb73]? := ⟨Nat.lt_of_lt_of_le hC70.lt c75.size, c75.block lb73 hC70.lt (by simp)⟩
       replace HC := HC.then c75
       replace hl := hl.tr0 c75
       replace hb13 := hb13.tr0 c75
       replace ho := ho.tr0 c75
       replace hk3_6 := hk3_6.tr0 c75
       replace hz := hz.tr0 c75
       have hel0 := totL_at hx68
       refine sq_q rfl (fun W hT => r_fieldAddr T.fld60_0 rfl) <| sq_q rfl (fun W hT => r_load1 (v := S _) T.one9 rfl (Blk.cell (show Blk W b5 _ _ from hT.1.trans o76) rfl)) <| sq_q rfl (fun W hT => r_sslo (i := 1) T.u9 rfl ⟨_, rfl⟩ (by omega)) <| sq_q rfl (fun W hT => r_sadd rfl rfl (by (simp only [List.length_append, List.length_cons, List.length_nil, List.length_drop]; omega))) <| sq_q rfl (fun W hT => r_move (v := .slice _ _ _) rfl) <| sq_q rfl (fun W hT => r_indexAddr T.u72 T.size9 (congrArg (fun z => Value.slice z _ _) hA69) rfl (by omega) (by omega)) <| sq_q rfl (fun W hT => r_load1 (v := S _) T.one9 rfl (Cells.at (j := 0) (Cells.tr hC70 hT.2.1) rfl)) <| sq_q rfl (fun W hT => r_sadd rfl rfl (by (simp only [List.length_append, List.length_cons, List.length_nil, List.length_drop]; omega))) <| sq_q rfl (fun W hT => r_sadd rfl rfl (by (simp only [List.length_append, List.length_cons, List.length_nil, List.length_drop]; omega))) <| sq_q rfl (fun W hT => r_assign (v := S _) rfl) ?_
       clear o76
       refine sq_nil <| then_n <| x_ret <| block_r <| then_r <| ret_tmp (v := S _) rfl rfl ?_
       rw [← hres]
       refine ⟨congrArg S ?_, HC⟩
       unfold rnodeT
       rw [if_neg h1, if_neg h2, if_neg h3, if_neg h4, if_pos (by omega)]
       first | done | exact htx | rfl | (simp only [getD_at hx68])
      ·try simp only [nm, ne_eq] at h5
       refine x_skip <| block_n <| then_n <| x_seq ?_
       obtain ⟨e0, hx77⟩ : ∃ zz, ks[0]? = some zz := ⟨_, List.getElem?_eq_getElem (by omega)⟩
       obtain ⟨lb82, _, vs81, hA78, hR80, hC79⟩ := hz.at hx77
       obtain rfl : vs81 = [S e0] := hR80
       obtain ⟨e1, hx83⟩ : ∃ zz, ks[1]? = some zz := ⟨_, List.getElem?_eq_getElem (by omega)⟩
       obtain ⟨lb88, _, vs87, hA84, hR86, hC85⟩ := hz.at hx83
       obtain rfl : vs87 = [S e1] := hR86
       refine x_draw [(0, 0), (1, 0), (2, 0), (3, 0), (4, 0), (5, 0), (6, 0), (7, 0), (8, 0), (9, 0), (10, 0), (11, 0), (12, 0)] T.mixed rfl rfl rfl (fun W => W.heap[b5]? = w36.heap[b5]? ∧ W.heap[lb82]? = w36.heap[lb82]? ∧ W.heap[lb88]? = w36.heap[lb88]? ∧ True) ⟨rfl, rfl, rfl, trivial⟩ ?_
       have o91 := hb13
       have c90 := Chg.drew w36
       generalize World.drew w36 = w89 at c90 ⊢
       have ht_lb82 : lb82 < w89.heap.size ∧ w89.heap[lb82]? = w36.heap[lb82]? := ⟨Nat.lt_of_lt_of_le hC79.lt c90.size, c90.block lb82 hC79.lt (by simp)⟩
       have ht_lb88 : lb88 < w89.heap.size ∧ w89.heap[lb88]? = w36.heap[lb88]? := ⟨Nat.lt_of_lt_of_le hC85.lt c90.size, c90.block lb88 hC85.lt (by simp)⟩
       replace HC := HC.then c90
       replace hl := hl.tr0 c90
       replace hb13 := hb13.tr0 c90
       replace ho := ho.tr0 c90
       replace hk3_6 := hk3_6.tr0 c90
       replace hz := hz.tr0 c90
       have hel0 := totL_at hx77
       have hel1 := totL_at hx83
       refine sq_q rfl (fun W hT => r_move (v := .slice _ _ _) rfl) <| sq_q rfl (fun W hT => r_indexAddr T.u72 T.size9 (congrArg (fun z => Value.slice z _ _) hA78) rfl (by omega) (by omega)) <| sq_q rfl (fun W hT => r_load1 (v := S _) T.one9 rfl (Cells.at (j := 0) (Cells.tr hC79 hT.2.1) rfl)) <| sq_q rfl (fun W hT => r_sadd rfl rfl (by (simp only [List.length_append, List.length_cons, List.length_nil, List.length_drop]; omega))) <| sq_q rfl (fun W hT => r_fieldAddr T.fld60_0 rfl) <| sq_q rfl (fun W hT => r_load1 (v := S _) T.one9 rfl (Blk.cell (show Blk W b5 _ _ from hT.1.trans o91) rfl)) <| sq_q rfl (fun W hT => r_sadd rfl rfl (by (simp only [List.length_append, List.length_cons, List.length_nil, List.length_drop]; omega))) <| sq_q rfl (fun W hT => r_move (v := .slice _ _ _) rfl) <| sq_q rfl (fun W hT => r_indexAddr T.u72 T.size9 (congrArg (fun z => Value.slice z _ _) hA84) rfl (by omega) (by omega)) <| sq_q rfl (fun W hT => r_load1 (v := S _) T.one9 rfl (Cells.at (j := 0) (Cells.tr hC85 hT.2.2.1) rfl)) <| sq_q rfl (fun W hT => r_sadd rfl rfl (by (simp only [List.length_append, List.length_cons, List.length_nil, List.length_drop]; omega))) <| sq_q rfl (fun W hT => r_sadd rfl rfl (by (simp only [List.length_append, List.length_cons, List.length_nil, List.length_drop]; omega))) <| sq_q rfl (fun W hT => r_assign (v := S _) rfl) ?_
       clear o91
       refine sq_nil <| then_n <| x_ret <| ret_tmp (v := S _) rfl rfl ?_
       rw [← hres]
       refine ⟨congrArg S ?_, HC⟩
       unfold rnodeT
       rw [if_neg h1, if_neg h2, if_neg h3, if_neg h4, if_neg (by omega)]
       first | done | exact htx | rfl | (simp only [getD_at hx77, getD_at hx83])

theorem rprint_spec : ∀ (n : Nat) (t : Tr) (b : Nat) (l : List Nd) (Al : Option Addr) (capl : Nat) (D : Nat → Prop) (w : World), t.sz ≤ n → t.ok → SubAt l t b → Sl ndE w D Al l → b + t.sz ≤ l.length → l.length ≤ 100000 → lightN (t.row b) ≤ 100000 → CallR Tryd.prog 46 #[.slice Al l.length capl, .int .i64 (t.root b)] w fun v w' => v = S (str t) ∧ Chg [] w w'
  | 0, t, b, l, Al, capl, D, w, hn, _, _, _, _, _, _ => by have := t.sz_pos; omega
  | n + 1, t, b, l, Al, capl, D, w, hn, h1, h2, h3, h4, h5, h6 => rprint_step n (rprint_spec n) t b l Al capl D w hn h1 h2 h3 h4 h5 h6

theorem RPrint_spec {l : List Nd} {Al : Option Addr} {capl : Nat} {D : Nat → Prop} {w : World} (hl : Sl ndE w D Al l) (hfit : fitV l = true) (hlight : lightN l ≤ 100000) (hlen : l.length ≤ 100000) (hnum : ∀ x, x ∈ l → x.num ≤ 9223372036854775807 ∧ x.name.length ≤ 140737488355328) :
    CallR Tryd.prog 27 #[.slice Al l.length capl] w fun v w' => v = S (printV l) ∧ Chg [] w w' := by
 obtain ⟨t, hok, rfl, hsz⟩ := fitV_tree hnum hfit
 have hrl := Tr.row_len t 0
 have hsp := t.sz_pos
 refine callR_of_wp (args := [_]) Tryd.func27 rfl (Nat.le_of_ble_eq_true rfl) ?_
 have HC : Chg [] w w := .refl _
 refine sr rfl <| aS rfl <| en <| sr rfl <| mL rfl <| mL rfl <| Wp rfl <| st_len (ct := #[39]) (by rw [show ((#[39] : Array TypeId)[0]?).bind Tryd.prog.underlying = some (.slice 60) from T.u39]; rfl) rfl <| Wp rfl <| st_subk rfl rfl (by exact (show _ = t.root 0 by rw [hrl, wrap64_id (by omega) (by omega)]; unfold Tr.root; omega)) <| Wp rfl <| st_call (ags := [_, _]) rfl rfl T.ent46 rfl (rprint_spec t.sz t 0 (t.row 0) _ _ D _ (Nat.le_refl _) hok (fun j x hj => by rw [Nat.zero_add]; exact hj) hl (by omega) (by omega) hlight) ?_
 rintro _ w1 ⟨rfl, c2⟩
 replace HC := HC.then c2
 refine aS rfl <| en <| x_ret <| ret_tmp (v := S _) rfl rfl ?_
 rw [printV_tree hok]
 exact ⟨rfl, HC⟩

theorem AtreeParses_spec {l : List Nd} {Al : Option Addr} {capl : Nat} {D : Nat → Prop} (s : Bytes) {w : World} (hs : s.length ≤ 140737488355328) (hl : Sl ndE w D Al l) (hK : ∀ x, x ∈ l → x.kids.length ≤ 140737488355328 ∧ x.name.length ≤ 140737488355328) (hlen : l.length ≤ 140737488355328) (hnum : ∀ x, x ∈ l → x.num ≤ 9223372036854775807) (ht : Tab w) : CallR Tryd.prog 7 #[S s, .slice Al l.length capl] w fun v w' => v = .bool true ∧ Chg [] w w' := by
 replace hl := hl.mono (D' := fun k => k < w.heap.size) (fun k hk _ => hk)
 refine callR_of_wp (args := [_, _]) Tryd.func7 rfl (Nat.le_of_ble_eq_true rfl) ?_
 have HC : Chg [] w w := .refl _
 have ht1 := ht.lt
 refine sr rfl <| aB rfl <| en <| x_seq <| sr rfl <| mS rfl <| Wp rfl <| st_slen (ct := #[9]) T.u9 rfl <| Wp rfl <| st_gtr rfl rfl <| mB rfl <| w_split (d := 14) rfl (fun g1 => ?_) (fun g1 => ?_)
 ·try simp only [nm, ne_eq] at g1
  iterate 3 refine w_no 3 14 false ?_
  refine pT rfl rfl <| en <| x_cond (t := true) rfl (fun h0 => ?_) (fun h0 => ?_)
  rotate_left
  · exact absurd h0 (by decide)
  refine sr rfl <| Wp rfl <| st_call (ags := []) rfl rfl T.ent20 rfl (awake3_spec _ ht) ?_
  rintro _ w2 ⟨rfl, c3⟩
  replace HC := HC.then c3
  replace hl := hl.tr0 c3
  replace ht := ht.tr0 c3
  refine aB rfl <| en <| x_ret <| then_r <| ret_tmp (v := .bool _) rfl rfl ?_
  first | exact ⟨rfl, HC⟩ | (exfalso; simp_all; done)
 ·try simp only [nm, ne_eq] at g1
  refine w_yes 3 14 false <| st_move (v := .slice _ _ _) rfl <| w_yes 3 14 false <| st_call (ags := [_]) rfl rfl T.ent19 rfl (few_spec hl hK hlen) ?_
  rintro _ w4 ⟨rfl, c5⟩
  replace HC := HC.then c5
  replace hl := hl.tr0 c5
  replace ht := ht.tr0 c5
  refine w_yes 3 14 false <| st_not rfl <| pF rfl rfl <| en <| x_cond rfl (fun h0 => ?_) (fun h0 => ?_)
  ·try simp only [nm, ne_eq] at h0
   refine sr rfl <| Wp rfl <| st_call (ags := []) rfl rfl T.ent20 rfl (awake3_spec _ ht) ?_
   rintro _ w6 ⟨rfl, c7⟩
   replace HC := HC.then c7
   replace hl := hl.tr0 c7
   replace ht := ht.tr0 c7
   refine aB rfl <| en <| x_ret <| then_r <| ret_tmp (v := .bool _) rfl rfl ?_
   first | exact ⟨rfl, HC⟩ | (exfalso; simp_all; done)
  ·try simp only [nm, ne_eq] at h0
   refine x_skip <| then_n <| sr rfl <| mS rfl <| Wp rfl <| st_call (ags := [_]) rfl rfl T.ent21 rfl (Parse_spec (L := toksF ((s).length + 1) (s) 0) (s) _ rfl (by omega) ht) ?_
   rintro _ w8 ⟨A1, cap1, rfl, ho1, c9⟩
   have hs1 := ho1.sl.mono (D' := fun k => w.heap.size ≤ k) (fun k _ h => by have := HC.size; omega)
   replace HC := HC.then c9
   replace hl := hl.tr0 c9
   replace ht := ht.tr0 c9
   refine mv (v := .tuple ⟨[_, _, _]⟩) rfl <| Wp rfl <| st_extract (vs := [_, _, _]) (v := .slice _ _ _) rfl rfl <| Wp rfl <| st_extract (vs := [_, _, _]) (v := .int _ _) rfl rfl <| Wp rfl <| st_extract (vs := [_, _, _]) (v := .int _ _) rfl rfl <| aL rfl <| aI rfl <| aI rfl <| en <| sr rfl <| mS rfl <| Wp rfl <| st_call (ags := [_]) rfl rfl T.ent22 rfl (RParse_spec (L := toksF (s.length + 1) s 0) s _ rfl (by omega)) ?_
   rintro _ w10 ⟨A2, cap2, rfl, ho2, c11⟩
   have hs2 := ho2.sl.mono (D' := fun k => w.heap.size ≤ k) (fun k _ h => by have := HC.size; omega)
   have hpl : (parseV s (toksF (s.length + 1) s 0)).1.length ≤ 140737488355328 := by rcases parse_tree hs rfl with h | ⟨_, t, _, h3, h4⟩; rw [h.2]; simp; rw [h4, Tr.row_len]; omega
   replace HC := HC.then c11
   replace hl := hl.tr0 c11
   replace ht := ht.tr0 c11
   replace hs1 := hs1.tr0 c11
   refine mv (v := .tuple ⟨[_, _, _]⟩) rfl <| Wp rfl <| st_extract (vs := [_, _, _]) (v := .slice _ _ _) rfl rfl <| Wp rfl <| st_extract (vs := [_, _, _]) (v := .int _ _) rfl rfl <| Wp rfl <| st_extract (vs := [_, _, _]) (v := .int _ _) rfl rfl <| aL rfl <| aI rfl <| aI rfl <| en <| x_seq <| sr rfl <| mL rfl <| mL rfl <| Wp rfl <| st_call (ags := [_, _]) rfl rfl T.ent23 rfl (RSameN_spec hs1 hs2 hpl) ?_
   rintro _ w12 ⟨rfl, c13⟩
   replace HC := HC.then c13
   replace hl := hl.tr0 c13
   replace ht := ht.tr0 c13
   replace hs1 := hs1.tr0 c13
   replace hs2 := hs2.tr0 c13
   refine Wp rfl <| st_not rfl <| mB rfl <| w_split (d := 36) rfl (fun g14 => ?_) (fun g14 => ?_)
   ·try simp only [nm, ne_eq] at g14
    iterate 3 refine w_no 4 36 false ?_
    refine pT rfl rfl <| mB rfl ?_
    iterate 3 refine w_no 9 41 false ?_
    refine pT rfl rfl <| en <| x_cond (t := true) rfl (fun h1 => ?_) (fun h1 => ?_)
    rotate_left
    · exact absurd h1 (by decide)
    refine sr rfl <| aB rfl <| en <| x_ret <| then_r <| ret_tmp (v := .bool _) rfl rfl ?_
    first | exact ⟨rfl, HC⟩ | (exfalso; simp_all; done)
   ·try simp only [nm, ne_eq] at g14
    refine w_yes 4 36 false <| st_move (v := .int _ _) rfl <| w_yes 4 36 false <| st_move (v := .int _ _) rfl <| w_yes 4 36 false <| st_neq rfl rfl <| pF rfl rfl <| mB rfl <| w_split (d := 41) rfl (fun g15 => ?_) (fun g15 => ?_)
    ·try simp only [nm, ne_eq] at g15
     iterate 3 refine w_no 9 41 false ?_
     refine pT rfl rfl <| en <| x_cond (t := true) rfl (fun h1 => ?_) (fun h1 => ?_)
     rotate_left
     · exact absurd h1 (by decide)
     refine sr rfl <| aB rfl <| en <| x_ret <| then_r <| ret_tmp (v := .bool _) rfl rfl ?_
     first | exact ⟨rfl, HC⟩ | (exfalso; simp_all; done)
    ·try simp only [nm, ne_eq] at g15
     refine w_yes 9 41 false <| st_move (v := .int _ _) rfl <| w_yes 9 41 false <| st_move (v := .int _ _) rfl <| w_yes 9 41 false <| st_neq rfl rfl <| pF rfl rfl <| en <| x_cond rfl (fun h1 => ?_) (fun h1 => ?_)
     ·try simp only [nm, ne_eq] at h1
      refine sr rfl <| aB rfl <| en <| x_ret <| then_r <| ret_tmp (v := .bool _) rfl rfl ?_
      first | exact ⟨rfl, HC⟩ | (exfalso; simp_all; done)
     ·try simp only [nm, ne_eq] at h1
      refine x_skip <| then_n <| sr rfl <| mL rfl <| Wp rfl <| st_call (ags := [_]) rfl rfl T.ent24 rfl (RFit_spec hl hK hlen) ?_
      rintro _ w16 ⟨rfl, c17⟩
      replace HC := HC.then c17
      replace hl := hl.tr0 c17
      replace ht := ht.tr0 c17
      replace hs1 := hs1.tr0 c17
      replace hs2 := hs2.tr0 c17
      refine Wp rfl <| st_not rfl <| mB rfl <| w_split (d := 49) rfl (fun g18 => ?_) (fun g18 => ?_)
      ·try simp only [nm, ne_eq] at g18
       iterate 3 refine w_no 3 49 false ?_
       refine pT rfl rfl <| mB rfl ?_
       iterate 5 refine w_no 8 54 false ?_
       refine pT rfl rfl <| mB rfl <| w_yes 15 61 true <| st_call (ags := []) rfl rfl T.ent20 rfl (awake3_spec _ ht) ?_
       rintro _ w19 ⟨rfl, c20⟩
       replace HC := HC.then c20
       replace hl := hl.tr0 c20
       replace ht := ht.tr0 c20
       replace hs1 := hs1.tr0 c20
       replace hs2 := hs2.tr0 c20
       refine pT rfl rfl <| aB rfl <| en <| x_ret <| ret_tmp (v := .bool _) rfl rfl ?_
       first | exact ⟨rfl, HC⟩ | (exfalso; simp_all; done)
      ·try simp only [nm, ne_eq] at g18
       refine w_yes 3 49 false <| st_move (v := .slice _ _ _) rfl <| w_yes 3 49 false <| st_call (ags := [_]) rfl rfl T.ent25 rfl (light_spec hl (light_few hK (few_len (by assumption))) hlen) ?_
       rintro _ w21 ⟨rfl, c22⟩
       replace HC := HC.then c22
       replace hl := hl.tr0 c22
       replace ht := ht.tr0 c22
       replace hs1 := hs1.tr0 c22
       replace hs2 := hs2.tr0 c22
       refine w_yes 3 49 false <| st_not rfl <| pF rfl rfl <| mB rfl <| w_split (d := 54) rfl (fun g23 => ?_) (fun g23 => ?_)
       ·try simp only [nm, ne_eq] at g23
        iterate 5 refine w_no 8 54 false ?_
        refine pT rfl rfl <| mB rfl <| w_yes 15 61 true <| st_call (ags := []) rfl rfl T.ent20 rfl (awake3_spec _ ht) ?_
        rintro _ w24 ⟨rfl, c25⟩
        replace HC := HC.then c25
        replace hl := hl.tr0 c25
        replace ht := ht.tr0 c25
        replace hs1 := hs1.tr0 c25
        replace hs2 := hs2.tr0 c25
        refine pT rfl rfl <| aB rfl <| en <| x_ret <| ret_tmp (v := .bool _) rfl rfl ?_
        first | exact ⟨rfl, HC⟩ | (exfalso; simp_all; done)
       ·try simp only [nm, ne_eq] at g23
        refine w_yes 8 54 false <| st_move (v := .slice _ _ _) rfl <| w_yes 8 54 false <| st_call (ags := [_]) rfl rfl T.ent26 rfl (Print_spec hl (by first | assumption | simp_all) (by first | omega | simp_all) hnum) ?_
        rintro _ w26 ⟨rfl, c27⟩
        replace HC := HC.then c27
        replace hl := hl.tr0 c27
        replace ht := ht.tr0 c27
        replace hs1 := hs1.tr0 c27
        replace hs2 := hs2.tr0 c27
        refine w_yes 8 54 false <| st_move (v := .slice _ _ _) rfl <| w_yes 8 54 false <| st_call (ags := [_]) rfl rfl T.ent27 rfl (RPrint_spec hl (by first | assumption | simp_all) (by first | omega | simp_all) (by have := few_len (l := l) (by assumption); omega) (fun x hx => ⟨hnum x hx, (hK x hx).2⟩)) ?_
        rintro _ w28 ⟨rfl, c29⟩
        replace HC := HC.then c29
        replace hl := hl.tr0 c29
        replace ht := ht.tr0 c29
        replace hs1 := hs1.tr0 c29
        replace hs2 := hs2.tr0 c29
        refine w_yes 8 54 false <| st_seql rfl rfl <| pF rfl rfl <| mB rfl <| w_split (d := 61) rfl (fun g30 => ?_) (fun g30 => ?_)
        ·try simp only [nm, ne_eq] at g30
         refine w_yes 15 61 true <| st_call (ags := []) rfl rfl T.ent20 rfl (awake3_spec _ ht) ?_
         rintro _ w31 ⟨rfl, c32⟩
         replace HC := HC.then c32
         replace hl := hl.tr0 c32
         replace ht := ht.tr0 c32
         replace hs1 := hs1.tr0 c32
         replace hs2 := hs2.tr0 c32
         refine pT rfl rfl <| aB rfl <| en <| x_ret <| ret_tmp (v := .bool _) rfl rfl ?_
         first | exact ⟨rfl, HC⟩ | (exfalso; simp_all; done)
        ·try simp only [nm, ne_eq] at g30
         refine w_no 15 61 true <| pF rfl rfl <| aB rfl <| en <| x_ret <| ret_tmp (v := .bool _) rfl rfl ?_
         first | exact ⟨rfl, HC⟩ | (exfalso; simp_all; done)

end Go.Proofs.YtcgcbpknbjafcaaDoor.K
