/- Walks: the row of tokens. -/
import Derived.Test.YtmbbhgglllfelaaGreatDoorBd
import Derived.Test.YtmbbhgglllfelaaGreatDoorKitQ
set_option linter.unusedVariables false
set_option linter.unusedSimpArgs false
set_option autoImplicit false
set_option maxRecDepth 20000
namespace Go.Proofs.YtmbbhgglllfelaaGreatDoor.K
open Go Go.Proofs Go.RowKit

/-- A token and its place. -/
abbrev Tk := (Int × Int × Bytes) × Int
def tkE : Enc Tk := .flat 4 (fun x => tokC x.1 x.2) (by omega) (fun _ => rfl) (fun _ u hu => by simp [tokC] at hu; rcases hu with rfl | rfl | rfl | rfl <;> rfl)
def toTk (y : Yd) : Tk := (y.1, y.2.1)
def errV (y : Yd) : Bool := !decide (y.2.2 = 0)
def tokV (L : List Yd) : List Tk × Int × Int := match L.find? errV with
  | some y => ([], y.2.1, y.2.2)
  | none => (L.map toTk, 0, 0)
theorem toksF_len : ∀ (k : Nat) (s : Bytes) (i : Nat), (toksF k s i).length ≤ k
  | 0, _, _ => by simp [toksF]
  | k + 1, s, i => by
    rw [toksF_succ]
    split
    · simp
    · have := toksF_len k s (atV s i + (nextV (s.drop (atV s i))).2.1.toNat)
      simp only [List.length_cons]; omega
theorem find_first {L pre rest : List Yd} {y : Yd} (h : L = pre ++ y :: rest) (hp : ∀ z, z ∈ pre → z.2.2 = 0) (hy : ¬ y.2.2 = 0) : L.find? errV = some y := by
  subst h
  rw [List.find?_append, List.find?_eq_none.2 (fun z hz => by simp [errV, hp z hz])]
  simp [errV, hy]
theorem find_none {L : List Yd} (h : ∀ z, z ∈ L → z.2.2 = 0) : L.find? errV = none := List.find?_eq_none.2 (fun z hz => by simp [errV, h z hz])

theorem tokens_spec (s : Bytes) (w : World) : CallR Tryz.prog 42 #[S s] w fun v w' => ∃ bt, v = .func (.func 58) #[] #[.pointer (some ⟨bt, 0, none⟩)] ∧ w.heap.size ≤ bt ∧ Blk w' bt [S s] 9 ∧ Chg [] w w' := by
 refine callR_of_wp (args := [_]) Tryz.func42 rfl (Nat.le_of_ble_eq_true rfl) ?_
 have HC : Chg [] w w := .refl _
 refine sr rfl <| Wp rfl <| st_box (v := S _) (vs := [_]) rfl rfl ?_
 intro bt w1 e2 c3 hb4
 have ge_bt : w.heap.size ≤ bt := by rw [e2]; exact HC.size
 replace HC := HC.then c3
 clear e2
 refine av (v := .nilFunc) rfl <| en <| sr rfl <| Wp rfl <| st_makeFunc <| av (v := .func _ _ _) rfl <| en <| x_ret <| ret_tmp (v := .func _ _ _) rfl rfl ?_
 exact ⟨bt, rfl, ge_bt, hb4, HC⟩

theorem Tokens_spec {L : List Yd} (s : Bytes) (w : World) (hL : toksF (s.length + 1) s 0 = L) (hs : s.length ≤ 1000000000) (ht : Tab w) : CallR Tryz.prog 21 #[S s] w fun v w' => ∃ A cap, v = .tuple ⟨[.slice A (tokV L).1.length cap, .int .i64 (tokV L).2.1, .int .i64 (tokV L).2.2]⟩ ∧ Own tkE 60 w' (fun k => w.heap.size ≤ k) A cap (tokV L).1 ∧ Chg [] w w' := by
 refine callR_of_wpM (args := [_]) Tryz.func21 rfl (Nat.le_of_ble_eq_true rfl) ?_
 have HC : Chg [] w w := .refl _
 have hM : Marks w.heap.size [] w := trivial
 have ht1 := ht.lt
 refine sr rfl <| aL rfl <| aI rfl <| aI rfl <| en <| x_scope <| sr rfl <| Wp rfl <| st_alloc T.zero52 ?_
 intro b5 w1 e2 c3 hb4
 have ge_b5 : w.heap.size ≤ b5 := by rw [e2]; exact HC.size
 have nm_b5 : b5 ∉ mb [] := fun hx => by have := (hM.lt _ hx).2; omega
 replace HC := HC.then c3
 replace ht := ht.tr0 c3
 replace hM := hM.tr c3 (by simp)
 clear e2
 refine en <| sr rfl <| Wp rfl <| st_alloc T.zero3 ?_
 intro b6 w5 e6 c7 hb8
 have ge_b6 : w.heap.size ≤ b6 := by rw [e6]; exact HC.size
 have ne_b5_b6 : Hid (b5 ≠ b6) := by rw [e6]; exact hb4.ne_size
 have nm_b6 : b6 ∉ mb [] := fun hx => by have := (hM.lt _ hx).2; omega
 replace HC := HC.then c7
 replace ht := ht.tr0 c7
 replace hM := hM.tr c7 (by simp)
 replace hb4 := hb4.tr0 c7
 clear e6
 refine Wp rfl <| st_alloc T.zero25 ?_
 intro b7 w9 e10 c11 hb12
 have ge_b7 : w.heap.size ≤ b7 := by rw [e10]; exact HC.size
 have ne_b5_b7 : Hid (b5 ≠ b7) := by rw [e10]; exact hb4.ne_size
 have ne_b6_b7 : Hid (b6 ≠ b7) := by rw [e10]; exact hb8.ne_size
 have nm_b7 : b7 ∉ mb [] := fun hx => by have := (hM.lt _ hx).2; omega
 replace HC := HC.then c11
 replace ht := ht.tr0 c11
 replace hM := hM.tr c11 (by simp)
 replace hb4 := hb4.tr0 c11
 replace hb8 := hb8.tr0 c11
 clear e10
 refine Wp rfl <| st_store (v := .int _ _) T.size3 rfl rfl rfl hb8 rfl (Nat.le_of_ble_eq_true rfl) (by simp [Value.oneCell', S]) rfl ?_
 intro w13 c14 hb15; simp only [setVs, setV] at hb15
 clear hb8
 replace HC := HC.then1 c14 ge_b6
 replace ht := ht.tr c14 (by intro hx; have := ht.lt; have := ht1; simp only [List.mem_cons, List.mem_nil_iff, or_false] at hx; omega)
 replace hM := hM.tr c14 (by intro k hk hx; have hlo := (hM.lt k hk).1; simp only [List.mem_singleton] at hx; subst hx; first | exact nm_b6 hk | omega)
 replace hb4 := hb4.tr1 c14 ne_b5_b6
 replace hb12 := hb12.tr1 c14 (Ne.symm ne_b6_b7)
 refine Wp rfl <| st_store (v := .int _ _) T.size25 rfl rfl rfl hb12 rfl (Nat.le_of_ble_eq_true rfl) (by simp [Value.oneCell', S]) rfl ?_
 intro w16 c17 hb18; simp only [setVs, setV] at hb18
 clear hb12
 replace HC := HC.then1 c17 ge_b7
 replace ht := ht.tr c17 (by intro hx; have := ht.lt; have := ht1; simp only [List.mem_cons, List.mem_nil_iff, or_false] at hx; omega)
 replace hM := hM.tr c17 (by intro k hk hx; have hlo := (hM.lt k hk).1; simp only [List.mem_singleton] at hx; subst hx; first | exact nm_b7 hk | omega)
 replace hb4 := hb4.tr1 c17 ne_b5_b7
 replace hb15 := hb15.tr1 c17 ne_b6_b7
 refine en <| x_seq <| x_label <| then_n <| x_seq <| sr rfl <| mS rfl <| Wp rfl <| st_call (ags := [_]) rfl rfl T.ent42 rfl (tokens_spec _ _) ?_
 rintro _ w19 ⟨bt, rfl, hgt, hbt, c20⟩
 have ge_bt : w.heap.size ≤ bt := Nat.le_trans HC.size hgt
 have ne_b5_bt : Hid (b5 ≠ bt) := Nat.ne_of_lt (Nat.lt_of_lt_of_le hb4.lt hgt)
 have ne_b6_bt : Hid (b6 ≠ bt) := Nat.ne_of_lt (Nat.lt_of_lt_of_le hb15.lt hgt)
 have ne_b7_bt : Hid (b7 ≠ bt) := Nat.ne_of_lt (Nat.lt_of_lt_of_le hb18.lt hgt)
 have nm_bt : bt ∉ mb [] := fun hx => by have := (hM.lt _ hx).2; omega
 replace HC := HC.then c20
 replace ht := ht.tr0 c20
 replace hM := hM.tr c20 (by simp)
 replace hb4 := hb4.tr0 c20
 replace hb15 := hb15.tr0 c20
 replace hb18 := hb18.tr0 c20
 refine en <| x_block <| x_range2 (bs := []) (K := (fun k => k = bt ∨ k = 0)) (ps := [12, 13]) (encs := yE) (xs := L) rfl T.ent58 rfl (fun _ => rfl) (by simp) (by intro k hk; rcases hk with h | h <;> (rw [h]; first | exact hbt.lt | exact ht.lt)) (tokens_iter hL hbt ht (.inl rfl) (.inr rfl) (by omega)) ?_
 intro DD lp w21 hD1 hD2 hD3 hD4 hD5 c22
 have hszlp := HC.size
 have ge_DD : w.heap.size ≤ DD := by omega
 have ne_b5_DD : Hid (b5 ≠ DD) := by show _ ≠ _; have := hb4.lt; omega
 have ne_b6_DD : Hid (b6 ≠ DD) := by show _ ≠ _; have := hb15.lt; omega
 have ne_b7_DD : Hid (b7 ≠ DD) := by show _ ≠ _; have := hb18.lt; omega
 have ne_bt_DD : Hid (bt ≠ DD) := by show _ ≠ _; have := hbt.lt; omega
 have nm_DD : DD ∉ mb [] := fun hx => by have := (hM.lt _ hx).2; omega
 have ge_lp : w.heap.size ≤ lp := by omega
 have ne_b5_lp : Hid (b5 ≠ lp) := by show _ ≠ _; have := hb4.lt; omega
 have ne_b6_lp : Hid (b6 ≠ lp) := by show _ ≠ _; have := hb15.lt; omega
 have ne_b7_lp : Hid (b7 ≠ lp) := by show _ ≠ _; have := hb18.lt; omega
 have ne_bt_lp : Hid (bt ≠ lp) := by show _ ≠ _; have := hbt.lt; omega
 have nm_lp : lp ∉ mb [] := fun hx => by have := (hM.lt _ hx).2; omega
 replace HC := HC.then c22
 replace ht := ht.tr0 c22
 replace hM := hM.tr c22 (by simp)
 replace hb4 := hb4.tr0 c22
 replace hb15 := hb15.tr0 c22
 replace hb18 := hb18.tr0 c22
 replace hbt := hbt.tr0 c22
 refine ⟨fun pre W => ∃ (A : Option Addr), ∃ (cap : Nat), (∀ z, z ∈ pre → z.2.2 = 0) ∧ (Chg [] w W) ∧ (Tab W) ∧ (Marks w.heap.size [] W) ∧ (Blk W bt [S s] 9) ∧ (DD < W.heap.size) ∧ (lp < W.heap.size) ∧ (Own tkE 60 W (fun k => w.heap.size ≤ k ∧ k ≠ b5 ∧ k ≠ b6 ∧ k ≠ b7 ∧ k ≠ bt ∧ k ≠ lp ∧ k ≠ DD) A cap ((pre).map toTk)) ∧ (Blk W b5 [.slice A ((pre).map toTk).length cap] 52) ∧ (Blk W b6 [.int .i64 0] 3) ∧ (Blk W b7 [.int .i64 0] 25), fun c pre W => (c = Code.exit 0 ∧ ∃ (z : Yd), (L.find? errV = some z) ∧ (Chg [] w W) ∧ (Tab W) ∧ (Marks w.heap.size [] W) ∧ (Blk W bt [S s] 9) ∧ (DD < W.heap.size) ∧ (lp < W.heap.size) ∧ (Blk W b5 [.slice none 0 0] 52) ∧ (Blk W b6 [.int .i64 z.2.1] 3) ∧ (Blk W b7 [.int .i64 z.2.2] 25)), ⟨none, 0, (fun _ h => by cases h), HC, ht, hM, hbt, hD4, hD5, Own.nil, hb4, hb15, hb18⟩, ?_, ?_, ?_, ?_, ?_⟩
 ·rintro pre Wa Wb ⟨A, cap, hU, HC, ht, hM, hbt, hD4, hD5, ho, hb5, hb6, hb7⟩ cL
  replace HC := HC.then1 cL ge_lp
  replace ht := ht.tr cL (by intro hx; have := ht.lt; have := ht1; simp only [List.mem_cons, List.mem_nil_iff, or_false] at hx; omega)
  replace hM := hM.tr cL (by intro k hk hx; have hlo := (hM.lt k hk).1; simp only [List.mem_singleton] at hx; subst hx; first | exact nm_lp hk | omega)
  replace hbt := hbt.tr1 cL ne_bt_lp
  replace hD4 := Nat.lt_of_lt_of_le hD4 cL.size
  replace hD5 := Nat.lt_of_lt_of_le hD5 cL.size
  replace ho := ho.trF flat_flat cL (by intro k hk hx; simp only [List.mem_cons, List.mem_nil_iff, or_false] at hx; obtain rfl := hx; first | exact na_lp hk | exact absurd (ho.inD _ hk) (by simp))
  replace hb5 := hb5.tr1 cL ne_b5_lp
  replace hb6 := hb6.tr1 cL ne_b6_lp
  replace hb7 := hb7.tr1 cL ne_b7_lp
  exact ⟨A, cap, hU, HC, ht, hM, hbt, hD4, hD5, ho, hb5, hb6, hb7⟩
 ·intro c pre Wa Wb hX cL
  obtain ⟨rfl, ⟨z, hU, HC, ht, hM, hbt, hD4, hD5, hb5, hb6, hb7⟩⟩ := hX
  replace HC := HC.then1 cL ge_lp
  replace ht := ht.tr cL (by intro hx; have := ht.lt; have := ht1; simp only [List.mem_cons, List.mem_nil_iff, or_false] at hx; omega)
  replace hM := hM.tr cL (by intro k hk hx; have hlo := (hM.lt k hk).1; simp only [List.mem_singleton] at hx; subst hx; first | exact nm_lp hk | omega)
  replace hbt := hbt.tr1 cL ne_bt_lp
  replace hD4 := Nat.lt_of_lt_of_le hD4 cL.size
  replace hD5 := Nat.lt_of_lt_of_le hD5 cL.size
  replace hb5 := hb5.tr1 cL ne_b5_lp
  replace hb6 := hb6.tr1 cL ne_b6_lp
  replace hb7 := hb7.tr1 cL ne_b7_lp
  exact ⟨rfl, ⟨z, hU, HC, ht, hM, hbt, hD4, hD5, hb5, hb6, hb7⟩⟩
 ·rintro pre y rest A0 Wa hxs ⟨A, cap, hz, HC, ht, hM, hbt, hD4, hD5, ho, hb5, hb6, hb7⟩ cA hlA _ ⟨rec, hrec⟩
  have lt0_bt := hbt.lt
  have lo0_ho := ho.lt
  have li0_ho := ho.inD
  have lt0_b5 := hb5.lt
  have lt0_b6 := hb6.lt
  have lt0_b7 := hb7.lt
  replace HC := HC.then cA
  replace ht := ht.tr0 cA
  replace hM := hM.tr cA (by simp)
  replace hbt := hbt.tr0 cA
  replace hD4 := Nat.lt_of_lt_of_le hD4 cA.size
  replace hD5 := Nat.lt_of_lt_of_le hD5 cA.size
  replace ho := ho.tr0 cA
  replace hb5 := hb5.tr0 cA
  replace hb6 := hb6.tr0 cA
  replace hb7 := hb7.tr0 cA
  have HK : Kept (fun k => k = lp ∨ k = DD ∨ NK (fun k => k = bt ∨ k = 0) A0 k) Wa Wa := .refl'
  have hLl := toksF_len (s.length + 1) s 0
  have hpl : (pre.map toTk).length < s.length + 1 := by rw [hL, hxs] at hLl; simp at hLl ⊢; omega
  refine sr rfl <| Wp rfl <| st_alloc T.zero60 ?_
  intro b8 w23 e24 c25 hb26
  have ge_b8 : w.heap.size ≤ b8 := by rw [e24]; exact HC.size
  have geK_b8 : Wa.heap.size ≤ b8 := by rw [e24]; exact HK.1
  have ne_bt_b8 : Hid (bt ≠ b8) := by rw [e24]; exact hbt.ne_size
  have ne_b5_b8 : Hid (b5 ≠ b8) := by rw [e24]; exact hb5.ne_size
  have ne_b6_b8 : Hid (b6 ≠ b8) := by rw [e24]; exact hb6.ne_size
  have ne_b7_b8 : Hid (b7 ≠ b8) := by rw [e24]; exact hb7.ne_size
  have nm_b8 : b8 ∉ mb [] := fun hx => by have := (hM.lt _ hx).2; omega
  have na_b8 : b8 ∉ ob A := ho.fresh (by rw [e24]; exact Nat.le_refl _)
  replace HC := HC.then c25
  replace ht := ht.tr0 c25
  replace hM := hM.tr c25 (by simp)
  replace hbt := hbt.tr0 c25
  replace hD4 := Nat.lt_of_lt_of_le hD4 c25.size
  replace hD5 := Nat.lt_of_lt_of_le hD5 c25.size
  replace ho := ho.tr0 c25
  replace hb5 := hb5.tr0 c25
  replace hb6 := hb6.tr0 c25
  replace hb7 := hb7.tr0 c25
  replace HK := HK.chg c25 (fun k hx => absurd hx (by simp))
  clear e24
  refine Wp rfl <| st_store (v := .agg ⟨[.int _ _, .int _ _, S _, .int _ _]⟩) T.size60 rfl rfl rfl hb26 rfl (Nat.le_of_ble_eq_true rfl) (by simp [Value.oneCell', S]) rfl ?_
  intro w27 c28 hb29; simp only [setVs, setV] at hb29
  clear hb26
  replace HC := HC.then1 c28 ge_b8
  replace ht := ht.tr c28 (by intro hx; have := ht.lt; have := ht1; simp only [List.mem_cons, List.mem_nil_iff, or_false] at hx; omega)
  replace hM := hM.tr c28 (by intro k hk hx; have hlo := (hM.lt k hk).1; simp only [List.mem_singleton] at hx; subst hx; first | exact nm_b8 hk | omega)
  replace hbt := hbt.tr1 c28 ne_bt_b8
  replace hD4 := Nat.lt_of_lt_of_le hD4 c28.size
  replace hD5 := Nat.lt_of_lt_of_le hD5 c28.size
  replace ho := ho.trF flat_flat c28 (by intro k hk hx; simp only [List.mem_cons, List.mem_nil_iff, or_false] at hx; obtain rfl := hx; first | exact na_b8 hk | exact absurd (ho.inD _ hk) (by simp))
  replace hb5 := hb5.tr1 c28 ne_b5_b8
  replace hb6 := hb6.tr1 c28 ne_b6_b8
  replace hb7 := hb7.tr1 c28 ne_b7_b8
  replace HK := HK.chg c28 (by intro k hx hK; rw [List.mem_singleton.1 hx]; exact geK_b8)
  refine en <| x_region rfl <| aI rfl <| en <| ⟨HK, ?_⟩
  intro ds1 Wc cL hrec2
  replace HC := HC.then1 cL ge_lp
  replace ht := ht.tr cL (by intro hx; have := ht.lt; have := ht1; simp only [List.mem_cons, List.mem_nil_iff, or_false] at hx; omega)
  replace hM := hM.tr cL (by intro k hk hx; have hlo := (hM.lt k hk).1; simp only [List.mem_singleton] at hx; subst hx; first | exact nm_lp hk | omega)
  replace hbt := hbt.tr1 cL ne_bt_lp
  replace hD4 := Nat.lt_of_lt_of_le hD4 cL.size
  replace hD5 := Nat.lt_of_lt_of_le hD5 cL.size
  replace ho := ho.trF flat_flat cL (by intro k hk hx; simp only [List.mem_cons, List.mem_nil_iff, or_false] at hx; obtain rfl := hx; first | exact na_lp hk | exact absurd (ho.inD _ hk) (by simp))
  replace hb5 := hb5.tr1 cL ne_b5_lp
  replace hb6 := hb6.tr1 cL ne_b6_lp
  replace hb7 := hb7.tr1 cL ne_b7_lp
  replace hb29 := hb29.tr1 cL (by omega)
  have HK : Kept (fun k => k = lp ∨ k = DD ∨ NK (fun k => k = bt ∨ k = 0) A0 k) Wc Wc := .refl'
  refine x_block <| x_seq <| sr rfl <| mI rfl <| Wp rfl <| st_neq rfl rfl <| en <| x_cond rfl (fun h0 => ?_) (fun h0 => ?_)
  ·try simp only [nm, ne_eq] at h0
   refine sr rfl <| fa T.fld60_3 rfl <| lI T.one3 rfl (hb29.cell rfl) <| mI rfl <| Wp rfl <| st_store (v := .int _ _) T.size3 rfl rfl rfl hb6 rfl (Nat.le_of_ble_eq_true rfl) (by simp [Value.oneCell', S]) rfl ?_
   intro w30 c31 hb32; simp only [setVs, setV] at hb32
   clear hb6
   replace HC := HC.then1 c31 ge_b6
   replace ht := ht.tr c31 (by intro hx; have := ht.lt; have := ht1; simp only [List.mem_cons, List.mem_nil_iff, or_false] at hx; omega)
   replace hM := hM.tr c31 (by intro k hk hx; have hlo := (hM.lt k hk).1; simp only [List.mem_singleton] at hx; subst hx; first | exact nm_b6 hk | omega)
   replace hbt := hbt.tr1 c31 (Ne.symm ne_b6_bt)
   replace hD4 := Nat.lt_of_lt_of_le hD4 c31.size
   replace hD5 := Nat.lt_of_lt_of_le hD5 c31.size
   replace ho := ho.trF flat_flat c31 (by intro k hk hx; simp only [List.mem_cons, List.mem_nil_iff, or_false] at hx; obtain rfl := hx; first | exact na_b6 hk | exact absurd (ho.inD _ hk) (by simp))
   replace hb5 := hb5.tr1 c31 ne_b5_b6
   replace hb7 := hb7.tr1 c31 (Ne.symm ne_b6_b7)
   replace hb29 := hb29.tr1 c31 (Ne.symm ne_b6_b8)
   replace HK := HK.chg c31 (by
    intro k hx hK
    obtain rfl := List.mem_singleton.1 hx
    rcases hK with h | h | (h | h) | h
    · exact absurd h ne_b6_lp
    · exact absurd h ne_b6_DD
    · exact absurd h ne_b6_bt
    · exact absurd h (by omega)
    · exact absurd h (Nat.not_le.2 lt0_b6))
   refine Wp rfl <| st_store (v := .int _ _) T.size25 rfl rfl rfl hb7 rfl (Nat.le_of_ble_eq_true rfl) (by simp [Value.oneCell', S]) rfl ?_
   intro w33 c34 hb35; simp only [setVs, setV] at hb35
   clear hb7
   replace HC := HC.then1 c34 ge_b7
   replace ht := ht.tr c34 (by intro hx; have := ht.lt; have := ht1; simp only [List.mem_cons, List.mem_nil_iff, or_false] at hx; omega)
   replace hM := hM.tr c34 (by intro k hk hx; have hlo := (hM.lt k hk).1; simp only [List.mem_singleton] at hx; subst hx; first | exact nm_b7 hk | omega)
   replace hbt := hbt.tr1 c34 (Ne.symm ne_b7_bt)
   replace hD4 := Nat.lt_of_lt_of_le hD4 c34.size
   replace hD5 := Nat.lt_of_lt_of_le hD5 c34.size
   replace ho := ho.trF flat_flat c34 (by intro k hk hx; simp only [List.mem_cons, List.mem_nil_iff, or_false] at hx; obtain rfl := hx; first | exact na_b7 hk | exact absurd (ho.inD _ hk) (by simp))
   replace hb5 := hb5.tr1 c34 ne_b5_b7
   replace hb29 := hb29.tr1 c34 (Ne.symm ne_b7_b8)
   replace HK := HK.chg c34 (by
    intro k hx hK
    obtain rfl := List.mem_singleton.1 hx
    rcases hK with h | h | (h | h) | h
    · exact absurd h ne_b7_lp
    · exact absurd h ne_b7_DD
    · exact absurd h ne_b7_bt
    · exact absurd h (by omega)
    · exact absurd h (Nat.not_le.2 lt0_b7))
   replace hb32 := hb32.tr1 c34 ne_b6_b7
   refine Wp rfl <| st_store (v := .slice _ _ _) T.size52 rfl rfl rfl hb5 rfl (Nat.le_of_ble_eq_true rfl) (by simp [Value.oneCell', S]) rfl ?_
   intro w36 c37 hb38; simp only [setVs, setV] at hb38
   clear hb5
   replace HC := HC.then1 c37 ge_b5
   replace ht := ht.tr c37 (by intro hx; have := ht.lt; have := ht1; simp only [List.mem_cons, List.mem_nil_iff, or_false] at hx; omega)
   replace hM := hM.tr c37 (by intro k hk hx; have hlo := (hM.lt k hk).1; simp only [List.mem_singleton] at hx; subst hx; first | exact nm_b5 hk | omega)
   replace hbt := hbt.tr1 c37 (Ne.symm ne_b5_bt)
   replace hD4 := Nat.lt_of_lt_of_le hD4 c37.size
   replace hD5 := Nat.lt_of_lt_of_le hD5 c37.size
   replace ho := ho.trF flat_flat c37 (by intro k hk hx; simp only [List.mem_cons, List.mem_nil_iff, or_false] at hx; obtain rfl := hx; first | exact na_b5 hk | exact absurd (ho.inD _ hk) (by simp))
   replace hb29 := hb29.tr1 c37 (Ne.symm ne_b5_b8)
   replace HK := HK.chg c37 (by
    intro k hx hK
    obtain rfl := List.mem_singleton.1 hx
    rcases hK with h | h | (h | h) | h
    · exact absurd h ne_b5_lp
    · exact absurd h ne_b5_DD
    · exact absurd h ne_b5_bt
    · exact absurd h (by omega)
    · exact absurd h (Nat.not_le.2 lt0_b5))
   replace hb32 := hb32.tr1 c37 (Ne.symm ne_b5_b6)
   replace hb35 := hb35.tr1 c37 (Ne.symm ne_b5_b7)
   refine en <| x_exit <| then_x <| block_o rfl <| ⟨HK, ?_⟩
   exact ⟨rfl, ⟨y, find_first hxs hz h0, HC, ht, hM, hbt, hD4, hD5, hb38, hb32, hb35⟩⟩
  ·try simp only [nm, ne_eq] at h0
   refine x_skip <| then_n <| x_region rfl <| lL T.one52 rfl (hb5.cell rfl) <| Wp rfl <| st_loadA (vs := [_, _, _, _]) T.agg60 rfl (hb29.cells (n := 4) (vs := [_, _, _, _]) rfl) rfl <| Wp rfl <| st_lit (ps := [(0, .tmp 20)]) (vs := [.int _ _, .int _ _, S _, .int _ _]) T.lit52 (by decide) rfl (by simp only [List.forall_mem_cons, List.not_mem_nil, false_imp_iff, implies_true, and_true]; exact rfl) rfl ?_
   intro b39 w40 e41 c42 hb43
   have ge_b39 : w.heap.size ≤ b39 := by rw [e41]; exact HC.size
   have geK_b39 : Wc.heap.size ≤ b39 := by rw [e41]; exact HK.1
   have ne_bt_b39 : Hid (bt ≠ b39) := by rw [e41]; exact hbt.ne_size
   have ne_b5_b39 : Hid (b5 ≠ b39) := by rw [e41]; exact hb5.ne_size
   have ne_b6_b39 : Hid (b6 ≠ b39) := by rw [e41]; exact hb6.ne_size
   have ne_b7_b39 : Hid (b7 ≠ b39) := by rw [e41]; exact hb7.ne_size
   have ne_b8_b39 : Hid (b8 ≠ b39) := by rw [e41]; exact hb29.ne_size
   have nm_b39 : b39 ∉ mb [] := fun hx => by have := (hM.lt _ hx).2; omega
   have na_b39 : b39 ∉ ob A := ho.fresh (by rw [e41]; exact Nat.le_refl _)
   replace HC := HC.then c42
   replace ht := ht.tr0 c42
   replace hM := hM.tr c42 (by simp)
   replace hbt := hbt.tr0 c42
   replace hD4 := Nat.lt_of_lt_of_le hD4 c42.size
   replace hD5 := Nat.lt_of_lt_of_le hD5 c42.size
   replace ho := ho.tr0 c42
   replace hb5 := hb5.tr0 c42
   replace hb6 := hb6.tr0 c42
   replace hb7 := hb7.tr0 c42
   replace hb29 := hb29.tr0 c42
   replace HK := HK.chg c42 (fun k hx => absurd hx (by simp))
   clear e41
   have hszA := HC.size
   refine Wp rfl <| st_append2 (c := tkE) (D2 := fun _ => False) (xs := ((pre).map toTk)) (ys := [toTk y]) T.slice52 rfl rfl ho rfl rfl (one_elem rfl (hb43.cells (n := 4) rfl)) (fun _ _ h => h.elim) (fun k hk => ⟨by have := HC.size; omega, by have := hb5.lt; omega, by have := hb6.lt; omega, by have := hb7.lt; omega, by have := hbt.lt; omega, by have := hD5; omega, by have := hD4; omega⟩) (by simp only [List.length_cons, List.length_nil]; omega) (by simp only [List.length_cons, List.length_nil]; omega) ?_
   intro A44 cap45 w46 ho47 c48 hg49
   replace HC := HC.trans c48 (fun k hk => .inr ((ho.inD k hk).1))
   replace ht := ht.tr c48 (fun hx => by first | (have h1 := (ho.inD _ hx).1; omega) | (have h1 : w.heap.size ≤ 0 := ho.inD _ hx; omega))
   replace hM := hM.tr c48 (fun k hk => by cases hk)
   replace hbt := hbt.tr c48 (fun hx => by first | (have h1 := ho.inD _ hx; omega) | exact na_bt hx | exact hav _ hx (by simp))
   replace hD4 := Nat.lt_of_lt_of_le hD4 c48.size
   replace hD5 := Nat.lt_of_lt_of_le hD5 c48.size
   replace hb5 := hb5.tr c48 (fun hx => by first | (have h1 := ho.inD _ hx; omega) | exact na_b5 hx | exact hav _ hx (by simp))
   replace hb6 := hb6.tr c48 (fun hx => by first | (have h1 := ho.inD _ hx; omega) | exact na_b6 hx | exact hav _ hx (by simp))
   replace hb7 := hb7.tr c48 (fun hx => by first | (have h1 := ho.inD _ hx; omega) | exact na_b7 hx | exact hav _ hx (by simp))
   replace hb29 := hb29.tr c48 (fun hx => by first | (have h1 := ho.inD _ hx; omega) | exact na_b8 hx | exact hav _ hx (by simp))
   replace HK := HK.chg c48 (by intro k hk hK; have h1 := ho.inD k hk; have h2 := lo0_ho k hk; simp only [NK] at hK; omega)
   replace hb43 := hb43.tr c48 (fun hx => by first | (have h1 := ho.inD _ hx; omega) | exact na_b39 hx | exact hav _ hx (by simp))
   refine Wp rfl <| st_store (v := .slice _ _ _) T.size52 rfl rfl rfl hb5 rfl (Nat.le_of_ble_eq_true rfl) (by simp [Value.oneCell', S]) rfl ?_
   intro w50 c51 hb52; simp only [setVs, setV] at hb52
   clear hb5
   replace HC := HC.then1 c51 ge_b5
   replace ht := ht.tr c51 (by intro hx; have := ht.lt; have := ht1; simp only [List.mem_cons, List.mem_nil_iff, or_false] at hx; omega)
   replace hM := hM.tr c51 (by intro k hk hx; have hlo := (hM.lt k hk).1; simp only [List.mem_singleton] at hx; subst hx; first | exact nm_b5 hk | omega)
   replace hbt := hbt.tr1 c51 (Ne.symm ne_b5_bt)
   replace hD4 := Nat.lt_of_lt_of_le hD4 c51.size
   replace hD5 := Nat.lt_of_lt_of_le hD5 c51.size
   replace ho47 := ho47.trF flat_flat c51 (by intro k hk hx; simp only [List.mem_cons, List.mem_nil_iff, or_false] at hx; obtain rfl := hx; first | exact na_b5 hk | exact absurd (ho47.inD _ hk) (by simp))
   replace hb6 := hb6.tr1 c51 (Ne.symm ne_b5_b6)
   replace hb7 := hb7.tr1 c51 (Ne.symm ne_b5_b7)
   replace hb29 := hb29.tr1 c51 (Ne.symm ne_b5_b8)
   replace HK := HK.chg c51 (by
    intro k hx hK
    obtain rfl := List.mem_singleton.1 hx
    rcases hK with h | h | (h | h) | h
    · exact absurd h ne_b5_lp
    · exact absurd h ne_b5_DD
    · exact absurd h ne_b5_bt
    · exact absurd h (by omega)
    · exact absurd h (Nat.not_le.2 lt0_b5))
   replace hb43 := hb43.tr1 c51 (Ne.symm ne_b5_b39)
   refine wops_nil <| block_n <| ⟨HK, ?_⟩
   simp only [List.map_append, List.map_cons, List.map_nil]
   exact ⟨A44, cap45, (fun z hz' => (List.mem_append.1 hz').elim (fun h => hz z h) (fun h => by rw [List.mem_singleton.1 h]; exact h0)), HC, ht, hM, hbt, hD4, hD5, ho47, hb52, hb6, hb7⟩
 ·rintro W9 ⟨A, cap, hz, HC, ht, hM, hbt, hD4, hD5, ho, hb5, hb6, hb7⟩ hDef
  replace hM := hM.cons (by omega) hDef nm_DD
  have nm_bt : bt ∉ mb (mk DD :: []) := fun hx => (List.mem_cons.1 (show bt ∈ DD :: mb [] from hx)).elim (fun h => ne_bt_DD h) (fun h => by cases h)
  have nm_b5 : b5 ∉ mb (mk DD :: []) := fun hx => (List.mem_cons.1 (show b5 ∈ DD :: mb [] from hx)).elim (fun h => ne_b5_DD h) (fun h => by cases h)
  have nm_b6 : b6 ∉ mb (mk DD :: []) := fun hx => (List.mem_cons.1 (show b6 ∈ DD :: mb [] from hx)).elim (fun h => ne_b6_DD h) (fun h => by cases h)
  have nm_b7 : b7 ∉ mb (mk DD :: []) := fun hx => (List.mem_cons.1 (show b7 ∈ DD :: mb [] from hx)).elim (fun h => ne_b7_DD h) (fun h => by cases h)
  refine block_n <| then_n <| x_seq <| x_draw [(0, 0), (1, 0), (2, 0), (3, 0), (4, 0), (5, 0)] T.mixed rfl rfl rfl (fun W => W.heap[bt]? = W9.heap[bt]? ∧ W.heap[b5]? = W9.heap[b5]? ∧ W.heap[b6]? = W9.heap[b6]? ∧ W.heap[b7]? = W9.heap[b7]? ∧ True) ⟨rfl, rfl, rfl, rfl, trivial⟩ ?_
  have o55 := hbt
  have o56 := hb5
  have o57 := hb6
  have o58 := hb7
  have c54 := Chg.drew W9
  generalize World.drew W9 = w53 at c54 ⊢
  replace HC := HC.then c54
  replace ht := ht.tr0 c54
  replace hM := hM.tr c54 (by simp)
  replace hbt := hbt.tr0 c54
  replace ho := ho.tr0 c54
  replace hb5 := hb5.tr0 c54
  replace hb6 := hb6.tr0 c54
  replace hb7 := hb7.tr0 c54
  refine sq_q rfl (fun W hT => r_load1 (v := .slice _ _ _) T.one52 rfl (Blk.cell (show Blk W b5 _ _ from hT.2.1.trans o56) rfl)) <| sq_q rfl (fun W hT => r_load1 (v := .int _ _) T.one3 rfl (Blk.cell (show Blk W b6 _ _ from hT.2.2.1.trans o57) rfl)) <| sq_q rfl (fun W hT => r_load1 (v := .int _ _) T.one25 rfl (Blk.cell (show Blk W b7 _ _ from hT.2.2.2.1.trans o58) rfl)) <| sq_q rfl (fun W hT => r_assign (v := .slice _ _ _) rfl) <| sq_q rfl (fun W hT => r_assign (v := .int _ _) rfl) <| sq_q rfl (fun W hT => r_assign (v := .int _ _) rfl) ?_
  clear o55
  clear o56
  clear o57
  clear o58
  refine sq_nil <| then_n <| x_ret <| scope_r <| retM_marks hM ?_
  intro w99 c99
  have hlm := hM.lt
  replace HC := HC.trans c99 (fun k hk => .inr (by have := (hlm k hk).1; omega))
  replace hbt := hbt.tr c99 (fun hx => by first | exact nm_bt hx | (simp only [mb_cons, mb, List.mem_cons, List.mem_nil_iff, or_false] at hx; omega))
  replace ho := ho.trF flat_flat c99 (by intro k hk hx; have hD := ho.inD k hk; simp only [mb_cons, mb, List.mem_cons, List.mem_nil_iff, or_false] at hx; first | (obtain rfl := hx; exact absurd hD (by simp)) | (rcases hx with hx | hx <;> (obtain rfl := hx; exact absurd hD (by simp))))
  replace hb5 := hb5.tr c99 (fun hx => by first | exact nm_b5 hx | (simp only [mb_cons, mb, List.mem_cons, List.mem_nil_iff, or_false] at hx; omega))
  replace hb6 := hb6.tr c99 (fun hx => by first | exact nm_b6 hx | (simp only [mb_cons, mb, List.mem_cons, List.mem_nil_iff, or_false] at hx; omega))
  replace hb7 := hb7.tr c99 (fun hx => by first | exact nm_b7 hx | (simp only [mb_cons, mb, List.mem_cons, List.mem_nil_iff, or_false] at hx; omega))
  refine ret_tmp3 (v := .slice _ _ _) (v2 := .int _ _) (v3 := .int _ _) rfl rfl rfl rfl ?_
  rw [show tokV L = (L.map toTk, 0, 0) by simp [tokV, find_none hz]]
  exact ⟨A, cap, rfl, ho.flat flat_flat (fun k _ h => h.1), HC⟩
 ·intro c pre W9 hX hDef
  obtain ⟨rfl, ⟨z, hz, HC, ht, hM, hbt, hD4, hD5, hb5, hb6, hb7⟩⟩ := hX
  replace hM := hM.cons (by omega) hDef nm_DD
  have nm_bt : bt ∉ mb (mk DD :: []) := fun hx => (List.mem_cons.1 (show bt ∈ DD :: mb [] from hx)).elim (fun h => ne_bt_DD h) (fun h => by cases h)
  have nm_b5 : b5 ∉ mb (mk DD :: []) := fun hx => (List.mem_cons.1 (show b5 ∈ DD :: mb [] from hx)).elim (fun h => ne_b5_DD h) (fun h => by cases h)
  have nm_b6 : b6 ∉ mb (mk DD :: []) := fun hx => (List.mem_cons.1 (show b6 ∈ DD :: mb [] from hx)).elim (fun h => ne_b6_DD h) (fun h => by cases h)
  have nm_b7 : b7 ∉ mb (mk DD :: []) := fun hx => (List.mem_cons.1 (show b7 ∈ DD :: mb [] from hx)).elim (fun h => ne_b7_DD h) (fun h => by cases h)
  refine x_exit <| block_x <| then_n <| x_seq <| x_draw [(0, 0), (1, 0), (2, 0), (3, 0), (4, 0), (5, 0)] T.mixed rfl rfl rfl (fun W => W.heap[bt]? = W9.heap[bt]? ∧ W.heap[b5]? = W9.heap[b5]? ∧ W.heap[b6]? = W9.heap[b6]? ∧ W.heap[b7]? = W9.heap[b7]? ∧ True) ⟨rfl, rfl, rfl, rfl, trivial⟩ ?_
  have o61 := hbt
  have o62 := hb5
  have o63 := hb6
  have o64 := hb7
  have c60 := Chg.drew W9
  generalize World.drew W9 = w59 at c60 ⊢
  replace HC := HC.then c60
  replace ht := ht.tr0 c60
  replace hM := hM.tr c60 (by simp)
  replace hbt := hbt.tr0 c60
  replace hb5 := hb5.tr0 c60
  replace hb6 := hb6.tr0 c60
  replace hb7 := hb7.tr0 c60
  refine sq_q rfl (fun W hT => r_load1 (v := .slice _ _ _) T.one52 rfl (Blk.cell (show Blk W b5 _ _ from hT.2.1.trans o62) rfl)) <| sq_q rfl (fun W hT => r_load1 (v := .int _ _) T.one3 rfl (Blk.cell (show Blk W b6 _ _ from hT.2.2.1.trans o63) rfl)) <| sq_q rfl (fun W hT => r_load1 (v := .int _ _) T.one25 rfl (Blk.cell (show Blk W b7 _ _ from hT.2.2.2.1.trans o64) rfl)) <| sq_q rfl (fun W hT => r_assign (v := .slice _ _ _) rfl) <| sq_q rfl (fun W hT => r_assign (v := .int _ _) rfl) <| sq_q rfl (fun W hT => r_assign (v := .int _ _) rfl) ?_
  clear o61
  clear o62
  clear o63
  clear o64
  refine sq_nil <| then_n <| x_ret <| scope_r <| retM_marks hM ?_
  intro w99 c99
  have hlm := hM.lt
  replace HC := HC.trans c99 (fun k hk => .inr (by have := (hlm k hk).1; omega))
  replace hbt := hbt.tr c99 (fun hx => by first | exact nm_bt hx | (simp only [mb_cons, mb, List.mem_cons, List.mem_nil_iff, or_false] at hx; omega))
  replace hb5 := hb5.tr c99 (fun hx => by first | exact nm_b5 hx | (simp only [mb_cons, mb, List.mem_cons, List.mem_nil_iff, or_false] at hx; omega))
  replace hb6 := hb6.tr c99 (fun hx => by first | exact nm_b6 hx | (simp only [mb_cons, mb, List.mem_cons, List.mem_nil_iff, or_false] at hx; omega))
  replace hb7 := hb7.tr c99 (fun hx => by first | exact nm_b7 hx | (simp only [mb_cons, mb, List.mem_cons, List.mem_nil_iff, or_false] at hx; omega))
  refine ret_tmp3 (v := .slice _ _ _) (v2 := .int _ _) (v3 := .int _ _) rfl rfl rfl rfl ?_
  rw [show tokV L = ([], z.2.1, z.2.2) by simp [tokV, hz]]
  exact ⟨none, 0, rfl, Own.nil, HC⟩

end Go.Proofs.YtmbbhgglllfelaaGreatDoor.K
