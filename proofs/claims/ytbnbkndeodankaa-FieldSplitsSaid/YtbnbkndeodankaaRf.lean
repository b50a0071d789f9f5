/- Walks. -/
import Derived.Test.YtbnbkndeodankaaFl
import Derived.Test.YtbnbkndeodankaaFr
import Derived.Test.YtbnbkndeodankaaTy
set_option linter.unusedVariables false
set_option linter.unusedSimpArgs false
set_option autoImplicit false
set_option maxRecDepth 20000
namespace Go.Proofs.Ytbnbkndeodankaa.K
open Go Go.Proofs Go.RowKit

def SpAtR (N : Nat) (w : World) (b : Nat) (A : Option Addr) (cap : Nat) (x : Sp) : Prop :=
  Blk w b [S x.f.text, S x.f.quoted, .bool x.begun, .bool x.white, .slice A x.out.length cap] 59 ∧ Own fE 31 w (fun k => N ≤ k ∧ k ≠ b) A cap x.out

theorem Rtell_spec {N b : Nat} {A : Option Addr} {cap : Nat} {x : Sp} {w : World} (h : SpAtR N w b A cap x) (hN : N ≤ w.heap.size) (hl : x.out.length ≤ 1000000000) :
    CallR Try.prog 24 #[.pointer (some ⟨b, 0, none⟩)] w fun v w' => v = .tuple ⟨[]⟩ ∧ ∃ A' cap', SpAtR N w' b A' cap' x.tell ∧ Chg (b :: ob A) w w' ∧ ∀ g, g ∈ ob A' → g ∈ ob A ∨ w.heap.size ≤ g := by
  obtain ⟨hb, ho⟩ := h
  refine callR_of_wp (args := [_]) Try.func24 rfl (Nat.le_of_ble_eq_true rfl) ?_
  have HC : Chg (b :: ob A) w w := .refl _
  refine x_seq ?_
  refine x_draw [(0, 0), (1, 0), (2, 0), (3, 0), (4, 0), (5, 0), (6, 0), (7, 0), (8, 0), (9, 1), (10, 1), (11, 0), (12, 0), (13, 2)] T.mixed rfl rfl rfl (fun W => W.heap[b]? = w.heap[b]? ∧ True) ⟨rfl, trivial⟩ ?_
  have o3 := hb
  have c2 := Chg.drew w
  generalize World.drew w = w1 at c2 ⊢
  replace HC := HC.then c2
  replace hb := hb.tr0 c2
  replace ho := ho.tr0 c2
  refine sq_q rfl (fun W hT => r_move (v := .pointer _) rfl) ?_
  refine sq_q rfl (fun W hT => r_move (v := .pointer _) rfl) ?_
  refine sq_q rfl (fun W hT => r_nilCheck rfl) ?_
  refine sq_q rfl (fun W hT => r_fieldAddr T.fld59_3 rfl) ?_
  refine sq_q rfl (fun W hT => r_load1 (v := .slice _ _ _) T.one28 rfl (Blk.cell (show Blk W b _ _ from hT.1.trans o3) rfl)) ?_
  refine sq_q rfl (fun W hT => r_move (v := .pointer _) rfl) ?_
  refine sq_q rfl (fun W hT => r_nilCheck rfl) ?_
  refine sq_q rfl (fun W hT => r_fieldAddr T.fld59_0 rfl) ?_
  refine sq_q rfl (fun W hT => r_loadA (vs := [_, _]) T.agg31 rfl (Blk.cells (n := 2) (vs := [_, _]) (show Blk W b _ _ from hT.1.trans o3) rfl) rfl) ?_
  refine sq_lit1 (ps := [(0, .tmp 10)]) (vs := [S _, S _]) rfl T.lit28 (by decide) rfl (by simp only [List.forall_mem_cons, List.not_mem_nil, false_imp_iff, implies_true, and_true]; exact rfl) rfl ?_
  intro b4 w5 e6 c7 hb8
  have ge_b4 : w.heap.size ≤ b4 := by rw [e6]; exact HC.size
  have ne_b_b4 : b ≠ b4 := by rw [e6]; exact hb.ne_size
  have na_b4 : b4 ∉ ob A := ho.fresh (by rw [e6]; exact Nat.le_refl _)
  replace HC := HC.then c7
  replace hb := hb.tr0 c7
  replace ho := ho.tr0 c7
  clear e6
  refine ext_T (b := b4) ⟨(Eq.trans hb o3.symm), trivial⟩ ?_
  have o9 := hb8
  have hsz := HC.size
  refine sq_append1 (c := fE) (D2 := fun _ => False) (xs := x.out) (ys := [x.f]) rfl T.slice28 rfl rfl ho rfl rfl (one_elem rfl (hb8.cells (n := 2) rfl)) (fun _ _ h => h.elim) (fun k hk => ⟨by omega, by have := hb.lt; omega⟩) (by simp only [List.length_cons, List.length_nil]; omega) (by simp only [List.length_cons, List.length_nil]; omega) ?_
  skip
  intro A2 cap2 w10 ho2 c11 hg2
  replace hb := hb.tr c11 (fun hx => (ho.inD _ hx).2 rfl)
  replace hb8 := hb8.tr c11 na_b4
  replace HC := HC.trans c11 (by intro x hx; exact .inl (by simp [hx]))
  clear ho
  refine ⟨_, fun _ h => h, ⟨(Eq.trans hb8 o9.symm), (Eq.trans hb o3.symm), trivial⟩, ?_⟩
  refine sq_q rfl (fun W hT => r_nilCheck rfl) ?_
  refine sq_q rfl (fun W hT => r_fieldAddr T.fld59_3 rfl) ?_
  refine sq_store2 rfl T.size28 (v := .slice _ _ _) rfl rfl rfl hb rfl (Nat.le_of_ble_eq_true rfl) (by simp [Value.oneCell', S]) rfl ?_
  intro w12 c13 hb14; simp only [setVs, setV] at hb14
  clear hb
  replace HC := HC.trans c13 (by intro x hx; simp only [List.mem_singleton] at hx; subst hx; exact .inl (by simp))
  replace ho2 := ho2.tr c13 (by intro x hx; simp only [List.mem_cons, List.mem_nil_iff, or_false] at hx; subst hx; exact fun h => h.2 rfl)
  clear o3
  clear o9
  refine sq_nil ?_
  refine then_n ?_
  refine x_seq ?_
  refine x_region rfl ?_
  refine w_plain rfl (st_move (v := .pointer _) rfl ?_)
  refine w_plain rfl (st_bld (ps := []) (vs := [S _, S _]) T.bld31 rfl ?_)
  refine w_plain rfl (st_nilCheck rfl ?_)
  refine w_plain rfl (st_fieldAddr T.fld59_0 rfl ?_)
  refine w_plain rfl (st_store (v := .agg ⟨[S _, S _]⟩) T.size31 rfl rfl rfl hb14 rfl (Nat.le_of_ble_eq_true rfl) (by simp [Value.oneCell', S]) rfl ?_)
  intro w15 c16 hb17; simp only [setVs, setV] at hb17
  clear hb14
  replace HC := HC.trans c16 (by intro x hx; simp only [List.mem_singleton] at hx; subst hx; exact .inl (by simp))
  replace ho2 := ho2.tr c16 (by intro x hx; simp only [List.mem_cons, List.mem_nil_iff, or_false] at hx; subst hx; exact fun h => h.2 rfl)
  refine wops_nil ?_
  refine then_n ?_
  refine x_region rfl ?_
  refine w_plain rfl (st_move (v := .pointer _) rfl ?_)
  refine w_plain rfl (st_nilCheck rfl ?_)
  refine w_plain rfl (st_fieldAddr T.fld59_1 rfl ?_)
  refine w_plain rfl (st_store (v := .bool _) T.size4 rfl rfl rfl hb17 rfl (Nat.le_of_ble_eq_true rfl) (by simp [Value.oneCell', S]) rfl ?_)
  intro w18 c19 hb20; simp only [setVs, setV] at hb20
  clear hb17
  replace HC := HC.trans c19 (by intro x hx; simp only [List.mem_singleton] at hx; subst hx; exact .inl (by simp))
  replace ho2 := ho2.tr c19 (by intro x hx; simp only [List.mem_cons, List.mem_nil_iff, or_false] at hx; subst hx; exact fun h => h.2 rfl)
  refine wops_nil ?_
  refine ret_none_n rfl ?_
  refine ⟨rfl, A2, cap2, ⟨?_, ho2⟩, HC, fun g hg => (hg2 g hg).imp id (fun h => by omega)⟩
  have e : x.tell.out.length = x.out.length + [x.f].length := by simp [Sp.tell]
  rw [e]
  exact hb20

theorem Rput_spec {N b : Nat} {A : Option Addr} {cap : Nat} {x : Sp} {w : World} (c q : UInt8) (h : SpAtR N w b A cap x) (hl : x.f.text.length ≤ 1000000000) (hl2 : x.f.quoted.length ≤ 1000000000) :
    CallR Try.prog 26 #[.pointer (some ⟨b, 0, none⟩), .int .u8 (c.toNat : Int), .int .u8 (q.toNat : Int)] w fun v w' => v = .tuple ⟨[]⟩ ∧ SpAtR N w' b A cap (x.put [c] q) ∧ Chg [b] w w' := by
  obtain ⟨hb, ho⟩ := h
  refine callR_of_wp (args := [_, _, _]) Try.func26 rfl (Nat.le_of_ble_eq_true rfl) ?_
  have HC : Chg [b] w w := .refl _
  refine x_seq ?_
  refine x_draw [(0, 0), (1, 0), (2, 0), (3, 0), (4, 0), (5, 0), (6, 0), (7, 1), (8, 0), (9, 0), (10, 0), (11, 0), (12, 0), (13, 2)] T.mixed rfl rfl rfl (fun W => W.heap[b]? = w.heap[b]? ∧ True) ⟨rfl, trivial⟩ ?_
  have o3 := hb
  have c2 := Chg.drew w
  generalize World.drew w = w1 at c2 ⊢
  replace HC := HC.then c2
  replace hb := hb.tr0 c2
  replace ho := ho.tr0 c2
  refine sq_q rfl (fun W hT => r_move (v := .pointer _) rfl) ?_
  refine sq_q rfl (fun W hT => r_move (v := .pointer _) rfl) ?_
  refine sq_q rfl (fun W hT => r_nilCheck rfl) ?_
  refine sq_q rfl (fun W hT => r_fieldAddr T.fld59_0 rfl) ?_
  refine sq_q rfl (fun W hT => r_fieldAddr T.fld31_0 rfl) ?_
  refine sq_q rfl (fun W hT => r_load1 (v := S _) T.one9 rfl (Blk.cell (show Blk W b _ _ from hT.1.trans o3) rfl)) ?_
  refine sq_q rfl (fun W hT => r_move (v := .int _ _) rfl) ?_
  refine sq_lit1 (ps := [(0, .tmp 12)]) (vs := [.int _ _]) rfl T.lit34 (by decide) rfl (by simp only [List.forall_mem_cons, List.not_mem_nil, false_imp_iff, implies_true, and_true]; exact rfl) rfl ?_
  intro b4 w5 e6 c7 hb8
  have ge_b4 : w.heap.size ≤ b4 := by rw [e6]; exact HC.size
  have ne_b_b4 : b ≠ b4 := by rw [e6]; exact hb.ne_size
  replace HC := HC.then c7
  replace hb := hb.tr0 c7
  replace ho := ho.tr0 c7
  clear e6
  refine ext_T (b := b4) ⟨(Eq.trans hb o3.symm), trivial⟩ ?_
  have o9 := hb8
  refine sq_q rfl (fun W hT => r_bytesStr T.u34 T.u5 T.u9 rfl (Sl.of_one (c := uE) (x := c) (D := fun _ => True) (show Blk W b4 _ _ from hT.1.trans o9) rfl trivial)) ?_
  refine sq_q rfl (fun W hT => r_sadd rfl rfl (by simp only [List.length_append, List.length_cons, List.length_nil] at *; omega)) ?_
  refine sq_q rfl (fun W hT => r_nilCheck rfl) ?_
  refine sq_q rfl (fun W hT => r_fieldAddr T.fld59_0 rfl) ?_
  refine sq_q rfl (fun W hT => r_fieldAddr T.fld31_0 rfl) ?_
  refine sq_store2 rfl T.size9 (v := S _) rfl rfl rfl hb rfl (Nat.le_of_ble_eq_true rfl) (by simp [Value.oneCell', S]) rfl ?_
  intro w10 c11 hb12; simp only [setVs, setV] at hb12
  clear hb
  replace HC := HC.trans c11 (by intro x hx; simp only [List.mem_singleton] at hx; subst hx; exact .inl (by simp))
  replace ho := ho.tr c11 (by intro x hx; simp only [List.mem_cons, List.mem_nil_iff, or_false] at hx; subst hx; exact fun h => h.2 rfl)
  replace hb8 := hb8.tr1 c11 (Ne.symm ne_b_b4)
  clear o3
  clear o9
  refine sq_nil ?_
  refine then_n ?_
  refine x_seq ?_
  refine x_draw [(0, 0), (1, 0), (2, 0), (3, 0), (4, 0), (5, 0), (6, 0), (7, 1), (8, 0), (9, 0), (10, 0), (11, 0), (12, 0), (13, 2)] T.mixed rfl rfl rfl (fun W => W.heap[b4]? = w10.heap[b4]? ∧ W.heap[b]? = w10.heap[b]? ∧ True) ⟨rfl, rfl, trivial⟩ ?_
  have o15 := hb8
  have o16 := hb12
  have c14 := Chg.drew w10
  generalize World.drew w10 = w13 at c14 ⊢
  replace HC := HC.then c14
  replace ho := ho.tr0 c14
  replace hb8 := hb8.tr0 c14
  replace hb12 := hb12.tr0 c14
  refine sq_q rfl (fun W hT => r_move (v := .pointer _) rfl) ?_
  refine sq_q rfl (fun W hT => r_move (v := .pointer _) rfl) ?_
  refine sq_q rfl (fun W hT => r_nilCheck rfl) ?_
  refine sq_q rfl (fun W hT => r_fieldAddr T.fld59_0 rfl) ?_
  refine sq_q rfl (fun W hT => r_fieldAddr T.fld31_1 rfl) ?_
  refine sq_q rfl (fun W hT => r_load1 (v := S _) T.one9 rfl (Blk.cell (show Blk W b _ _ from hT.2.1.trans o16) rfl)) ?_
  refine sq_q rfl (fun W hT => r_move (v := .int _ _) rfl) ?_
  refine sq_lit1 (ps := [(0, .tmp 25)]) (vs := [.int _ _]) rfl T.lit34 (by decide) rfl (by simp only [List.forall_mem_cons, List.not_mem_nil, false_imp_iff, implies_true, and_true]; exact rfl) rfl ?_
  intro b17 w18 e19 c20 hb21
  have ge_b17 : w.heap.size ≤ b17 := by rw [e19]; exact HC.size
  have ne_b4_b17 : b4 ≠ b17 := by rw [e19]; exact hb8.ne_size
  have ne_b_b17 : b ≠ b17 := by rw [e19]; exact hb12.ne_size
  replace HC := HC.then c20
  replace ho := ho.tr0 c20
  replace hb8 := hb8.tr0 c20
  replace hb12 := hb12.tr0 c20
  clear e19
  refine ext_T (b := b17) ⟨(Eq.trans hb8 o15.symm), (Eq.trans hb12 o16.symm), trivial⟩ ?_
  have o22 := hb21
  refine sq_q rfl (fun W hT => r_bytesStr T.u34 T.u5 T.u9 rfl (Sl.of_one (c := uE) (x := q) (D := fun _ => True) (show Blk W b17 _ _ from hT.1.trans o22) rfl trivial)) ?_
  refine sq_q rfl (fun W hT => r_sadd rfl rfl (by simp only [List.length_append, List.length_cons, List.length_nil] at *; omega)) ?_
  refine sq_q rfl (fun W hT => r_nilCheck rfl) ?_
  refine sq_q rfl (fun W hT => r_fieldAddr T.fld59_0 rfl) ?_
  refine sq_q rfl (fun W hT => r_fieldAddr T.fld31_1 rfl) ?_
  refine sq_store2 rfl T.size9 (v := S _) rfl rfl rfl hb12 rfl (Nat.le_of_ble_eq_true rfl) (by simp [Value.oneCell', S]) rfl ?_
  intro w23 c24 hb25; simp only [setVs, setV] at hb25
  clear hb12
  replace HC := HC.trans c24 (by intro x hx; simp only [List.mem_singleton] at hx; subst hx; exact .inl (by simp))
  replace ho := ho.tr c24 (by intro x hx; simp only [List.mem_cons, List.mem_nil_iff, or_false] at hx; subst hx; exact fun h => h.2 rfl)
  replace hb8 := hb8.tr1 c24 (Ne.symm ne_b_b4)
  replace hb21 := hb21.tr1 c24 (Ne.symm ne_b_b17)
  clear o15
  clear o16
  clear o22
  refine sq_nil ?_
  refine then_n ?_
  refine x_seq ?_
  refine x_region rfl ?_
  refine w_plain rfl (st_move (v := .pointer _) rfl ?_)
  refine w_plain rfl (st_nilCheck rfl ?_)
  refine w_plain rfl (st_fieldAddr T.fld59_1 rfl ?_)
  refine w_plain rfl (st_store (v := .bool _) T.size4 rfl rfl rfl hb25 rfl (Nat.le_of_ble_eq_true rfl) (by simp [Value.oneCell', S]) rfl ?_)
  intro w26 c27 hb28; simp only [setVs, setV] at hb28
  clear hb25
  replace HC := HC.trans c27 (by intro x hx; simp only [List.mem_singleton] at hx; subst hx; exact .inl (by simp))
  replace ho := ho.tr c27 (by intro x hx; simp only [List.mem_cons, List.mem_nil_iff, or_false] at hx; subst hx; exact fun h => h.2 rfl)
  replace hb8 := hb8.tr1 c27 (Ne.symm ne_b_b4)
  replace hb21 := hb21.tr1 c27 (Ne.symm ne_b_b17)
  refine wops_nil ?_
  refine then_n ?_
  refine x_region rfl ?_
  refine w_plain rfl (st_move (v := .pointer _) rfl ?_)
  refine w_plain rfl (st_nilCheck rfl ?_)
  refine w_plain rfl (st_fieldAddr T.fld59_2 rfl ?_)
  refine w_plain rfl (st_store (v := .bool _) T.size4 rfl rfl rfl hb28 rfl (Nat.le_of_ble_eq_true rfl) (by simp [Value.oneCell', S]) rfl ?_)
  intro w29 c30 hb31; simp only [setVs, setV] at hb31
  clear hb28
  replace HC := HC.trans c30 (by intro x hx; simp only [List.mem_singleton] at hx; subst hx; exact .inl (by simp))
  replace ho := ho.tr c30 (by intro x hx; simp only [List.mem_cons, List.mem_nil_iff, or_false] at hx; subst hx; exact fun h => h.2 rfl)
  replace hb8 := hb8.tr1 c30 (Ne.symm ne_b_b4)
  replace hb21 := hb21.tr1 c30 (Ne.symm ne_b_b17)
  refine wops_nil ?_
  refine ret_none_n rfl ?_
  exact ⟨rfl, ⟨hb31, ho⟩, HC⟩

theorem Rhas_spec (s : Bytes) (c : UInt8) (w : World) (hs : s.length ≤ 9223372036854775807) : CallR Try.prog 35 #[S s, .int .u8 (c.toNat : Int)] w fun v w' => v = .bool (s.contains c) ∧ Chg [] w w' := by
  refine callR_of_wp (args := [_, _]) Try.func35 rfl (Nat.le_of_ble_eq_true rfl) ?_
  have HC : Chg [] w w := .refl _
  refine x_seq ?_
  refine x_region rfl ?_
  refine w_plain rfl (st_assign (v := .bool _) rfl ?_)
  refine wops_nil ?_
  refine then_n ?_
  refine x_seq ?_
  refine x_seq ?_
  refine x_region rfl ?_
  refine w_plain rfl (st_assign (v := .int _ _) rfl ?_)
  refine wops_nil ?_
  refine then_n ?_
  refine x_block ?_
  refine x_loop (ι := Nat) [4, 5, 6, 7, 8, 9, 10, 11, 12, 13, 14, 15, 16] (fun i => [(5, .int .i64 (i : Int))]) (fun i W => (i ≤ s.length ∧ ∀ k, k < i → byte s k ≠ c) ∧ (Chg [] w W)) (fun i => s.length - i) 0 ?_ ?_ ?_
  · exact ⟨rfl, trivial⟩
  · skip
    refine ⟨?_, HC⟩
    exact ⟨Nat.zero_le _, fun k hk => absurd hk (by omega)⟩
  intro i G2 w1 ⟨⟨hi, hn⟩, HC⟩
  change wp _ _ _ _ _ (upds (over _ _ G2) [(5, .int .i64 (i : Int))]) _ _
  refine x_seq ?_
  refine x_seq ?_
  refine x_region rfl ?_
  refine w_plain rfl (st_move (v := .int _ _) rfl ?_)
  refine w_plain rfl (st_move (v := S _) rfl ?_)
  refine w_plain rfl (st_slen (ct := #[9]) T.u9 rfl ?_)
  refine w_plain rfl (st_lss rfl rfl ?_)
  refine wops_nil ?_
  refine then_n ?_
  refine x_cond rfl (fun h0 => ?_) (fun h0 => ?_)
  · skip
    try simp only [decide_eq_true_eq, decide_eq_false_iff_not, Bool.not_eq_true', Bool.not_eq_false', Bool.not_true, Bool.not_false, ne_eq, Int.toNat_natCast, Int.toNat_zero, Int.toNat_one, Bool.not_eq_true, Bool.not_eq_false] at h0
    refine x_skip ?_
    refine then_n ?_
    refine x_seq ?_
    refine x_block ?_
    refine x_seq ?_
    refine x_region rfl ?_
    refine w_plain rfl (st_move (v := S _) rfl ?_)
    refine w_plain rfl (st_move (v := .int _ _) rfl ?_)
    refine w_plain rfl (st_sidx T.u9 rfl rfl (by omega) (by omega) ?_)
    refine w_plain rfl (st_move (v := .int _ _) rfl ?_)
    refine w_plain rfl (st_eql rfl rfl ?_)
    refine wops_nil ?_
    refine then_n ?_
    refine x_cond rfl (fun h1 => ?_) (fun h1 => ?_)
    · skip
      try simp only [decide_eq_true_eq, decide_eq_false_iff_not, Bool.not_eq_true', Bool.not_eq_false', Bool.not_true, Bool.not_false, ne_eq, Int.toNat_natCast, Int.toNat_zero, Int.toNat_one, Bool.not_eq_true, Bool.not_eq_false] at h1
      refine x_seq ?_
      refine x_region rfl ?_
      refine w_plain rfl (st_assign (v := .bool _) rfl ?_)
      refine wops_nil ?_
      refine then_n ?_
      refine x_ret ?_
      refine block_r ?_
      refine then_r ?_
      refine then_r ?_
      refine block_r ?_
      refine then_r ?_
      refine ret_tmp (v := .bool _) rfl rfl ?_
      refine ⟨?_, HC⟩
      rw [has_yes (by omega) (UInt8.toNat_inj.1 (Int.ofNat.inj h1))]
    · skip
      try simp only [decide_eq_true_eq, decide_eq_false_iff_not, Bool.not_eq_true', Bool.not_eq_false', Bool.not_true, Bool.not_false, ne_eq, Int.toNat_natCast, Int.toNat_zero, Int.toNat_one, Bool.not_eq_true, Bool.not_eq_false] at h1
      refine x_skip ?_
      refine block_n ?_
      refine then_n ?_
      refine x_region rfl ?_
      refine w_plain rfl (st_move (v := .int _ _) rfl ?_)
      refine w_plain rfl (st_addn rfl rfl (by constructor <;> omega) ?_)
      refine w_plain rfl (st_assign (v := .int _ _) rfl ?_)
      refine wops_nil ?_
      refine then_n ?_
      refine ⟨i + 1, ?_, ?_, rfl, ⟨rfl, trivial⟩, ?_⟩
      · skip
        refine ⟨?_, HC⟩
        exact ⟨by omega, fun k hk => by by_cases e : k = i; (subst e; exact fun h => h1 (by rw [h])); exact hn k (by omega)⟩
      · skip
        show s.length - (i + 1) < s.length - i; omega
      repeat (first | exact agree_upds agree_over rfl | refine agree_upd ?_ rfl | refine agree_upds ?_ rfl | refine agree_over_sub ?_ rfl)
  · skip
    try simp only [decide_eq_true_eq, decide_eq_false_iff_not, Bool.not_eq_true', Bool.not_eq_false', Bool.not_true, Bool.not_false, ne_eq, Int.toNat_natCast, Int.toNat_zero, Int.toNat_one, Bool.not_eq_true, Bool.not_eq_false] at h0
    refine x_exit ?_
    refine then_x ?_
    refine then_x ?_
    refine block_x ?_
    refine then_n ?_
    refine x_seq ?_
    refine x_region rfl ?_
    refine w_plain rfl (st_assign (v := .bool _) rfl ?_)
    refine wops_nil ?_
    refine then_n ?_
    refine x_ret ?_
    refine ret_tmp (v := .bool _) rfl rfl ?_
    refine ⟨?_, HC⟩
    rw [has_no (fun k hk => hn k (by omega))]

end Go.Proofs.Ytbnbkndeodankaa.K
