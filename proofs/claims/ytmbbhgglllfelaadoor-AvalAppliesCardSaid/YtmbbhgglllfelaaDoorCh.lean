/- Numbers as texts. -/
import Derived.Test.YtmbbhgglllfelaaDoorCg
import Derived.Test.YtmbbhgglllfelaaDoorKitN
set_option linter.unusedVariables false
set_option linter.unusedSimpArgs false
set_option autoImplicit false
set_option maxRecDepth 20000
namespace Go.Proofs.YtmbbhgglllfelaaDoor.K
open Go Go.Proofs Go.RowKit

/-- A number's digits. -/
def decT (n : Nat) : Bytes := if h : n < 10 then [digC n] else decT (n / 10) ++ [digC (n % 10)]
termination_by n
decreasing_by omega
def bV (c : UInt8) : Value := .int .u8 (c.toNat : Int)
/-- What the loop over the digits keeps. -/
def TI (n a m : Nat) (z : Bytes) (cs : List Value) : Prop := cs.length = 20 ∧ a + z.length = 20 ∧ cs.drop a = z.map bV ∧ decT n = decT m ++ z ∧ m * 10 ^ z.length ≤ n ∧ (z = [] ∨ 0 < m)
theorem TI.pos {n a m : Nat} {z : Bytes} {cs : List Value} (hn : n ≤ 9223372036854775807) (h : TI n a m z cs) : 1 ≤ a := by
  obtain ⟨_, h2, _, _, h5, h6⟩ := h
  rcases h6 with rfl | h6
  · simp at h2; omega
  · have h7 : 10 ^ z.length ≤ n := Nat.le_trans (Nat.le_mul_of_pos_left _ h6) h5
    have h8 : 10 ^ z.length < 10 ^ 19 := by have : (10 : Nat) ^ 19 = 10000000000000000000 := rfl; omega
    have := (Nat.pow_lt_pow_iff_right (by omega : 1 < 10)).1 h8
    omega
theorem TI.cells {n a m : Nat} {z : Bytes} {cs : List Value} {c : UInt8} (hn : n ≤ 9223372036854775807) (h : TI n a m z cs) : (cs.set (a - 1) (bV c)).length = 20 ∧ (cs.set (a - 1) (bV c)).drop (a - 1) = (c :: z).map bV := by
  have hp := h.pos hn
  obtain ⟨h1, h2, h3, _⟩ := h
  refine ⟨by simpa using h1, ?_⟩
  have hlt : a - 1 < cs.length := by omega
  rw [List.drop_eq_getElem_cons (by simpa using hlt), List.getElem_set_self, List.drop_set, if_pos (by omega), show a - 1 + 1 = a by omega, h3]
  rfl
theorem TI.last {n a m : Nat} {z : Bytes} {cs : List Value} (h : TI n a m z cs) (hm : m / 10 = 0) : decT n = digC (m % 10) :: z := by
  have hlt : m < 10 := by omega
  rw [h.2.2.2.1, decT, dif_pos hlt, Nat.mod_eq_of_lt hlt]; rfl
theorem TI.step {n a m : Nat} {z : Bytes} {cs : List Value} (hn : n ≤ 9223372036854775807) (h : TI n a m z cs) (hm : ¬ m / 10 = 0) : TI n (a - 1) (m / 10) (digC (m % 10) :: z) (cs.set (a - 1) (bV (digC (m % 10)))) := by
  have hp := h.pos hn
  have hc := h.cells (c := digC (m % 10)) hn
  obtain ⟨h1, h2, h3, h4, h5, h6⟩ := h
  refine ⟨hc.1, by simp only [List.length_cons]; omega, hc.2, ?_, ?_, .inr (by omega)⟩
  · rw [h4, decT, dif_neg (by omega)]; simp
  · rw [List.length_cons, Nat.pow_succ, Nat.mul_comm (10 ^ z.length), ← Nat.mul_assoc]
    exact Nat.le_trans (Nat.mul_le_mul_right _ (Nat.div_mul_le_self m 10)) h5
theorem digC_nat : ((List.range 10).all fun d => decide ((digC d).toNat = 48 + d)) = true := by kernel_rfl
theorem digC_to {d : Nat} (h : d < 10) : (digC d).toNat = 48 + d := of_decide_eq_true (List.all_eq_true.1 digC_nat d (List.mem_range.2 h))
theorem sl_cut {w : World} {b i : Nat} {cs : List Value} {z : Bytes} {T : TypeId} (h : Blk w b cs T) (hz : cs.drop i = z.map bV) : Sl uE w (fun _ => True) (some ⟨b, 0 + i * 1, none⟩) z :=
  .inr ⟨b, 0 + i * 1, rfl, h.lt, trivial, fun j x hx => ⟨_, rfl, fun j2 v hj => by
    cases j2 with
    | succ j2 => simp at hj
    | zero =>
      simp at hj; subst hj
      refine h.cell ?_
      rw [nthV_eq]
      have h1 : (cs.drop i)[j]? = some (bV x) := by rw [hz, List.getElem?_map, hx]; rfl
      rw [List.getElem?_drop] at h1
      show cs[0 + i * 1 + j * 1 + 0]? = _
      rw [show 0 + i * 1 + j * 1 + 0 = i + j by omega]; exact h1⟩⟩

theorem Text_spec (n : Nat) (hn : n ≤ 9223372036854775807) (w : World) : CallR Tryd.prog 73 #[.int .i64 (n : Int)] w fun v w' => v = S (decT n) ∧ Chg [] w w' := by
 refine callR_of_wp (args := [_]) Tryd.func73 rfl (Nat.le_of_ble_eq_true rfl) ?_
 have HC : Chg [] w w := .refl _
 refine sr rfl <| aS rfl <| en <| sr rfl <| Wp rfl <| st_alloc T.zero113 ?_
 intro b3 w1 e2 c3 hb4
 have ge_b3 : w.heap.size ≤ b3 := by rw [e2]; exact HC.size
 replace HC := HC.then c3
 clear e2
 refine en <| sr rfl <| mI rfl <| Wp rfl <| st_convk T.u2 T.u36 rfl (by exact wrapu64_id (by omega) (by omega)) <| aI rfl <| aI rfl <| en <| x_seq <| sr rfl <| mI rfl <| Wp rfl <| st_lss rfl rfl <| en <| x_cond rfl (fun h0 => ?_) (fun h0 => ?_)
 ·try simp only [nm, ne_eq] at h0
  exfalso; omega
 ·try simp only [nm, ne_eq] at h0
  refine x_skip <| then_n <| x_seq <| x_block <| x_loop (ι := Nat × Nat × Bytes × List Value) [4, 5, 12, 13, 14, 15, 16, 17, 18, 19, 20, 21, 22, 23] (fun ⟨a, m, z, cs⟩ => [(4, .int .i64 (a : Int)), (5, .int .u64 (m : Int))]) (fun ⟨a, m, z, cs⟩ W => (TI n a m z cs) ∧ (Chg [] w W) ∧ (Blk W b3 cs 113)) (fun ⟨a, m, z, cs⟩ => a) (20, n, [], [.int .u8 0, .int .u8 0, .int .u8 0, .int .u8 0, .int .u8 0, .int .u8 0, .int .u8 0, .int .u8 0, .int .u8 0, .int .u8 0, .int .u8 0, .int .u8 0, .int .u8 0, .int .u8 0, .int .u8 0, .int .u8 0, .int .u8 0, .int .u8 0, .int .u8 0, .int .u8 0]) ?_ ?_ ?_
  · exact ⟨rfl, rfl, trivial⟩
  ·refine ⟨?_, HC, hb4⟩
   exact ⟨rfl, rfl, rfl, by simp, by simp, .inl rfl⟩
  intro ⟨a, m, z, cs⟩ G6 w5 ⟨hTI, HC, hb3⟩
  change wp _ _ _ _ _ (upds (over _ _ G6) [(4, .int .i64 (a : Int)), (5, .int .u64 (m : Int))]) _ _
  have ha := hTI.pos hn
  have ha2 : a ≤ 20 := by have := hTI.2.1; omega
  have hmn : m ≤ n := Nat.le_trans (Nat.le_mul_of_pos_right _ (Nat.pos_of_ne_zero (by simp))) hTI.2.2.2.2.1
  have hd := digC_to (d := m % 10) (by omega)
  have hs13 : IntKind.i64.wrap ((a : Int) - 1) = ((a - 1 : Nat) : Int) := by rw [wrap64_id (by omega) (by omega)]; omega
  have hm16 : (m : Int).tmod 10 = ((m % 10 : Nat) : Int) := by rw [Int.tmod_eq_emod_of_nonneg (by omega)]; omega
  have hd18 : IntKind.u8.wrap (48 + ((m % 10 : Nat) : Int)) = ((digC (m % 10)).toNat : Int) := by rw [wrapu8_id (by omega) (by omega)]; omega
  have hq21 : IntKind.u64.wrap ((m : Int).tdiv 10) = ((m / 10 : Nat) : Int) := by rw [quou64 (by omega) (by omega) (by omega)]; omega
  refine x_block <| sr rfl <| mI rfl <| Wp rfl <| st_subk rfl rfl (by exact hs13) <| aI rfl <| en <| sr rfl <| mI rfl <| mI rfl <| Wp rfl <| st_remk rfl rfl (by decide) (by exact hm16) <| Wp rfl <| st_convk T.u36 T.u5 rfl (by exact wrapu8_id (by omega) (by omega)) <| Wp rfl <| st_addk rfl rfl (by exact hd18) <| Wp rfl <| st_arrAddr T.u113 T.size5 rfl rfl (by omega) (by omega) <| Wp rfl <| st_store (v := .int _ _) T.size5 rfl rfl rfl hb3 rfl (by have := hTI.1; simp only [List.length_singleton, Int.toNat_natCast]; omega) (by simp [Value.oneCell', S]) rfl ?_
  intro w7 c8 hb9
  replace hb9 : Blk w7 b3 (cs.set (a - 1) (bV (digC (m % 10)))) 113 := by have := hb9; simpa [setVs, setV_eq, Int.toNat_natCast, Nat.zero_add, bV] using this
  clear hb3
  replace HC := HC.then1 c8 ge_b3
  refine en <| sr rfl <| mI rfl <| Wp rfl <| st_quok rfl rfl (by decide) (by exact hq21) <| aI rfl <| en <| sr rfl <| mI rfl <| Wp rfl <| st_eql rfl rfl <| en <| x_cond rfl (fun h1 => ?_) (fun h1 => ?_)
  ·try simp only [nm, ne_eq] at h1
   have hfin := hTI.last (by omega)
   have hcs := hTI.cells (c := digC (m % 10)) hn
   refine x_exit <| block_o rfl <| then_x <| block_x <| then_n <| x_seq <| sr rfl <| mI rfl <| Wp rfl <| st_lss rfl rfl <| en <| x_cond rfl (fun h2 => ?_) (fun h2 => ?_)
   ·try simp only [nm, ne_eq] at h2
    exfalso; omega
   ·try simp only [nm, ne_eq] at h2
    refine x_skip <| then_n <| sr rfl <| mI rfl <| Wp rfl <| st_arrCut (i := a - 1) (k := (digC (m % 10) :: z).length) T.u113 T.size5 rfl ⟨_, rfl⟩ (by omega) (by simp only [List.length_cons]; have := hTI.2.1; omega) <| Wp rfl <| st_bytesStr T.u48 T.u5 T.u9 rfl (sl_cut hb9 hcs.2) <| aS rfl <| en <| x_ret <| ret_tmp (v := S _) rfl rfl ?_
    rw [hfin]
    exact ⟨rfl, HC⟩
  ·try simp only [nm, ne_eq] at h1
   refine x_skip <| block_n <| then_n <| ⟨(a - 1, m / 10, digC (m % 10) :: z, cs.set (a - 1) (bV (digC (m % 10)))), ?_, ?_, rfl, ⟨rfl, rfl, trivial⟩, ?_⟩
   ·refine ⟨?_, HC, hb9⟩
    exact hTI.step hn (by omega)
   ·show a - 1 < a; omega
   repeat (first | exact agree_upds agree_over rfl | refine agree_upd ?_ rfl | refine agree_upds ?_ rfl | refine agree_over_sub ?_ rfl)

end Go.Proofs.YtmbbhgglllfelaaDoor.K
