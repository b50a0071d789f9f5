/- The document: conversions read. -/
import Derived.Test.YtlpndcpbnbeohaaDoorNb
set_option linter.unusedVariables false
set_option linter.unusedSimpArgs false
set_option autoImplicit false
set_option maxRecDepth 20000
namespace Go.Proofs.YtlpndcpbnbeohaaDoor.K
open Go Go.Proofs Go.RowKit

/-- A conversion's cells, as the document has them. -/
def rag (x : Spc) : List Value := [.bool x.left, .bool x.zero, .int .i64 x.width, .int .i64 ((x.prec.toNat : Nat) : Int), .bool (decide (0 ≤ x.prec)), .int .u8 (x.conv.toNat : Int)]
def cntW (s : Bytes) : Int := if cntN s ≤ 1000 then ((cntN s : Nat) : Int) else -1
theorem rcountW_spec (s : Bytes) (w : World) (hs : s.length ≤ 100000000000000) : CallR Tryd.prog 45 #[S s] w fun v w' => v = .tuple ⟨[.int .i64 (cntW s), .int .i64 ((cntK s : Nat) : Int)]⟩ ∧ Chg [] w w' := rcount_spec s w hs
theorem cntW_neg (s : Bytes) : cntW s < 0 ↔ ¬ cntN s ≤ 1000 := by unfold cntW; split <;> omega
theorem cv_tab : ((List.range 256).all fun n => decide (0 ≤ idx [100, 105, 117, 111, 120, 88, 99, 115, 98] (UInt8.ofNat n)) == (n == 100 || n == 105 || n == 117 || n == 111 || n == 120 || n == 88 || n == 99 || n == 115 || n == 98)) = true := by kernel_rfl
theorem cv_at (c : UInt8) : decide (0 ≤ idx [100, 105, 117, 111, 120, 88, 99, 115, 98] c) = (c.toNat == 100 || c.toNat == 105 || c.toNat == 117 || c.toNat == 111 || c.toNat == 120 || c.toNat == 88 || c.toNat == 99 || c.toNat == 115 || c.toNat == 98) := by
  have h := beq_iff_eq.1 (List.all_eq_true.1 cv_tab c.toNat (List.mem_range.2 c.toNat_lt))
  rw [UInt8.ofNat_toNat] at h; exact h
theorem cv_iff (c : UInt8) : 0 ≤ idx [100, 105, 117, 111, 120, 88, 99, 115, 98] c ↔ ((c.toNat : Int) = 100 ∨ (c.toNat : Int) = 105 ∨ (c.toNat : Int) = 117 ∨ (c.toNat : Int) = 111 ∨ (c.toNat : Int) = 120 ∨ (c.toNat : Int) = 88 ∨ (c.toNat : Int) = 99 ∨ (c.toNat : Int) = 115 ∨ (c.toNat : Int) = 98) := by
  have h := cv_at c
  constructor
  · intro h2
    rw [decide_eq_true h2] at h
    have h3 := h.symm
    simp only [Bool.or_eq_true, beq_iff_eq] at h3
    omega
  · intro h2
    refine of_decide_eq_true <| h.trans ?_
    simp only [Bool.or_eq_true, beq_iff_eq]
    omega
theorem hp_46 {s : Bytes} {i : Nat} (h : i < s.length) : Lib.hasPrefix (s.drop i) [46] = decide (((byte s i).toNat : Int) = 46) := by
  rw [drop_byte h]
  show (((46 : UInt8) == byte s i) && true) = _
  rw [Bool.and_true, Bool.eq_iff_iff, beq_iff_eq, decide_eq_true_eq]
  exact ⟨fun e => by rw [← e]; rfl, fun e => UInt8.toNat_inj.1 (by show 46 = _; omega)⟩
theorem byte_drop {s : Bytes} {i : Nat} : byte (s.drop i) 0 = byte s i := by simp [byte, List.getD_eq_getElem?_getD]
def J1 (x : Spc) (num : Bool) (s : Bytes) : Nat := if num = true ∧ 0 ≤ x.prec then (x.prec - (s.length : Int)).toNat else 0
def JN (x : Spc) (num : Bool) (sg s : Bytes) : Nat := if num = true then (nouV x sg - (s.length : Int)).toNat else 0
theorem J1_no {x : Spc} {num : Bool} {s : Bytes} (h : ¬ (num = true ∧ 0 ≤ x.prec)) : J1 x num s = 0 := if_neg h
theorem J1_yes {x : Spc} {num : Bool} {s : Bytes} (h : num = true) (h2 : 0 ≤ x.prec) : J1 x num s = (x.prec - (s.length : Int)).toNat := if_pos ⟨h, h2⟩
theorem JN_yes {x : Spc} {num : Bool} {sg s : Bytes} (h : num = true) (h1 : x.zero = true) (h2 : x.left = false) (h3 : ¬ 0 ≤ x.prec) : JN x num sg s = (x.width - (sg.length : Int) - (s.length : Int)).toNat := by
  unfold JN nouV; rw [if_pos h, if_pos ⟨h1, h2, by omega⟩]
theorem JN_no {x : Spc} {num : Bool} {sg s : Bytes} (h : ¬ (num = true ∧ x.zero = true ∧ x.left = false ∧ ¬ 0 ≤ x.prec)) : JN x num sg s = J1 x num s := by
  unfold JN J1 nouV
  by_cases h0 : num = true
  · rw [if_pos h0, if_neg (fun h2 => h ⟨h0, h2.1, h2.2.1, by omega⟩)]
    by_cases h1 : 0 ≤ x.prec
    · rw [if_pos ⟨h0, h1⟩]
    · rw [if_neg (fun h2 => h1 h2.2)]; omega
  · rw [if_neg h0, if_neg (fun h2 => h0 h2.1)]
theorem JN_ge (x : Spc) (num : Bool) (sg s : Bytes) : J1 x num s ≤ JN x num sg s := by
  by_cases h : num = true ∧ x.zero = true ∧ x.left = false ∧ ¬ 0 ≤ x.prec
  · rw [J1_no (fun h2 => h.2.2.2 h2.2)]; exact Nat.zero_le _
  · rw [JN_no h]; exact Nat.le_refl _
def padI (x : Spc) (s : Bytes) (i : Nat) : Bytes := if x.left = true then s ++ List.replicate i 32 else List.replicate i 32 ++ s
theorem padI_len (x : Spc) (s : Bytes) (i : Nat) : (padI x s i).length = s.length + i := by unfold padI; split <;> simp only [List.length_append, List.length_replicate] <;> omega
theorem padI_l {x : Spc} {s : Bytes} {i : Nat} (h : x.left = true) : padI x s i ++ [32] = padI x s (i + 1) := by
  unfold padI; rw [if_pos h, if_pos h, List.replicate_succ', List.append_assoc]
theorem padI_r {x : Spc} {s : Bytes} {i : Nat} (h : ¬ x.left = true) : [32] ++ padI x s i = padI x s (i + 1) := by
  unfold padI; rw [if_neg h, if_neg h]; rfl
theorem padI_0 (x : Spc) (s : Bytes) : padI x s 0 = s := by unfold padI; split <;> simp

set_option maxHeartbeats 1000000 in
theorem rread_spec (s : Bytes) (w : World) (hs : s.length ≤ 100000000000000) : CallR Tryd.prog 29 #[S s] w fun v w' => ∃ l z wd pr h cv n, v = .tuple ⟨[.agg ⟨[.bool l, .bool z, .int .i64 wd, .int .i64 pr, .bool h, .int .u8 cv]⟩, .int .i64 n]⟩ ∧ (rdO s = false → n = 0) ∧ (rdO s = true → ∃ i : Nat, n = (i : Int) + 1 ∧ i + 1 ≤ s.length ∧ s.drop (i + 1) = (rd3 s).drop 1 ∧ [.bool l, .bool z, .int .i64 wd, .int .i64 pr, .bool h, .int .u8 cv] = rag (rdX s)) ∧ Chg [] w w' := by
 refine callR_of_wp (args := [_]) Tryd.func29 rfl (Nat.le_of_ble_eq_true rfl) ?_
 have HC : Chg [] w w := .refl _
 refine sr rfl <| Wp rfl <| st_alloc T.zero68 ?_
 intro b2 w1 e2 c3 hb4
 have ge_b2 : w.heap.size ≤ b2 := by rw [e2]; exact HC.size
 replace HC := HC.then c3
 clear e2
 refine aI rfl <| en <| sr rfl <| Wp rfl <| st_bld (ps := []) (vs := [.bool _, .bool _, .int _ _, .int _ _, .bool _, .int _ _]) T.bld68 rfl <| Wp rfl <| st_alloc T.zero68 ?_
 intro b4 w5 e6 c7 hb8
 have ge_b4 : w.heap.size ≤ b4 := by rw [e6]; exact HC.size
 have ne_b2_b4 : b2 ≠ b4 := by rw [e6]; exact hb4.ne_size
 replace HC := HC.then c7
 replace hb4 := hb4.tr0 c7
 clear e6
 refine Wp rfl <| st_store (v := .agg ⟨[.bool _, .bool _, .int _ _, .int _ _, .bool _, .int _ _]⟩) T.size68 rfl rfl rfl hb8 rfl (Nat.le_of_ble_eq_true rfl) (by simp [Value.oneCell', S]) rfl ?_
 intro w9 c10 hb11; simp only [setVs, setV] at hb11
 clear hb8
 replace HC := HC.then1 c10 ge_b4
 replace hb4 := hb4.tr1 c10 ne_b2_b4
 refine en <| sr rfl <| aI rfl <| en <| x_seq <| x_block <| x_loop (ι := Nat × Bool × Bool) [5, 9, 10, 11, 12, 13, 14, 15, 16, 17, 18, 19, 20, 21, 22, 23, 24, 25, 26, 27, 28, 29, 30, 31, 32, 33, 34, 35, 36, 37, 38, 39, 40, 41, 42, 43, 44] (fun ⟨i, l, z⟩ => [(5, .int .i64 (i : Int))]) (fun ⟨i, l, z⟩ W => (i ≤ s.length ∧ flgV s false false = flgV (s.drop i) l z) ∧ (Chg [] w W) ∧ (Blk W b4 [.bool l, .bool z, .int .i64 0, .int .i64 0, .bool false, .int .u8 0] 68) ∧ (Blk W b2 [.bool false, .bool false, .int .i64 0, .int .i64 0, .bool false, .int .u8 0] 68)) (fun ⟨i, l, z⟩ => s.length - i) (0, false, false) ?_ ?_ ?_
 · exact ⟨rfl, trivial⟩
 ·refine ⟨?_, HC, hb11, hb4⟩
  exact ⟨Nat.zero_le _, rfl⟩
 intro ⟨i, l, z⟩ G13 w12 ⟨⟨hi, hfl⟩, HC, hb4, hb2⟩
 change wp _ _ _ _ _ (upds (over _ _ G13) [(5, .int .i64 (i : Int))]) _ _
 refine x_seq <| sr rfl <| mI rfl <| mS rfl <| Wp rfl <| st_slen (ct := #[9]) T.u9 rfl <| Wp rfl <| st_lss rfl rfl <| mB rfl <| w_split (d := 13) rfl (fun g14 => ?_) (fun g14 => ?_)
 ·try simp only [nm, ne_eq] at g14
  refine w_yes 4 13 true <| st_move (v := S _) rfl <| w_yes 4 13 true <| st_move (v := .int _ _) rfl <| w_yes 4 13 true <| st_sidx T.u9 rfl rfl (by omega) (by omega) <| w_yes 4 13 true <| st_eql rfl rfl <| w_yes 4 13 true <| st_move (v := .bool _) rfl <| w_split (d := 18) rfl (fun g15 => ?_) (fun g15 => ?_)
  ·try simp only [nm, ne_eq] at g15
   have hcc : (((byte s i).toNat : Nat) : Int) = 45 ∨ (((byte s i).toNat : Nat) : Int) = 48 := .inl (by assumption)
   iterate 4 refine w_no 9 18 false ?_
   refine w_yes 4 13 true <| st_pick (b := true) (v := .bool _) rfl rfl <| pT rfl rfl <| en <| x_cond (t := true) rfl (fun h0 => ?_) (fun h0 => ?_)
   rotate_left
   · exact absurd h0 (by decide)
   have hil : i < s.length := by omega
   refine x_skip <| then_n <| x_block <| sr rfl <| fa T.fld68_0 rfl <| Wp rfl <| st_load1 (v := .bool _) T.one4 rfl (hb4.cell rfl) <| mB rfl <| w_split (d := 27) rfl (fun g16 => ?_) (fun g16 => ?_)
   ·try simp only [nm, ne_eq] at g16
    obtain rfl : l = true := by assumption
    iterate 4 refine w_no 2 27 false ?_
    refine pT rfl rfl <| fa T.fld68_0 rfl <| Wp rfl <| st_store (v := .bool _) T.size4 rfl rfl rfl hb4 rfl (Nat.le_of_ble_eq_true rfl) (by simp [Value.oneCell', S]) rfl ?_
    intro w17 c18 hb19; simp only [setVs, setV] at hb19
    clear hb4
    replace HC := HC.then1 c18 ge_b4
    replace hb2 := hb2.tr1 c18 ne_b2_b4
    refine en <| sr rfl <| fa T.fld68_1 rfl <| Wp rfl <| st_load1 (v := .bool _) T.one4 rfl (hb19.cell rfl) <| mB rfl <| w_split (d := 36) rfl (fun g20 => ?_) (fun g20 => ?_)
    ·try simp only [nm, ne_eq] at g20
     obtain rfl : z = true := by assumption
     iterate 4 refine w_no 2 36 false ?_
     refine pT rfl rfl <| fa T.fld68_1 rfl <| Wp rfl <| st_store (v := .bool _) T.size4 rfl rfl rfl hb19 rfl (Nat.le_of_ble_eq_true rfl) (by simp [Value.oneCell', S]) rfl ?_
     intro w21 c22 hb23; simp only [setVs, setV] at hb23
     clear hb19
     replace HC := HC.then1 c22 ge_b4
     replace hb2 := hb2.tr1 c22 ne_b2_b4
     refine en <| x_region rfl <| mI rfl <| Wp rfl <| st_addn rfl rfl (by constructor <;> omega) <| aI rfl <| wops_nil <| block_n <| then_n <| ⟨(i + 1, true, true), ?_, ?_, rfl, ⟨rfl, trivial⟩, ?_⟩
     ·refine ⟨?_, HC, hb23, hb2⟩
      exact ⟨by omega, by rw [hfl, drop_byte hil]; exact flg_on hcc⟩
     ·show s.length - (i + 1) < s.length - i; omega
     repeat (first | exact agree_upds agree_over rfl | refine agree_upd ?_ rfl | refine agree_upds ?_ rfl | refine agree_over_sub ?_ rfl)
    ·try simp only [nm, ne_eq] at g20
     obtain rfl : z = false := by assumption
     refine w_yes 2 36 false <| st_move (v := S _) rfl <| w_yes 2 36 false <| st_move (v := .int _ _) rfl <| w_yes 2 36 false <| st_sidx T.u9 rfl rfl (by omega) (by omega) <| w_yes 2 36 false <| st_eql rfl rfl <| pF rfl rfl <| fa T.fld68_1 rfl <| Wp rfl <| st_store (v := .bool _) T.size4 rfl rfl rfl hb19 rfl (Nat.le_of_ble_eq_true rfl) (by simp [Value.oneCell', S]) rfl ?_
     intro w24 c25 hb26; simp only [setVs, setV] at hb26
     clear hb19
     replace HC := HC.then1 c25 ge_b4
     replace hb2 := hb2.tr1 c25 ne_b2_b4
     refine en <| x_region rfl <| mI rfl <| Wp rfl <| st_addn rfl rfl (by constructor <;> omega) <| aI rfl <| wops_nil <| block_n <| then_n <| ⟨(i + 1, true, (decide (((byte s i).toNat : Int) = 48))), ?_, ?_, rfl, ⟨rfl, trivial⟩, ?_⟩
     ·refine ⟨?_, HC, hb26, hb2⟩
      exact ⟨by omega, by rw [hfl, drop_byte hil]; exact flg_on hcc⟩
     ·show s.length - (i + 1) < s.length - i; omega
     repeat (first | exact agree_upds agree_over rfl | refine agree_upd ?_ rfl | refine agree_upds ?_ rfl | refine agree_over_sub ?_ rfl)
   ·try simp only [nm, ne_eq] at g16
    obtain rfl : l = false := by assumption
    refine w_yes 2 27 false <| st_move (v := S _) rfl <| w_yes 2 27 false <| st_move (v := .int _ _) rfl <| w_yes 2 27 false <| st_sidx T.u9 rfl rfl (by omega) (by omega) <| w_yes 2 27 false <| st_eql rfl rfl <| pF rfl rfl <| fa T.fld68_0 rfl <| Wp rfl <| st_store (v := .bool _) T.size4 rfl rfl rfl hb4 rfl (Nat.le_of_ble_eq_true rfl) (by simp [Value.oneCell', S]) rfl ?_
    intro w27 c28 hb29; simp only [setVs, setV] at hb29
    clear hb4
    replace HC := HC.then1 c28 ge_b4
    replace hb2 := hb2.tr1 c28 ne_b2_b4
    refine en <| sr rfl <| fa T.fld68_1 rfl <| Wp rfl <| st_load1 (v := .bool _) T.one4 rfl (hb29.cell rfl) <| mB rfl <| w_split (d := 36) rfl (fun g30 => ?_) (fun g30 => ?_)
    ·try simp only [nm, ne_eq] at g30
     obtain rfl : z = true := by assumption
     iterate 4 refine w_no 2 36 false ?_
     refine pT rfl rfl <| fa T.fld68_1 rfl <| Wp rfl <| st_store (v := .bool _) T.size4 rfl rfl rfl hb29 rfl (Nat.le_of_ble_eq_true rfl) (by simp [Value.oneCell', S]) rfl ?_
     intro w31 c32 hb33; simp only [setVs, setV] at hb33
     clear hb29
     replace HC := HC.then1 c32 ge_b4
     replace hb2 := hb2.tr1 c32 ne_b2_b4
     refine en <| x_region rfl <| mI rfl <| Wp rfl <| st_addn rfl rfl (by constructor <;> omega) <| aI rfl <| wops_nil <| block_n <| then_n <| ⟨(i + 1, (decide (((byte s i).toNat : Int) = 45)), true), ?_, ?_, rfl, ⟨rfl, trivial⟩, ?_⟩
     ·refine ⟨?_, HC, hb33, hb2⟩
      exact ⟨by omega, by rw [hfl, drop_byte hil]; exact flg_on hcc⟩
     ·show s.length - (i + 1) < s.length - i; omega
     repeat (first | exact agree_upds agree_over rfl | refine agree_upd ?_ rfl | refine agree_upds ?_ rfl | refine agree_over_sub ?_ rfl)
    ·try simp only [nm, ne_eq] at g30
     obtain rfl : z = false := by assumption
     refine w_yes 2 36 false <| st_move (v := S _) rfl <| w_yes 2 36 false <| st_move (v := .int _ _) rfl <| w_yes 2 36 false <| st_sidx T.u9 rfl rfl (by omega) (by omega) <| w_yes 2 36 false <| st_eql rfl rfl <| pF rfl rfl <| fa T.fld68_1 rfl <| Wp rfl <| st_store (v := .bool _) T.size4 rfl rfl rfl hb29 rfl (Nat.le_of_ble_eq_true rfl) (by simp [Value.oneCell', S]) rfl ?_
     intro w34 c35 hb36; simp only [setVs, setV] at hb36
     clear hb29
     replace HC := HC.then1 c35 ge_b4
     replace hb2 := hb2.tr1 c35 ne_b2_b4
     refine en <| x_region rfl <| mI rfl <| Wp rfl <| st_addn rfl rfl (by constructor <;> omega) <| aI rfl <| wops_nil <| block_n <| then_n <| ⟨(i + 1, (decide (((byte s i).toNat : Int) = 45)), (decide (((byte s i).toNat : Int) = 48))), ?_, ?_, rfl, ⟨rfl, trivial⟩, ?_⟩
     ·refine ⟨?_, HC, hb36, hb2⟩
      exact ⟨by omega, by rw [hfl, drop_byte hil]; exact flg_on hcc⟩
     ·show s.length - (i + 1) < s.length - i; omega
     repeat (first | exact agree_upds agree_over rfl | refine agree_upd ?_ rfl | refine agree_upds ?_ rfl | refine agree_over_sub ?_ rfl)
  ·try simp only [nm, ne_eq] at g15
   have hc45 : ¬ (((byte s i).toNat : Nat) : Int) = 45 := by assumption
   refine w_yes 9 18 false <| st_move (v := S _) rfl <| w_yes 9 18 false <| st_move (v := .int _ _) rfl <| w_yes 9 18 false <| st_sidx T.u9 rfl rfl (by omega) (by omega) <| w_yes 9 18 false <| st_eql rfl rfl <| w_yes 4 13 true <| st_pick (b := false) (v := .bool _) rfl rfl <| pT rfl rfl <| en <| x_cond rfl (fun h0 => ?_) (fun h0 => ?_)
   ·try simp only [nm, ne_eq] at h0
    have hil : i < s.length := by omega
    have hcc : (((byte s i).toNat : Nat) : Int) = 45 ∨ (((byte s i).toNat : Nat) : Int) = 48 := .inr (by first | assumption | simp_all)
    refine x_skip <| then_n <| x_block <| sr rfl <| fa T.fld68_0 rfl <| Wp rfl <| st_load1 (v := .bool _) T.one4 rfl (hb4.cell rfl) <| mB rfl <| w_split (d := 27) rfl (fun g37 => ?_) (fun g37 => ?_)
    ·try simp only [nm, ne_eq] at g37
     obtain rfl : l = true := by assumption
     iterate 4 refine w_no 2 27 false ?_
     refine pT rfl rfl <| fa T.fld68_0 rfl <| Wp rfl <| st_store (v := .bool _) T.size4 rfl rfl rfl hb4 rfl (Nat.le_of_ble_eq_true rfl) (by simp [Value.oneCell', S]) rfl ?_
     intro w38 c39 hb40; simp only [setVs, setV] at hb40
     clear hb4
     replace HC := HC.then1 c39 ge_b4
     replace hb2 := hb2.tr1 c39 ne_b2_b4
     refine en <| sr rfl <| fa T.fld68_1 rfl <| Wp rfl <| st_load1 (v := .bool _) T.one4 rfl (hb40.cell rfl) <| mB rfl <| w_split (d := 36) rfl (fun g41 => ?_) (fun g41 => ?_)
     ·try simp only [nm, ne_eq] at g41
      obtain rfl : z = true := by assumption
      iterate 4 refine w_no 2 36 false ?_
      refine pT rfl rfl <| fa T.fld68_1 rfl <| Wp rfl <| st_store (v := .bool _) T.size4 rfl rfl rfl hb40 rfl (Nat.le_of_ble_eq_true rfl) (by simp [Value.oneCell', S]) rfl ?_
      intro w42 c43 hb44; simp only [setVs, setV] at hb44
      clear hb40
      replace HC := HC.then1 c43 ge_b4
      replace hb2 := hb2.tr1 c43 ne_b2_b4
      refine en <| x_region rfl <| mI rfl <| Wp rfl <| st_addn rfl rfl (by constructor <;> omega) <| aI rfl <| wops_nil <| block_n <| then_n <| ⟨(i + 1, true, true), ?_, ?_, rfl, ⟨rfl, trivial⟩, ?_⟩
      ·refine ⟨?_, HC, hb44, hb2⟩
       exact ⟨by omega, by rw [hfl, drop_byte hil]; exact flg_on hcc⟩
      ·show s.length - (i + 1) < s.length - i; omega
      repeat (first | exact agree_upds agree_over rfl | refine agree_upd ?_ rfl | refine agree_upds ?_ rfl | refine agree_over_sub ?_ rfl)
     ·try simp only [nm, ne_eq] at g41
      obtain rfl : z = false := by assumption
      refine w_yes 2 36 false <| st_move (v := S _) rfl <| w_yes 2 36 false <| st_move (v := .int _ _) rfl <| w_yes 2 36 false <| st_sidx T.u9 rfl rfl (by omega) (by omega) <| w_yes 2 36 false <| st_eql rfl rfl <| pF rfl rfl <| fa T.fld68_1 rfl <| Wp rfl <| st_store (v := .bool _) T.size4 rfl rfl rfl hb40 rfl (Nat.le_of_ble_eq_true rfl) (by simp [Value.oneCell', S]) rfl ?_
      intro w45 c46 hb47; simp only [setVs, setV] at hb47
      clear hb40
      replace HC := HC.then1 c46 ge_b4
      replace hb2 := hb2.tr1 c46 ne_b2_b4
      refine en <| x_region rfl <| mI rfl <| Wp rfl <| st_addn rfl rfl (by constructor <;> omega) <| aI rfl <| wops_nil <| block_n <| then_n <| ⟨(i + 1, true, (decide (((byte s i).toNat : Int) = 48))), ?_, ?_, rfl, ⟨rfl, trivial⟩, ?_⟩
      ·refine ⟨?_, HC, hb47, hb2⟩
       exact ⟨by omega, by rw [hfl, drop_byte hil]; exact flg_on hcc⟩
      ·show s.length - (i + 1) < s.length - i; omega
      repeat (first | exact agree_upds agree_over rfl | refine agree_upd ?_ rfl | refine agree_upds ?_ rfl | refine agree_over_sub ?_ rfl)
    ·try simp only [nm, ne_eq] at g37
     obtain rfl : l = false := by assumption
     refine w_yes 2 27 false <| st_move (v := S _) rfl <| w_yes 2 27 false <| st_move (v := .int _ _) rfl <| w_yes 2 27 false <| st_sidx T.u9 rfl rfl (by omega) (by omega) <| w_yes 2 27 false <| st_eql rfl rfl <| pF rfl rfl <| fa T.fld68_0 rfl <| Wp rfl <| st_store (v := .bool _) T.size4 rfl rfl rfl hb4 rfl (Nat.le_of_ble_eq_true rfl) (by simp [Value.oneCell', S]) rfl ?_
     intro w48 c49 hb50; simp only [setVs, setV] at hb50
     clear hb4
     replace HC := HC.then1 c49 ge_b4
     replace hb2 := hb2.tr1 c49 ne_b2_b4
     refine en <| sr rfl <| fa T.fld68_1 rfl <| Wp rfl <| st_load1 (v := .bool _) T.one4 rfl (hb50.cell rfl) <| mB rfl <| w_split (d := 36) rfl (fun g51 => ?_) (fun g51 => ?_)
     ·try simp only [nm, ne_eq] at g51
      obtain rfl : z = true := by assumption
      iterate 4 refine w_no 2 36 false ?_
      refine pT rfl rfl <| fa T.fld68_1 rfl <| Wp rfl <| st_store (v := .bool _) T.size4 rfl rfl rfl hb50 rfl (Nat.le_of_ble_eq_true rfl) (by simp [Value.oneCell', S]) rfl ?_
      intro w52 c53 hb54; simp only [setVs, setV] at hb54
      clear hb50
      replace HC := HC.then1 c53 ge_b4
      replace hb2 := hb2.tr1 c53 ne_b2_b4
      refine en <| x_region rfl <| mI rfl <| Wp rfl <| st_addn rfl rfl (by constructor <;> omega) <| aI rfl <| wops_nil <| block_n <| then_n <| ⟨(i + 1, (decide (((byte s i).toNat : Int) = 45)), true), ?_, ?_, rfl, ⟨rfl, trivial⟩, ?_⟩
      ·refine ⟨?_, HC, hb54, hb2⟩
       exact ⟨by omega, by rw [hfl, drop_byte hil]; exact flg_on hcc⟩
      ·show s.length - (i + 1) < s.length - i; omega
      repeat (first | exact agree_upds agree_over rfl | refine agree_upd ?_ rfl | refine agree_upds ?_ rfl | refine agree_over_sub ?_ rfl)
     ·try simp only [nm, ne_eq] at g51
      obtain rfl : z = false := by assumption
      refine w_yes 2 36 false <| st_move (v := S _) rfl <| w_yes 2 36 false <| st_move (v := .int _ _) rfl <| w_yes 2 36 false <| st_sidx T.u9 rfl rfl (by omega) (by omega) <| w_yes 2 36 false <| st_eql rfl rfl <| pF rfl rfl <| fa T.fld68_1 rfl <| Wp rfl <| st_store (v := .bool _) T.size4 rfl rfl rfl hb50 rfl (Nat.le_of_ble_eq_true rfl) (by simp [Value.oneCell', S]) rfl ?_
      intro w55 c56 hb57; simp only [setVs, setV] at hb57
      clear hb50
      replace HC := HC.then1 c56 ge_b4
      replace hb2 := hb2.tr1 c56 ne_b2_b4
      refine en <| x_region rfl <| mI rfl <| Wp rfl <| st_addn rfl rfl (by constructor <;> omega) <| aI rfl <| wops_nil <| block_n <| then_n <| ⟨(i + 1, (decide (((byte s i).toNat : Int) = 45)), (decide (((byte s i).toNat : Int) = 48))), ?_, ?_, rfl, ⟨rfl, trivial⟩, ?_⟩
      ·refine ⟨?_, HC, hb57, hb2⟩
       exact ⟨by omega, by rw [hfl, drop_byte hil]; exact flg_on hcc⟩
      ·show s.length - (i + 1) < s.length - i; omega
      repeat (first | exact agree_upds agree_over rfl | refine agree_upd ?_ rfl | refine agree_upds ?_ rfl | refine agree_over_sub ?_ rfl)
   ·try simp only [nm, ne_eq] at h0
    have hfr : flgV s false false = (s.drop i, l, z) := by rw [hfl]; rw [drop_byte (by omega)]; exact flg_off hc45 (by first | assumption | simp_all)
    have hR : rdR s = s.drop i := by unfold rdR; rw [hfr]
    have hL : (flgV s false false).2.1 = l := by rw [hfr]
    have hZ : (flgV s false false).2.2 = z := by rw [hfr]
    have hcl := cnt_le (rdR s)
    have hRl : (rdR s).length = s.length - i := by rw [hR, List.length_drop]
    obtain ⟨I1, hI1⟩ : ∃ I1, I1 = i + cntK (rdR s) := ⟨_, rfl⟩
    have h2e : rd2 s = s.drop I1 := by unfold rd2; rw [hR, List.drop_drop, hI1, hR]
    refine x_exit <| then_x <| then_x <| block_x <| then_n <| sr rfl <| mS rfl <| mI rfl <| Wp rfl <| st_sslo (i := i) T.u9 rfl ⟨_, rfl⟩ (by omega) <| Wp rfl <| st_call (ags := [_]) rfl rfl T.ent45 rfl (rcountW_spec (s.drop i) _ (by rw [List.length_drop]; omega)) ?_
    rintro _ w58 ⟨rfl, c59⟩
    replace HC := HC.then c59
    replace hb4 := hb4.tr0 c59
    replace hb2 := hb2.tr0 c59
    refine mv (v := .tuple ⟨[_, _]⟩) rfl <| Wp rfl <| st_extract (vs := [_, _]) (v := .int _ _) rfl rfl <| Wp rfl <| st_extract (vs := [_, _]) (v := .int _ _) rfl rfl <| aI rfl <| aI rfl <| en <| x_seq ?_
    rw [← hR]
    refine x_region rfl <| mI rfl <| fa T.fld68_2 rfl <| Wp rfl <| st_store (v := .int _ _) T.size3 rfl rfl rfl hb4 rfl (Nat.le_of_ble_eq_true rfl) (by simp [Value.oneCell', S]) rfl ?_
    intro w60 c61 hb62; simp only [setVs, setV] at hb62
    clear hb4
    replace HC := HC.then1 c61 ge_b4
    replace hb2 := hb2.tr1 c61 ne_b2_b4
    refine en <| sr rfl <| mI rfl <| mI rfl <| Wp rfl <| st_addk rfl rfl (by exact (show _ = ((I1 : Nat) : Int) by rw [wrap64_id (by omega) (by omega)]; omega)) <| aI rfl <| en <| x_seq <| sr rfl <| mI rfl <| mS rfl <| Wp rfl <| st_slen (ct := #[9]) T.u9 rfl <| Wp rfl <| st_lss rfl rfl <| mB rfl <| w_split (d := 61) rfl (fun g63 => ?_) (fun g63 => ?_)
    ·try simp only [nm, ne_eq] at g63
     refine w_yes 4 61 true <| st_move (v := S _) rfl <| w_yes 4 61 true <| st_move (v := .int _ _) rfl <| w_yes 4 61 true <| st_sidx T.u9 rfl rfl (by omega) (by omega) <| w_yes 4 61 true <| st_eql rfl rfl <| pT rfl rfl <| en <| x_cond rfl (fun h1 => ?_) (fun h1 => ?_)
     ·try simp only [nm, ne_eq] at h1
      have hD : rdD s = true := by unfold rdD; rw [h2e, hp_46 (by omega)]; exact decide_eq_true (by assumption)
      have hE : (rd2 s).drop 1 = s.drop (I1 + 1) := by rw [h2e, List.drop_drop]
      refine sr rfl <| fa T.fld68_4 rfl <| Wp rfl <| st_store (v := .bool _) T.size4 rfl rfl rfl hb62 rfl (Nat.le_of_ble_eq_true rfl) (by simp [Value.oneCell', S]) rfl ?_
      intro w64 c65 hb66; simp only [setVs, setV] at hb66
      clear hb62
      replace HC := HC.then1 c65 ge_b4
      replace hb2 := hb2.tr1 c65 ne_b2_b4
      refine en <| sr rfl <| mS rfl <| mI rfl <| Wp rfl <| st_addk rfl rfl (by exact (show _ = ((I1 + 1 : Nat) : Int) by rw [wrap64_id (by omega) (by omega)]; omega)) <| Wp rfl <| st_sslo (i := (I1 + 1)) T.u9 rfl ⟨_, rfl⟩ (by omega) <| Wp rfl <| st_call (ags := [_]) rfl rfl T.ent45 rfl (rcountW_spec (s.drop (I1 + 1)) _ (by rw [List.length_drop]; omega)) ?_
      rintro _ w67 ⟨rfl, c68⟩
      replace HC := HC.then c68
      replace hb2 := hb2.tr0 c68
      replace hb66 := hb66.tr0 c68
      refine mv (v := .tuple ⟨[_, _]⟩) rfl <| Wp rfl <| st_extract (vs := [_, _]) (v := .int _ _) rfl rfl <| Wp rfl <| st_extract (vs := [_, _]) (v := .int _ _) rfl rfl <| aI rfl <| aI rfl <| en <| x_seq ?_
      rw [← hE]
      have hcl2 := cnt_le ((rd2 s).drop 1)
      have hEl : ((rd2 s).drop 1).length = s.length - (I1 + 1) := by rw [hE, List.length_drop]
      obtain ⟨I2, hI2⟩ : ∃ I2, I2 = I1 + 1 + cntK ((rd2 s).drop 1) := ⟨_, rfl⟩
      have h3e : rd3 s = s.drop I2 := by unfold rd3; rw [if_pos hD, hE, List.drop_drop, hI2, hE]
      have hF : rdF s = decide (cntN ((rd2 s).drop 1) ≤ 1000) := by unfold rdF; rw [if_pos hD]
      have hP : rdP s = ((cntN ((rd2 s).drop 1) : Nat) : Int) := by unfold rdP; rw [if_pos hD]
      refine x_region rfl <| mI rfl <| fa T.fld68_3 rfl <| Wp rfl <| st_store (v := .int _ _) T.size3 rfl rfl rfl hb66 rfl (Nat.le_of_ble_eq_true rfl) (by simp [Value.oneCell', S]) rfl ?_
      intro w69 c70 hb71; simp only [setVs, setV] at hb71
      clear hb66
      replace HC := HC.then1 c70 ge_b4
      replace hb2 := hb2.tr1 c70 ne_b2_b4
      refine en <| x_region rfl <| mI rfl <| Wp rfl <| st_addk rfl rfl (by exact (show _ = ((I1 + 1 : Nat) : Int) by rw [wrap64_id (by omega) (by omega)]; omega)) <| mI rfl <| Wp rfl <| st_addk rfl rfl (by exact (show _ = ((I2 : Nat) : Int) by rw [wrap64_id (by omega) (by omega)]; omega)) <| aI rfl <| en <| x_seq <| sr rfl <| mI rfl <| mS rfl <| Wp rfl <| st_slen (ct := #[9]) T.u9 rfl <| Wp rfl <| st_geq rfl rfl <| mB rfl <| w_split (d := 86) rfl (fun g72 => ?_) (fun g72 => ?_)
      ·try simp only [nm, ne_eq] at g72
       iterate 3 refine w_no 4 86 false ?_
       refine pT rfl rfl <| mB rfl ?_
       iterate 3 refine w_no 9 91 false ?_
       refine pT rfl rfl <| en <| x_cond (t := true) rfl (fun h2 => ?_) (fun h2 => ?_)
       rotate_left
       · exact absurd h2 (by decide)
       have hO : rdO s = false := by unfold rdO; rw [decide_eq_true (show rd3 s = [] by rw [h3e]; exact List.drop_of_length_le (by omega))]; simp only [Bool.not_true, Bool.and_false, Bool.false_and]
       refine sr rfl <| Wp rfl <| st_loadA (vs := [_, _, _, _, _, _]) T.agg68 rfl (hb71.cells (n := 6) (vs := [_, _, _, _, _, _]) rfl) rfl <| Wp rfl <| st_store (v := .agg ⟨[.bool _, .bool _, .int _ _, .int _ _, .bool _, .int _ _]⟩) T.size68 rfl rfl rfl hb2 rfl (Nat.le_of_ble_eq_true rfl) (by simp [Value.oneCell', S]) rfl ?_
       intro w73 c74 hb75; simp only [setVs, setV] at hb75
       clear hb2
       replace HC := HC.then1 c74 ge_b2
       replace hb71 := hb71.tr1 c74 (Ne.symm ne_b2_b4)
       refine aI rfl <| en <| x_ret <| then_r <| ret_many (vs := [.agg ⟨[_, _, _, _, _, _]⟩, .int _ _]) rfl ⟨⟨_, _, rfl, run_loadVarA T.agg68 (hb75.cells (n := 6) rfl) rfl⟩, ⟨rfl, trivial⟩⟩ (Nat.le_of_ble_eq_true rfl) <| ⟨_, _, _, _, _, _, _, rfl, fun _ => rfl, fun h => absurd h (by rw [hO]; decide), HC⟩
      ·try simp only [nm, ne_eq] at g72
       refine w_yes 4 86 false <| st_fieldAddr T.fld68_2 rfl <| w_yes 4 86 false <| st_load1 (v := .int _ _) T.one3 rfl (hb71.cell rfl) <| w_yes 4 86 false <| st_lss rfl rfl <| pF rfl rfl <| mB rfl <| w_split (d := 91) rfl (fun g76 => ?_) (fun g76 => ?_)
       ·try simp only [nm, ne_eq] at g76
        iterate 3 refine w_no 9 91 false ?_
        refine pT rfl rfl <| en <| x_cond (t := true) rfl (fun h2 => ?_) (fun h2 => ?_)
        rotate_left
        · exact absurd h2 (by decide)
        have k1 := (cntW_neg (rdR s)).1 (by assumption)
        have hO : rdO s = false := by unfold rdO; rw [decide_eq_false k1]; simp only [Bool.false_and]
        refine sr rfl <| Wp rfl <| st_loadA (vs := [_, _, _, _, _, _]) T.agg68 rfl (hb71.cells (n := 6) (vs := [_, _, _, _, _, _]) rfl) rfl <| Wp rfl <| st_store (v := .agg ⟨[.bool _, .bool _, .int _ _, .int _ _, .bool _, .int _ _]⟩) T.size68 rfl rfl rfl hb2 rfl (Nat.le_of_ble_eq_true rfl) (by simp [Value.oneCell', S]) rfl ?_
        intro w77 c78 hb79; simp only [setVs, setV] at hb79
        clear hb2
        replace HC := HC.then1 c78 ge_b2
        replace hb71 := hb71.tr1 c78 (Ne.symm ne_b2_b4)
        refine aI rfl <| en <| x_ret <| then_r <| ret_many (vs := [.agg ⟨[_, _, _, _, _, _]⟩, .int _ _]) rfl ⟨⟨_, _, rfl, run_loadVarA T.agg68 (hb79.cells (n := 6) rfl) rfl⟩, ⟨rfl, trivial⟩⟩ (Nat.le_of_ble_eq_true rfl) <| ⟨_, _, _, _, _, _, _, rfl, fun _ => rfl, fun h => absurd h (by rw [hO]; decide), HC⟩
       ·try simp only [nm, ne_eq] at g76
        refine w_yes 9 91 false <| st_fieldAddr T.fld68_3 rfl <| w_yes 9 91 false <| st_load1 (v := .int _ _) T.one3 rfl (hb71.cell rfl) <| w_yes 9 91 false <| st_lss rfl rfl <| pF rfl rfl <| en <| x_cond rfl (fun h2 => ?_) (fun h2 => ?_)
        ·try simp only [nm, ne_eq] at h2
         have k2 := (cntW_neg ((rd2 s).drop 1)).1 (by first | assumption | omega)
         have hO : rdO s = false := by unfold rdO; rw [hF, decide_eq_false k2]; simp only [Bool.and_false, Bool.false_and]
         refine sr rfl <| Wp rfl <| st_loadA (vs := [_, _, _, _, _, _]) T.agg68 rfl (hb71.cells (n := 6) (vs := [_, _, _, _, _, _]) rfl) rfl <| Wp rfl <| st_store (v := .agg ⟨[.bool _, .bool _, .int _ _, .int _ _, .bool _, .int _ _]⟩) T.size68 rfl rfl rfl hb2 rfl (Nat.le_of_ble_eq_true rfl) (by simp [Value.oneCell', S]) rfl ?_
         intro w80 c81 hb82; simp only [setVs, setV] at hb82
         clear hb2
         replace HC := HC.then1 c81 ge_b2
         replace hb71 := hb71.tr1 c81 (Ne.symm ne_b2_b4)
         refine aI rfl <| en <| x_ret <| then_r <| ret_many (vs := [.agg ⟨[_, _, _, _, _, _]⟩, .int _ _]) rfl ⟨⟨_, _, rfl, run_loadVarA T.agg68 (hb82.cells (n := 6) rfl) rfl⟩, ⟨rfl, trivial⟩⟩ (Nat.le_of_ble_eq_true rfl) <| ⟨_, _, _, _, _, _, _, rfl, fun _ => rfl, fun h => absurd h (by rw [hO]; decide), HC⟩
        ·try simp only [nm, ne_eq] at h2
         have k1 : cntN (rdR s) ≤ 1000 := by have := cntW_neg (rdR s); first | omega | (refine Classical.byContradiction fun h9 => ?_; exact absurd (this.2 h9) (by first | assumption | omega))
         have k2 : cntN ((rd2 s).drop 1) ≤ 1000 := by have := cntW_neg ((rd2 s).drop 1); refine Classical.byContradiction fun h9 => ?_; exact absurd (this.2 h9) (by first | assumption | omega)
         have k3 : ¬ rd3 s = [] := by rw [h3e]; intro h9; have := congrArg List.length h9; rw [List.length_drop, List.length_nil] at this; omega
         have hb0 : byte (rd3 s) 0 = byte s I2 := by rw [h3e, byte_drop]
         refine x_skip <| then_n <| x_seq <| sr rfl <| mS rfl <| mI rfl <| Wp rfl <| st_sidx T.u9 rfl rfl (by omega) (by omega) <| en <| x_block <| x_seq <| sr rfl <| Wp rfl <| st_eql rfl rfl <| aB rfl <| en <| x_cond rfl (fun h3 => ?_) (fun h3 => ?_)
         ·try simp only [nm, ne_eq] at h3
          refine x_skip <| then_n <| x_cond rfl (fun h11 => ?_) (fun h11 => ?_)
          rotate_left
          · first | (simp only [nm, ne_eq] at h11; exact absurd (by assumption) h11) | (exfalso; simp_all)
          have hcv : 0 ≤ idx [100, 105, 117, 111, 120, 88, 99, 115, 98] (byte (rd3 s) 0) := by rw [hb0]; exact (cv_iff _).2 (by first | omega | simp_all)
          have hO : rdO s = true := by unfold rdO; rw [hF, decide_eq_true k1, decide_eq_true k2, decide_eq_false k3, decide_eq_true hcv]; rfl
          refine sr rfl <| mS rfl <| mI rfl <| Wp rfl <| st_sidx T.u9 rfl rfl (by omega) (by omega) <| fa T.fld68_5 rfl <| Wp rfl <| st_store (v := .int _ _) T.size5 rfl rfl rfl hb71 rfl (Nat.le_of_ble_eq_true rfl) (by simp [Value.oneCell', S]) rfl ?_
          intro w83 c84 hb85; simp only [setVs, setV] at hb85
          clear hb71
          replace HC := HC.then1 c84 ge_b4
          replace hb2 := hb2.tr1 c84 ne_b2_b4
          refine en <| sr rfl <| Wp rfl <| st_loadA (vs := [_, _, _, _, _, _]) T.agg68 rfl (hb85.cells (n := 6) (vs := [_, _, _, _, _, _]) rfl) rfl <| mI rfl <| Wp rfl <| st_addk rfl rfl (by exact wrap64_id (by omega) (by omega)) <| Wp rfl <| st_store (v := .agg ⟨[.bool _, .bool _, .int _ _, .int _ _, .bool _, .int _ _]⟩) T.size68 rfl rfl rfl hb2 rfl (Nat.le_of_ble_eq_true rfl) (by simp [Value.oneCell', S]) rfl ?_
          intro w86 c87 hb88; simp only [setVs, setV] at hb88
          clear hb2
          replace HC := HC.then1 c87 ge_b2
          replace hb85 := hb85.tr1 c87 (Ne.symm ne_b2_b4)
          refine aI rfl <| en <| x_ret <| block_r <| then_r <| ret_many (vs := [.agg ⟨[_, _, _, _, _, _]⟩, .int _ _]) rfl ⟨⟨_, _, rfl, run_loadVarA T.agg68 (hb88.cells (n := 6) rfl) rfl⟩, ⟨rfl, trivial⟩⟩ (Nat.le_of_ble_eq_true rfl) <| ⟨_, _, _, _, _, _, _, rfl, fun h => absurd h (by rw [hO]; decide), fun _ => ⟨I2, rfl, by omega, by rw [h3e, List.drop_drop], ?_⟩, HC⟩
          have e1 : cntW (rdR s) = ((cntN (rdR s) : Nat) : Int) := if_pos k1
          have e2 : cntW ((rd2 s).drop 1) = ((cntN ((rd2 s).drop 1) : Nat) : Int) := if_pos k2
          unfold rag rdX
          simp only [hO, hL, hZ, hP, if_true, hb0]
          rw [e1]
          rw [e2, decide_eq_true (by omega)]; rfl
         ·try simp only [nm, ne_eq] at h3
          refine sr rfl <| Wp rfl <| st_eql rfl rfl <| aB rfl <| en <| x_cond rfl (fun h4 => ?_) (fun h4 => ?_)
          ·try simp only [nm, ne_eq] at h4
           refine x_skip <| then_n <| x_cond rfl (fun h11 => ?_) (fun h11 => ?_)
           rotate_left
           · first | (simp only [nm, ne_eq] at h11; exact absurd (by assumption) h11) | (exfalso; simp_all)
           have hcv : 0 ≤ idx [100, 105, 117, 111, 120, 88, 99, 115, 98] (byte (rd3 s) 0) := by rw [hb0]; exact (cv_iff _).2 (by first | omega | simp_all)
           have hO : rdO s = true := by unfold rdO; rw [hF, decide_eq_true k1, decide_eq_true k2, decide_eq_false k3, decide_eq_true hcv]; rfl
           refine sr rfl <| mS rfl <| mI rfl <| Wp rfl <| st_sidx T.u9 rfl rfl (by omega) (by omega) <| fa T.fld68_5 rfl <| Wp rfl <| st_store (v := .int _ _) T.size5 rfl rfl rfl hb71 rfl (Nat.le_of_ble_eq_true rfl) (by simp [Value.oneCell', S]) rfl ?_
           intro w89 c90 hb91; simp only [setVs, setV] at hb91
           clear hb71
           replace HC := HC.then1 c90 ge_b4
           replace hb2 := hb2.tr1 c90 ne_b2_b4
           refine en <| sr rfl <| Wp rfl <| st_loadA (vs := [_, _, _, _, _, _]) T.agg68 rfl (hb91.cells (n := 6) (vs := [_, _, _, _, _, _]) rfl) rfl <| mI rfl <| Wp rfl <| st_addk rfl rfl (by exact wrap64_id (by omega) (by omega)) <| Wp rfl <| st_store (v := .agg ⟨[.bool _, .bool _, .int _ _, .int _ _, .bool _, .int _ _]⟩) T.size68 rfl rfl rfl hb2 rfl (Nat.le_of_ble_eq_true rfl) (by simp [Value.oneCell', S]) rfl ?_
           intro w92 c93 hb94; simp only [setVs, setV] at hb94
           clear hb2
           replace HC := HC.then1 c93 ge_b2
           replace hb91 := hb91.tr1 c93 (Ne.symm ne_b2_b4)
           refine aI rfl <| en <| x_ret <| block_r <| then_r <| ret_many (vs := [.agg ⟨[_, _, _, _, _, _]⟩, .int _ _]) rfl ⟨⟨_, _, rfl, run_loadVarA T.agg68 (hb94.cells (n := 6) rfl) rfl⟩, ⟨rfl, trivial⟩⟩ (Nat.le_of_ble_eq_true rfl) <| ⟨_, _, _, _, _, _, _, rfl, fun h => absurd h (by rw [hO]; decide), fun _ => ⟨I2, rfl, by omega, by rw [h3e, List.drop_drop], ?_⟩, HC⟩
           have e1 : cntW (rdR s) = ((cntN (rdR s) : Nat) : Int) := if_pos k1
           have e2 : cntW ((rd2 s).drop 1) = ((cntN ((rd2 s).drop 1) : Nat) : Int) := if_pos k2
           unfold rag rdX
           simp only [hO, hL, hZ, hP, if_true, hb0]
           rw [e1]
           rw [e2, decide_eq_true (by omega)]; rfl
          ·try simp only [nm, ne_eq] at h4
           refine sr rfl <| Wp rfl <| st_eql rfl rfl <| aB rfl <| en <| x_cond rfl (fun h5 => ?_) (fun h5 => ?_)
           ·try simp only [nm, ne_eq] at h5
            refine x_skip <| then_n <| x_cond rfl (fun h11 => ?_) (fun h11 => ?_)
            rotate_left
            · first | (simp only [nm, ne_eq] at h11; exact absurd (by assumption) h11) | (exfalso; simp_all)
            have hcv : 0 ≤ idx [100, 105, 117, 111, 120, 88, 99, 115, 98] (byte (rd3 s) 0) := by rw [hb0]; exact (cv_iff _).2 (by first | omega | simp_all)
            have hO : rdO s = true := by unfold rdO; rw [hF, decide_eq_true k1, decide_eq_true k2, decide_eq_false k3, decide_eq_true hcv]; rfl
            refine sr rfl <| mS rfl <| mI rfl <| Wp rfl <| st_sidx T.u9 rfl rfl (by omega) (by omega) <| fa T.fld68_5 rfl <| Wp rfl <| st_store (v := .int _ _) T.size5 rfl rfl rfl hb71 rfl (Nat.le_of_ble_eq_true rfl) (by simp [Value.oneCell', S]) rfl ?_
            intro w95 c96 hb97; simp only [setVs, setV] at hb97
            clear hb71
            replace HC := HC.then1 c96 ge_b4
            replace hb2 := hb2.tr1 c96 ne_b2_b4
            refine en <| sr rfl <| Wp rfl <| st_loadA (vs := [_, _, _, _, _, _]) T.agg68 rfl (hb97.cells (n := 6) (vs := [_, _, _, _, _, _]) rfl) rfl <| mI rfl <| Wp rfl <| st_addk rfl rfl (by exact wrap64_id (by omega) (by omega)) <| Wp rfl <| st_store (v := .agg ⟨[.bool _, .bool _, .int _ _, .int _ _, .bool _, .int _ _]⟩) T.size68 rfl rfl rfl hb2 rfl (Nat.le_of_ble_eq_true rfl) (by simp [Value.oneCell', S]) rfl ?_
            intro w98 c99 hb100; simp only [setVs, setV] at hb100
            clear hb2
            replace HC := HC.then1 c99 ge_b2
            replace hb97 := hb97.tr1 c99 (Ne.symm ne_b2_b4)
            refine aI rfl <| en <| x_ret <| block_r <| then_r <| ret_many (vs := [.agg ⟨[_, _, _, _, _, _]⟩, .int _ _]) rfl ⟨⟨_, _, rfl, run_loadVarA T.agg68 (hb100.cells (n := 6) rfl) rfl⟩, ⟨rfl, trivial⟩⟩ (Nat.le_of_ble_eq_true rfl) <| ⟨_, _, _, _, _, _, _, rfl, fun h => absurd h (by rw [hO]; decide), fun _ => ⟨I2, rfl, by omega, by rw [h3e, List.drop_drop], ?_⟩, HC⟩
            have e1 : cntW (rdR s) = ((cntN (rdR s) : Nat) : Int) := if_pos k1
            have e2 : cntW ((rd2 s).drop 1) = ((cntN ((rd2 s).drop 1) : Nat) : Int) := if_pos k2
            unfold rag rdX
            simp only [hO, hL, hZ, hP, if_true, hb0]
            rw [e1]
            rw [e2, decide_eq_true (by omega)]; rfl
           ·try simp only [nm, ne_eq] at h5
            refine sr rfl <| Wp rfl <| st_eql rfl rfl <| aB rfl <| en <| x_cond rfl (fun h6 => ?_) (fun h6 => ?_)
            ·try simp only [nm, ne_eq] at h6
             refine x_skip <| then_n <| x_cond rfl (fun h11 => ?_) (fun h11 => ?_)
             rotate_left
             · first | (simp only [nm, ne_eq] at h11; exact absurd (by assumption) h11) | (exfalso; simp_all)
             have hcv : 0 ≤ idx [100, 105, 117, 111, 120, 88, 99, 115, 98] (byte (rd3 s) 0) := by rw [hb0]; exact (cv_iff _).2 (by first | omega | simp_all)
             have hO : rdO s = true := by unfold rdO; rw [hF, decide_eq_true k1, decide_eq_true k2, decide_eq_false k3, decide_eq_true hcv]; rfl
             refine sr rfl <| mS rfl <| mI rfl <| Wp rfl <| st_sidx T.u9 rfl rfl (by omega) (by omega) <| fa T.fld68_5 rfl <| Wp rfl <| st_store (v := .int _ _) T.size5 rfl rfl rfl hb71 rfl (Nat.le_of_ble_eq_true rfl) (by simp [Value.oneCell', S]) rfl ?_
             intro w101 c102 hb103; simp only [setVs, setV] at hb103
             clear hb71
             replace HC := HC.then1 c102 ge_b4
             replace hb2 := hb2.tr1 c102 ne_b2_b4
             refine en <| sr rfl <| Wp rfl <| st_loadA (vs := [_, _, _, _, _, _]) T.agg68 rfl (hb103.cells (n := 6) (vs := [_, _, _, _, _, _]) rfl) rfl <| mI rfl <| Wp rfl <| st_addk rfl rfl (by exact wrap64_id (by omega) (by omega)) <| Wp rfl <| st_store (v := .agg ⟨[.bool _, .bool _, .int _ _, .int _ _, .bool _, .int _ _]⟩) T.size68 rfl rfl rfl hb2 rfl (Nat.le_of_ble_eq_true rfl) (by simp [Value.oneCell', S]) rfl ?_
             intro w104 c105 hb106; simp only [setVs, setV] at hb106
             clear hb2
             replace HC := HC.then1 c105 ge_b2
             replace hb103 := hb103.tr1 c105 (Ne.symm ne_b2_b4)
             refine aI rfl <| en <| x_ret <| block_r <| then_r <| ret_many (vs := [.agg ⟨[_, _, _, _, _, _]⟩, .int _ _]) rfl ⟨⟨_, _, rfl, run_loadVarA T.agg68 (hb106.cells (n := 6) rfl) rfl⟩, ⟨rfl, trivial⟩⟩ (Nat.le_of_ble_eq_true rfl) <| ⟨_, _, _, _, _, _, _, rfl, fun h => absurd h (by rw [hO]; decide), fun _ => ⟨I2, rfl, by omega, by rw [h3e, List.drop_drop], ?_⟩, HC⟩
             have e1 : cntW (rdR s) = ((cntN (rdR s) : Nat) : Int) := if_pos k1
             have e2 : cntW ((rd2 s).drop 1) = ((cntN ((rd2 s).drop 1) : Nat) : Int) := if_pos k2
             unfold rag rdX
             simp only [hO, hL, hZ, hP, if_true, hb0]
             rw [e1]
             rw [e2, decide_eq_true (by omega)]; rfl
            ·try simp only [nm, ne_eq] at h6
             refine sr rfl <| Wp rfl <| st_eql rfl rfl <| aB rfl <| en <| x_cond rfl (fun h7 => ?_) (fun h7 => ?_)
             ·try simp only [nm, ne_eq] at h7
              refine x_skip <| then_n <| x_cond rfl (fun h11 => ?_) (fun h11 => ?_)
              rotate_left
              · first | (simp only [nm, ne_eq] at h11; exact absurd (by assumption) h11) | (exfalso; simp_all)
              have hcv : 0 ≤ idx [100, 105, 117, 111, 120, 88, 99, 115, 98] (byte (rd3 s) 0) := by rw [hb0]; exact (cv_iff _).2 (by first | omega | simp_all)
              have hO : rdO s = true := by unfold rdO; rw [hF, decide_eq_true k1, decide_eq_true k2, decide_eq_false k3, decide_eq_true hcv]; rfl
              refine sr rfl <| mS rfl <| mI rfl <| Wp rfl <| st_sidx T.u9 rfl rfl (by omega) (by omega) <| fa T.fld68_5 rfl <| Wp rfl <| st_store (v := .int _ _) T.size5 rfl rfl rfl hb71 rfl (Nat.le_of_ble_eq_true rfl) (by simp [Value.oneCell', S]) rfl ?_
              intro w107 c108 hb109; simp only [setVs, setV] at hb109
              clear hb71
              replace HC := HC.then1 c108 ge_b4
              replace hb2 := hb2.tr1 c108 ne_b2_b4
              refine en <| sr rfl <| Wp rfl <| st_loadA (vs := [_, _, _, _, _, _]) T.agg68 rfl (hb109.cells (n := 6) (vs := [_, _, _, _, _, _]) rfl) rfl <| mI rfl <| Wp rfl <| st_addk rfl rfl (by exact wrap64_id (by omega) (by omega)) <| Wp rfl <| st_store (v := .agg ⟨[.bool _, .bool _, .int _ _, .int _ _, .bool _, .int _ _]⟩) T.size68 rfl rfl rfl hb2 rfl (Nat.le_of_ble_eq_true rfl) (by simp [Value.oneCell', S]) rfl ?_
              intro w110 c111 hb112; simp only [setVs, setV] at hb112
              clear hb2
              replace HC := HC.then1 c111 ge_b2
              replace hb109 := hb109.tr1 c111 (Ne.symm ne_b2_b4)
              refine aI rfl <| en <| x_ret <| block_r <| then_r <| ret_many (vs := [.agg ⟨[_, _, _, _, _, _]⟩, .int _ _]) rfl ⟨⟨_, _, rfl, run_loadVarA T.agg68 (hb112.cells (n := 6) rfl) rfl⟩, ⟨rfl, trivial⟩⟩ (Nat.le_of_ble_eq_true rfl) <| ⟨_, _, _, _, _, _, _, rfl, fun h => absurd h (by rw [hO]; decide), fun _ => ⟨I2, rfl, by omega, by rw [h3e, List.drop_drop], ?_⟩, HC⟩
              have e1 : cntW (rdR s) = ((cntN (rdR s) : Nat) : Int) := if_pos k1
              have e2 : cntW ((rd2 s).drop 1) = ((cntN ((rd2 s).drop 1) : Nat) : Int) := if_pos k2
              unfold rag rdX
              simp only [hO, hL, hZ, hP, if_true, hb0]
              rw [e1]
              rw [e2, decide_eq_true (by omega)]; rfl
             ·try simp only [nm, ne_eq] at h7
              refine sr rfl <| Wp rfl <| st_eql rfl rfl <| aB rfl <| en <| x_cond rfl (fun h8 => ?_) (fun h8 => ?_)
              ·try simp only [nm, ne_eq] at h8
               refine x_skip <| then_n <| x_cond rfl (fun h11 => ?_) (fun h11 => ?_)
               rotate_left
               · first | (simp only [nm, ne_eq] at h11; exact absurd (by assumption) h11) | (exfalso; simp_all)
               have hcv : 0 ≤ idx [100, 105, 117, 111, 120, 88, 99, 115, 98] (byte (rd3 s) 0) := by rw [hb0]; exact (cv_iff _).2 (by first | omega | simp_all)
               have hO : rdO s = true := by unfold rdO; rw [hF, decide_eq_true k1, decide_eq_true k2, decide_eq_false k3, decide_eq_true hcv]; rfl
               refine sr rfl <| mS rfl <| mI rfl <| Wp rfl <| st_sidx T.u9 rfl rfl (by omega) (by omega) <| fa T.fld68_5 rfl <| Wp rfl <| st_store (v := .int _ _) T.size5 rfl rfl rfl hb71 rfl (Nat.le_of_ble_eq_true rfl) (by simp [Value.oneCell', S]) rfl ?_
               intro w113 c114 hb115; simp only [setVs, setV] at hb115
               clear hb71
               replace HC := HC.then1 c114 ge_b4
               replace hb2 := hb2.tr1 c114 ne_b2_b4
               refine en <| sr rfl <| Wp rfl <| st_loadA (vs := [_, _, _, _, _, _]) T.agg68 rfl (hb115.cells (n := 6) (vs := [_, _, _, _, _, _]) rfl) rfl <| mI rfl <| Wp rfl <| st_addk rfl rfl (by exact wrap64_id (by omega) (by omega)) <| Wp rfl <| st_store (v := .agg ⟨[.bool _, .bool _, .int _ _, .int _ _, .bool _, .int _ _]⟩) T.size68 rfl rfl rfl hb2 rfl (Nat.le_of_ble_eq_true rfl) (by simp [Value.oneCell', S]) rfl ?_
               intro w116 c117 hb118; simp only [setVs, setV] at hb118
               clear hb2
               replace HC := HC.then1 c117 ge_b2
               replace hb115 := hb115.tr1 c117 (Ne.symm ne_b2_b4)
               refine aI rfl <| en <| x_ret <| block_r <| then_r <| ret_many (vs := [.agg ⟨[_, _, _, _, _, _]⟩, .int _ _]) rfl ⟨⟨_, _, rfl, run_loadVarA T.agg68 (hb118.cells (n := 6) rfl) rfl⟩, ⟨rfl, trivial⟩⟩ (Nat.le_of_ble_eq_true rfl) <| ⟨_, _, _, _, _, _, _, rfl, fun h => absurd h (by rw [hO]; decide), fun _ => ⟨I2, rfl, by omega, by rw [h3e, List.drop_drop], ?_⟩, HC⟩
               have e1 : cntW (rdR s) = ((cntN (rdR s) : Nat) : Int) := if_pos k1
               have e2 : cntW ((rd2 s).drop 1) = ((cntN ((rd2 s).drop 1) : Nat) : Int) := if_pos k2
               unfold rag rdX
               simp only [hO, hL, hZ, hP, if_true, hb0]
               rw [e1]
               rw [e2, decide_eq_true (by omega)]; rfl
              ·try simp only [nm, ne_eq] at h8
               refine sr rfl <| Wp rfl <| st_eql rfl rfl <| aB rfl <| en <| x_cond rfl (fun h9 => ?_) (fun h9 => ?_)
               ·try simp only [nm, ne_eq] at h9
                refine x_skip <| then_n <| x_cond rfl (fun h11 => ?_) (fun h11 => ?_)
                rotate_left
                · first | (simp only [nm, ne_eq] at h11; exact absurd (by assumption) h11) | (exfalso; simp_all)
                have hcv : 0 ≤ idx [100, 105, 117, 111, 120, 88, 99, 115, 98] (byte (rd3 s) 0) := by rw [hb0]; exact (cv_iff _).2 (by first | omega | simp_all)
                have hO : rdO s = true := by unfold rdO; rw [hF, decide_eq_true k1, decide_eq_true k2, decide_eq_false k3, decide_eq_true hcv]; rfl
                refine sr rfl <| mS rfl <| mI rfl <| Wp rfl <| st_sidx T.u9 rfl rfl (by omega) (by omega) <| fa T.fld68_5 rfl <| Wp rfl <| st_store (v := .int _ _) T.size5 rfl rfl rfl hb71 rfl (Nat.le_of_ble_eq_true rfl) (by simp [Value.oneCell', S]) rfl ?_
                intro w119 c120 hb121; simp only [setVs, setV] at hb121
                clear hb71
                replace HC := HC.then1 c120 ge_b4
                replace hb2 := hb2.tr1 c120 ne_b2_b4
                refine en <| sr rfl <| Wp rfl <| st_loadA (vs := [_, _, _, _, _, _]) T.agg68 rfl (hb121.cells (n := 6) (vs := [_, _, _, _, _, _]) rfl) rfl <| mI rfl <| Wp rfl <| st_addk rfl rfl (by exact wrap64_id (by omega) (by omega)) <| Wp rfl <| st_store (v := .agg ⟨[.bool _, .bool _, .int _ _, .int _ _, .bool _, .int _ _]⟩) T.size68 rfl rfl rfl hb2 rfl (Nat.le_of_ble_eq_true rfl) (by simp [Value.oneCell', S]) rfl ?_
                intro w122 c123 hb124; simp only [setVs, setV] at hb124
                clear hb2
                replace HC := HC.then1 c123 ge_b2
                replace hb121 := hb121.tr1 c123 (Ne.symm ne_b2_b4)
                refine aI rfl <| en <| x_ret <| block_r <| then_r <| ret_many (vs := [.agg ⟨[_, _, _, _, _, _]⟩, .int _ _]) rfl ⟨⟨_, _, rfl, run_loadVarA T.agg68 (hb124.cells (n := 6) rfl) rfl⟩, ⟨rfl, trivial⟩⟩ (Nat.le_of_ble_eq_true rfl) <| ⟨_, _, _, _, _, _, _, rfl, fun h => absurd h (by rw [hO]; decide), fun _ => ⟨I2, rfl, by omega, by rw [h3e, List.drop_drop], ?_⟩, HC⟩
                have e1 : cntW (rdR s) = ((cntN (rdR s) : Nat) : Int) := if_pos k1
                have e2 : cntW ((rd2 s).drop 1) = ((cntN ((rd2 s).drop 1) : Nat) : Int) := if_pos k2
                unfold rag rdX
                simp only [hO, hL, hZ, hP, if_true, hb0]
                rw [e1]
                rw [e2, decide_eq_true (by omega)]; rfl
               ·try simp only [nm, ne_eq] at h9
                refine sr rfl <| Wp rfl <| st_eql rfl rfl <| aB rfl <| en <| x_cond rfl (fun h10 => ?_) (fun h10 => ?_)
                ·try simp only [nm, ne_eq] at h10
                 refine x_skip <| then_n <| x_cond rfl (fun h11 => ?_) (fun h11 => ?_)
                 rotate_left
                 · first | (simp only [nm, ne_eq] at h11; exact absurd (by assumption) h11) | (exfalso; simp_all)
                 have hcv : 0 ≤ idx [100, 105, 117, 111, 120, 88, 99, 115, 98] (byte (rd3 s) 0) := by rw [hb0]; exact (cv_iff _).2 (by first | omega | simp_all)
                 have hO : rdO s = true := by unfold rdO; rw [hF, decide_eq_true k1, decide_eq_true k2, decide_eq_false k3, decide_eq_true hcv]; rfl
                 refine sr rfl <| mS rfl <| mI rfl <| Wp rfl <| st_sidx T.u9 rfl rfl (by omega) (by omega) <| fa T.fld68_5 rfl <| Wp rfl <| st_store (v := .int _ _) T.size5 rfl rfl rfl hb71 rfl (Nat.le_of_ble_eq_true rfl) (by simp [Value.oneCell', S]) rfl ?_
                 intro w125 c126 hb127; simp only [setVs, setV] at hb127
                 clear hb71
                 replace HC := HC.then1 c126 ge_b4
                 replace hb2 := hb2.tr1 c126 ne_b2_b4
                 refine en <| sr rfl <| Wp rfl <| st_loadA (vs := [_, _, _, _, _, _]) T.agg68 rfl (hb127.cells (n := 6) (vs := [_, _, _, _, _, _]) rfl) rfl <| mI rfl <| Wp rfl <| st_addk rfl rfl (by exact wrap64_id (by omega) (by omega)) <| Wp rfl <| st_store (v := .agg ⟨[.bool _, .bool _, .int _ _, .int _ _, .bool _, .int _ _]⟩) T.size68 rfl rfl rfl hb2 rfl (Nat.le_of_ble_eq_true rfl) (by simp [Value.oneCell', S]) rfl ?_
                 intro w128 c129 hb130; simp only [setVs, setV] at hb130
                 clear hb2
                 replace HC := HC.then1 c129 ge_b2
                 replace hb127 := hb127.tr1 c129 (Ne.symm ne_b2_b4)
                 refine aI rfl <| en <| x_ret <| block_r <| then_r <| ret_many (vs := [.agg ⟨[_, _, _, _, _, _]⟩, .int _ _]) rfl ⟨⟨_, _, rfl, run_loadVarA T.agg68 (hb130.cells (n := 6) rfl) rfl⟩, ⟨rfl, trivial⟩⟩ (Nat.le_of_ble_eq_true rfl) <| ⟨_, _, _, _, _, _, _, rfl, fun h => absurd h (by rw [hO]; decide), fun _ => ⟨I2, rfl, by omega, by rw [h3e, List.drop_drop], ?_⟩, HC⟩
                 have e1 : cntW (rdR s) = ((cntN (rdR s) : Nat) : Int) := if_pos k1
                 have e2 : cntW ((rd2 s).drop 1) = ((cntN ((rd2 s).drop 1) : Nat) : Int) := if_pos k2
                 unfold rag rdX
                 simp only [hO, hL, hZ, hP, if_true, hb0]
                 rw [e1]
                 rw [e2, decide_eq_true (by omega)]; rfl
                ·try simp only [nm, ne_eq] at h10
                 refine x_region rfl <| Wp rfl <| st_eql rfl rfl <| aB rfl <| en <| x_cond rfl (fun h11 => ?_) (fun h11 => ?_)
                 ·try simp only [nm, ne_eq] at h11
                  have hcv : 0 ≤ idx [100, 105, 117, 111, 120, 88, 99, 115, 98] (byte (rd3 s) 0) := by rw [hb0]; exact (cv_iff _).2 (by first | omega | simp_all)
                  have hO : rdO s = true := by unfold rdO; rw [hF, decide_eq_true k1, decide_eq_true k2, decide_eq_false k3, decide_eq_true hcv]; rfl
                  refine sr rfl <| mS rfl <| mI rfl <| Wp rfl <| st_sidx T.u9 rfl rfl (by omega) (by omega) <| fa T.fld68_5 rfl <| Wp rfl <| st_store (v := .int _ _) T.size5 rfl rfl rfl hb71 rfl (Nat.le_of_ble_eq_true rfl) (by simp [Value.oneCell', S]) rfl ?_
                  intro w131 c132 hb133; simp only [setVs, setV] at hb133
                  clear hb71
                  replace HC := HC.then1 c132 ge_b4
                  replace hb2 := hb2.tr1 c132 ne_b2_b4
                  refine en <| sr rfl <| Wp rfl <| st_loadA (vs := [_, _, _, _, _, _]) T.agg68 rfl (hb133.cells (n := 6) (vs := [_, _, _, _, _, _]) rfl) rfl <| mI rfl <| Wp rfl <| st_addk rfl rfl (by exact wrap64_id (by omega) (by omega)) <| Wp rfl <| st_store (v := .agg ⟨[.bool _, .bool _, .int _ _, .int _ _, .bool _, .int _ _]⟩) T.size68 rfl rfl rfl hb2 rfl (Nat.le_of_ble_eq_true rfl) (by simp [Value.oneCell', S]) rfl ?_
                  intro w134 c135 hb136; simp only [setVs, setV] at hb136
                  clear hb2
                  replace HC := HC.then1 c135 ge_b2
                  replace hb133 := hb133.tr1 c135 (Ne.symm ne_b2_b4)
                  refine aI rfl <| en <| x_ret <| block_r <| then_r <| ret_many (vs := [.agg ⟨[_, _, _, _, _, _]⟩, .int _ _]) rfl ⟨⟨_, _, rfl, run_loadVarA T.agg68 (hb136.cells (n := 6) rfl) rfl⟩, ⟨rfl, trivial⟩⟩ (Nat.le_of_ble_eq_true rfl) <| ⟨_, _, _, _, _, _, _, rfl, fun h => absurd h (by rw [hO]; decide), fun _ => ⟨I2, rfl, by omega, by rw [h3e, List.drop_drop], ?_⟩, HC⟩
                  have e1 : cntW (rdR s) = ((cntN (rdR s) : Nat) : Int) := if_pos k1
                  have e2 : cntW ((rd2 s).drop 1) = ((cntN ((rd2 s).drop 1) : Nat) : Int) := if_pos k2
                  unfold rag rdX
                  simp only [hO, hL, hZ, hP, if_true, hb0]
                  rw [e1]
                  rw [e2, decide_eq_true (by omega)]; rfl
                 ·try simp only [nm, ne_eq] at h11
                  have hcv : ¬ 0 ≤ idx [100, 105, 117, 111, 120, 88, 99, 115, 98] (byte (rd3 s) 0) := by rw [hb0]; exact fun h9 => absurd ((cv_iff _).1 h9) (by omega)
                  have hO : rdO s = false := by unfold rdO; rw [decide_eq_false hcv]; simp only [Bool.and_false]
                  refine x_skip <| block_n <| then_n <| sr rfl <| Wp rfl <| st_loadA (vs := [_, _, _, _, _, _]) T.agg68 rfl (hb71.cells (n := 6) (vs := [_, _, _, _, _, _]) rfl) rfl <| Wp rfl <| st_store (v := .agg ⟨[.bool _, .bool _, .int _ _, .int _ _, .bool _, .int _ _]⟩) T.size68 rfl rfl rfl hb2 rfl (Nat.le_of_ble_eq_true rfl) (by simp [Value.oneCell', S]) rfl ?_
                  intro w137 c138 hb139; simp only [setVs, setV] at hb139
                  clear hb2
                  replace HC := HC.then1 c138 ge_b2
                  replace hb71 := hb71.tr1 c138 (Ne.symm ne_b2_b4)
                  refine aI rfl <| en <| x_ret <| ret_many (vs := [.agg ⟨[_, _, _, _, _, _]⟩, .int _ _]) rfl ⟨⟨_, _, rfl, run_loadVarA T.agg68 (hb139.cells (n := 6) rfl) rfl⟩, ⟨rfl, trivial⟩⟩ (Nat.le_of_ble_eq_true rfl) <| ⟨_, _, _, _, _, _, _, rfl, fun _ => rfl, fun h => absurd h (by rw [hO]; decide), HC⟩
     ·try simp only [nm, ne_eq] at h1
      have hD : rdD s = false := by unfold rdD; rw [h2e, hp_46 (by omega)]; exact decide_eq_false (by first | assumption | simp_all)
      have h3e : rd3 s = s.drop I1 := by unfold rd3; rw [if_neg (by rw [hD]; decide)]; exact h2e
      have hF : rdF s = true := by unfold rdF; rw [if_neg (by rw [hD]; decide)]
      have hP : rdP s = -1 := by unfold rdP; rw [if_neg (by rw [hD]; decide)]
      have hpz : (rdP s).toNat = 0 := by rw [hP]; rfl
      obtain ⟨I2, hI2⟩ : ∃ I2, I2 = I1 := ⟨_, rfl⟩
      rw [← hI2] at h3e
      refine x_skip <| then_n <| x_seq <| x_seq ?_
      rw [← hI2]
      refine x_region rfl <| mI rfl <| mS rfl <| Wp rfl <| st_slen (ct := #[9]) T.u9 rfl <| Wp rfl <| st_geq rfl rfl <| mB rfl <| w_split (d := 86) rfl (fun g140 => ?_) (fun g140 => ?_)
      ·try simp only [nm, ne_eq] at g140
       iterate 3 refine w_no 4 86 false ?_
       refine pT rfl rfl <| mB rfl ?_
       iterate 3 refine w_no 9 91 false ?_
       refine pT rfl rfl <| en <| x_cond (t := true) rfl (fun h2 => ?_) (fun h2 => ?_)
       rotate_left
       · exact absurd h2 (by decide)
       have hO : rdO s = false := by unfold rdO; rw [decide_eq_true (show rd3 s = [] by rw [h3e]; exact List.drop_of_length_le (by omega))]; simp only [Bool.not_true, Bool.and_false, Bool.false_and]
       refine sr rfl <| Wp rfl <| st_loadA (vs := [_, _, _, _, _, _]) T.agg68 rfl (hb62.cells (n := 6) (vs := [_, _, _, _, _, _]) rfl) rfl <| Wp rfl <| st_store (v := .agg ⟨[.bool _, .bool _, .int _ _, .int _ _, .bool _, .int _ _]⟩) T.size68 rfl rfl rfl hb2 rfl (Nat.le_of_ble_eq_true rfl) (by simp [Value.oneCell', S]) rfl ?_
       intro w141 c142 hb143; simp only [setVs, setV] at hb143
       clear hb2
       replace HC := HC.then1 c142 ge_b2
       replace hb62 := hb62.tr1 c142 (Ne.symm ne_b2_b4)
       refine aI rfl <| en <| x_ret <| then_r <| ret_many (vs := [.agg ⟨[_, _, _, _, _, _]⟩, .int _ _]) rfl ⟨⟨_, _, rfl, run_loadVarA T.agg68 (hb143.cells (n := 6) rfl) rfl⟩, ⟨rfl, trivial⟩⟩ (Nat.le_of_ble_eq_true rfl) <| ⟨_, _, _, _, _, _, _, rfl, fun _ => rfl, fun h => absurd h (by rw [hO]; decide), HC⟩
      ·try simp only [nm, ne_eq] at g140
       refine w_yes 4 86 false <| st_fieldAddr T.fld68_2 rfl <| w_yes 4 86 false <| st_load1 (v := .int _ _) T.one3 rfl (hb62.cell rfl) <| w_yes 4 86 false <| st_lss rfl rfl <| pF rfl rfl <| mB rfl <| w_split (d := 91) rfl (fun g144 => ?_) (fun g144 => ?_)
       ·try simp only [nm, ne_eq] at g144
        iterate 3 refine w_no 9 91 false ?_
        refine pT rfl rfl <| en <| x_cond (t := true) rfl (fun h2 => ?_) (fun h2 => ?_)
        rotate_left
        · exact absurd h2 (by decide)
        have k1 := (cntW_neg (rdR s)).1 (by assumption)
        have hO : rdO s = false := by unfold rdO; rw [decide_eq_false k1]; simp only [Bool.false_and]
        refine sr rfl <| Wp rfl <| st_loadA (vs := [_, _, _, _, _, _]) T.agg68 rfl (hb62.cells (n := 6) (vs := [_, _, _, _, _, _]) rfl) rfl <| Wp rfl <| st_store (v := .agg ⟨[.bool _, .bool _, .int _ _, .int _ _, .bool _, .int _ _]⟩) T.size68 rfl rfl rfl hb2 rfl (Nat.le_of_ble_eq_true rfl) (by simp [Value.oneCell', S]) rfl ?_
        intro w145 c146 hb147; simp only [setVs, setV] at hb147
        clear hb2
        replace HC := HC.then1 c146 ge_b2
        replace hb62 := hb62.tr1 c146 (Ne.symm ne_b2_b4)
        refine aI rfl <| en <| x_ret <| then_r <| ret_many (vs := [.agg ⟨[_, _, _, _, _, _]⟩, .int _ _]) rfl ⟨⟨_, _, rfl, run_loadVarA T.agg68 (hb147.cells (n := 6) rfl) rfl⟩, ⟨rfl, trivial⟩⟩ (Nat.le_of_ble_eq_true rfl) <| ⟨_, _, _, _, _, _, _, rfl, fun _ => rfl, fun h => absurd h (by rw [hO]; decide), HC⟩
       ·try simp only [nm, ne_eq] at g144
        refine w_yes 9 91 false <| st_fieldAddr T.fld68_3 rfl <| w_yes 9 91 false <| st_load1 (v := .int _ _) T.one3 rfl (hb62.cell rfl) <| w_yes 9 91 false <| st_lss rfl rfl <| pF rfl rfl <| en <| x_cond rfl (fun h2 => ?_) (fun h2 => ?_)
        ·try simp only [nm, ne_eq] at h2
         exact absurd (show (0 : Int) < 0 by first | assumption | omega) (by decide)
        ·try simp only [nm, ne_eq] at h2
         have k1 : cntN (rdR s) ≤ 1000 := by have := cntW_neg (rdR s); first | omega | (refine Classical.byContradiction fun h9 => ?_; exact absurd (this.2 h9) (by first | assumption | omega))
         have k3 : ¬ rd3 s = [] := by rw [h3e]; intro h9; have := congrArg List.length h9; rw [List.length_drop, List.length_nil] at this; omega
         have hb0 : byte (rd3 s) 0 = byte s I2 := by rw [h3e, byte_drop]
         refine x_skip <| then_n <| x_seq <| sr rfl <| mS rfl <| mI rfl <| Wp rfl <| st_sidx T.u9 rfl rfl (by omega) (by omega) <| en <| x_block <| x_seq <| sr rfl <| Wp rfl <| st_eql rfl rfl <| aB rfl <| en <| x_cond rfl (fun h3 => ?_) (fun h3 => ?_)
         ·try simp only [nm, ne_eq] at h3
          refine x_skip <| then_n <| x_cond rfl (fun h11 => ?_) (fun h11 => ?_)
          rotate_left
          · first | (simp only [nm, ne_eq] at h11; exact absurd (by assumption) h11) | (exfalso; simp_all)
          have hcv : 0 ≤ idx [100, 105, 117, 111, 120, 88, 99, 115, 98] (byte (rd3 s) 0) := by rw [hb0]; exact (cv_iff _).2 (by first | omega | simp_all)
          have hO : rdO s = true := by unfold rdO; rw [hF, decide_eq_true k1, decide_eq_false k3, decide_eq_true hcv]; rfl
          refine sr rfl <| mS rfl <| mI rfl <| Wp rfl <| st_sidx T.u9 rfl rfl (by omega) (by omega) <| fa T.fld68_5 rfl <| Wp rfl <| st_store (v := .int _ _) T.size5 rfl rfl rfl hb62 rfl (Nat.le_of_ble_eq_true rfl) (by simp [Value.oneCell', S]) rfl ?_
          intro w148 c149 hb150; simp only [setVs, setV] at hb150
          clear hb62
          replace HC := HC.then1 c149 ge_b4
          replace hb2 := hb2.tr1 c149 ne_b2_b4
          refine en <| sr rfl <| Wp rfl <| st_loadA (vs := [_, _, _, _, _, _]) T.agg68 rfl (hb150.cells (n := 6) (vs := [_, _, _, _, _, _]) rfl) rfl <| mI rfl <| Wp rfl <| st_addk rfl rfl (by exact wrap64_id (by omega) (by omega)) <| Wp rfl <| st_store (v := .agg ⟨[.bool _, .bool _, .int _ _, .int _ _, .bool _, .int _ _]⟩) T.size68 rfl rfl rfl hb2 rfl (Nat.le_of_ble_eq_true rfl) (by simp [Value.oneCell', S]) rfl ?_
          intro w151 c152 hb153; simp only [setVs, setV] at hb153
          clear hb2
          replace HC := HC.then1 c152 ge_b2
          replace hb150 := hb150.tr1 c152 (Ne.symm ne_b2_b4)
          refine aI rfl <| en <| x_ret <| block_r <| then_r <| ret_many (vs := [.agg ⟨[_, _, _, _, _, _]⟩, .int _ _]) rfl ⟨⟨_, _, rfl, run_loadVarA T.agg68 (hb153.cells (n := 6) rfl) rfl⟩, ⟨rfl, trivial⟩⟩ (Nat.le_of_ble_eq_true rfl) <| ⟨_, _, _, _, _, _, _, rfl, fun h => absurd h (by rw [hO]; decide), fun _ => ⟨I2, rfl, by omega, by rw [h3e, List.drop_drop], ?_⟩, HC⟩
          have e1 : cntW (rdR s) = ((cntN (rdR s) : Nat) : Int) := if_pos k1
          unfold rag rdX
          simp only [hO, hL, hZ, hP, if_true, hb0]
          rw [e1]
          rfl
         ·try simp only [nm, ne_eq] at h3
          refine sr rfl <| Wp rfl <| st_eql rfl rfl <| aB rfl <| en <| x_cond rfl (fun h4 => ?_) (fun h4 => ?_)
          ·try simp only [nm, ne_eq] at h4
           refine x_skip <| then_n <| x_cond rfl (fun h11 => ?_) (fun h11 => ?_)
           rotate_left
           · first | (simp only [nm, ne_eq] at h11; exact absurd (by assumption) h11) | (exfalso; simp_all)
           have hcv : 0 ≤ idx [100, 105, 117, 111, 120, 88, 99, 115, 98] (byte (rd3 s) 0) := by rw [hb0]; exact (cv_iff _).2 (by first | omega | simp_all)
           have hO : rdO s = true := by unfold rdO; rw [hF, decide_eq_true k1, decide_eq_false k3, decide_eq_true hcv]; rfl
           refine sr rfl <| mS rfl <| mI rfl <| Wp rfl <| st_sidx T.u9 rfl rfl (by omega) (by omega) <| fa T.fld68_5 rfl <| Wp rfl <| st_store (v := .int _ _) T.size5 rfl rfl rfl hb62 rfl (Nat.le_of_ble_eq_true rfl) (by simp [Value.oneCell', S]) rfl ?_
           intro w154 c155 hb156; simp only [setVs, setV] at hb156
           clear hb62
           replace HC := HC.then1 c155 ge_b4
           replace hb2 := hb2.tr1 c155 ne_b2_b4
           refine en <| sr rfl <| Wp rfl <| st_loadA (vs := [_, _, _, _, _, _]) T.agg68 rfl (hb156.cells (n := 6) (vs := [_, _, _, _, _, _]) rfl) rfl <| mI rfl <| Wp rfl <| st_addk rfl rfl (by exact wrap64_id (by omega) (by omega)) <| Wp rfl <| st_store (v := .agg ⟨[.bool _, .bool _, .int _ _, .int _ _, .bool _, .int _ _]⟩) T.size68 rfl rfl rfl hb2 rfl (Nat.le_of_ble_eq_true rfl) (by simp [Value.oneCell', S]) rfl ?_
           intro w157 c158 hb159; simp only [setVs, setV] at hb159
           clear hb2
           replace HC := HC.then1 c158 ge_b2
           replace hb156 := hb156.tr1 c158 (Ne.symm ne_b2_b4)
           refine aI rfl <| en <| x_ret <| block_r <| then_r <| ret_many (vs := [.agg ⟨[_, _, _, _, _, _]⟩, .int _ _]) rfl ⟨⟨_, _, rfl, run_loadVarA T.agg68 (hb159.cells (n := 6) rfl) rfl⟩, ⟨rfl, trivial⟩⟩ (Nat.le_of_ble_eq_true rfl) <| ⟨_, _, _, _, _, _, _, rfl, fun h => absurd h (by rw [hO]; decide), fun _ => ⟨I2, rfl, by omega, by rw [h3e, List.drop_drop], ?_⟩, HC⟩
           have e1 : cntW (rdR s) = ((cntN (rdR s) : Nat) : Int) := if_pos k1
           unfold rag rdX
           simp only [hO, hL, hZ, hP, if_true, hb0]
           rw [e1]
           rfl
          ·try simp only [nm, ne_eq] at h4
           refine sr rfl <| Wp rfl <| st_eql rfl rfl <| aB rfl <| en <| x_cond rfl (fun h5 => ?_) (fun h5 => ?_)
           ·try simp only [nm, ne_eq] at h5
            refine x_skip <| then_n <| x_cond rfl (fun h11 => ?_) (fun h11 => ?_)
            rotate_left
            · first | (simp only [nm, ne_eq] at h11; exact absurd (by assumption) h11) | (exfalso; simp_all)
            have hcv : 0 ≤ idx [100, 105, 117, 111, 120, 88, 99, 115, 98] (byte (rd3 s) 0) := by rw [hb0]; exact (cv_iff _).2 (by first | omega | simp_all)
            have hO : rdO s = true := by unfold rdO; rw [hF, decide_eq_true k1, decide_eq_false k3, decide_eq_true hcv]; rfl
            refine sr rfl <| mS rfl <| mI rfl <| Wp rfl <| st_sidx T.u9 rfl rfl (by omega) (by omega) <| fa T.fld68_5 rfl <| Wp rfl <| st_store (v := .int _ _) T.size5 rfl rfl rfl hb62 rfl (Nat.le_of_ble_eq_true rfl) (by simp [Value.oneCell', S]) rfl ?_
            intro w160 c161 hb162; simp only [setVs, setV] at hb162
            clear hb62
            replace HC := HC.then1 c161 ge_b4
            replace hb2 := hb2.tr1 c161 ne_b2_b4
            refine en <| sr rfl <| Wp rfl <| st_loadA (vs := [_, _, _, _, _, _]) T.agg68 rfl (hb162.cells (n := 6) (vs := [_, _, _, _, _, _]) rfl) rfl <| mI rfl <| Wp rfl <| st_addk rfl rfl (by exact wrap64_id (by omega) (by omega)) <| Wp rfl <| st_store (v := .agg ⟨[.bool _, .bool _, .int _ _, .int _ _, .bool _, .int _ _]⟩) T.size68 rfl rfl rfl hb2 rfl (Nat.le_of_ble_eq_true rfl) (by simp [Value.oneCell', S]) rfl ?_
            intro w163 c164 hb165; simp only [setVs, setV] at hb165
            clear hb2
            replace HC := HC.then1 c164 ge_b2
            replace hb162 := hb162.tr1 c164 (Ne.symm ne_b2_b4)
            refine aI rfl <| en <| x_ret <| block_r <| then_r <| ret_many (vs := [.agg ⟨[_, _, _, _, _, _]⟩, .int _ _]) rfl ⟨⟨_, _, rfl, run_loadVarA T.agg68 (hb165.cells (n := 6) rfl) rfl⟩, ⟨rfl, trivial⟩⟩ (Nat.le_of_ble_eq_true rfl) <| ⟨_, _, _, _, _, _, _, rfl, fun h => absurd h (by rw [hO]; decide), fun _ => ⟨I2, rfl, by omega, by rw [h3e, List.drop_drop], ?_⟩, HC⟩
            have e1 : cntW (rdR s) = ((cntN (rdR s) : Nat) : Int) := if_pos k1
            unfold rag rdX
            simp only [hO, hL, hZ, hP, if_true, hb0]
            rw [e1]
            rfl
           ·try simp only [nm, ne_eq] at h5
            refine sr rfl <| Wp rfl <| st_eql rfl rfl <| aB rfl <| en <| x_cond rfl (fun h6 => ?_) (fun h6 => ?_)
            ·try simp only [nm, ne_eq] at h6
             refine x_skip <| then_n <| x_cond rfl (fun h11 => ?_) (fun h11 => ?_)
             rotate_left
             · first | (simp only [nm, ne_eq] at h11; exact absurd (by assumption) h11) | (exfalso; simp_all)
             have hcv : 0 ≤ idx [100, 105, 117, 111, 120, 88, 99, 115, 98] (byte (rd3 s) 0) := by rw [hb0]; exact (cv_iff _).2 (by first | omega | simp_all)
             have hO : rdO s = true := by unfold rdO; rw [hF, decide_eq_true k1, decide_eq_false k3, decide_eq_true hcv]; rfl
             refine sr rfl <| mS rfl <| mI rfl <| Wp rfl <| st_sidx T.u9 rfl rfl (by omega) (by omega) <| fa T.fld68_5 rfl <| Wp rfl <| st_store (v := .int _ _) T.size5 rfl rfl rfl hb62 rfl (Nat.le_of_ble_eq_true rfl) (by simp [Value.oneCell', S]) rfl ?_
             intro w166 c167 hb168; simp only [setVs, setV] at hb168
             clear hb62
             replace HC := HC.then1 c167 ge_b4
             replace hb2 := hb2.tr1 c167 ne_b2_b4
             refine en <| sr rfl <| Wp rfl <| st_loadA (vs := [_, _, _, _, _, _]) T.agg68 rfl (hb168.cells (n := 6) (vs := [_, _, _, _, _, _]) rfl) rfl <| mI rfl <| Wp rfl <| st_addk rfl rfl (by exact wrap64_id (by omega) (by omega)) <| Wp rfl <| st_store (v := .agg ⟨[.bool _, .bool _, .int _ _, .int _ _, .bool _, .int _ _]⟩) T.size68 rfl rfl rfl hb2 rfl (Nat.le_of_ble_eq_true rfl) (by simp [Value.oneCell', S]) rfl ?_
             intro w169 c170 hb171; simp only [setVs, setV] at hb171
             clear hb2
             replace HC := HC.then1 c170 ge_b2
             replace hb168 := hb168.tr1 c170 (Ne.symm ne_b2_b4)
             refine aI rfl <| en <| x_ret <| block_r <| then_r <| ret_many (vs := [.agg ⟨[_, _, _, _, _, _]⟩, .int _ _]) rfl ⟨⟨_, _, rfl, run_loadVarA T.agg68 (hb171.cells (n := 6) rfl) rfl⟩, ⟨rfl, trivial⟩⟩ (Nat.le_of_ble_eq_true rfl) <| ⟨_, _, _, _, _, _, _, rfl, fun h => absurd h (by rw [hO]; decide), fun _ => ⟨I2, rfl, by omega, by rw [h3e, List.drop_drop], ?_⟩, HC⟩
             have e1 : cntW (rdR s) = ((cntN (rdR s) : Nat) : Int) := if_pos k1
             unfold rag rdX
             simp only [hO, hL, hZ, hP, if_true, hb0]
             rw [e1]
             rfl
            ·try simp only [nm, ne_eq] at h6
             refine sr rfl <| Wp rfl <| st_eql rfl rfl <| aB rfl <| en <| x_cond rfl (fun h7 => ?_) (fun h7 => ?_)
             ·try simp only [nm, ne_eq] at h7
              refine x_skip <| then_n <| x_cond rfl (fun h11 => ?_) (fun h11 => ?_)
              rotate_left
              · first | (simp only [nm, ne_eq] at h11; exact absurd (by assumption) h11) | (exfalso; simp_all)
              have hcv : 0 ≤ idx [100, 105, 117, 111, 120, 88, 99, 115, 98] (byte (rd3 s) 0) := by rw [hb0]; exact (cv_iff _).2 (by first | omega | simp_all)
              have hO : rdO s = true := by unfold rdO; rw [hF, decide_eq_true k1, decide_eq_false k3, decide_eq_true hcv]; rfl
              refine sr rfl <| mS rfl <| mI rfl <| Wp rfl <| st_sidx T.u9 rfl rfl (by omega) (by omega) <| fa T.fld68_5 rfl <| Wp rfl <| st_store (v := .int _ _) T.size5 rfl rfl rfl hb62 rfl (Nat.le_of_ble_eq_true rfl) (by simp [Value.oneCell', S]) rfl ?_
              intro w172 c173 hb174; simp only [setVs, setV] at hb174
              clear hb62
              replace HC := HC.then1 c173 ge_b4
              replace hb2 := hb2.tr1 c173 ne_b2_b4
              refine en <| sr rfl <| Wp rfl <| st_loadA (vs := [_, _, _, _, _, _]) T.agg68 rfl (hb174.cells (n := 6) (vs := [_, _, _, _, _, _]) rfl) rfl <| mI rfl <| Wp rfl <| st_addk rfl rfl (by exact wrap64_id (by omega) (by omega)) <| Wp rfl <| st_store (v := .agg ⟨[.bool _, .bool _, .int _ _, .int _ _, .bool _, .int _ _]⟩) T.size68 rfl rfl rfl hb2 rfl (Nat.le_of_ble_eq_true rfl) (by simp [Value.oneCell', S]) rfl ?_
              intro w175 c176 hb177; simp only [setVs, setV] at hb177
              clear hb2
              replace HC := HC.then1 c176 ge_b2
              replace hb174 := hb174.tr1 c176 (Ne.symm ne_b2_b4)
              refine aI rfl <| en <| x_ret <| block_r <| then_r <| ret_many (vs := [.agg ⟨[_, _, _, _, _, _]⟩, .int _ _]) rfl ⟨⟨_, _, rfl, run_loadVarA T.agg68 (hb177.cells (n := 6) rfl) rfl⟩, ⟨rfl, trivial⟩⟩ (Nat.le_of_ble_eq_true rfl) <| ⟨_, _, _, _, _, _, _, rfl, fun h => absurd h (by rw [hO]; decide), fun _ => ⟨I2, rfl, by omega, by rw [h3e, List.drop_drop], ?_⟩, HC⟩
              have e1 : cntW (rdR s) = ((cntN (rdR s) : Nat) : Int) := if_pos k1
              unfold rag rdX
              simp only [hO, hL, hZ, hP, if_true, hb0]
              rw [e1]
              rfl
             ·try simp only [nm, ne_eq] at h7
              refine sr rfl <| Wp rfl <| st_eql rfl rfl <| aB rfl <| en <| x_cond rfl (fun h8 => ?_) (fun h8 => ?_)
              ·try simp only [nm, ne_eq] at h8
               refine x_skip <| then_n <| x_cond rfl (fun h11 => ?_) (fun h11 => ?_)
               rotate_left
               · first | (simp only [nm, ne_eq] at h11; exact absurd (by assumption) h11) | (exfalso; simp_all)
               have hcv : 0 ≤ idx [100, 105, 117, 111, 120, 88, 99, 115, 98] (byte (rd3 s) 0) := by rw [hb0]; exact (cv_iff _).2 (by first | omega | simp_all)
               have hO : rdO s = true := by unfold rdO; rw [hF, decide_eq_true k1, decide_eq_false k3, decide_eq_true hcv]; rfl
               refine sr rfl <| mS rfl <| mI rfl <| Wp rfl <| st_sidx T.u9 rfl rfl (by omega) (by omega) <| fa T.fld68_5 rfl <| Wp rfl <| st_store (v := .int _ _) T.size5 rfl rfl rfl hb62 rfl (Nat.le_of_ble_eq_true rfl) (by simp [Value.oneCell', S]) rfl ?_
               intro w178 c179 hb180; simp only [setVs, setV] at hb180
               clear hb62
               replace HC := HC.then1 c179 ge_b4
               replace hb2 := hb2.tr1 c179 ne_b2_b4
               refine en <| sr rfl <| Wp rfl <| st_loadA (vs := [_, _, _, _, _, _]) T.agg68 rfl (hb180.cells (n := 6) (vs := [_, _, _, _, _, _]) rfl) rfl <| mI rfl <| Wp rfl <| st_addk rfl rfl (by exact wrap64_id (by omega) (by omega)) <| Wp rfl <| st_store (v := .agg ⟨[.bool _, .bool _, .int _ _, .int _ _, .bool _, .int _ _]⟩) T.size68 rfl rfl rfl hb2 rfl (Nat.le_of_ble_eq_true rfl) (by simp [Value.oneCell', S]) rfl ?_
               intro w181 c182 hb183; simp only [setVs, setV] at hb183
               clear hb2
               replace HC := HC.then1 c182 ge_b2
               replace hb180 := hb180.tr1 c182 (Ne.symm ne_b2_b4)
               refine aI rfl <| en <| x_ret <| block_r <| then_r <| ret_many (vs := [.agg ⟨[_, _, _, _, _, _]⟩, .int _ _]) rfl ⟨⟨_, _, rfl, run_loadVarA T.agg68 (hb183.cells (n := 6) rfl) rfl⟩, ⟨rfl, trivial⟩⟩ (Nat.le_of_ble_eq_true rfl) <| ⟨_, _, _, _, _, _, _, rfl, fun h => absurd h (by rw [hO]; decide), fun _ => ⟨I2, rfl, by omega, by rw [h3e, List.drop_drop], ?_⟩, HC⟩
               have e1 : cntW (rdR s) = ((cntN (rdR s) : Nat) : Int) := if_pos k1
               unfold rag rdX
               simp only [hO, hL, hZ, hP, if_true, hb0]
               rw [e1]
               rfl
              ·try simp only [nm, ne_eq] at h8
               refine sr rfl <| Wp rfl <| st_eql rfl rfl <| aB rfl <| en <| x_cond rfl (fun h9 => ?_) (fun h9 => ?_)
               ·try simp only [nm, ne_eq] at h9
                refine x_skip <| then_n <| x_cond rfl (fun h11 => ?_) (fun h11 => ?_)
                rotate_left
                · first | (simp only [nm, ne_eq] at h11; exact absurd (by assumption) h11) | (exfalso; simp_all)
                have hcv : 0 ≤ idx [100, 105, 117, 111, 120, 88, 99, 115, 98] (byte (rd3 s) 0) := by rw [hb0]; exact (cv_iff _).2 (by first | omega | simp_all)
                have hO : rdO s = true := by unfold rdO; rw [hF, decide_eq_true k1, decide_eq_false k3, decide_eq_true hcv]; rfl
                refine sr rfl <| mS rfl <| mI rfl <| Wp rfl <| st_sidx T.u9 rfl rfl (by omega) (by omega) <| fa T.fld68_5 rfl <| Wp rfl <| st_store (v := .int _ _) T.size5 rfl rfl rfl hb62 rfl (Nat.le_of_ble_eq_true rfl) (by simp [Value.oneCell', S]) rfl ?_
                intro w184 c185 hb186; simp only [setVs, setV] at hb186
                clear hb62
                replace HC := HC.then1 c185 ge_b4
                replace hb2 := hb2.tr1 c185 ne_b2_b4
                refine en <| sr rfl <| Wp rfl <| st_loadA (vs := [_, _, _, _, _, _]) T.agg68 rfl (hb186.cells (n := 6) (vs := [_, _, _, _, _, _]) rfl) rfl <| mI rfl <| Wp rfl <| st_addk rfl rfl (by exact wrap64_id (by omega) (by omega)) <| Wp rfl <| st_store (v := .agg ⟨[.bool _, .bool _, .int _ _, .int _ _, .bool _, .int _ _]⟩) T.size68 rfl rfl rfl hb2 rfl (Nat.le_of_ble_eq_true rfl) (by simp [Value.oneCell', S]) rfl ?_
                intro w187 c188 hb189; simp only [setVs, setV] at hb189
                clear hb2
                replace HC := HC.then1 c188 ge_b2
                replace hb186 := hb186.tr1 c188 (Ne.symm ne_b2_b4)
                refine aI rfl <| en <| x_ret <| block_r <| then_r <| ret_many (vs := [.agg ⟨[_, _, _, _, _, _]⟩, .int _ _]) rfl ⟨⟨_, _, rfl, run_loadVarA T.agg68 (hb189.cells (n := 6) rfl) rfl⟩, ⟨rfl, trivial⟩⟩ (Nat.le_of_ble_eq_true rfl) <| ⟨_, _, _, _, _, _, _, rfl, fun h => absurd h (by rw [hO]; decide), fun _ => ⟨I2, rfl, by omega, by rw [h3e, List.drop_drop], ?_⟩, HC⟩
                have e1 : cntW (rdR s) = ((cntN (rdR s) : Nat) : Int) := if_pos k1
                unfold rag rdX
                simp only [hO, hL, hZ, hP, if_true, hb0]
                rw [e1]
                rfl
               ·try simp only [nm, ne_eq] at h9
                refine sr rfl <| Wp rfl <| st_eql rfl rfl <| aB rfl <| en <| x_cond rfl (fun h10 => ?_) (fun h10 => ?_)
                ·try simp only [nm, ne_eq] at h10
                 refine x_skip <| then_n <| x_cond rfl (fun h11 => ?_) (fun h11 => ?_)
                 rotate_left
                 · first | (simp only [nm, ne_eq] at h11; exact absurd (by assumption) h11) | (exfalso; simp_all)
                 have hcv : 0 ≤ idx [100, 105, 117, 111, 120, 88, 99, 115, 98] (byte (rd3 s) 0) := by rw [hb0]; exact (cv_iff _).2 (by first | omega | simp_all)
                 have hO : rdO s = true := by unfold rdO; rw [hF, decide_eq_true k1, decide_eq_false k3, decide_eq_true hcv]; rfl
                 refine sr rfl <| mS rfl <| mI rfl <| Wp rfl <| st_sidx T.u9 rfl rfl (by omega) (by omega) <| fa T.fld68_5 rfl <| Wp rfl <| st_store (v := .int _ _) T.size5 rfl rfl rfl hb62 rfl (Nat.le_of_ble_eq_true rfl) (by simp [Value.oneCell', S]) rfl ?_
                 intro w190 c191 hb192; simp only [setVs, setV] at hb192
                 clear hb62
                 replace HC := HC.then1 c191 ge_b4
                 replace hb2 := hb2.tr1 c191 ne_b2_b4
                 refine en <| sr rfl <| Wp rfl <| st_loadA (vs := [_, _, _, _, _, _]) T.agg68 rfl (hb192.cells (n := 6) (vs := [_, _, _, _, _, _]) rfl) rfl <| mI rfl <| Wp rfl <| st_addk rfl rfl (by exact wrap64_id (by omega) (by omega)) <| Wp rfl <| st_store (v := .agg ⟨[.bool _, .bool _, .int _ _, .int _ _, .bool _, .int _ _]⟩) T.size68 rfl rfl rfl hb2 rfl (Nat.le_of_ble_eq_true rfl) (by simp [Value.oneCell', S]) rfl ?_
                 intro w193 c194 hb195; simp only [setVs, setV] at hb195
                 clear hb2
                 replace HC := HC.then1 c194 ge_b2
                 replace hb192 := hb192.tr1 c194 (Ne.symm ne_b2_b4)
                 refine aI rfl <| en <| x_ret <| block_r <| then_r <| ret_many (vs := [.agg ⟨[_, _, _, _, _, _]⟩, .int _ _]) rfl ⟨⟨_, _, rfl, run_loadVarA T.agg68 (hb195.cells (n := 6) rfl) rfl⟩, ⟨rfl, trivial⟩⟩ (Nat.le_of_ble_eq_true rfl) <| ⟨_, _, _, _, _, _, _, rfl, fun h => absurd h (by rw [hO]; decide), fun _ => ⟨I2, rfl, by omega, by rw [h3e, List.drop_drop], ?_⟩, HC⟩
                 have e1 : cntW (rdR s) = ((cntN (rdR s) : Nat) : Int) := if_pos k1
                 unfold rag rdX
                 simp only [hO, hL, hZ, hP, if_true, hb0]
                 rw [e1]
                 rfl
                ·try simp only [nm, ne_eq] at h10
                 refine x_region rfl <| Wp rfl <| st_eql rfl rfl <| aB rfl <| en <| x_cond rfl (fun h11 => ?_) (fun h11 => ?_)
                 ·try simp only [nm, ne_eq] at h11
                  have hcv : 0 ≤ idx [100, 105, 117, 111, 120, 88, 99, 115, 98] (byte (rd3 s) 0) := by rw [hb0]; exact (cv_iff _).2 (by first | omega | simp_all)
                  have hO : rdO s = true := by unfold rdO; rw [hF, decide_eq_true k1, decide_eq_false k3, decide_eq_true hcv]; rfl
                  refine sr rfl <| mS rfl <| mI rfl <| Wp rfl <| st_sidx T.u9 rfl rfl (by omega) (by omega) <| fa T.fld68_5 rfl <| Wp rfl <| st_store (v := .int _ _) T.size5 rfl rfl rfl hb62 rfl (Nat.le_of_ble_eq_true rfl) (by simp [Value.oneCell', S]) rfl ?_
                  intro w196 c197 hb198; simp only [setVs, setV] at hb198
                  clear hb62
                  replace HC := HC.then1 c197 ge_b4
                  replace hb2 := hb2.tr1 c197 ne_b2_b4
                  refine en <| sr rfl <| Wp rfl <| st_loadA (vs := [_, _, _, _, _, _]) T.agg68 rfl (hb198.cells (n := 6) (vs := [_, _, _, _, _, _]) rfl) rfl <| mI rfl <| Wp rfl <| st_addk rfl rfl (by exact wrap64_id (by omega) (by omega)) <| Wp rfl <| st_store (v := .agg ⟨[.bool _, .bool _, .int _ _, .int _ _, .bool _, .int _ _]⟩) T.size68 rfl rfl rfl hb2 rfl (Nat.le_of_ble_eq_true rfl) (by simp [Value.oneCell', S]) rfl ?_
                  intro w199 c200 hb201; simp only [setVs, setV] at hb201
                  clear hb2
                  replace HC := HC.then1 c200 ge_b2
                  replace hb198 := hb198.tr1 c200 (Ne.symm ne_b2_b4)
                  refine aI rfl <| en <| x_ret <| block_r <| then_r <| ret_many (vs := [.agg ⟨[_, _, _, _, _, _]⟩, .int _ _]) rfl ⟨⟨_, _, rfl, run_loadVarA T.agg68 (hb201.cells (n := 6) rfl) rfl⟩, ⟨rfl, trivial⟩⟩ (Nat.le_of_ble_eq_true rfl) <| ⟨_, _, _, _, _, _, _, rfl, fun h => absurd h (by rw [hO]; decide), fun _ => ⟨I2, rfl, by omega, by rw [h3e, List.drop_drop], ?_⟩, HC⟩
                  have e1 : cntW (rdR s) = ((cntN (rdR s) : Nat) : Int) := if_pos k1
                  unfold rag rdX
                  simp only [hO, hL, hZ, hP, if_true, hb0]
                  rw [e1]
                  rfl
                 ·try simp only [nm, ne_eq] at h11
                  have hcv : ¬ 0 ≤ idx [100, 105, 117, 111, 120, 88, 99, 115, 98] (byte (rd3 s) 0) := by rw [hb0]; exact fun h9 => absurd ((cv_iff _).1 h9) (by omega)
                  have hO : rdO s = false := by unfold rdO; rw [decide_eq_false hcv]; simp only [Bool.and_false]
                  refine x_skip <| block_n <| then_n <| sr rfl <| Wp rfl <| st_loadA (vs := [_, _, _, _, _, _]) T.agg68 rfl (hb62.cells (n := 6) (vs := [_, _, _, _, _, _]) rfl) rfl <| Wp rfl <| st_store (v := .agg ⟨[.bool _, .bool _, .int _ _, .int _ _, .bool _, .int _ _]⟩) T.size68 rfl rfl rfl hb2 rfl (Nat.le_of_ble_eq_true rfl) (by simp [Value.oneCell', S]) rfl ?_
                  intro w202 c203 hb204; simp only [setVs, setV] at hb204
                  clear hb2
                  replace HC := HC.then1 c203 ge_b2
                  replace hb62 := hb62.tr1 c203 (Ne.symm ne_b2_b4)
                  refine aI rfl <| en <| x_ret <| ret_many (vs := [.agg ⟨[_, _, _, _, _, _]⟩, .int _ _]) rfl ⟨⟨_, _, rfl, run_loadVarA T.agg68 (hb204.cells (n := 6) rfl) rfl⟩, ⟨rfl, trivial⟩⟩ (Nat.le_of_ble_eq_true rfl) <| ⟨_, _, _, _, _, _, _, rfl, fun _ => rfl, fun h => absurd h (by rw [hO]; decide), HC⟩
    ·try simp only [nm, ne_eq] at g63
     iterate 4 refine w_no 4 61 true ?_
     refine pF rfl rfl <| en <| x_cond (t := false) rfl (fun h1 => ?_) (fun h1 => ?_)
     · exact absurd h1 (by decide)
     have hD : rdD s = false := by unfold rdD; rw [h2e, List.drop_of_length_le (by omega)]; rfl
     have h3e : rd3 s = s.drop I1 := by unfold rd3; rw [if_neg (by rw [hD]; decide)]; exact h2e
     have hF : rdF s = true := by unfold rdF; rw [if_neg (by rw [hD]; decide)]
     have hP : rdP s = -1 := by unfold rdP; rw [if_neg (by rw [hD]; decide)]
     have hpz : (rdP s).toNat = 0 := by rw [hP]; rfl
     obtain ⟨I2, hI2⟩ : ∃ I2, I2 = I1 := ⟨_, rfl⟩
     rw [← hI2] at h3e
     refine x_skip <| then_n <| x_seq <| x_seq ?_
     rw [← hI2]
     refine x_region rfl <| mI rfl <| mS rfl <| Wp rfl <| st_slen (ct := #[9]) T.u9 rfl <| Wp rfl <| st_geq rfl rfl <| mB rfl <| w_split (d := 86) rfl (fun g205 => ?_) (fun g205 => ?_)
     ·try simp only [nm, ne_eq] at g205
      iterate 3 refine w_no 4 86 false ?_
      refine pT rfl rfl <| mB rfl ?_
      iterate 3 refine w_no 9 91 false ?_
      refine pT rfl rfl <| en <| x_cond (t := true) rfl (fun h2 => ?_) (fun h2 => ?_)
      rotate_left
      · exact absurd h2 (by decide)
      have hO : rdO s = false := by unfold rdO; rw [decide_eq_true (show rd3 s = [] by rw [h3e]; exact List.drop_of_length_le (by omega))]; simp only [Bool.not_true, Bool.and_false, Bool.false_and]
      refine sr rfl <| Wp rfl <| st_loadA (vs := [_, _, _, _, _, _]) T.agg68 rfl (hb62.cells (n := 6) (vs := [_, _, _, _, _, _]) rfl) rfl <| Wp rfl <| st_store (v := .agg ⟨[.bool _, .bool _, .int _ _, .int _ _, .bool _, .int _ _]⟩) T.size68 rfl rfl rfl hb2 rfl (Nat.le_of_ble_eq_true rfl) (by simp [Value.oneCell', S]) rfl ?_
      intro w206 c207 hb208; simp only [setVs, setV] at hb208
      clear hb2
      replace HC := HC.then1 c207 ge_b2
      replace hb62 := hb62.tr1 c207 (Ne.symm ne_b2_b4)
      refine aI rfl <| en <| x_ret <| then_r <| ret_many (vs := [.agg ⟨[_, _, _, _, _, _]⟩, .int _ _]) rfl ⟨⟨_, _, rfl, run_loadVarA T.agg68 (hb208.cells (n := 6) rfl) rfl⟩, ⟨rfl, trivial⟩⟩ (Nat.le_of_ble_eq_true rfl) <| ⟨_, _, _, _, _, _, _, rfl, fun _ => rfl, fun h => absurd h (by rw [hO]; decide), HC⟩
     ·try simp only [nm, ne_eq] at g205
      refine w_yes 4 86 false <| st_fieldAddr T.fld68_2 rfl <| w_yes 4 86 false <| st_load1 (v := .int _ _) T.one3 rfl (hb62.cell rfl) <| w_yes 4 86 false <| st_lss rfl rfl <| pF rfl rfl <| mB rfl <| w_split (d := 91) rfl (fun g209 => ?_) (fun g209 => ?_)
      ·try simp only [nm, ne_eq] at g209
       iterate 3 refine w_no 9 91 false ?_
       refine pT rfl rfl <| en <| x_cond (t := true) rfl (fun h2 => ?_) (fun h2 => ?_)
       rotate_left
       · exact absurd h2 (by decide)
       have k1 := (cntW_neg (rdR s)).1 (by assumption)
       have hO : rdO s = false := by unfold rdO; rw [decide_eq_false k1]; simp only [Bool.false_and]
       refine sr rfl <| Wp rfl <| st_loadA (vs := [_, _, _, _, _, _]) T.agg68 rfl (hb62.cells (n := 6) (vs := [_, _, _, _, _, _]) rfl) rfl <| Wp rfl <| st_store (v := .agg ⟨[.bool _, .bool _, .int _ _, .int _ _, .bool _, .int _ _]⟩) T.size68 rfl rfl rfl hb2 rfl (Nat.le_of_ble_eq_true rfl) (by simp [Value.oneCell', S]) rfl ?_
       intro w210 c211 hb212; simp only [setVs, setV] at hb212
       clear hb2
       replace HC := HC.then1 c211 ge_b2
       replace hb62 := hb62.tr1 c211 (Ne.symm ne_b2_b4)
       refine aI rfl <| en <| x_ret <| then_r <| ret_many (vs := [.agg ⟨[_, _, _, _, _, _]⟩, .int _ _]) rfl ⟨⟨_, _, rfl, run_loadVarA T.agg68 (hb212.cells (n := 6) rfl) rfl⟩, ⟨rfl, trivial⟩⟩ (Nat.le_of_ble_eq_true rfl) <| ⟨_, _, _, _, _, _, _, rfl, fun _ => rfl, fun h => absurd h (by rw [hO]; decide), HC⟩
      ·try simp only [nm, ne_eq] at g209
       refine w_yes 9 91 false <| st_fieldAddr T.fld68_3 rfl <| w_yes 9 91 false <| st_load1 (v := .int _ _) T.one3 rfl (hb62.cell rfl) <| w_yes 9 91 false <| st_lss rfl rfl <| pF rfl rfl <| en <| x_cond rfl (fun h2 => ?_) (fun h2 => ?_)
       ·try simp only [nm, ne_eq] at h2
        exact absurd (show (0 : Int) < 0 by first | assumption | omega) (by decide)
       ·try simp only [nm, ne_eq] at h2
        have k1 : cntN (rdR s) ≤ 1000 := by have := cntW_neg (rdR s); first | omega | (refine Classical.byContradiction fun h9 => ?_; exact absurd (this.2 h9) (by first | assumption | omega))
        have k3 : ¬ rd3 s = [] := by rw [h3e]; intro h9; have := congrArg List.length h9; rw [List.length_drop, List.length_nil] at this; omega
        have hb0 : byte (rd3 s) 0 = byte s I2 := by rw [h3e, byte_drop]
        refine x_skip <| then_n <| x_seq <| sr rfl <| mS rfl <| mI rfl <| Wp rfl <| st_sidx T.u9 rfl rfl (by omega) (by omega) <| en <| x_block <| x_seq <| sr rfl <| Wp rfl <| st_eql rfl rfl <| aB rfl <| en <| x_cond rfl (fun h3 => ?_) (fun h3 => ?_)
        ·try simp only [nm, ne_eq] at h3
         refine x_skip <| then_n <| x_cond rfl (fun h11 => ?_) (fun h11 => ?_)
         rotate_left
         · first | (simp only [nm, ne_eq] at h11; exact absurd (by assumption) h11) | (exfalso; simp_all)
         have hcv : 0 ≤ idx [100, 105, 117, 111, 120, 88, 99, 115, 98] (byte (rd3 s) 0) := by rw [hb0]; exact (cv_iff _).2 (by first | omega | simp_all)
         have hO : rdO s = true := by unfold rdO; rw [hF, decide_eq_true k1, decide_eq_false k3, decide_eq_true hcv]; rfl
         refine sr rfl <| mS rfl <| mI rfl <| Wp rfl <| st_sidx T.u9 rfl rfl (by omega) (by omega) <| fa T.fld68_5 rfl <| Wp rfl <| st_store (v := .int _ _) T.size5 rfl rfl rfl hb62 rfl (Nat.le_of_ble_eq_true rfl) (by simp [Value.oneCell', S]) rfl ?_
         intro w213 c214 hb215; simp only [setVs, setV] at hb215
         clear hb62
         replace HC := HC.then1 c214 ge_b4
         replace hb2 := hb2.tr1 c214 ne_b2_b4
         refine en <| sr rfl <| Wp rfl <| st_loadA (vs := [_, _, _, _, _, _]) T.agg68 rfl (hb215.cells (n := 6) (vs := [_, _, _, _, _, _]) rfl) rfl <| mI rfl <| Wp rfl <| st_addk rfl rfl (by exact wrap64_id (by omega) (by omega)) <| Wp rfl <| st_store (v := .agg ⟨[.bool _, .bool _, .int _ _, .int _ _, .bool _, .int _ _]⟩) T.size68 rfl rfl rfl hb2 rfl (Nat.le_of_ble_eq_true rfl) (by simp [Value.oneCell', S]) rfl ?_
         intro w216 c217 hb218; simp only [setVs, setV] at hb218
         clear hb2
         replace HC := HC.then1 c217 ge_b2
         replace hb215 := hb215.tr1 c217 (Ne.symm ne_b2_b4)
         refine aI rfl <| en <| x_ret <| block_r <| then_r <| ret_many (vs := [.agg ⟨[_, _, _, _, _, _]⟩, .int _ _]) rfl ⟨⟨_, _, rfl, run_loadVarA T.agg68 (hb218.cells (n := 6) rfl) rfl⟩, ⟨rfl, trivial⟩⟩ (Nat.le_of_ble_eq_true rfl) <| ⟨_, _, _, _, _, _, _, rfl, fun h => absurd h (by rw [hO]; decide), fun _ => ⟨I2, rfl, by omega, by rw [h3e, List.drop_drop], ?_⟩, HC⟩
         have e1 : cntW (rdR s) = ((cntN (rdR s) : Nat) : Int) := if_pos k1
         unfold rag rdX
         simp only [hO, hL, hZ, hP, if_true, hb0]
         rw [e1]
         rfl
        ·try simp only [nm, ne_eq] at h3
         refine sr rfl <| Wp rfl <| st_eql rfl rfl <| aB rfl <| en <| x_cond rfl (fun h4 => ?_) (fun h4 => ?_)
         ·try simp only [nm, ne_eq] at h4
          refine x_skip <| then_n <| x_cond rfl (fun h11 => ?_) (fun h11 => ?_)
          rotate_left
          · first | (simp only [nm, ne_eq] at h11; exact absurd (by assumption) h11) | (exfalso; simp_all)
          have hcv : 0 ≤ idx [100, 105, 117, 111, 120, 88, 99, 115, 98] (byte (rd3 s) 0) := by rw [hb0]; exact (cv_iff _).2 (by first | omega | simp_all)
          have hO : rdO s = true := by unfold rdO; rw [hF, decide_eq_true k1, decide_eq_false k3, decide_eq_true hcv]; rfl
          refine sr rfl <| mS rfl <| mI rfl <| Wp rfl <| st_sidx T.u9 rfl rfl (by omega) (by omega) <| fa T.fld68_5 rfl <| Wp rfl <| st_store (v := .int _ _) T.size5 rfl rfl rfl hb62 rfl (Nat.le_of_ble_eq_true rfl) (by simp [Value.oneCell', S]) rfl ?_
          intro w219 c220 hb221; simp only [setVs, setV] at hb221
          clear hb62
          replace HC := HC.then1 c220 ge_b4
          replace hb2 := hb2.tr1 c220 ne_b2_b4
          refine en <| sr rfl <| Wp rfl <| st_loadA (vs := [_, _, _, _, _, _]) T.agg68 rfl (hb221.cells (n := 6) (vs := [_, _, _, _, _, _]) rfl) rfl <| mI rfl <| Wp rfl <| st_addk rfl rfl (by exact wrap64_id (by omega) (by omega)) <| Wp rfl <| st_store (v := .agg ⟨[.bool _, .bool _, .int _ _, .int _ _, .bool _, .int _ _]⟩) T.size68 rfl rfl rfl hb2 rfl (Nat.le_of_ble_eq_true rfl) (by simp [Value.oneCell', S]) rfl ?_
          intro w222 c223 hb224; simp only [setVs, setV] at hb224
          clear hb2
          replace HC := HC.then1 c223 ge_b2
          replace hb221 := hb221.tr1 c223 (Ne.symm ne_b2_b4)
          refine aI rfl <| en <| x_ret <| block_r <| then_r <| ret_many (vs := [.agg ⟨[_, _, _, _, _, _]⟩, .int _ _]) rfl ⟨⟨_, _, rfl, run_loadVarA T.agg68 (hb224.cells (n := 6) rfl) rfl⟩, ⟨rfl, trivial⟩⟩ (Nat.le_of_ble_eq_true rfl) <| ⟨_, _, _, _, _, _, _, rfl, fun h => absurd h (by rw [hO]; decide), fun _ => ⟨I2, rfl, by omega, by rw [h3e, List.drop_drop], ?_⟩, HC⟩
          have e1 : cntW (rdR s) = ((cntN (rdR s) : Nat) : Int) := if_pos k1
          unfold rag rdX
          simp only [hO, hL, hZ, hP, if_true, hb0]
          rw [e1]
          rfl
         ·try simp only [nm, ne_eq] at h4
          refine sr rfl <| Wp rfl <| st_eql rfl rfl <| aB rfl <| en <| x_cond rfl (fun h5 => ?_) (fun h5 => ?_)
          ·try simp only [nm, ne_eq] at h5
           refine x_skip <| then_n <| x_cond rfl (fun h11 => ?_) (fun h11 => ?_)
           rotate_left
           · first | (simp only [nm, ne_eq] at h11; exact absurd (by assumption) h11) | (exfalso; simp_all)
           have hcv : 0 ≤ idx [100, 105, 117, 111, 120, 88, 99, 115, 98] (byte (rd3 s) 0) := by rw [hb0]; exact (cv_iff _).2 (by first | omega | simp_all)
           have hO : rdO s = true := by unfold rdO; rw [hF, decide_eq_true k1, decide_eq_false k3, decide_eq_true hcv]; rfl
           refine sr rfl <| mS rfl <| mI rfl <| Wp rfl <| st_sidx T.u9 rfl rfl (by omega) (by omega) <| fa T.fld68_5 rfl <| Wp rfl <| st_store (v := .int _ _) T.size5 rfl rfl rfl hb62 rfl (Nat.le_of_ble_eq_true rfl) (by simp [Value.oneCell', S]) rfl ?_
           intro w225 c226 hb227; simp only [setVs, setV] at hb227
           clear hb62
           replace HC := HC.then1 c226 ge_b4
           replace hb2 := hb2.tr1 c226 ne_b2_b4
           refine en <| sr rfl <| Wp rfl <| st_loadA (vs := [_, _, _, _, _, _]) T.agg68 rfl (hb227.cells (n := 6) (vs := [_, _, _, _, _, _]) rfl) rfl <| mI rfl <| Wp rfl <| st_addk rfl rfl (by exact wrap64_id (by omega) (by omega)) <| Wp rfl <| st_store (v := .agg ⟨[.bool _, .bool _, .int _ _, .int _ _, .bool _, .int _ _]⟩) T.size68 rfl rfl rfl hb2 rfl (Nat.le_of_ble_eq_true rfl) (by simp [Value.oneCell', S]) rfl ?_
           intro w228 c229 hb230; simp only [setVs, setV] at hb230
           clear hb2
           replace HC := HC.then1 c229 ge_b2
           replace hb227 := hb227.tr1 c229 (Ne.symm ne_b2_b4)
           refine aI rfl <| en <| x_ret <| block_r <| then_r <| ret_many (vs := [.agg ⟨[_, _, _, _, _, _]⟩, .int _ _]) rfl ⟨⟨_, _, rfl, run_loadVarA T.agg68 (hb230.cells (n := 6) rfl) rfl⟩, ⟨rfl, trivial⟩⟩ (Nat.le_of_ble_eq_true rfl) <| ⟨_, _, _, _, _, _, _, rfl, fun h => absurd h (by rw [hO]; decide), fun _ => ⟨I2, rfl, by omega, by rw [h3e, List.drop_drop], ?_⟩, HC⟩
           have e1 : cntW (rdR s) = ((cntN (rdR s) : Nat) : Int) := if_pos k1
           unfold rag rdX
           simp only [hO, hL, hZ, hP, if_true, hb0]
           rw [e1]
           rfl
          ·try simp only [nm, ne_eq] at h5
           refine sr rfl <| Wp rfl <| st_eql rfl rfl <| aB rfl <| en <| x_cond rfl (fun h6 => ?_) (fun h6 => ?_)
           ·try simp only [nm, ne_eq] at h6
            refine x_skip <| then_n <| x_cond rfl (fun h11 => ?_) (fun h11 => ?_)
            rotate_left
            · first | (simp only [nm, ne_eq] at h11; exact absurd (by assumption) h11) | (exfalso; simp_all)
            have hcv : 0 ≤ idx [100, 105, 117, 111, 120, 88, 99, 115, 98] (byte (rd3 s) 0) := by rw [hb0]; exact (cv_iff _).2 (by first | omega | simp_all)
            have hO : rdO s = true := by unfold rdO; rw [hF, decide_eq_true k1, decide_eq_false k3, decide_eq_true hcv]; rfl
            refine sr rfl <| mS rfl <| mI rfl <| Wp rfl <| st_sidx T.u9 rfl rfl (by omega) (by omega) <| fa T.fld68_5 rfl <| Wp rfl <| st_store (v := .int _ _) T.size5 rfl rfl rfl hb62 rfl (Nat.le_of_ble_eq_true rfl) (by simp [Value.oneCell', S]) rfl ?_
            intro w231 c232 hb233; simp only [setVs, setV] at hb233
            clear hb62
            replace HC := HC.then1 c232 ge_b4
            replace hb2 := hb2.tr1 c232 ne_b2_b4
            refine en <| sr rfl <| Wp rfl <| st_loadA (vs := [_, _, _, _, _, _]) T.agg68 rfl (hb233.cells (n := 6) (vs := [_, _, _, _, _, _]) rfl) rfl <| mI rfl <| Wp rfl <| st_addk rfl rfl (by exact wrap64_id (by omega) (by omega)) <| Wp rfl <| st_store (v := .agg ⟨[.bool _, .bool _, .int _ _, .int _ _, .bool _, .int _ _]⟩) T.size68 rfl rfl rfl hb2 rfl (Nat.le_of_ble_eq_true rfl) (by simp [Value.oneCell', S]) rfl ?_
            intro w234 c235 hb236; simp only [setVs, setV] at hb236
            clear hb2
            replace HC := HC.then1 c235 ge_b2
            replace hb233 := hb233.tr1 c235 (Ne.symm ne_b2_b4)
            refine aI rfl <| en <| x_ret <| block_r <| then_r <| ret_many (vs := [.agg ⟨[_, _, _, _, _, _]⟩, .int _ _]) rfl ⟨⟨_, _, rfl, run_loadVarA T.agg68 (hb236.cells (n := 6) rfl) rfl⟩, ⟨rfl, trivial⟩⟩ (Nat.le_of_ble_eq_true rfl) <| ⟨_, _, _, _, _, _, _, rfl, fun h => absurd h (by rw [hO]; decide), fun _ => ⟨I2, rfl, by omega, by rw [h3e, List.drop_drop], ?_⟩, HC⟩
            have e1 : cntW (rdR s) = ((cntN (rdR s) : Nat) : Int) := if_pos k1
            unfold rag rdX
            simp only [hO, hL, hZ, hP, if_true, hb0]
            rw [e1]
            rfl
           ·try simp only [nm, ne_eq] at h6
            refine sr rfl <| Wp rfl <| st_eql rfl rfl <| aB rfl <| en <| x_cond rfl (fun h7 => ?_) (fun h7 => ?_)
            ·try simp only [nm, ne_eq] at h7
             refine x_skip <| then_n <| x_cond rfl (fun h11 => ?_) (fun h11 => ?_)
             rotate_left
             · first | (simp only [nm, ne_eq] at h11; exact absurd (by assumption) h11) | (exfalso; simp_all)
             have hcv : 0 ≤ idx [100, 105, 117, 111, 120, 88, 99, 115, 98] (byte (rd3 s) 0) := by rw [hb0]; exact (cv_iff _).2 (by first | omega | simp_all)
             have hO : rdO s = true := by unfold rdO; rw [hF, decide_eq_true k1, decide_eq_false k3, decide_eq_true hcv]; rfl
             refine sr rfl <| mS rfl <| mI rfl <| Wp rfl <| st_sidx T.u9 rfl rfl (by omega) (by omega) <| fa T.fld68_5 rfl <| Wp rfl <| st_store (v := .int _ _) T.size5 rfl rfl rfl hb62 rfl (Nat.le_of_ble_eq_true rfl) (by simp [Value.oneCell', S]) rfl ?_
             intro w237 c238 hb239; simp only [setVs, setV] at hb239
             clear hb62
             replace HC := HC.then1 c238 ge_b4
             replace hb2 := hb2.tr1 c238 ne_b2_b4
             refine en <| sr rfl <| Wp rfl <| st_loadA (vs := [_, _, _, _, _, _]) T.agg68 rfl (hb239.cells (n := 6) (vs := [_, _, _, _, _, _]) rfl) rfl <| mI rfl <| Wp rfl <| st_addk rfl rfl (by exact wrap64_id (by omega) (by omega)) <| Wp rfl <| st_store (v := .agg ⟨[.bool _, .bool _, .int _ _, .int _ _, .bool _, .int _ _]⟩) T.size68 rfl rfl rfl hb2 rfl (Nat.le_of_ble_eq_true rfl) (by simp [Value.oneCell', S]) rfl ?_
             intro w240 c241 hb242; simp only [setVs, setV] at hb242
             clear hb2
             replace HC := HC.then1 c241 ge_b2
             replace hb239 := hb239.tr1 c241 (Ne.symm ne_b2_b4)
             refine aI rfl <| en <| x_ret <| block_r <| then_r <| ret_many (vs := [.agg ⟨[_, _, _, _, _, _]⟩, .int _ _]) rfl ⟨⟨_, _, rfl, run_loadVarA T.agg68 (hb242.cells (n := 6) rfl) rfl⟩, ⟨rfl, trivial⟩⟩ (Nat.le_of_ble_eq_true rfl) <| ⟨_, _, _, _, _, _, _, rfl, fun h => absurd h (by rw [hO]; decide), fun _ => ⟨I2, rfl, by omega, by rw [h3e, List.drop_drop], ?_⟩, HC⟩
             have e1 : cntW (rdR s) = ((cntN (rdR s) : Nat) : Int) := if_pos k1
             unfold rag rdX
             simp only [hO, hL, hZ, hP, if_true, hb0]
             rw [e1]
             rfl
            ·try simp only [nm, ne_eq] at h7
             refine sr rfl <| Wp rfl <| st_eql rfl rfl <| aB rfl <| en <| x_cond rfl (fun h8 => ?_) (fun h8 => ?_)
             ·try simp only [nm, ne_eq] at h8
              refine x_skip <| then_n <| x_cond rfl (fun h11 => ?_) (fun h11 => ?_)
              rotate_left
              · first | (simp only [nm, ne_eq] at h11; exact absurd (by assumption) h11) | (exfalso; simp_all)
              have hcv : 0 ≤ idx [100, 105, 117, 111, 120, 88, 99, 115, 98] (byte (rd3 s) 0) := by rw [hb0]; exact (cv_iff _).2 (by first | omega | simp_all)
              have hO : rdO s = true := by unfold rdO; rw [hF, decide_eq_true k1, decide_eq_false k3, decide_eq_true hcv]; rfl
              refine sr rfl <| mS rfl <| mI rfl <| Wp rfl <| st_sidx T.u9 rfl rfl (by omega) (by omega) <| fa T.fld68_5 rfl <| Wp rfl <| st_store (v := .int _ _) T.size5 rfl rfl rfl hb62 rfl (Nat.le_of_ble_eq_true rfl) (by simp [Value.oneCell', S]) rfl ?_
              intro w243 c244 hb245; simp only [setVs, setV] at hb245
              clear hb62
              replace HC := HC.then1 c244 ge_b4
              replace hb2 := hb2.tr1 c244 ne_b2_b4
              refine en <| sr rfl <| Wp rfl <| st_loadA (vs := [_, _, _, _, _, _]) T.agg68 rfl (hb245.cells (n := 6) (vs := [_, _, _, _, _, _]) rfl) rfl <| mI rfl <| Wp rfl <| st_addk rfl rfl (by exact wrap64_id (by omega) (by omega)) <| Wp rfl <| st_store (v := .agg ⟨[.bool _, .bool _, .int _ _, .int _ _, .bool _, .int _ _]⟩) T.size68 rfl rfl rfl hb2 rfl (Nat.le_of_ble_eq_true rfl) (by simp [Value.oneCell', S]) rfl ?_
              intro w246 c247 hb248; simp only [setVs, setV] at hb248
              clear hb2
              replace HC := HC.then1 c247 ge_b2
              replace hb245 := hb245.tr1 c247 (Ne.symm ne_b2_b4)
              refine aI rfl <| en <| x_ret <| block_r <| then_r <| ret_many (vs := [.agg ⟨[_, _, _, _, _, _]⟩, .int _ _]) rfl ⟨⟨_, _, rfl, run_loadVarA T.agg68 (hb248.cells (n := 6) rfl) rfl⟩, ⟨rfl, trivial⟩⟩ (Nat.le_of_ble_eq_true rfl) <| ⟨_, _, _, _, _, _, _, rfl, fun h => absurd h (by rw [hO]; decide), fun _ => ⟨I2, rfl, by omega, by rw [h3e, List.drop_drop], ?_⟩, HC⟩
              have e1 : cntW (rdR s) = ((cntN (rdR s) : Nat) : Int) := if_pos k1
              unfold rag rdX
              simp only [hO, hL, hZ, hP, if_true, hb0]
              rw [e1]
              rfl
             ·try simp only [nm, ne_eq] at h8
              refine sr rfl <| Wp rfl <| st_eql rfl rfl <| aB rfl <| en <| x_cond rfl (fun h9 => ?_) (fun h9 => ?_)
              ·try simp only [nm, ne_eq] at h9
               refine x_skip <| then_n <| x_cond rfl (fun h11 => ?_) (fun h11 => ?_)
               rotate_left
               · first | (simp only [nm, ne_eq] at h11; exact absurd (by assumption) h11) | (exfalso; simp_all)
               have hcv : 0 ≤ idx [100, 105, 117, 111, 120, 88, 99, 115, 98] (byte (rd3 s) 0) := by rw [hb0]; exact (cv_iff _).2 (by first | omega | simp_all)
               have hO : rdO s = true := by unfold rdO; rw [hF, decide_eq_true k1, decide_eq_false k3, decide_eq_true hcv]; rfl
               refine sr rfl <| mS rfl <| mI rfl <| Wp rfl <| st_sidx T.u9 rfl rfl (by omega) (by omega) <| fa T.fld68_5 rfl <| Wp rfl <| st_store (v := .int _ _) T.size5 rfl rfl rfl hb62 rfl (Nat.le_of_ble_eq_true rfl) (by simp [Value.oneCell', S]) rfl ?_
               intro w249 c250 hb251; simp only [setVs, setV] at hb251
               clear hb62
               replace HC := HC.then1 c250 ge_b4
               replace hb2 := hb2.tr1 c250 ne_b2_b4
               refine en <| sr rfl <| Wp rfl <| st_loadA (vs := [_, _, _, _, _, _]) T.agg68 rfl (hb251.cells (n := 6) (vs := [_, _, _, _, _, _]) rfl) rfl <| mI rfl <| Wp rfl <| st_addk rfl rfl (by exact wrap64_id (by omega) (by omega)) <| Wp rfl <| st_store (v := .agg ⟨[.bool _, .bool _, .int _ _, .int _ _, .bool _, .int _ _]⟩) T.size68 rfl rfl rfl hb2 rfl (Nat.le_of_ble_eq_true rfl) (by simp [Value.oneCell', S]) rfl ?_
               intro w252 c253 hb254; simp only [setVs, setV] at hb254
               clear hb2
               replace HC := HC.then1 c253 ge_b2
               replace hb251 := hb251.tr1 c253 (Ne.symm ne_b2_b4)
               refine aI rfl <| en <| x_ret <| block_r <| then_r <| ret_many (vs := [.agg ⟨[_, _, _, _, _, _]⟩, .int _ _]) rfl ⟨⟨_, _, rfl, run_loadVarA T.agg68 (hb254.cells (n := 6) rfl) rfl⟩, ⟨rfl, trivial⟩⟩ (Nat.le_of_ble_eq_true rfl) <| ⟨_, _, _, _, _, _, _, rfl, fun h => absurd h (by rw [hO]; decide), fun _ => ⟨I2, rfl, by omega, by rw [h3e, List.drop_drop], ?_⟩, HC⟩
               have e1 : cntW (rdR s) = ((cntN (rdR s) : Nat) : Int) := if_pos k1
               unfold rag rdX
               simp only [hO, hL, hZ, hP, if_true, hb0]
               rw [e1]
               rfl
              ·try simp only [nm, ne_eq] at h9
               refine sr rfl <| Wp rfl <| st_eql rfl rfl <| aB rfl <| en <| x_cond rfl (fun h10 => ?_) (fun h10 => ?_)
               ·try simp only [nm, ne_eq] at h10
                refine x_skip <| then_n <| x_cond rfl (fun h11 => ?_) (fun h11 => ?_)
                rotate_left
                · first | (simp only [nm, ne_eq] at h11; exact absurd (by assumption) h11) | (exfalso; simp_all)
                have hcv : 0 ≤ idx [100, 105, 117, 111, 120, 88, 99, 115, 98] (byte (rd3 s) 0) := by rw [hb0]; exact (cv_iff _).2 (by first | omega | simp_all)
                have hO : rdO s = true := by unfold rdO; rw [hF, decide_eq_true k1, decide_eq_false k3, decide_eq_true hcv]; rfl
                refine sr rfl <| mS rfl <| mI rfl <| Wp rfl <| st_sidx T.u9 rfl rfl (by omega) (by omega) <| fa T.fld68_5 rfl <| Wp rfl <| st_store (v := .int _ _) T.size5 rfl rfl rfl hb62 rfl (Nat.le_of_ble_eq_true rfl) (by simp [Value.oneCell', S]) rfl ?_
                intro w255 c256 hb257; simp only [setVs, setV] at hb257
                clear hb62
                replace HC := HC.then1 c256 ge_b4
                replace hb2 := hb2.tr1 c256 ne_b2_b4
                refine en <| sr rfl <| Wp rfl <| st_loadA (vs := [_, _, _, _, _, _]) T.agg68 rfl (hb257.cells (n := 6) (vs := [_, _, _, _, _, _]) rfl) rfl <| mI rfl <| Wp rfl <| st_addk rfl rfl (by exact wrap64_id (by omega) (by omega)) <| Wp rfl <| st_store (v := .agg ⟨[.bool _, .bool _, .int _ _, .int _ _, .bool _, .int _ _]⟩) T.size68 rfl rfl rfl hb2 rfl (Nat.le_of_ble_eq_true rfl) (by simp [Value.oneCell', S]) rfl ?_
                intro w258 c259 hb260; simp only [setVs, setV] at hb260
                clear hb2
                replace HC := HC.then1 c259 ge_b2
                replace hb257 := hb257.tr1 c259 (Ne.symm ne_b2_b4)
                refine aI rfl <| en <| x_ret <| block_r <| then_r <| ret_many (vs := [.agg ⟨[_, _, _, _, _, _]⟩, .int _ _]) rfl ⟨⟨_, _, rfl, run_loadVarA T.agg68 (hb260.cells (n := 6) rfl) rfl⟩, ⟨rfl, trivial⟩⟩ (Nat.le_of_ble_eq_true rfl) <| ⟨_, _, _, _, _, _, _, rfl, fun h => absurd h (by rw [hO]; decide), fun _ => ⟨I2, rfl, by omega, by rw [h3e, List.drop_drop], ?_⟩, HC⟩
                have e1 : cntW (rdR s) = ((cntN (rdR s) : Nat) : Int) := if_pos k1
                unfold rag rdX
                simp only [hO, hL, hZ, hP, if_true, hb0]
                rw [e1]
                rfl
               ·try simp only [nm, ne_eq] at h10
                refine x_region rfl <| Wp rfl <| st_eql rfl rfl <| aB rfl <| en <| x_cond rfl (fun h11 => ?_) (fun h11 => ?_)
                ·try simp only [nm, ne_eq] at h11
                 have hcv : 0 ≤ idx [100, 105, 117, 111, 120, 88, 99, 115, 98] (byte (rd3 s) 0) := by rw [hb0]; exact (cv_iff _).2 (by first | omega | simp_all)
                 have hO : rdO s = true := by unfold rdO; rw [hF, decide_eq_true k1, decide_eq_false k3, decide_eq_true hcv]; rfl
                 refine sr rfl <| mS rfl <| mI rfl <| Wp rfl <| st_sidx T.u9 rfl rfl (by omega) (by omega) <| fa T.fld68_5 rfl <| Wp rfl <| st_store (v := .int _ _) T.size5 rfl rfl rfl hb62 rfl (Nat.le_of_ble_eq_true rfl) (by simp [Value.oneCell', S]) rfl ?_
                 intro w261 c262 hb263; simp only [setVs, setV] at hb263
                 clear hb62
                 replace HC := HC.then1 c262 ge_b4
                 replace hb2 := hb2.tr1 c262 ne_b2_b4
                 refine en <| sr rfl <| Wp rfl <| st_loadA (vs := [_, _, _, _, _, _]) T.agg68 rfl (hb263.cells (n := 6) (vs := [_, _, _, _, _, _]) rfl) rfl <| mI rfl <| Wp rfl <| st_addk rfl rfl (by exact wrap64_id (by omega) (by omega)) <| Wp rfl <| st_store (v := .agg ⟨[.bool _, .bool _, .int _ _, .int _ _, .bool _, .int _ _]⟩) T.size68 rfl rfl rfl hb2 rfl (Nat.le_of_ble_eq_true rfl) (by simp [Value.oneCell', S]) rfl ?_
                 intro w264 c265 hb266; simp only [setVs, setV] at hb266
                 clear hb2
                 replace HC := HC.then1 c265 ge_b2
                 replace hb263 := hb263.tr1 c265 (Ne.symm ne_b2_b4)
                 refine aI rfl <| en <| x_ret <| block_r <| then_r <| ret_many (vs := [.agg ⟨[_, _, _, _, _, _]⟩, .int _ _]) rfl ⟨⟨_, _, rfl, run_loadVarA T.agg68 (hb266.cells (n := 6) rfl) rfl⟩, ⟨rfl, trivial⟩⟩ (Nat.le_of_ble_eq_true rfl) <| ⟨_, _, _, _, _, _, _, rfl, fun h => absurd h (by rw [hO]; decide), fun _ => ⟨I2, rfl, by omega, by rw [h3e, List.drop_drop], ?_⟩, HC⟩
                 have e1 : cntW (rdR s) = ((cntN (rdR s) : Nat) : Int) := if_pos k1
                 unfold rag rdX
                 simp only [hO, hL, hZ, hP, if_true, hb0]
                 rw [e1]
                 rfl
                ·try simp only [nm, ne_eq] at h11
                 have hcv : ¬ 0 ≤ idx [100, 105, 117, 111, 120, 88, 99, 115, 98] (byte (rd3 s) 0) := by rw [hb0]; exact fun h9 => absurd ((cv_iff _).1 h9) (by omega)
                 have hO : rdO s = false := by unfold rdO; rw [decide_eq_false hcv]; simp only [Bool.and_false]
                 refine x_skip <| block_n <| then_n <| sr rfl <| Wp rfl <| st_loadA (vs := [_, _, _, _, _, _]) T.agg68 rfl (hb62.cells (n := 6) (vs := [_, _, _, _, _, _]) rfl) rfl <| Wp rfl <| st_store (v := .agg ⟨[.bool _, .bool _, .int _ _, .int _ _, .bool _, .int _ _]⟩) T.size68 rfl rfl rfl hb2 rfl (Nat.le_of_ble_eq_true rfl) (by simp [Value.oneCell', S]) rfl ?_
                 intro w267 c268 hb269; simp only [setVs, setV] at hb269
                 clear hb2
                 replace HC := HC.then1 c268 ge_b2
                 replace hb62 := hb62.tr1 c268 (Ne.symm ne_b2_b4)
                 refine aI rfl <| en <| x_ret <| ret_many (vs := [.agg ⟨[_, _, _, _, _, _]⟩, .int _ _]) rfl ⟨⟨_, _, rfl, run_loadVarA T.agg68 (hb269.cells (n := 6) rfl) rfl⟩, ⟨rfl, trivial⟩⟩ (Nat.le_of_ble_eq_true rfl) <| ⟨_, _, _, _, _, _, _, rfl, fun _ => rfl, fun h => absurd h (by rw [hO]; decide), HC⟩
 ·try simp only [nm, ne_eq] at g14
  iterate 5 refine w_no 4 13 true ?_
  iterate 4 refine w_no 9 18 false ?_
  refine w_no 4 13 true <| pF rfl rfl <| en <| x_cond (t := false) rfl (fun h0 => ?_) (fun h0 => ?_)
  · exact absurd h0 (by decide)
  have hfr : flgV s false false = (s.drop i, l, z) := by rw [hfl]; rw [List.drop_of_length_le (by omega)]; exact flg_nil
  have hR : rdR s = s.drop i := by unfold rdR; rw [hfr]
  have hL : (flgV s false false).2.1 = l := by rw [hfr]
  have hZ : (flgV s false false).2.2 = z := by rw [hfr]
  have hcl := cnt_le (rdR s)
  have hRl : (rdR s).length = s.length - i := by rw [hR, List.length_drop]
  obtain ⟨I1, hI1⟩ : ∃ I1, I1 = i + cntK (rdR s) := ⟨_, rfl⟩
  have h2e : rd2 s = s.drop I1 := by unfold rd2; rw [hR, List.drop_drop, hI1, hR]
  refine x_exit <| then_x <| then_x <| block_x <| then_n <| sr rfl <| mS rfl <| mI rfl <| Wp rfl <| st_sslo (i := i) T.u9 rfl ⟨_, rfl⟩ (by omega) <| Wp rfl <| st_call (ags := [_]) rfl rfl T.ent45 rfl (rcountW_spec (s.drop i) _ (by rw [List.length_drop]; omega)) ?_
  rintro _ w270 ⟨rfl, c271⟩
  replace HC := HC.then c271
  replace hb4 := hb4.tr0 c271
  replace hb2 := hb2.tr0 c271
  refine mv (v := .tuple ⟨[_, _]⟩) rfl <| Wp rfl <| st_extract (vs := [_, _]) (v := .int _ _) rfl rfl <| Wp rfl <| st_extract (vs := [_, _]) (v := .int _ _) rfl rfl <| aI rfl <| aI rfl <| en <| x_seq ?_
  rw [← hR]
  refine x_region rfl <| mI rfl <| fa T.fld68_2 rfl <| Wp rfl <| st_store (v := .int _ _) T.size3 rfl rfl rfl hb4 rfl (Nat.le_of_ble_eq_true rfl) (by simp [Value.oneCell', S]) rfl ?_
  intro w272 c273 hb274; simp only [setVs, setV] at hb274
  clear hb4
  replace HC := HC.then1 c273 ge_b4
  replace hb2 := hb2.tr1 c273 ne_b2_b4
  refine en <| sr rfl <| mI rfl <| mI rfl <| Wp rfl <| st_addk rfl rfl (by exact (show _ = ((I1 : Nat) : Int) by rw [wrap64_id (by omega) (by omega)]; omega)) <| aI rfl <| en <| x_seq <| sr rfl <| mI rfl <| mS rfl <| Wp rfl <| st_slen (ct := #[9]) T.u9 rfl <| Wp rfl <| st_lss rfl rfl <| mB rfl <| w_split (d := 61) rfl (fun g275 => ?_) (fun g275 => ?_)
  ·try simp only [nm, ne_eq] at g275
   refine w_yes 4 61 true <| st_move (v := S _) rfl <| w_yes 4 61 true <| st_move (v := .int _ _) rfl <| w_yes 4 61 true <| st_sidx T.u9 rfl rfl (by omega) (by omega) <| w_yes 4 61 true <| st_eql rfl rfl <| pT rfl rfl <| en <| x_cond rfl (fun h1 => ?_) (fun h1 => ?_)
   ·try simp only [nm, ne_eq] at h1
    have hD : rdD s = true := by unfold rdD; rw [h2e, hp_46 (by omega)]; exact decide_eq_true (by assumption)
    have hE : (rd2 s).drop 1 = s.drop (I1 + 1) := by rw [h2e, List.drop_drop]
    refine sr rfl <| fa T.fld68_4 rfl <| Wp rfl <| st_store (v := .bool _) T.size4 rfl rfl rfl hb274 rfl (Nat.le_of_ble_eq_true rfl) (by simp [Value.oneCell', S]) rfl ?_
    intro w276 c277 hb278; simp only [setVs, setV] at hb278
    clear hb274
    replace HC := HC.then1 c277 ge_b4
    replace hb2 := hb2.tr1 c277 ne_b2_b4
    refine en <| sr rfl <| mS rfl <| mI rfl <| Wp rfl <| st_addk rfl rfl (by exact (show _ = ((I1 + 1 : Nat) : Int) by rw [wrap64_id (by omega) (by omega)]; omega)) <| Wp rfl <| st_sslo (i := (I1 + 1)) T.u9 rfl ⟨_, rfl⟩ (by omega) <| Wp rfl <| st_call (ags := [_]) rfl rfl T.ent45 rfl (rcountW_spec (s.drop (I1 + 1)) _ (by rw [List.length_drop]; omega)) ?_
    rintro _ w279 ⟨rfl, c280⟩
    replace HC := HC.then c280
    replace hb2 := hb2.tr0 c280
    replace hb278 := hb278.tr0 c280
    refine mv (v := .tuple ⟨[_, _]⟩) rfl <| Wp rfl <| st_extract (vs := [_, _]) (v := .int _ _) rfl rfl <| Wp rfl <| st_extract (vs := [_, _]) (v := .int _ _) rfl rfl <| aI rfl <| aI rfl <| en <| x_seq ?_
    rw [← hE]
    have hcl2 := cnt_le ((rd2 s).drop 1)
    have hEl : ((rd2 s).drop 1).length = s.length - (I1 + 1) := by rw [hE, List.length_drop]
    obtain ⟨I2, hI2⟩ : ∃ I2, I2 = I1 + 1 + cntK ((rd2 s).drop 1) := ⟨_, rfl⟩
    have h3e : rd3 s = s.drop I2 := by unfold rd3; rw [if_pos hD, hE, List.drop_drop, hI2, hE]
    have hF : rdF s = decide (cntN ((rd2 s).drop 1) ≤ 1000) := by unfold rdF; rw [if_pos hD]
    have hP : rdP s = ((cntN ((rd2 s).drop 1) : Nat) : Int) := by unfold rdP; rw [if_pos hD]
    refine x_region rfl <| mI rfl <| fa T.fld68_3 rfl <| Wp rfl <| st_store (v := .int _ _) T.size3 rfl rfl rfl hb278 rfl (Nat.le_of_ble_eq_true rfl) (by simp [Value.oneCell', S]) rfl ?_
    intro w281 c282 hb283; simp only [setVs, setV] at hb283
    clear hb278
    replace HC := HC.then1 c282 ge_b4
    replace hb2 := hb2.tr1 c282 ne_b2_b4
    refine en <| x_region rfl <| mI rfl <| Wp rfl <| st_addk rfl rfl (by exact (show _ = ((I1 + 1 : Nat) : Int) by rw [wrap64_id (by omega) (by omega)]; omega)) <| mI rfl <| Wp rfl <| st_addk rfl rfl (by exact (show _ = ((I2 : Nat) : Int) by rw [wrap64_id (by omega) (by omega)]; omega)) <| aI rfl <| en <| x_seq <| sr rfl <| mI rfl <| mS rfl <| Wp rfl <| st_slen (ct := #[9]) T.u9 rfl <| Wp rfl <| st_geq rfl rfl <| mB rfl <| w_split (d := 86) rfl (fun g284 => ?_) (fun g284 => ?_)
    ·try simp only [nm, ne_eq] at g284
     iterate 3 refine w_no 4 86 false ?_
     refine pT rfl rfl <| mB rfl ?_
     iterate 3 refine w_no 9 91 false ?_
     refine pT rfl rfl <| en <| x_cond (t := true) rfl (fun h2 => ?_) (fun h2 => ?_)
     rotate_left
     · exact absurd h2 (by decide)
     have hO : rdO s = false := by unfold rdO; rw [decide_eq_true (show rd3 s = [] by rw [h3e]; exact List.drop_of_length_le (by omega))]; simp only [Bool.not_true, Bool.and_false, Bool.false_and]
     refine sr rfl <| Wp rfl <| st_loadA (vs := [_, _, _, _, _, _]) T.agg68 rfl (hb283.cells (n := 6) (vs := [_, _, _, _, _, _]) rfl) rfl <| Wp rfl <| st_store (v := .agg ⟨[.bool _, .bool _, .int _ _, .int _ _, .bool _, .int _ _]⟩) T.size68 rfl rfl rfl hb2 rfl (Nat.le_of_ble_eq_true rfl) (by simp [Value.oneCell', S]) rfl ?_
     intro w285 c286 hb287; simp only [setVs, setV] at hb287
     clear hb2
     replace HC := HC.then1 c286 ge_b2
     replace hb283 := hb283.tr1 c286 (Ne.symm ne_b2_b4)
     refine aI rfl <| en <| x_ret <| then_r <| ret_many (vs := [.agg ⟨[_, _, _, _, _, _]⟩, .int _ _]) rfl ⟨⟨_, _, rfl, run_loadVarA T.agg68 (hb287.cells (n := 6) rfl) rfl⟩, ⟨rfl, trivial⟩⟩ (Nat.le_of_ble_eq_true rfl) <| ⟨_, _, _, _, _, _, _, rfl, fun _ => rfl, fun h => absurd h (by rw [hO]; decide), HC⟩
    ·try simp only [nm, ne_eq] at g284
     refine w_yes 4 86 false <| st_fieldAddr T.fld68_2 rfl <| w_yes 4 86 false <| st_load1 (v := .int _ _) T.one3 rfl (hb283.cell rfl) <| w_yes 4 86 false <| st_lss rfl rfl <| pF rfl rfl <| mB rfl <| w_split (d := 91) rfl (fun g288 => ?_) (fun g288 => ?_)
     ·try simp only [nm, ne_eq] at g288
      iterate 3 refine w_no 9 91 false ?_
      refine pT rfl rfl <| en <| x_cond (t := true) rfl (fun h2 => ?_) (fun h2 => ?_)
      rotate_left
      · exact absurd h2 (by decide)
      have k1 := (cntW_neg (rdR s)).1 (by assumption)
      have hO : rdO s = false := by unfold rdO; rw [decide_eq_false k1]; simp only [Bool.false_and]
      refine sr rfl <| Wp rfl <| st_loadA (vs := [_, _, _, _, _, _]) T.agg68 rfl (hb283.cells (n := 6) (vs := [_, _, _, _, _, _]) rfl) rfl <| Wp rfl <| st_store (v := .agg ⟨[.bool _, .bool _, .int _ _, .int _ _, .bool _, .int _ _]⟩) T.size68 rfl rfl rfl hb2 rfl (Nat.le_of_ble_eq_true rfl) (by simp [Value.oneCell', S]) rfl ?_
      intro w289 c290 hb291; simp only [setVs, setV] at hb291
      clear hb2
      replace HC := HC.then1 c290 ge_b2
      replace hb283 := hb283.tr1 c290 (Ne.symm ne_b2_b4)
      refine aI rfl <| en <| x_ret <| then_r <| ret_many (vs := [.agg ⟨[_, _, _, _, _, _]⟩, .int _ _]) rfl ⟨⟨_, _, rfl, run_loadVarA T.agg68 (hb291.cells (n := 6) rfl) rfl⟩, ⟨rfl, trivial⟩⟩ (Nat.le_of_ble_eq_true rfl) <| ⟨_, _, _, _, _, _, _, rfl, fun _ => rfl, fun h => absurd h (by rw [hO]; decide), HC⟩
     ·try simp only [nm, ne_eq] at g288
      refine w_yes 9 91 false <| st_fieldAddr T.fld68_3 rfl <| w_yes 9 91 false <| st_load1 (v := .int _ _) T.one3 rfl (hb283.cell rfl) <| w_yes 9 91 false <| st_lss rfl rfl <| pF rfl rfl <| en <| x_cond rfl (fun h2 => ?_) (fun h2 => ?_)
      ·try simp only [nm, ne_eq] at h2
       have k2 := (cntW_neg ((rd2 s).drop 1)).1 (by first | assumption | omega)
       have hO : rdO s = false := by unfold rdO; rw [hF, decide_eq_false k2]; simp only [Bool.and_false, Bool.false_and]
       refine sr rfl <| Wp rfl <| st_loadA (vs := [_, _, _, _, _, _]) T.agg68 rfl (hb283.cells (n := 6) (vs := [_, _, _, _, _, _]) rfl) rfl <| Wp rfl <| st_store (v := .agg ⟨[.bool _, .bool _, .int _ _, .int _ _, .bool _, .int _ _]⟩) T.size68 rfl rfl rfl hb2 rfl (Nat.le_of_ble_eq_true rfl) (by simp [Value.oneCell', S]) rfl ?_
       intro w292 c293 hb294; simp only [setVs, setV] at hb294
       clear hb2
       replace HC := HC.then1 c293 ge_b2
       replace hb283 := hb283.tr1 c293 (Ne.symm ne_b2_b4)
       refine aI rfl <| en <| x_ret <| then_r <| ret_many (vs := [.agg ⟨[_, _, _, _, _, _]⟩, .int _ _]) rfl ⟨⟨_, _, rfl, run_loadVarA T.agg68 (hb294.cells (n := 6) rfl) rfl⟩, ⟨rfl, trivial⟩⟩ (Nat.le_of_ble_eq_true rfl) <| ⟨_, _, _, _, _, _, _, rfl, fun _ => rfl, fun h => absurd h (by rw [hO]; decide), HC⟩
      ·try simp only [nm, ne_eq] at h2
       have k1 : cntN (rdR s) ≤ 1000 := by have := cntW_neg (rdR s); first | omega | (refine Classical.byContradiction fun h9 => ?_; exact absurd (this.2 h9) (by first | assumption | omega))
       have k2 : cntN ((rd2 s).drop 1) ≤ 1000 := by have := cntW_neg ((rd2 s).drop 1); refine Classical.byContradiction fun h9 => ?_; exact absurd (this.2 h9) (by first | assumption | omega)
       have k3 : ¬ rd3 s = [] := by rw [h3e]; intro h9; have := congrArg List.length h9; rw [List.length_drop, List.length_nil] at this; omega
       have hb0 : byte (rd3 s) 0 = byte s I2 := by rw [h3e, byte_drop]
       refine x_skip <| then_n <| x_seq <| sr rfl <| mS rfl <| mI rfl <| Wp rfl <| st_sidx T.u9 rfl rfl (by omega) (by omega) <| en <| x_block <| x_seq <| sr rfl <| Wp rfl <| st_eql rfl rfl <| aB rfl <| en <| x_cond rfl (fun h3 => ?_) (fun h3 => ?_)
       ·try simp only [nm, ne_eq] at h3
        refine x_skip <| then_n <| x_cond rfl (fun h11 => ?_) (fun h11 => ?_)
        rotate_left
        · first | (simp only [nm, ne_eq] at h11; exact absurd (by assumption) h11) | (exfalso; simp_all)
        have hcv : 0 ≤ idx [100, 105, 117, 111, 120, 88, 99, 115, 98] (byte (rd3 s) 0) := by rw [hb0]; exact (cv_iff _).2 (by first | omega | simp_all)
        have hO : rdO s = true := by unfold rdO; rw [hF, decide_eq_true k1, decide_eq_true k2, decide_eq_false k3, decide_eq_true hcv]; rfl
        refine sr rfl <| mS rfl <| mI rfl <| Wp rfl <| st_sidx T.u9 rfl rfl (by omega) (by omega) <| fa T.fld68_5 rfl <| Wp rfl <| st_store (v := .int _ _) T.size5 rfl rfl rfl hb283 rfl (Nat.le_of_ble_eq_true rfl) (by simp [Value.oneCell', S]) rfl ?_
        intro w295 c296 hb297; simp only [setVs, setV] at hb297
        clear hb283
        replace HC := HC.then1 c296 ge_b4
        replace hb2 := hb2.tr1 c296 ne_b2_b4
        refine en <| sr rfl <| Wp rfl <| st_loadA (vs := [_, _, _, _, _, _]) T.agg68 rfl (hb297.cells (n := 6) (vs := [_, _, _, _, _, _]) rfl) rfl <| mI rfl <| Wp rfl <| st_addk rfl rfl (by exact wrap64_id (by omega) (by omega)) <| Wp rfl <| st_store (v := .agg ⟨[.bool _, .bool _, .int _ _, .int _ _, .bool _, .int _ _]⟩) T.size68 rfl rfl rfl hb2 rfl (Nat.le_of_ble_eq_true rfl) (by simp [Value.oneCell', S]) rfl ?_
        intro w298 c299 hb300; simp only [setVs, setV] at hb300
        clear hb2
        replace HC := HC.then1 c299 ge_b2
        replace hb297 := hb297.tr1 c299 (Ne.symm ne_b2_b4)
        refine aI rfl <| en <| x_ret <| block_r <| then_r <| ret_many (vs := [.agg ⟨[_, _, _, _, _, _]⟩, .int _ _]) rfl ⟨⟨_, _, rfl, run_loadVarA T.agg68 (hb300.cells (n := 6) rfl) rfl⟩, ⟨rfl, trivial⟩⟩ (Nat.le_of_ble_eq_true rfl) <| ⟨_, _, _, _, _, _, _, rfl, fun h => absurd h (by rw [hO]; decide), fun _ => ⟨I2, rfl, by omega, by rw [h3e, List.drop_drop], ?_⟩, HC⟩
        have e1 : cntW (rdR s) = ((cntN (rdR s) : Nat) : Int) := if_pos k1
        have e2 : cntW ((rd2 s).drop 1) = ((cntN ((rd2 s).drop 1) : Nat) : Int) := if_pos k2
        unfold rag rdX
        simp only [hO, hL, hZ, hP, if_true, hb0]
        rw [e1]
        rw [e2, decide_eq_true (by omega)]; rfl
       ·try simp only [nm, ne_eq] at h3
        refine sr rfl <| Wp rfl <| st_eql rfl rfl <| aB rfl <| en <| x_cond rfl (fun h4 => ?_) (fun h4 => ?_)
        ·try simp only [nm, ne_eq] at h4
         refine x_skip <| then_n <| x_cond rfl (fun h11 => ?_) (fun h11 => ?_)
         rotate_left
         · first | (simp only [nm, ne_eq] at h11; exact absurd (by assumption) h11) | (exfalso; simp_all)
         have hcv : 0 ≤ idx [100, 105, 117, 111, 120, 88, 99, 115, 98] (byte (rd3 s) 0) := by rw [hb0]; exact (cv_iff _).2 (by first | omega | simp_all)
         have hO : rdO s = true := by unfold rdO; rw [hF, decide_eq_true k1, decide_eq_true k2, decide_eq_false k3, decide_eq_true hcv]; rfl
         refine sr rfl <| mS rfl <| mI rfl <| Wp rfl <| st_sidx T.u9 rfl rfl (by omega) (by omega) <| fa T.fld68_5 rfl <| Wp rfl <| st_store (v := .int _ _) T.size5 rfl rfl rfl hb283 rfl (Nat.le_of_ble_eq_true rfl) (by simp [Value.oneCell', S]) rfl ?_
         intro w301 c302 hb303; simp only [setVs, setV] at hb303
         clear hb283
         replace HC := HC.then1 c302 ge_b4
         replace hb2 := hb2.tr1 c302 ne_b2_b4
         refine en <| sr rfl <| Wp rfl <| st_loadA (vs := [_, _, _, _, _, _]) T.agg68 rfl (hb303.cells (n := 6) (vs := [_, _, _, _, _, _]) rfl) rfl <| mI rfl <| Wp rfl <| st_addk rfl rfl (by exact wrap64_id (by omega) (by omega)) <| Wp rfl <| st_store (v := .agg ⟨[.bool _, .bool _, .int _ _, .int _ _, .bool _, .int _ _]⟩) T.size68 rfl rfl rfl hb2 rfl (Nat.le_of_ble_eq_true rfl) (by simp [Value.oneCell', S]) rfl ?_
         intro w304 c305 hb306; simp only [setVs, setV] at hb306
         clear hb2
         replace HC := HC.then1 c305 ge_b2
         replace hb303 := hb303.tr1 c305 (Ne.symm ne_b2_b4)
         refine aI rfl <| en <| x_ret <| block_r <| then_r <| ret_many (vs := [.agg ⟨[_, _, _, _, _, _]⟩, .int _ _]) rfl ⟨⟨_, _, rfl, run_loadVarA T.agg68 (hb306.cells (n := 6) rfl) rfl⟩, ⟨rfl, trivial⟩⟩ (Nat.le_of_ble_eq_true rfl) <| ⟨_, _, _, _, _, _, _, rfl, fun h => absurd h (by rw [hO]; decide), fun _ => ⟨I2, rfl, by omega, by rw [h3e, List.drop_drop], ?_⟩, HC⟩
         have e1 : cntW (rdR s) = ((cntN (rdR s) : Nat) : Int) := if_pos k1
         have e2 : cntW ((rd2 s).drop 1) = ((cntN ((rd2 s).drop 1) : Nat) : Int) := if_pos k2
         unfold rag rdX
         simp only [hO, hL, hZ, hP, if_true, hb0]
         rw [e1]
         rw [e2, decide_eq_true (by omega)]; rfl
        ·try simp only [nm, ne_eq] at h4
         refine sr rfl <| Wp rfl <| st_eql rfl rfl <| aB rfl <| en <| x_cond rfl (fun h5 => ?_) (fun h5 => ?_)
         ·try simp only [nm, ne_eq] at h5
          refine x_skip <| then_n <| x_cond rfl (fun h11 => ?_) (fun h11 => ?_)
          rotate_left
          · first | (simp only [nm, ne_eq] at h11; exact absurd (by assumption) h11) | (exfalso; simp_all)
          have hcv : 0 ≤ idx [100, 105, 117, 111, 120, 88, 99, 115, 98] (byte (rd3 s) 0) := by rw [hb0]; exact (cv_iff _).2 (by first | omega | simp_all)
          have hO : rdO s = true := by unfold rdO; rw [hF, decide_eq_true k1, decide_eq_true k2, decide_eq_false k3, decide_eq_true hcv]; rfl
          refine sr rfl <| mS rfl <| mI rfl <| Wp rfl <| st_sidx T.u9 rfl rfl (by omega) (by omega) <| fa T.fld68_5 rfl <| Wp rfl <| st_store (v := .int _ _) T.size5 rfl rfl rfl hb283 rfl (Nat.le_of_ble_eq_true rfl) (by simp [Value.oneCell', S]) rfl ?_
          intro w307 c308 hb309; simp only [setVs, setV] at hb309
          clear hb283
          replace HC := HC.then1 c308 ge_b4
          replace hb2 := hb2.tr1 c308 ne_b2_b4
          refine en <| sr rfl <| Wp rfl <| st_loadA (vs := [_, _, _, _, _, _]) T.agg68 rfl (hb309.cells (n := 6) (vs := [_, _, _, _, _, _]) rfl) rfl <| mI rfl <| Wp rfl <| st_addk rfl rfl (by exact wrap64_id (by omega) (by omega)) <| Wp rfl <| st_store (v := .agg ⟨[.bool _, .bool _, .int _ _, .int _ _, .bool _, .int _ _]⟩) T.size68 rfl rfl rfl hb2 rfl (Nat.le_of_ble_eq_true rfl) (by simp [Value.oneCell', S]) rfl ?_
          intro w310 c311 hb312; simp only [setVs, setV] at hb312
          clear hb2
          replace HC := HC.then1 c311 ge_b2
          replace hb309 := hb309.tr1 c311 (Ne.symm ne_b2_b4)
          refine aI rfl <| en <| x_ret <| block_r <| then_r <| ret_many (vs := [.agg ⟨[_, _, _, _, _, _]⟩, .int _ _]) rfl ⟨⟨_, _, rfl, run_loadVarA T.agg68 (hb312.cells (n := 6) rfl) rfl⟩, ⟨rfl, trivial⟩⟩ (Nat.le_of_ble_eq_true rfl) <| ⟨_, _, _, _, _, _, _, rfl, fun h => absurd h (by rw [hO]; decide), fun _ => ⟨I2, rfl, by omega, by rw [h3e, List.drop_drop], ?_⟩, HC⟩
          have e1 : cntW (rdR s) = ((cntN (rdR s) : Nat) : Int) := if_pos k1
          have e2 : cntW ((rd2 s).drop 1) = ((cntN ((rd2 s).drop 1) : Nat) : Int) := if_pos k2
          unfold rag rdX
          simp only [hO, hL, hZ, hP, if_true, hb0]
          rw [e1]
          rw [e2, decide_eq_true (by omega)]; rfl
         ·try simp only [nm, ne_eq] at h5
          refine sr rfl <| Wp rfl <| st_eql rfl rfl <| aB rfl <| en <| x_cond rfl (fun h6 => ?_) (fun h6 => ?_)
          ·try simp only [nm, ne_eq] at h6
           refine x_skip <| then_n <| x_cond rfl (fun h11 => ?_) (fun h11 => ?_)
           rotate_left
           · first | (simp only [nm, ne_eq] at h11; exact absurd (by assumption) h11) | (exfalso; simp_all)
           have hcv : 0 ≤ idx [100, 105, 117, 111, 120, 88, 99, 115, 98] (byte (rd3 s) 0) := by rw [hb0]; exact (cv_iff _).2 (by first | omega | simp_all)
           have hO : rdO s = true := by unfold rdO; rw [hF, decide_eq_true k1, decide_eq_true k2, decide_eq_false k3, decide_eq_true hcv]; rfl
           refine sr rfl <| mS rfl <| mI rfl <| Wp rfl <| st_sidx T.u9 rfl rfl (by omega) (by omega) <| fa T.fld68_5 rfl <| Wp rfl <| st_store (v := .int _ _) T.size5 rfl rfl rfl hb283 rfl (Nat.le_of_ble_eq_true rfl) (by simp [Value.oneCell', S]) rfl ?_
           intro w313 c314 hb315; simp only [setVs, setV] at hb315
           clear hb283
           replace HC := HC.then1 c314 ge_b4
           replace hb2 := hb2.tr1 c314 ne_b2_b4
           refine en <| sr rfl <| Wp rfl <| st_loadA (vs := [_, _, _, _, _, _]) T.agg68 rfl (hb315.cells (n := 6) (vs := [_, _, _, _, _, _]) rfl) rfl <| mI rfl <| Wp rfl <| st_addk rfl rfl (by exact wrap64_id (by omega) (by omega)) <| Wp rfl <| st_store (v := .agg ⟨[.bool _, .bool _, .int _ _, .int _ _, .bool _, .int _ _]⟩) T.size68 rfl rfl rfl hb2 rfl (Nat.le_of_ble_eq_true rfl) (by simp [Value.oneCell', S]) rfl ?_
           intro w316 c317 hb318; simp only [setVs, setV] at hb318
           clear hb2
           replace HC := HC.then1 c317 ge_b2
           replace hb315 := hb315.tr1 c317 (Ne.symm ne_b2_b4)
           refine aI rfl <| en <| x_ret <| block_r <| then_r <| ret_many (vs := [.agg ⟨[_, _, _, _, _, _]⟩, .int _ _]) rfl ⟨⟨_, _, rfl, run_loadVarA T.agg68 (hb318.cells (n := 6) rfl) rfl⟩, ⟨rfl, trivial⟩⟩ (Nat.le_of_ble_eq_true rfl) <| ⟨_, _, _, _, _, _, _, rfl, fun h => absurd h (by rw [hO]; decide), fun _ => ⟨I2, rfl, by omega, by rw [h3e, List.drop_drop], ?_⟩, HC⟩
           have e1 : cntW (rdR s) = ((cntN (rdR s) : Nat) : Int) := if_pos k1
           have e2 : cntW ((rd2 s).drop 1) = ((cntN ((rd2 s).drop 1) : Nat) : Int) := if_pos k2
           unfold rag rdX
           simp only [hO, hL, hZ, hP, if_true, hb0]
           rw [e1]
           rw [e2, decide_eq_true (by omega)]; rfl
          ·try simp only [nm, ne_eq] at h6
           refine sr rfl <| Wp rfl <| st_eql rfl rfl <| aB rfl <| en <| x_cond rfl (fun h7 => ?_) (fun h7 => ?_)
           ·try simp only [nm, ne_eq] at h7
            refine x_skip <| then_n <| x_cond rfl (fun h11 => ?_) (fun h11 => ?_)
            rotate_left
            · first | (simp only [nm, ne_eq] at h11; exact absurd (by assumption) h11) | (exfalso; simp_all)
            have hcv : 0 ≤ idx [100, 105, 117, 111, 120, 88, 99, 115, 98] (byte (rd3 s) 0) := by rw [hb0]; exact (cv_iff _).2 (by first | omega | simp_all)
            have hO : rdO s = true := by unfold rdO; rw [hF, decide_eq_true k1, decide_eq_true k2, decide_eq_false k3, decide_eq_true hcv]; rfl
            refine sr rfl <| mS rfl <| mI rfl <| Wp rfl <| st_sidx T.u9 rfl rfl (by omega) (by omega) <| fa T.fld68_5 rfl <| Wp rfl <| st_store (v := .int _ _) T.size5 rfl rfl rfl hb283 rfl (Nat.le_of_ble_eq_true rfl) (by simp [Value.oneCell', S]) rfl ?_
            intro w319 c320 hb321; simp only [setVs, setV] at hb321
            clear hb283
            replace HC := HC.then1 c320 ge_b4
            replace hb2 := hb2.tr1 c320 ne_b2_b4
            refine en <| sr rfl <| Wp rfl <| st_loadA (vs := [_, _, _, _, _, _]) T.agg68 rfl (hb321.cells (n := 6) (vs := [_, _, _, _, _, _]) rfl) rfl <| mI rfl <| Wp rfl <| st_addk rfl rfl (by exact wrap64_id (by omega) (by omega)) <| Wp rfl <| st_store (v := .agg ⟨[.bool _, .bool _, .int _ _, .int _ _, .bool _, .int _ _]⟩) T.size68 rfl rfl rfl hb2 rfl (Nat.le_of_ble_eq_true rfl) (by simp [Value.oneCell', S]) rfl ?_
            intro w322 c323 hb324; simp only [setVs, setV] at hb324
            clear hb2
            replace HC := HC.then1 c323 ge_b2
            replace hb321 := hb321.tr1 c323 (Ne.symm ne_b2_b4)
            refine aI rfl <| en <| x_ret <| block_r <| then_r <| ret_many (vs := [.agg ⟨[_, _, _, _, _, _]⟩, .int _ _]) rfl ⟨⟨_, _, rfl, run_loadVarA T.agg68 (hb324.cells (n := 6) rfl) rfl⟩, ⟨rfl, trivial⟩⟩ (Nat.le_of_ble_eq_true rfl) <| ⟨_, _, _, _, _, _, _, rfl, fun h => absurd h (by rw [hO]; decide), fun _ => ⟨I2, rfl, by omega, by rw [h3e, List.drop_drop], ?_⟩, HC⟩
            have e1 : cntW (rdR s) = ((cntN (rdR s) : Nat) : Int) := if_pos k1
            have e2 : cntW ((rd2 s).drop 1) = ((cntN ((rd2 s).drop 1) : Nat) : Int) := if_pos k2
            unfold rag rdX
            simp only [hO, hL, hZ, hP, if_true, hb0]
            rw [e1]
            rw [e2, decide_eq_true (by omega)]; rfl
           ·try simp only [nm, ne_eq] at h7
            refine sr rfl <| Wp rfl <| st_eql rfl rfl <| aB rfl <| en <| x_cond rfl (fun h8 => ?_) (fun h8 => ?_)
            ·try simp only [nm, ne_eq] at h8
             refine x_skip <| then_n <| x_cond rfl (fun h11 => ?_) (fun h11 => ?_)
             rotate_left
             · first | (simp only [nm, ne_eq] at h11; exact absurd (by assumption) h11) | (exfalso; simp_all)
             have hcv : 0 ≤ idx [100, 105, 117, 111, 120, 88, 99, 115, 98] (byte (rd3 s) 0) := by rw [hb0]; exact (cv_iff _).2 (by first | omega | simp_all)
             have hO : rdO s = true := by unfold rdO; rw [hF, decide_eq_true k1, decide_eq_true k2, decide_eq_false k3, decide_eq_true hcv]; rfl
             refine sr rfl <| mS rfl <| mI rfl <| Wp rfl <| st_sidx T.u9 rfl rfl (by omega) (by omega) <| fa T.fld68_5 rfl <| Wp rfl <| st_store (v := .int _ _) T.size5 rfl rfl rfl hb283 rfl (Nat.le_of_ble_eq_true rfl) (by simp [Value.oneCell', S]) rfl ?_
             intro w325 c326 hb327; simp only [setVs, setV] at hb327
             clear hb283
             replace HC := HC.then1 c326 ge_b4
             replace hb2 := hb2.tr1 c326 ne_b2_b4
             refine en <| sr rfl <| Wp rfl <| st_loadA (vs := [_, _, _, _, _, _]) T.agg68 rfl (hb327.cells (n := 6) (vs := [_, _, _, _, _, _]) rfl) rfl <| mI rfl <| Wp rfl <| st_addk rfl rfl (by exact wrap64_id (by omega) (by omega)) <| Wp rfl <| st_store (v := .agg ⟨[.bool _, .bool _, .int _ _, .int _ _, .bool _, .int _ _]⟩) T.size68 rfl rfl rfl hb2 rfl (Nat.le_of_ble_eq_true rfl) (by simp [Value.oneCell', S]) rfl ?_
             intro w328 c329 hb330; simp only [setVs, setV] at hb330
             clear hb2
             replace HC := HC.then1 c329 ge_b2
             replace hb327 := hb327.tr1 c329 (Ne.symm ne_b2_b4)
             refine aI rfl <| en <| x_ret <| block_r <| then_r <| ret_many (vs := [.agg ⟨[_, _, _, _, _, _]⟩, .int _ _]) rfl ⟨⟨_, _, rfl, run_loadVarA T.agg68 (hb330.cells (n := 6) rfl) rfl⟩, ⟨rfl, trivial⟩⟩ (Nat.le_of_ble_eq_true rfl) <| ⟨_, _, _, _, _, _, _, rfl, fun h => absurd h (by rw [hO]; decide), fun _ => ⟨I2, rfl, by omega, by rw [h3e, List.drop_drop], ?_⟩, HC⟩
             have e1 : cntW (rdR s) = ((cntN (rdR s) : Nat) : Int) := if_pos k1
             have e2 : cntW ((rd2 s).drop 1) = ((cntN ((rd2 s).drop 1) : Nat) : Int) := if_pos k2
             unfold rag rdX
             simp only [hO, hL, hZ, hP, if_true, hb0]
             rw [e1]
             rw [e2, decide_eq_true (by omega)]; rfl
            ·try simp only [nm, ne_eq] at h8
             refine sr rfl <| Wp rfl <| st_eql rfl rfl <| aB rfl <| en <| x_cond rfl (fun h9 => ?_) (fun h9 => ?_)
             ·try simp only [nm, ne_eq] at h9
              refine x_skip <| then_n <| x_cond rfl (fun h11 => ?_) (fun h11 => ?_)
              rotate_left
              · first | (simp only [nm, ne_eq] at h11; exact absurd (by assumption) h11) | (exfalso; simp_all)
              have hcv : 0 ≤ idx [100, 105, 117, 111, 120, 88, 99, 115, 98] (byte (rd3 s) 0) := by rw [hb0]; exact (cv_iff _).2 (by first | omega | simp_all)
              have hO : rdO s = true := by unfold rdO; rw [hF, decide_eq_true k1, decide_eq_true k2, decide_eq_false k3, decide_eq_true hcv]; rfl
              refine sr rfl <| mS rfl <| mI rfl <| Wp rfl <| st_sidx T.u9 rfl rfl (by omega) (by omega) <| fa T.fld68_5 rfl <| Wp rfl <| st_store (v := .int _ _) T.size5 rfl rfl rfl hb283 rfl (Nat.le_of_ble_eq_true rfl) (by simp [Value.oneCell', S]) rfl ?_
              intro w331 c332 hb333; simp only [setVs, setV] at hb333
              clear hb283
              replace HC := HC.then1 c332 ge_b4
              replace hb2 := hb2.tr1 c332 ne_b2_b4
              refine en <| sr rfl <| Wp rfl <| st_loadA (vs := [_, _, _, _, _, _]) T.agg68 rfl (hb333.cells (n := 6) (vs := [_, _, _, _, _, _]) rfl) rfl <| mI rfl <| Wp rfl <| st_addk rfl rfl (by exact wrap64_id (by omega) (by omega)) <| Wp rfl <| st_store (v := .agg ⟨[.bool _, .bool _, .int _ _, .int _ _, .bool _, .int _ _]⟩) T.size68 rfl rfl rfl hb2 rfl (Nat.le_of_ble_eq_true rfl) (by simp [Value.oneCell', S]) rfl ?_
              intro w334 c335 hb336; simp only [setVs, setV] at hb336
              clear hb2
              replace HC := HC.then1 c335 ge_b2
              replace hb333 := hb333.tr1 c335 (Ne.symm ne_b2_b4)
              refine aI rfl <| en <| x_ret <| block_r <| then_r <| ret_many (vs := [.agg ⟨[_, _, _, _, _, _]⟩, .int _ _]) rfl ⟨⟨_, _, rfl, run_loadVarA T.agg68 (hb336.cells (n := 6) rfl) rfl⟩, ⟨rfl, trivial⟩⟩ (Nat.le_of_ble_eq_true rfl) <| ⟨_, _, _, _, _, _, _, rfl, fun h => absurd h (by rw [hO]; decide), fun _ => ⟨I2, rfl, by omega, by rw [h3e, List.drop_drop], ?_⟩, HC⟩
              have e1 : cntW (rdR s) = ((cntN (rdR s) : Nat) : Int) := if_pos k1
              have e2 : cntW ((rd2 s).drop 1) = ((cntN ((rd2 s).drop 1) : Nat) : Int) := if_pos k2
              unfold rag rdX
              simp only [hO, hL, hZ, hP, if_true, hb0]
              rw [e1]
              rw [e2, decide_eq_true (by omega)]; rfl
             ·try simp only [nm, ne_eq] at h9
              refine sr rfl <| Wp rfl <| st_eql rfl rfl <| aB rfl <| en <| x_cond rfl (fun h10 => ?_) (fun h10 => ?_)
              ·try simp only [nm, ne_eq] at h10
               refine x_skip <| then_n <| x_cond rfl (fun h11 => ?_) (fun h11 => ?_)
               rotate_left
               · first | (simp only [nm, ne_eq] at h11; exact absurd (by assumption) h11) | (exfalso; simp_all)
               have hcv : 0 ≤ idx [100, 105, 117, 111, 120, 88, 99, 115, 98] (byte (rd3 s) 0) := by rw [hb0]; exact (cv_iff _).2 (by first | omega | simp_all)
               have hO : rdO s = true := by unfold rdO; rw [hF, decide_eq_true k1, decide_eq_true k2, decide_eq_false k3, decide_eq_true hcv]; rfl
               refine sr rfl <| mS rfl <| mI rfl <| Wp rfl <| st_sidx T.u9 rfl rfl (by omega) (by omega) <| fa T.fld68_5 rfl <| Wp rfl <| st_store (v := .int _ _) T.size5 rfl rfl rfl hb283 rfl (Nat.le_of_ble_eq_true rfl) (by simp [Value.oneCell', S]) rfl ?_
               intro w337 c338 hb339; simp only [setVs, setV] at hb339
               clear hb283
               replace HC := HC.then1 c338 ge_b4
               replace hb2 := hb2.tr1 c338 ne_b2_b4
               refine en <| sr rfl <| Wp rfl <| st_loadA (vs := [_, _, _, _, _, _]) T.agg68 rfl (hb339.cells (n := 6) (vs := [_, _, _, _, _, _]) rfl) rfl <| mI rfl <| Wp rfl <| st_addk rfl rfl (by exact wrap64_id (by omega) (by omega)) <| Wp rfl <| st_store (v := .agg ⟨[.bool _, .bool _, .int _ _, .int _ _, .bool _, .int _ _]⟩) T.size68 rfl rfl rfl hb2 rfl (Nat.le_of_ble_eq_true rfl) (by simp [Value.oneCell', S]) rfl ?_
               intro w340 c341 hb342; simp only [setVs, setV] at hb342
               clear hb2
               replace HC := HC.then1 c341 ge_b2
               replace hb339 := hb339.tr1 c341 (Ne.symm ne_b2_b4)
               refine aI rfl <| en <| x_ret <| block_r <| then_r <| ret_many (vs := [.agg ⟨[_, _, _, _, _, _]⟩, .int _ _]) rfl ⟨⟨_, _, rfl, run_loadVarA T.agg68 (hb342.cells (n := 6) rfl) rfl⟩, ⟨rfl, trivial⟩⟩ (Nat.le_of_ble_eq_true rfl) <| ⟨_, _, _, _, _, _, _, rfl, fun h => absurd h (by rw [hO]; decide), fun _ => ⟨I2, rfl, by omega, by rw [h3e, List.drop_drop], ?_⟩, HC⟩
               have e1 : cntW (rdR s) = ((cntN (rdR s) : Nat) : Int) := if_pos k1
               have e2 : cntW ((rd2 s).drop 1) = ((cntN ((rd2 s).drop 1) : Nat) : Int) := if_pos k2
               unfold rag rdX
               simp only [hO, hL, hZ, hP, if_true, hb0]
               rw [e1]
               rw [e2, decide_eq_true (by omega)]; rfl
              ·try simp only [nm, ne_eq] at h10
               refine x_region rfl <| Wp rfl <| st_eql rfl rfl <| aB rfl <| en <| x_cond rfl (fun h11 => ?_) (fun h11 => ?_)
               ·try simp only [nm, ne_eq] at h11
                have hcv : 0 ≤ idx [100, 105, 117, 111, 120, 88, 99, 115, 98] (byte (rd3 s) 0) := by rw [hb0]; exact (cv_iff _).2 (by first | omega | simp_all)
                have hO : rdO s = true := by unfold rdO; rw [hF, decide_eq_true k1, decide_eq_true k2, decide_eq_false k3, decide_eq_true hcv]; rfl
                refine sr rfl <| mS rfl <| mI rfl <| Wp rfl <| st_sidx T.u9 rfl rfl (by omega) (by omega) <| fa T.fld68_5 rfl <| Wp rfl <| st_store (v := .int _ _) T.size5 rfl rfl rfl hb283 rfl (Nat.le_of_ble_eq_true rfl) (by simp [Value.oneCell', S]) rfl ?_
                intro w343 c344 hb345; simp only [setVs, setV] at hb345
                clear hb283
                replace HC := HC.then1 c344 ge_b4
                replace hb2 := hb2.tr1 c344 ne_b2_b4
                refine en <| sr rfl <| Wp rfl <| st_loadA (vs := [_, _, _, _, _, _]) T.agg68 rfl (hb345.cells (n := 6) (vs := [_, _, _, _, _, _]) rfl) rfl <| mI rfl <| Wp rfl <| st_addk rfl rfl (by exact wrap64_id (by omega) (by omega)) <| Wp rfl <| st_store (v := .agg ⟨[.bool _, .bool _, .int _ _, .int _ _, .bool _, .int _ _]⟩) T.size68 rfl rfl rfl hb2 rfl (Nat.le_of_ble_eq_true rfl) (by simp [Value.oneCell', S]) rfl ?_
                intro w346 c347 hb348; simp only [setVs, setV] at hb348
                clear hb2
                replace HC := HC.then1 c347 ge_b2
                replace hb345 := hb345.tr1 c347 (Ne.symm ne_b2_b4)
                refine aI rfl <| en <| x_ret <| block_r <| then_r <| ret_many (vs := [.agg ⟨[_, _, _, _, _, _]⟩, .int _ _]) rfl ⟨⟨_, _, rfl, run_loadVarA T.agg68 (hb348.cells (n := 6) rfl) rfl⟩, ⟨rfl, trivial⟩⟩ (Nat.le_of_ble_eq_true rfl) <| ⟨_, _, _, _, _, _, _, rfl, fun h => absurd h (by rw [hO]; decide), fun _ => ⟨I2, rfl, by omega, by rw [h3e, List.drop_drop], ?_⟩, HC⟩
                have e1 : cntW (rdR s) = ((cntN (rdR s) : Nat) : Int) := if_pos k1
                have e2 : cntW ((rd2 s).drop 1) = ((cntN ((rd2 s).drop 1) : Nat) : Int) := if_pos k2
                unfold rag rdX
                simp only [hO, hL, hZ, hP, if_true, hb0]
                rw [e1]
                rw [e2, decide_eq_true (by omega)]; rfl
               ·try simp only [nm, ne_eq] at h11
                have hcv : ¬ 0 ≤ idx [100, 105, 117, 111, 120, 88, 99, 115, 98] (byte (rd3 s) 0) := by rw [hb0]; exact fun h9 => absurd ((cv_iff _).1 h9) (by omega)
                have hO : rdO s = false := by unfold rdO; rw [decide_eq_false hcv]; simp only [Bool.and_false]
                refine x_skip <| block_n <| then_n <| sr rfl <| Wp rfl <| st_loadA (vs := [_, _, _, _, _, _]) T.agg68 rfl (hb283.cells (n := 6) (vs := [_, _, _, _, _, _]) rfl) rfl <| Wp rfl <| st_store (v := .agg ⟨[.bool _, .bool _, .int _ _, .int _ _, .bool _, .int _ _]⟩) T.size68 rfl rfl rfl hb2 rfl (Nat.le_of_ble_eq_true rfl) (by simp [Value.oneCell', S]) rfl ?_
                intro w349 c350 hb351; simp only [setVs, setV] at hb351
                clear hb2
                replace HC := HC.then1 c350 ge_b2
                replace hb283 := hb283.tr1 c350 (Ne.symm ne_b2_b4)
                refine aI rfl <| en <| x_ret <| ret_many (vs := [.agg ⟨[_, _, _, _, _, _]⟩, .int _ _]) rfl ⟨⟨_, _, rfl, run_loadVarA T.agg68 (hb351.cells (n := 6) rfl) rfl⟩, ⟨rfl, trivial⟩⟩ (Nat.le_of_ble_eq_true rfl) <| ⟨_, _, _, _, _, _, _, rfl, fun _ => rfl, fun h => absurd h (by rw [hO]; decide), HC⟩
   ·try simp only [nm, ne_eq] at h1
    have hD : rdD s = false := by unfold rdD; rw [h2e, hp_46 (by omega)]; exact decide_eq_false (by first | assumption | simp_all)
    have h3e : rd3 s = s.drop I1 := by unfold rd3; rw [if_neg (by rw [hD]; decide)]; exact h2e
    have hF : rdF s = true := by unfold rdF; rw [if_neg (by rw [hD]; decide)]
    have hP : rdP s = -1 := by unfold rdP; rw [if_neg (by rw [hD]; decide)]
    have hpz : (rdP s).toNat = 0 := by rw [hP]; rfl
    obtain ⟨I2, hI2⟩ : ∃ I2, I2 = I1 := ⟨_, rfl⟩
    rw [← hI2] at h3e
    refine x_skip <| then_n <| x_seq <| x_seq ?_
    rw [← hI2]
    refine x_region rfl <| mI rfl <| mS rfl <| Wp rfl <| st_slen (ct := #[9]) T.u9 rfl <| Wp rfl <| st_geq rfl rfl <| mB rfl <| w_split (d := 86) rfl (fun g352 => ?_) (fun g352 => ?_)
    ·try simp only [nm, ne_eq] at g352
     iterate 3 refine w_no 4 86 false ?_
     refine pT rfl rfl <| mB rfl ?_
     iterate 3 refine w_no 9 91 false ?_
     refine pT rfl rfl <| en <| x_cond (t := true) rfl (fun h2 => ?_) (fun h2 => ?_)
     rotate_left
     · exact absurd h2 (by decide)
     have hO : rdO s = false := by unfold rdO; rw [decide_eq_true (show rd3 s = [] by rw [h3e]; exact List.drop_of_length_le (by omega))]; simp only [Bool.not_true, Bool.and_false, Bool.false_and]
     refine sr rfl <| Wp rfl <| st_loadA (vs := [_, _, _, _, _, _]) T.agg68 rfl (hb274.cells (n := 6) (vs := [_, _, _, _, _, _]) rfl) rfl <| Wp rfl <| st_store (v := .agg ⟨[.bool _, .bool _, .int _ _, .int _ _, .bool _, .int _ _]⟩) T.size68 rfl rfl rfl hb2 rfl (Nat.le_of_ble_eq_true rfl) (by simp [Value.oneCell', S]) rfl ?_
     intro w353 c354 hb355; simp only [setVs, setV] at hb355
     clear hb2
     replace HC := HC.then1 c354 ge_b2
     replace hb274 := hb274.tr1 c354 (Ne.symm ne_b2_b4)
     refine aI rfl <| en <| x_ret <| then_r <| ret_many (vs := [.agg ⟨[_, _, _, _, _, _]⟩, .int _ _]) rfl ⟨⟨_, _, rfl, run_loadVarA T.agg68 (hb355.cells (n := 6) rfl) rfl⟩, ⟨rfl, trivial⟩⟩ (Nat.le_of_ble_eq_true rfl) <| ⟨_, _, _, _, _, _, _, rfl, fun _ => rfl, fun h => absurd h (by rw [hO]; decide), HC⟩
    ·try simp only [nm, ne_eq] at g352
     refine w_yes 4 86 false <| st_fieldAddr T.fld68_2 rfl <| w_yes 4 86 false <| st_load1 (v := .int _ _) T.one3 rfl (hb274.cell rfl) <| w_yes 4 86 false <| st_lss rfl rfl <| pF rfl rfl <| mB rfl <| w_split (d := 91) rfl (fun g356 => ?_) (fun g356 => ?_)
     ·try simp only [nm, ne_eq] at g356
      iterate 3 refine w_no 9 91 false ?_
      refine pT rfl rfl <| en <| x_cond (t := true) rfl (fun h2 => ?_) (fun h2 => ?_)
      rotate_left
      · exact absurd h2 (by decide)
      have k1 := (cntW_neg (rdR s)).1 (by assumption)
      have hO : rdO s = false := by unfold rdO; rw [decide_eq_false k1]; simp only [Bool.false_and]
      refine sr rfl <| Wp rfl <| st_loadA (vs := [_, _, _, _, _, _]) T.agg68 rfl (hb274.cells (n := 6) (vs := [_, _, _, _, _, _]) rfl) rfl <| Wp rfl <| st_store (v := .agg ⟨[.bool _, .bool _, .int _ _, .int _ _, .bool _, .int _ _]⟩) T.size68 rfl rfl rfl hb2 rfl (Nat.le_of_ble_eq_true rfl) (by simp [Value.oneCell', S]) rfl ?_
      intro w357 c358 hb359; simp only [setVs, setV] at hb359
      clear hb2
      replace HC := HC.then1 c358 ge_b2
      replace hb274 := hb274.tr1 c358 (Ne.symm ne_b2_b4)
      refine aI rfl <| en <| x_ret <| then_r <| ret_many (vs := [.agg ⟨[_, _, _, _, _, _]⟩, .int _ _]) rfl ⟨⟨_, _, rfl, run_loadVarA T.agg68 (hb359.cells (n := 6) rfl) rfl⟩, ⟨rfl, trivial⟩⟩ (Nat.le_of_ble_eq_true rfl) <| ⟨_, _, _, _, _, _, _, rfl, fun _ => rfl, fun h => absurd h (by rw [hO]; decide), HC⟩
     ·try simp only [nm, ne_eq] at g356
      refine w_yes 9 91 false <| st_fieldAddr T.fld68_3 rfl <| w_yes 9 91 false <| st_load1 (v := .int _ _) T.one3 rfl (hb274.cell rfl) <| w_yes 9 91 false <| st_lss rfl rfl <| pF rfl rfl <| en <| x_cond rfl (fun h2 => ?_) (fun h2 => ?_)
      ·try simp only [nm, ne_eq] at h2
       exact absurd (show (0 : Int) < 0 by first | assumption | omega) (by decide)
      ·try simp only [nm, ne_eq] at h2
       have k1 : cntN (rdR s) ≤ 1000 := by have := cntW_neg (rdR s); first | omega | (refine Classical.byContradiction fun h9 => ?_; exact absurd (this.2 h9) (by first | assumption | omega))
       have k3 : ¬ rd3 s = [] := by rw [h3e]; intro h9; have := congrArg List.length h9; rw [List.length_drop, List.length_nil] at this; omega
       have hb0 : byte (rd3 s) 0 = byte s I2 := by rw [h3e, byte_drop]
       refine x_skip <| then_n <| x_seq <| sr rfl <| mS rfl <| mI rfl <| Wp rfl <| st_sidx T.u9 rfl rfl (by omega) (by omega) <| en <| x_block <| x_seq <| sr rfl <| Wp rfl <| st_eql rfl rfl <| aB rfl <| en <| x_cond rfl (fun h3 => ?_) (fun h3 => ?_)
       ·try simp only [nm, ne_eq] at h3
        refine x_skip <| then_n <| x_cond rfl (fun h11 => ?_) (fun h11 => ?_)
        rotate_left
        · first | (simp only [nm, ne_eq] at h11; exact absurd (by assumption) h11) | (exfalso; simp_all)
        have hcv : 0 ≤ idx [100, 105, 117, 111, 120, 88, 99, 115, 98] (byte (rd3 s) 0) := by rw [hb0]; exact (cv_iff _).2 (by first | omega | simp_all)
        have hO : rdO s = true := by unfold rdO; rw [hF, decide_eq_true k1, decide_eq_false k3, decide_eq_true hcv]; rfl
        refine sr rfl <| mS rfl <| mI rfl <| Wp rfl <| st_sidx T.u9 rfl rfl (by omega) (by omega) <| fa T.fld68_5 rfl <| Wp rfl <| st_store (v := .int _ _) T.size5 rfl rfl rfl hb274 rfl (Nat.le_of_ble_eq_true rfl) (by simp [Value.oneCell', S]) rfl ?_
        intro w360 c361 hb362; simp only [setVs, setV] at hb362
        clear hb274
        replace HC := HC.then1 c361 ge_b4
        replace hb2 := hb2.tr1 c361 ne_b2_b4
        refine en <| sr rfl <| Wp rfl <| st_loadA (vs := [_, _, _, _, _, _]) T.agg68 rfl (hb362.cells (n := 6) (vs := [_, _, _, _, _, _]) rfl) rfl <| mI rfl <| Wp rfl <| st_addk rfl rfl (by exact wrap64_id (by omega) (by omega)) <| Wp rfl <| st_store (v := .agg ⟨[.bool _, .bool _, .int _ _, .int _ _, .bool _, .int _ _]⟩) T.size68 rfl rfl rfl hb2 rfl (Nat.le_of_ble_eq_true rfl) (by simp [Value.oneCell', S]) rfl ?_
        intro w363 c364 hb365; simp only [setVs, setV] at hb365
        clear hb2
        replace HC := HC.then1 c364 ge_b2
        replace hb362 := hb362.tr1 c364 (Ne.symm ne_b2_b4)
        refine aI rfl <| en <| x_ret <| block_r <| then_r <| ret_many (vs := [.agg ⟨[_, _, _, _, _, _]⟩, .int _ _]) rfl ⟨⟨_, _, rfl, run_loadVarA T.agg68 (hb365.cells (n := 6) rfl) rfl⟩, ⟨rfl, trivial⟩⟩ (Nat.le_of_ble_eq_true rfl) <| ⟨_, _, _, _, _, _, _, rfl, fun h => absurd h (by rw [hO]; decide), fun _ => ⟨I2, rfl, by omega, by rw [h3e, List.drop_drop], ?_⟩, HC⟩
        have e1 : cntW (rdR s) = ((cntN (rdR s) : Nat) : Int) := if_pos k1
        unfold rag rdX
        simp only [hO, hL, hZ, hP, if_true, hb0]
        rw [e1]
        rfl
       ·try simp only [nm, ne_eq] at h3
        refine sr rfl <| Wp rfl <| st_eql rfl rfl <| aB rfl <| en <| x_cond rfl (fun h4 => ?_) (fun h4 => ?_)
        ·try simp only [nm, ne_eq] at h4
         refine x_skip <| then_n <| x_cond rfl (fun h11 => ?_) (fun h11 => ?_)
         rotate_left
         · first | (simp only [nm, ne_eq] at h11; exact absurd (by assumption) h11) | (exfalso; simp_all)
         have hcv : 0 ≤ idx [100, 105, 117, 111, 120, 88, 99, 115, 98] (byte (rd3 s) 0) := by rw [hb0]; exact (cv_iff _).2 (by first | omega | simp_all)
         have hO : rdO s = true := by unfold rdO; rw [hF, decide_eq_true k1, decide_eq_false k3, decide_eq_true hcv]; rfl
         refine sr rfl <| mS rfl <| mI rfl <| Wp rfl <| st_sidx T.u9 rfl rfl (by omega) (by omega) <| fa T.fld68_5 rfl <| Wp rfl <| st_store (v := .int _ _) T.size5 rfl rfl rfl hb274 rfl (Nat.le_of_ble_eq_true rfl) (by simp [Value.oneCell', S]) rfl ?_
         intro w366 c367 hb368; simp only [setVs, setV] at hb368
         clear hb274
         replace HC := HC.then1 c367 ge_b4
         replace hb2 := hb2.tr1 c367 ne_b2_b4
         refine en <| sr rfl <| Wp rfl <| st_loadA (vs := [_, _, _, _, _, _]) T.agg68 rfl (hb368.cells (n := 6) (vs := [_, _, _, _, _, _]) rfl) rfl <| mI rfl <| Wp rfl <| st_addk rfl rfl (by exact wrap64_id (by omega) (by omega)) <| Wp rfl <| st_store (v := .agg ⟨[.bool _, .bool _, .int _ _, .int _ _, .bool _, .int _ _]⟩) T.size68 rfl rfl rfl hb2 rfl (Nat.le_of_ble_eq_true rfl) (by simp [Value.oneCell', S]) rfl ?_
         intro w369 c370 hb371; simp only [setVs, setV] at hb371
         clear hb2
         replace HC := HC.then1 c370 ge_b2
         replace hb368 := hb368.tr1 c370 (Ne.symm ne_b2_b4)
         refine aI rfl <| en <| x_ret <| block_r <| then_r <| ret_many (vs := [.agg ⟨[_, _, _, _, _, _]⟩, .int _ _]) rfl ⟨⟨_, _, rfl, run_loadVarA T.agg68 (hb371.cells (n := 6) rfl) rfl⟩, ⟨rfl, trivial⟩⟩ (Nat.le_of_ble_eq_true rfl) <| ⟨_, _, _, _, _, _, _, rfl, fun h => absurd h (by rw [hO]; decide), fun _ => ⟨I2, rfl, by omega, by rw [h3e, List.drop_drop], ?_⟩, HC⟩
         have e1 : cntW (rdR s) = ((cntN (rdR s) : Nat) : Int) := if_pos k1
         unfold rag rdX
         simp only [hO, hL, hZ, hP, if_true, hb0]
         rw [e1]
         rfl
        ·try simp only [nm, ne_eq] at h4
         refine sr rfl <| Wp rfl <| st_eql rfl rfl <| aB rfl <| en <| x_cond rfl (fun h5 => ?_) (fun h5 => ?_)
         ·try simp only [nm, ne_eq] at h5
          refine x_skip <| then_n <| x_cond rfl (fun h11 => ?_) (fun h11 => ?_)
          rotate_left
          · first | (simp only [nm, ne_eq] at h11; exact absurd (by assumption) h11) | (exfalso; simp_all)
          have hcv : 0 ≤ idx [100, 105, 117, 111, 120, 88, 99, 115, 98] (byte (rd3 s) 0) := by rw [hb0]; exact (cv_iff _).2 (by first | omega | simp_all)
          have hO : rdO s = true := by unfold rdO; rw [hF, decide_eq_true k1, decide_eq_false k3, decide_eq_true hcv]; rfl
          refine sr rfl <| mS rfl <| mI rfl <| Wp rfl <| st_sidx T.u9 rfl rfl (by omega) (by omega) <| fa T.fld68_5 rfl <| Wp rfl <| st_store (v := .int _ _) T.size5 rfl rfl rfl hb274 rfl (Nat.le_of_ble_eq_true rfl) (by simp [Value.oneCell', S]) rfl ?_
          intro w372 c373 hb374; simp only [setVs, setV] at hb374
          clear hb274
          replace HC := HC.then1 c373 ge_b4
          replace hb2 := hb2.tr1 c373 ne_b2_b4
          refine en <| sr rfl <| Wp rfl <| st_loadA (vs := [_, _, _, _, _, _]) T.agg68 rfl (hb374.cells (n := 6) (vs := [_, _, _, _, _, _]) rfl) rfl <| mI rfl <| Wp rfl <| st_addk rfl rfl (by exact wrap64_id (by omega) (by omega)) <| Wp rfl <| st_store (v := .agg ⟨[.bool _, .bool _, .int _ _, .int _ _, .bool _, .int _ _]⟩) T.size68 rfl rfl rfl hb2 rfl (Nat.le_of_ble_eq_true rfl) (by simp [Value.oneCell', S]) rfl ?_
          intro w375 c376 hb377; simp only [setVs, setV] at hb377
          clear hb2
          replace HC := HC.then1 c376 ge_b2
          replace hb374 := hb374.tr1 c376 (Ne.symm ne_b2_b4)
          refine aI rfl <| en <| x_ret <| block_r <| then_r <| ret_many (vs := [.agg ⟨[_, _, _, _, _, _]⟩, .int _ _]) rfl ⟨⟨_, _, rfl, run_loadVarA T.agg68 (hb377.cells (n := 6) rfl) rfl⟩, ⟨rfl, trivial⟩⟩ (Nat.le_of_ble_eq_true rfl) <| ⟨_, _, _, _, _, _, _, rfl, fun h => absurd h (by rw [hO]; decide), fun _ => ⟨I2, rfl, by omega, by rw [h3e, List.drop_drop], ?_⟩, HC⟩
          have e1 : cntW (rdR s) = ((cntN (rdR s) : Nat) : Int) := if_pos k1
          unfold rag rdX
          simp only [hO, hL, hZ, hP, if_true, hb0]
          rw [e1]
          rfl
         ·try simp only [nm, ne_eq] at h5
          refine sr rfl <| Wp rfl <| st_eql rfl rfl <| aB rfl <| en <| x_cond rfl (fun h6 => ?_) (fun h6 => ?_)
          ·try simp only [nm, ne_eq] at h6
           refine x_skip <| then_n <| x_cond rfl (fun h11 => ?_) (fun h11 => ?_)
           rotate_left
           · first | (simp only [nm, ne_eq] at h11; exact absurd (by assumption) h11) | (exfalso; simp_all)
           have hcv : 0 ≤ idx [100, 105, 117, 111, 120, 88, 99, 115, 98] (byte (rd3 s) 0) := by rw [hb0]; exact (cv_iff _).2 (by first | omega | simp_all)
           have hO : rdO s = true := by unfold rdO; rw [hF, decide_eq_true k1, decide_eq_false k3, decide_eq_true hcv]; rfl
           refine sr rfl <| mS rfl <| mI rfl <| Wp rfl <| st_sidx T.u9 rfl rfl (by omega) (by omega) <| fa T.fld68_5 rfl <| Wp rfl <| st_store (v := .int _ _) T.size5 rfl rfl rfl hb274 rfl (Nat.le_of_ble_eq_true rfl) (by simp [Value.oneCell', S]) rfl ?_
           intro w378 c379 hb380; simp only [setVs, setV] at hb380
           clear hb274
           replace HC := HC.then1 c379 ge_b4
           replace hb2 := hb2.tr1 c379 ne_b2_b4
           refine en <| sr rfl <| Wp rfl <| st_loadA (vs := [_, _, _, _, _, _]) T.agg68 rfl (hb380.cells (n := 6) (vs := [_, _, _, _, _, _]) rfl) rfl <| mI rfl <| Wp rfl <| st_addk rfl rfl (by exact wrap64_id (by omega) (by omega)) <| Wp rfl <| st_store (v := .agg ⟨[.bool _, .bool _, .int _ _, .int _ _, .bool _, .int _ _]⟩) T.size68 rfl rfl rfl hb2 rfl (Nat.le_of_ble_eq_true rfl) (by simp [Value.oneCell', S]) rfl ?_
           intro w381 c382 hb383; simp only [setVs, setV] at hb383
           clear hb2
           replace HC := HC.then1 c382 ge_b2
           replace hb380 := hb380.tr1 c382 (Ne.symm ne_b2_b4)
           refine aI rfl <| en <| x_ret <| block_r <| then_r <| ret_many (vs := [.agg ⟨[_, _, _, _, _, _]⟩, .int _ _]) rfl ⟨⟨_, _, rfl, run_loadVarA T.agg68 (hb383.cells (n := 6) rfl) rfl⟩, ⟨rfl, trivial⟩⟩ (Nat.le_of_ble_eq_true rfl) <| ⟨_, _, _, _, _, _, _, rfl, fun h => absurd h (by rw [hO]; decide), fun _ => ⟨I2, rfl, by omega, by rw [h3e, List.drop_drop], ?_⟩, HC⟩
           have e1 : cntW (rdR s) = ((cntN (rdR s) : Nat) : Int) := if_pos k1
           unfold rag rdX
           simp only [hO, hL, hZ, hP, if_true, hb0]
           rw [e1]
           rfl
          ·try simp only [nm, ne_eq] at h6
           refine sr rfl <| Wp rfl <| st_eql rfl rfl <| aB rfl <| en <| x_cond rfl (fun h7 => ?_) (fun h7 => ?_)
           ·try simp only [nm, ne_eq] at h7
            refine x_skip <| then_n <| x_cond rfl (fun h11 => ?_) (fun h11 => ?_)
            rotate_left
            · first | (simp only [nm, ne_eq] at h11; exact absurd (by assumption) h11) | (exfalso; simp_all)
            have hcv : 0 ≤ idx [100, 105, 117, 111, 120, 88, 99, 115, 98] (byte (rd3 s) 0) := by rw [hb0]; exact (cv_iff _).2 (by first | omega | simp_all)
            have hO : rdO s = true := by unfold rdO; rw [hF, decide_eq_true k1, decide_eq_false k3, decide_eq_true hcv]; rfl
            refine sr rfl <| mS rfl <| mI rfl <| Wp rfl <| st_sidx T.u9 rfl rfl (by omega) (by omega) <| fa T.fld68_5 rfl <| Wp rfl <| st_store (v := .int _ _) T.size5 rfl rfl rfl hb274 rfl (Nat.le_of_ble_eq_true rfl) (by simp [Value.oneCell', S]) rfl ?_
            intro w384 c385 hb386; simp only [setVs, setV] at hb386
            clear hb274
            replace HC := HC.then1 c385 ge_b4
            replace hb2 := hb2.tr1 c385 ne_b2_b4
            refine en <| sr rfl <| Wp rfl <| st_loadA (vs := [_, _, _, _, _, _]) T.agg68 rfl (hb386.cells (n := 6) (vs := [_, _, _, _, _, _]) rfl) rfl <| mI rfl <| Wp rfl <| st_addk rfl rfl (by exact wrap64_id (by omega) (by omega)) <| Wp rfl <| st_store (v := .agg ⟨[.bool _, .bool _, .int _ _, .int _ _, .bool _, .int _ _]⟩) T.size68 rfl rfl rfl hb2 rfl (Nat.le_of_ble_eq_true rfl) (by simp [Value.oneCell', S]) rfl ?_
            intro w387 c388 hb389; simp only [setVs, setV] at hb389
            clear hb2
            replace HC := HC.then1 c388 ge_b2
            replace hb386 := hb386.tr1 c388 (Ne.symm ne_b2_b4)
            refine aI rfl <| en <| x_ret <| block_r <| then_r <| ret_many (vs := [.agg ⟨[_, _, _, _, _, _]⟩, .int _ _]) rfl ⟨⟨_, _, rfl, run_loadVarA T.agg68 (hb389.cells (n := 6) rfl) rfl⟩, ⟨rfl, trivial⟩⟩ (Nat.le_of_ble_eq_true rfl) <| ⟨_, _, _, _, _, _, _, rfl, fun h => absurd h (by rw [hO]; decide), fun _ => ⟨I2, rfl, by omega, by rw [h3e, List.drop_drop], ?_⟩, HC⟩
            have e1 : cntW (rdR s) = ((cntN (rdR s) : Nat) : Int) := if_pos k1
            unfold rag rdX
            simp only [hO, hL, hZ, hP, if_true, hb0]
            rw [e1]
            rfl
           ·try simp only [nm, ne_eq] at h7
            refine sr rfl <| Wp rfl <| st_eql rfl rfl <| aB rfl <| en <| x_cond rfl (fun h8 => ?_) (fun h8 => ?_)
            ·try simp only [nm, ne_eq] at h8
             refine x_skip <| then_n <| x_cond rfl (fun h11 => ?_) (fun h11 => ?_)
             rotate_left
             · first | (simp only [nm, ne_eq] at h11; exact absurd (by assumption) h11) | (exfalso; simp_all)
             have hcv : 0 ≤ idx [100, 105, 117, 111, 120, 88, 99, 115, 98] (byte (rd3 s) 0) := by rw [hb0]; exact (cv_iff _).2 (by first | omega | simp_all)
             have hO : rdO s = true := by unfold rdO; rw [hF, decide_eq_true k1, decide_eq_false k3, decide_eq_true hcv]; rfl
             refine sr rfl <| mS rfl <| mI rfl <| Wp rfl <| st_sidx T.u9 rfl rfl (by omega) (by omega) <| fa T.fld68_5 rfl <| Wp rfl <| st_store (v := .int _ _) T.size5 rfl rfl rfl hb274 rfl (Nat.le_of_ble_eq_true rfl) (by simp [Value.oneCell', S]) rfl ?_
             intro w390 c391 hb392; simp only [setVs, setV] at hb392
             clear hb274
             replace HC := HC.then1 c391 ge_b4
             replace hb2 := hb2.tr1 c391 ne_b2_b4
             refine en <| sr rfl <| Wp rfl <| st_loadA (vs := [_, _, _, _, _, _]) T.agg68 rfl (hb392.cells (n := 6) (vs := [_, _, _, _, _, _]) rfl) rfl <| mI rfl <| Wp rfl <| st_addk rfl rfl (by exact wrap64_id (by omega) (by omega)) <| Wp rfl <| st_store (v := .agg ⟨[.bool _, .bool _, .int _ _, .int _ _, .bool _, .int _ _]⟩) T.size68 rfl rfl rfl hb2 rfl (Nat.le_of_ble_eq_true rfl) (by simp [Value.oneCell', S]) rfl ?_
             intro w393 c394 hb395; simp only [setVs, setV] at hb395
             clear hb2
             replace HC := HC.then1 c394 ge_b2
             replace hb392 := hb392.tr1 c394 (Ne.symm ne_b2_b4)
             refine aI rfl <| en <| x_ret <| block_r <| then_r <| ret_many (vs := [.agg ⟨[_, _, _, _, _, _]⟩, .int _ _]) rfl ⟨⟨_, _, rfl, run_loadVarA T.agg68 (hb395.cells (n := 6) rfl) rfl⟩, ⟨rfl, trivial⟩⟩ (Nat.le_of_ble_eq_true rfl) <| ⟨_, _, _, _, _, _, _, rfl, fun h => absurd h (by rw [hO]; decide), fun _ => ⟨I2, rfl, by omega, by rw [h3e, List.drop_drop], ?_⟩, HC⟩
             have e1 : cntW (rdR s) = ((cntN (rdR s) : Nat) : Int) := if_pos k1
             unfold rag rdX
             simp only [hO, hL, hZ, hP, if_true, hb0]
             rw [e1]
             rfl
            ·try simp only [nm, ne_eq] at h8
             refine sr rfl <| Wp rfl <| st_eql rfl rfl <| aB rfl <| en <| x_cond rfl (fun h9 => ?_) (fun h9 => ?_)
             ·try simp only [nm, ne_eq] at h9
              refine x_skip <| then_n <| x_cond rfl (fun h11 => ?_) (fun h11 => ?_)
              rotate_left
              · first | (simp only [nm, ne_eq] at h11; exact absurd (by assumption) h11) | (exfalso; simp_all)
              have hcv : 0 ≤ idx [100, 105, 117, 111, 120, 88, 99, 115, 98] (byte (rd3 s) 0) := by rw [hb0]; exact (cv_iff _).2 (by first | omega | simp_all)
              have hO : rdO s = true := by unfold rdO; rw [hF, decide_eq_true k1, decide_eq_false k3, decide_eq_true hcv]; rfl
              refine sr rfl <| mS rfl <| mI rfl <| Wp rfl <| st_sidx T.u9 rfl rfl (by omega) (by omega) <| fa T.fld68_5 rfl <| Wp rfl <| st_store (v := .int _ _) T.size5 rfl rfl rfl hb274 rfl (Nat.le_of_ble_eq_true rfl) (by simp [Value.oneCell', S]) rfl ?_
              intro w396 c397 hb398; simp only [setVs, setV] at hb398
              clear hb274
              replace HC := HC.then1 c397 ge_b4
              replace hb2 := hb2.tr1 c397 ne_b2_b4
              refine en <| sr rfl <| Wp rfl <| st_loadA (vs := [_, _, _, _, _, _]) T.agg68 rfl (hb398.cells (n := 6) (vs := [_, _, _, _, _, _]) rfl) rfl <| mI rfl <| Wp rfl <| st_addk rfl rfl (by exact wrap64_id (by omega) (by omega)) <| Wp rfl <| st_store (v := .agg ⟨[.bool _, .bool _, .int _ _, .int _ _, .bool _, .int _ _]⟩) T.size68 rfl rfl rfl hb2 rfl (Nat.le_of_ble_eq_true rfl) (by simp [Value.oneCell', S]) rfl ?_
              intro w399 c400 hb401; simp only [setVs, setV] at hb401
              clear hb2
              replace HC := HC.then1 c400 ge_b2
              replace hb398 := hb398.tr1 c400 (Ne.symm ne_b2_b4)
              refine aI rfl <| en <| x_ret <| block_r <| then_r <| ret_many (vs := [.agg ⟨[_, _, _, _, _, _]⟩, .int _ _]) rfl ⟨⟨_, _, rfl, run_loadVarA T.agg68 (hb401.cells (n := 6) rfl) rfl⟩, ⟨rfl, trivial⟩⟩ (Nat.le_of_ble_eq_true rfl) <| ⟨_, _, _, _, _, _, _, rfl, fun h => absurd h (by rw [hO]; decide), fun _ => ⟨I2, rfl, by omega, by rw [h3e, List.drop_drop], ?_⟩, HC⟩
              have e1 : cntW (rdR s) = ((cntN (rdR s) : Nat) : Int) := if_pos k1
              unfold rag rdX
              simp only [hO, hL, hZ, hP, if_true, hb0]
              rw [e1]
              rfl
             ·try simp only [nm, ne_eq] at h9
              refine sr rfl <| Wp rfl <| st_eql rfl rfl <| aB rfl <| en <| x_cond rfl (fun h10 => ?_) (fun h10 => ?_)
              ·try simp only [nm, ne_eq] at h10
               refine x_skip <| then_n <| x_cond rfl (fun h11 => ?_) (fun h11 => ?_)
               rotate_left
               · first | (simp only [nm, ne_eq] at h11; exact absurd (by assumption) h11) | (exfalso; simp_all)
               have hcv : 0 ≤ idx [100, 105, 117, 111, 120, 88, 99, 115, 98] (byte (rd3 s) 0) := by rw [hb0]; exact (cv_iff _).2 (by first | omega | simp_all)
               have hO : rdO s = true := by unfold rdO; rw [hF, decide_eq_true k1, decide_eq_false k3, decide_eq_true hcv]; rfl
               refine sr rfl <| mS rfl <| mI rfl <| Wp rfl <| st_sidx T.u9 rfl rfl (by omega) (by omega) <| fa T.fld68_5 rfl <| Wp rfl <| st_store (v := .int _ _) T.size5 rfl rfl rfl hb274 rfl (Nat.le_of_ble_eq_true rfl) (by simp [Value.oneCell', S]) rfl ?_
               intro w402 c403 hb404; simp only [setVs, setV] at hb404
               clear hb274
               replace HC := HC.then1 c403 ge_b4
               replace hb2 := hb2.tr1 c403 ne_b2_b4
               refine en <| sr rfl <| Wp rfl <| st_loadA (vs := [_, _, _, _, _, _]) T.agg68 rfl (hb404.cells (n := 6) (vs := [_, _, _, _, _, _]) rfl) rfl <| mI rfl <| Wp rfl <| st_addk rfl rfl (by exact wrap64_id (by omega) (by omega)) <| Wp rfl <| st_store (v := .agg ⟨[.bool _, .bool _, .int _ _, .int _ _, .bool _, .int _ _]⟩) T.size68 rfl rfl rfl hb2 rfl (Nat.le_of_ble_eq_true rfl) (by simp [Value.oneCell', S]) rfl ?_
               intro w405 c406 hb407; simp only [setVs, setV] at hb407
               clear hb2
               replace HC := HC.then1 c406 ge_b2
               replace hb404 := hb404.tr1 c406 (Ne.symm ne_b2_b4)
               refine aI rfl <| en <| x_ret <| block_r <| then_r <| ret_many (vs := [.agg ⟨[_, _, _, _, _, _]⟩, .int _ _]) rfl ⟨⟨_, _, rfl, run_loadVarA T.agg68 (hb407.cells (n := 6) rfl) rfl⟩, ⟨rfl, trivial⟩⟩ (Nat.le_of_ble_eq_true rfl) <| ⟨_, _, _, _, _, _, _, rfl, fun h => absurd h (by rw [hO]; decide), fun _ => ⟨I2, rfl, by omega, by rw [h3e, List.drop_drop], ?_⟩, HC⟩
               have e1 : cntW (rdR s) = ((cntN (rdR s) : Nat) : Int) := if_pos k1
               unfold rag rdX
               simp only [hO, hL, hZ, hP, if_true, hb0]
               rw [e1]
               rfl
              ·try simp only [nm, ne_eq] at h10
               refine x_region rfl <| Wp rfl <| st_eql rfl rfl <| aB rfl <| en <| x_cond rfl (fun h11 => ?_) (fun h11 => ?_)
               ·try simp only [nm, ne_eq] at h11
                have hcv : 0 ≤ idx [100, 105, 117, 111, 120, 88, 99, 115, 98] (byte (rd3 s) 0) := by rw [hb0]; exact (cv_iff _).2 (by first | omega | simp_all)
                have hO : rdO s = true := by unfold rdO; rw [hF, decide_eq_true k1, decide_eq_false k3, decide_eq_true hcv]; rfl
                refine sr rfl <| mS rfl <| mI rfl <| Wp rfl <| st_sidx T.u9 rfl rfl (by omega) (by omega) <| fa T.fld68_5 rfl <| Wp rfl <| st_store (v := .int _ _) T.size5 rfl rfl rfl hb274 rfl (Nat.le_of_ble_eq_true rfl) (by simp [Value.oneCell', S]) rfl ?_
                intro w408 c409 hb410; simp only [setVs, setV] at hb410
                clear hb274
                replace HC := HC.then1 c409 ge_b4
                replace hb2 := hb2.tr1 c409 ne_b2_b4
                refine en <| sr rfl <| Wp rfl <| st_loadA (vs := [_, _, _, _, _, _]) T.agg68 rfl (hb410.cells (n := 6) (vs := [_, _, _, _, _, _]) rfl) rfl <| mI rfl <| Wp rfl <| st_addk rfl rfl (by exact wrap64_id (by omega) (by omega)) <| Wp rfl <| st_store (v := .agg ⟨[.bool _, .bool _, .int _ _, .int _ _, .bool _, .int _ _]⟩) T.size68 rfl rfl rfl hb2 rfl (Nat.le_of_ble_eq_true rfl) (by simp [Value.oneCell', S]) rfl ?_
                intro w411 c412 hb413; simp only [setVs, setV] at hb413
                clear hb2
                replace HC := HC.then1 c412 ge_b2
                replace hb410 := hb410.tr1 c412 (Ne.symm ne_b2_b4)
                refine aI rfl <| en <| x_ret <| block_r <| then_r <| ret_many (vs := [.agg ⟨[_, _, _, _, _, _]⟩, .int _ _]) rfl ⟨⟨_, _, rfl, run_loadVarA T.agg68 (hb413.cells (n := 6) rfl) rfl⟩, ⟨rfl, trivial⟩⟩ (Nat.le_of_ble_eq_true rfl) <| ⟨_, _, _, _, _, _, _, rfl, fun h => absurd h (by rw [hO]; decide), fun _ => ⟨I2, rfl, by omega, by rw [h3e, List.drop_drop], ?_⟩, HC⟩
                have e1 : cntW (rdR s) = ((cntN (rdR s) : Nat) : Int) := if_pos k1
                unfold rag rdX
                simp only [hO, hL, hZ, hP, if_true, hb0]
                rw [e1]
                rfl
               ·try simp only [nm, ne_eq] at h11
                have hcv : ¬ 0 ≤ idx [100, 105, 117, 111, 120, 88, 99, 115, 98] (byte (rd3 s) 0) := by rw [hb0]; exact fun h9 => absurd ((cv_iff _).1 h9) (by omega)
                have hO : rdO s = false := by unfold rdO; rw [decide_eq_false hcv]; simp only [Bool.and_false]
                refine x_skip <| block_n <| then_n <| sr rfl <| Wp rfl <| st_loadA (vs := [_, _, _, _, _, _]) T.agg68 rfl (hb274.cells (n := 6) (vs := [_, _, _, _, _, _]) rfl) rfl <| Wp rfl <| st_store (v := .agg ⟨[.bool _, .bool _, .int _ _, .int _ _, .bool _, .int _ _]⟩) T.size68 rfl rfl rfl hb2 rfl (Nat.le_of_ble_eq_true rfl) (by simp [Value.oneCell', S]) rfl ?_
                intro w414 c415 hb416; simp only [setVs, setV] at hb416
                clear hb2
                replace HC := HC.then1 c415 ge_b2
                replace hb274 := hb274.tr1 c415 (Ne.symm ne_b2_b4)
                refine aI rfl <| en <| x_ret <| ret_many (vs := [.agg ⟨[_, _, _, _, _, _]⟩, .int _ _]) rfl ⟨⟨_, _, rfl, run_loadVarA T.agg68 (hb416.cells (n := 6) rfl) rfl⟩, ⟨rfl, trivial⟩⟩ (Nat.le_of_ble_eq_true rfl) <| ⟨_, _, _, _, _, _, _, rfl, fun _ => rfl, fun h => absurd h (by rw [hO]; decide), HC⟩
  ·try simp only [nm, ne_eq] at g275
   iterate 4 refine w_no 4 61 true ?_
   refine pF rfl rfl <| en <| x_cond (t := false) rfl (fun h1 => ?_) (fun h1 => ?_)
   · exact absurd h1 (by decide)
   have hD : rdD s = false := by unfold rdD; rw [h2e, List.drop_of_length_le (by omega)]; rfl
   have h3e : rd3 s = s.drop I1 := by unfold rd3; rw [if_neg (by rw [hD]; decide)]; exact h2e
   have hF : rdF s = true := by unfold rdF; rw [if_neg (by rw [hD]; decide)]
   have hP : rdP s = -1 := by unfold rdP; rw [if_neg (by rw [hD]; decide)]
   have hpz : (rdP s).toNat = 0 := by rw [hP]; rfl
   obtain ⟨I2, hI2⟩ : ∃ I2, I2 = I1 := ⟨_, rfl⟩
   rw [← hI2] at h3e
   refine x_skip <| then_n <| x_seq <| x_seq ?_
   rw [← hI2]
   refine x_region rfl <| mI rfl <| mS rfl <| Wp rfl <| st_slen (ct := #[9]) T.u9 rfl <| Wp rfl <| st_geq rfl rfl <| mB rfl <| w_split (d := 86) rfl (fun g417 => ?_) (fun g417 => ?_)
   ·try simp only [nm, ne_eq] at g417
    iterate 3 refine w_no 4 86 false ?_
    refine pT rfl rfl <| mB rfl ?_
    iterate 3 refine w_no 9 91 false ?_
    refine pT rfl rfl <| en <| x_cond (t := true) rfl (fun h2 => ?_) (fun h2 => ?_)
    rotate_left
    · exact absurd h2 (by decide)
    have hO : rdO s = false := by unfold rdO; rw [decide_eq_true (show rd3 s = [] by rw [h3e]; exact List.drop_of_length_le (by omega))]; simp only [Bool.not_true, Bool.and_false, Bool.false_and]
    refine sr rfl <| Wp rfl <| st_loadA (vs := [_, _, _, _, _, _]) T.agg68 rfl (hb274.cells (n := 6) (vs := [_, _, _, _, _, _]) rfl) rfl <| Wp rfl <| st_store (v := .agg ⟨[.bool _, .bool _, .int _ _, .int _ _, .bool _, .int _ _]⟩) T.size68 rfl rfl rfl hb2 rfl (Nat.le_of_ble_eq_true rfl) (by simp [Value.oneCell', S]) rfl ?_
    intro w418 c419 hb420; simp only [setVs, setV] at hb420
    clear hb2
    replace HC := HC.then1 c419 ge_b2
    replace hb274 := hb274.tr1 c419 (Ne.symm ne_b2_b4)
    refine aI rfl <| en <| x_ret <| then_r <| ret_many (vs := [.agg ⟨[_, _, _, _, _, _]⟩, .int _ _]) rfl ⟨⟨_, _, rfl, run_loadVarA T.agg68 (hb420.cells (n := 6) rfl) rfl⟩, ⟨rfl, trivial⟩⟩ (Nat.le_of_ble_eq_true rfl) <| ⟨_, _, _, _, _, _, _, rfl, fun _ => rfl, fun h => absurd h (by rw [hO]; decide), HC⟩
   ·try simp only [nm, ne_eq] at g417
    refine w_yes 4 86 false <| st_fieldAddr T.fld68_2 rfl <| w_yes 4 86 false <| st_load1 (v := .int _ _) T.one3 rfl (hb274.cell rfl) <| w_yes 4 86 false <| st_lss rfl rfl <| pF rfl rfl <| mB rfl <| w_split (d := 91) rfl (fun g421 => ?_) (fun g421 => ?_)
    ·try simp only [nm, ne_eq] at g421
     iterate 3 refine w_no 9 91 false ?_
     refine pT rfl rfl <| en <| x_cond (t := true) rfl (fun h2 => ?_) (fun h2 => ?_)
     rotate_left
     · exact absurd h2 (by decide)
     have k1 := (cntW_neg (rdR s)).1 (by assumption)
     have hO : rdO s = false := by unfold rdO; rw [decide_eq_false k1]; simp only [Bool.false_and]
     refine sr rfl <| Wp rfl <| st_loadA (vs := [_, _, _, _, _, _]) T.agg68 rfl (hb274.cells (n := 6) (vs := [_, _, _, _, _, _]) rfl) rfl <| Wp rfl <| st_store (v := .agg ⟨[.bool _, .bool _, .int _ _, .int _ _, .bool _, .int _ _]⟩) T.size68 rfl rfl rfl hb2 rfl (Nat.le_of_ble_eq_true rfl) (by simp [Value.oneCell', S]) rfl ?_
     intro w422 c423 hb424; simp only [setVs, setV] at hb424
     clear hb2
     replace HC := HC.then1 c423 ge_b2
     replace hb274 := hb274.tr1 c423 (Ne.symm ne_b2_b4)
     refine aI rfl <| en <| x_ret <| then_r <| ret_many (vs := [.agg ⟨[_, _, _, _, _, _]⟩, .int _ _]) rfl ⟨⟨_, _, rfl, run_loadVarA T.agg68 (hb424.cells (n := 6) rfl) rfl⟩, ⟨rfl, trivial⟩⟩ (Nat.le_of_ble_eq_true rfl) <| ⟨_, _, _, _, _, _, _, rfl, fun _ => rfl, fun h => absurd h (by rw [hO]; decide), HC⟩
    ·try simp only [nm, ne_eq] at g421
     refine w_yes 9 91 false <| st_fieldAddr T.fld68_3 rfl <| w_yes 9 91 false <| st_load1 (v := .int _ _) T.one3 rfl (hb274.cell rfl) <| w_yes 9 91 false <| st_lss rfl rfl <| pF rfl rfl <| en <| x_cond rfl (fun h2 => ?_) (fun h2 => ?_)
     ·try simp only [nm, ne_eq] at h2
      exact absurd (show (0 : Int) < 0 by first | assumption | omega) (by decide)
     ·try simp only [nm, ne_eq] at h2
      have k1 : cntN (rdR s) ≤ 1000 := by have := cntW_neg (rdR s); first | omega | (refine Classical.byContradiction fun h9 => ?_; exact absurd (this.2 h9) (by first | assumption | omega))
      have k3 : ¬ rd3 s = [] := by rw [h3e]; intro h9; have := congrArg List.length h9; rw [List.length_drop, List.length_nil] at this; omega
      have hb0 : byte (rd3 s) 0 = byte s I2 := by rw [h3e, byte_drop]
      refine x_skip <| then_n <| x_seq <| sr rfl <| mS rfl <| mI rfl <| Wp rfl <| st_sidx T.u9 rfl rfl (by omega) (by omega) <| en <| x_block <| x_seq <| sr rfl <| Wp rfl <| st_eql rfl rfl <| aB rfl <| en <| x_cond rfl (fun h3 => ?_) (fun h3 => ?_)
      ·try simp only [nm, ne_eq] at h3
       refine x_skip <| then_n <| x_cond rfl (fun h11 => ?_) (fun h11 => ?_)
       rotate_left
       · first | (simp only [nm, ne_eq] at h11; exact absurd (by assumption) h11) | (exfalso; simp_all)
       have hcv : 0 ≤ idx [100, 105, 117, 111, 120, 88, 99, 115, 98] (byte (rd3 s) 0) := by rw [hb0]; exact (cv_iff _).2 (by first | omega | simp_all)
       have hO : rdO s = true := by unfold rdO; rw [hF, decide_eq_true k1, decide_eq_false k3, decide_eq_true hcv]; rfl
       refine sr rfl <| mS rfl <| mI rfl <| Wp rfl <| st_sidx T.u9 rfl rfl (by omega) (by omega) <| fa T.fld68_5 rfl <| Wp rfl <| st_store (v := .int _ _) T.size5 rfl rfl rfl hb274 rfl (Nat.le_of_ble_eq_true rfl) (by simp [Value.oneCell', S]) rfl ?_
       intro w425 c426 hb427; simp only [setVs, setV] at hb427
       clear hb274
       replace HC := HC.then1 c426 ge_b4
       replace hb2 := hb2.tr1 c426 ne_b2_b4
       refine en <| sr rfl <| Wp rfl <| st_loadA (vs := [_, _, _, _, _, _]) T.agg68 rfl (hb427.cells (n := 6) (vs := [_, _, _, _, _, _]) rfl) rfl <| mI rfl <| Wp rfl <| st_addk rfl rfl (by exact wrap64_id (by omega) (by omega)) <| Wp rfl <| st_store (v := .agg ⟨[.bool _, .bool _, .int _ _, .int _ _, .bool _, .int _ _]⟩) T.size68 rfl rfl rfl hb2 rfl (Nat.le_of_ble_eq_true rfl) (by simp [Value.oneCell', S]) rfl ?_
       intro w428 c429 hb430; simp only [setVs, setV] at hb430
       clear hb2
       replace HC := HC.then1 c429 ge_b2
       replace hb427 := hb427.tr1 c429 (Ne.symm ne_b2_b4)
       refine aI rfl <| en <| x_ret <| block_r <| then_r <| ret_many (vs := [.agg ⟨[_, _, _, _, _, _]⟩, .int _ _]) rfl ⟨⟨_, _, rfl, run_loadVarA T.agg68 (hb430.cells (n := 6) rfl) rfl⟩, ⟨rfl, trivial⟩⟩ (Nat.le_of_ble_eq_true rfl) <| ⟨_, _, _, _, _, _, _, rfl, fun h => absurd h (by rw [hO]; decide), fun _ => ⟨I2, rfl, by omega, by rw [h3e, List.drop_drop], ?_⟩, HC⟩
       have e1 : cntW (rdR s) = ((cntN (rdR s) : Nat) : Int) := if_pos k1
       unfold rag rdX
       simp only [hO, hL, hZ, hP, if_true, hb0]
       rw [e1]
       rfl
      ·try simp only [nm, ne_eq] at h3
       refine sr rfl <| Wp rfl <| st_eql rfl rfl <| aB rfl <| en <| x_cond rfl (fun h4 => ?_) (fun h4 => ?_)
       ·try simp only [nm, ne_eq] at h4
        refine x_skip <| then_n <| x_cond rfl (fun h11 => ?_) (fun h11 => ?_)
        rotate_left
        · first | (simp only [nm, ne_eq] at h11; exact absurd (by assumption) h11) | (exfalso; simp_all)
        have hcv : 0 ≤ idx [100, 105, 117, 111, 120, 88, 99, 115, 98] (byte (rd3 s) 0) := by rw [hb0]; exact (cv_iff _).2 (by first | omega | simp_all)
        have hO : rdO s = true := by unfold rdO; rw [hF, decide_eq_true k1, decide_eq_false k3, decide_eq_true hcv]; rfl
        refine sr rfl <| mS rfl <| mI rfl <| Wp rfl <| st_sidx T.u9 rfl rfl (by omega) (by omega) <| fa T.fld68_5 rfl <| Wp rfl <| st_store (v := .int _ _) T.size5 rfl rfl rfl hb274 rfl (Nat.le_of_ble_eq_true rfl) (by simp [Value.oneCell', S]) rfl ?_
        intro w431 c432 hb433; simp only [setVs, setV] at hb433
        clear hb274
        replace HC := HC.then1 c432 ge_b4
        replace hb2 := hb2.tr1 c432 ne_b2_b4
        refine en <| sr rfl <| Wp rfl <| st_loadA (vs := [_, _, _, _, _, _]) T.agg68 rfl (hb433.cells (n := 6) (vs := [_, _, _, _, _, _]) rfl) rfl <| mI rfl <| Wp rfl <| st_addk rfl rfl (by exact wrap64_id (by omega) (by omega)) <| Wp rfl <| st_store (v := .agg ⟨[.bool _, .bool _, .int _ _, .int _ _, .bool _, .int _ _]⟩) T.size68 rfl rfl rfl hb2 rfl (Nat.le_of_ble_eq_true rfl) (by simp [Value.oneCell', S]) rfl ?_
        intro w434 c435 hb436; simp only [setVs, setV] at hb436
        clear hb2
        replace HC := HC.then1 c435 ge_b2
        replace hb433 := hb433.tr1 c435 (Ne.symm ne_b2_b4)
        refine aI rfl <| en <| x_ret <| block_r <| then_r <| ret_many (vs := [.agg ⟨[_, _, _, _, _, _]⟩, .int _ _]) rfl ⟨⟨_, _, rfl, run_loadVarA T.agg68 (hb436.cells (n := 6) rfl) rfl⟩, ⟨rfl, trivial⟩⟩ (Nat.le_of_ble_eq_true rfl) <| ⟨_, _, _, _, _, _, _, rfl, fun h => absurd h (by rw [hO]; decide), fun _ => ⟨I2, rfl, by omega, by rw [h3e, List.drop_drop], ?_⟩, HC⟩
        have e1 : cntW (rdR s) = ((cntN (rdR s) : Nat) : Int) := if_pos k1
        unfold rag rdX
        simp only [hO, hL, hZ, hP, if_true, hb0]
        rw [e1]
        rfl
       ·try simp only [nm, ne_eq] at h4
        refine sr rfl <| Wp rfl <| st_eql rfl rfl <| aB rfl <| en <| x_cond rfl (fun h5 => ?_) (fun h5 => ?_)
        ·try simp only [nm, ne_eq] at h5
         refine x_skip <| then_n <| x_cond rfl (fun h11 => ?_) (fun h11 => ?_)
         rotate_left
         · first | (simp only [nm, ne_eq] at h11; exact absurd (by assumption) h11) | (exfalso; simp_all)
         have hcv : 0 ≤ idx [100, 105, 117, 111, 120, 88, 99, 115, 98] (byte (rd3 s) 0) := by rw [hb0]; exact (cv_iff _).2 (by first | omega | simp_all)
         have hO : rdO s = true := by unfold rdO; rw [hF, decide_eq_true k1, decide_eq_false k3, decide_eq_true hcv]; rfl
         refine sr rfl <| mS rfl <| mI rfl <| Wp rfl <| st_sidx T.u9 rfl rfl (by omega) (by omega) <| fa T.fld68_5 rfl <| Wp rfl <| st_store (v := .int _ _) T.size5 rfl rfl rfl hb274 rfl (Nat.le_of_ble_eq_true rfl) (by simp [Value.oneCell', S]) rfl ?_
         intro w437 c438 hb439; simp only [setVs, setV] at hb439
         clear hb274
         replace HC := HC.then1 c438 ge_b4
         replace hb2 := hb2.tr1 c438 ne_b2_b4
         refine en <| sr rfl <| Wp rfl <| st_loadA (vs := [_, _, _, _, _, _]) T.agg68 rfl (hb439.cells (n := 6) (vs := [_, _, _, _, _, _]) rfl) rfl <| mI rfl <| Wp rfl <| st_addk rfl rfl (by exact wrap64_id (by omega) (by omega)) <| Wp rfl <| st_store (v := .agg ⟨[.bool _, .bool _, .int _ _, .int _ _, .bool _, .int _ _]⟩) T.size68 rfl rfl rfl hb2 rfl (Nat.le_of_ble_eq_true rfl) (by simp [Value.oneCell', S]) rfl ?_
         intro w440 c441 hb442; simp only [setVs, setV] at hb442
         clear hb2
         replace HC := HC.then1 c441 ge_b2
         replace hb439 := hb439.tr1 c441 (Ne.symm ne_b2_b4)
         refine aI rfl <| en <| x_ret <| block_r <| then_r <| ret_many (vs := [.agg ⟨[_, _, _, _, _, _]⟩, .int _ _]) rfl ⟨⟨_, _, rfl, run_loadVarA T.agg68 (hb442.cells (n := 6) rfl) rfl⟩, ⟨rfl, trivial⟩⟩ (Nat.le_of_ble_eq_true rfl) <| ⟨_, _, _, _, _, _, _, rfl, fun h => absurd h (by rw [hO]; decide), fun _ => ⟨I2, rfl, by omega, by rw [h3e, List.drop_drop], ?_⟩, HC⟩
         have e1 : cntW (rdR s) = ((cntN (rdR s) : Nat) : Int) := if_pos k1
         unfold rag rdX
         simp only [hO, hL, hZ, hP, if_true, hb0]
         rw [e1]
         rfl
        ·try simp only [nm, ne_eq] at h5
         refine sr rfl <| Wp rfl <| st_eql rfl rfl <| aB rfl <| en <| x_cond rfl (fun h6 => ?_) (fun h6 => ?_)
         ·try simp only [nm, ne_eq] at h6
          refine x_skip <| then_n <| x_cond rfl (fun h11 => ?_) (fun h11 => ?_)
          rotate_left
          · first | (simp only [nm, ne_eq] at h11; exact absurd (by assumption) h11) | (exfalso; simp_all)
          have hcv : 0 ≤ idx [100, 105, 117, 111, 120, 88, 99, 115, 98] (byte (rd3 s) 0) := by rw [hb0]; exact (cv_iff _).2 (by first | omega | simp_all)
          have hO : rdO s = true := by unfold rdO; rw [hF, decide_eq_true k1, decide_eq_false k3, decide_eq_true hcv]; rfl
          refine sr rfl <| mS rfl <| mI rfl <| Wp rfl <| st_sidx T.u9 rfl rfl (by omega) (by omega) <| fa T.fld68_5 rfl <| Wp rfl <| st_store (v := .int _ _) T.size5 rfl rfl rfl hb274 rfl (Nat.le_of_ble_eq_true rfl) (by simp [Value.oneCell', S]) rfl ?_
          intro w443 c444 hb445; simp only [setVs, setV] at hb445
          clear hb274
          replace HC := HC.then1 c444 ge_b4
          replace hb2 := hb2.tr1 c444 ne_b2_b4
          refine en <| sr rfl <| Wp rfl <| st_loadA (vs := [_, _, _, _, _, _]) T.agg68 rfl (hb445.cells (n := 6) (vs := [_, _, _, _, _, _]) rfl) rfl <| mI rfl <| Wp rfl <| st_addk rfl rfl (by exact wrap64_id (by omega) (by omega)) <| Wp rfl <| st_store (v := .agg ⟨[.bool _, .bool _, .int _ _, .int _ _, .bool _, .int _ _]⟩) T.size68 rfl rfl rfl hb2 rfl (Nat.le_of_ble_eq_true rfl) (by simp [Value.oneCell', S]) rfl ?_
          intro w446 c447 hb448; simp only [setVs, setV] at hb448
          clear hb2
          replace HC := HC.then1 c447 ge_b2
          replace hb445 := hb445.tr1 c447 (Ne.symm ne_b2_b4)
          refine aI rfl <| en <| x_ret <| block_r <| then_r <| ret_many (vs := [.agg ⟨[_, _, _, _, _, _]⟩, .int _ _]) rfl ⟨⟨_, _, rfl, run_loadVarA T.agg68 (hb448.cells (n := 6) rfl) rfl⟩, ⟨rfl, trivial⟩⟩ (Nat.le_of_ble_eq_true rfl) <| ⟨_, _, _, _, _, _, _, rfl, fun h => absurd h (by rw [hO]; decide), fun _ => ⟨I2, rfl, by omega, by rw [h3e, List.drop_drop], ?_⟩, HC⟩
          have e1 : cntW (rdR s) = ((cntN (rdR s) : Nat) : Int) := if_pos k1
          unfold rag rdX
          simp only [hO, hL, hZ, hP, if_true, hb0]
          rw [e1]
          rfl
         ·try simp only [nm, ne_eq] at h6
          refine sr rfl <| Wp rfl <| st_eql rfl rfl <| aB rfl <| en <| x_cond rfl (fun h7 => ?_) (fun h7 => ?_)
          ·try simp only [nm, ne_eq] at h7
           refine x_skip <| then_n <| x_cond rfl (fun h11 => ?_) (fun h11 => ?_)
           rotate_left
           · first | (simp only [nm, ne_eq] at h11; exact absurd (by assumption) h11) | (exfalso; simp_all)
           have hcv : 0 ≤ idx [100, 105, 117, 111, 120, 88, 99, 115, 98] (byte (rd3 s) 0) := by rw [hb0]; exact (cv_iff _).2 (by first | omega | simp_all)
           have hO : rdO s = true := by unfold rdO; rw [hF, decide_eq_true k1, decide_eq_false k3, decide_eq_true hcv]; rfl
           refine sr rfl <| mS rfl <| mI rfl <| Wp rfl <| st_sidx T.u9 rfl rfl (by omega) (by omega) <| fa T.fld68_5 rfl <| Wp rfl <| st_store (v := .int _ _) T.size5 rfl rfl rfl hb274 rfl (Nat.le_of_ble_eq_true rfl) (by simp [Value.oneCell', S]) rfl ?_
           intro w449 c450 hb451; simp only [setVs, setV] at hb451
           clear hb274
           replace HC := HC.then1 c450 ge_b4
           replace hb2 := hb2.tr1 c450 ne_b2_b4
           refine en <| sr rfl <| Wp rfl <| st_loadA (vs := [_, _, _, _, _, _]) T.agg68 rfl (hb451.cells (n := 6) (vs := [_, _, _, _, _, _]) rfl) rfl <| mI rfl <| Wp rfl <| st_addk rfl rfl (by exact wrap64_id (by omega) (by omega)) <| Wp rfl <| st_store (v := .agg ⟨[.bool _, .bool _, .int _ _, .int _ _, .bool _, .int _ _]⟩) T.size68 rfl rfl rfl hb2 rfl (Nat.le_of_ble_eq_true rfl) (by simp [Value.oneCell', S]) rfl ?_
           intro w452 c453 hb454; simp only [setVs, setV] at hb454
           clear hb2
           replace HC := HC.then1 c453 ge_b2
           replace hb451 := hb451.tr1 c453 (Ne.symm ne_b2_b4)
           refine aI rfl <| en <| x_ret <| block_r <| then_r <| ret_many (vs := [.agg ⟨[_, _, _, _, _, _]⟩, .int _ _]) rfl ⟨⟨_, _, rfl, run_loadVarA T.agg68 (hb454.cells (n := 6) rfl) rfl⟩, ⟨rfl, trivial⟩⟩ (Nat.le_of_ble_eq_true rfl) <| ⟨_, _, _, _, _, _, _, rfl, fun h => absurd h (by rw [hO]; decide), fun _ => ⟨I2, rfl, by omega, by rw [h3e, List.drop_drop], ?_⟩, HC⟩
           have e1 : cntW (rdR s) = ((cntN (rdR s) : Nat) : Int) := if_pos k1
           unfold rag rdX
           simp only [hO, hL, hZ, hP, if_true, hb0]
           rw [e1]
           rfl
          ·try simp only [nm, ne_eq] at h7
           refine sr rfl <| Wp rfl <| st_eql rfl rfl <| aB rfl <| en <| x_cond rfl (fun h8 => ?_) (fun h8 => ?_)
           ·try simp only [nm, ne_eq] at h8
            refine x_skip <| then_n <| x_cond rfl (fun h11 => ?_) (fun h11 => ?_)
            rotate_left
            · first | (simp only [nm, ne_eq] at h11; exact absurd (by assumption) h11) | (exfalso; simp_all)
            have hcv : 0 ≤ idx [100, 105, 117, 111, 120, 88, 99, 115, 98] (byte (rd3 s) 0) := by rw [hb0]; exact (cv_iff _).2 (by first | omega | simp_all)
            have hO : rdO s = true := by unfold rdO; rw [hF, decide_eq_true k1, decide_eq_false k3, decide_eq_true hcv]; rfl
            refine sr rfl <| mS rfl <| mI rfl <| Wp rfl <| st_sidx T.u9 rfl rfl (by omega) (by omega) <| fa T.fld68_5 rfl <| Wp rfl <| st_store (v := .int _ _) T.size5 rfl rfl rfl hb274 rfl (Nat.le_of_ble_eq_true rfl) (by simp [Value.oneCell', S]) rfl ?_
            intro w455 c456 hb457; simp only [setVs, setV] at hb457
            clear hb274
            replace HC := HC.then1 c456 ge_b4
            replace hb2 := hb2.tr1 c456 ne_b2_b4
            refine en <| sr rfl <| Wp rfl <| st_loadA (vs := [_, _, _, _, _, _]) T.agg68 rfl (hb457.cells (n := 6) (vs := [_, _, _, _, _, _]) rfl) rfl <| mI rfl <| Wp rfl <| st_addk rfl rfl (by exact wrap64_id (by omega) (by omega)) <| Wp rfl <| st_store (v := .agg ⟨[.bool _, .bool _, .int _ _, .int _ _, .bool _, .int _ _]⟩) T.size68 rfl rfl rfl hb2 rfl (Nat.le_of_ble_eq_true rfl) (by simp [Value.oneCell', S]) rfl ?_
            intro w458 c459 hb460; simp only [setVs, setV] at hb460
            clear hb2
            replace HC := HC.then1 c459 ge_b2
            replace hb457 := hb457.tr1 c459 (Ne.symm ne_b2_b4)
            refine aI rfl <| en <| x_ret <| block_r <| then_r <| ret_many (vs := [.agg ⟨[_, _, _, _, _, _]⟩, .int _ _]) rfl ⟨⟨_, _, rfl, run_loadVarA T.agg68 (hb460.cells (n := 6) rfl) rfl⟩, ⟨rfl, trivial⟩⟩ (Nat.le_of_ble_eq_true rfl) <| ⟨_, _, _, _, _, _, _, rfl, fun h => absurd h (by rw [hO]; decide), fun _ => ⟨I2, rfl, by omega, by rw [h3e, List.drop_drop], ?_⟩, HC⟩
            have e1 : cntW (rdR s) = ((cntN (rdR s) : Nat) : Int) := if_pos k1
            unfold rag rdX
            simp only [hO, hL, hZ, hP, if_true, hb0]
            rw [e1]
            rfl
           ·try simp only [nm, ne_eq] at h8
            refine sr rfl <| Wp rfl <| st_eql rfl rfl <| aB rfl <| en <| x_cond rfl (fun h9 => ?_) (fun h9 => ?_)
            ·try simp only [nm, ne_eq] at h9
             refine x_skip <| then_n <| x_cond rfl (fun h11 => ?_) (fun h11 => ?_)
             rotate_left
             · first | (simp only [nm, ne_eq] at h11; exact absurd (by assumption) h11) | (exfalso; simp_all)
             have hcv : 0 ≤ idx [100, 105, 117, 111, 120, 88, 99, 115, 98] (byte (rd3 s) 0) := by rw [hb0]; exact (cv_iff _).2 (by first | omega | simp_all)
             have hO : rdO s = true := by unfold rdO; rw [hF, decide_eq_true k1, decide_eq_false k3, decide_eq_true hcv]; rfl
             refine sr rfl <| mS rfl <| mI rfl <| Wp rfl <| st_sidx T.u9 rfl rfl (by omega) (by omega) <| fa T.fld68_5 rfl <| Wp rfl <| st_store (v := .int _ _) T.size5 rfl rfl rfl hb274 rfl (Nat.le_of_ble_eq_true rfl) (by simp [Value.oneCell', S]) rfl ?_
             intro w461 c462 hb463; simp only [setVs, setV] at hb463
             clear hb274
             replace HC := HC.then1 c462 ge_b4
             replace hb2 := hb2.tr1 c462 ne_b2_b4
             refine en <| sr rfl <| Wp rfl <| st_loadA (vs := [_, _, _, _, _, _]) T.agg68 rfl (hb463.cells (n := 6) (vs := [_, _, _, _, _, _]) rfl) rfl <| mI rfl <| Wp rfl <| st_addk rfl rfl (by exact wrap64_id (by omega) (by omega)) <| Wp rfl <| st_store (v := .agg ⟨[.bool _, .bool _, .int _ _, .int _ _, .bool _, .int _ _]⟩) T.size68 rfl rfl rfl hb2 rfl (Nat.le_of_ble_eq_true rfl) (by simp [Value.oneCell', S]) rfl ?_
             intro w464 c465 hb466; simp only [setVs, setV] at hb466
             clear hb2
             replace HC := HC.then1 c465 ge_b2
             replace hb463 := hb463.tr1 c465 (Ne.symm ne_b2_b4)
             refine aI rfl <| en <| x_ret <| block_r <| then_r <| ret_many (vs := [.agg ⟨[_, _, _, _, _, _]⟩, .int _ _]) rfl ⟨⟨_, _, rfl, run_loadVarA T.agg68 (hb466.cells (n := 6) rfl) rfl⟩, ⟨rfl, trivial⟩⟩ (Nat.le_of_ble_eq_true rfl) <| ⟨_, _, _, _, _, _, _, rfl, fun h => absurd h (by rw [hO]; decide), fun _ => ⟨I2, rfl, by omega, by rw [h3e, List.drop_drop], ?_⟩, HC⟩
             have e1 : cntW (rdR s) = ((cntN (rdR s) : Nat) : Int) := if_pos k1
             unfold rag rdX
             simp only [hO, hL, hZ, hP, if_true, hb0]
             rw [e1]
             rfl
            ·try simp only [nm, ne_eq] at h9
             refine sr rfl <| Wp rfl <| st_eql rfl rfl <| aB rfl <| en <| x_cond rfl (fun h10 => ?_) (fun h10 => ?_)
             ·try simp only [nm, ne_eq] at h10
              refine x_skip <| then_n <| x_cond rfl (fun h11 => ?_) (fun h11 => ?_)
              rotate_left
              · first | (simp only [nm, ne_eq] at h11; exact absurd (by assumption) h11) | (exfalso; simp_all)
              have hcv : 0 ≤ idx [100, 105, 117, 111, 120, 88, 99, 115, 98] (byte (rd3 s) 0) := by rw [hb0]; exact (cv_iff _).2 (by first | omega | simp_all)
              have hO : rdO s = true := by unfold rdO; rw [hF, decide_eq_true k1, decide_eq_false k3, decide_eq_true hcv]; rfl
              refine sr rfl <| mS rfl <| mI rfl <| Wp rfl <| st_sidx T.u9 rfl rfl (by omega) (by omega) <| fa T.fld68_5 rfl <| Wp rfl <| st_store (v := .int _ _) T.size5 rfl rfl rfl hb274 rfl (Nat.le_of_ble_eq_true rfl) (by simp [Value.oneCell', S]) rfl ?_
              intro w467 c468 hb469; simp only [setVs, setV] at hb469
              clear hb274
              replace HC := HC.then1 c468 ge_b4
              replace hb2 := hb2.tr1 c468 ne_b2_b4
              refine en <| sr rfl <| Wp rfl <| st_loadA (vs := [_, _, _, _, _, _]) T.agg68 rfl (hb469.cells (n := 6) (vs := [_, _, _, _, _, _]) rfl) rfl <| mI rfl <| Wp rfl <| st_addk rfl rfl (by exact wrap64_id (by omega) (by omega)) <| Wp rfl <| st_store (v := .agg ⟨[.bool _, .bool _, .int _ _, .int _ _, .bool _, .int _ _]⟩) T.size68 rfl rfl rfl hb2 rfl (Nat.le_of_ble_eq_true rfl) (by simp [Value.oneCell', S]) rfl ?_
              intro w470 c471 hb472; simp only [setVs, setV] at hb472
              clear hb2
              replace HC := HC.then1 c471 ge_b2
              replace hb469 := hb469.tr1 c471 (Ne.symm ne_b2_b4)
              refine aI rfl <| en <| x_ret <| block_r <| then_r <| ret_many (vs := [.agg ⟨[_, _, _, _, _, _]⟩, .int _ _]) rfl ⟨⟨_, _, rfl, run_loadVarA T.agg68 (hb472.cells (n := 6) rfl) rfl⟩, ⟨rfl, trivial⟩⟩ (Nat.le_of_ble_eq_true rfl) <| ⟨_, _, _, _, _, _, _, rfl, fun h => absurd h (by rw [hO]; decide), fun _ => ⟨I2, rfl, by omega, by rw [h3e, List.drop_drop], ?_⟩, HC⟩
              have e1 : cntW (rdR s) = ((cntN (rdR s) : Nat) : Int) := if_pos k1
              unfold rag rdX
              simp only [hO, hL, hZ, hP, if_true, hb0]
              rw [e1]
              rfl
             ·try simp only [nm, ne_eq] at h10
              refine x_region rfl <| Wp rfl <| st_eql rfl rfl <| aB rfl <| en <| x_cond rfl (fun h11 => ?_) (fun h11 => ?_)
              ·try simp only [nm, ne_eq] at h11
               have hcv : 0 ≤ idx [100, 105, 117, 111, 120, 88, 99, 115, 98] (byte (rd3 s) 0) := by rw [hb0]; exact (cv_iff _).2 (by first | omega | simp_all)
               have hO : rdO s = true := by unfold rdO; rw [hF, decide_eq_true k1, decide_eq_false k3, decide_eq_true hcv]; rfl
               refine sr rfl <| mS rfl <| mI rfl <| Wp rfl <| st_sidx T.u9 rfl rfl (by omega) (by omega) <| fa T.fld68_5 rfl <| Wp rfl <| st_store (v := .int _ _) T.size5 rfl rfl rfl hb274 rfl (Nat.le_of_ble_eq_true rfl) (by simp [Value.oneCell', S]) rfl ?_
               intro w473 c474 hb475; simp only [setVs, setV] at hb475
               clear hb274
               replace HC := HC.then1 c474 ge_b4
               replace hb2 := hb2.tr1 c474 ne_b2_b4
               refine en <| sr rfl <| Wp rfl <| st_loadA (vs := [_, _, _, _, _, _]) T.agg68 rfl (hb475.cells (n := 6) (vs := [_, _, _, _, _, _]) rfl) rfl <| mI rfl <| Wp rfl <| st_addk rfl rfl (by exact wrap64_id (by omega) (by omega)) <| Wp rfl <| st_store (v := .agg ⟨[.bool _, .bool _, .int _ _, .int _ _, .bool _, .int _ _]⟩) T.size68 rfl rfl rfl hb2 rfl (Nat.le_of_ble_eq_true rfl) (by simp [Value.oneCell', S]) rfl ?_
               intro w476 c477 hb478; simp only [setVs, setV] at hb478
               clear hb2
               replace HC := HC.then1 c477 ge_b2
               replace hb475 := hb475.tr1 c477 (Ne.symm ne_b2_b4)
               refine aI rfl <| en <| x_ret <| block_r <| then_r <| ret_many (vs := [.agg ⟨[_, _, _, _, _, _]⟩, .int _ _]) rfl ⟨⟨_, _, rfl, run_loadVarA T.agg68 (hb478.cells (n := 6) rfl) rfl⟩, ⟨rfl, trivial⟩⟩ (Nat.le_of_ble_eq_true rfl) <| ⟨_, _, _, _, _, _, _, rfl, fun h => absurd h (by rw [hO]; decide), fun _ => ⟨I2, rfl, by omega, by rw [h3e, List.drop_drop], ?_⟩, HC⟩
               have e1 : cntW (rdR s) = ((cntN (rdR s) : Nat) : Int) := if_pos k1
               unfold rag rdX
               simp only [hO, hL, hZ, hP, if_true, hb0]
               rw [e1]
               rfl
              ·try simp only [nm, ne_eq] at h11
               have hcv : ¬ 0 ≤ idx [100, 105, 117, 111, 120, 88, 99, 115, 98] (byte (rd3 s) 0) := by rw [hb0]; exact fun h9 => absurd ((cv_iff _).1 h9) (by omega)
               have hO : rdO s = false := by unfold rdO; rw [decide_eq_false hcv]; simp only [Bool.and_false]
               refine x_skip <| block_n <| then_n <| sr rfl <| Wp rfl <| st_loadA (vs := [_, _, _, _, _, _]) T.agg68 rfl (hb274.cells (n := 6) (vs := [_, _, _, _, _, _]) rfl) rfl <| Wp rfl <| st_store (v := .agg ⟨[.bool _, .bool _, .int _ _, .int _ _, .bool _, .int _ _]⟩) T.size68 rfl rfl rfl hb2 rfl (Nat.le_of_ble_eq_true rfl) (by simp [Value.oneCell', S]) rfl ?_
               intro w479 c480 hb481; simp only [setVs, setV] at hb481
               clear hb2
               replace HC := HC.then1 c480 ge_b2
               replace hb274 := hb274.tr1 c480 (Ne.symm ne_b2_b4)
               refine aI rfl <| en <| x_ret <| ret_many (vs := [.agg ⟨[_, _, _, _, _, _]⟩, .int _ _]) rfl ⟨⟨_, _, rfl, run_loadVarA T.agg68 (hb481.cells (n := 6) rfl) rfl⟩, ⟨rfl, trivial⟩⟩ (Nat.le_of_ble_eq_true rfl) <| ⟨_, _, _, _, _, _, _, rfl, fun _ => rfl, fun h => absurd h (by rw [hO]; decide), HC⟩

theorem rcut_spec (x : Spc) (s : Bytes) (w : World) : CallR Tryd.prog 48 #[S s, .agg ⟨[.bool x.left, .bool x.zero, .int .i64 x.width, .int .i64 ((x.prec.toNat : Nat) : Int), .bool (decide (0 ≤ x.prec)), .int .u8 (x.conv.toNat : Int)]⟩] w fun v w' => v = S (if 0 ≤ x.prec then s.take (min x.prec.toNat s.length) else s) ∧ Chg [] w w' := by
 refine callR_of_wp (args := [_, _]) Tryd.func48 rfl (Nat.le_of_ble_eq_true rfl) ?_
 have HC : Chg [] w w := .refl _
 refine sr rfl <| Wp rfl <| st_box (v := .agg ⟨[.bool _, .bool _, .int _ _, .int _ _, .bool _, .int _ _]⟩) (vs := [_, _, _, _, _, _]) rfl rfl ?_
 intro b3 w1 e2 c3 hb4
 have ge_b3 : w.heap.size ≤ b3 := by rw [e2]; exact HC.size
 replace HC := HC.then c3
 clear e2
 refine aS rfl <| en <| x_seq <| sr rfl <| fa T.fld68_4 rfl <| Wp rfl <| st_load1 (v := .bool _) T.one4 rfl (hb4.cell rfl) <| mB rfl <| w_split (d := 7) rfl (fun g5 => ?_) (fun g5 => ?_)
 ·try simp only [nm, ne_eq] at g5
  refine w_yes 2 7 true <| st_fieldAddr T.fld68_3 rfl <| w_yes 2 7 true <| st_load1 (v := .int _ _) T.one3 rfl (hb4.cell rfl) <| w_yes 2 7 true <| st_move (v := S _) rfl <| w_yes 2 7 true <| st_slen (ct := #[9]) T.u9 rfl <| w_yes 2 7 true <| st_lss rfl rfl <| pT rfl rfl <| en <| x_cond rfl (fun h0 => ?_) (fun h0 => ?_)
  ·try simp only [nm, ne_eq] at h0
   refine sr rfl <| mS rfl <| fa T.fld68_3 rfl <| lI T.one3 rfl (hb4.cell rfl) <| Wp rfl <| st_sshi (j := x.prec.toNat) T.u9 rfl ⟨_, rfl⟩ (by omega) <| aS rfl <| en <| x_ret <| then_r <| ret_tmp (v := S _) rfl rfl <| ⟨congrArg S ?_, HC⟩
   first | (rw [if_pos (by omega), show min x.prec.toNat s.length = x.prec.toNat by omega]; done) | (rw [if_neg (by omega)]; done) | (rw [if_pos (by omega), show min x.prec.toNat s.length = s.length by omega, List.take_length])
  ·try simp only [nm, ne_eq] at h0
   refine x_skip <| then_n <| sr rfl <| mS rfl <| aS rfl <| en <| x_ret <| ret_tmp (v := S _) rfl rfl <| ⟨congrArg S ?_, HC⟩
   first | (rw [if_pos (by omega), show min x.prec.toNat s.length = x.prec.toNat by omega]; done) | (rw [if_neg (by omega)]; done) | (rw [if_pos (by omega), show min x.prec.toNat s.length = s.length by omega, List.take_length])
 ·try simp only [nm, ne_eq] at g5
  iterate 5 refine w_no 2 7 true ?_
  refine pF rfl rfl <| en <| x_cond (t := false) rfl (fun h0 => ?_) (fun h0 => ?_)
  · exact absurd h0 (by decide)
  refine x_skip <| then_n <| sr rfl <| mS rfl <| aS rfl <| en <| x_ret <| ret_tmp (v := S _) rfl rfl <| ⟨congrArg S ?_, HC⟩
  first | (rw [if_pos (by omega), show min x.prec.toNat s.length = x.prec.toNat by omega]; done) | (rw [if_neg (by omega)]; done) | (rw [if_pos (by omega), show min x.prec.toNat s.length = s.length by omega, List.take_length])

theorem rpad_spec (x : Spc) (hx : x.Ok) (num : Bool) (sg s : Bytes) (w : World) (hg : sg.length ≤ 1) (hs : s.length ≤ 100000000000000) : CallR Tryd.prog 47 #[S s, S sg, .agg ⟨[.bool x.left, .bool x.zero, .int .i64 x.width, .int .i64 ((x.prec.toNat : Nat) : Int), .bool (decide (0 ≤ x.prec)), .int .u8 (x.conv.toNat : Int)]⟩, .bool num] w fun v w' => v = S (padV x (sg ++ (List.replicate (JN x num sg s) 48 ++ s))) ∧ Chg [] w w' := by
 have hw0 := hx.w0
 have hw1 := hx.w1
 have hp1 := hx.p1
 have hjg := JN_ge x num sg s
 have hjb : JN x num sg s ≤ 1000 := by unfold JN nouV; split; split <;> omega; omega
 refine callR_of_wp (args := [_, _, _, _]) Tryd.func47 rfl (Nat.le_of_ble_eq_true rfl) ?_
 have HC : Chg [] w w := .refl _
 refine sr rfl <| Wp rfl <| st_box (v := .agg ⟨[.bool _, .bool _, .int _ _, .int _ _, .bool _, .int _ _]⟩) (vs := [_, _, _, _, _, _]) rfl rfl ?_
 intro b6 w1 e2 c3 hb4
 have ge_b6 : w.heap.size ≤ b6 := by rw [e2]; exact HC.size
 replace HC := HC.then c3
 clear e2
 refine aS rfl <| en <| x_seq <| x_block <| x_loop (ι := Nat) [0, 9, 10, 11, 12, 13, 14, 15, 16, 17, 18, 19, 20, 21, 22] (fun j => [(0, S (List.replicate j 48 ++ s))]) (fun j W => (j ≤ J1 x num s) ∧ (Chg [] w W) ∧ (Blk W b6 [.bool x.left, .bool x.zero, .int .i64 x.width, .int .i64 ((x.prec.toNat : Nat) : Int), .bool (decide (0 ≤ x.prec)), .int .u8 (x.conv.toNat : Int)] 68)) (fun j => J1 x num s - j) 0 ?_ ?_ ?_
 · exact ⟨rfl, trivial⟩
 ·refine ⟨?_, HC, hb4⟩
  exact Nat.zero_le _
 intro j G6 w5 ⟨hj, HC, hb6⟩
 change wp _ _ _ _ _ (upds (over _ _ G6) [(0, S (List.replicate j 48 ++ s))]) _ _
 have hrl : (List.replicate j (48 : UInt8) ++ s).length = j + s.length := by rw [List.length_append, List.length_replicate]
 refine x_seq <| sr rfl <| mB rfl <| mB rfl <| w_split (d := 10) rfl (fun g7 => ?_) (fun g7 => ?_)
 ·try simp only [nm, ne_eq] at g7
  refine w_yes 1 10 true <| st_fieldAddr T.fld68_4 rfl <| w_yes 1 10 true <| st_load1 (v := .bool _) T.one4 rfl (hb6.cell rfl) <| pT rfl rfl <| mB rfl <| w_split (d := 14) rfl (fun g8 => ?_) (fun g8 => ?_)
  ·try simp only [nm, ne_eq] at g8
   refine w_yes 5 14 true <| st_move (v := S _) rfl <| w_yes 5 14 true <| st_slen (ct := #[9]) T.u9 rfl <| w_yes 5 14 true <| st_fieldAddr T.fld68_3 rfl <| w_yes 5 14 true <| st_load1 (v := .int _ _) T.one3 rfl (hb6.cell rfl) <| w_yes 5 14 true <| st_lss rfl rfl <| pT rfl rfl <| en <| x_cond rfl (fun h0 => ?_) (fun h0 => ?_)
   ·try simp only [nm, ne_eq] at h0
    have h9 := J1_yes (x := x) (num := num) (s := s) (by assumption) (by assumption)
    have hj2 : j + 1 ≤ J1 x num s := by omega
    refine x_skip <| then_n <| x_block <| x_region rfl <| mS rfl <| Wp rfl <| st_sadd rfl rfl (by (simp only [List.length_cons, List.length_nil]; omega)) <| aS rfl <| wops_nil <| block_n <| then_n <| ⟨j + 1, ?_, ?_, rfl, ⟨rfl, trivial⟩, ?_⟩
    ·refine ⟨?_, HC, hb6⟩
     exact (by omega)
    ·show J1 x num s - (j + 1) < J1 x num s - j; omega
    repeat (first | exact agree_upds agree_over rfl | refine agree_upd ?_ rfl | refine agree_upds ?_ rfl | refine agree_over_sub ?_ rfl)
   ·try simp only [nm, ne_eq] at h0
    have hj1 : j = J1 x num s := by have h9 := J1_yes (x := x) (num := num) (s := s) (by first | assumption | (simp_all; done)) (by first | assumption | omega); omega
    subst hj1
    refine x_exit <| then_x <| then_x <| block_x <| then_n <| x_seq <| x_block <| x_loop (ι := Nat) [0, 23, 24, 25, 26, 27, 28, 29, 30, 31, 32, 33, 34, 35, 36, 37, 38, 39, 40, 41, 42, 43, 44, 45, 46, 47, 48, 49] (fun k => [(0, S (List.replicate k 48 ++ s))]) (fun k W => (J1 x num s ≤ k ∧ k ≤ JN x num sg s) ∧ (Chg [] w W) ∧ (Blk W b6 [.bool x.left, .bool x.zero, .int .i64 x.width, .int .i64 ((x.prec.toNat : Nat) : Int), .bool (decide (0 ≤ x.prec)), .int .u8 (x.conv.toNat : Int)] 68)) (fun k => JN x num sg s - k) (J1 x num s) ?_ ?_ ?_
    · exact ⟨rfl, trivial⟩
    ·refine ⟨?_, HC, hb6⟩
     exact ⟨Nat.le_refl _, hjg⟩
    intro k G10 w9 ⟨⟨hk0, hk1⟩, HC, hb6⟩
    change wp _ _ _ _ _ (upds (over _ _ G10) [(0, S (List.replicate k 48 ++ s))]) _ _
    have hrl2 : (List.replicate k (48 : UInt8) ++ s).length = k + s.length := by rw [List.length_append, List.length_replicate]
    refine x_seq <| sr rfl <| mB rfl <| mB rfl <| w_split (d := 24) rfl (fun g11 => ?_) (fun g11 => ?_)
    ·try simp only [nm, ne_eq] at g11
     refine w_yes 1 24 true <| st_fieldAddr T.fld68_1 rfl <| w_yes 1 24 true <| st_load1 (v := .bool _) T.one4 rfl (hb6.cell rfl) <| pT rfl rfl <| mB rfl <| w_split (d := 28) rfl (fun g12 => ?_) (fun g12 => ?_)
     ·try simp only [nm, ne_eq] at g12
      refine w_yes 5 28 true <| st_fieldAddr T.fld68_0 rfl <| w_yes 5 28 true <| st_load1 (v := .bool _) T.one4 rfl (hb6.cell rfl) <| w_yes 5 28 true <| st_not rfl <| pT rfl rfl <| mB rfl <| w_split (d := 33) rfl (fun g13 => ?_) (fun g13 => ?_)
      ·try simp only [nm, ne_eq] at g13
       refine w_yes 10 33 true <| st_fieldAddr T.fld68_4 rfl <| w_yes 10 33 true <| st_load1 (v := .bool _) T.one4 rfl (hb6.cell rfl) <| w_yes 10 33 true <| st_not rfl <| pT rfl rfl <| mB rfl <| w_split (d := 38) rfl (fun g14 => ?_) (fun g14 => ?_)
       ·try simp only [nm, ne_eq] at g14
        refine w_yes 15 38 true <| st_move (v := S _) rfl <| w_yes 15 38 true <| st_slen (ct := #[9]) T.u9 rfl <| w_yes 15 38 true <| st_move (v := S _) rfl <| w_yes 15 38 true <| st_slen (ct := #[9]) T.u9 rfl <| w_yes 15 38 true <| st_addk rfl rfl (by exact wrap64_id (by omega) (by omega)) <| w_yes 15 38 true <| st_fieldAddr T.fld68_2 rfl <| w_yes 15 38 true <| st_load1 (v := .int _ _) T.one3 rfl (hb6.cell rfl) <| w_yes 15 38 true <| st_lss rfl rfl <| pT rfl rfl <| en <| x_cond rfl (fun h1 => ?_) (fun h1 => ?_)
        ·try simp only [nm, ne_eq] at h1
         have h9 := JN_yes (x := x) (num := num) (sg := sg) (s := s) (by first | assumption | simp_all) (by first | assumption | simp_all) (by first | assumption | simp_all) (by first | assumption | simp_all)
         have hk2 : k + 1 ≤ JN x num sg s := by omega
         refine x_skip <| then_n <| x_block <| x_region rfl <| mS rfl <| Wp rfl <| st_sadd rfl rfl (by (simp only [List.length_cons, List.length_nil]; omega)) <| aS rfl <| wops_nil <| block_n <| then_n <| ⟨k + 1, ?_, ?_, rfl, ⟨rfl, trivial⟩, ?_⟩
         ·refine ⟨?_, HC, hb6⟩
          exact ⟨by omega, by omega⟩
         ·show JN x num sg s - (k + 1) < JN x num sg s - k; omega
         repeat (first | exact agree_upds agree_over rfl | refine agree_upd ?_ rfl | refine agree_upds ?_ rfl | refine agree_over_sub ?_ rfl)
        ·try simp only [nm, ne_eq] at h1
         have hk3 : k = JN x num sg s := by have h9 := JN_yes (x := x) (num := num) (sg := sg) (s := s) (by first | assumption | simp_all) (by first | assumption | simp_all) (by first | assumption | simp_all) (by first | assumption | simp_all); omega
         subst hk3
         obtain ⟨s0, hs0⟩ : ∃ s0, s0 = (sg ++ (List.replicate (JN x num sg s) 48 ++ s)) := ⟨_, rfl⟩
         have hs0l : s0.length = sg.length + (JN x num sg s + s.length) := by rw [hs0, List.length_append, hrl2]
         refine x_exit <| then_x <| then_x <| block_x <| then_n <| sr rfl <| mS rfl <| mS rfl <| Wp rfl <| st_sadd rfl rfl (by omega) <| aS rfl <| en <| x_seq <| x_block ?_
         rw [show (sg ++ (List.replicate (JN x num sg s) 48 ++ s)) = padI x s0 0 from by rw [padI_0, hs0]]
         refine x_loop (ι := Nat) [0, 53, 54, 55, 56, 57, 58, 59, 60, 61, 62, 63] (fun i => [(0, S (padI x s0 i))]) (fun i W => (i ≤ (x.width - (s0.length : Int)).toNat) ∧ (Chg [] w W) ∧ (Blk W b6 [.bool x.left, .bool x.zero, .int .i64 x.width, .int .i64 ((x.prec.toNat : Nat) : Int), .bool (decide (0 ≤ x.prec)), .int .u8 (x.conv.toNat : Int)] 68)) (fun i => (x.width - (s0.length : Int)).toNat - i) 0 ?_ ?_ ?_
         · exact ⟨rfl, trivial⟩
         ·refine ⟨?_, HC, hb6⟩
          exact Nat.zero_le _
         intro i G16 w15 ⟨hi, HC, hb6⟩
         change wp _ _ _ _ _ (upds (over _ _ G16) [(0, S (padI x s0 i))]) _ _
         have hpl := padI_len x s0 i
         refine x_seq <| sr rfl <| mS rfl <| Wp rfl <| st_slen (ct := #[9]) T.u9 rfl <| fa T.fld68_2 rfl <| lI T.one3 rfl (hb6.cell rfl) <| Wp rfl <| st_lss rfl rfl <| en <| x_cond rfl (fun h2 => ?_) (fun h2 => ?_)
         ·try simp only [nm, ne_eq] at h2
          refine x_skip <| then_n <| x_block <| sr rfl <| fa T.fld68_0 rfl <| Wp rfl <| st_load1 (v := .bool _) T.one4 rfl (hb6.cell rfl) <| en <| x_cond rfl (fun h3 => ?_) (fun h3 => ?_)
          ·try simp only [nm, ne_eq] at h3
           refine x_region rfl <| mS rfl <| Wp rfl <| st_sadd rfl rfl (by (simp only [List.length_cons, List.length_nil]; omega)) <| aS rfl <| wops_nil <| block_n <| then_n <| ⟨i + 1, ?_, ?_, rfl, ⟨(congrArg S (padI_l (by first | assumption | simp_all))), trivial⟩, ?_⟩
           ·refine ⟨?_, HC, hb6⟩
            exact (by omega)
           ·show (x.width - (s0.length : Int)).toNat - (i + 1) < (x.width - (s0.length : Int)).toNat - i; omega
           repeat (first | exact agree_upds agree_over rfl | refine agree_upd ?_ rfl | refine agree_upds ?_ rfl | refine agree_over_sub ?_ rfl)
          ·try simp only [nm, ne_eq] at h3
           refine x_region rfl <| mS rfl <| Wp rfl <| st_sadd rfl rfl (by (simp only [List.length_cons, List.length_nil]; omega)) <| aS rfl <| wops_nil <| block_n <| then_n <| ⟨i + 1, ?_, ?_, rfl, ⟨(congrArg S (padI_r (by first | assumption | simp_all))), trivial⟩, ?_⟩
           ·refine ⟨?_, HC, hb6⟩
            exact (by omega)
           ·show (x.width - (s0.length : Int)).toNat - (i + 1) < (x.width - (s0.length : Int)).toNat - i; omega
           repeat (first | exact agree_upds agree_over rfl | refine agree_upd ?_ rfl | refine agree_upds ?_ rfl | refine agree_over_sub ?_ rfl)
         ·try simp only [nm, ne_eq] at h2
          have hi2 : i = (x.width - (s0.length : Int)).toNat := by omega
          refine x_exit <| then_x <| then_x <| block_x <| then_n <| sr rfl <| mS rfl <| aS rfl <| en <| x_ret <| ret_tmp (v := S _) rfl rfl ?_
          rw [hi2]
          refine ⟨congrArg S ?_, HC⟩
          rw [padI_0]; rfl
       ·try simp only [nm, ne_eq] at g14
        iterate 8 refine w_no 15 38 true ?_
        refine pF rfl rfl <| en <| x_cond (t := false) rfl (fun h1 => ?_) (fun h1 => ?_)
        · exact absurd h1 (by decide)
        have hk3 : k = JN x num sg s := by have h9 := JN_no (x := x) (num := num) (sg := sg) (s := s) (fun h9 => absurd h9.2.2.2 (by first | assumption | omega | (simp_all; done))); omega
        subst hk3
        obtain ⟨s0, hs0⟩ : ∃ s0, s0 = (sg ++ (List.replicate (JN x num sg s) 48 ++ s)) := ⟨_, rfl⟩
        have hs0l : s0.length = sg.length + (JN x num sg s + s.length) := by rw [hs0, List.length_append, hrl2]
        refine x_exit <| then_x <| then_x <| block_x <| then_n <| sr rfl <| mS rfl <| mS rfl <| Wp rfl <| st_sadd rfl rfl (by omega) <| aS rfl <| en <| x_seq <| x_block ?_
        rw [show (sg ++ (List.replicate (JN x num sg s) 48 ++ s)) = padI x s0 0 from by rw [padI_0, hs0]]
        refine x_loop (ι := Nat) [0, 53, 54, 55, 56, 57, 58, 59, 60, 61, 62, 63] (fun i => [(0, S (padI x s0 i))]) (fun i W => (i ≤ (x.width - (s0.length : Int)).toNat) ∧ (Chg [] w W) ∧ (Blk W b6 [.bool x.left, .bool x.zero, .int .i64 x.width, .int .i64 ((x.prec.toNat : Nat) : Int), .bool (decide (0 ≤ x.prec)), .int .u8 (x.conv.toNat : Int)] 68)) (fun i => (x.width - (s0.length : Int)).toNat - i) 0 ?_ ?_ ?_
        · exact ⟨rfl, trivial⟩
        ·refine ⟨?_, HC, hb6⟩
         exact Nat.zero_le _
        intro i G18 w17 ⟨hi, HC, hb6⟩
        change wp _ _ _ _ _ (upds (over _ _ G18) [(0, S (padI x s0 i))]) _ _
        have hpl := padI_len x s0 i
        refine x_seq <| sr rfl <| mS rfl <| Wp rfl <| st_slen (ct := #[9]) T.u9 rfl <| fa T.fld68_2 rfl <| lI T.one3 rfl (hb6.cell rfl) <| Wp rfl <| st_lss rfl rfl <| en <| x_cond rfl (fun h2 => ?_) (fun h2 => ?_)
        ·try simp only [nm, ne_eq] at h2
         refine x_skip <| then_n <| x_block <| sr rfl <| fa T.fld68_0 rfl <| Wp rfl <| st_load1 (v := .bool _) T.one4 rfl (hb6.cell rfl) <| en <| x_cond rfl (fun h3 => ?_) (fun h3 => ?_)
         ·try simp only [nm, ne_eq] at h3
          refine x_region rfl <| mS rfl <| Wp rfl <| st_sadd rfl rfl (by (simp only [List.length_cons, List.length_nil]; omega)) <| aS rfl <| wops_nil <| block_n <| then_n <| ⟨i + 1, ?_, ?_, rfl, ⟨(congrArg S (padI_l (by first | assumption | simp_all))), trivial⟩, ?_⟩
          ·refine ⟨?_, HC, hb6⟩
           exact (by omega)
          ·show (x.width - (s0.length : Int)).toNat - (i + 1) < (x.width - (s0.length : Int)).toNat - i; omega
          repeat (first | exact agree_upds agree_over rfl | refine agree_upd ?_ rfl | refine agree_upds ?_ rfl | refine agree_over_sub ?_ rfl)
         ·try simp only [nm, ne_eq] at h3
          refine x_region rfl <| mS rfl <| Wp rfl <| st_sadd rfl rfl (by (simp only [List.length_cons, List.length_nil]; omega)) <| aS rfl <| wops_nil <| block_n <| then_n <| ⟨i + 1, ?_, ?_, rfl, ⟨(congrArg S (padI_r (by first | assumption | simp_all))), trivial⟩, ?_⟩
          ·refine ⟨?_, HC, hb6⟩
           exact (by omega)
          ·show (x.width - (s0.length : Int)).toNat - (i + 1) < (x.width - (s0.length : Int)).toNat - i; omega
          repeat (first | exact agree_upds agree_over rfl | refine agree_upd ?_ rfl | refine agree_upds ?_ rfl | refine agree_over_sub ?_ rfl)
        ·try simp only [nm, ne_eq] at h2
         have hi2 : i = (x.width - (s0.length : Int)).toNat := by omega
         refine x_exit <| then_x <| then_x <| block_x <| then_n <| sr rfl <| mS rfl <| aS rfl <| en <| x_ret <| ret_tmp (v := S _) rfl rfl ?_
         rw [hi2]
         refine ⟨congrArg S ?_, HC⟩
         rw [padI_0]; rfl
      ·try simp only [nm, ne_eq] at g13
       iterate 3 refine w_no 10 33 true ?_
       refine pF rfl rfl <| mB rfl ?_
       iterate 8 refine w_no 15 38 true ?_
       refine pF rfl rfl <| en <| x_cond (t := false) rfl (fun h1 => ?_) (fun h1 => ?_)
       · exact absurd h1 (by decide)
       have hk3 : k = JN x num sg s := by have h9 := JN_no (x := x) (num := num) (sg := sg) (s := s) (fun h9 => absurd h9.2.2.1 (by first | assumption | omega | (simp_all; done))); omega
       subst hk3
       obtain ⟨s0, hs0⟩ : ∃ s0, s0 = (sg ++ (List.replicate (JN x num sg s) 48 ++ s)) := ⟨_, rfl⟩
       have hs0l : s0.length = sg.length + (JN x num sg s + s.length) := by rw [hs0, List.length_append, hrl2]
       refine x_exit <| then_x <| then_x <| block_x <| then_n <| sr rfl <| mS rfl <| mS rfl <| Wp rfl <| st_sadd rfl rfl (by omega) <| aS rfl <| en <| x_seq <| x_block ?_
       rw [show (sg ++ (List.replicate (JN x num sg s) 48 ++ s)) = padI x s0 0 from by rw [padI_0, hs0]]
       refine x_loop (ι := Nat) [0, 53, 54, 55, 56, 57, 58, 59, 60, 61, 62, 63] (fun i => [(0, S (padI x s0 i))]) (fun i W => (i ≤ (x.width - (s0.length : Int)).toNat) ∧ (Chg [] w W) ∧ (Blk W b6 [.bool x.left, .bool x.zero, .int .i64 x.width, .int .i64 ((x.prec.toNat : Nat) : Int), .bool (decide (0 ≤ x.prec)), .int .u8 (x.conv.toNat : Int)] 68)) (fun i => (x.width - (s0.length : Int)).toNat - i) 0 ?_ ?_ ?_
       · exact ⟨rfl, trivial⟩
       ·refine ⟨?_, HC, hb6⟩
        exact Nat.zero_le _
       intro i G20 w19 ⟨hi, HC, hb6⟩
       change wp _ _ _ _ _ (upds (over _ _ G20) [(0, S (padI x s0 i))]) _ _
       have hpl := padI_len x s0 i
       refine x_seq <| sr rfl <| mS rfl <| Wp rfl <| st_slen (ct := #[9]) T.u9 rfl <| fa T.fld68_2 rfl <| lI T.one3 rfl (hb6.cell rfl) <| Wp rfl <| st_lss rfl rfl <| en <| x_cond rfl (fun h2 => ?_) (fun h2 => ?_)
       ·try simp only [nm, ne_eq] at h2
        refine x_skip <| then_n <| x_block <| sr rfl <| fa T.fld68_0 rfl <| Wp rfl <| st_load1 (v := .bool _) T.one4 rfl (hb6.cell rfl) <| en <| x_cond rfl (fun h3 => ?_) (fun h3 => ?_)
        ·try simp only [nm, ne_eq] at h3
         refine x_region rfl <| mS rfl <| Wp rfl <| st_sadd rfl rfl (by (simp only [List.length_cons, List.length_nil]; omega)) <| aS rfl <| wops_nil <| block_n <| then_n <| ⟨i + 1, ?_, ?_, rfl, ⟨(congrArg S (padI_l (by first | assumption | simp_all))), trivial⟩, ?_⟩
         ·refine ⟨?_, HC, hb6⟩
          exact (by omega)
         ·show (x.width - (s0.length : Int)).toNat - (i + 1) < (x.width - (s0.length : Int)).toNat - i; omega
         repeat (first | exact agree_upds agree_over rfl | refine agree_upd ?_ rfl | refine agree_upds ?_ rfl | refine agree_over_sub ?_ rfl)
        ·try simp only [nm, ne_eq] at h3
         refine x_region rfl <| mS rfl <| Wp rfl <| st_sadd rfl rfl (by (simp only [List.length_cons, List.length_nil]; omega)) <| aS rfl <| wops_nil <| block_n <| then_n <| ⟨i + 1, ?_, ?_, rfl, ⟨(congrArg S (padI_r (by first | assumption | simp_all))), trivial⟩, ?_⟩
         ·refine ⟨?_, HC, hb6⟩
          exact (by omega)
         ·show (x.width - (s0.length : Int)).toNat - (i + 1) < (x.width - (s0.length : Int)).toNat - i; omega
         repeat (first | exact agree_upds agree_over rfl | refine agree_upd ?_ rfl | refine agree_upds ?_ rfl | refine agree_over_sub ?_ rfl)
       ·try simp only [nm, ne_eq] at h2
        have hi2 : i = (x.width - (s0.length : Int)).toNat := by omega
        refine x_exit <| then_x <| then_x <| block_x <| then_n <| sr rfl <| mS rfl <| aS rfl <| en <| x_ret <| ret_tmp (v := S _) rfl rfl ?_
        rw [hi2]
        refine ⟨congrArg S ?_, HC⟩
        rw [padI_0]; rfl
     ·try simp only [nm, ne_eq] at g12
      iterate 3 refine w_no 5 28 true ?_
      refine pF rfl rfl <| mB rfl ?_
      iterate 3 refine w_no 10 33 true ?_
      refine pF rfl rfl <| mB rfl ?_
      iterate 8 refine w_no 15 38 true ?_
      refine pF rfl rfl <| en <| x_cond (t := false) rfl (fun h1 => ?_) (fun h1 => ?_)
      · exact absurd h1 (by decide)
      have hk3 : k = JN x num sg s := by have h9 := JN_no (x := x) (num := num) (sg := sg) (s := s) (fun h9 => absurd h9.2.1 (by first | assumption | omega | (simp_all; done))); omega
      subst hk3
      obtain ⟨s0, hs0⟩ : ∃ s0, s0 = (sg ++ (List.replicate (JN x num sg s) 48 ++ s)) := ⟨_, rfl⟩
      have hs0l : s0.length = sg.length + (JN x num sg s + s.length) := by rw [hs0, List.length_append, hrl2]
      refine x_exit <| then_x <| then_x <| block_x <| then_n <| sr rfl <| mS rfl <| mS rfl <| Wp rfl <| st_sadd rfl rfl (by omega) <| aS rfl <| en <| x_seq <| x_block ?_
      rw [show (sg ++ (List.replicate (JN x num sg s) 48 ++ s)) = padI x s0 0 from by rw [padI_0, hs0]]
      refine x_loop (ι := Nat) [0, 53, 54, 55, 56, 57, 58, 59, 60, 61, 62, 63] (fun i => [(0, S (padI x s0 i))]) (fun i W => (i ≤ (x.width - (s0.length : Int)).toNat) ∧ (Chg [] w W) ∧ (Blk W b6 [.bool x.left, .bool x.zero, .int .i64 x.width, .int .i64 ((x.prec.toNat : Nat) : Int), .bool (decide (0 ≤ x.prec)), .int .u8 (x.conv.toNat : Int)] 68)) (fun i => (x.width - (s0.length : Int)).toNat - i) 0 ?_ ?_ ?_
      · exact ⟨rfl, trivial⟩
      ·refine ⟨?_, HC, hb6⟩
       exact Nat.zero_le _
      intro i G22 w21 ⟨hi, HC, hb6⟩
      change wp _ _ _ _ _ (upds (over _ _ G22) [(0, S (padI x s0 i))]) _ _
      have hpl := padI_len x s0 i
      refine x_seq <| sr rfl <| mS rfl <| Wp rfl <| st_slen (ct := #[9]) T.u9 rfl <| fa T.fld68_2 rfl <| lI T.one3 rfl (hb6.cell rfl) <| Wp rfl <| st_lss rfl rfl <| en <| x_cond rfl (fun h2 => ?_) (fun h2 => ?_)
      ·try simp only [nm, ne_eq] at h2
       refine x_skip <| then_n <| x_block <| sr rfl <| fa T.fld68_0 rfl <| Wp rfl <| st_load1 (v := .bool _) T.one4 rfl (hb6.cell rfl) <| en <| x_cond rfl (fun h3 => ?_) (fun h3 => ?_)
       ·try simp only [nm, ne_eq] at h3
        refine x_region rfl <| mS rfl <| Wp rfl <| st_sadd rfl rfl (by (simp only [List.length_cons, List.length_nil]; omega)) <| aS rfl <| wops_nil <| block_n <| then_n <| ⟨i + 1, ?_, ?_, rfl, ⟨(congrArg S (padI_l (by first | assumption | simp_all))), trivial⟩, ?_⟩
        ·refine ⟨?_, HC, hb6⟩
         exact (by omega)
        ·show (x.width - (s0.length : Int)).toNat - (i + 1) < (x.width - (s0.length : Int)).toNat - i; omega
        repeat (first | exact agree_upds agree_over rfl | refine agree_upd ?_ rfl | refine agree_upds ?_ rfl | refine agree_over_sub ?_ rfl)
       ·try simp only [nm, ne_eq] at h3
        refine x_region rfl <| mS rfl <| Wp rfl <| st_sadd rfl rfl (by (simp only [List.length_cons, List.length_nil]; omega)) <| aS rfl <| wops_nil <| block_n <| then_n <| ⟨i + 1, ?_, ?_, rfl, ⟨(congrArg S (padI_r (by first | assumption | simp_all))), trivial⟩, ?_⟩
        ·refine ⟨?_, HC, hb6⟩
         exact (by omega)
        ·show (x.width - (s0.length : Int)).toNat - (i + 1) < (x.width - (s0.length : Int)).toNat - i; omega
        repeat (first | exact agree_upds agree_over rfl | refine agree_upd ?_ rfl | refine agree_upds ?_ rfl | refine agree_over_sub ?_ rfl)
      ·try simp only [nm, ne_eq] at h2
       have hi2 : i = (x.width - (s0.length : Int)).toNat := by omega
       refine x_exit <| then_x <| then_x <| block_x <| then_n <| sr rfl <| mS rfl <| aS rfl <| en <| x_ret <| ret_tmp (v := S _) rfl rfl ?_
       rw [hi2]
       refine ⟨congrArg S ?_, HC⟩
       rw [padI_0]; rfl
    ·try simp only [nm, ne_eq] at g11
     refine w_no 1 24 true <| w_no 1 24 true <| pF rfl rfl <| mB rfl ?_
     iterate 3 refine w_no 5 28 true ?_
     refine pF rfl rfl <| mB rfl ?_
     iterate 3 refine w_no 10 33 true ?_
     refine pF rfl rfl <| mB rfl ?_
     iterate 8 refine w_no 15 38 true ?_
     refine pF rfl rfl <| en <| x_cond (t := false) rfl (fun h1 => ?_) (fun h1 => ?_)
     · exact absurd h1 (by decide)
     have hk3 : k = JN x num sg s := by have h9 := JN_no (x := x) (num := num) (sg := sg) (s := s) (fun h9 => absurd h9.1 (by first | assumption | omega | (simp_all; done))); omega
     subst hk3
     obtain ⟨s0, hs0⟩ : ∃ s0, s0 = (sg ++ (List.replicate (JN x num sg s) 48 ++ s)) := ⟨_, rfl⟩
     have hs0l : s0.length = sg.length + (JN x num sg s + s.length) := by rw [hs0, List.length_append, hrl2]
     refine x_exit <| then_x <| then_x <| block_x <| then_n <| sr rfl <| mS rfl <| mS rfl <| Wp rfl <| st_sadd rfl rfl (by omega) <| aS rfl <| en <| x_seq <| x_block ?_
     rw [show (sg ++ (List.replicate (JN x num sg s) 48 ++ s)) = padI x s0 0 from by rw [padI_0, hs0]]
     refine x_loop (ι := Nat) [0, 53, 54, 55, 56, 57, 58, 59, 60, 61, 62, 63] (fun i => [(0, S (padI x s0 i))]) (fun i W => (i ≤ (x.width - (s0.length : Int)).toNat) ∧ (Chg [] w W) ∧ (Blk W b6 [.bool x.left, .bool x.zero, .int .i64 x.width, .int .i64 ((x.prec.toNat : Nat) : Int), .bool (decide (0 ≤ x.prec)), .int .u8 (x.conv.toNat : Int)] 68)) (fun i => (x.width - (s0.length : Int)).toNat - i) 0 ?_ ?_ ?_
     · exact ⟨rfl, trivial⟩
     ·refine ⟨?_, HC, hb6⟩
      exact Nat.zero_le _
     intro i G24 w23 ⟨hi, HC, hb6⟩
     change wp _ _ _ _ _ (upds (over _ _ G24) [(0, S (padI x s0 i))]) _ _
     have hpl := padI_len x s0 i
     refine x_seq <| sr rfl <| mS rfl <| Wp rfl <| st_slen (ct := #[9]) T.u9 rfl <| fa T.fld68_2 rfl <| lI T.one3 rfl (hb6.cell rfl) <| Wp rfl <| st_lss rfl rfl <| en <| x_cond rfl (fun h2 => ?_) (fun h2 => ?_)
     ·try simp only [nm, ne_eq] at h2
      refine x_skip <| then_n <| x_block <| sr rfl <| fa T.fld68_0 rfl <| Wp rfl <| st_load1 (v := .bool _) T.one4 rfl (hb6.cell rfl) <| en <| x_cond rfl (fun h3 => ?_) (fun h3 => ?_)
      ·try simp only [nm, ne_eq] at h3
       refine x_region rfl <| mS rfl <| Wp rfl <| st_sadd rfl rfl (by (simp only [List.length_cons, List.length_nil]; omega)) <| aS rfl <| wops_nil <| block_n <| then_n <| ⟨i + 1, ?_, ?_, rfl, ⟨(congrArg S (padI_l (by first | assumption | simp_all))), trivial⟩, ?_⟩
       ·refine ⟨?_, HC, hb6⟩
        exact (by omega)
       ·show (x.width - (s0.length : Int)).toNat - (i + 1) < (x.width - (s0.length : Int)).toNat - i; omega
       repeat (first | exact agree_upds agree_over rfl | refine agree_upd ?_ rfl | refine agree_upds ?_ rfl | refine agree_over_sub ?_ rfl)
      ·try simp only [nm, ne_eq] at h3
       refine x_region rfl <| mS rfl <| Wp rfl <| st_sadd rfl rfl (by (simp only [List.length_cons, List.length_nil]; omega)) <| aS rfl <| wops_nil <| block_n <| then_n <| ⟨i + 1, ?_, ?_, rfl, ⟨(congrArg S (padI_r (by first | assumption | simp_all))), trivial⟩, ?_⟩
       ·refine ⟨?_, HC, hb6⟩
        exact (by omega)
       ·show (x.width - (s0.length : Int)).toNat - (i + 1) < (x.width - (s0.length : Int)).toNat - i; omega
       repeat (first | exact agree_upds agree_over rfl | refine agree_upd ?_ rfl | refine agree_upds ?_ rfl | refine agree_over_sub ?_ rfl)
     ·try simp only [nm, ne_eq] at h2
      have hi2 : i = (x.width - (s0.length : Int)).toNat := by omega
      refine x_exit <| then_x <| then_x <| block_x <| then_n <| sr rfl <| mS rfl <| aS rfl <| en <| x_ret <| ret_tmp (v := S _) rfl rfl ?_
      rw [hi2]
      refine ⟨congrArg S ?_, HC⟩
      rw [padI_0]; rfl
  ·try simp only [nm, ne_eq] at g8
   iterate 5 refine w_no 5 14 true ?_
   refine pF rfl rfl <| en <| x_cond (t := false) rfl (fun h0 => ?_) (fun h0 => ?_)
   · exact absurd h0 (by decide)
   have hj1 : j = J1 x num s := by have h9 := J1_no (x := x) (num := num) (s := s) (fun h9 => absurd h9.2 (by first | assumption | omega)); omega
   subst hj1
   refine x_exit <| then_x <| then_x <| block_x <| then_n <| x_seq <| x_block <| x_loop (ι := Nat) [0, 23, 24, 25, 26, 27, 28, 29, 30, 31, 32, 33, 34, 35, 36, 37, 38, 39, 40, 41, 42, 43, 44, 45, 46, 47, 48, 49] (fun k => [(0, S (List.replicate k 48 ++ s))]) (fun k W => (J1 x num s ≤ k ∧ k ≤ JN x num sg s) ∧ (Chg [] w W) ∧ (Blk W b6 [.bool x.left, .bool x.zero, .int .i64 x.width, .int .i64 ((x.prec.toNat : Nat) : Int), .bool (decide (0 ≤ x.prec)), .int .u8 (x.conv.toNat : Int)] 68)) (fun k => JN x num sg s - k) (J1 x num s) ?_ ?_ ?_
   · exact ⟨rfl, trivial⟩
   ·refine ⟨?_, HC, hb6⟩
    exact ⟨Nat.le_refl _, hjg⟩
   intro k G26 w25 ⟨⟨hk0, hk1⟩, HC, hb6⟩
   change wp _ _ _ _ _ (upds (over _ _ G26) [(0, S (List.replicate k 48 ++ s))]) _ _
   have hrl2 : (List.replicate k (48 : UInt8) ++ s).length = k + s.length := by rw [List.length_append, List.length_replicate]
   refine x_seq <| sr rfl <| mB rfl <| mB rfl <| w_split (d := 24) rfl (fun g27 => ?_) (fun g27 => ?_)
   ·try simp only [nm, ne_eq] at g27
    refine w_yes 1 24 true <| st_fieldAddr T.fld68_1 rfl <| w_yes 1 24 true <| st_load1 (v := .bool _) T.one4 rfl (hb6.cell rfl) <| pT rfl rfl <| mB rfl <| w_split (d := 28) rfl (fun g28 => ?_) (fun g28 => ?_)
    ·try simp only [nm, ne_eq] at g28
     refine w_yes 5 28 true <| st_fieldAddr T.fld68_0 rfl <| w_yes 5 28 true <| st_load1 (v := .bool _) T.one4 rfl (hb6.cell rfl) <| w_yes 5 28 true <| st_not rfl <| pT rfl rfl <| mB rfl <| w_split (d := 33) rfl (fun g29 => ?_) (fun g29 => ?_)
     ·try simp only [nm, ne_eq] at g29
      refine w_yes 10 33 true <| st_fieldAddr T.fld68_4 rfl <| w_yes 10 33 true <| st_load1 (v := .bool _) T.one4 rfl (hb6.cell rfl) <| w_yes 10 33 true <| st_not rfl <| pT rfl rfl <| mB rfl <| w_split (d := 38) rfl (fun g30 => ?_) (fun g30 => ?_)
      ·try simp only [nm, ne_eq] at g30
       refine w_yes 15 38 true <| st_move (v := S _) rfl <| w_yes 15 38 true <| st_slen (ct := #[9]) T.u9 rfl <| w_yes 15 38 true <| st_move (v := S _) rfl <| w_yes 15 38 true <| st_slen (ct := #[9]) T.u9 rfl <| w_yes 15 38 true <| st_addk rfl rfl (by exact wrap64_id (by omega) (by omega)) <| w_yes 15 38 true <| st_fieldAddr T.fld68_2 rfl <| w_yes 15 38 true <| st_load1 (v := .int _ _) T.one3 rfl (hb6.cell rfl) <| w_yes 15 38 true <| st_lss rfl rfl <| pT rfl rfl <| en <| x_cond rfl (fun h1 => ?_) (fun h1 => ?_)
       ·try simp only [nm, ne_eq] at h1
        have h9 := JN_yes (x := x) (num := num) (sg := sg) (s := s) (by first | assumption | simp_all) (by first | assumption | simp_all) (by first | assumption | simp_all) (by first | assumption | simp_all)
        have hk2 : k + 1 ≤ JN x num sg s := by omega
        refine x_skip <| then_n <| x_block <| x_region rfl <| mS rfl <| Wp rfl <| st_sadd rfl rfl (by (simp only [List.length_cons, List.length_nil]; omega)) <| aS rfl <| wops_nil <| block_n <| then_n <| ⟨k + 1, ?_, ?_, rfl, ⟨rfl, trivial⟩, ?_⟩
        ·refine ⟨?_, HC, hb6⟩
         exact ⟨by omega, by omega⟩
        ·show JN x num sg s - (k + 1) < JN x num sg s - k; omega
        repeat (first | exact agree_upds agree_over rfl | refine agree_upd ?_ rfl | refine agree_upds ?_ rfl | refine agree_over_sub ?_ rfl)
       ·try simp only [nm, ne_eq] at h1
        have hk3 : k = JN x num sg s := by have h9 := JN_yes (x := x) (num := num) (sg := sg) (s := s) (by first | assumption | simp_all) (by first | assumption | simp_all) (by first | assumption | simp_all) (by first | assumption | simp_all); omega
        subst hk3
        obtain ⟨s0, hs0⟩ : ∃ s0, s0 = (sg ++ (List.replicate (JN x num sg s) 48 ++ s)) := ⟨_, rfl⟩
        have hs0l : s0.length = sg.length + (JN x num sg s + s.length) := by rw [hs0, List.length_append, hrl2]
        refine x_exit <| then_x <| then_x <| block_x <| then_n <| sr rfl <| mS rfl <| mS rfl <| Wp rfl <| st_sadd rfl rfl (by omega) <| aS rfl <| en <| x_seq <| x_block ?_
        rw [show (sg ++ (List.replicate (JN x num sg s) 48 ++ s)) = padI x s0 0 from by rw [padI_0, hs0]]
        refine x_loop (ι := Nat) [0, 53, 54, 55, 56, 57, 58, 59, 60, 61, 62, 63] (fun i => [(0, S (padI x s0 i))]) (fun i W => (i ≤ (x.width - (s0.length : Int)).toNat) ∧ (Chg [] w W) ∧ (Blk W b6 [.bool x.left, .bool x.zero, .int .i64 x.width, .int .i64 ((x.prec.toNat : Nat) : Int), .bool (decide (0 ≤ x.prec)), .int .u8 (x.conv.toNat : Int)] 68)) (fun i => (x.width - (s0.length : Int)).toNat - i) 0 ?_ ?_ ?_
        · exact ⟨rfl, trivial⟩
        ·refine ⟨?_, HC, hb6⟩
         exact Nat.zero_le _
        intro i G32 w31 ⟨hi, HC, hb6⟩
        change wp _ _ _ _ _ (upds (over _ _ G32) [(0, S (padI x s0 i))]) _ _
        have hpl := padI_len x s0 i
        refine x_seq <| sr rfl <| mS rfl <| Wp rfl <| st_slen (ct := #[9]) T.u9 rfl <| fa T.fld68_2 rfl <| lI T.one3 rfl (hb6.cell rfl) <| Wp rfl <| st_lss rfl rfl <| en <| x_cond rfl (fun h2 => ?_) (fun h2 => ?_)
        ·try simp only [nm, ne_eq] at h2
         refine x_skip <| then_n <| x_block <| sr rfl <| fa T.fld68_0 rfl <| Wp rfl <| st_load1 (v := .bool _) T.one4 rfl (hb6.cell rfl) <| en <| x_cond rfl (fun h3 => ?_) (fun h3 => ?_)
         ·try simp only [nm, ne_eq] at h3
          refine x_region rfl <| mS rfl <| Wp rfl <| st_sadd rfl rfl (by (simp only [List.length_cons, List.length_nil]; omega)) <| aS rfl <| wops_nil <| block_n <| then_n <| ⟨i + 1, ?_, ?_, rfl, ⟨(congrArg S (padI_l (by first | assumption | simp_all))), trivial⟩, ?_⟩
          ·refine ⟨?_, HC, hb6⟩
           exact (by omega)
          ·show (x.width - (s0.length : Int)).toNat - (i + 1) < (x.width - (s0.length : Int)).toNat - i; omega
          repeat (first | exact agree_upds agree_over rfl | refine agree_upd ?_ rfl | refine agree_upds ?_ rfl | refine agree_over_sub ?_ rfl)
         ·try simp only [nm, ne_eq] at h3
          refine x_region rfl <| mS rfl <| Wp rfl <| st_sadd rfl rfl (by (simp only [List.length_cons, List.length_nil]; omega)) <| aS rfl <| wops_nil <| block_n <| then_n <| ⟨i + 1, ?_, ?_, rfl, ⟨(congrArg S (padI_r (by first | assumption | simp_all))), trivial⟩, ?_⟩
          ·refine ⟨?_, HC, hb6⟩
           exact (by omega)
          ·show (x.width - (s0.length : Int)).toNat - (i + 1) < (x.width - (s0.length : Int)).toNat - i; omega
          repeat (first | exact agree_upds agree_over rfl | refine agree_upd ?_ rfl | refine agree_upds ?_ rfl | refine agree_over_sub ?_ rfl)
        ·try simp only [nm, ne_eq] at h2
         have hi2 : i = (x.width - (s0.length : Int)).toNat := by omega
         refine x_exit <| then_x <| then_x <| block_x <| then_n <| sr rfl <| mS rfl <| aS rfl <| en <| x_ret <| ret_tmp (v := S _) rfl rfl ?_
         rw [hi2]
         refine ⟨congrArg S ?_, HC⟩
         rw [padI_0]; rfl
      ·try simp only [nm, ne_eq] at g30
       iterate 8 refine w_no 15 38 true ?_
       refine pF rfl rfl <| en <| x_cond (t := false) rfl (fun h1 => ?_) (fun h1 => ?_)
       · exact absurd h1 (by decide)
       have hk3 : k = JN x num sg s := by have h9 := JN_no (x := x) (num := num) (sg := sg) (s := s) (fun h9 => absurd h9.2.2.2 (by first | assumption | omega | (simp_all; done))); omega
       subst hk3
       obtain ⟨s0, hs0⟩ : ∃ s0, s0 = (sg ++ (List.replicate (JN x num sg s) 48 ++ s)) := ⟨_, rfl⟩
       have hs0l : s0.length = sg.length + (JN x num sg s + s.length) := by rw [hs0, List.length_append, hrl2]
       refine x_exit <| then_x <| then_x <| block_x <| then_n <| sr rfl <| mS rfl <| mS rfl <| Wp rfl <| st_sadd rfl rfl (by omega) <| aS rfl <| en <| x_seq <| x_block ?_
       rw [show (sg ++ (List.replicate (JN x num sg s) 48 ++ s)) = padI x s0 0 from by rw [padI_0, hs0]]
       refine x_loop (ι := Nat) [0, 53, 54, 55, 56, 57, 58, 59, 60, 61, 62, 63] (fun i => [(0, S (padI x s0 i))]) (fun i W => (i ≤ (x.width - (s0.length : Int)).toNat) ∧ (Chg [] w W) ∧ (Blk W b6 [.bool x.left, .bool x.zero, .int .i64 x.width, .int .i64 ((x.prec.toNat : Nat) : Int), .bool (decide (0 ≤ x.prec)), .int .u8 (x.conv.toNat : Int)] 68)) (fun i => (x.width - (s0.length : Int)).toNat - i) 0 ?_ ?_ ?_
       · exact ⟨rfl, trivial⟩
       ·refine ⟨?_, HC, hb6⟩
        exact Nat.zero_le _
       intro i G34 w33 ⟨hi, HC, hb6⟩
       change wp _ _ _ _ _ (upds (over _ _ G34) [(0, S (padI x s0 i))]) _ _
       have hpl := padI_len x s0 i
       refine x_seq <| sr rfl <| mS rfl <| Wp rfl <| st_slen (ct := #[9]) T.u9 rfl <| fa T.fld68_2 rfl <| lI T.one3 rfl (hb6.cell rfl) <| Wp rfl <| st_lss rfl rfl <| en <| x_cond rfl (fun h2 => ?_) (fun h2 => ?_)
       ·try simp only [nm, ne_eq] at h2
        refine x_skip <| then_n <| x_block <| sr rfl <| fa T.fld68_0 rfl <| Wp rfl <| st_load1 (v := .bool _) T.one4 rfl (hb6.cell rfl) <| en <| x_cond rfl (fun h3 => ?_) (fun h3 => ?_)
        ·try simp only [nm, ne_eq] at h3
         refine x_region rfl <| mS rfl <| Wp rfl <| st_sadd rfl rfl (by (simp only [List.length_cons, List.length_nil]; omega)) <| aS rfl <| wops_nil <| block_n <| then_n <| ⟨i + 1, ?_, ?_, rfl, ⟨(congrArg S (padI_l (by first | assumption | simp_all))), trivial⟩, ?_⟩
         ·refine ⟨?_, HC, hb6⟩
          exact (by omega)
         ·show (x.width - (s0.length : Int)).toNat - (i + 1) < (x.width - (s0.length : Int)).toNat - i; omega
         repeat (first | exact agree_upds agree_over rfl | refine agree_upd ?_ rfl | refine agree_upds ?_ rfl | refine agree_over_sub ?_ rfl)
        ·try simp only [nm, ne_eq] at h3
         refine x_region rfl <| mS rfl <| Wp rfl <| st_sadd rfl rfl (by (simp only [List.length_cons, List.length_nil]; omega)) <| aS rfl <| wops_nil <| block_n <| then_n <| ⟨i + 1, ?_, ?_, rfl, ⟨(congrArg S (padI_r (by first | assumption | simp_all))), trivial⟩, ?_⟩
         ·refine ⟨?_, HC, hb6⟩
          exact (by omega)
         ·show (x.width - (s0.length : Int)).toNat - (i + 1) < (x.width - (s0.length : Int)).toNat - i; omega
         repeat (first | exact agree_upds agree_over rfl | refine agree_upd ?_ rfl | refine agree_upds ?_ rfl | refine agree_over_sub ?_ rfl)
       ·try simp only [nm, ne_eq] at h2
        have hi2 : i = (x.width - (s0.length : Int)).toNat := by omega
        refine x_exit <| then_x <| then_x <| block_x <| then_n <| sr rfl <| mS rfl <| aS rfl <| en <| x_ret <| ret_tmp (v := S _) rfl rfl ?_
        rw [hi2]
        refine ⟨congrArg S ?_, HC⟩
        rw [padI_0]; rfl
     ·try simp only [nm, ne_eq] at g29
      iterate 3 refine w_no 10 33 true ?_
      refine pF rfl rfl <| mB rfl ?_
      iterate 8 refine w_no 15 38 true ?_
      refine pF rfl rfl <| en <| x_cond (t := false) rfl (fun h1 => ?_) (fun h1 => ?_)
      · exact absurd h1 (by decide)
      have hk3 : k = JN x num sg s := by have h9 := JN_no (x := x) (num := num) (sg := sg) (s := s) (fun h9 => absurd h9.2.2.1 (by first | assumption | omega | (simp_all; done))); omega
      subst hk3
      obtain ⟨s0, hs0⟩ : ∃ s0, s0 = (sg ++ (List.replicate (JN x num sg s) 48 ++ s)) := ⟨_, rfl⟩
      have hs0l : s0.length = sg.length + (JN x num sg s + s.length) := by rw [hs0, List.length_append, hrl2]
      refine x_exit <| then_x <| then_x <| block_x <| then_n <| sr rfl <| mS rfl <| mS rfl <| Wp rfl <| st_sadd rfl rfl (by omega) <| aS rfl <| en <| x_seq <| x_block ?_
      rw [show (sg ++ (List.replicate (JN x num sg s) 48 ++ s)) = padI x s0 0 from by rw [padI_0, hs0]]
      refine x_loop (ι := Nat) [0, 53, 54, 55, 56, 57, 58, 59, 60, 61, 62, 63] (fun i => [(0, S (padI x s0 i))]) (fun i W => (i ≤ (x.width - (s0.length : Int)).toNat) ∧ (Chg [] w W) ∧ (Blk W b6 [.bool x.left, .bool x.zero, .int .i64 x.width, .int .i64 ((x.prec.toNat : Nat) : Int), .bool (decide (0 ≤ x.prec)), .int .u8 (x.conv.toNat : Int)] 68)) (fun i => (x.width - (s0.length : Int)).toNat - i) 0 ?_ ?_ ?_
      · exact ⟨rfl, trivial⟩
      ·refine ⟨?_, HC, hb6⟩
       exact Nat.zero_le _
      intro i G36 w35 ⟨hi, HC, hb6⟩
      change wp _ _ _ _ _ (upds (over _ _ G36) [(0, S (padI x s0 i))]) _ _
      have hpl := padI_len x s0 i
      refine x_seq <| sr rfl <| mS rfl <| Wp rfl <| st_slen (ct := #[9]) T.u9 rfl <| fa T.fld68_2 rfl <| lI T.one3 rfl (hb6.cell rfl) <| Wp rfl <| st_lss rfl rfl <| en <| x_cond rfl (fun h2 => ?_) (fun h2 => ?_)
      ·try simp only [nm, ne_eq] at h2
       refine x_skip <| then_n <| x_block <| sr rfl <| fa T.fld68_0 rfl <| Wp rfl <| st_load1 (v := .bool _) T.one4 rfl (hb6.cell rfl) <| en <| x_cond rfl (fun h3 => ?_) (fun h3 => ?_)
       ·try simp only [nm, ne_eq] at h3
        refine x_region rfl <| mS rfl <| Wp rfl <| st_sadd rfl rfl (by (simp only [List.length_cons, List.length_nil]; omega)) <| aS rfl <| wops_nil <| block_n <| then_n <| ⟨i + 1, ?_, ?_, rfl, ⟨(congrArg S (padI_l (by first | assumption | simp_all))), trivial⟩, ?_⟩
        ·refine ⟨?_, HC, hb6⟩
         exact (by omega)
        ·show (x.width - (s0.length : Int)).toNat - (i + 1) < (x.width - (s0.length : Int)).toNat - i; omega
        repeat (first | exact agree_upds agree_over rfl | refine agree_upd ?_ rfl | refine agree_upds ?_ rfl | refine agree_over_sub ?_ rfl)
       ·try simp only [nm, ne_eq] at h3
        refine x_region rfl <| mS rfl <| Wp rfl <| st_sadd rfl rfl (by (simp only [List.length_cons, List.length_nil]; omega)) <| aS rfl <| wops_nil <| block_n <| then_n <| ⟨i + 1, ?_, ?_, rfl, ⟨(congrArg S (padI_r (by first | assumption | simp_all))), trivial⟩, ?_⟩
        ·refine ⟨?_, HC, hb6⟩
         exact (by omega)
        ·show (x.width - (s0.length : Int)).toNat - (i + 1) < (x.width - (s0.length : Int)).toNat - i; omega
        repeat (first | exact agree_upds agree_over rfl | refine agree_upd ?_ rfl | refine agree_upds ?_ rfl | refine agree_over_sub ?_ rfl)
      ·try simp only [nm, ne_eq] at h2
       have hi2 : i = (x.width - (s0.length : Int)).toNat := by omega
       refine x_exit <| then_x <| then_x <| block_x <| then_n <| sr rfl <| mS rfl <| aS rfl <| en <| x_ret <| ret_tmp (v := S _) rfl rfl ?_
       rw [hi2]
       refine ⟨congrArg S ?_, HC⟩
       rw [padI_0]; rfl
    ·try simp only [nm, ne_eq] at g28
     iterate 3 refine w_no 5 28 true ?_
     refine pF rfl rfl <| mB rfl ?_
     iterate 3 refine w_no 10 33 true ?_
     refine pF rfl rfl <| mB rfl ?_
     iterate 8 refine w_no 15 38 true ?_
     refine pF rfl rfl <| en <| x_cond (t := false) rfl (fun h1 => ?_) (fun h1 => ?_)
     · exact absurd h1 (by decide)
     have hk3 : k = JN x num sg s := by have h9 := JN_no (x := x) (num := num) (sg := sg) (s := s) (fun h9 => absurd h9.2.1 (by first | assumption | omega | (simp_all; done))); omega
     subst hk3
     obtain ⟨s0, hs0⟩ : ∃ s0, s0 = (sg ++ (List.replicate (JN x num sg s) 48 ++ s)) := ⟨_, rfl⟩
     have hs0l : s0.length = sg.length + (JN x num sg s + s.length) := by rw [hs0, List.length_append, hrl2]
     refine x_exit <| then_x <| then_x <| block_x <| then_n <| sr rfl <| mS rfl <| mS rfl <| Wp rfl <| st_sadd rfl rfl (by omega) <| aS rfl <| en <| x_seq <| x_block ?_
     rw [show (sg ++ (List.replicate (JN x num sg s) 48 ++ s)) = padI x s0 0 from by rw [padI_0, hs0]]
     refine x_loop (ι := Nat) [0, 53, 54, 55, 56, 57, 58, 59, 60, 61, 62, 63] (fun i => [(0, S (padI x s0 i))]) (fun i W => (i ≤ (x.width - (s0.length : Int)).toNat) ∧ (Chg [] w W) ∧ (Blk W b6 [.bool x.left, .bool x.zero, .int .i64 x.width, .int .i64 ((x.prec.toNat : Nat) : Int), .bool (decide (0 ≤ x.prec)), .int .u8 (x.conv.toNat : Int)] 68)) (fun i => (x.width - (s0.length : Int)).toNat - i) 0 ?_ ?_ ?_
     · exact ⟨rfl, trivial⟩
     ·refine ⟨?_, HC, hb6⟩
      exact Nat.zero_le _
     intro i G38 w37 ⟨hi, HC, hb6⟩
     change wp _ _ _ _ _ (upds (over _ _ G38) [(0, S (padI x s0 i))]) _ _
     have hpl := padI_len x s0 i
     refine x_seq <| sr rfl <| mS rfl <| Wp rfl <| st_slen (ct := #[9]) T.u9 rfl <| fa T.fld68_2 rfl <| lI T.one3 rfl (hb6.cell rfl) <| Wp rfl <| st_lss rfl rfl <| en <| x_cond rfl (fun h2 => ?_) (fun h2 => ?_)
     ·try simp only [nm, ne_eq] at h2
      refine x_skip <| then_n <| x_block <| sr rfl <| fa T.fld68_0 rfl <| Wp rfl <| st_load1 (v := .bool _) T.one4 rfl (hb6.cell rfl) <| en <| x_cond rfl (fun h3 => ?_) (fun h3 => ?_)
      ·try simp only [nm, ne_eq] at h3
       refine x_region rfl <| mS rfl <| Wp rfl <| st_sadd rfl rfl (by (simp only [List.length_cons, List.length_nil]; omega)) <| aS rfl <| wops_nil <| block_n <| then_n <| ⟨i + 1, ?_, ?_, rfl, ⟨(congrArg S (padI_l (by first | assumption | simp_all))), trivial⟩, ?_⟩
       ·refine ⟨?_, HC, hb6⟩
        exact (by omega)
       ·show (x.width - (s0.length : Int)).toNat - (i + 1) < (x.width - (s0.length : Int)).toNat - i; omega
       repeat (first | exact agree_upds agree_over rfl | refine agree_upd ?_ rfl | refine agree_upds ?_ rfl | refine agree_over_sub ?_ rfl)
      ·try simp only [nm, ne_eq] at h3
       refine x_region rfl <| mS rfl <| Wp rfl <| st_sadd rfl rfl (by (simp only [List.length_cons, List.length_nil]; omega)) <| aS rfl <| wops_nil <| block_n <| then_n <| ⟨i + 1, ?_, ?_, rfl, ⟨(congrArg S (padI_r (by first | assumption | simp_all))), trivial⟩, ?_⟩
       ·refine ⟨?_, HC, hb6⟩
        exact (by omega)
       ·show (x.width - (s0.length : Int)).toNat - (i + 1) < (x.width - (s0.length : Int)).toNat - i; omega
       repeat (first | exact agree_upds agree_over rfl | refine agree_upd ?_ rfl | refine agree_upds ?_ rfl | refine agree_over_sub ?_ rfl)
     ·try simp only [nm, ne_eq] at h2
      have hi2 : i = (x.width - (s0.length : Int)).toNat := by omega
      refine x_exit <| then_x <| then_x <| block_x <| then_n <| sr rfl <| mS rfl <| aS rfl <| en <| x_ret <| ret_tmp (v := S _) rfl rfl ?_
      rw [hi2]
      refine ⟨congrArg S ?_, HC⟩
      rw [padI_0]; rfl
   ·try simp only [nm, ne_eq] at g27
    refine w_no 1 24 true <| w_no 1 24 true <| pF rfl rfl <| mB rfl ?_
    iterate 3 refine w_no 5 28 true ?_
    refine pF rfl rfl <| mB rfl ?_
    iterate 3 refine w_no 10 33 true ?_
    refine pF rfl rfl <| mB rfl ?_
    iterate 8 refine w_no 15 38 true ?_
    refine pF rfl rfl <| en <| x_cond (t := false) rfl (fun h1 => ?_) (fun h1 => ?_)
    · exact absurd h1 (by decide)
    have hk3 : k = JN x num sg s := by have h9 := JN_no (x := x) (num := num) (sg := sg) (s := s) (fun h9 => absurd h9.1 (by first | assumption | omega | (simp_all; done))); omega
    subst hk3
    obtain ⟨s0, hs0⟩ : ∃ s0, s0 = (sg ++ (List.replicate (JN x num sg s) 48 ++ s)) := ⟨_, rfl⟩
    have hs0l : s0.length = sg.length + (JN x num sg s + s.length) := by rw [hs0, List.length_append, hrl2]
    refine x_exit <| then_x <| then_x <| block_x <| then_n <| sr rfl <| mS rfl <| mS rfl <| Wp rfl <| st_sadd rfl rfl (by omega) <| aS rfl <| en <| x_seq <| x_block ?_
    rw [show (sg ++ (List.replicate (JN x num sg s) 48 ++ s)) = padI x s0 0 from by rw [padI_0, hs0]]
    refine x_loop (ι := Nat) [0, 53, 54, 55, 56, 57, 58, 59, 60, 61, 62, 63] (fun i => [(0, S (padI x s0 i))]) (fun i W => (i ≤ (x.width - (s0.length : Int)).toNat) ∧ (Chg [] w W) ∧ (Blk W b6 [.bool x.left, .bool x.zero, .int .i64 x.width, .int .i64 ((x.prec.toNat : Nat) : Int), .bool (decide (0 ≤ x.prec)), .int .u8 (x.conv.toNat : Int)] 68)) (fun i => (x.width - (s0.length : Int)).toNat - i) 0 ?_ ?_ ?_
    · exact ⟨rfl, trivial⟩
    ·refine ⟨?_, HC, hb6⟩
     exact Nat.zero_le _
    intro i G40 w39 ⟨hi, HC, hb6⟩
    change wp _ _ _ _ _ (upds (over _ _ G40) [(0, S (padI x s0 i))]) _ _
    have hpl := padI_len x s0 i
    refine x_seq <| sr rfl <| mS rfl <| Wp rfl <| st_slen (ct := #[9]) T.u9 rfl <| fa T.fld68_2 rfl <| lI T.one3 rfl (hb6.cell rfl) <| Wp rfl <| st_lss rfl rfl <| en <| x_cond rfl (fun h2 => ?_) (fun h2 => ?_)
    ·try simp only [nm, ne_eq] at h2
     refine x_skip <| then_n <| x_block <| sr rfl <| fa T.fld68_0 rfl <| Wp rfl <| st_load1 (v := .bool _) T.one4 rfl (hb6.cell rfl) <| en <| x_cond rfl (fun h3 => ?_) (fun h3 => ?_)
     ·try simp only [nm, ne_eq] at h3
      refine x_region rfl <| mS rfl <| Wp rfl <| st_sadd rfl rfl (by (simp only [List.length_cons, List.length_nil]; omega)) <| aS rfl <| wops_nil <| block_n <| then_n <| ⟨i + 1, ?_, ?_, rfl, ⟨(congrArg S (padI_l (by first | assumption | simp_all))), trivial⟩, ?_⟩
      ·refine ⟨?_, HC, hb6⟩
       exact (by omega)
      ·show (x.width - (s0.length : Int)).toNat - (i + 1) < (x.width - (s0.length : Int)).toNat - i; omega
      repeat (first | exact agree_upds agree_over rfl | refine agree_upd ?_ rfl | refine agree_upds ?_ rfl | refine agree_over_sub ?_ rfl)
     ·try simp only [nm, ne_eq] at h3
      refine x_region rfl <| mS rfl <| Wp rfl <| st_sadd rfl rfl (by (simp only [List.length_cons, List.length_nil]; omega)) <| aS rfl <| wops_nil <| block_n <| then_n <| ⟨i + 1, ?_, ?_, rfl, ⟨(congrArg S (padI_r (by first | assumption | simp_all))), trivial⟩, ?_⟩
      ·refine ⟨?_, HC, hb6⟩
       exact (by omega)
      ·show (x.width - (s0.length : Int)).toNat - (i + 1) < (x.width - (s0.length : Int)).toNat - i; omega
      repeat (first | exact agree_upds agree_over rfl | refine agree_upd ?_ rfl | refine agree_upds ?_ rfl | refine agree_over_sub ?_ rfl)
    ·try simp only [nm, ne_eq] at h2
     have hi2 : i = (x.width - (s0.length : Int)).toNat := by omega
     refine x_exit <| then_x <| then_x <| block_x <| then_n <| sr rfl <| mS rfl <| aS rfl <| en <| x_ret <| ret_tmp (v := S _) rfl rfl ?_
     rw [hi2]
     refine ⟨congrArg S ?_, HC⟩
     rw [padI_0]; rfl
 ·try simp only [nm, ne_eq] at g7
  refine w_no 1 10 true <| w_no 1 10 true <| pF rfl rfl <| mB rfl ?_
  iterate 5 refine w_no 5 14 true ?_
  refine pF rfl rfl <| en <| x_cond (t := false) rfl (fun h0 => ?_) (fun h0 => ?_)
  · exact absurd h0 (by decide)
  have hj1 : j = J1 x num s := by have h9 := J1_no (x := x) (num := num) (s := s) (fun h9 => absurd h9.1 (by first | assumption | (simp_all; done))); omega
  subst hj1
  refine x_exit <| then_x <| then_x <| block_x <| then_n <| x_seq <| x_block <| x_loop (ι := Nat) [0, 23, 24, 25, 26, 27, 28, 29, 30, 31, 32, 33, 34, 35, 36, 37, 38, 39, 40, 41, 42, 43, 44, 45, 46, 47, 48, 49] (fun k => [(0, S (List.replicate k 48 ++ s))]) (fun k W => (J1 x num s ≤ k ∧ k ≤ JN x num sg s) ∧ (Chg [] w W) ∧ (Blk W b6 [.bool x.left, .bool x.zero, .int .i64 x.width, .int .i64 ((x.prec.toNat : Nat) : Int), .bool (decide (0 ≤ x.prec)), .int .u8 (x.conv.toNat : Int)] 68)) (fun k => JN x num sg s - k) (J1 x num s) ?_ ?_ ?_
  · exact ⟨rfl, trivial⟩
  ·refine ⟨?_, HC, hb6⟩
   exact ⟨Nat.le_refl _, hjg⟩
  intro k G42 w41 ⟨⟨hk0, hk1⟩, HC, hb6⟩
  change wp _ _ _ _ _ (upds (over _ _ G42) [(0, S (List.replicate k 48 ++ s))]) _ _
  have hrl2 : (List.replicate k (48 : UInt8) ++ s).length = k + s.length := by rw [List.length_append, List.length_replicate]
  refine x_seq <| sr rfl <| mB rfl <| mB rfl <| w_split (d := 24) rfl (fun g43 => ?_) (fun g43 => ?_)
  ·try simp only [nm, ne_eq] at g43
   refine w_yes 1 24 true <| st_fieldAddr T.fld68_1 rfl <| w_yes 1 24 true <| st_load1 (v := .bool _) T.one4 rfl (hb6.cell rfl) <| pT rfl rfl <| mB rfl <| w_split (d := 28) rfl (fun g44 => ?_) (fun g44 => ?_)
   ·try simp only [nm, ne_eq] at g44
    refine w_yes 5 28 true <| st_fieldAddr T.fld68_0 rfl <| w_yes 5 28 true <| st_load1 (v := .bool _) T.one4 rfl (hb6.cell rfl) <| w_yes 5 28 true <| st_not rfl <| pT rfl rfl <| mB rfl <| w_split (d := 33) rfl (fun g45 => ?_) (fun g45 => ?_)
    ·try simp only [nm, ne_eq] at g45
     refine w_yes 10 33 true <| st_fieldAddr T.fld68_4 rfl <| w_yes 10 33 true <| st_load1 (v := .bool _) T.one4 rfl (hb6.cell rfl) <| w_yes 10 33 true <| st_not rfl <| pT rfl rfl <| mB rfl <| w_split (d := 38) rfl (fun g46 => ?_) (fun g46 => ?_)
     ·try simp only [nm, ne_eq] at g46
      refine w_yes 15 38 true <| st_move (v := S _) rfl <| w_yes 15 38 true <| st_slen (ct := #[9]) T.u9 rfl <| w_yes 15 38 true <| st_move (v := S _) rfl <| w_yes 15 38 true <| st_slen (ct := #[9]) T.u9 rfl <| w_yes 15 38 true <| st_addk rfl rfl (by exact wrap64_id (by omega) (by omega)) <| w_yes 15 38 true <| st_fieldAddr T.fld68_2 rfl <| w_yes 15 38 true <| st_load1 (v := .int _ _) T.one3 rfl (hb6.cell rfl) <| w_yes 15 38 true <| st_lss rfl rfl <| pT rfl rfl <| en <| x_cond rfl (fun h1 => ?_) (fun h1 => ?_)
      ·try simp only [nm, ne_eq] at h1
       have h9 := JN_yes (x := x) (num := num) (sg := sg) (s := s) (by first | assumption | simp_all) (by first | assumption | simp_all) (by first | assumption | simp_all) (by first | assumption | simp_all)
       have hk2 : k + 1 ≤ JN x num sg s := by omega
       refine x_skip <| then_n <| x_block <| x_region rfl <| mS rfl <| Wp rfl <| st_sadd rfl rfl (by (simp only [List.length_cons, List.length_nil]; omega)) <| aS rfl <| wops_nil <| block_n <| then_n <| ⟨k + 1, ?_, ?_, rfl, ⟨rfl, trivial⟩, ?_⟩
       ·refine ⟨?_, HC, hb6⟩
        exact ⟨by omega, by omega⟩
       ·show JN x num sg s - (k + 1) < JN x num sg s - k; omega
       repeat (first | exact agree_upds agree_over rfl | refine agree_upd ?_ rfl | refine agree_upds ?_ rfl | refine agree_over_sub ?_ rfl)
      ·try simp only [nm, ne_eq] at h1
       have hk3 : k = JN x num sg s := by have h9 := JN_yes (x := x) (num := num) (sg := sg) (s := s) (by first | assumption | simp_all) (by first | assumption | simp_all) (by first | assumption | simp_all) (by first | assumption | simp_all); omega
       subst hk3
       obtain ⟨s0, hs0⟩ : ∃ s0, s0 = (sg ++ (List.replicate (JN x num sg s) 48 ++ s)) := ⟨_, rfl⟩
       have hs0l : s0.length = sg.length + (JN x num sg s + s.length) := by rw [hs0, List.length_append, hrl2]
       refine x_exit <| then_x <| then_x <| block_x <| then_n <| sr rfl <| mS rfl <| mS rfl <| Wp rfl <| st_sadd rfl rfl (by omega) <| aS rfl <| en <| x_seq <| x_block ?_
       rw [show (sg ++ (List.replicate (JN x num sg s) 48 ++ s)) = padI x s0 0 from by rw [padI_0, hs0]]
       refine x_loop (ι := Nat) [0, 53, 54, 55, 56, 57, 58, 59, 60, 61, 62, 63] (fun i => [(0, S (padI x s0 i))]) (fun i W => (i ≤ (x.width - (s0.length : Int)).toNat) ∧ (Chg [] w W) ∧ (Blk W b6 [.bool x.left, .bool x.zero, .int .i64 x.width, .int .i64 ((x.prec.toNat : Nat) : Int), .bool (decide (0 ≤ x.prec)), .int .u8 (x.conv.toNat : Int)] 68)) (fun i => (x.width - (s0.length : Int)).toNat - i) 0 ?_ ?_ ?_
       · exact ⟨rfl, trivial⟩
       ·refine ⟨?_, HC, hb6⟩
        exact Nat.zero_le _
       intro i G48 w47 ⟨hi, HC, hb6⟩
       change wp _ _ _ _ _ (upds (over _ _ G48) [(0, S (padI x s0 i))]) _ _
       have hpl := padI_len x s0 i
       refine x_seq <| sr rfl <| mS rfl <| Wp rfl <| st_slen (ct := #[9]) T.u9 rfl <| fa T.fld68_2 rfl <| lI T.one3 rfl (hb6.cell rfl) <| Wp rfl <| st_lss rfl rfl <| en <| x_cond rfl (fun h2 => ?_) (fun h2 => ?_)
       ·try simp only [nm, ne_eq] at h2
        refine x_skip <| then_n <| x_block <| sr rfl <| fa T.fld68_0 rfl <| Wp rfl <| st_load1 (v := .bool _) T.one4 rfl (hb6.cell rfl) <| en <| x_cond rfl (fun h3 => ?_) (fun h3 => ?_)
        ·try simp only [nm, ne_eq] at h3
         refine x_region rfl <| mS rfl <| Wp rfl <| st_sadd rfl rfl (by (simp only [List.length_cons, List.length_nil]; omega)) <| aS rfl <| wops_nil <| block_n <| then_n <| ⟨i + 1, ?_, ?_, rfl, ⟨(congrArg S (padI_l (by first | assumption | simp_all))), trivial⟩, ?_⟩
         ·refine ⟨?_, HC, hb6⟩
          exact (by omega)
         ·show (x.width - (s0.length : Int)).toNat - (i + 1) < (x.width - (s0.length : Int)).toNat - i; omega
         repeat (first | exact agree_upds agree_over rfl | refine agree_upd ?_ rfl | refine agree_upds ?_ rfl | refine agree_over_sub ?_ rfl)
        ·try simp only [nm, ne_eq] at h3
         refine x_region rfl <| mS rfl <| Wp rfl <| st_sadd rfl rfl (by (simp only [List.length_cons, List.length_nil]; omega)) <| aS rfl <| wops_nil <| block_n <| then_n <| ⟨i + 1, ?_, ?_, rfl, ⟨(congrArg S (padI_r (by first | assumption | simp_all))), trivial⟩, ?_⟩
         ·refine ⟨?_, HC, hb6⟩
          exact (by omega)
         ·show (x.width - (s0.length : Int)).toNat - (i + 1) < (x.width - (s0.length : Int)).toNat - i; omega
         repeat (first | exact agree_upds agree_over rfl | refine agree_upd ?_ rfl | refine agree_upds ?_ rfl | refine agree_over_sub ?_ rfl)
       ·try simp only [nm, ne_eq] at h2
        have hi2 : i = (x.width - (s0.length : Int)).toNat := by omega
        refine x_exit <| then_x <| then_x <| block_x <| then_n <| sr rfl <| mS rfl <| aS rfl <| en <| x_ret <| ret_tmp (v := S _) rfl rfl ?_
        rw [hi2]
        refine ⟨congrArg S ?_, HC⟩
        rw [padI_0]; rfl
     ·try simp only [nm, ne_eq] at g46
      iterate 8 refine w_no 15 38 true ?_
      refine pF rfl rfl <| en <| x_cond (t := false) rfl (fun h1 => ?_) (fun h1 => ?_)
      · exact absurd h1 (by decide)
      have hk3 : k = JN x num sg s := by have h9 := JN_no (x := x) (num := num) (sg := sg) (s := s) (fun h9 => absurd h9.2.2.2 (by first | assumption | omega | (simp_all; done))); omega
      subst hk3
      obtain ⟨s0, hs0⟩ : ∃ s0, s0 = (sg ++ (List.replicate (JN x num sg s) 48 ++ s)) := ⟨_, rfl⟩
      have hs0l : s0.length = sg.length + (JN x num sg s + s.length) := by rw [hs0, List.length_append, hrl2]
      refine x_exit <| then_x <| then_x <| block_x <| then_n <| sr rfl <| mS rfl <| mS rfl <| Wp rfl <| st_sadd rfl rfl (by omega) <| aS rfl <| en <| x_seq <| x_block ?_
      rw [show (sg ++ (List.replicate (JN x num sg s) 48 ++ s)) = padI x s0 0 from by rw [padI_0, hs0]]
      refine x_loop (ι := Nat) [0, 53, 54, 55, 56, 57, 58, 59, 60, 61, 62, 63] (fun i => [(0, S (padI x s0 i))]) (fun i W => (i ≤ (x.width - (s0.length : Int)).toNat) ∧ (Chg [] w W) ∧ (Blk W b6 [.bool x.left, .bool x.zero, .int .i64 x.width, .int .i64 ((x.prec.toNat : Nat) : Int), .bool (decide (0 ≤ x.prec)), .int .u8 (x.conv.toNat : Int)] 68)) (fun i => (x.width - (s0.length : Int)).toNat - i) 0 ?_ ?_ ?_
      · exact ⟨rfl, trivial⟩
      ·refine ⟨?_, HC, hb6⟩
       exact Nat.zero_le _
      intro i G50 w49 ⟨hi, HC, hb6⟩
      change wp _ _ _ _ _ (upds (over _ _ G50) [(0, S (padI x s0 i))]) _ _
      have hpl := padI_len x s0 i
      refine x_seq <| sr rfl <| mS rfl <| Wp rfl <| st_slen (ct := #[9]) T.u9 rfl <| fa T.fld68_2 rfl <| lI T.one3 rfl (hb6.cell rfl) <| Wp rfl <| st_lss rfl rfl <| en <| x_cond rfl (fun h2 => ?_) (fun h2 => ?_)
      ·try simp only [nm, ne_eq] at h2
       refine x_skip <| then_n <| x_block <| sr rfl <| fa T.fld68_0 rfl <| Wp rfl <| st_load1 (v := .bool _) T.one4 rfl (hb6.cell rfl) <| en <| x_cond rfl (fun h3 => ?_) (fun h3 => ?_)
       ·try simp only [nm, ne_eq] at h3
        refine x_region rfl <| mS rfl <| Wp rfl <| st_sadd rfl rfl (by (simp only [List.length_cons, List.length_nil]; omega)) <| aS rfl <| wops_nil <| block_n <| then_n <| ⟨i + 1, ?_, ?_, rfl, ⟨(congrArg S (padI_l (by first | assumption | simp_all))), trivial⟩, ?_⟩
        ·refine ⟨?_, HC, hb6⟩
         exact (by omega)
        ·show (x.width - (s0.length : Int)).toNat - (i + 1) < (x.width - (s0.length : Int)).toNat - i; omega
        repeat (first | exact agree_upds agree_over rfl | refine agree_upd ?_ rfl | refine agree_upds ?_ rfl | refine agree_over_sub ?_ rfl)
       ·try simp only [nm, ne_eq] at h3
        refine x_region rfl <| mS rfl <| Wp rfl <| st_sadd rfl rfl (by (simp only [List.length_cons, List.length_nil]; omega)) <| aS rfl <| wops_nil <| block_n <| then_n <| ⟨i + 1, ?_, ?_, rfl, ⟨(congrArg S (padI_r (by first | assumption | simp_all))), trivial⟩, ?_⟩
        ·refine ⟨?_, HC, hb6⟩
         exact (by omega)
        ·show (x.width - (s0.length : Int)).toNat - (i + 1) < (x.width - (s0.length : Int)).toNat - i; omega
        repeat (first | exact agree_upds agree_over rfl | refine agree_upd ?_ rfl | refine agree_upds ?_ rfl | refine agree_over_sub ?_ rfl)
      ·try simp only [nm, ne_eq] at h2
       have hi2 : i = (x.width - (s0.length : Int)).toNat := by omega
       refine x_exit <| then_x <| then_x <| block_x <| then_n <| sr rfl <| mS rfl <| aS rfl <| en <| x_ret <| ret_tmp (v := S _) rfl rfl ?_
       rw [hi2]
       refine ⟨congrArg S ?_, HC⟩
       rw [padI_0]; rfl
    ·try simp only [nm, ne_eq] at g45
     iterate 3 refine w_no 10 33 true ?_
     refine pF rfl rfl <| mB rfl ?_
     iterate 8 refine w_no 15 38 true ?_
     refine pF rfl rfl <| en <| x_cond (t := false) rfl (fun h1 => ?_) (fun h1 => ?_)
     · exact absurd h1 (by decide)
     have hk3 : k = JN x num sg s := by have h9 := JN_no (x := x) (num := num) (sg := sg) (s := s) (fun h9 => absurd h9.2.2.1 (by first | assumption | omega | (simp_all; done))); omega
     subst hk3
     obtain ⟨s0, hs0⟩ : ∃ s0, s0 = (sg ++ (List.replicate (JN x num sg s) 48 ++ s)) := ⟨_, rfl⟩
     have hs0l : s0.length = sg.length + (JN x num sg s + s.length) := by rw [hs0, List.length_append, hrl2]
     refine x_exit <| then_x <| then_x <| block_x <| then_n <| sr rfl <| mS rfl <| mS rfl <| Wp rfl <| st_sadd rfl rfl (by omega) <| aS rfl <| en <| x_seq <| x_block ?_
     rw [show (sg ++ (List.replicate (JN x num sg s) 48 ++ s)) = padI x s0 0 from by rw [padI_0, hs0]]
     refine x_loop (ι := Nat) [0, 53, 54, 55, 56, 57, 58, 59, 60, 61, 62, 63] (fun i => [(0, S (padI x s0 i))]) (fun i W => (i ≤ (x.width - (s0.length : Int)).toNat) ∧ (Chg [] w W) ∧ (Blk W b6 [.bool x.left, .bool x.zero, .int .i64 x.width, .int .i64 ((x.prec.toNat : Nat) : Int), .bool (decide (0 ≤ x.prec)), .int .u8 (x.conv.toNat : Int)] 68)) (fun i => (x.width - (s0.length : Int)).toNat - i) 0 ?_ ?_ ?_
     · exact ⟨rfl, trivial⟩
     ·refine ⟨?_, HC, hb6⟩
      exact Nat.zero_le _
     intro i G52 w51 ⟨hi, HC, hb6⟩
     change wp _ _ _ _ _ (upds (over _ _ G52) [(0, S (padI x s0 i))]) _ _
     have hpl := padI_len x s0 i
     refine x_seq <| sr rfl <| mS rfl <| Wp rfl <| st_slen (ct := #[9]) T.u9 rfl <| fa T.fld68_2 rfl <| lI T.one3 rfl (hb6.cell rfl) <| Wp rfl <| st_lss rfl rfl <| en <| x_cond rfl (fun h2 => ?_) (fun h2 => ?_)
     ·try simp only [nm, ne_eq] at h2
      refine x_skip <| then_n <| x_block <| sr rfl <| fa T.fld68_0 rfl <| Wp rfl <| st_load1 (v := .bool _) T.one4 rfl (hb6.cell rfl) <| en <| x_cond rfl (fun h3 => ?_) (fun h3 => ?_)
      ·try simp only [nm, ne_eq] at h3
       refine x_region rfl <| mS rfl <| Wp rfl <| st_sadd rfl rfl (by (simp only [List.length_cons, List.length_nil]; omega)) <| aS rfl <| wops_nil <| block_n <| then_n <| ⟨i + 1, ?_, ?_, rfl, ⟨(congrArg S (padI_l (by first | assumption | simp_all))), trivial⟩, ?_⟩
       ·refine ⟨?_, HC, hb6⟩
        exact (by omega)
       ·show (x.width - (s0.length : Int)).toNat - (i + 1) < (x.width - (s0.length : Int)).toNat - i; omega
       repeat (first | exact agree_upds agree_over rfl | refine agree_upd ?_ rfl | refine agree_upds ?_ rfl | refine agree_over_sub ?_ rfl)
      ·try simp only [nm, ne_eq] at h3
       refine x_region rfl <| mS rfl <| Wp rfl <| st_sadd rfl rfl (by (simp only [List.length_cons, List.length_nil]; omega)) <| aS rfl <| wops_nil <| block_n <| then_n <| ⟨i + 1, ?_, ?_, rfl, ⟨(congrArg S (padI_r (by first | assumption | simp_all))), trivial⟩, ?_⟩
       ·refine ⟨?_, HC, hb6⟩
        exact (by omega)
       ·show (x.width - (s0.length : Int)).toNat - (i + 1) < (x.width - (s0.length : Int)).toNat - i; omega
       repeat (first | exact agree_upds agree_over rfl | refine agree_upd ?_ rfl | refine agree_upds ?_ rfl | refine agree_over_sub ?_ rfl)
     ·try simp only [nm, ne_eq] at h2
      have hi2 : i = (x.width - (s0.length : Int)).toNat := by omega
      refine x_exit <| then_x <| then_x <| block_x <| then_n <| sr rfl <| mS rfl <| aS rfl <| en <| x_ret <| ret_tmp (v := S _) rfl rfl ?_
      rw [hi2]
      refine ⟨congrArg S ?_, HC⟩
      rw [padI_0]; rfl
   ·try simp only [nm, ne_eq] at g44
    iterate 3 refine w_no 5 28 true ?_
    refine pF rfl rfl <| mB rfl ?_
    iterate 3 refine w_no 10 33 true ?_
    refine pF rfl rfl <| mB rfl ?_
    iterate 8 refine w_no 15 38 true ?_
    refine pF rfl rfl <| en <| x_cond (t := false) rfl (fun h1 => ?_) (fun h1 => ?_)
    · exact absurd h1 (by decide)
    have hk3 : k = JN x num sg s := by have h9 := JN_no (x := x) (num := num) (sg := sg) (s := s) (fun h9 => absurd h9.2.1 (by first | assumption | omega | (simp_all; done))); omega
    subst hk3
    obtain ⟨s0, hs0⟩ : ∃ s0, s0 = (sg ++ (List.replicate (JN x num sg s) 48 ++ s)) := ⟨_, rfl⟩
    have hs0l : s0.length = sg.length + (JN x num sg s + s.length) := by rw [hs0, List.length_append, hrl2]
    refine x_exit <| then_x <| then_x <| block_x <| then_n <| sr rfl <| mS rfl <| mS rfl <| Wp rfl <| st_sadd rfl rfl (by omega) <| aS rfl <| en <| x_seq <| x_block ?_
    rw [show (sg ++ (List.replicate (JN x num sg s) 48 ++ s)) = padI x s0 0 from by rw [padI_0, hs0]]
    refine x_loop (ι := Nat) [0, 53, 54, 55, 56, 57, 58, 59, 60, 61, 62, 63] (fun i => [(0, S (padI x s0 i))]) (fun i W => (i ≤ (x.width - (s0.length : Int)).toNat) ∧ (Chg [] w W) ∧ (Blk W b6 [.bool x.left, .bool x.zero, .int .i64 x.width, .int .i64 ((x.prec.toNat : Nat) : Int), .bool (decide (0 ≤ x.prec)), .int .u8 (x.conv.toNat : Int)] 68)) (fun i => (x.width - (s0.length : Int)).toNat - i) 0 ?_ ?_ ?_
    · exact ⟨rfl, trivial⟩
    ·refine ⟨?_, HC, hb6⟩
     exact Nat.zero_le _
    intro i G54 w53 ⟨hi, HC, hb6⟩
    change wp _ _ _ _ _ (upds (over _ _ G54) [(0, S (padI x s0 i))]) _ _
    have hpl := padI_len x s0 i
    refine x_seq <| sr rfl <| mS rfl <| Wp rfl <| st_slen (ct := #[9]) T.u9 rfl <| fa T.fld68_2 rfl <| lI T.one3 rfl (hb6.cell rfl) <| Wp rfl <| st_lss rfl rfl <| en <| x_cond rfl (fun h2 => ?_) (fun h2 => ?_)
    ·try simp only [nm, ne_eq] at h2
     refine x_skip <| then_n <| x_block <| sr rfl <| fa T.fld68_0 rfl <| Wp rfl <| st_load1 (v := .bool _) T.one4 rfl (hb6.cell rfl) <| en <| x_cond rfl (fun h3 => ?_) (fun h3 => ?_)
     ·try simp only [nm, ne_eq] at h3
      refine x_region rfl <| mS rfl <| Wp rfl <| st_sadd rfl rfl (by (simp only [List.length_cons, List.length_nil]; omega)) <| aS rfl <| wops_nil <| block_n <| then_n <| ⟨i + 1, ?_, ?_, rfl, ⟨(congrArg S (padI_l (by first | assumption | simp_all))), trivial⟩, ?_⟩
      ·refine ⟨?_, HC, hb6⟩
       exact (by omega)
      ·show (x.width - (s0.length : Int)).toNat - (i + 1) < (x.width - (s0.length : Int)).toNat - i; omega
      repeat (first | exact agree_upds agree_over rfl | refine agree_upd ?_ rfl | refine agree_upds ?_ rfl | refine agree_over_sub ?_ rfl)
     ·try simp only [nm, ne_eq] at h3
      refine x_region rfl <| mS rfl <| Wp rfl <| st_sadd rfl rfl (by (simp only [List.length_cons, List.length_nil]; omega)) <| aS rfl <| wops_nil <| block_n <| then_n <| ⟨i + 1, ?_, ?_, rfl, ⟨(congrArg S (padI_r (by first | assumption | simp_all))), trivial⟩, ?_⟩
      ·refine ⟨?_, HC, hb6⟩
       exact (by omega)
      ·show (x.width - (s0.length : Int)).toNat - (i + 1) < (x.width - (s0.length : Int)).toNat - i; omega
      repeat (first | exact agree_upds agree_over rfl | refine agree_upd ?_ rfl | refine agree_upds ?_ rfl | refine agree_over_sub ?_ rfl)
    ·try simp only [nm, ne_eq] at h2
     have hi2 : i = (x.width - (s0.length : Int)).toNat := by omega
     refine x_exit <| then_x <| then_x <| block_x <| then_n <| sr rfl <| mS rfl <| aS rfl <| en <| x_ret <| ret_tmp (v := S _) rfl rfl ?_
     rw [hi2]
     refine ⟨congrArg S ?_, HC⟩
     rw [padI_0]; rfl
  ·try simp only [nm, ne_eq] at g43
   refine w_no 1 24 true <| w_no 1 24 true <| pF rfl rfl <| mB rfl ?_
   iterate 3 refine w_no 5 28 true ?_
   refine pF rfl rfl <| mB rfl ?_
   iterate 3 refine w_no 10 33 true ?_
   refine pF rfl rfl <| mB rfl ?_
   iterate 8 refine w_no 15 38 true ?_
   refine pF rfl rfl <| en <| x_cond (t := false) rfl (fun h1 => ?_) (fun h1 => ?_)
   · exact absurd h1 (by decide)
   have hk3 : k = JN x num sg s := by have h9 := JN_no (x := x) (num := num) (sg := sg) (s := s) (fun h9 => absurd h9.1 (by first | assumption | omega | (simp_all; done))); omega
   subst hk3
   obtain ⟨s0, hs0⟩ : ∃ s0, s0 = (sg ++ (List.replicate (JN x num sg s) 48 ++ s)) := ⟨_, rfl⟩
   have hs0l : s0.length = sg.length + (JN x num sg s + s.length) := by rw [hs0, List.length_append, hrl2]
   refine x_exit <| then_x <| then_x <| block_x <| then_n <| sr rfl <| mS rfl <| mS rfl <| Wp rfl <| st_sadd rfl rfl (by omega) <| aS rfl <| en <| x_seq <| x_block ?_
   rw [show (sg ++ (List.replicate (JN x num sg s) 48 ++ s)) = padI x s0 0 from by rw [padI_0, hs0]]
   refine x_loop (ι := Nat) [0, 53, 54, 55, 56, 57, 58, 59, 60, 61, 62, 63] (fun i => [(0, S (padI x s0 i))]) (fun i W => (i ≤ (x.width - (s0.length : Int)).toNat) ∧ (Chg [] w W) ∧ (Blk W b6 [.bool x.left, .bool x.zero, .int .i64 x.width, .int .i64 ((x.prec.toNat : Nat) : Int), .bool (decide (0 ≤ x.prec)), .int .u8 (x.conv.toNat : Int)] 68)) (fun i => (x.width - (s0.length : Int)).toNat - i) 0 ?_ ?_ ?_
   · exact ⟨rfl, trivial⟩
   ·refine ⟨?_, HC, hb6⟩
    exact Nat.zero_le _
   intro i G56 w55 ⟨hi, HC, hb6⟩
   change wp _ _ _ _ _ (upds (over _ _ G56) [(0, S (padI x s0 i))]) _ _
   have hpl := padI_len x s0 i
   refine x_seq <| sr rfl <| mS rfl <| Wp rfl <| st_slen (ct := #[9]) T.u9 rfl <| fa T.fld68_2 rfl <| lI T.one3 rfl (hb6.cell rfl) <| Wp rfl <| st_lss rfl rfl <| en <| x_cond rfl (fun h2 => ?_) (fun h2 => ?_)
   ·try simp only [nm, ne_eq] at h2
    refine x_skip <| then_n <| x_block <| sr rfl <| fa T.fld68_0 rfl <| Wp rfl <| st_load1 (v := .bool _) T.one4 rfl (hb6.cell rfl) <| en <| x_cond rfl (fun h3 => ?_) (fun h3 => ?_)
    ·try simp only [nm, ne_eq] at h3
     refine x_region rfl <| mS rfl <| Wp rfl <| st_sadd rfl rfl (by (simp only [List.length_cons, List.length_nil]; omega)) <| aS rfl <| wops_nil <| block_n <| then_n <| ⟨i + 1, ?_, ?_, rfl, ⟨(congrArg S (padI_l (by first | assumption | simp_all))), trivial⟩, ?_⟩
     ·refine ⟨?_, HC, hb6⟩
      exact (by omega)
     ·show (x.width - (s0.length : Int)).toNat - (i + 1) < (x.width - (s0.length : Int)).toNat - i; omega
     repeat (first | exact agree_upds agree_over rfl | refine agree_upd ?_ rfl | refine agree_upds ?_ rfl | refine agree_over_sub ?_ rfl)
    ·try simp only [nm, ne_eq] at h3
     refine x_region rfl <| mS rfl <| Wp rfl <| st_sadd rfl rfl (by (simp only [List.length_cons, List.length_nil]; omega)) <| aS rfl <| wops_nil <| block_n <| then_n <| ⟨i + 1, ?_, ?_, rfl, ⟨(congrArg S (padI_r (by first | assumption | simp_all))), trivial⟩, ?_⟩
     ·refine ⟨?_, HC, hb6⟩
      exact (by omega)
     ·show (x.width - (s0.length : Int)).toNat - (i + 1) < (x.width - (s0.length : Int)).toNat - i; omega
     repeat (first | exact agree_upds agree_over rfl | refine agree_upd ?_ rfl | refine agree_upds ?_ rfl | refine agree_over_sub ?_ rfl)
   ·try simp only [nm, ne_eq] at h2
    have hi2 : i = (x.width - (s0.length : Int)).toNat := by omega
    refine x_exit <| then_x <| then_x <| block_x <| then_n <| sr rfl <| mS rfl <| aS rfl <| en <| x_ret <| ret_tmp (v := S _) rfl rfl ?_
    rw [hi2]
    refine ⟨congrArg S ?_, HC⟩
    rw [padI_0]; rfl

theorem rpadT_spec (x : Spc) (hx : x.Ok) (s : Bytes) (w : World) (hs : s.length ≤ 100000000000000) : CallR Tryd.prog 47 #[S s, S [], .agg ⟨[.bool x.left, .bool x.zero, .int .i64 x.width, .int .i64 ((x.prec.toNat : Nat) : Int), .bool (decide (0 ≤ x.prec)), .int .u8 (x.conv.toNat : Int)]⟩, .bool false] w fun v w' => v = S (padV x s) ∧ Chg [] w w' := rpad_spec x hx false [] s w (by simp) hs
theorem rpadD_spec (x : Spc) (hx : x.Ok) (sg s : Bytes) (w : World) (hg : sg.length ≤ 1) (hs : s.length ≤ 100000000000000) : CallR Tryd.prog 47 #[S s, S sg, .agg ⟨[.bool x.left, .bool x.zero, .int .i64 x.width, .int .i64 ((x.prec.toNat : Nat) : Int), .bool (decide (0 ≤ x.prec)), .int .u8 (x.conv.toNat : Int)]⟩, .bool true] w fun v w' => v = S (digsV x sg s) ∧ Chg [] w w' := by
  have h := rpad_spec x hx true sg s w hg hs
  have e : sg ++ (List.replicate (JN x true sg s) 48 ++ s) = sg ++ List.replicate (nouV x sg - (s.length : Int)).toNat 48 ++ s := (List.append_assoc ..).symm
  rw [e] at h; exact h

end Go.Proofs.YtlpndcpbnbeohaaDoor.K
