/- Conversions. -/
import Derived.Test.YtlpndcpbnbeohaaDoorEd
set_option linter.unusedVariables false
set_option linter.unusedSimpArgs false
set_option autoImplicit false
set_option maxRecDepth 20000
namespace Go.Proofs.YtlpndcpbnbeohaaDoor.K
open Go Go.Proofs Go.RowKit

/-- A conversion's marks. -/
def flgV : Bytes → Bool → Bool → Bytes × Bool × Bool
  | [], l, z => ([], l, z)
  | c :: s, l, z => if ((c.toNat : Nat) : Int) = 45 ∨ ((c.toNat : Nat) : Int) = 48 then flgV s (l || decide (((c.toNat : Nat) : Int) = 45)) (z || decide (((c.toNat : Nat) : Int) = 48)) else (c :: s, l, z)
theorem flg_on {c : UInt8} {s : Bytes} {l z : Bool} (h : ((c.toNat : Nat) : Int) = 45 ∨ ((c.toNat : Nat) : Int) = 48) : flgV (c :: s) l z = flgV s (l || decide (((c.toNat : Nat) : Int) = 45)) (z || decide (((c.toNat : Nat) : Int) = 48)) := by rw [flgV, if_pos h]
theorem flg_off {c : UInt8} {s : Bytes} {l z : Bool} (h : ¬ ((c.toNat : Nat) : Int) = 45) (h2 : ¬ ((c.toNat : Nat) : Int) = 48) : flgV (c :: s) l z = (c :: s, l, z) := by rw [flgV, if_neg (fun h3 => h3.elim h h2)]
theorem flg_nil {l z : Bool} : flgV [] l z = ([], l, z) := rfl
def rdR (s : Bytes) : Bytes := (flgV s false false).1
def rd2 (s : Bytes) : Bytes := (rdR s).drop (cntK (rdR s))
def rdD (s : Bytes) : Bool := Lib.hasPrefix (rd2 s) [46]
def rdP (s : Bytes) : Int := if rdD s = true then ((cntN ((rd2 s).drop 1) : Nat) : Int) else -1
def rd3 (s : Bytes) : Bytes := if rdD s = true then ((rd2 s).drop 1).drop (cntK ((rd2 s).drop 1)) else rd2 s
def rdF (s : Bytes) : Bool := if rdD s = true then decide (cntN ((rd2 s).drop 1) ≤ 1000) else true
def rdO (s : Bytes) : Bool := decide (cntN (rdR s) ≤ 1000) && rdF s && !decide (rd3 s = []) && decide (0 ≤ idx [100, 105, 117, 111, 120, 88, 99, 115, 98] (byte (rd3 s) 0))
/-- A conversion behind a percent sign. -/
def rdX (s : Bytes) : Spc := ⟨(flgV s false false).2.1, (flgV s false false).2.2, ((cntN (rdR s) : Nat) : Int), rdP s, if rdO s = true then byte (rd3 s) 0 else 0⟩
theorem flg_len : ∀ (s : Bytes) (l z : Bool), (flgV s l z).1.length ≤ s.length
  | [], _, _ => Nat.le_refl _
  | c :: s, l, z => by
    rw [flgV]; split
    · exact Nat.le_trans (flg_len s _ _) (by simp)
    · exact Nat.le_refl _
theorem rd_len (s : Bytes) : (rdR s).length ≤ s.length ∧ (rd2 s).length ≤ s.length ∧ (rd3 s).length ≤ s.length := by
  have h1 := flg_len s false false
  have h2 : (rdR s).length ≤ s.length := h1
  have h3 : (rd2 s).length ≤ s.length := by unfold rd2; rw [List.length_drop]; omega
  refine ⟨h2, h3, ?_⟩
  unfold rd3; split
  · rw [List.length_drop, List.length_drop]; omega
  · exact h3
theorem hp_pos {s : Bytes} (h : Lib.hasPrefix s [46] = true) : 1 ≤ s.length := by
  cases s with
  | nil => simp [Lib.hasPrefix] at h
  | cons c s => simp
theorem rdX_ok {s : Bytes} (h : rdO s = true) : (rdX s).Ok := by
  unfold rdO at h
  simp only [Bool.and_eq_true, decide_eq_true_eq] at h
  obtain ⟨⟨⟨h1, h2⟩, h3⟩, h4⟩ := h
  have hp : -1 ≤ rdP s ∧ rdP s ≤ 1000 := by
    unfold rdP; unfold rdF at h2
    split
    · rename_i hd; rw [if_pos hd, decide_eq_true_eq] at h2; omega
    · omega
  exact ⟨by show 0 ≤ ((cntN (rdR s) : Nat) : Int); omega, by show ((cntN (rdR s) : Nat) : Int) ≤ 1000; omega, hp.1, hp.2⟩

theorem read_spec (s : Bytes) (w : World) (hs : s.length ≤ 100000000000000) : CallR Tryd.prog 26 #[S s] w fun v w' => v = .tuple ⟨[.agg ⟨[.bool (rdX s).left, .bool (rdX s).zero, .int .i64 (rdX s).width, .int .i64 (rdX s).prec, .int .u8 ((rdX s).conv.toNat : Int)]⟩, S (if rdO s = true then (rd3 s).drop 1 else []), .bool (rdO s)]⟩ ∧ Chg [] w w' := by
 have hrl := rd_len s
 refine callR_of_wp (args := [_]) Tryd.func26 rfl (Nat.le_of_ble_eq_true rfl) ?_
 have HC : Chg [] w w := .refl _
 refine sr rfl <| Wp rfl <| st_alloc T.zero60 ?_
 intro b2 w1 e2 c3 hb4
 have ge_b2 : w.heap.size ≤ b2 := by rw [e2]; exact HC.size
 replace HC := HC.then c3
 clear e2
 refine aS rfl <| aB rfl <| en <| sr rfl <| Wp rfl <| st_bld (ps := [(3, .const (.int .i64 (-1)))]) (vs := [.bool _, .bool _, .int _ _, .int _ _, .int _ _]) T.bld60 rfl <| Wp rfl <| st_alloc T.zero60 ?_
 intro b5 w5 e6 c7 hb8
 have ge_b5 : w.heap.size ≤ b5 := by rw [e6]; exact HC.size
 have ne_b2_b5 : b2 ≠ b5 := by rw [e6]; exact hb4.ne_size
 replace HC := HC.then c7
 replace hb4 := hb4.tr0 c7
 clear e6
 refine Wp rfl <| st_store (v := .agg ⟨[.bool _, .bool _, .int _ _, .int _ _, .int _ _]⟩) T.size60 rfl rfl rfl hb8 rfl (Nat.le_of_ble_eq_true rfl) (by simp [Value.oneCell', S]) rfl ?_
 intro w9 c10 hb11; simp only [setVs, setV] at hb11
 clear hb8
 replace HC := HC.then1 c10 ge_b5
 replace hb4 := hb4.tr1 c10 ne_b2_b5
 refine en <| x_seq <| x_block <| x_loop (ι := Bytes × Bool × Bool) [0, 9, 10, 11, 12, 13, 14, 15, 16, 17, 18, 19, 20, 21, 22, 23, 24, 25, 26, 27, 28, 29, 30, 31, 32, 33, 34, 35, 36, 37, 38] (fun ⟨r, l, z⟩ => [(0, S r)]) (fun ⟨r, l, z⟩ W => (flgV s false false = flgV r l z ∧ r.length ≤ s.length) ∧ (Chg [] w W) ∧ (Blk W b5 [.bool l, .bool z, .int .i64 0, .int .i64 (-1), .int .u8 0] 60) ∧ (Blk W b2 [.bool false, .bool false, .int .i64 0, .int .i64 0, .int .u8 0] 60)) (fun ⟨r, l, z⟩ => r.length) (s, false, false) ?_ ?_ ?_
 · exact ⟨rfl, trivial⟩
 ·refine ⟨?_, HC, hb11, hb4⟩
  exact ⟨rfl, Nat.le_refl _⟩
 intro ⟨r, l, z⟩ G13 w12 ⟨⟨hfl, hrl2⟩, HC, hb5, hb2⟩
 change wp _ _ _ _ _ (upds (over _ _ G13) [(0, S r)]) _ _
 refine x_seq <| sr rfl <| mS rfl <| Wp rfl <| st_sneq rfl rfl <| mB rfl <| w_split (d := 11) rfl (fun g14 => ?_) (fun g14 => ?_)
 ·try simp only [nm, ne_eq] at g14
  obtain ⟨c, r', rfl⟩ := List.exists_cons_of_ne_nil (by assumption : r ≠ [])
  refine w_yes 2 11 true <| st_move (v := S _) rfl <| w_yes 2 11 true <| st_sidx T.u9 rfl rfl (by decide) (by (simp only [List.length_cons]; omega)) <| w_yes 2 11 true <| st_eql rfl rfl <| w_yes 2 11 true <| st_move (v := .bool _) rfl <| w_split (d := 15) rfl (fun g15 => ?_) (fun g15 => ?_)
  ·try simp only [nm, ne_eq] at g15
   have hcc : ((c.toNat : Nat) : Int) = 45 ∨ ((c.toNat : Nat) : Int) = 48 := .inl (by assumption)
   iterate 3 refine w_no 6 15 false ?_
   refine w_yes 2 11 true <| st_pick (b := true) (v := .bool _) rfl rfl <| pT rfl rfl <| en <| x_cond (t := true) rfl (fun h0 => ?_) (fun h0 => ?_)
   rotate_left
   · exact absurd h0 (by decide)
   refine x_skip <| then_n <| x_block <| x_seq <| x_open [0, 1, 2, 3, 4, 5, 6, 7, 8, 9, 10, 11, 12, 13, 14] (.bar 15 [10, 11, 12, 13] [16] (.bar 17 [] [] (.stop))) T.mixed rfl rfl (fun W => W.heap[b5]? = w12.heap[b5]? ∧ W.heap[b2]? = w12.heap[b2]? ∧ True) ⟨rfl, rfl, trivial⟩ ?_
   have o18 := hb5
   have o19 := hb2
   have c17 := Chg.drew w12
   generalize World.drew w12 = w16 at c17 ⊢
   replace HC := HC.then c17
   replace hb5 := hb5.tr0 c17
   replace hb2 := hb2.tr0 c17
   refine sq_q rfl (fun W hT => r_fieldAddr T.fld60_0 rfl) <| sq_q rfl (fun W hT => r_load1 (v := .bool _) T.one4 rfl (Blk.cell (show Blk W b5 _ _ from hT.1.trans o18) rfl)) <| sq_q rfl (fun W hT => r_move (v := .bool _) rfl) <| sq_split (d := 23) rfl (fun g20 => ?_) (fun g20 => ?_)
   ·try simp only [nm, ne_eq] at g20
    obtain rfl : l = true := by assumption
    refine sq_no rfl rfl <| sq_no rfl rfl <| sq_no rfl rfl <| sq_q rfl (fun W hT => r_pick (b := true) (v := .bool _) rfl rfl) <| sq_q rfl (fun W hT => r_fieldAddr T.fld60_1 rfl) <| sq_q rfl (fun W hT => r_load1 (v := .bool _) T.one4 rfl (Blk.cell (show Blk W b5 _ _ from hT.1.trans o18) rfl)) <| sq_q rfl (fun W hT => r_move (v := .bool _) rfl) <| sq_split (d := 30) rfl (fun g21 => ?_) (fun g21 => ?_)
    ·try simp only [nm, ne_eq] at g21
     obtain rfl : z = true := by assumption
     refine sq_no rfl rfl <| sq_no rfl rfl <| sq_no rfl rfl <| sq_q rfl (fun W hT => r_pick (b := true) (v := .bool _) rfl rfl) <| sq_q rfl (fun W hT => r_fieldAddr T.fld60_0 rfl) <| sq_nil <| tr_bar ?_ ?_
     · exact xq_no rfl rfl (fun k hk => by cases hk; rfl) <| xq_no rfl rfl (fun k hk => by cases hk; rfl) <| xq_no rfl rfl (fun k hk => by cases hk; rfl) <| xq_yes rfl rfl (fun W => r_pick (b := true) (v := .bool _) rfl rfl) (fun k hk => by cases hk; rfl) <| xq_nil
     refine sq_store1 rfl T.size4 (v := .bool _) rfl rfl rfl hb5 rfl (Nat.le_of_ble_eq_true rfl) (by simp [Value.oneCell', S]) rfl ?_
     intro w22 c23 hb24; simp only [setVs, setV] at hb24
     clear hb5
     replace HC := HC.then1 c23 ge_b5
     replace hb2 := hb2.tr1 c23 ne_b2_b5
     refine ⟨fun W => W.heap[b2]? = w22.heap[b2]? ∧ W.heap[b5]? = w22.heap[b5]? ∧ True, fun _ _ => trivial, ⟨rfl, rfl, trivial⟩, ?_⟩
     have o25 := hb2
     have o26 := hb24
     refine sq_q rfl (fun W hT => r_fieldAddr T.fld60_1 rfl) <| sq_nil <| tr_bar ?_ ?_
     · exact xq_nil
     refine sq_store1 rfl T.size4 (v := .bool _) rfl rfl rfl hb24 rfl (Nat.le_of_ble_eq_true rfl) (by simp [Value.oneCell', S]) rfl ?_
     intro w27 c28 hb29; simp only [setVs, setV] at hb29
     clear hb24
     replace HC := HC.then1 c28 ge_b5
     replace hb2 := hb2.tr1 c28 ne_b2_b5
     refine ⟨fun W => W.heap[b2]? = w27.heap[b2]? ∧ W.heap[b5]? = w27.heap[b5]? ∧ True, fun _ _ => trivial, ⟨rfl, rfl, trivial⟩, ?_⟩
     have o30 := hb2
     have o31 := hb29
     refine sq_nil ?_
     clear o30
     clear o31
     refine tr_stop <| then_n <| x_region rfl <| mS rfl <| Wp rfl <| st_sslo (i := 1) T.u9 rfl ⟨_, rfl⟩ (by (simp only [List.length_cons]; omega)) <| aS rfl <| wops_nil <| block_n <| then_n <| ⟨(r', true, true), ?_, ?_, rfl, ⟨rfl, trivial⟩, ?_⟩
     ·refine ⟨?_, HC, hb29, hb2⟩
      exact ⟨by rw [hfl]; exact flg_on hcc, by simp only [List.length_cons] at *; omega⟩
     ·show r'.length < (c :: r').length; simp
     repeat (first | exact agree_upds agree_over rfl | refine agree_upd ?_ rfl | refine agree_upds ?_ rfl | refine agree_over_sub ?_ rfl)
    ·try simp only [nm, ne_eq] at g21
     obtain rfl : z = false := by assumption
     refine sq_q rfl (fun W hT => r_move (v := S _) rfl) <| sq_q rfl (fun W hT => r_sidx T.u9 rfl rfl (by decide) (by (simp only [List.length_cons]; omega))) <| sq_q rfl (fun W hT => r_eql rfl rfl) <| sq_q rfl (fun W hT => r_pick (b := false) (v := .bool _) rfl rfl) <| sq_q rfl (fun W hT => r_fieldAddr T.fld60_0 rfl) <| sq_nil <| tr_bar ?_ ?_
     · exact xq_yes rfl rfl (fun W => r_move (v := S _) rfl) (fun k hk => by cases hk; rfl) <| xq_yes rfl rfl (fun W => r_sidx T.u9 rfl rfl (by decide) (by (simp only [List.length_cons]; omega))) (fun k hk => by cases hk; rfl) <| xq_yes rfl rfl (fun W => r_eql rfl rfl) (fun k hk => by cases hk; rfl) <| xq_yes rfl rfl (fun W => r_pick (b := false) (v := .bool _) rfl rfl) (fun k hk => by cases hk; rfl) <| xq_nil
     refine sq_store1 rfl T.size4 (v := .bool _) rfl rfl rfl hb5 rfl (Nat.le_of_ble_eq_true rfl) (by simp [Value.oneCell', S]) rfl ?_
     intro w32 c33 hb34; simp only [setVs, setV] at hb34
     clear hb5
     replace HC := HC.then1 c33 ge_b5
     replace hb2 := hb2.tr1 c33 ne_b2_b5
     refine ⟨fun W => W.heap[b2]? = w32.heap[b2]? ∧ W.heap[b5]? = w32.heap[b5]? ∧ True, fun _ _ => trivial, ⟨rfl, rfl, trivial⟩, ?_⟩
     have o35 := hb2
     have o36 := hb34
     refine sq_q rfl (fun W hT => r_fieldAddr T.fld60_1 rfl) <| sq_nil <| tr_bar ?_ ?_
     · exact xq_nil
     refine sq_store1 rfl T.size4 (v := .bool _) rfl rfl rfl hb34 rfl (Nat.le_of_ble_eq_true rfl) (by simp [Value.oneCell', S]) rfl ?_
     intro w37 c38 hb39; simp only [setVs, setV] at hb39
     clear hb34
     replace HC := HC.then1 c38 ge_b5
     replace hb2 := hb2.tr1 c38 ne_b2_b5
     refine ⟨fun W => W.heap[b2]? = w37.heap[b2]? ∧ W.heap[b5]? = w37.heap[b5]? ∧ True, fun _ _ => trivial, ⟨rfl, rfl, trivial⟩, ?_⟩
     have o40 := hb2
     have o41 := hb39
     refine sq_nil ?_
     clear o40
     clear o41
     refine tr_stop <| then_n <| x_region rfl <| mS rfl <| Wp rfl <| st_sslo (i := 1) T.u9 rfl ⟨_, rfl⟩ (by (simp only [List.length_cons]; omega)) <| aS rfl <| wops_nil <| block_n <| then_n <| ⟨(r', true, (decide (((byte (c :: r') ((0 : Int)).toNat).toNat : Int) = 48))), ?_, ?_, rfl, ⟨rfl, trivial⟩, ?_⟩
     ·refine ⟨?_, HC, hb39, hb2⟩
      exact ⟨by rw [hfl]; exact flg_on hcc, by simp only [List.length_cons] at *; omega⟩
     ·show r'.length < (c :: r').length; simp
     repeat (first | exact agree_upds agree_over rfl | refine agree_upd ?_ rfl | refine agree_upds ?_ rfl | refine agree_over_sub ?_ rfl)
   ·try simp only [nm, ne_eq] at g20
    obtain rfl : l = false := by assumption
    refine sq_q rfl (fun W hT => r_move (v := S _) rfl) <| sq_q rfl (fun W hT => r_sidx T.u9 rfl rfl (by decide) (by (simp only [List.length_cons]; omega))) <| sq_q rfl (fun W hT => r_eql rfl rfl) <| sq_q rfl (fun W hT => r_pick (b := false) (v := .bool _) rfl rfl) <| sq_q rfl (fun W hT => r_fieldAddr T.fld60_1 rfl) <| sq_q rfl (fun W hT => r_load1 (v := .bool _) T.one4 rfl (Blk.cell (show Blk W b5 _ _ from hT.1.trans o18) rfl)) <| sq_q rfl (fun W hT => r_move (v := .bool _) rfl) <| sq_split (d := 30) rfl (fun g42 => ?_) (fun g42 => ?_)
    ·try simp only [nm, ne_eq] at g42
     obtain rfl : z = true := by assumption
     refine sq_no rfl rfl <| sq_no rfl rfl <| sq_no rfl rfl <| sq_q rfl (fun W hT => r_pick (b := true) (v := .bool _) rfl rfl) <| sq_q rfl (fun W hT => r_fieldAddr T.fld60_0 rfl) <| sq_nil <| tr_bar ?_ ?_
     · exact xq_no rfl rfl (fun k hk => by cases hk; rfl) <| xq_no rfl rfl (fun k hk => by cases hk; rfl) <| xq_no rfl rfl (fun k hk => by cases hk; rfl) <| xq_yes rfl rfl (fun W => r_pick (b := true) (v := .bool _) rfl rfl) (fun k hk => by cases hk; rfl) <| xq_nil
     refine sq_store1 rfl T.size4 (v := .bool _) rfl rfl rfl hb5 rfl (Nat.le_of_ble_eq_true rfl) (by simp [Value.oneCell', S]) rfl ?_
     intro w43 c44 hb45; simp only [setVs, setV] at hb45
     clear hb5
     replace HC := HC.then1 c44 ge_b5
     replace hb2 := hb2.tr1 c44 ne_b2_b5
     refine ⟨fun W => W.heap[b2]? = w43.heap[b2]? ∧ W.heap[b5]? = w43.heap[b5]? ∧ True, fun _ _ => trivial, ⟨rfl, rfl, trivial⟩, ?_⟩
     have o46 := hb2
     have o47 := hb45
     refine sq_q rfl (fun W hT => r_fieldAddr T.fld60_1 rfl) <| sq_nil <| tr_bar ?_ ?_
     · exact xq_nil
     refine sq_store1 rfl T.size4 (v := .bool _) rfl rfl rfl hb45 rfl (Nat.le_of_ble_eq_true rfl) (by simp [Value.oneCell', S]) rfl ?_
     intro w48 c49 hb50; simp only [setVs, setV] at hb50
     clear hb45
     replace HC := HC.then1 c49 ge_b5
     replace hb2 := hb2.tr1 c49 ne_b2_b5
     refine ⟨fun W => W.heap[b2]? = w48.heap[b2]? ∧ W.heap[b5]? = w48.heap[b5]? ∧ True, fun _ _ => trivial, ⟨rfl, rfl, trivial⟩, ?_⟩
     have o51 := hb2
     have o52 := hb50
     refine sq_nil ?_
     clear o51
     clear o52
     refine tr_stop <| then_n <| x_region rfl <| mS rfl <| Wp rfl <| st_sslo (i := 1) T.u9 rfl ⟨_, rfl⟩ (by (simp only [List.length_cons]; omega)) <| aS rfl <| wops_nil <| block_n <| then_n <| ⟨(r', (decide (((byte (c :: r') ((0 : Int)).toNat).toNat : Int) = 45)), true), ?_, ?_, rfl, ⟨rfl, trivial⟩, ?_⟩
     ·refine ⟨?_, HC, hb50, hb2⟩
      exact ⟨by rw [hfl]; exact flg_on hcc, by simp only [List.length_cons] at *; omega⟩
     ·show r'.length < (c :: r').length; simp
     repeat (first | exact agree_upds agree_over rfl | refine agree_upd ?_ rfl | refine agree_upds ?_ rfl | refine agree_over_sub ?_ rfl)
    ·try simp only [nm, ne_eq] at g42
     obtain rfl : z = false := by assumption
     refine sq_q rfl (fun W hT => r_move (v := S _) rfl) <| sq_q rfl (fun W hT => r_sidx T.u9 rfl rfl (by decide) (by (simp only [List.length_cons]; omega))) <| sq_q rfl (fun W hT => r_eql rfl rfl) <| sq_q rfl (fun W hT => r_pick (b := false) (v := .bool _) rfl rfl) <| sq_q rfl (fun W hT => r_fieldAddr T.fld60_0 rfl) <| sq_nil <| tr_bar ?_ ?_
     · exact xq_yes rfl rfl (fun W => r_move (v := S _) rfl) (fun k hk => by cases hk; rfl) <| xq_yes rfl rfl (fun W => r_sidx T.u9 rfl rfl (by decide) (by (simp only [List.length_cons]; omega))) (fun k hk => by cases hk; rfl) <| xq_yes rfl rfl (fun W => r_eql rfl rfl) (fun k hk => by cases hk; rfl) <| xq_yes rfl rfl (fun W => r_pick (b := false) (v := .bool _) rfl rfl) (fun k hk => by cases hk; rfl) <| xq_nil
     refine sq_store1 rfl T.size4 (v := .bool _) rfl rfl rfl hb5 rfl (Nat.le_of_ble_eq_true rfl) (by simp [Value.oneCell', S]) rfl ?_
     intro w53 c54 hb55; simp only [setVs, setV] at hb55
     clear hb5
     replace HC := HC.then1 c54 ge_b5
     replace hb2 := hb2.tr1 c54 ne_b2_b5
     refine ⟨fun W => W.heap[b2]? = w53.heap[b2]? ∧ W.heap[b5]? = w53.heap[b5]? ∧ True, fun _ _ => trivial, ⟨rfl, rfl, trivial⟩, ?_⟩
     have o56 := hb2
     have o57 := hb55
     refine sq_q rfl (fun W hT => r_fieldAddr T.fld60_1 rfl) <| sq_nil <| tr_bar ?_ ?_
     · exact xq_nil
     refine sq_store1 rfl T.size4 (v := .bool _) rfl rfl rfl hb55 rfl (Nat.le_of_ble_eq_true rfl) (by simp [Value.oneCell', S]) rfl ?_
     intro w58 c59 hb60; simp only [setVs, setV] at hb60
     clear hb55
     replace HC := HC.then1 c59 ge_b5
     replace hb2 := hb2.tr1 c59 ne_b2_b5
     refine ⟨fun W => W.heap[b2]? = w58.heap[b2]? ∧ W.heap[b5]? = w58.heap[b5]? ∧ True, fun _ _ => trivial, ⟨rfl, rfl, trivial⟩, ?_⟩
     have o61 := hb2
     have o62 := hb60
     refine sq_nil ?_
     clear o61
     clear o62
     refine tr_stop <| then_n <| x_region rfl <| mS rfl <| Wp rfl <| st_sslo (i := 1) T.u9 rfl ⟨_, rfl⟩ (by (simp only [List.length_cons]; omega)) <| aS rfl <| wops_nil <| block_n <| then_n <| ⟨(r', (decide (((byte (c :: r') ((0 : Int)).toNat).toNat : Int) = 45)), (decide (((byte (c :: r') ((0 : Int)).toNat).toNat : Int) = 48))), ?_, ?_, rfl, ⟨rfl, trivial⟩, ?_⟩
     ·refine ⟨?_, HC, hb60, hb2⟩
      exact ⟨by rw [hfl]; exact flg_on hcc, by simp only [List.length_cons] at *; omega⟩
     ·show r'.length < (c :: r').length; simp
     repeat (first | exact agree_upds agree_over rfl | refine agree_upd ?_ rfl | refine agree_upds ?_ rfl | refine agree_over_sub ?_ rfl)
  ·try simp only [nm, ne_eq] at g15
   have hc45 : ¬ ((c.toNat : Nat) : Int) = 45 := by assumption
   refine w_yes 6 15 false <| st_move (v := S _) rfl <| w_yes 6 15 false <| st_sidx T.u9 rfl rfl (by decide) (by (simp only [List.length_cons]; omega)) <| w_yes 6 15 false <| st_eql rfl rfl <| w_yes 2 11 true <| st_pick (b := false) (v := .bool _) rfl rfl <| pT rfl rfl <| en <| x_cond rfl (fun h0 => ?_) (fun h0 => ?_)
   ·try simp only [nm, ne_eq] at h0
    have hcc : ((c.toNat : Nat) : Int) = 45 ∨ ((c.toNat : Nat) : Int) = 48 := .inr (by first | assumption | simp_all)
    refine x_skip <| then_n <| x_block <| x_seq <| x_open [0, 1, 2, 3, 4, 5, 6, 7, 8, 9, 10, 11, 12, 13, 14] (.bar 15 [10, 11, 12, 13] [16] (.bar 17 [] [] (.stop))) T.mixed rfl rfl (fun W => W.heap[b5]? = w12.heap[b5]? ∧ W.heap[b2]? = w12.heap[b2]? ∧ True) ⟨rfl, rfl, trivial⟩ ?_
    have o65 := hb5
    have o66 := hb2
    have c64 := Chg.drew w12
    generalize World.drew w12 = w63 at c64 ⊢
    replace HC := HC.then c64
    replace hb5 := hb5.tr0 c64
    replace hb2 := hb2.tr0 c64
    refine sq_q rfl (fun W hT => r_fieldAddr T.fld60_0 rfl) <| sq_q rfl (fun W hT => r_load1 (v := .bool _) T.one4 rfl (Blk.cell (show Blk W b5 _ _ from hT.1.trans o65) rfl)) <| sq_q rfl (fun W hT => r_move (v := .bool _) rfl) <| sq_split (d := 23) rfl (fun g67 => ?_) (fun g67 => ?_)
    ·try simp only [nm, ne_eq] at g67
     obtain rfl : l = true := by assumption
     refine sq_no rfl rfl <| sq_no rfl rfl <| sq_no rfl rfl <| sq_q rfl (fun W hT => r_pick (b := true) (v := .bool _) rfl rfl) <| sq_q rfl (fun W hT => r_fieldAddr T.fld60_1 rfl) <| sq_q rfl (fun W hT => r_load1 (v := .bool _) T.one4 rfl (Blk.cell (show Blk W b5 _ _ from hT.1.trans o65) rfl)) <| sq_q rfl (fun W hT => r_move (v := .bool _) rfl) <| sq_split (d := 30) rfl (fun g68 => ?_) (fun g68 => ?_)
     ·try simp only [nm, ne_eq] at g68
      obtain rfl : z = true := by assumption
      refine sq_no rfl rfl <| sq_no rfl rfl <| sq_no rfl rfl <| sq_q rfl (fun W hT => r_pick (b := true) (v := .bool _) rfl rfl) <| sq_q rfl (fun W hT => r_fieldAddr T.fld60_0 rfl) <| sq_nil <| tr_bar ?_ ?_
      · exact xq_no rfl rfl (fun k hk => by cases hk; rfl) <| xq_no rfl rfl (fun k hk => by cases hk; rfl) <| xq_no rfl rfl (fun k hk => by cases hk; rfl) <| xq_yes rfl rfl (fun W => r_pick (b := true) (v := .bool _) rfl rfl) (fun k hk => by cases hk; rfl) <| xq_nil
      refine sq_store1 rfl T.size4 (v := .bool _) rfl rfl rfl hb5 rfl (Nat.le_of_ble_eq_true rfl) (by simp [Value.oneCell', S]) rfl ?_
      intro w69 c70 hb71; simp only [setVs, setV] at hb71
      clear hb5
      replace HC := HC.then1 c70 ge_b5
      replace hb2 := hb2.tr1 c70 ne_b2_b5
      refine ⟨fun W => W.heap[b2]? = w69.heap[b2]? ∧ W.heap[b5]? = w69.heap[b5]? ∧ True, fun _ _ => trivial, ⟨rfl, rfl, trivial⟩, ?_⟩
      have o72 := hb2
      have o73 := hb71
      refine sq_q rfl (fun W hT => r_fieldAddr T.fld60_1 rfl) <| sq_nil <| tr_bar ?_ ?_
      · exact xq_nil
      refine sq_store1 rfl T.size4 (v := .bool _) rfl rfl rfl hb71 rfl (Nat.le_of_ble_eq_true rfl) (by simp [Value.oneCell', S]) rfl ?_
      intro w74 c75 hb76; simp only [setVs, setV] at hb76
      clear hb71
      replace HC := HC.then1 c75 ge_b5
      replace hb2 := hb2.tr1 c75 ne_b2_b5
      refine ⟨fun W => W.heap[b2]? = w74.heap[b2]? ∧ W.heap[b5]? = w74.heap[b5]? ∧ True, fun _ _ => trivial, ⟨rfl, rfl, trivial⟩, ?_⟩
      have o77 := hb2
      have o78 := hb76
      refine sq_nil ?_
      clear o77
      clear o78
      refine tr_stop <| then_n <| x_region rfl <| mS rfl <| Wp rfl <| st_sslo (i := 1) T.u9 rfl ⟨_, rfl⟩ (by (simp only [List.length_cons]; omega)) <| aS rfl <| wops_nil <| block_n <| then_n <| ⟨(r', true, true), ?_, ?_, rfl, ⟨rfl, trivial⟩, ?_⟩
      ·refine ⟨?_, HC, hb76, hb2⟩
       exact ⟨by rw [hfl]; exact flg_on hcc, by simp only [List.length_cons] at *; omega⟩
      ·show r'.length < (c :: r').length; simp
      repeat (first | exact agree_upds agree_over rfl | refine agree_upd ?_ rfl | refine agree_upds ?_ rfl | refine agree_over_sub ?_ rfl)
     ·try simp only [nm, ne_eq] at g68
      obtain rfl : z = false := by assumption
      refine sq_q rfl (fun W hT => r_move (v := S _) rfl) <| sq_q rfl (fun W hT => r_sidx T.u9 rfl rfl (by decide) (by (simp only [List.length_cons]; omega))) <| sq_q rfl (fun W hT => r_eql rfl rfl) <| sq_q rfl (fun W hT => r_pick (b := false) (v := .bool _) rfl rfl) <| sq_q rfl (fun W hT => r_fieldAddr T.fld60_0 rfl) <| sq_nil <| tr_bar ?_ ?_
      · exact xq_yes rfl rfl (fun W => r_move (v := S _) rfl) (fun k hk => by cases hk; rfl) <| xq_yes rfl rfl (fun W => r_sidx T.u9 rfl rfl (by decide) (by (simp only [List.length_cons]; omega))) (fun k hk => by cases hk; rfl) <| xq_yes rfl rfl (fun W => r_eql rfl rfl) (fun k hk => by cases hk; rfl) <| xq_yes rfl rfl (fun W => r_pick (b := false) (v := .bool _) rfl rfl) (fun k hk => by cases hk; rfl) <| xq_nil
      refine sq_store1 rfl T.size4 (v := .bool _) rfl rfl rfl hb5 rfl (Nat.le_of_ble_eq_true rfl) (by simp [Value.oneCell', S]) rfl ?_
      intro w79 c80 hb81; simp only [setVs, setV] at hb81
      clear hb5
      replace HC := HC.then1 c80 ge_b5
      replace hb2 := hb2.tr1 c80 ne_b2_b5
      refine ⟨fun W => W.heap[b2]? = w79.heap[b2]? ∧ W.heap[b5]? = w79.heap[b5]? ∧ True, fun _ _ => trivial, ⟨rfl, rfl, trivial⟩, ?_⟩
      have o82 := hb2
      have o83 := hb81
      refine sq_q rfl (fun W hT => r_fieldAddr T.fld60_1 rfl) <| sq_nil <| tr_bar ?_ ?_
      · exact xq_nil
      refine sq_store1 rfl T.size4 (v := .bool _) rfl rfl rfl hb81 rfl (Nat.le_of_ble_eq_true rfl) (by simp [Value.oneCell', S]) rfl ?_
      intro w84 c85 hb86; simp only [setVs, setV] at hb86
      clear hb81
      replace HC := HC.then1 c85 ge_b5
      replace hb2 := hb2.tr1 c85 ne_b2_b5
      refine ⟨fun W => W.heap[b2]? = w84.heap[b2]? ∧ W.heap[b5]? = w84.heap[b5]? ∧ True, fun _ _ => trivial, ⟨rfl, rfl, trivial⟩, ?_⟩
      have o87 := hb2
      have o88 := hb86
      refine sq_nil ?_
      clear o87
      clear o88
      refine tr_stop <| then_n <| x_region rfl <| mS rfl <| Wp rfl <| st_sslo (i := 1) T.u9 rfl ⟨_, rfl⟩ (by (simp only [List.length_cons]; omega)) <| aS rfl <| wops_nil <| block_n <| then_n <| ⟨(r', true, (decide (((byte (c :: r') ((0 : Int)).toNat).toNat : Int) = 48))), ?_, ?_, rfl, ⟨rfl, trivial⟩, ?_⟩
      ·refine ⟨?_, HC, hb86, hb2⟩
       exact ⟨by rw [hfl]; exact flg_on hcc, by simp only [List.length_cons] at *; omega⟩
      ·show r'.length < (c :: r').length; simp
      repeat (first | exact agree_upds agree_over rfl | refine agree_upd ?_ rfl | refine agree_upds ?_ rfl | refine agree_over_sub ?_ rfl)
    ·try simp only [nm, ne_eq] at g67
     obtain rfl : l = false := by assumption
     refine sq_q rfl (fun W hT => r_move (v := S _) rfl) <| sq_q rfl (fun W hT => r_sidx T.u9 rfl rfl (by decide) (by (simp only [List.length_cons]; omega))) <| sq_q rfl (fun W hT => r_eql rfl rfl) <| sq_q rfl (fun W hT => r_pick (b := false) (v := .bool _) rfl rfl) <| sq_q rfl (fun W hT => r_fieldAddr T.fld60_1 rfl) <| sq_q rfl (fun W hT => r_load1 (v := .bool _) T.one4 rfl (Blk.cell (show Blk W b5 _ _ from hT.1.trans o65) rfl)) <| sq_q rfl (fun W hT => r_move (v := .bool _) rfl) <| sq_split (d := 30) rfl (fun g89 => ?_) (fun g89 => ?_)
     ·try simp only [nm, ne_eq] at g89
      obtain rfl : z = true := by assumption
      refine sq_no rfl rfl <| sq_no rfl rfl <| sq_no rfl rfl <| sq_q rfl (fun W hT => r_pick (b := true) (v := .bool _) rfl rfl) <| sq_q rfl (fun W hT => r_fieldAddr T.fld60_0 rfl) <| sq_nil <| tr_bar ?_ ?_
      · exact xq_no rfl rfl (fun k hk => by cases hk; rfl) <| xq_no rfl rfl (fun k hk => by cases hk; rfl) <| xq_no rfl rfl (fun k hk => by cases hk; rfl) <| xq_yes rfl rfl (fun W => r_pick (b := true) (v := .bool _) rfl rfl) (fun k hk => by cases hk; rfl) <| xq_nil
      refine sq_store1 rfl T.size4 (v := .bool _) rfl rfl rfl hb5 rfl (Nat.le_of_ble_eq_true rfl) (by simp [Value.oneCell', S]) rfl ?_
      intro w90 c91 hb92; simp only [setVs, setV] at hb92
      clear hb5
      replace HC := HC.then1 c91 ge_b5
      replace hb2 := hb2.tr1 c91 ne_b2_b5
      refine ⟨fun W => W.heap[b2]? = w90.heap[b2]? ∧ W.heap[b5]? = w90.heap[b5]? ∧ True, fun _ _ => trivial, ⟨rfl, rfl, trivial⟩, ?_⟩
      have o93 := hb2
      have o94 := hb92
      refine sq_q rfl (fun W hT => r_fieldAddr T.fld60_1 rfl) <| sq_nil <| tr_bar ?_ ?_
      · exact xq_nil
      refine sq_store1 rfl T.size4 (v := .bool _) rfl rfl rfl hb92 rfl (Nat.le_of_ble_eq_true rfl) (by simp [Value.oneCell', S]) rfl ?_
      intro w95 c96 hb97; simp only [setVs, setV] at hb97
      clear hb92
      replace HC := HC.then1 c96 ge_b5
      replace hb2 := hb2.tr1 c96 ne_b2_b5
      refine ⟨fun W => W.heap[b2]? = w95.heap[b2]? ∧ W.heap[b5]? = w95.heap[b5]? ∧ True, fun _ _ => trivial, ⟨rfl, rfl, trivial⟩, ?_⟩
      have o98 := hb2
      have o99 := hb97
      refine sq_nil ?_
      clear o98
      clear o99
      refine tr_stop <| then_n <| x_region rfl <| mS rfl <| Wp rfl <| st_sslo (i := 1) T.u9 rfl ⟨_, rfl⟩ (by (simp only [List.length_cons]; omega)) <| aS rfl <| wops_nil <| block_n <| then_n <| ⟨(r', (decide (((byte (c :: r') ((0 : Int)).toNat).toNat : Int) = 45)), true), ?_, ?_, rfl, ⟨rfl, trivial⟩, ?_⟩
      ·refine ⟨?_, HC, hb97, hb2⟩
       exact ⟨by rw [hfl]; exact flg_on hcc, by simp only [List.length_cons] at *; omega⟩
      ·show r'.length < (c :: r').length; simp
      repeat (first | exact agree_upds agree_over rfl | refine agree_upd ?_ rfl | refine agree_upds ?_ rfl | refine agree_over_sub ?_ rfl)
     ·try simp only [nm, ne_eq] at g89
      obtain rfl : z = false := by assumption
      refine sq_q rfl (fun W hT => r_move (v := S _) rfl) <| sq_q rfl (fun W hT => r_sidx T.u9 rfl rfl (by decide) (by (simp only [List.length_cons]; omega))) <| sq_q rfl (fun W hT => r_eql rfl rfl) <| sq_q rfl (fun W hT => r_pick (b := false) (v := .bool _) rfl rfl) <| sq_q rfl (fun W hT => r_fieldAddr T.fld60_0 rfl) <| sq_nil <| tr_bar ?_ ?_
      · exact xq_yes rfl rfl (fun W => r_move (v := S _) rfl) (fun k hk => by cases hk; rfl) <| xq_yes rfl rfl (fun W => r_sidx T.u9 rfl rfl (by decide) (by (simp only [List.length_cons]; omega))) (fun k hk => by cases hk; rfl) <| xq_yes rfl rfl (fun W => r_eql rfl rfl) (fun k hk => by cases hk; rfl) <| xq_yes rfl rfl (fun W => r_pick (b := false) (v := .bool _) rfl rfl) (fun k hk => by cases hk; rfl) <| xq_nil
      refine sq_store1 rfl T.size4 (v := .bool _) rfl rfl rfl hb5 rfl (Nat.le_of_ble_eq_true rfl) (by simp [Value.oneCell', S]) rfl ?_
      intro w100 c101 hb102; simp only [setVs, setV] at hb102
      clear hb5
      replace HC := HC.then1 c101 ge_b5
      replace hb2 := hb2.tr1 c101 ne_b2_b5
      refine ⟨fun W => W.heap[b2]? = w100.heap[b2]? ∧ W.heap[b5]? = w100.heap[b5]? ∧ True, fun _ _ => trivial, ⟨rfl, rfl, trivial⟩, ?_⟩
      have o103 := hb2
      have o104 := hb102
      refine sq_q rfl (fun W hT => r_fieldAddr T.fld60_1 rfl) <| sq_nil <| tr_bar ?_ ?_
      · exact xq_nil
      refine sq_store1 rfl T.size4 (v := .bool _) rfl rfl rfl hb102 rfl (Nat.le_of_ble_eq_true rfl) (by simp [Value.oneCell', S]) rfl ?_
      intro w105 c106 hb107; simp only [setVs, setV] at hb107
      clear hb102
      replace HC := HC.then1 c106 ge_b5
      replace hb2 := hb2.tr1 c106 ne_b2_b5
      refine ⟨fun W => W.heap[b2]? = w105.heap[b2]? ∧ W.heap[b5]? = w105.heap[b5]? ∧ True, fun _ _ => trivial, ⟨rfl, rfl, trivial⟩, ?_⟩
      have o108 := hb2
      have o109 := hb107
      refine sq_nil ?_
      clear o108
      clear o109
      refine tr_stop <| then_n <| x_region rfl <| mS rfl <| Wp rfl <| st_sslo (i := 1) T.u9 rfl ⟨_, rfl⟩ (by (simp only [List.length_cons]; omega)) <| aS rfl <| wops_nil <| block_n <| then_n <| ⟨(r', (decide (((byte (c :: r') ((0 : Int)).toNat).toNat : Int) = 45)), (decide (((byte (c :: r') ((0 : Int)).toNat).toNat : Int) = 48))), ?_, ?_, rfl, ⟨rfl, trivial⟩, ?_⟩
      ·refine ⟨?_, HC, hb107, hb2⟩
       exact ⟨by rw [hfl]; exact flg_on hcc, by simp only [List.length_cons] at *; omega⟩
      ·show r'.length < (c :: r').length; simp
      repeat (first | exact agree_upds agree_over rfl | refine agree_upd ?_ rfl | refine agree_upds ?_ rfl | refine agree_over_sub ?_ rfl)
   ·try simp only [nm, ne_eq] at h0
    have hfr : flgV s false false = ((c :: r'), l, z) := by rw [hfl]; first | exact flg_off hc45 (by first | assumption | simp_all) | (rw [hr0]; exact flg_nil)
    have hR : rdR s = (c :: r') := by unfold rdR; rw [hfr]
    rw [← hR]
    have hL : (flgV s false false).2.1 = l := by rw [hfr]
    have hZ : (flgV s false false).2.2 = z := by rw [hfr]
    refine x_exit <| then_x <| then_x <| block_x <| then_n <| sr rfl <| aB rfl <| aB rfl <| en <| x_seq <| sr rfl <| mS rfl <| Wp rfl <| st_call (ags := [_]) rfl rfl T.ent37 rfl (count_spec (rdR s) _ (by omega)) ?_
    rintro _ w110 ⟨rfl, c111⟩
    replace HC := HC.then c111
    replace hb5 := hb5.tr0 c111
    replace hb2 := hb2.tr0 c111
    refine mv (v := .tuple ⟨[_, _, _]⟩) rfl <| Wp rfl <| st_extract (vs := [_, _, _]) (v := .int _ _) rfl rfl <| Wp rfl <| st_extract (vs := [_, _, _]) (v := S _) rfl rfl <| Wp rfl <| st_extract (vs := [_, _, _]) (v := .bool _) rfl rfl <| fa T.fld60_2 rfl <| Wp rfl <| st_store (v := .int _ _) T.size3 rfl rfl rfl hb5 rfl (Nat.le_of_ble_eq_true rfl) (by simp [Value.oneCell', S]) rfl ?_
    intro w112 c113 hb114; simp only [setVs, setV] at hb114
    clear hb5
    replace HC := HC.then1 c113 ge_b5
    replace hb2 := hb2.tr1 c113 ne_b2_b5
    refine aS rfl <| aB rfl <| en <| sr rfl <| mS rfl <| Wp rfl <| st_call (ags := [_, _]) rfl rfl T.ent25 rfl (HasPrefix_spec _ _ _) ?_
    rintro _ w115 ⟨rfl, c116⟩
    replace HC := HC.then c116
    replace hb2 := hb2.tr0 c116
    replace hb114 := hb114.tr0 c116
    refine en <| x_cond rfl (fun h1 => ?_) (fun h1 => ?_)
    ·try simp only [nm, ne_eq] at h1
     have hD : rdD s = true := by first | assumption | simp_all
     have hp1 : 1 ≤ (rd2 s).length := hp_pos hD
     refine x_region rfl <| mS rfl <| Wp rfl <| st_sslo (i := 1) T.u9 rfl ⟨_, rfl⟩ (by exact hp1) <| Wp rfl <| st_call (ags := [_]) rfl rfl T.ent37 rfl (count_spec ((rd2 s).drop 1) _ (by rw [List.length_drop]; omega)) ?_
     rintro _ w117 ⟨rfl, c118⟩
     replace HC := HC.then c118
     replace hb2 := hb2.tr0 c118
     replace hb114 := hb114.tr0 c118
     refine mv (v := .tuple ⟨[_, _, _]⟩) rfl <| Wp rfl <| st_extract (vs := [_, _, _]) (v := .int _ _) rfl rfl <| Wp rfl <| st_extract (vs := [_, _, _]) (v := S _) rfl rfl <| Wp rfl <| st_extract (vs := [_, _, _]) (v := .bool _) rfl rfl <| fa T.fld60_3 rfl <| Wp rfl <| st_store (v := .int _ _) T.size3 rfl rfl rfl hb114 rfl (Nat.le_of_ble_eq_true rfl) (by simp [Value.oneCell', S]) rfl ?_
     intro w119 c120 hb121; simp only [setVs, setV] at hb121
     clear hb114
     replace HC := HC.then1 c120 ge_b5
     replace hb2 := hb2.tr1 c120 ne_b2_b5
     refine aS rfl <| aB rfl <| en <| x_seq <| x_seq ?_
     rw [show List.drop (cntK (List.drop 1 (rd2 s))) (List.drop 1 (rd2 s)) = rd3 s by unfold rd3; rw [if_pos hD]]
     have hF : rdF s = decide (cntN ((rd2 s).drop 1) ≤ 1000) := by unfold rdF; rw [if_pos hD]
     have hP : rdP s = ((cntN ((rd2 s).drop 1) : Nat) : Int) := by unfold rdP; rw [if_pos hD]
     refine x_region rfl <| mB rfl <| Wp rfl <| st_not rfl <| mB rfl <| w_split (d := 58) rfl (fun g122 => ?_) (fun g122 => ?_)
     ·try simp only [nm, ne_eq] at g122
      have k1 : ¬ cntN (rdR s) ≤ 1000 := by first | omega | assumption
      refine w_no 2 58 false <| w_no 2 58 false <| pT rfl rfl <| mB rfl <| w_no 6 62 false <| w_no 6 62 false <| pT rfl rfl <| mB rfl ?_
      iterate 4 refine w_no 10 66 false ?_
      refine pT rfl rfl <| en <| x_cond (t := true) rfl (fun h2 => ?_) (fun h2 => ?_)
      rotate_left
      · exact absurd h2 (by decide)
      have hO : rdO s = false := by unfold rdO; rw [hF]; rw [decide_eq_false k1]; simp only [Bool.false_and]
      refine sr rfl <| Wp rfl <| st_loadA (vs := [_, _, _, _, _]) T.agg60 rfl (hb121.cells (n := 5) (vs := [_, _, _, _, _]) rfl) rfl <| Wp rfl <| st_store (v := .agg ⟨[.bool _, .bool _, .int _ _, .int _ _, .int _ _]⟩) T.size60 rfl rfl rfl hb2 rfl (Nat.le_of_ble_eq_true rfl) (by simp [Value.oneCell', S]) rfl ?_
      intro w123 c124 hb125; simp only [setVs, setV] at hb125
      clear hb2
      replace HC := HC.then1 c124 ge_b2
      replace hb121 := hb121.tr1 c124 (Ne.symm ne_b2_b5)
      refine aS rfl <| aB rfl <| en <| x_ret <| then_r <| ret_many (vs := [.agg ⟨[_, _, _, _, _]⟩, S _, .bool _]) rfl ⟨⟨_, _, rfl, run_loadVarA T.agg60 (hb125.cells (n := 5) rfl) rfl⟩, ⟨rfl, ⟨rfl, trivial⟩⟩⟩ (Nat.le_of_ble_eq_true rfl) <| ⟨?_, HC⟩
      unfold rdX; rw [hO, hL, hZ, hP]; rfl
     ·try simp only [nm, ne_eq] at g122
      have k1 : cntN (rdR s) ≤ 1000 := by first | omega | assumption
      refine w_yes 2 58 false <| st_move (v := .bool _) rfl <| w_yes 2 58 false <| st_not rfl <| pF rfl rfl <| mB rfl <| w_split (d := 62) rfl (fun g126 => ?_) (fun g126 => ?_)
      ·try simp only [nm, ne_eq] at g126
       have k2 : ¬ cntN ((rd2 s).drop 1) ≤ 1000 := by first | omega | assumption
       refine w_no 6 62 false <| w_no 6 62 false <| pT rfl rfl <| mB rfl ?_
       iterate 4 refine w_no 10 66 false ?_
       refine pT rfl rfl <| en <| x_cond (t := true) rfl (fun h2 => ?_) (fun h2 => ?_)
       rotate_left
       · exact absurd h2 (by decide)
       have hO : rdO s = false := by unfold rdO; rw [hF]; rw [decide_eq_false k2]; simp only [Bool.and_false, Bool.false_and]
       refine sr rfl <| Wp rfl <| st_loadA (vs := [_, _, _, _, _]) T.agg60 rfl (hb121.cells (n := 5) (vs := [_, _, _, _, _]) rfl) rfl <| Wp rfl <| st_store (v := .agg ⟨[.bool _, .bool _, .int _ _, .int _ _, .int _ _]⟩) T.size60 rfl rfl rfl hb2 rfl (Nat.le_of_ble_eq_true rfl) (by simp [Value.oneCell', S]) rfl ?_
       intro w127 c128 hb129; simp only [setVs, setV] at hb129
       clear hb2
       replace HC := HC.then1 c128 ge_b2
       replace hb121 := hb121.tr1 c128 (Ne.symm ne_b2_b5)
       refine aS rfl <| aB rfl <| en <| x_ret <| then_r <| ret_many (vs := [.agg ⟨[_, _, _, _, _]⟩, S _, .bool _]) rfl ⟨⟨_, _, rfl, run_loadVarA T.agg60 (hb129.cells (n := 5) rfl) rfl⟩, ⟨rfl, ⟨rfl, trivial⟩⟩⟩ (Nat.le_of_ble_eq_true rfl) <| ⟨?_, HC⟩
       unfold rdX; rw [hO, hL, hZ, hP]; rfl
      ·try simp only [nm, ne_eq] at g126
       have k2 : cntN ((rd2 s).drop 1) ≤ 1000 := by first | omega | assumption
       refine w_yes 6 62 false <| st_move (v := S _) rfl <| w_yes 6 62 false <| st_seql rfl rfl <| pF rfl rfl <| mB rfl <| w_split (d := 66) rfl (fun g130 => ?_) (fun g130 => ?_)
       ·try simp only [nm, ne_eq] at g130
        have k3 : rd3 s = [] := by assumption
        iterate 4 refine w_no 10 66 false ?_
        refine pT rfl rfl <| en <| x_cond (t := true) rfl (fun h2 => ?_) (fun h2 => ?_)
        rotate_left
        · exact absurd h2 (by decide)
        have hO : rdO s = false := by unfold rdO; rw [hF]; rw [decide_eq_true k3]; simp only [Bool.not_true, Bool.and_false, Bool.false_and]
        refine sr rfl <| Wp rfl <| st_loadA (vs := [_, _, _, _, _]) T.agg60 rfl (hb121.cells (n := 5) (vs := [_, _, _, _, _]) rfl) rfl <| Wp rfl <| st_store (v := .agg ⟨[.bool _, .bool _, .int _ _, .int _ _, .int _ _]⟩) T.size60 rfl rfl rfl hb2 rfl (Nat.le_of_ble_eq_true rfl) (by simp [Value.oneCell', S]) rfl ?_
        intro w131 c132 hb133; simp only [setVs, setV] at hb133
        clear hb2
        replace HC := HC.then1 c132 ge_b2
        replace hb121 := hb121.tr1 c132 (Ne.symm ne_b2_b5)
        refine aS rfl <| aB rfl <| en <| x_ret <| then_r <| ret_many (vs := [.agg ⟨[_, _, _, _, _]⟩, S _, .bool _]) rfl ⟨⟨_, _, rfl, run_loadVarA T.agg60 (hb133.cells (n := 5) rfl) rfl⟩, ⟨rfl, ⟨rfl, trivial⟩⟩⟩ (Nat.le_of_ble_eq_true rfl) <| ⟨?_, HC⟩
        unfold rdX; rw [hO, hL, hZ, hP]; rfl
       ·try simp only [nm, ne_eq] at g130
        have k3 : ¬ rd3 s = [] := by assumption
        refine w_yes 10 66 false <| st_move (v := S _) rfl <| w_yes 10 66 false <| st_sidx T.u9 rfl rfl (by (have := List.length_pos_iff.2 (by assumption : rd3 s ≠ []); omega)) (by (have := List.length_pos_iff.2 (by assumption : rd3 s ≠ []); omega)) <| w_yes 10 66 false <| st_call (ags := [_, _]) rfl rfl T.ent31 rfl (IndexByte_spec [100, 105, 117, 111, 120, 88, 99, 115, 98] (byte (rd3 s) 0) _) ?_
        rintro _ w134 ⟨rfl, c135⟩
        replace HC := HC.then c135
        replace hb2 := hb2.tr0 c135
        replace hb121 := hb121.tr0 c135
        refine w_yes 10 66 false <| st_lss rfl rfl <| pF rfl rfl <| en <| x_cond rfl (fun h2 => ?_) (fun h2 => ?_)
        ·try simp only [nm, ne_eq] at h2
         have hO : rdO s = false := by unfold rdO; rw [hF]; rw [decide_eq_false (show ¬ 0 ≤ idx [100, 105, 117, 111, 120, 88, 99, 115, 98] (byte (rd3 s) 0) by omega)]; simp only [Bool.and_false]
         refine sr rfl <| Wp rfl <| st_loadA (vs := [_, _, _, _, _]) T.agg60 rfl (hb121.cells (n := 5) (vs := [_, _, _, _, _]) rfl) rfl <| Wp rfl <| st_store (v := .agg ⟨[.bool _, .bool _, .int _ _, .int _ _, .int _ _]⟩) T.size60 rfl rfl rfl hb2 rfl (Nat.le_of_ble_eq_true rfl) (by simp [Value.oneCell', S]) rfl ?_
         intro w136 c137 hb138; simp only [setVs, setV] at hb138
         clear hb2
         replace HC := HC.then1 c137 ge_b2
         replace hb121 := hb121.tr1 c137 (Ne.symm ne_b2_b5)
         refine aS rfl <| aB rfl <| en <| x_ret <| then_r <| ret_many (vs := [.agg ⟨[_, _, _, _, _]⟩, S _, .bool _]) rfl ⟨⟨_, _, rfl, run_loadVarA T.agg60 (hb138.cells (n := 5) rfl) rfl⟩, ⟨rfl, ⟨rfl, trivial⟩⟩⟩ (Nat.le_of_ble_eq_true rfl) <| ⟨?_, HC⟩
         unfold rdX; rw [hO, hL, hZ, hP]; rfl
        ·try simp only [nm, ne_eq] at h2
         have hne : rd3 s ≠ [] := k3
         have hO : rdO s = true := by unfold rdO; rw [hF, decide_eq_true k1, decide_eq_true k2, decide_eq_false k3, decide_eq_true (show 0 ≤ idx [100, 105, 117, 111, 120, 88, 99, 115, 98] (byte (rd3 s) 0) by omega)]; rfl
         refine x_skip <| then_n <| sr rfl <| mS rfl <| Wp rfl <| st_sidx T.u9 rfl rfl (by omega) (by (have := List.length_pos_iff.2 hne; omega)) <| fa T.fld60_4 rfl <| Wp rfl <| st_store (v := .int _ _) T.size5 rfl rfl rfl hb121 rfl (Nat.le_of_ble_eq_true rfl) (by simp [Value.oneCell', S]) rfl ?_
         intro w139 c140 hb141; simp only [setVs, setV] at hb141
         clear hb121
         replace HC := HC.then1 c140 ge_b5
         replace hb2 := hb2.tr1 c140 ne_b2_b5
         refine en <| x_seq <| x_draw [(0, 0), (1, 0), (2, 0), (3, 1), (4, 0), (5, 0)] T.mixed rfl rfl rfl (fun W => W.heap[b5]? = w139.heap[b5]? ∧ True) ⟨rfl, trivial⟩ ?_
         have o144 := hb141
         have c143 := Chg.drew w139
         generalize World.drew w139 = w142 at c143 ⊢
         replace HC := HC.then c143
         replace hb2 := hb2.tr0 c143
         replace hb141 := hb141.tr0 c143
         refine sq_q rfl (fun W hT => r_loadA (vs := [_, _, _, _, _]) T.agg60 rfl (Blk.cells (n := 5) (vs := [_, _, _, _, _]) (show Blk W b5 _ _ from hT.1.trans o144) rfl) rfl) <| sq_q rfl (fun W hT => r_move (v := S _) rfl) <| sq_q rfl (fun W hT => r_sslo (i := 1) T.u9 rfl ⟨_, rfl⟩ (by (have := List.length_pos_iff.2 hne; omega))) <| sq_store1 rfl T.size60 (v := .agg ⟨[.bool _, .bool _, .int _ _, .int _ _, .int _ _]⟩) rfl rfl rfl hb2 rfl (Nat.le_of_ble_eq_true rfl) (by simp [Value.oneCell', S]) rfl ?_
         intro w145 c146 hb147; simp only [setVs, setV] at hb147
         clear hb2
         replace HC := HC.then1 c146 ge_b2
         replace hb141 := hb141.tr1 c146 (Ne.symm ne_b2_b5)
         refine ⟨_, fun _ h => h, ⟨(Eq.trans hb141 o144.symm), trivial⟩, ?_⟩
         refine sq_q rfl (fun W hT => r_assign (v := S _) rfl) <| sq_q rfl (fun W hT => r_assign (v := .bool _) rfl) ?_
         clear o144
         refine sq_nil <| then_n <| x_ret <| ret_many (vs := [.agg ⟨[_, _, _, _, _]⟩, S _, .bool _]) rfl ⟨⟨_, _, rfl, run_loadVarA T.agg60 (hb147.cells (n := 5) rfl) rfl⟩, ⟨rfl, ⟨rfl, trivial⟩⟩⟩ (Nat.le_of_ble_eq_true rfl) <| ⟨?_, HC⟩
         unfold rdX; rw [hO, hL, hZ, hP]; rfl
    ·try simp only [nm, ne_eq] at h1
     have hD : rdD s = false := by first | assumption | simp_all
     refine x_skip <| then_n <| x_seq <| x_seq ?_
     rw [show List.drop (cntK (rdR s)) (rdR s) = rd3 s by unfold rd3; rw [if_neg (by rw [hD]; decide)]; rfl]
     have hF : rdF s = true := by unfold rdF; rw [if_neg (by rw [hD]; decide)]
     have hP : rdP s = -1 := by unfold rdP; rw [if_neg (by rw [hD]; decide)]
     refine x_region rfl <| mB rfl <| Wp rfl <| st_not rfl <| mB rfl <| w_split (d := 58) rfl (fun g148 => ?_) (fun g148 => ?_)
     ·try simp only [nm, ne_eq] at g148
      have k1 : ¬ cntN (rdR s) ≤ 1000 := by first | omega | assumption
      refine w_no 2 58 false <| w_no 2 58 false <| pT rfl rfl <| mB rfl <| w_no 6 62 false <| w_no 6 62 false <| pT rfl rfl <| mB rfl ?_
      iterate 4 refine w_no 10 66 false ?_
      refine pT rfl rfl <| en <| x_cond (t := true) rfl (fun h2 => ?_) (fun h2 => ?_)
      rotate_left
      · exact absurd h2 (by decide)
      have hO : rdO s = false := by unfold rdO; rw [hF]; rw [decide_eq_false k1]; simp only [Bool.false_and]
      refine sr rfl <| Wp rfl <| st_loadA (vs := [_, _, _, _, _]) T.agg60 rfl (hb114.cells (n := 5) (vs := [_, _, _, _, _]) rfl) rfl <| Wp rfl <| st_store (v := .agg ⟨[.bool _, .bool _, .int _ _, .int _ _, .int _ _]⟩) T.size60 rfl rfl rfl hb2 rfl (Nat.le_of_ble_eq_true rfl) (by simp [Value.oneCell', S]) rfl ?_
      intro w149 c150 hb151; simp only [setVs, setV] at hb151
      clear hb2
      replace HC := HC.then1 c150 ge_b2
      replace hb114 := hb114.tr1 c150 (Ne.symm ne_b2_b5)
      refine aS rfl <| aB rfl <| en <| x_ret <| then_r <| ret_many (vs := [.agg ⟨[_, _, _, _, _]⟩, S _, .bool _]) rfl ⟨⟨_, _, rfl, run_loadVarA T.agg60 (hb151.cells (n := 5) rfl) rfl⟩, ⟨rfl, ⟨rfl, trivial⟩⟩⟩ (Nat.le_of_ble_eq_true rfl) <| ⟨?_, HC⟩
      unfold rdX; rw [hO, hL, hZ, hP]; rfl
     ·try simp only [nm, ne_eq] at g148
      have k1 : cntN (rdR s) ≤ 1000 := by first | omega | assumption
      refine w_yes 2 58 false <| st_move (v := .bool _) rfl <| w_yes 2 58 false <| st_not rfl <| pF rfl rfl <| mB rfl <| w_yes 6 62 false <| st_move (v := S _) rfl <| w_yes 6 62 false <| st_seql rfl rfl <| pF rfl rfl <| mB rfl <| w_split (d := 66) rfl (fun g152 => ?_) (fun g152 => ?_)
      ·try simp only [nm, ne_eq] at g152
       have k3 : rd3 s = [] := by assumption
       iterate 4 refine w_no 10 66 false ?_
       refine pT rfl rfl <| en <| x_cond (t := true) rfl (fun h2 => ?_) (fun h2 => ?_)
       rotate_left
       · exact absurd h2 (by decide)
       have hO : rdO s = false := by unfold rdO; rw [hF]; rw [decide_eq_true k3]; simp only [Bool.not_true, Bool.and_false, Bool.false_and]
       refine sr rfl <| Wp rfl <| st_loadA (vs := [_, _, _, _, _]) T.agg60 rfl (hb114.cells (n := 5) (vs := [_, _, _, _, _]) rfl) rfl <| Wp rfl <| st_store (v := .agg ⟨[.bool _, .bool _, .int _ _, .int _ _, .int _ _]⟩) T.size60 rfl rfl rfl hb2 rfl (Nat.le_of_ble_eq_true rfl) (by simp [Value.oneCell', S]) rfl ?_
       intro w153 c154 hb155; simp only [setVs, setV] at hb155
       clear hb2
       replace HC := HC.then1 c154 ge_b2
       replace hb114 := hb114.tr1 c154 (Ne.symm ne_b2_b5)
       refine aS rfl <| aB rfl <| en <| x_ret <| then_r <| ret_many (vs := [.agg ⟨[_, _, _, _, _]⟩, S _, .bool _]) rfl ⟨⟨_, _, rfl, run_loadVarA T.agg60 (hb155.cells (n := 5) rfl) rfl⟩, ⟨rfl, ⟨rfl, trivial⟩⟩⟩ (Nat.le_of_ble_eq_true rfl) <| ⟨?_, HC⟩
       unfold rdX; rw [hO, hL, hZ, hP]; rfl
      ·try simp only [nm, ne_eq] at g152
       have k3 : ¬ rd3 s = [] := by assumption
       refine w_yes 10 66 false <| st_move (v := S _) rfl <| w_yes 10 66 false <| st_sidx T.u9 rfl rfl (by (have := List.length_pos_iff.2 (by assumption : rd3 s ≠ []); omega)) (by (have := List.length_pos_iff.2 (by assumption : rd3 s ≠ []); omega)) <| w_yes 10 66 false <| st_call (ags := [_, _]) rfl rfl T.ent31 rfl (IndexByte_spec [100, 105, 117, 111, 120, 88, 99, 115, 98] (byte (rd3 s) 0) _) ?_
       rintro _ w156 ⟨rfl, c157⟩
       replace HC := HC.then c157
       replace hb2 := hb2.tr0 c157
       replace hb114 := hb114.tr0 c157
       refine w_yes 10 66 false <| st_lss rfl rfl <| pF rfl rfl <| en <| x_cond rfl (fun h2 => ?_) (fun h2 => ?_)
       ·try simp only [nm, ne_eq] at h2
        have hO : rdO s = false := by unfold rdO; rw [hF]; rw [decide_eq_false (show ¬ 0 ≤ idx [100, 105, 117, 111, 120, 88, 99, 115, 98] (byte (rd3 s) 0) by omega)]; simp only [Bool.and_false]
        refine sr rfl <| Wp rfl <| st_loadA (vs := [_, _, _, _, _]) T.agg60 rfl (hb114.cells (n := 5) (vs := [_, _, _, _, _]) rfl) rfl <| Wp rfl <| st_store (v := .agg ⟨[.bool _, .bool _, .int _ _, .int _ _, .int _ _]⟩) T.size60 rfl rfl rfl hb2 rfl (Nat.le_of_ble_eq_true rfl) (by simp [Value.oneCell', S]) rfl ?_
        intro w158 c159 hb160; simp only [setVs, setV] at hb160
        clear hb2
        replace HC := HC.then1 c159 ge_b2
        replace hb114 := hb114.tr1 c159 (Ne.symm ne_b2_b5)
        refine aS rfl <| aB rfl <| en <| x_ret <| then_r <| ret_many (vs := [.agg ⟨[_, _, _, _, _]⟩, S _, .bool _]) rfl ⟨⟨_, _, rfl, run_loadVarA T.agg60 (hb160.cells (n := 5) rfl) rfl⟩, ⟨rfl, ⟨rfl, trivial⟩⟩⟩ (Nat.le_of_ble_eq_true rfl) <| ⟨?_, HC⟩
        unfold rdX; rw [hO, hL, hZ, hP]; rfl
       ·try simp only [nm, ne_eq] at h2
        have hne : rd3 s ≠ [] := k3
        have hO : rdO s = true := by unfold rdO; rw [hF, decide_eq_true k1, decide_eq_false k3, decide_eq_true (show 0 ≤ idx [100, 105, 117, 111, 120, 88, 99, 115, 98] (byte (rd3 s) 0) by omega)]; rfl
        refine x_skip <| then_n <| sr rfl <| mS rfl <| Wp rfl <| st_sidx T.u9 rfl rfl (by omega) (by (have := List.length_pos_iff.2 hne; omega)) <| fa T.fld60_4 rfl <| Wp rfl <| st_store (v := .int _ _) T.size5 rfl rfl rfl hb114 rfl (Nat.le_of_ble_eq_true rfl) (by simp [Value.oneCell', S]) rfl ?_
        intro w161 c162 hb163; simp only [setVs, setV] at hb163
        clear hb114
        replace HC := HC.then1 c162 ge_b5
        replace hb2 := hb2.tr1 c162 ne_b2_b5
        refine en <| x_seq <| x_draw [(0, 0), (1, 0), (2, 0), (3, 1), (4, 0), (5, 0)] T.mixed rfl rfl rfl (fun W => W.heap[b5]? = w161.heap[b5]? ∧ True) ⟨rfl, trivial⟩ ?_
        have o166 := hb163
        have c165 := Chg.drew w161
        generalize World.drew w161 = w164 at c165 ⊢
        replace HC := HC.then c165
        replace hb2 := hb2.tr0 c165
        replace hb163 := hb163.tr0 c165
        refine sq_q rfl (fun W hT => r_loadA (vs := [_, _, _, _, _]) T.agg60 rfl (Blk.cells (n := 5) (vs := [_, _, _, _, _]) (show Blk W b5 _ _ from hT.1.trans o166) rfl) rfl) <| sq_q rfl (fun W hT => r_move (v := S _) rfl) <| sq_q rfl (fun W hT => r_sslo (i := 1) T.u9 rfl ⟨_, rfl⟩ (by (have := List.length_pos_iff.2 hne; omega))) <| sq_store1 rfl T.size60 (v := .agg ⟨[.bool _, .bool _, .int _ _, .int _ _, .int _ _]⟩) rfl rfl rfl hb2 rfl (Nat.le_of_ble_eq_true rfl) (by simp [Value.oneCell', S]) rfl ?_
        intro w167 c168 hb169; simp only [setVs, setV] at hb169
        clear hb2
        replace HC := HC.then1 c168 ge_b2
        replace hb163 := hb163.tr1 c168 (Ne.symm ne_b2_b5)
        refine ⟨_, fun _ h => h, ⟨(Eq.trans hb163 o166.symm), trivial⟩, ?_⟩
        refine sq_q rfl (fun W hT => r_assign (v := S _) rfl) <| sq_q rfl (fun W hT => r_assign (v := .bool _) rfl) ?_
        clear o166
        refine sq_nil <| then_n <| x_ret <| ret_many (vs := [.agg ⟨[_, _, _, _, _]⟩, S _, .bool _]) rfl ⟨⟨_, _, rfl, run_loadVarA T.agg60 (hb169.cells (n := 5) rfl) rfl⟩, ⟨rfl, ⟨rfl, trivial⟩⟩⟩ (Nat.le_of_ble_eq_true rfl) <| ⟨?_, HC⟩
        unfold rdX; rw [hO, hL, hZ, hP]; rfl
 ·try simp only [nm, ne_eq] at g14
  have hr0 : r = [] := by first | assumption | (simp at *; assumption)
  iterate 4 refine w_no 2 11 true ?_
  iterate 3 refine w_no 6 15 false ?_
  refine w_no 2 11 true <| pF rfl rfl <| en <| x_cond (t := false) rfl (fun h0 => ?_) (fun h0 => ?_)
  · exact absurd h0 (by decide)
  have hfr : flgV s false false = (r, l, z) := by rw [hfl]; first | exact flg_off hc45 (by first | assumption | simp_all) | (rw [hr0]; exact flg_nil)
  have hR : rdR s = r := by unfold rdR; rw [hfr]
  rw [← hR]
  have hL : (flgV s false false).2.1 = l := by rw [hfr]
  have hZ : (flgV s false false).2.2 = z := by rw [hfr]
  refine x_exit <| then_x <| then_x <| block_x <| then_n <| sr rfl <| aB rfl <| aB rfl <| en <| x_seq <| sr rfl <| mS rfl <| Wp rfl <| st_call (ags := [_]) rfl rfl T.ent37 rfl (count_spec (rdR s) _ (by omega)) ?_
  rintro _ w170 ⟨rfl, c171⟩
  replace HC := HC.then c171
  replace hb5 := hb5.tr0 c171
  replace hb2 := hb2.tr0 c171
  refine mv (v := .tuple ⟨[_, _, _]⟩) rfl <| Wp rfl <| st_extract (vs := [_, _, _]) (v := .int _ _) rfl rfl <| Wp rfl <| st_extract (vs := [_, _, _]) (v := S _) rfl rfl <| Wp rfl <| st_extract (vs := [_, _, _]) (v := .bool _) rfl rfl <| fa T.fld60_2 rfl <| Wp rfl <| st_store (v := .int _ _) T.size3 rfl rfl rfl hb5 rfl (Nat.le_of_ble_eq_true rfl) (by simp [Value.oneCell', S]) rfl ?_
  intro w172 c173 hb174; simp only [setVs, setV] at hb174
  clear hb5
  replace HC := HC.then1 c173 ge_b5
  replace hb2 := hb2.tr1 c173 ne_b2_b5
  refine aS rfl <| aB rfl <| en <| sr rfl <| mS rfl <| Wp rfl <| st_call (ags := [_, _]) rfl rfl T.ent25 rfl (HasPrefix_spec _ _ _) ?_
  rintro _ w175 ⟨rfl, c176⟩
  replace HC := HC.then c176
  replace hb2 := hb2.tr0 c176
  replace hb174 := hb174.tr0 c176
  refine en <| x_cond rfl (fun h1 => ?_) (fun h1 => ?_)
  ·try simp only [nm, ne_eq] at h1
   have hD : rdD s = true := by first | assumption | simp_all
   have hp1 : 1 ≤ (rd2 s).length := hp_pos hD
   refine x_region rfl <| mS rfl <| Wp rfl <| st_sslo (i := 1) T.u9 rfl ⟨_, rfl⟩ (by exact hp1) <| Wp rfl <| st_call (ags := [_]) rfl rfl T.ent37 rfl (count_spec ((rd2 s).drop 1) _ (by rw [List.length_drop]; omega)) ?_
   rintro _ w177 ⟨rfl, c178⟩
   replace HC := HC.then c178
   replace hb2 := hb2.tr0 c178
   replace hb174 := hb174.tr0 c178
   refine mv (v := .tuple ⟨[_, _, _]⟩) rfl <| Wp rfl <| st_extract (vs := [_, _, _]) (v := .int _ _) rfl rfl <| Wp rfl <| st_extract (vs := [_, _, _]) (v := S _) rfl rfl <| Wp rfl <| st_extract (vs := [_, _, _]) (v := .bool _) rfl rfl <| fa T.fld60_3 rfl <| Wp rfl <| st_store (v := .int _ _) T.size3 rfl rfl rfl hb174 rfl (Nat.le_of_ble_eq_true rfl) (by simp [Value.oneCell', S]) rfl ?_
   intro w179 c180 hb181; simp only [setVs, setV] at hb181
   clear hb174
   replace HC := HC.then1 c180 ge_b5
   replace hb2 := hb2.tr1 c180 ne_b2_b5
   refine aS rfl <| aB rfl <| en <| x_seq <| x_seq ?_
   rw [show List.drop (cntK (List.drop 1 (rd2 s))) (List.drop 1 (rd2 s)) = rd3 s by unfold rd3; rw [if_pos hD]]
   have hF : rdF s = decide (cntN ((rd2 s).drop 1) ≤ 1000) := by unfold rdF; rw [if_pos hD]
   have hP : rdP s = ((cntN ((rd2 s).drop 1) : Nat) : Int) := by unfold rdP; rw [if_pos hD]
   refine x_region rfl <| mB rfl <| Wp rfl <| st_not rfl <| mB rfl <| w_split (d := 58) rfl (fun g182 => ?_) (fun g182 => ?_)
   ·try simp only [nm, ne_eq] at g182
    have k1 : ¬ cntN (rdR s) ≤ 1000 := by first | omega | assumption
    refine w_no 2 58 false <| w_no 2 58 false <| pT rfl rfl <| mB rfl <| w_no 6 62 false <| w_no 6 62 false <| pT rfl rfl <| mB rfl ?_
    iterate 4 refine w_no 10 66 false ?_
    refine pT rfl rfl <| en <| x_cond (t := true) rfl (fun h2 => ?_) (fun h2 => ?_)
    rotate_left
    · exact absurd h2 (by decide)
    have hO : rdO s = false := by unfold rdO; rw [hF]; rw [decide_eq_false k1]; simp only [Bool.false_and]
    refine sr rfl <| Wp rfl <| st_loadA (vs := [_, _, _, _, _]) T.agg60 rfl (hb181.cells (n := 5) (vs := [_, _, _, _, _]) rfl) rfl <| Wp rfl <| st_store (v := .agg ⟨[.bool _, .bool _, .int _ _, .int _ _, .int _ _]⟩) T.size60 rfl rfl rfl hb2 rfl (Nat.le_of_ble_eq_true rfl) (by simp [Value.oneCell', S]) rfl ?_
    intro w183 c184 hb185; simp only [setVs, setV] at hb185
    clear hb2
    replace HC := HC.then1 c184 ge_b2
    replace hb181 := hb181.tr1 c184 (Ne.symm ne_b2_b5)
    refine aS rfl <| aB rfl <| en <| x_ret <| then_r <| ret_many (vs := [.agg ⟨[_, _, _, _, _]⟩, S _, .bool _]) rfl ⟨⟨_, _, rfl, run_loadVarA T.agg60 (hb185.cells (n := 5) rfl) rfl⟩, ⟨rfl, ⟨rfl, trivial⟩⟩⟩ (Nat.le_of_ble_eq_true rfl) <| ⟨?_, HC⟩
    unfold rdX; rw [hO, hL, hZ, hP]; rfl
   ·try simp only [nm, ne_eq] at g182
    have k1 : cntN (rdR s) ≤ 1000 := by first | omega | assumption
    refine w_yes 2 58 false <| st_move (v := .bool _) rfl <| w_yes 2 58 false <| st_not rfl <| pF rfl rfl <| mB rfl <| w_split (d := 62) rfl (fun g186 => ?_) (fun g186 => ?_)
    ·try simp only [nm, ne_eq] at g186
     have k2 : ¬ cntN ((rd2 s).drop 1) ≤ 1000 := by first | omega | assumption
     refine w_no 6 62 false <| w_no 6 62 false <| pT rfl rfl <| mB rfl ?_
     iterate 4 refine w_no 10 66 false ?_
     refine pT rfl rfl <| en <| x_cond (t := true) rfl (fun h2 => ?_) (fun h2 => ?_)
     rotate_left
     · exact absurd h2 (by decide)
     have hO : rdO s = false := by unfold rdO; rw [hF]; rw [decide_eq_false k2]; simp only [Bool.and_false, Bool.false_and]
     refine sr rfl <| Wp rfl <| st_loadA (vs := [_, _, _, _, _]) T.agg60 rfl (hb181.cells (n := 5) (vs := [_, _, _, _, _]) rfl) rfl <| Wp rfl <| st_store (v := .agg ⟨[.bool _, .bool _, .int _ _, .int _ _, .int _ _]⟩) T.size60 rfl rfl rfl hb2 rfl (Nat.le_of_ble_eq_true rfl) (by simp [Value.oneCell', S]) rfl ?_
     intro w187 c188 hb189; simp only [setVs, setV] at hb189
     clear hb2
     replace HC := HC.then1 c188 ge_b2
     replace hb181 := hb181.tr1 c188 (Ne.symm ne_b2_b5)
     refine aS rfl <| aB rfl <| en <| x_ret <| then_r <| ret_many (vs := [.agg ⟨[_, _, _, _, _]⟩, S _, .bool _]) rfl ⟨⟨_, _, rfl, run_loadVarA T.agg60 (hb189.cells (n := 5) rfl) rfl⟩, ⟨rfl, ⟨rfl, trivial⟩⟩⟩ (Nat.le_of_ble_eq_true rfl) <| ⟨?_, HC⟩
     unfold rdX; rw [hO, hL, hZ, hP]; rfl
    ·try simp only [nm, ne_eq] at g186
     have k2 : cntN ((rd2 s).drop 1) ≤ 1000 := by first | omega | assumption
     refine w_yes 6 62 false <| st_move (v := S _) rfl <| w_yes 6 62 false <| st_seql rfl rfl <| pF rfl rfl <| mB rfl <| w_split (d := 66) rfl (fun g190 => ?_) (fun g190 => ?_)
     ·try simp only [nm, ne_eq] at g190
      have k3 : rd3 s = [] := by assumption
      iterate 4 refine w_no 10 66 false ?_
      refine pT rfl rfl <| en <| x_cond (t := true) rfl (fun h2 => ?_) (fun h2 => ?_)
      rotate_left
      · exact absurd h2 (by decide)
      have hO : rdO s = false := by unfold rdO; rw [hF]; rw [decide_eq_true k3]; simp only [Bool.not_true, Bool.and_false, Bool.false_and]
      refine sr rfl <| Wp rfl <| st_loadA (vs := [_, _, _, _, _]) T.agg60 rfl (hb181.cells (n := 5) (vs := [_, _, _, _, _]) rfl) rfl <| Wp rfl <| st_store (v := .agg ⟨[.bool _, .bool _, .int _ _, .int _ _, .int _ _]⟩) T.size60 rfl rfl rfl hb2 rfl (Nat.le_of_ble_eq_true rfl) (by simp [Value.oneCell', S]) rfl ?_
      intro w191 c192 hb193; simp only [setVs, setV] at hb193
      clear hb2
      replace HC := HC.then1 c192 ge_b2
      replace hb181 := hb181.tr1 c192 (Ne.symm ne_b2_b5)
      refine aS rfl <| aB rfl <| en <| x_ret <| then_r <| ret_many (vs := [.agg ⟨[_, _, _, _, _]⟩, S _, .bool _]) rfl ⟨⟨_, _, rfl, run_loadVarA T.agg60 (hb193.cells (n := 5) rfl) rfl⟩, ⟨rfl, ⟨rfl, trivial⟩⟩⟩ (Nat.le_of_ble_eq_true rfl) <| ⟨?_, HC⟩
      unfold rdX; rw [hO, hL, hZ, hP]; rfl
     ·try simp only [nm, ne_eq] at g190
      have k3 : ¬ rd3 s = [] := by assumption
      refine w_yes 10 66 false <| st_move (v := S _) rfl <| w_yes 10 66 false <| st_sidx T.u9 rfl rfl (by (have := List.length_pos_iff.2 (by assumption : rd3 s ≠ []); omega)) (by (have := List.length_pos_iff.2 (by assumption : rd3 s ≠ []); omega)) <| w_yes 10 66 false <| st_call (ags := [_, _]) rfl rfl T.ent31 rfl (IndexByte_spec [100, 105, 117, 111, 120, 88, 99, 115, 98] (byte (rd3 s) 0) _) ?_
      rintro _ w194 ⟨rfl, c195⟩
      replace HC := HC.then c195
      replace hb2 := hb2.tr0 c195
      replace hb181 := hb181.tr0 c195
      refine w_yes 10 66 false <| st_lss rfl rfl <| pF rfl rfl <| en <| x_cond rfl (fun h2 => ?_) (fun h2 => ?_)
      ·try simp only [nm, ne_eq] at h2
       have hO : rdO s = false := by unfold rdO; rw [hF]; rw [decide_eq_false (show ¬ 0 ≤ idx [100, 105, 117, 111, 120, 88, 99, 115, 98] (byte (rd3 s) 0) by omega)]; simp only [Bool.and_false]
       refine sr rfl <| Wp rfl <| st_loadA (vs := [_, _, _, _, _]) T.agg60 rfl (hb181.cells (n := 5) (vs := [_, _, _, _, _]) rfl) rfl <| Wp rfl <| st_store (v := .agg ⟨[.bool _, .bool _, .int _ _, .int _ _, .int _ _]⟩) T.size60 rfl rfl rfl hb2 rfl (Nat.le_of_ble_eq_true rfl) (by simp [Value.oneCell', S]) rfl ?_
       intro w196 c197 hb198; simp only [setVs, setV] at hb198
       clear hb2
       replace HC := HC.then1 c197 ge_b2
       replace hb181 := hb181.tr1 c197 (Ne.symm ne_b2_b5)
       refine aS rfl <| aB rfl <| en <| x_ret <| then_r <| ret_many (vs := [.agg ⟨[_, _, _, _, _]⟩, S _, .bool _]) rfl ⟨⟨_, _, rfl, run_loadVarA T.agg60 (hb198.cells (n := 5) rfl) rfl⟩, ⟨rfl, ⟨rfl, trivial⟩⟩⟩ (Nat.le_of_ble_eq_true rfl) <| ⟨?_, HC⟩
       unfold rdX; rw [hO, hL, hZ, hP]; rfl
      ·try simp only [nm, ne_eq] at h2
       have hne : rd3 s ≠ [] := k3
       have hO : rdO s = true := by unfold rdO; rw [hF, decide_eq_true k1, decide_eq_true k2, decide_eq_false k3, decide_eq_true (show 0 ≤ idx [100, 105, 117, 111, 120, 88, 99, 115, 98] (byte (rd3 s) 0) by omega)]; rfl
       refine x_skip <| then_n <| sr rfl <| mS rfl <| Wp rfl <| st_sidx T.u9 rfl rfl (by omega) (by (have := List.length_pos_iff.2 hne; omega)) <| fa T.fld60_4 rfl <| Wp rfl <| st_store (v := .int _ _) T.size5 rfl rfl rfl hb181 rfl (Nat.le_of_ble_eq_true rfl) (by simp [Value.oneCell', S]) rfl ?_
       intro w199 c200 hb201; simp only [setVs, setV] at hb201
       clear hb181
       replace HC := HC.then1 c200 ge_b5
       replace hb2 := hb2.tr1 c200 ne_b2_b5
       refine en <| x_seq <| x_draw [(0, 0), (1, 0), (2, 0), (3, 1), (4, 0), (5, 0)] T.mixed rfl rfl rfl (fun W => W.heap[b5]? = w199.heap[b5]? ∧ True) ⟨rfl, trivial⟩ ?_
       have o204 := hb201
       have c203 := Chg.drew w199
       generalize World.drew w199 = w202 at c203 ⊢
       replace HC := HC.then c203
       replace hb2 := hb2.tr0 c203
       replace hb201 := hb201.tr0 c203
       refine sq_q rfl (fun W hT => r_loadA (vs := [_, _, _, _, _]) T.agg60 rfl (Blk.cells (n := 5) (vs := [_, _, _, _, _]) (show Blk W b5 _ _ from hT.1.trans o204) rfl) rfl) <| sq_q rfl (fun W hT => r_move (v := S _) rfl) <| sq_q rfl (fun W hT => r_sslo (i := 1) T.u9 rfl ⟨_, rfl⟩ (by (have := List.length_pos_iff.2 hne; omega))) <| sq_store1 rfl T.size60 (v := .agg ⟨[.bool _, .bool _, .int _ _, .int _ _, .int _ _]⟩) rfl rfl rfl hb2 rfl (Nat.le_of_ble_eq_true rfl) (by simp [Value.oneCell', S]) rfl ?_
       intro w205 c206 hb207; simp only [setVs, setV] at hb207
       clear hb2
       replace HC := HC.then1 c206 ge_b2
       replace hb201 := hb201.tr1 c206 (Ne.symm ne_b2_b5)
       refine ⟨_, fun _ h => h, ⟨(Eq.trans hb201 o204.symm), trivial⟩, ?_⟩
       refine sq_q rfl (fun W hT => r_assign (v := S _) rfl) <| sq_q rfl (fun W hT => r_assign (v := .bool _) rfl) ?_
       clear o204
       refine sq_nil <| then_n <| x_ret <| ret_many (vs := [.agg ⟨[_, _, _, _, _]⟩, S _, .bool _]) rfl ⟨⟨_, _, rfl, run_loadVarA T.agg60 (hb207.cells (n := 5) rfl) rfl⟩, ⟨rfl, ⟨rfl, trivial⟩⟩⟩ (Nat.le_of_ble_eq_true rfl) <| ⟨?_, HC⟩
       unfold rdX; rw [hO, hL, hZ, hP]; rfl
  ·try simp only [nm, ne_eq] at h1
   have hD : rdD s = false := by first | assumption | simp_all
   refine x_skip <| then_n <| x_seq <| x_seq ?_
   rw [show List.drop (cntK (rdR s)) (rdR s) = rd3 s by unfold rd3; rw [if_neg (by rw [hD]; decide)]; rfl]
   have hF : rdF s = true := by unfold rdF; rw [if_neg (by rw [hD]; decide)]
   have hP : rdP s = -1 := by unfold rdP; rw [if_neg (by rw [hD]; decide)]
   refine x_region rfl <| mB rfl <| Wp rfl <| st_not rfl <| mB rfl <| w_split (d := 58) rfl (fun g208 => ?_) (fun g208 => ?_)
   ·try simp only [nm, ne_eq] at g208
    have k1 : ¬ cntN (rdR s) ≤ 1000 := by first | omega | assumption
    refine w_no 2 58 false <| w_no 2 58 false <| pT rfl rfl <| mB rfl <| w_no 6 62 false <| w_no 6 62 false <| pT rfl rfl <| mB rfl ?_
    iterate 4 refine w_no 10 66 false ?_
    refine pT rfl rfl <| en <| x_cond (t := true) rfl (fun h2 => ?_) (fun h2 => ?_)
    rotate_left
    · exact absurd h2 (by decide)
    have hO : rdO s = false := by unfold rdO; rw [hF]; rw [decide_eq_false k1]; simp only [Bool.false_and]
    refine sr rfl <| Wp rfl <| st_loadA (vs := [_, _, _, _, _]) T.agg60 rfl (hb174.cells (n := 5) (vs := [_, _, _, _, _]) rfl) rfl <| Wp rfl <| st_store (v := .agg ⟨[.bool _, .bool _, .int _ _, .int _ _, .int _ _]⟩) T.size60 rfl rfl rfl hb2 rfl (Nat.le_of_ble_eq_true rfl) (by simp [Value.oneCell', S]) rfl ?_
    intro w209 c210 hb211; simp only [setVs, setV] at hb211
    clear hb2
    replace HC := HC.then1 c210 ge_b2
    replace hb174 := hb174.tr1 c210 (Ne.symm ne_b2_b5)
    refine aS rfl <| aB rfl <| en <| x_ret <| then_r <| ret_many (vs := [.agg ⟨[_, _, _, _, _]⟩, S _, .bool _]) rfl ⟨⟨_, _, rfl, run_loadVarA T.agg60 (hb211.cells (n := 5) rfl) rfl⟩, ⟨rfl, ⟨rfl, trivial⟩⟩⟩ (Nat.le_of_ble_eq_true rfl) <| ⟨?_, HC⟩
    unfold rdX; rw [hO, hL, hZ, hP]; rfl
   ·try simp only [nm, ne_eq] at g208
    have k1 : cntN (rdR s) ≤ 1000 := by first | omega | assumption
    refine w_yes 2 58 false <| st_move (v := .bool _) rfl <| w_yes 2 58 false <| st_not rfl <| pF rfl rfl <| mB rfl <| w_yes 6 62 false <| st_move (v := S _) rfl <| w_yes 6 62 false <| st_seql rfl rfl <| pF rfl rfl <| mB rfl <| w_split (d := 66) rfl (fun g212 => ?_) (fun g212 => ?_)
    ·try simp only [nm, ne_eq] at g212
     have k3 : rd3 s = [] := by assumption
     iterate 4 refine w_no 10 66 false ?_
     refine pT rfl rfl <| en <| x_cond (t := true) rfl (fun h2 => ?_) (fun h2 => ?_)
     rotate_left
     · exact absurd h2 (by decide)
     have hO : rdO s = false := by unfold rdO; rw [hF]; rw [decide_eq_true k3]; simp only [Bool.not_true, Bool.and_false, Bool.false_and]
     refine sr rfl <| Wp rfl <| st_loadA (vs := [_, _, _, _, _]) T.agg60 rfl (hb174.cells (n := 5) (vs := [_, _, _, _, _]) rfl) rfl <| Wp rfl <| st_store (v := .agg ⟨[.bool _, .bool _, .int _ _, .int _ _, .int _ _]⟩) T.size60 rfl rfl rfl hb2 rfl (Nat.le_of_ble_eq_true rfl) (by simp [Value.oneCell', S]) rfl ?_
     intro w213 c214 hb215; simp only [setVs, setV] at hb215
     clear hb2
     replace HC := HC.then1 c214 ge_b2
     replace hb174 := hb174.tr1 c214 (Ne.symm ne_b2_b5)
     refine aS rfl <| aB rfl <| en <| x_ret <| then_r <| ret_many (vs := [.agg ⟨[_, _, _, _, _]⟩, S _, .bool _]) rfl ⟨⟨_, _, rfl, run_loadVarA T.agg60 (hb215.cells (n := 5) rfl) rfl⟩, ⟨rfl, ⟨rfl, trivial⟩⟩⟩ (Nat.le_of_ble_eq_true rfl) <| ⟨?_, HC⟩
     unfold rdX; rw [hO, hL, hZ, hP]; rfl
    ·try simp only [nm, ne_eq] at g212
     have k3 : ¬ rd3 s = [] := by assumption
     refine w_yes 10 66 false <| st_move (v := S _) rfl <| w_yes 10 66 false <| st_sidx T.u9 rfl rfl (by (have := List.length_pos_iff.2 (by assumption : rd3 s ≠ []); omega)) (by (have := List.length_pos_iff.2 (by assumption : rd3 s ≠ []); omega)) <| w_yes 10 66 false <| st_call (ags := [_, _]) rfl rfl T.ent31 rfl (IndexByte_spec [100, 105, 117, 111, 120, 88, 99, 115, 98] (byte (rd3 s) 0) _) ?_
     rintro _ w216 ⟨rfl, c217⟩
     replace HC := HC.then c217
     replace hb2 := hb2.tr0 c217
     replace hb174 := hb174.tr0 c217
     refine w_yes 10 66 false <| st_lss rfl rfl <| pF rfl rfl <| en <| x_cond rfl (fun h2 => ?_) (fun h2 => ?_)
     ·try simp only [nm, ne_eq] at h2
      have hO : rdO s = false := by unfold rdO; rw [hF]; rw [decide_eq_false (show ¬ 0 ≤ idx [100, 105, 117, 111, 120, 88, 99, 115, 98] (byte (rd3 s) 0) by omega)]; simp only [Bool.and_false]
      refine sr rfl <| Wp rfl <| st_loadA (vs := [_, _, _, _, _]) T.agg60 rfl (hb174.cells (n := 5) (vs := [_, _, _, _, _]) rfl) rfl <| Wp rfl <| st_store (v := .agg ⟨[.bool _, .bool _, .int _ _, .int _ _, .int _ _]⟩) T.size60 rfl rfl rfl hb2 rfl (Nat.le_of_ble_eq_true rfl) (by simp [Value.oneCell', S]) rfl ?_
      intro w218 c219 hb220; simp only [setVs, setV] at hb220
      clear hb2
      replace HC := HC.then1 c219 ge_b2
      replace hb174 := hb174.tr1 c219 (Ne.symm ne_b2_b5)
      refine aS rfl <| aB rfl <| en <| x_ret <| then_r <| ret_many (vs := [.agg ⟨[_, _, _, _, _]⟩, S _, .bool _]) rfl ⟨⟨_, _, rfl, run_loadVarA T.agg60 (hb220.cells (n := 5) rfl) rfl⟩, ⟨rfl, ⟨rfl, trivial⟩⟩⟩ (Nat.le_of_ble_eq_true rfl) <| ⟨?_, HC⟩
      unfold rdX; rw [hO, hL, hZ, hP]; rfl
     ·try simp only [nm, ne_eq] at h2
      have hne : rd3 s ≠ [] := k3
      have hO : rdO s = true := by unfold rdO; rw [hF, decide_eq_true k1, decide_eq_false k3, decide_eq_true (show 0 ≤ idx [100, 105, 117, 111, 120, 88, 99, 115, 98] (byte (rd3 s) 0) by omega)]; rfl
      refine x_skip <| then_n <| sr rfl <| mS rfl <| Wp rfl <| st_sidx T.u9 rfl rfl (by omega) (by (have := List.length_pos_iff.2 hne; omega)) <| fa T.fld60_4 rfl <| Wp rfl <| st_store (v := .int _ _) T.size5 rfl rfl rfl hb174 rfl (Nat.le_of_ble_eq_true rfl) (by simp [Value.oneCell', S]) rfl ?_
      intro w221 c222 hb223; simp only [setVs, setV] at hb223
      clear hb174
      replace HC := HC.then1 c222 ge_b5
      replace hb2 := hb2.tr1 c222 ne_b2_b5
      refine en <| x_seq <| x_draw [(0, 0), (1, 0), (2, 0), (3, 1), (4, 0), (5, 0)] T.mixed rfl rfl rfl (fun W => W.heap[b5]? = w221.heap[b5]? ∧ True) ⟨rfl, trivial⟩ ?_
      have o226 := hb223
      have c225 := Chg.drew w221
      generalize World.drew w221 = w224 at c225 ⊢
      replace HC := HC.then c225
      replace hb2 := hb2.tr0 c225
      replace hb223 := hb223.tr0 c225
      refine sq_q rfl (fun W hT => r_loadA (vs := [_, _, _, _, _]) T.agg60 rfl (Blk.cells (n := 5) (vs := [_, _, _, _, _]) (show Blk W b5 _ _ from hT.1.trans o226) rfl) rfl) <| sq_q rfl (fun W hT => r_move (v := S _) rfl) <| sq_q rfl (fun W hT => r_sslo (i := 1) T.u9 rfl ⟨_, rfl⟩ (by (have := List.length_pos_iff.2 hne; omega))) <| sq_store1 rfl T.size60 (v := .agg ⟨[.bool _, .bool _, .int _ _, .int _ _, .int _ _]⟩) rfl rfl rfl hb2 rfl (Nat.le_of_ble_eq_true rfl) (by simp [Value.oneCell', S]) rfl ?_
      intro w227 c228 hb229; simp only [setVs, setV] at hb229
      clear hb2
      replace HC := HC.then1 c228 ge_b2
      replace hb223 := hb223.tr1 c228 (Ne.symm ne_b2_b5)
      refine ⟨_, fun _ h => h, ⟨(Eq.trans hb223 o226.symm), trivial⟩, ?_⟩
      refine sq_q rfl (fun W hT => r_assign (v := S _) rfl) <| sq_q rfl (fun W hT => r_assign (v := .bool _) rfl) ?_
      clear o226
      refine sq_nil <| then_n <| x_ret <| ret_many (vs := [.agg ⟨[_, _, _, _, _]⟩, S _, .bool _]) rfl ⟨⟨_, _, rfl, run_loadVarA T.agg60 (hb229.cells (n := 5) rfl) rfl⟩, ⟨rfl, ⟨rfl, trivial⟩⟩⟩ (Nat.le_of_ble_eq_true rfl) <| ⟨?_, HC⟩
      unfold rdX; rw [hO, hL, hZ, hP]; rfl

end Go.Proofs.YtlpndcpbnbeohaaDoor.K
