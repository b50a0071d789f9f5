/- Parts: ticks, backslashes. -/
import Derived.Test.YtiiahnpgomdfmaaDoorPc
set_option linter.unusedVariables false
set_option linter.unusedSimpArgs false
set_option autoImplicit false
set_option maxRecDepth 20000
namespace Go.Proofs.YtiiahnpgomdfmaaDoor.K
open Go Go.Proofs Go.RowKit

theorem in3 {c : UInt8} : 0 ≤ idx [36, 92, 96] c ↔ c = 36 ∨ c = 92 ∨ c = 96 := by rw [idx_mem]; simp
theorem in4 {c : UInt8} : 0 ≤ idx ([36, 92, 96] ++ [34]) c ↔ c = 36 ∨ c = 92 ∨ c = 96 ∨ c = 34 := by rw [idx_mem]; simp
theorem u8_eq {c : UInt8} {k : Int} {d : UInt8} (h : (c.toNat : Int) = k) (hk : (d.toNat : Int) = k) : c = d := UInt8.toNat_inj.1 (by omega)
theorem byte_dropk (s : Bytes) (j k : Nat) : byte (s.drop j) k = byte s (j + k) := by simp [byte, List.getD_eq_getElem?_getD]

theorem back_spec (m : Int) (w : Bytes) (w0 : World) (hs : w.length < 4294967281) (hw : w ≠ []) : CallR Tryd.prog 59 #[.agg ⟨[.int .i64 m]⟩, S w] w0 fun v w' => PieceR w0 w' (backV m w).1 (backV m w).2 v := by
 refine callR_of_wp (args := [_, _]) Tryd.func59 rfl (Nat.le_of_ble_eq_true rfl) ?_
 have HC : Chg [] w0 w0 := .refl _
 have hw1 := List.length_pos_iff.2 hw
 refine sr rfl <| Wp rfl <| st_box (v := .agg ⟨[.int _ _]⟩) (vs := [_]) rfl rfl ?_
 intro b2 w1 e2 c3 hb4
 have ge_b2 : w0.heap.size ≤ b2 := by rw [e2]; exact HC.size
 replace HC := HC.then c3
 clear e2
 refine Wp rfl <| st_alloc T.zero78 ?_
 intro b4 w5 e6 c7 hb8
 have ge_b4 : w0.heap.size ≤ b4 := by rw [e6]; exact HC.size
 have ne_b2_b4 : b2 ≠ b4 := by rw [e6]; exact hb4.ne_size
 replace HC := HC.then c7
 replace hb4 := hb4.tr0 c7
 clear e6
 refine en <| sr rfl <| aS rfl <| en <| x_seq <| sr rfl <| fa T.fld46_0 rfl <| lI T.one3 rfl (hb4.cell rfl) <| Wp rfl <| st_eql rfl rfl <| en <| x_cond rfl (fun h0 => ?_) (fun h0 => ?_)
 ·try simp only [nm, ne_eq] at h0
  refine x_region rfl <| mS rfl <| Wp rfl <| st_sadd rfl rfl (by (try simp only [List.length_append, List.length_cons, List.length_nil] at *); omega) <| aS rfl <| en <| x_seq <| x_block <| sr rfl <| mS rfl <| Wp rfl <| st_call (ags := [_, _]) rfl rfl T.ent24 rfl (HasPrefix_spec _ _ _) ?_
  rintro _ w9 ⟨rfl, c10⟩
  replace HC := HC.then c10
  replace hb4 := hb4.tr0 c10
  replace hb8 := hb8.tr0 c10
  refine aB rfl <| en <| x_cond rfl (fun h1 => ?_) (fun h1 => ?_)
  ·try simp only [nm, ne_eq] at h1
   refine sr rfl <| Wp rfl <| st_bld (ps := [(1, .const (.int .i64 2))]) (vs := [.slice _ _ _, .int _ _]) T.bld78 rfl <| Wp rfl <| st_store (v := .agg ⟨[.slice _ _ _, .int _ _]⟩) T.size78 rfl rfl rfl hb8 rfl (Nat.le_of_ble_eq_true rfl) (by simp [Value.oneCell', S]) rfl ?_
   intro w11 c12 hb13; simp only [setVs, setV] at hb13
   clear hb8
   replace HC := HC.then1 c12 ge_b4
   replace hb4 := hb4.tr1 c12 ne_b2_b4
   refine en <| x_ret <| block_r <| then_r <| ret_cellA (vs := [_, _]) rfl rfl T.agg78 (hb13.cells (n := 2) rfl) rfl <| (?_ : PieceR _ _ _ _ _)
   rw [backV, if_pos h1]
   exact ⟨none, 0, rfl, .nil, HC⟩
  ·try simp only [nm, ne_eq] at h1
   refine sr rfl <| mS rfl <| Wp rfl <| st_slen (ct := #[9]) T.u9 rfl <| Wp rfl <| st_gtr rfl rfl <| mB rfl <| w_split (d := 19) rfl (fun g14 => ?_) (fun g14 => ?_)
   ·try simp only [nm, ne_eq] at g14
    have hl9 : 1 < w.length := by omega
    refine w_yes 3 19 true <| st_move (v := S _) rfl <| w_yes 3 19 true <| st_move (v := S _) rfl <| w_yes 3 19 true <| st_sidx T.u9 rfl rfl (by decide) (by omega) <| w_yes 3 19 true <| st_call (ags := [_, _]) rfl rfl T.ent26 rfl (IndexByte_spec ([36, 92, 96] ++ [34]) (byte w 1) _) ?_
    rintro _ w15 ⟨rfl, c16⟩
    replace HC := HC.then c16
    replace hb4 := hb4.tr0 c16
    replace hb8 := hb8.tr0 c16
    refine w_yes 3 19 true <| st_geq rfl rfl <| pT rfl rfl <| aB rfl <| en <| x_cond rfl (fun h2 => ?_) (fun h2 => ?_)
    ·try simp only [nm, ne_eq] at h2
     have hin : byte w 1 = 36 ∨ byte w 1 = 92 ∨ byte w 1 = 96 ∨ (m = 1 ∧ byte w 1 = 34) := by have h9 := in4.1 (by first | assumption | omega | simp_all); first | omega | (rcases h9 with h | h | h | h <;> simp [h, h0]) | (rcases h9 with h | h | h <;> simp [h])
     have hl1 : 1 < w.length := by first | omega | simp_all
     refine sr rfl <| mS rfl <| Wp rfl <| st_sslice (i := 1) (j := 2) T.u9 rfl ⟨_, rfl⟩ ⟨_, rfl⟩ (by omega) (by omega) <| Wp rfl <| st_call (ags := [_, _, _]) rfl rfl T.ent60 rfl (text_spec ((w.take 2).drop 1) true 2 _) ?_
     have lt1_hsl_b2 := hb4.lt
     have lt1_hsl_b4 := hb8.lt
     have sz1_hsl := HC.size
     rintro _ w17 ⟨A, cap, rfl, hsl, c18⟩
     replace HC := HC.then c18
     replace hb4 := hb4.tr0 c18
     replace hb8 := hb8.tr0 c18
     refine Wp rfl <| st_store (v := .agg ⟨[.slice _ _ _, .int _ _]⟩) T.size78 rfl rfl rfl hb8 rfl (Nat.le_of_ble_eq_true rfl) (by simp [Value.oneCell', S]) rfl ?_
     intro w19 c20 hb21; simp only [setVs, setV] at hb21
     clear hb8
     replace HC := HC.then1 c20 ge_b4
     replace hb4 := hb4.tr1 c20 ne_b2_b4
     replace hsl := hsl.tr c20 (by intro k hx hD; simp only [List.mem_singleton] at hx; subst hx; omega)
     refine en <| x_ret <| block_r <| then_r <| ret_cellA (vs := [_, _]) rfl rfl T.agg78 (hb21.cells (n := 2) rfl) rfl <| (?_ : PieceR _ _ _ _ _)
     rw [backV, if_neg (by rw [h1]; simp), if_pos ⟨hl1, hin⟩]
     exact ⟨_, _, rfl, (hsl.mono (fun k _ h => Nat.le_trans sz1_hsl h)), HC⟩
    ·try simp only [nm, ne_eq] at h2
     have hnin : ¬ (1 < w.length ∧ (byte w 1 = 36 ∨ byte w 1 = 92 ∨ byte w 1 = 96 ∨ (m = 1 ∧ byte w 1 = 34))) := by rintro ⟨h8, h9⟩; first | omega | (have h10 := (in4.2 (by rcases h9 with h | h | h | ⟨h, h2⟩; exact .inl h; exact .inr (.inl h); exact .inr (.inr (.inl h)); exact .inr (.inr (.inr h2)))); first | omega | simp_all)
     refine x_skip <| block_n <| then_n <| sr rfl <| Wp rfl <| st_call (ags := [_, _, _]) rfl rfl T.ent60 rfl (text_spec [92] true 1 _) ?_
     have lt1_hsl_b2 := hb4.lt
     have lt1_hsl_b4 := hb8.lt
     have sz1_hsl := HC.size
     rintro _ w22 ⟨A, cap, rfl, hsl, c23⟩
     replace HC := HC.then c23
     replace hb4 := hb4.tr0 c23
     replace hb8 := hb8.tr0 c23
     refine Wp rfl <| st_store (v := .agg ⟨[.slice _ _ _, .int _ _]⟩) T.size78 rfl rfl rfl hb8 rfl (Nat.le_of_ble_eq_true rfl) (by simp [Value.oneCell', S]) rfl ?_
     intro w24 c25 hb26; simp only [setVs, setV] at hb26
     clear hb8
     replace HC := HC.then1 c25 ge_b4
     replace hb4 := hb4.tr1 c25 ne_b2_b4
     replace hsl := hsl.tr c25 (by intro k hx hD; simp only [List.mem_singleton] at hx; subst hx; omega)
     refine en <| x_ret <| ret_cellA (vs := [_, _]) rfl rfl T.agg78 (hb26.cells (n := 2) rfl) rfl <| (?_ : PieceR _ _ _ _ _)
     rw [backV, if_neg (by rw [h1]; simp), if_neg hnin]
     exact ⟨_, _, rfl, (hsl.mono (fun k _ h => Nat.le_trans sz1_hsl h)), HC⟩
   ·try simp only [nm, ne_eq] at g14
    iterate 5 refine w_no 3 19 true ?_
    refine pF rfl rfl <| aB rfl <| en <| x_cond (t := false) rfl (fun h2 => ?_) (fun h2 => ?_)
    · exact absurd h2 (by decide)
    have hnin : ¬ (1 < w.length ∧ (byte w 1 = 36 ∨ byte w 1 = 92 ∨ byte w 1 = 96 ∨ (m = 1 ∧ byte w 1 = 34))) := by rintro ⟨h8, h9⟩; first | omega | (have h10 := (in4.2 (by rcases h9 with h | h | h | ⟨h, h2⟩; exact .inl h; exact .inr (.inl h); exact .inr (.inr (.inl h)); exact .inr (.inr (.inr h2)))); first | omega | simp_all)
    refine x_skip <| block_n <| then_n <| sr rfl <| Wp rfl <| st_call (ags := [_, _, _]) rfl rfl T.ent60 rfl (text_spec [92] true 1 _) ?_
    have lt1_hsl_b2 := hb4.lt
    have lt1_hsl_b4 := hb8.lt
    have sz1_hsl := HC.size
    rintro _ w27 ⟨A, cap, rfl, hsl, c28⟩
    replace HC := HC.then c28
    replace hb4 := hb4.tr0 c28
    replace hb8 := hb8.tr0 c28
    refine Wp rfl <| st_store (v := .agg ⟨[.slice _ _ _, .int _ _]⟩) T.size78 rfl rfl rfl hb8 rfl (Nat.le_of_ble_eq_true rfl) (by simp [Value.oneCell', S]) rfl ?_
    intro w29 c30 hb31; simp only [setVs, setV] at hb31
    clear hb8
    replace HC := HC.then1 c30 ge_b4
    replace hb4 := hb4.tr1 c30 ne_b2_b4
    replace hsl := hsl.tr c30 (by intro k hx hD; simp only [List.mem_singleton] at hx; subst hx; omega)
    refine en <| x_ret <| ret_cellA (vs := [_, _]) rfl rfl T.agg78 (hb31.cells (n := 2) rfl) rfl <| (?_ : PieceR _ _ _ _ _)
    rw [backV, if_neg (by rw [h1]; simp), if_neg hnin]
    exact ⟨_, _, rfl, (hsl.mono (fun k _ h => Nat.le_trans sz1_hsl h)), HC⟩
 ·try simp only [nm, ne_eq] at h0
  refine x_skip <| then_n <| x_seq <| x_block <| sr rfl <| mS rfl <| Wp rfl <| st_call (ags := [_, _]) rfl rfl T.ent24 rfl (HasPrefix_spec _ _ _) ?_
  rintro _ w32 ⟨rfl, c33⟩
  replace HC := HC.then c33
  replace hb4 := hb4.tr0 c33
  replace hb8 := hb8.tr0 c33
  refine aB rfl <| en <| x_cond rfl (fun h1 => ?_) (fun h1 => ?_)
  ·try simp only [nm, ne_eq] at h1
   refine sr rfl <| Wp rfl <| st_bld (ps := [(1, .const (.int .i64 2))]) (vs := [.slice _ _ _, .int _ _]) T.bld78 rfl <| Wp rfl <| st_store (v := .agg ⟨[.slice _ _ _, .int _ _]⟩) T.size78 rfl rfl rfl hb8 rfl (Nat.le_of_ble_eq_true rfl) (by simp [Value.oneCell', S]) rfl ?_
   intro w34 c35 hb36; simp only [setVs, setV] at hb36
   clear hb8
   replace HC := HC.then1 c35 ge_b4
   replace hb4 := hb4.tr1 c35 ne_b2_b4
   refine en <| x_ret <| block_r <| then_r <| ret_cellA (vs := [_, _]) rfl rfl T.agg78 (hb36.cells (n := 2) rfl) rfl <| (?_ : PieceR _ _ _ _ _)
   rw [backV, if_pos h1]
   exact ⟨none, 0, rfl, .nil, HC⟩
  ·try simp only [nm, ne_eq] at h1
   refine sr rfl <| mS rfl <| Wp rfl <| st_slen (ct := #[9]) T.u9 rfl <| Wp rfl <| st_gtr rfl rfl <| mB rfl <| w_split (d := 19) rfl (fun g37 => ?_) (fun g37 => ?_)
   ·try simp only [nm, ne_eq] at g37
    have hl9 : 1 < w.length := by omega
    refine w_yes 3 19 true <| st_move (v := S _) rfl <| w_yes 3 19 true <| st_move (v := S _) rfl <| w_yes 3 19 true <| st_sidx T.u9 rfl rfl (by decide) (by omega) <| w_yes 3 19 true <| st_call (ags := [_, _]) rfl rfl T.ent26 rfl (IndexByte_spec ([36, 92, 96]) (byte w 1) _) ?_
    rintro _ w38 ⟨rfl, c39⟩
    replace HC := HC.then c39
    replace hb4 := hb4.tr0 c39
    replace hb8 := hb8.tr0 c39
    refine w_yes 3 19 true <| st_geq rfl rfl <| pT rfl rfl <| aB rfl <| en <| x_cond rfl (fun h2 => ?_) (fun h2 => ?_)
    ·try simp only [nm, ne_eq] at h2
     have hin : byte w 1 = 36 ∨ byte w 1 = 92 ∨ byte w 1 = 96 ∨ (m = 1 ∧ byte w 1 = 34) := by have h9 := in3.1 (by first | assumption | omega | simp_all); first | omega | (rcases h9 with h | h | h | h <;> simp [h, h0]) | (rcases h9 with h | h | h <;> simp [h])
     have hl1 : 1 < w.length := by first | omega | simp_all
     refine sr rfl <| mS rfl <| Wp rfl <| st_sslice (i := 1) (j := 2) T.u9 rfl ⟨_, rfl⟩ ⟨_, rfl⟩ (by omega) (by omega) <| Wp rfl <| st_call (ags := [_, _, _]) rfl rfl T.ent60 rfl (text_spec ((w.take 2).drop 1) true 2 _) ?_
     have lt1_hsl_b2 := hb4.lt
     have lt1_hsl_b4 := hb8.lt
     have sz1_hsl := HC.size
     rintro _ w40 ⟨A, cap, rfl, hsl, c41⟩
     replace HC := HC.then c41
     replace hb4 := hb4.tr0 c41
     replace hb8 := hb8.tr0 c41
     refine Wp rfl <| st_store (v := .agg ⟨[.slice _ _ _, .int _ _]⟩) T.size78 rfl rfl rfl hb8 rfl (Nat.le_of_ble_eq_true rfl) (by simp [Value.oneCell', S]) rfl ?_
     intro w42 c43 hb44; simp only [setVs, setV] at hb44
     clear hb8
     replace HC := HC.then1 c43 ge_b4
     replace hb4 := hb4.tr1 c43 ne_b2_b4
     replace hsl := hsl.tr c43 (by intro k hx hD; simp only [List.mem_singleton] at hx; subst hx; omega)
     refine en <| x_ret <| block_r <| then_r <| ret_cellA (vs := [_, _]) rfl rfl T.agg78 (hb44.cells (n := 2) rfl) rfl <| (?_ : PieceR _ _ _ _ _)
     rw [backV, if_neg (by rw [h1]; simp), if_pos ⟨hl1, hin⟩]
     exact ⟨_, _, rfl, (hsl.mono (fun k _ h => Nat.le_trans sz1_hsl h)), HC⟩
    ·try simp only [nm, ne_eq] at h2
     have hnin : ¬ (1 < w.length ∧ (byte w 1 = 36 ∨ byte w 1 = 92 ∨ byte w 1 = 96 ∨ (m = 1 ∧ byte w 1 = 34))) := by rintro ⟨h8, h9⟩; first | omega | (have h10 := (in3.2 (by rcases h9 with h | h | h | ⟨h, h2⟩; exact .inl h; exact .inr (.inl h); exact .inr (.inr h); exact absurd h h0)); first | omega | simp_all)
     refine x_skip <| block_n <| then_n <| sr rfl <| Wp rfl <| st_call (ags := [_, _, _]) rfl rfl T.ent60 rfl (text_spec [92] true 1 _) ?_
     have lt1_hsl_b2 := hb4.lt
     have lt1_hsl_b4 := hb8.lt
     have sz1_hsl := HC.size
     rintro _ w45 ⟨A, cap, rfl, hsl, c46⟩
     replace HC := HC.then c46
     replace hb4 := hb4.tr0 c46
     replace hb8 := hb8.tr0 c46
     refine Wp rfl <| st_store (v := .agg ⟨[.slice _ _ _, .int _ _]⟩) T.size78 rfl rfl rfl hb8 rfl (Nat.le_of_ble_eq_true rfl) (by simp [Value.oneCell', S]) rfl ?_
     intro w47 c48 hb49; simp only [setVs, setV] at hb49
     clear hb8
     replace HC := HC.then1 c48 ge_b4
     replace hb4 := hb4.tr1 c48 ne_b2_b4
     replace hsl := hsl.tr c48 (by intro k hx hD; simp only [List.mem_singleton] at hx; subst hx; omega)
     refine en <| x_ret <| ret_cellA (vs := [_, _]) rfl rfl T.agg78 (hb49.cells (n := 2) rfl) rfl <| (?_ : PieceR _ _ _ _ _)
     rw [backV, if_neg (by rw [h1]; simp), if_neg hnin]
     exact ⟨_, _, rfl, (hsl.mono (fun k _ h => Nat.le_trans sz1_hsl h)), HC⟩
   ·try simp only [nm, ne_eq] at g37
    iterate 5 refine w_no 3 19 true ?_
    refine pF rfl rfl <| aB rfl <| en <| x_cond (t := false) rfl (fun h2 => ?_) (fun h2 => ?_)
    · exact absurd h2 (by decide)
    have hnin : ¬ (1 < w.length ∧ (byte w 1 = 36 ∨ byte w 1 = 92 ∨ byte w 1 = 96 ∨ (m = 1 ∧ byte w 1 = 34))) := by rintro ⟨h8, h9⟩; first | omega | (have h10 := (in3.2 (by rcases h9 with h | h | h | ⟨h, h2⟩; exact .inl h; exact .inr (.inl h); exact .inr (.inr h); exact absurd h h0)); first | omega | simp_all)
    refine x_skip <| block_n <| then_n <| sr rfl <| Wp rfl <| st_call (ags := [_, _, _]) rfl rfl T.ent60 rfl (text_spec [92] true 1 _) ?_
    have lt1_hsl_b2 := hb4.lt
    have lt1_hsl_b4 := hb8.lt
    have sz1_hsl := HC.size
    rintro _ w50 ⟨A, cap, rfl, hsl, c51⟩
    replace HC := HC.then c51
    replace hb4 := hb4.tr0 c51
    replace hb8 := hb8.tr0 c51
    refine Wp rfl <| st_store (v := .agg ⟨[.slice _ _ _, .int _ _]⟩) T.size78 rfl rfl rfl hb8 rfl (Nat.le_of_ble_eq_true rfl) (by simp [Value.oneCell', S]) rfl ?_
    intro w52 c53 hb54; simp only [setVs, setV] at hb54
    clear hb8
    replace HC := HC.then1 c53 ge_b4
    replace hb4 := hb4.tr1 c53 ne_b2_b4
    replace hsl := hsl.tr c53 (by intro k hx hD; simp only [List.mem_singleton] at hx; subst hx; omega)
    refine en <| x_ret <| ret_cellA (vs := [_, _]) rfl rfl T.agg78 (hb54.cells (n := 2) rfl) rfl <| (?_ : PieceR _ _ _ _ _)
    rw [backV, if_neg (by rw [h1]; simp), if_neg hnin]
    exact ⟨_, _, rfl, (hsl.mono (fun k _ h => Nat.le_trans sz1_hsl h)), HC⟩

theorem ticked_spec (m : Int) (s : Bytes) (n : Int) (w : World) (hs : s.length < 4294967281) : CallR Tryd.prog 62 #[.agg ⟨[.int .i64 m]⟩, S s, .int .i64 n] w fun v w' => PieceR w w' [⟨2, untick s, [], [], [], (!decide (m = 0))⟩] n v := by
 refine callR_of_wp (args := [_, _, _]) Tryd.func62 rfl (Nat.le_of_ble_eq_true rfl) ?_
 have HC : Chg [] w w := .refl _
 refine sr rfl <| Wp rfl <| st_box (v := .agg ⟨[.int _ _]⟩) (vs := [_]) rfl rfl ?_
 intro b3 w1 e2 c3 hb4
 have ge_b3 : w.heap.size ≤ b3 := by rw [e2]; exact HC.size
 replace HC := HC.then c3
 clear e2
 refine Wp rfl <| st_alloc T.zero78 ?_
 intro b6 w5 e6 c7 hb8
 have ge_b6 : w.heap.size ≤ b6 := by rw [e6]; exact HC.size
 have ne_b3_b6 : b3 ≠ b6 := by rw [e6]; exact hb4.ne_size
 replace HC := HC.then c7
 replace hb4 := hb4.tr0 c7
 clear e6
 refine en <| sr rfl <| Wp rfl <| st_alloc T.zero65 ?_
 intro b7 w9 e10 c11 hb12
 have ge_b7 : w.heap.size ≤ b7 := by rw [e10]; exact HC.size
 have ne_b3_b7 : b3 ≠ b7 := by rw [e10]; exact hb4.ne_size
 have ne_b6_b7 : b6 ≠ b7 := by rw [e10]; exact hb8.ne_size
 replace HC := HC.then c11
 replace hb4 := hb4.tr0 c11
 replace hb8 := hb8.tr0 c11
 clear e10
 refine en <| x_seq <| x_block ?_
 have hbd := BldP.new hb12
 have nob_b3 : b3 ∉ ob none := fun h => by cases h
 have nob_b6 : b6 ∉ ob none := fun h => by cases h
 refine x_loop (ι := Bytes × Bytes × Option Addr × Nat) [1, 8, 9, 10, 11, 12, 13, 14, 15, 16, 17, 18, 19, 20, 21, 22, 23, 24, 25, 26, 27, 28, 29, 30] (fun ⟨r, out, A, cap⟩ => [(1, S r)]) (fun ⟨r, out, A, cap⟩ W => (out.length + r.length ≤ s.length ∧ untick s = out ++ untick r ∧ (∀ k, k ∈ ob A → w.heap.size ≤ k) ∧ b3 ∉ ob A ∧ b6 ∉ ob A) ∧ (Chg [] w W) ∧ (Blk W b3 [.int .i64 m] 46) ∧ (Blk W b6 [.slice none 0 0, .int .i64 0] 78) ∧ (BldP W b7 A cap out [])) (fun ⟨r, out, A, cap⟩ => r.length) (s, [], none, 0) ?_ ?_ ?_
 · exact ⟨rfl, trivial⟩
 ·refine ⟨?_, HC, hb4, hb8, hbd⟩
  exact ⟨by simp, by simp, (fun k hk => by cases hk), nob_b3, nob_b6⟩
 intro ⟨r, out, A, cap⟩ G14 w13 ⟨⟨hol, htot, hob, nob_b3, nob_b6⟩, HC, hb4, hb8, hbd⟩
 change wp _ _ _ _ _ (upds (over _ _ G14) [(1, S r)]) _ _
 refine x_seq <| sr rfl <| mS rfl <| Wp rfl <| st_sneq rfl rfl <| en <| x_cond rfl (fun h0 => ?_) (fun h0 => ?_)
 ·try simp only [nm, ne_eq] at h0
  have hr1 := List.length_pos_iff.2 h0
  refine x_skip <| then_n <| x_block <| x_seq <| sr rfl <| mS rfl <| Wp rfl <| st_slen (ct := #[9]) T.u9 rfl <| Wp rfl <| st_gtr rfl rfl <| mB rfl <| w_split (d := 13) rfl (fun g15 => ?_) (fun g15 => ?_)
  ·try simp only [nm, ne_eq] at g15
   refine w_yes 3 13 true <| st_move (v := S _) rfl <| w_yes 3 13 true <| st_sidx T.u9 rfl rfl (by omega) (by omega) <| w_yes 3 13 true <| st_eql rfl rfl <| pT rfl rfl <| mB rfl <| w_split (d := 18) rfl (fun g16 => ?_) (fun g16 => ?_)
   ·try simp only [nm, ne_eq] at g16
    refine w_yes 8 18 true <| st_move (v := S _) rfl <| w_yes 8 18 true <| st_sidx T.u9 rfl rfl (by omega) (by omega) <| w_yes 8 18 true <| st_call (ags := [_, _]) rfl rfl T.ent26 rfl (IndexByte_spec [36, 92, 96] (byte r 1) _) ?_
    rintro _ w17 ⟨rfl, c18⟩
    replace HC := HC.then c18
    replace hb4 := hb4.tr0 c18
    replace hb8 := hb8.tr0 c18
    replace hbd := hbd.tr0 c18
    refine w_yes 8 18 true <| st_geq rfl rfl <| pT rfl rfl <| en <| x_cond rfl (fun h1 => ?_) (fun h1 => ?_)
    ·try simp only [nm, ne_eq] at h1
     have hce : byte r 0 = 92 := u8_eq (by assumption) rfl
     have hde := in3.1 (by first | assumption | omega)
     have hrl : 1 < r.length := by omega
     have hun : untick r = byte (r.drop 1) 0 :: untick ((r.drop 1).drop 1) := by rw [List.drop_drop, byte_dropk]; exact untick_esc hrl hce hde
     refine x_region rfl <| mS rfl <| Wp rfl <| st_sslo (i := 1) T.u9 rfl ⟨_, rfl⟩ (by omega) <| aS rfl <| en <| sr rfl <| mS rfl <| Wp rfl <| st_sidx T.u9 rfl rfl (by decide) (by (first | omega | (simp only [List.length_drop]; omega))) <| Wp rfl <| st_call (ags := [_, _]) rfl rfl T.ent88 rfl (WriteByteP_spec (byte (r.drop 1) 0) hbd (by omega)) ?_
     rintro _ w19 ⟨rfl, A21, cap22, hbd23, c20, hgr24⟩
     have hszW := HC.size
     replace HC := HC.trans c20 (fun k hk => (List.mem_cons.1 hk).elim (fun h => .inr (by rw [h]; exact ge_b7)) (fun h => .inr (hob k h)))
     have ltq_b3 := hb4.lt
     replace hb4 := hb4.tr c20 (fun hx => (List.mem_cons.1 hx).elim (fun h => ne_b3_b7 h) (fun h => nob_b3 h))
     replace nob_b3 : b3 ∉ ob A21 := fun hx => (hgr24 _ hx).elim (fun h => nob_b3 h) (fun h => by omega)
     have ltq_b6 := hb8.lt
     replace hb8 := hb8.tr c20 (fun hx => (List.mem_cons.1 hx).elim (fun h => ne_b6_b7 h) (fun h => nob_b6 h))
     replace nob_b6 : b6 ∉ ob A21 := fun hx => (hgr24 _ hx).elim (fun h => nob_b6 h) (fun h => by omega)
     replace hob : ∀ k, k ∈ ob A21 → w.heap.size ≤ k := fun k hk => (hgr24 k hk).elim (fun h => hob k h) (fun h => by omega)
     refine en <| x_region rfl <| mS rfl <| Wp rfl <| st_sslo (i := 1) T.u9 rfl ⟨_, rfl⟩ (by (first | omega | (simp only [List.length_drop]; omega))) <| aS rfl <| wops_nil <| block_n <| then_n <| ⟨(((r.drop 1).drop 1), out ++ [(byte (r.drop 1) 0)], A21, cap22), ?_, ?_, rfl, ⟨rfl, trivial⟩, ?_⟩
     ·refine ⟨?_, HC, hb4, hb8, hbd23⟩
      exact ⟨by simp only [List.length_append, List.length_cons, List.length_nil, List.length_drop]; omega, by rw [htot, hun]; simp, hob, nob_b3, nob_b6⟩
     ·show ((r.drop 1).drop 1).length < r.length; simp only [List.length_drop]; omega
     repeat (first | exact agree_upds agree_over rfl | refine agree_upd ?_ rfl | refine agree_upds ?_ rfl | refine agree_over_sub ?_ rfl)
    ·try simp only [nm, ne_eq] at h1
     have hun := untick_on h0 (by rintro ⟨h7, h8, h9⟩; first | omega | (exact absurd (in3.2 h9) (by first | assumption | omega)) | (have h10 : ((byte r 0).toNat : Int) = 92 := (by rw [h8]; rfl); omega))
     refine x_skip <| then_n <| sr rfl <| mS rfl <| Wp rfl <| st_sidx T.u9 rfl rfl (by decide) (by (first | omega | (simp only [List.length_drop]; omega))) <| Wp rfl <| st_call (ags := [_, _]) rfl rfl T.ent88 rfl (WriteByteP_spec (byte r 0) hbd (by omega)) ?_
     rintro _ w25 ⟨rfl, A27, cap28, hbd29, c26, hgr30⟩
     have hszW := HC.size
     replace HC := HC.trans c26 (fun k hk => (List.mem_cons.1 hk).elim (fun h => .inr (by rw [h]; exact ge_b7)) (fun h => .inr (hob k h)))
     have ltq_b3 := hb4.lt
     replace hb4 := hb4.tr c26 (fun hx => (List.mem_cons.1 hx).elim (fun h => ne_b3_b7 h) (fun h => nob_b3 h))
     replace nob_b3 : b3 ∉ ob A27 := fun hx => (hgr30 _ hx).elim (fun h => nob_b3 h) (fun h => by omega)
     have ltq_b6 := hb8.lt
     replace hb8 := hb8.tr c26 (fun hx => (List.mem_cons.1 hx).elim (fun h => ne_b6_b7 h) (fun h => nob_b6 h))
     replace nob_b6 : b6 ∉ ob A27 := fun hx => (hgr30 _ hx).elim (fun h => nob_b6 h) (fun h => by omega)
     replace hob : ∀ k, k ∈ ob A27 → w.heap.size ≤ k := fun k hk => (hgr30 k hk).elim (fun h => hob k h) (fun h => by omega)
     refine en <| x_region rfl <| mS rfl <| Wp rfl <| st_sslo (i := 1) T.u9 rfl ⟨_, rfl⟩ (by (first | omega | (simp only [List.length_drop]; omega))) <| aS rfl <| wops_nil <| block_n <| then_n <| ⟨((r.drop 1), out ++ [(byte r 0)], A27, cap28), ?_, ?_, rfl, ⟨rfl, trivial⟩, ?_⟩
     ·refine ⟨?_, HC, hb4, hb8, hbd29⟩
      exact ⟨by simp only [List.length_append, List.length_cons, List.length_nil, List.length_drop]; omega, by rw [htot, hun]; simp, hob, nob_b3, nob_b6⟩
     ·show (r.drop 1).length < r.length; simp only [List.length_drop]; omega
     repeat (first | exact agree_upds agree_over rfl | refine agree_upd ?_ rfl | refine agree_upds ?_ rfl | refine agree_over_sub ?_ rfl)
   ·try simp only [nm, ne_eq] at g16
    iterate 4 refine w_no 8 18 true ?_
    refine pF rfl rfl <| en <| x_cond (t := false) rfl (fun h1 => ?_) (fun h1 => ?_)
    · exact absurd h1 (by decide)
    have hun := untick_on h0 (by rintro ⟨h7, h8, h9⟩; first | omega | (exact absurd (in3.2 h9) (by first | assumption | omega)) | (have h10 : ((byte r 0).toNat : Int) = 92 := (by rw [h8]; rfl); omega))
    refine x_skip <| then_n <| sr rfl <| mS rfl <| Wp rfl <| st_sidx T.u9 rfl rfl (by decide) (by (first | omega | (simp only [List.length_drop]; omega))) <| Wp rfl <| st_call (ags := [_, _]) rfl rfl T.ent88 rfl (WriteByteP_spec (byte r 0) hbd (by omega)) ?_
    rintro _ w31 ⟨rfl, A33, cap34, hbd35, c32, hgr36⟩
    have hszW := HC.size
    replace HC := HC.trans c32 (fun k hk => (List.mem_cons.1 hk).elim (fun h => .inr (by rw [h]; exact ge_b7)) (fun h => .inr (hob k h)))
    have ltq_b3 := hb4.lt
    replace hb4 := hb4.tr c32 (fun hx => (List.mem_cons.1 hx).elim (fun h => ne_b3_b7 h) (fun h => nob_b3 h))
    replace nob_b3 : b3 ∉ ob A33 := fun hx => (hgr36 _ hx).elim (fun h => nob_b3 h) (fun h => by omega)
    have ltq_b6 := hb8.lt
    replace hb8 := hb8.tr c32 (fun hx => (List.mem_cons.1 hx).elim (fun h => ne_b6_b7 h) (fun h => nob_b6 h))
    replace nob_b6 : b6 ∉ ob A33 := fun hx => (hgr36 _ hx).elim (fun h => nob_b6 h) (fun h => by omega)
    replace hob : ∀ k, k ∈ ob A33 → w.heap.size ≤ k := fun k hk => (hgr36 k hk).elim (fun h => hob k h) (fun h => by omega)
    refine en <| x_region rfl <| mS rfl <| Wp rfl <| st_sslo (i := 1) T.u9 rfl ⟨_, rfl⟩ (by (first | omega | (simp only [List.length_drop]; omega))) <| aS rfl <| wops_nil <| block_n <| then_n <| ⟨((r.drop 1), out ++ [(byte r 0)], A33, cap34), ?_, ?_, rfl, ⟨rfl, trivial⟩, ?_⟩
    ·refine ⟨?_, HC, hb4, hb8, hbd35⟩
     exact ⟨by simp only [List.length_append, List.length_cons, List.length_nil, List.length_drop]; omega, by rw [htot, hun]; simp, hob, nob_b3, nob_b6⟩
    ·show (r.drop 1).length < r.length; simp only [List.length_drop]; omega
    repeat (first | exact agree_upds agree_over rfl | refine agree_upd ?_ rfl | refine agree_upds ?_ rfl | refine agree_over_sub ?_ rfl)
  ·try simp only [nm, ne_eq] at g15
   iterate 3 refine w_no 3 13 true ?_
   refine pF rfl rfl <| mB rfl ?_
   iterate 4 refine w_no 8 18 true ?_
   refine pF rfl rfl <| en <| x_cond (t := false) rfl (fun h1 => ?_) (fun h1 => ?_)
   · exact absurd h1 (by decide)
   have hun := untick_on h0 (by rintro ⟨h7, h8, h9⟩; first | omega | (exact absurd (in3.2 h9) (by first | assumption | omega)) | (have h10 : ((byte r 0).toNat : Int) = 92 := (by rw [h8]; rfl); omega))
   refine x_skip <| then_n <| sr rfl <| mS rfl <| Wp rfl <| st_sidx T.u9 rfl rfl (by decide) (by (first | omega | (simp only [List.length_drop]; omega))) <| Wp rfl <| st_call (ags := [_, _]) rfl rfl T.ent88 rfl (WriteByteP_spec (byte r 0) hbd (by omega)) ?_
   rintro _ w37 ⟨rfl, A39, cap40, hbd41, c38, hgr42⟩
   have hszW := HC.size
   replace HC := HC.trans c38 (fun k hk => (List.mem_cons.1 hk).elim (fun h => .inr (by rw [h]; exact ge_b7)) (fun h => .inr (hob k h)))
   have ltq_b3 := hb4.lt
   replace hb4 := hb4.tr c38 (fun hx => (List.mem_cons.1 hx).elim (fun h => ne_b3_b7 h) (fun h => nob_b3 h))
   replace nob_b3 : b3 ∉ ob A39 := fun hx => (hgr42 _ hx).elim (fun h => nob_b3 h) (fun h => by omega)
   have ltq_b6 := hb8.lt
   replace hb8 := hb8.tr c38 (fun hx => (List.mem_cons.1 hx).elim (fun h => ne_b6_b7 h) (fun h => nob_b6 h))
   replace nob_b6 : b6 ∉ ob A39 := fun hx => (hgr42 _ hx).elim (fun h => nob_b6 h) (fun h => by omega)
   replace hob : ∀ k, k ∈ ob A39 → w.heap.size ≤ k := fun k hk => (hgr42 k hk).elim (fun h => hob k h) (fun h => by omega)
   refine en <| x_region rfl <| mS rfl <| Wp rfl <| st_sslo (i := 1) T.u9 rfl ⟨_, rfl⟩ (by (first | omega | (simp only [List.length_drop]; omega))) <| aS rfl <| wops_nil <| block_n <| then_n <| ⟨((r.drop 1), out ++ [(byte r 0)], A39, cap40), ?_, ?_, rfl, ⟨rfl, trivial⟩, ?_⟩
   ·refine ⟨?_, HC, hb4, hb8, hbd41⟩
    exact ⟨by simp only [List.length_append, List.length_cons, List.length_nil, List.length_drop]; omega, by rw [htot, hun]; simp, hob, nob_b3, nob_b6⟩
   ·show (r.drop 1).length < r.length; simp only [List.length_drop]; omega
   repeat (first | exact agree_upds agree_over rfl | refine agree_upd ?_ rfl | refine agree_upds ?_ rfl | refine agree_over_sub ?_ rfl)
 ·try simp only [nm, ne_eq] at h0
  have hr0 : r = [] := by first | assumption | simpa using h0
  have hut : untick s = out := by rw [htot, hr0]; simp [untick]
  refine x_exit <| then_x <| then_x <| block_x <| then_n <| x_seq <| x_draw [(1, 0), (4, 0), (0, 1), (2, 1), (3, 0), (5, 1), (6, 2)] T.mixed rfl rfl rfl (fun W => W.heap[b3]? = w13.heap[b3]? ∧ W.heap[b6]? = w13.heap[b6]? ∧ True) ⟨rfl, rfl, trivial⟩ ?_
  have o45 := hb4
  have o46 := hb8
  have c44 := Chg.drew w13
  generalize World.drew w13 = w43 at c44 ⊢
  replace HC := HC.then c44
  replace hb4 := hb4.tr0 c44
  replace hb8 := hb8.tr0 c44
  replace hbd := hbd.tr0 c44
  refine sq_q rfl (fun W hT => r_loadA (vs := [_]) T.agg46 rfl (Blk.cells (n := 1) (vs := [_]) (show Blk W b3 _ _ from hT.1.trans o45) rfl) rfl) <| sq_q rfl (fun W hT => r_move (v := .int _ _) rfl) <| sq_call1 rfl (r_call (ags := [_]) rfl rfl T.ent31 rfl) (StringP_spec hbd) ?_
  rintro _ w47 ⟨rfl, hbz, c48⟩
  replace HC := HC.trans c48 (fun k hk => .inr (hob k hk))
  replace hb4 := hb4.tr c48 nob_b3
  replace hb8 := hb8.tr c48 nob_b6
  refine ⟨_, fun _ h => h, ⟨(Eq.trans hb4 o45.symm), (Eq.trans hb8 o46.symm), trivial⟩, ?_⟩
  refine sq_call1 rfl (r_call (ags := [_]) rfl rfl T.ent58 rfl) (quoted_spec m _) ?_
  rintro _ w49 ⟨rfl, c50⟩
  replace HC := HC.then c50
  replace hb4 := hb4.tr0 c50
  replace hb8 := hb8.tr0 c50
  refine ⟨_, fun _ h => h, ⟨(Eq.trans hb4 o45.symm), (Eq.trans hb8 o46.symm), trivial⟩, ?_⟩
  refine sq_q rfl (fun W hT => r_bld (ps := [(0, .const (.int .i64 2)), (1, .tmp 31), (5, .tmp 33)]) (vs := [.int _ _, S _, S _, S _, S _, .bool _]) T.bld33 rfl) <| sq_call1 rfl (r_call (ags := [_, _]) rfl rfl T.ent85 rfl) (one_spec ⟨2, out, [], [], [], (!decide (m = 0))⟩ n _) ?_
  have lt1_hsl_b3 := hb4.lt
  have lt1_hsl_b6 := hb8.lt
  have sz1_hsl := HC.size
  rintro _ w51 ⟨A, cap, rfl, hsl, c52⟩
  replace HC := HC.then c52
  replace hb4 := hb4.tr0 c52
  replace hb8 := hb8.tr0 c52
  refine ⟨_, fun _ h => h, ⟨(Eq.trans hb4 o45.symm), (Eq.trans hb8 o46.symm), trivial⟩, ?_⟩
  refine sq_store2 rfl T.size78 (v := .agg ⟨[.slice _ _ _, .int _ _]⟩) rfl rfl rfl hb8 rfl (Nat.le_of_ble_eq_true rfl) (by simp [Value.oneCell', S]) rfl ?_
  intro w53 c54 hb55; simp only [setVs, setV] at hb55
  clear hb8
  replace HC := HC.then1 c54 ge_b6
  replace hb4 := hb4.tr1 c54 ne_b3_b6
  replace hsl := hsl.tr c54 (by intro k hx hD; simp only [List.mem_singleton] at hx; subst hx; omega)
  clear o45
  clear o46
  refine sq_nil <| then_n <| x_ret <| ret_cellA (vs := [_, _]) rfl rfl T.agg78 (hb55.cells (n := 2) rfl) rfl ?_
  rw [hut]
  exact ⟨_, _, rfl, (hsl.mono (fun k _ h => Nat.le_trans sz1_hsl h)), HC⟩

end Go.Proofs.YtiiahnpgomdfmaaDoor.K
