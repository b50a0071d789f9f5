import Derived.Test.YtghjmiggobpmoaaGreatDoorTok
import Derived.Test.YtghjmiggobpmoaaGreatDoorGb
set_option linter.unusedVariables false
set_option linter.unusedSimpArgs false
set_option autoImplicit false
set_option maxRecDepth 20000
namespace Go.Proofs.YtghjmiggobpmoaaGreatDoor.K
open Go Go.Proofs Go.RowKit

def GB (Z : List Tok) : Prop := Z.length ≤ 20000 ∧ ∀ t, t ∈ Z → t.text.length ≤ 20000
theorem Suf.gb {R Z : List Tok} (h : Suf R Z) (hz : GB Z) : GB R := ⟨Nat.le_trans h.len hz.1, fun t ht => hz.2 t (h.suf.subset ht)⟩
theorem hd_mem {Z : List Tok} (h : GT Z) : hd Z ∈ Z := by
  cases Z with
  | nil => exact h.elim
  | cons t r => simp [hd]
theorem u8_sub48 (c : UInt8) : IntKind.u8.wrap ((c.toNat : Int) - 48) = ((c - 48).toNat : Int) := by
  rw [wrap_u8, UInt8.toNat_sub]
  have := c.toNat_lt
  show _ = (((2 ^ 8 - (48 : UInt8).toNat + c.toNat) % 2 ^ 8 : Nat) : Int)
  rw [show (48 : UInt8).toNat = 48 from rfl]; omega
theorem redB_ne {s : Bytes} (h : redB s = true) : s ≠ [] := by
  intro e; subst e; exact absurd h (by decide)
theorem redir_none {Z : List Tok} (h : (hd Z).kind ≠ 4 ∧ ((hd Z).kind ≠ 2 ∨ redB (hd Z).text = false)) : redirG Z = .ok none Z := by unfold redirG; rw [if_pos h]
theorem redir_io {Z : List Tok} (h : (hd Z).kind = 4) : redirG Z = (anyG Z.tail.tail).bind fun w r => .ok (some ⟨((byte (hd Z).text 0 - 48).toNat : Int), (hd Z.tail).text, w.text, w.here, w.raw⟩) r := by
  unfold redirG; rw [if_neg (fun e => e.1 h), if_pos h]
theorem redir_op {Z : List Tok} (h : (hd Z).kind = 2) (hb : redB (hd Z).text = true) : redirG Z = (anyG Z.tail).bind fun w r => .ok (some ⟨if byte (hd Z).text 0 = 62 then 1 else 0, (hd Z).text, w.text, w.here, w.raw⟩) r := by
  unfold redirG; rw [if_neg (fun e => e.2.elim (fun e => e h) (fun e => by rw [hb] at e; cases e)), if_neg (by rw [h]; decide)]
theorem any_ok {Z : List Tok} (h : (hd Z).kind = 1) : anyG Z = .ok (hd Z) Z.tail := by unfold anyG; rw [if_pos h]
theorem any_er {Z : List Tok} (h : (hd Z).kind ≠ 1) : anyG Z = .er Z 101 := by unfold anyG; rw [if_neg h]
def OkR (Z : List Tok) (rb tb : Nat) (d : Int) (w w' : World) (v : Value) : Prop := ∃ x R, redirG Z = .ok x R ∧ Suf R Z ∧ (x = none → R = Z) ∧ (x ≠ none → R.length < Z.length) ∧ v = .tuple ⟨[.agg ⟨rdrC (x.getD rnone)⟩, .bool x.isSome]⟩ ∧ RdAt w' rb tb d R ∧ Chg [rb] w w'

theorem gredir_spec {Z : List Tok} {rb tb : Nat} {d : Int} {w : World} (hg : GT Z) (hR : RdAt w rb tb d Z) (hq : QOk rb tb) (ht : Tab w) : CallP Tryz.prog 103 #[.pointer (some ⟨rb, 0, none⟩)] w (fun v w' => OkR Z rb tb d w w' v) (fun v w' => ErT (redirG Z) Z rb w w' v) := by
 refine callP_of_wp (args := [_]) Tryz.func103 rfl (Nat.le_of_ble_eq_true rfl) ?_
 have HC : Chg [rb] w w := .refl _
 have hrl := hR.lt hg
 have hq9 := hq
 obtain ⟨hq1, hq2, hq3⟩ := hq9
 have ht1 := ht.lt
 refine sr rfl <| Wp rfl <| st_alloc T.zero40 ?_
 intro b2 w1 e2 c3 hb4
 have ge_b2 := gB e2 HC.size
 replace HC := HC.then c3
 replace hR := hR.tr0 c3
 replace ht := ht.tr0 c3
 clear e2
 refine aB rfl <| en <| sr rfl <| mP rfl <| Wp rfl <| st_call (ags := [_]) rfl rfl T.ent15 rfl (gtok_spec hg hR) ?_
 rintro _ w5 ⟨rfl, c6⟩
 replace HC := HC.then c6
 replace hR := hR.tr0 c6
 replace ht := ht.tr0 c6
 replace hb4 := hb4.tr0 c6
 refine Wp rfl <| st_alloc T.zero51 ?_
 intro b4 w7 e8 c9 hb10
 have ge_b4 := gB e8 HC.size
 have ne_b2_b4 := nF e8 hb4.ne_size
 replace HC := HC.then c9
 replace hR := hR.tr0 c9
 replace ht := ht.tr0 c9
 replace hb4 := hb4.tr0 c9
 clear e8
 refine Wp rfl <| st_st (v := .agg ⟨[_, _, _, _, _]⟩) T.size51 rfl rfl rfl hb10 ?_
 intro w11 c12 hb13; simp only [setVs, setV] at hb13
 clear hb10
 replace HC := HC.then1 c12 ge_b4
 replace hR := hR.tr c12 q2
 replace ht := ht.tr c12 q1
 replace hb4 := hb4.tr1 c12 ne_b2_b4
 refine en <| x_seq <| sr rfl <| fa T.fld51_0 rfl <| lI T.one3 rfl (hb13.cell rfl) <| Wp rfl <| st_neq rfl rfl <| mB rfl <| w_split (d := 12) rfl (fun g14 => ?_) (fun g14 => ?_)
 ·try simp only [nm, ne_eq] at g14
  refine w_yes 3 12 true <| st_fieldAddr T.fld51_0 rfl <| w_yes 3 12 true <| st_load1 (v := .int _ _) T.one3 rfl (hb13.cell rfl) <| w_yes 3 12 true <| st_neq rfl rfl <| w_yes 3 12 true <| st_move (v := .bool _) rfl <| w_split (d := 16) rfl (fun g15 => ?_) (fun g15 => ?_)
  ·try simp only [nm, ne_eq] at g15
   iterate 4 refine w_no 7 16 false ?_
   refine w_yes 3 12 true <| st_pick (b := true) (v := .bool _) rfl rfl <| pT rfl rfl <| en <| x_cond (t := true) rfl (fun h0 => ?_) (fun h0 => ?_)
   rotate_left
   · exact absurd h0 (by decide)
   have hno : (hd Z).kind ≠ 4 ∧ ((hd Z).kind ≠ 2 ∨ redB (hd Z).text = false) := by refine ⟨by first | assumption | simp_all, ?_⟩; first | (left; assumption) | (right; assumption) | (left; simp_all; done) | (right; simp_all; done)
   refine sr rfl <| Wp rfl <| st_bld (ps := []) (vs := [.int _ _, S _, S _, S _, .bool _]) T.bld40 rfl <| Wp rfl <| st_st (v := .agg ⟨[_, _, _, _, _]⟩) T.size40 rfl rfl rfl hb4 ?_
   intro w16 c17 hb18; simp only [setVs, setV] at hb18
   clear hb4
   replace HC := HC.then1 c17 ge_b2
   replace hR := hR.tr c17 q2
   refine aB rfl <| en <| x_ret <| then_r <| pp_ret <| ret_many (vs := [.agg ⟨[_, _, _, _, _]⟩, .bool _]) rfl ⟨⟨_, _, rfl, run_loadVarA T.agg40 (hb18.cells (n := 5) rfl) rfl⟩, ⟨rfl, trivial⟩⟩ (Nat.le_of_ble_eq_true rfl) ?_
   exact ⟨none, Z, redir_none hno, .refl hg, fun _ => rfl, fun h => absurd rfl h, rfl, hR, HC⟩
  ·try simp only [nm, ne_eq] at g15
   refine w_yes 7 16 false <| st_fieldAddr T.fld51_1 rfl <| w_yes 7 16 false <| st_load1 (v := S _) T.one9 rfl (hb13.cell rfl) <| w_yes 7 16 false <| st_call (ags := [_]) rfl rfl T.ent42 rfl (redirection_spec (hd Z).text _ ht) ?_
   rintro _ w19 ⟨rfl, c20⟩
   replace HC := HC.then c20
   replace hR := hR.tr0 c20
   replace hb4 := hb4.tr0 c20
   replace hb13 := hb13.tr0 c20
   refine w_yes 7 16 false <| st_not rfl <| w_yes 3 12 true <| st_pick (b := false) (v := .bool _) rfl rfl <| pT rfl rfl <| en <| x_cond rfl (fun h0 => ?_) (fun h0 => ?_)
   ·try simp only [nm, ne_eq] at h0
    have hno : (hd Z).kind ≠ 4 ∧ ((hd Z).kind ≠ 2 ∨ redB (hd Z).text = false) := by refine ⟨by first | assumption | simp_all, ?_⟩; first | (left; assumption) | (right; assumption) | (left; simp_all; done) | (right; simp_all; done)
    refine sr rfl <| Wp rfl <| st_bld (ps := []) (vs := [.int _ _, S _, S _, S _, .bool _]) T.bld40 rfl <| Wp rfl <| st_st (v := .agg ⟨[_, _, _, _, _]⟩) T.size40 rfl rfl rfl hb4 ?_
    intro w21 c22 hb23; simp only [setVs, setV] at hb23
    clear hb4
    replace HC := HC.then1 c22 ge_b2
    replace hR := hR.tr c22 q2
    refine aB rfl <| en <| x_ret <| then_r <| pp_ret <| ret_many (vs := [.agg ⟨[_, _, _, _, _]⟩, .bool _]) rfl ⟨⟨_, _, rfl, run_loadVarA T.agg40 (hb23.cells (n := 5) rfl) rfl⟩, ⟨rfl, trivial⟩⟩ (Nat.le_of_ble_eq_true rfl) ?_
    exact ⟨none, Z, redir_none hno, .refl hg, fun _ => rfl, fun h => absurd rfl h, rfl, hR, HC⟩
   ·try simp only [nm, ne_eq] at h0
    refine x_skip <| then_n <| sr rfl <| Wp rfl <| st_bld (ps := []) (vs := [.int _ _, S _, S _, S _, .bool _]) T.bld40 rfl <| Wp rfl <| st_alloc T.zero40 ?_
    intro b5 w24 e25 c26 hb27
    have ge_b5 := gB e25 HC.size
    have ne_b2_b5 := nF e25 hb4.ne_size
    have ne_b4_b5 := nF e25 hb13.ne_size
    replace HC := HC.then c26
    replace hR := hR.tr0 c26
    replace hb4 := hb4.tr0 c26
    replace hb13 := hb13.tr0 c26
    clear e25
    refine Wp rfl <| st_st (v := .agg ⟨[_, _, _, _, _]⟩) T.size40 rfl rfl rfl hb27 ?_
    intro w28 c29 hb30; simp only [setVs, setV] at hb30
    clear hb27
    replace HC := HC.then1 c29 ge_b5
    replace hR := hR.tr c29 q2
    replace hb4 := hb4.tr1 c29 ne_b2_b5
    replace hb13 := hb13.tr1 c29 ne_b4_b5
    refine en <| x_seq <| sr rfl <| fa T.fld51_0 rfl <| lI T.one3 rfl (hb13.cell rfl) <| Wp rfl <| st_eql rfl rfl <| en <| x_cond rfl (fun h1 => ?_) (fun h1 => ?_)
    ·try simp only [nm, ne_eq] at h1
     have hk4 : (hd Z).kind = 4 := by first | assumption | simp_all
     have hio := hg.io hk4
     have hgY := hg.tail (by rw [hk4]; decide)
     have hgY2 := hgY.tail (by rw [hio.2]; decide)
     have hlp := List.length_pos_iff.2 hio.1
     have h48 := (byte (hd Z).text 0 - 48).toNat_lt
     refine x_region rfl <| mP rfl <| Wp rfl <| st_call (ags := [_]) rfl rfl T.ent29 rfl (gnext_spec hg hR hq) ?_
     rintro _ w31 ⟨rfl, hR, c32⟩
     replace HC := HC.trans c32 q4
     replace hb4 := hb4.tr1 c32 (by omega)
     replace hb13 := hb13.tr1 c32 (by omega)
     replace hb30 := hb30.tr1 c32 (by omega)
     refine Wp rfl <| st_field (v := S _) T.fone51_1 rfl rfl <| Wp rfl <| st_sidx T.u9 rfl rfl (by decide) (by omega) <| Wp rfl <| st_subk rfl rfl (by exact u8_sub48 (byte (hd Z).text 0)) <| Wp rfl <| st_convk T.u5 T.u3 rfl (by exact wrap64_id (by omega) (by omega)) <| fa T.fld40_0 rfl <| Wp rfl <| st_st (v := .int _ _) T.size3 rfl rfl rfl hb30 ?_
     intro w33 c34 hb35; simp only [setVs, setV] at hb35
     clear hb30
     replace HC := HC.then1 c34 ge_b5
     replace hb4 := hb4.tr1 c34 ne_b2_b5
     replace hb13 := hb13.tr1 c34 ne_b4_b5
     replace hR := hR.tr c34 q2
     refine en <| sr rfl <| mP rfl <| Wp rfl <| st_call (ags := [_]) rfl rfl T.ent29 rfl (gnext_spec (Z := Z.tail) hgY hR hq) ?_
     rintro _ w36 ⟨rfl, hR, c37⟩
     replace HC := HC.trans c37 q4
     replace hb4 := hb4.tr1 c37 (by omega)
     replace hb13 := hb13.tr1 c37 (by omega)
     replace hb35 := hb35.tr1 c37 (by omega)
     refine Wp rfl <| st_field (v := S _) T.fone51_1 rfl rfl <| fa T.fld40_1 rfl <| Wp rfl <| st_st (v := S _) T.size9 rfl rfl rfl hb35 ?_
     intro w38 c39 hb40; simp only [setVs, setV] at hb40
     clear hb35
     replace HC := HC.then1 c39 ge_b5
     replace hb4 := hb4.tr1 c39 ne_b2_b5
     replace hb13 := hb13.tr1 c39 ne_b4_b5
     replace hR := hR.tr c39 q2
     refine en <| x_seq <| sr rfl <| fa T.fld51_0 rfl <| lI T.one3 rfl (hb13.cell rfl) <| Wp rfl <| st_eql rfl rfl <| mB rfl <| w_split (d := 42) rfl (fun g41 => ?_) (fun g41 => ?_)
     ·try simp only [nm, ne_eq] at g41
      exfalso; rw [hk4] at *; simp_all
     ·try simp only [nm, ne_eq] at g41
      iterate 4 refine w_no 3 42 true ?_
      refine pF rfl rfl <| en <| x_cond (t := false) rfl (fun h2 => ?_) (fun h2 => ?_)
      · exact absurd h2 (by decide)
      refine x_skip <| then_n <| x_seq ?_
      have hs2 : Suf Z.tail.tail Z := (Suf.tail hgY (by rw [hio.2]; decide)).trans (.tail hg (by rw [hk4]; decide))
      refine x_region rfl <| mP rfl <| w_plain rfl (st_callP (ags := [_]) rfl rfl T.ent114 rfl (gany_spec (Z := Z.tail.tail) hgY2 hR hq) ?_ ?_)
      ·rintro _ w42 ⟨hk1, rfl, c43⟩
       replace HC := HC.trans c43 q4
       refine then_p <| pp_panic ?_
       exact ⟨_, _, by rw [redir_io hk4, any_er hk1]; rfl, hs2, rfl, HC⟩
      rintro _ w44 ⟨hk1, rfl, hR, c45⟩
      replace HC := HC.trans c45 q4
      replace hb4 := hb4.tr1 c45 (by omega)
      replace hb13 := hb13.tr1 c45 (by omega)
      replace hb40 := hb40.tr1 c45 (by omega)
      refine Wp rfl <| st_alloc T.zero51 ?_
      intro b6 w46 e47 c48 hb49
      have ge_b6 := gB e47 HC.size
      have ne_b2_b6 := nF e47 hb4.ne_size
      have ne_b4_b6 := nF e47 hb13.ne_size
      have ne_b5_b6 := nF e47 hb40.ne_size
      replace HC := HC.then c48
      replace hb4 := hb4.tr0 c48
      replace hb13 := hb13.tr0 c48
      replace hb40 := hb40.tr0 c48
      replace hR := hR.tr0 c48
      clear e47
      refine Wp rfl <| st_st (v := .agg ⟨[_, _, _, _, _]⟩) T.size51 rfl rfl rfl hb49 ?_
      intro w50 c51 hb52; simp only [setVs, setV] at hb52
      clear hb49
      replace HC := HC.then1 c51 ge_b6
      replace hb4 := hb4.tr1 c51 ne_b2_b6
      replace hb13 := hb13.tr1 c51 ne_b4_b6
      replace hb40 := hb40.tr1 c51 ne_b5_b6
      replace hR := hR.tr c51 q2
      refine en <| x_seq ?_
      have hs3 : Suf Z.tail.tail.tail Z := (Suf.tail hgY2 (by rw [hk1]; decide)).trans hs2
      refine x_draw [(0, 0), (1, 0), (2, 0), (3, 0), (4, 0), (5, 0), (6, 0), (7, 1), (8, 0), (9, 1), (10, 0), (11, 2)] T.mixed rfl rfl rfl (fun W => W.heap[b2]? = w50.heap[b2]? ∧ W.heap[b4]? = w50.heap[b4]? ∧ W.heap[b6]? = w50.heap[b6]? ∧ True) ⟨rfl, rfl, rfl, trivial⟩ ?_
      have o55 := hb4
      have o56 := hb13
      have o57 := hb52
      have c54 := Chg.drew w50
      generalize World.drew w50 = w53 at c54 ⊢
      replace HC := HC.then c54
      replace hb4 := hb4.tr0 c54
      replace hb13 := hb13.tr0 c54
      replace hb40 := hb40.tr0 c54
      replace hR := hR.tr0 c54
      replace hb52 := hb52.tr0 c54
      refine sq_q rfl (fun W hT => r_fieldAddr T.fld51_1 rfl) <| sq_q rfl (fun W hT => r_load1 (v := S _) T.one9 rfl (Blk.cell (show Blk W b6 _ _ from hT.2.2.1.trans o57) rfl)) <| sq_q rfl (fun W hT => r_fieldAddr T.fld51_3 rfl) <| sq_q rfl (fun W hT => r_load1 (v := S _) T.one9 rfl (Blk.cell (show Blk W b6 _ _ from hT.2.2.1.trans o57) rfl)) <| sq_q rfl (fun W hT => r_fieldAddr T.fld51_4 rfl) <| sq_q rfl (fun W hT => r_load1 (v := .bool _) T.one4 rfl (Blk.cell (show Blk W b6 _ _ from hT.2.2.1.trans o57) rfl)) <| sq_q rfl (fun W hT => r_fieldAddr T.fld40_2 rfl) <| sq_store1 rfl T.size9 (v := S _) rfl rfl rfl hb40 rfl (Nat.le_of_ble_eq_true rfl) q5 rfl ?_
      intro w58 c59 hb60; simp only [setVs, setV] at hb60
      clear hb40
      replace HC := HC.then1 c59 ge_b5
      replace hb4 := hb4.tr1 c59 ne_b2_b5
      replace hb13 := hb13.tr1 c59 ne_b4_b5
      replace hR := hR.tr c59 q2
      replace hb52 := hb52.tr1 c59 (Ne.symm ne_b5_b6)
      refine ⟨_, fun _ h => h, ⟨(Eq.trans hb4 o55.symm), (Eq.trans hb13 o56.symm), (Eq.trans hb52 o57.symm), trivial⟩, ?_⟩
      refine sq_q rfl (fun W hT => r_fieldAddr T.fld40_3 rfl) <| sq_store1 rfl T.size9 (v := S _) rfl rfl rfl hb60 rfl (Nat.le_of_ble_eq_true rfl) q5 rfl ?_
      intro w61 c62 hb63; simp only [setVs, setV] at hb63
      clear hb60
      replace HC := HC.then1 c62 ge_b5
      replace hb4 := hb4.tr1 c62 ne_b2_b5
      replace hb13 := hb13.tr1 c62 ne_b4_b5
      replace hR := hR.tr c62 q2
      replace hb52 := hb52.tr1 c62 (Ne.symm ne_b5_b6)
      refine ⟨_, fun _ h => h, ⟨(Eq.trans hb4 o55.symm), (Eq.trans hb13 o56.symm), (Eq.trans hb52 o57.symm), trivial⟩, ?_⟩
      refine sq_q rfl (fun W hT => r_fieldAddr T.fld40_4 rfl) <| sq_store2 rfl T.size4 (v := .bool _) rfl rfl rfl hb63 rfl (Nat.le_of_ble_eq_true rfl) q5 rfl ?_
      intro w64 c65 hb66; simp only [setVs, setV] at hb66
      clear hb63
      replace HC := HC.then1 c65 ge_b5
      replace hb4 := hb4.tr1 c65 ne_b2_b5
      replace hR := hR.tr c65 q2
      clear o55
      clear o56
      clear o57
      refine sq_nil <| then_n <| sr rfl <| Wp rfl <| st_loadA (vs := [_, _, _, _, _]) T.agg40 rfl (hb66.cells (n := 5) (vs := [_, _, _, _, _]) rfl) rfl <| Wp rfl <| st_st (v := .agg ⟨[_, _, _, _, _]⟩) T.size40 rfl rfl rfl hb4 ?_
      intro w67 c68 hb69; simp only [setVs, setV] at hb69
      clear hb4
      replace HC := HC.then1 c68 ge_b2
      replace hR := hR.tr c68 q2
      refine aB rfl <| en <| x_ret <| pp_ret <| ret_many (vs := [.agg ⟨[_, _, _, _, _]⟩, .bool _]) rfl ⟨⟨_, _, rfl, run_loadVarA T.agg40 (hb69.cells (n := 5) rfl) rfl⟩, ⟨rfl, trivial⟩⟩ (Nat.le_of_ble_eq_true rfl) ?_
      exact ⟨some ⟨((byte (hd Z).text 0 - 48).toNat : Int), (hd Z.tail).text, (hd Z.tail.tail).text, (hd Z.tail.tail).here, (hd Z.tail.tail).raw⟩, Z.tail.tail.tail, by rw [redir_io hk4, any_ok hk1]; rfl, hs3, (fun h => nomatch h), fun _ => by have := tail_len hg; have := tail_len hgY; have := tail_len hgY2; omega, rfl, hR, HC⟩
    ·try simp only [nm, ne_eq] at h1
     have hk2 : (hd Z).kind = 2 := by first | assumption | simp_all
     have hrd : redB (hd Z).text = true := by first | assumption | simp_all
     have hgY2 := hg.tail (by rw [hk2]; decide)
     have hlp := List.length_pos_iff.2 (redB_ne hrd)
     refine x_skip <| then_n <| sr rfl <| mP rfl <| Wp rfl <| st_call (ags := [_]) rfl rfl T.ent29 rfl (gnext_spec (Z := Z) hg hR hq) ?_
     rintro _ w70 ⟨rfl, hR, c71⟩
     replace HC := HC.trans c71 q4
     replace hb4 := hb4.tr1 c71 (by omega)
     replace hb13 := hb13.tr1 c71 (by omega)
     replace hb30 := hb30.tr1 c71 (by omega)
     refine Wp rfl <| st_field (v := S _) T.fone51_1 rfl rfl <| fa T.fld40_1 rfl <| Wp rfl <| st_st (v := S _) T.size9 rfl rfl rfl hb30 ?_
     intro w72 c73 hb74; simp only [setVs, setV] at hb74
     clear hb30
     replace HC := HC.then1 c73 ge_b5
     replace hb4 := hb4.tr1 c73 ne_b2_b5
     replace hb13 := hb13.tr1 c73 ne_b4_b5
     replace hR := hR.tr c73 q2
     refine en <| x_seq <| sr rfl <| fa T.fld51_0 rfl <| lI T.one3 rfl (hb13.cell rfl) <| Wp rfl <| st_eql rfl rfl <| mB rfl <| w_split (d := 42) rfl (fun g75 => ?_) (fun g75 => ?_)
     ·try simp only [nm, ne_eq] at g75
      refine w_yes 3 42 true <| st_fieldAddr T.fld40_1 rfl <| w_yes 3 42 true <| st_load1 (v := S _) T.one9 rfl (hb74.cell rfl) <| w_yes 3 42 true <| st_sidx T.u9 rfl rfl (by decide) (by omega) <| w_yes 3 42 true <| st_eql rfl rfl <| pT rfl rfl <| en <| x_cond rfl (fun h2 => ?_) (fun h2 => ?_)
      ·try simp only [nm, ne_eq] at h2
       have hgt : byte (hd Z).text 0 = 62 := u8_eq (by first | assumption | simp_all) rfl
       refine x_region rfl <| fa T.fld40_0 rfl <| Wp rfl <| st_st (v := .int _ _) T.size3 rfl rfl rfl hb74 ?_
       intro w76 c77 hb78; simp only [setVs, setV] at hb78
       clear hb74
       replace HC := HC.then1 c77 ge_b5
       replace hb4 := hb4.tr1 c77 ne_b2_b5
       replace hb13 := hb13.tr1 c77 ne_b4_b5
       replace hR := hR.tr c77 q2
       refine en <| x_seq ?_
       have hs2 : Suf Z.tail Z := .tail hg (by rw [hk2]; decide)
       refine x_region rfl <| mP rfl <| w_plain rfl (st_callP (ags := [_]) rfl rfl T.ent114 rfl (gany_spec (Z := Z.tail) hgY2 hR hq) ?_ ?_)
       ·rintro _ w79 ⟨hk1, rfl, c80⟩
        replace HC := HC.trans c80 q4
        refine then_p <| pp_panic ?_
        exact ⟨_, _, by rw [redir_op hk2 hrd, any_er hk1]; rfl, hs2, rfl, HC⟩
       rintro _ w81 ⟨hk1, rfl, hR, c82⟩
       replace HC := HC.trans c82 q4
       replace hb4 := hb4.tr1 c82 (by omega)
       replace hb13 := hb13.tr1 c82 (by omega)
       replace hb78 := hb78.tr1 c82 (by omega)
       refine Wp rfl <| st_alloc T.zero51 ?_
       intro b6 w83 e84 c85 hb86
       have ge_b6 := gB e84 HC.size
       have ne_b2_b6 := nF e84 hb4.ne_size
       have ne_b4_b6 := nF e84 hb13.ne_size
       have ne_b5_b6 := nF e84 hb78.ne_size
       replace HC := HC.then c85
       replace hb4 := hb4.tr0 c85
       replace hb13 := hb13.tr0 c85
       replace hb78 := hb78.tr0 c85
       replace hR := hR.tr0 c85
       clear e84
       refine Wp rfl <| st_st (v := .agg ⟨[_, _, _, _, _]⟩) T.size51 rfl rfl rfl hb86 ?_
       intro w87 c88 hb89; simp only [setVs, setV] at hb89
       clear hb86
       replace HC := HC.then1 c88 ge_b6
       replace hb4 := hb4.tr1 c88 ne_b2_b6
       replace hb13 := hb13.tr1 c88 ne_b4_b6
       replace hb78 := hb78.tr1 c88 ne_b5_b6
       replace hR := hR.tr c88 q2
       refine en <| x_seq ?_
       have hs3 : Suf Z.tail.tail Z := (Suf.tail hgY2 (by rw [hk1]; decide)).trans hs2
       refine x_draw [(0, 0), (1, 0), (2, 0), (3, 0), (4, 0), (5, 0), (6, 0), (7, 1), (8, 0), (9, 1), (10, 0), (11, 2)] T.mixed rfl rfl rfl (fun W => W.heap[b2]? = w87.heap[b2]? ∧ W.heap[b4]? = w87.heap[b4]? ∧ W.heap[b6]? = w87.heap[b6]? ∧ True) ⟨rfl, rfl, rfl, trivial⟩ ?_
       have o92 := hb4
       have o93 := hb13
       have o94 := hb89
       have c91 := Chg.drew w87
       generalize World.drew w87 = w90 at c91 ⊢
       replace HC := HC.then c91
       replace hb4 := hb4.tr0 c91
       replace hb13 := hb13.tr0 c91
       replace hb78 := hb78.tr0 c91
       replace hR := hR.tr0 c91
       replace hb89 := hb89.tr0 c91
       refine sq_q rfl (fun W hT => r_fieldAddr T.fld51_1 rfl) <| sq_q rfl (fun W hT => r_load1 (v := S _) T.one9 rfl (Blk.cell (show Blk W b6 _ _ from hT.2.2.1.trans o94) rfl)) <| sq_q rfl (fun W hT => r_fieldAddr T.fld51_3 rfl) <| sq_q rfl (fun W hT => r_load1 (v := S _) T.one9 rfl (Blk.cell (show Blk W b6 _ _ from hT.2.2.1.trans o94) rfl)) <| sq_q rfl (fun W hT => r_fieldAddr T.fld51_4 rfl) <| sq_q rfl (fun W hT => r_load1 (v := .bool _) T.one4 rfl (Blk.cell (show Blk W b6 _ _ from hT.2.2.1.trans o94) rfl)) <| sq_q rfl (fun W hT => r_fieldAddr T.fld40_2 rfl) <| sq_store1 rfl T.size9 (v := S _) rfl rfl rfl hb78 rfl (Nat.le_of_ble_eq_true rfl) q5 rfl ?_
       intro w95 c96 hb97; simp only [setVs, setV] at hb97
       clear hb78
       replace HC := HC.then1 c96 ge_b5
       replace hb4 := hb4.tr1 c96 ne_b2_b5
       replace hb13 := hb13.tr1 c96 ne_b4_b5
       replace hR := hR.tr c96 q2
       replace hb89 := hb89.tr1 c96 (Ne.symm ne_b5_b6)
       refine ⟨_, fun _ h => h, ⟨(Eq.trans hb4 o92.symm), (Eq.trans hb13 o93.symm), (Eq.trans hb89 o94.symm), trivial⟩, ?_⟩
       refine sq_q rfl (fun W hT => r_fieldAddr T.fld40_3 rfl) <| sq_store1 rfl T.size9 (v := S _) rfl rfl rfl hb97 rfl (Nat.le_of_ble_eq_true rfl) q5 rfl ?_
       intro w98 c99 hb100; simp only [setVs, setV] at hb100
       clear hb97
       replace HC := HC.then1 c99 ge_b5
       replace hb4 := hb4.tr1 c99 ne_b2_b5
       replace hb13 := hb13.tr1 c99 ne_b4_b5
       replace hR := hR.tr c99 q2
       replace hb89 := hb89.tr1 c99 (Ne.symm ne_b5_b6)
       refine ⟨_, fun _ h => h, ⟨(Eq.trans hb4 o92.symm), (Eq.trans hb13 o93.symm), (Eq.trans hb89 o94.symm), trivial⟩, ?_⟩
       refine sq_q rfl (fun W hT => r_fieldAddr T.fld40_4 rfl) <| sq_store2 rfl T.size4 (v := .bool _) rfl rfl rfl hb100 rfl (Nat.le_of_ble_eq_true rfl) q5 rfl ?_
       intro w101 c102 hb103; simp only [setVs, setV] at hb103
       clear hb100
       replace HC := HC.then1 c102 ge_b5
       replace hb4 := hb4.tr1 c102 ne_b2_b5
       replace hR := hR.tr c102 q2
       clear o92
       clear o93
       clear o94
       refine sq_nil <| then_n <| sr rfl <| Wp rfl <| st_loadA (vs := [_, _, _, _, _]) T.agg40 rfl (hb103.cells (n := 5) (vs := [_, _, _, _, _]) rfl) rfl <| Wp rfl <| st_st (v := .agg ⟨[_, _, _, _, _]⟩) T.size40 rfl rfl rfl hb4 ?_
       intro w104 c105 hb106; simp only [setVs, setV] at hb106
       clear hb4
       replace HC := HC.then1 c105 ge_b2
       replace hR := hR.tr c105 q2
       refine aB rfl <| en <| x_ret <| pp_ret <| ret_many (vs := [.agg ⟨[_, _, _, _, _]⟩, .bool _]) rfl ⟨⟨_, _, rfl, run_loadVarA T.agg40 (hb106.cells (n := 5) rfl) rfl⟩, ⟨rfl, trivial⟩⟩ (Nat.le_of_ble_eq_true rfl) ?_
       exact ⟨some ⟨if byte (hd Z).text 0 = 62 then 1 else 0, (hd Z).text, (hd Z.tail).text, (hd Z.tail).here, (hd Z.tail).raw⟩, Z.tail.tail, by rw [redir_op hk2 hrd, any_ok hk1]; rfl, hs3, (fun h => nomatch h), fun _ => by have := tail_len hg; have := tail_len hgY2; omega, by rw [if_pos hgt]; rfl, hR, HC⟩
      ·try simp only [nm, ne_eq] at h2
       have hgt : ¬ byte (hd Z).text 0 = 62 := fun e => by have h8 : ((byte (hd Z).text 0).toNat : Int) = 62 := (by rw [e]; rfl); first | omega | simp_all
       refine x_skip <| then_n <| x_seq ?_
       have hs2 : Suf Z.tail Z := .tail hg (by rw [hk2]; decide)
       refine x_region rfl <| mP rfl <| w_plain rfl (st_callP (ags := [_]) rfl rfl T.ent114 rfl (gany_spec (Z := Z.tail) hgY2 hR hq) ?_ ?_)
       ·rintro _ w107 ⟨hk1, rfl, c108⟩
        replace HC := HC.trans c108 q4
        refine then_p <| pp_panic ?_
        exact ⟨_, _, by rw [redir_op hk2 hrd, any_er hk1]; rfl, hs2, rfl, HC⟩
       rintro _ w109 ⟨hk1, rfl, hR, c110⟩
       replace HC := HC.trans c110 q4
       replace hb4 := hb4.tr1 c110 (by omega)
       replace hb13 := hb13.tr1 c110 (by omega)
       replace hb74 := hb74.tr1 c110 (by omega)
       refine Wp rfl <| st_alloc T.zero51 ?_
       intro b6 w111 e112 c113 hb114
       have ge_b6 := gB e112 HC.size
       have ne_b2_b6 := nF e112 hb4.ne_size
       have ne_b4_b6 := nF e112 hb13.ne_size
       have ne_b5_b6 := nF e112 hb74.ne_size
       replace HC := HC.then c113
       replace hb4 := hb4.tr0 c113
       replace hb13 := hb13.tr0 c113
       replace hb74 := hb74.tr0 c113
       replace hR := hR.tr0 c113
       clear e112
       refine Wp rfl <| st_st (v := .agg ⟨[_, _, _, _, _]⟩) T.size51 rfl rfl rfl hb114 ?_
       intro w115 c116 hb117; simp only [setVs, setV] at hb117
       clear hb114
       replace HC := HC.then1 c116 ge_b6
       replace hb4 := hb4.tr1 c116 ne_b2_b6
       replace hb13 := hb13.tr1 c116 ne_b4_b6
       replace hb74 := hb74.tr1 c116 ne_b5_b6
       replace hR := hR.tr c116 q2
       refine en <| x_seq ?_
       have hs3 : Suf Z.tail.tail Z := (Suf.tail hgY2 (by rw [hk1]; decide)).trans hs2
       refine x_draw [(0, 0), (1, 0), (2, 0), (3, 0), (4, 0), (5, 0), (6, 0), (7, 1), (8, 0), (9, 1), (10, 0), (11, 2)] T.mixed rfl rfl rfl (fun W => W.heap[b2]? = w115.heap[b2]? ∧ W.heap[b4]? = w115.heap[b4]? ∧ W.heap[b6]? = w115.heap[b6]? ∧ True) ⟨rfl, rfl, rfl, trivial⟩ ?_
       have o120 := hb4
       have o121 := hb13
       have o122 := hb117
       have c119 := Chg.drew w115
       generalize World.drew w115 = w118 at c119 ⊢
       replace HC := HC.then c119
       replace hb4 := hb4.tr0 c119
       replace hb13 := hb13.tr0 c119
       replace hb74 := hb74.tr0 c119
       replace hR := hR.tr0 c119
       replace hb117 := hb117.tr0 c119
       refine sq_q rfl (fun W hT => r_fieldAddr T.fld51_1 rfl) <| sq_q rfl (fun W hT => r_load1 (v := S _) T.one9 rfl (Blk.cell (show Blk W b6 _ _ from hT.2.2.1.trans o122) rfl)) <| sq_q rfl (fun W hT => r_fieldAddr T.fld51_3 rfl) <| sq_q rfl (fun W hT => r_load1 (v := S _) T.one9 rfl (Blk.cell (show Blk W b6 _ _ from hT.2.2.1.trans o122) rfl)) <| sq_q rfl (fun W hT => r_fieldAddr T.fld51_4 rfl) <| sq_q rfl (fun W hT => r_load1 (v := .bool _) T.one4 rfl (Blk.cell (show Blk W b6 _ _ from hT.2.2.1.trans o122) rfl)) <| sq_q rfl (fun W hT => r_fieldAddr T.fld40_2 rfl) <| sq_store1 rfl T.size9 (v := S _) rfl rfl rfl hb74 rfl (Nat.le_of_ble_eq_true rfl) q5 rfl ?_
       intro w123 c124 hb125; simp only [setVs, setV] at hb125
       clear hb74
       replace HC := HC.then1 c124 ge_b5
       replace hb4 := hb4.tr1 c124 ne_b2_b5
       replace hb13 := hb13.tr1 c124 ne_b4_b5
       replace hR := hR.tr c124 q2
       replace hb117 := hb117.tr1 c124 (Ne.symm ne_b5_b6)
       refine ⟨_, fun _ h => h, ⟨(Eq.trans hb4 o120.symm), (Eq.trans hb13 o121.symm), (Eq.trans hb117 o122.symm), trivial⟩, ?_⟩
       refine sq_q rfl (fun W hT => r_fieldAddr T.fld40_3 rfl) <| sq_store1 rfl T.size9 (v := S _) rfl rfl rfl hb125 rfl (Nat.le_of_ble_eq_true rfl) q5 rfl ?_
       intro w126 c127 hb128; simp only [setVs, setV] at hb128
       clear hb125
       replace HC := HC.then1 c127 ge_b5
       replace hb4 := hb4.tr1 c127 ne_b2_b5
       replace hb13 := hb13.tr1 c127 ne_b4_b5
       replace hR := hR.tr c127 q2
       replace hb117 := hb117.tr1 c127 (Ne.symm ne_b5_b6)
       refine ⟨_, fun _ h => h, ⟨(Eq.trans hb4 o120.symm), (Eq.trans hb13 o121.symm), (Eq.trans hb117 o122.symm), trivial⟩, ?_⟩
       refine sq_q rfl (fun W hT => r_fieldAddr T.fld40_4 rfl) <| sq_store2 rfl T.size4 (v := .bool _) rfl rfl rfl hb128 rfl (Nat.le_of_ble_eq_true rfl) q5 rfl ?_
       intro w129 c130 hb131; simp only [setVs, setV] at hb131
       clear hb128
       replace HC := HC.then1 c130 ge_b5
       replace hb4 := hb4.tr1 c130 ne_b2_b5
       replace hR := hR.tr c130 q2
       clear o120
       clear o121
       clear o122
       refine sq_nil <| then_n <| sr rfl <| Wp rfl <| st_loadA (vs := [_, _, _, _, _]) T.agg40 rfl (hb131.cells (n := 5) (vs := [_, _, _, _, _]) rfl) rfl <| Wp rfl <| st_st (v := .agg ⟨[_, _, _, _, _]⟩) T.size40 rfl rfl rfl hb4 ?_
       intro w132 c133 hb134; simp only [setVs, setV] at hb134
       clear hb4
       replace HC := HC.then1 c133 ge_b2
       replace hR := hR.tr c133 q2
       refine aB rfl <| en <| x_ret <| pp_ret <| ret_many (vs := [.agg ⟨[_, _, _, _, _]⟩, .bool _]) rfl ⟨⟨_, _, rfl, run_loadVarA T.agg40 (hb134.cells (n := 5) rfl) rfl⟩, ⟨rfl, trivial⟩⟩ (Nat.le_of_ble_eq_true rfl) ?_
       exact ⟨some ⟨if byte (hd Z).text 0 = 62 then 1 else 0, (hd Z).text, (hd Z.tail).text, (hd Z.tail).here, (hd Z.tail).raw⟩, Z.tail.tail, by rw [redir_op hk2 hrd, any_ok hk1]; rfl, hs3, (fun h => nomatch h), fun _ => by have := tail_len hg; have := tail_len hgY2; omega, by rw [if_neg hgt]; rfl, hR, HC⟩
     ·try simp only [nm, ne_eq] at g75
      exfalso; simp_all
 ·try simp only [nm, ne_eq] at g14
  iterate 4 refine w_no 3 12 true ?_
  iterate 4 refine w_no 7 16 false ?_
  refine w_no 3 12 true <| pF rfl rfl <| en <| x_cond (t := false) rfl (fun h0 => ?_) (fun h0 => ?_)
  · exact absurd h0 (by decide)
  refine x_skip <| then_n <| sr rfl <| Wp rfl <| st_bld (ps := []) (vs := [.int _ _, S _, S _, S _, .bool _]) T.bld40 rfl <| Wp rfl <| st_alloc T.zero40 ?_
  intro b5 w135 e136 c137 hb138
  have ge_b5 := gB e136 HC.size
  have ne_b2_b5 := nF e136 hb4.ne_size
  have ne_b4_b5 := nF e136 hb13.ne_size
  replace HC := HC.then c137
  replace hR := hR.tr0 c137
  replace hb4 := hb4.tr0 c137
  replace hb13 := hb13.tr0 c137
  clear e136
  refine Wp rfl <| st_st (v := .agg ⟨[_, _, _, _, _]⟩) T.size40 rfl rfl rfl hb138 ?_
  intro w139 c140 hb141; simp only [setVs, setV] at hb141
  clear hb138
  replace HC := HC.then1 c140 ge_b5
  replace hR := hR.tr c140 q2
  replace hb4 := hb4.tr1 c140 ne_b2_b5
  replace hb13 := hb13.tr1 c140 ne_b4_b5
  refine en <| x_seq <| sr rfl <| fa T.fld51_0 rfl <| lI T.one3 rfl (hb13.cell rfl) <| Wp rfl <| st_eql rfl rfl <| en <| x_cond rfl (fun h1 => ?_) (fun h1 => ?_)
  ·try simp only [nm, ne_eq] at h1
   have hk4 : (hd Z).kind = 4 := by first | assumption | simp_all
   have hio := hg.io hk4
   have hgY := hg.tail (by rw [hk4]; decide)
   have hgY2 := hgY.tail (by rw [hio.2]; decide)
   have hlp := List.length_pos_iff.2 hio.1
   have h48 := (byte (hd Z).text 0 - 48).toNat_lt
   refine x_region rfl <| mP rfl <| Wp rfl <| st_call (ags := [_]) rfl rfl T.ent29 rfl (gnext_spec hg hR hq) ?_
   rintro _ w142 ⟨rfl, hR, c143⟩
   replace HC := HC.trans c143 q4
   replace hb4 := hb4.tr1 c143 (by omega)
   replace hb13 := hb13.tr1 c143 (by omega)
   replace hb141 := hb141.tr1 c143 (by omega)
   refine Wp rfl <| st_field (v := S _) T.fone51_1 rfl rfl <| Wp rfl <| st_sidx T.u9 rfl rfl (by decide) (by omega) <| Wp rfl <| st_subk rfl rfl (by exact u8_sub48 (byte (hd Z).text 0)) <| Wp rfl <| st_convk T.u5 T.u3 rfl (by exact wrap64_id (by omega) (by omega)) <| fa T.fld40_0 rfl <| Wp rfl <| st_st (v := .int _ _) T.size3 rfl rfl rfl hb141 ?_
   intro w144 c145 hb146; simp only [setVs, setV] at hb146
   clear hb141
   replace HC := HC.then1 c145 ge_b5
   replace hb4 := hb4.tr1 c145 ne_b2_b5
   replace hb13 := hb13.tr1 c145 ne_b4_b5
   replace hR := hR.tr c145 q2
   refine en <| sr rfl <| mP rfl <| Wp rfl <| st_call (ags := [_]) rfl rfl T.ent29 rfl (gnext_spec (Z := Z.tail) hgY hR hq) ?_
   rintro _ w147 ⟨rfl, hR, c148⟩
   replace HC := HC.trans c148 q4
   replace hb4 := hb4.tr1 c148 (by omega)
   replace hb13 := hb13.tr1 c148 (by omega)
   replace hb146 := hb146.tr1 c148 (by omega)
   refine Wp rfl <| st_field (v := S _) T.fone51_1 rfl rfl <| fa T.fld40_1 rfl <| Wp rfl <| st_st (v := S _) T.size9 rfl rfl rfl hb146 ?_
   intro w149 c150 hb151; simp only [setVs, setV] at hb151
   clear hb146
   replace HC := HC.then1 c150 ge_b5
   replace hb4 := hb4.tr1 c150 ne_b2_b5
   replace hb13 := hb13.tr1 c150 ne_b4_b5
   replace hR := hR.tr c150 q2
   refine en <| x_seq <| sr rfl <| fa T.fld51_0 rfl <| lI T.one3 rfl (hb13.cell rfl) <| Wp rfl <| st_eql rfl rfl <| mB rfl <| w_split (d := 42) rfl (fun g152 => ?_) (fun g152 => ?_)
   ·try simp only [nm, ne_eq] at g152
    exfalso; rw [hk4] at *; simp_all
   ·try simp only [nm, ne_eq] at g152
    iterate 4 refine w_no 3 42 true ?_
    refine pF rfl rfl <| en <| x_cond (t := false) rfl (fun h2 => ?_) (fun h2 => ?_)
    · exact absurd h2 (by decide)
    refine x_skip <| then_n <| x_seq ?_
    have hs2 : Suf Z.tail.tail Z := (Suf.tail hgY (by rw [hio.2]; decide)).trans (.tail hg (by rw [hk4]; decide))
    refine x_region rfl <| mP rfl <| w_plain rfl (st_callP (ags := [_]) rfl rfl T.ent114 rfl (gany_spec (Z := Z.tail.tail) hgY2 hR hq) ?_ ?_)
    ·rintro _ w153 ⟨hk1, rfl, c154⟩
     replace HC := HC.trans c154 q4
     refine then_p <| pp_panic ?_
     exact ⟨_, _, by rw [redir_io hk4, any_er hk1]; rfl, hs2, rfl, HC⟩
    rintro _ w155 ⟨hk1, rfl, hR, c156⟩
    replace HC := HC.trans c156 q4
    replace hb4 := hb4.tr1 c156 (by omega)
    replace hb13 := hb13.tr1 c156 (by omega)
    replace hb151 := hb151.tr1 c156 (by omega)
    refine Wp rfl <| st_alloc T.zero51 ?_
    intro b6 w157 e158 c159 hb160
    have ge_b6 := gB e158 HC.size
    have ne_b2_b6 := nF e158 hb4.ne_size
    have ne_b4_b6 := nF e158 hb13.ne_size
    have ne_b5_b6 := nF e158 hb151.ne_size
    replace HC := HC.then c159
    replace hb4 := hb4.tr0 c159
    replace hb13 := hb13.tr0 c159
    replace hb151 := hb151.tr0 c159
    replace hR := hR.tr0 c159
    clear e158
    refine Wp rfl <| st_st (v := .agg ⟨[_, _, _, _, _]⟩) T.size51 rfl rfl rfl hb160 ?_
    intro w161 c162 hb163; simp only [setVs, setV] at hb163
    clear hb160
    replace HC := HC.then1 c162 ge_b6
    replace hb4 := hb4.tr1 c162 ne_b2_b6
    replace hb13 := hb13.tr1 c162 ne_b4_b6
    replace hb151 := hb151.tr1 c162 ne_b5_b6
    replace hR := hR.tr c162 q2
    refine en <| x_seq ?_
    have hs3 : Suf Z.tail.tail.tail Z := (Suf.tail hgY2 (by rw [hk1]; decide)).trans hs2
    refine x_draw [(0, 0), (1, 0), (2, 0), (3, 0), (4, 0), (5, 0), (6, 0), (7, 1), (8, 0), (9, 1), (10, 0), (11, 2)] T.mixed rfl rfl rfl (fun W => W.heap[b2]? = w161.heap[b2]? ∧ W.heap[b4]? = w161.heap[b4]? ∧ W.heap[b6]? = w161.heap[b6]? ∧ True) ⟨rfl, rfl, rfl, trivial⟩ ?_
    have o166 := hb4
    have o167 := hb13
    have o168 := hb163
    have c165 := Chg.drew w161
    generalize World.drew w161 = w164 at c165 ⊢
    replace HC := HC.then c165
    replace hb4 := hb4.tr0 c165
    replace hb13 := hb13.tr0 c165
    replace hb151 := hb151.tr0 c165
    replace hR := hR.tr0 c165
    replace hb163 := hb163.tr0 c165
    refine sq_q rfl (fun W hT => r_fieldAddr T.fld51_1 rfl) <| sq_q rfl (fun W hT => r_load1 (v := S _) T.one9 rfl (Blk.cell (show Blk W b6 _ _ from hT.2.2.1.trans o168) rfl)) <| sq_q rfl (fun W hT => r_fieldAddr T.fld51_3 rfl) <| sq_q rfl (fun W hT => r_load1 (v := S _) T.one9 rfl (Blk.cell (show Blk W b6 _ _ from hT.2.2.1.trans o168) rfl)) <| sq_q rfl (fun W hT => r_fieldAddr T.fld51_4 rfl) <| sq_q rfl (fun W hT => r_load1 (v := .bool _) T.one4 rfl (Blk.cell (show Blk W b6 _ _ from hT.2.2.1.trans o168) rfl)) <| sq_q rfl (fun W hT => r_fieldAddr T.fld40_2 rfl) <| sq_store1 rfl T.size9 (v := S _) rfl rfl rfl hb151 rfl (Nat.le_of_ble_eq_true rfl) q5 rfl ?_
    intro w169 c170 hb171; simp only [setVs, setV] at hb171
    clear hb151
    replace HC := HC.then1 c170 ge_b5
    replace hb4 := hb4.tr1 c170 ne_b2_b5
    replace hb13 := hb13.tr1 c170 ne_b4_b5
    replace hR := hR.tr c170 q2
    replace hb163 := hb163.tr1 c170 (Ne.symm ne_b5_b6)
    refine ⟨_, fun _ h => h, ⟨(Eq.trans hb4 o166.symm), (Eq.trans hb13 o167.symm), (Eq.trans hb163 o168.symm), trivial⟩, ?_⟩
    refine sq_q rfl (fun W hT => r_fieldAddr T.fld40_3 rfl) <| sq_store1 rfl T.size9 (v := S _) rfl rfl rfl hb171 rfl (Nat.le_of_ble_eq_true rfl) q5 rfl ?_
    intro w172 c173 hb174; simp only [setVs, setV] at hb174
    clear hb171
    replace HC := HC.then1 c173 ge_b5
    replace hb4 := hb4.tr1 c173 ne_b2_b5
    replace hb13 := hb13.tr1 c173 ne_b4_b5
    replace hR := hR.tr c173 q2
    replace hb163 := hb163.tr1 c173 (Ne.symm ne_b5_b6)
    refine ⟨_, fun _ h => h, ⟨(Eq.trans hb4 o166.symm), (Eq.trans hb13 o167.symm), (Eq.trans hb163 o168.symm), trivial⟩, ?_⟩
    refine sq_q rfl (fun W hT => r_fieldAddr T.fld40_4 rfl) <| sq_store2 rfl T.size4 (v := .bool _) rfl rfl rfl hb174 rfl (Nat.le_of_ble_eq_true rfl) q5 rfl ?_
    intro w175 c176 hb177; simp only [setVs, setV] at hb177
    clear hb174
    replace HC := HC.then1 c176 ge_b5
    replace hb4 := hb4.tr1 c176 ne_b2_b5
    replace hR := hR.tr c176 q2
    clear o166
    clear o167
    clear o168
    refine sq_nil <| then_n <| sr rfl <| Wp rfl <| st_loadA (vs := [_, _, _, _, _]) T.agg40 rfl (hb177.cells (n := 5) (vs := [_, _, _, _, _]) rfl) rfl <| Wp rfl <| st_st (v := .agg ⟨[_, _, _, _, _]⟩) T.size40 rfl rfl rfl hb4 ?_
    intro w178 c179 hb180; simp only [setVs, setV] at hb180
    clear hb4
    replace HC := HC.then1 c179 ge_b2
    replace hR := hR.tr c179 q2
    refine aB rfl <| en <| x_ret <| pp_ret <| ret_many (vs := [.agg ⟨[_, _, _, _, _]⟩, .bool _]) rfl ⟨⟨_, _, rfl, run_loadVarA T.agg40 (hb180.cells (n := 5) rfl) rfl⟩, ⟨rfl, trivial⟩⟩ (Nat.le_of_ble_eq_true rfl) ?_
    exact ⟨some ⟨((byte (hd Z).text 0 - 48).toNat : Int), (hd Z.tail).text, (hd Z.tail.tail).text, (hd Z.tail.tail).here, (hd Z.tail.tail).raw⟩, Z.tail.tail.tail, by rw [redir_io hk4, any_ok hk1]; rfl, hs3, (fun h => nomatch h), fun _ => by have := tail_len hg; have := tail_len hgY; have := tail_len hgY2; omega, rfl, hR, HC⟩
  ·try simp only [nm, ne_eq] at h1
   have hk2 : (hd Z).kind = 2 := by first | assumption | simp_all
   have hrd : redB (hd Z).text = true := by first | assumption | simp_all
   have hgY2 := hg.tail (by rw [hk2]; decide)
   have hlp := List.length_pos_iff.2 (redB_ne hrd)
   refine x_skip <| then_n <| sr rfl <| mP rfl <| Wp rfl <| st_call (ags := [_]) rfl rfl T.ent29 rfl (gnext_spec (Z := Z) hg hR hq) ?_
   rintro _ w181 ⟨rfl, hR, c182⟩
   replace HC := HC.trans c182 q4
   replace hb4 := hb4.tr1 c182 (by omega)
   replace hb13 := hb13.tr1 c182 (by omega)
   replace hb141 := hb141.tr1 c182 (by omega)
   refine Wp rfl <| st_field (v := S _) T.fone51_1 rfl rfl <| fa T.fld40_1 rfl <| Wp rfl <| st_st (v := S _) T.size9 rfl rfl rfl hb141 ?_
   intro w183 c184 hb185; simp only [setVs, setV] at hb185
   clear hb141
   replace HC := HC.then1 c184 ge_b5
   replace hb4 := hb4.tr1 c184 ne_b2_b5
   replace hb13 := hb13.tr1 c184 ne_b4_b5
   replace hR := hR.tr c184 q2
   refine en <| x_seq <| sr rfl <| fa T.fld51_0 rfl <| lI T.one3 rfl (hb13.cell rfl) <| Wp rfl <| st_eql rfl rfl <| mB rfl <| w_split (d := 42) rfl (fun g186 => ?_) (fun g186 => ?_)
   ·try simp only [nm, ne_eq] at g186
    refine w_yes 3 42 true <| st_fieldAddr T.fld40_1 rfl <| w_yes 3 42 true <| st_load1 (v := S _) T.one9 rfl (hb185.cell rfl) <| w_yes 3 42 true <| st_sidx T.u9 rfl rfl (by decide) (by omega) <| w_yes 3 42 true <| st_eql rfl rfl <| pT rfl rfl <| en <| x_cond rfl (fun h2 => ?_) (fun h2 => ?_)
    ·try simp only [nm, ne_eq] at h2
     have hgt : byte (hd Z).text 0 = 62 := u8_eq (by first | assumption | simp_all) rfl
     refine x_region rfl <| fa T.fld40_0 rfl <| Wp rfl <| st_st (v := .int _ _) T.size3 rfl rfl rfl hb185 ?_
     intro w187 c188 hb189; simp only [setVs, setV] at hb189
     clear hb185
     replace HC := HC.then1 c188 ge_b5
     replace hb4 := hb4.tr1 c188 ne_b2_b5
     replace hb13 := hb13.tr1 c188 ne_b4_b5
     replace hR := hR.tr c188 q2
     refine en <| x_seq ?_
     have hs2 : Suf Z.tail Z := .tail hg (by rw [hk2]; decide)
     refine x_region rfl <| mP rfl <| w_plain rfl (st_callP (ags := [_]) rfl rfl T.ent114 rfl (gany_spec (Z := Z.tail) hgY2 hR hq) ?_ ?_)
     ·rintro _ w190 ⟨hk1, rfl, c191⟩
      replace HC := HC.trans c191 q4
      refine then_p <| pp_panic ?_
      exact ⟨_, _, by rw [redir_op hk2 hrd, any_er hk1]; rfl, hs2, rfl, HC⟩
     rintro _ w192 ⟨hk1, rfl, hR, c193⟩
     replace HC := HC.trans c193 q4
     replace hb4 := hb4.tr1 c193 (by omega)
     replace hb13 := hb13.tr1 c193 (by omega)
     replace hb189 := hb189.tr1 c193 (by omega)
     refine Wp rfl <| st_alloc T.zero51 ?_
     intro b6 w194 e195 c196 hb197
     have ge_b6 := gB e195 HC.size
     have ne_b2_b6 := nF e195 hb4.ne_size
     have ne_b4_b6 := nF e195 hb13.ne_size
     have ne_b5_b6 := nF e195 hb189.ne_size
     replace HC := HC.then c196
     replace hb4 := hb4.tr0 c196
     replace hb13 := hb13.tr0 c196
     replace hb189 := hb189.tr0 c196
     replace hR := hR.tr0 c196
     clear e195
     refine Wp rfl <| st_st (v := .agg ⟨[_, _, _, _, _]⟩) T.size51 rfl rfl rfl hb197 ?_
     intro w198 c199 hb200; simp only [setVs, setV] at hb200
     clear hb197
     replace HC := HC.then1 c199 ge_b6
     replace hb4 := hb4.tr1 c199 ne_b2_b6
     replace hb13 := hb13.tr1 c199 ne_b4_b6
     replace hb189 := hb189.tr1 c199 ne_b5_b6
     replace hR := hR.tr c199 q2
     refine en <| x_seq ?_
     have hs3 : Suf Z.tail.tail Z := (Suf.tail hgY2 (by rw [hk1]; decide)).trans hs2
     refine x_draw [(0, 0), (1, 0), (2, 0), (3, 0), (4, 0), (5, 0), (6, 0), (7, 1), (8, 0), (9, 1), (10, 0), (11, 2)] T.mixed rfl rfl rfl (fun W => W.heap[b2]? = w198.heap[b2]? ∧ W.heap[b4]? = w198.heap[b4]? ∧ W.heap[b6]? = w198.heap[b6]? ∧ True) ⟨rfl, rfl, rfl, trivial⟩ ?_
     have o203 := hb4
     have o204 := hb13
     have o205 := hb200
     have c202 := Chg.drew w198
     generalize World.drew w198 = w201 at c202 ⊢
     replace HC := HC.then c202
     replace hb4 := hb4.tr0 c202
     replace hb13 := hb13.tr0 c202
     replace hb189 := hb189.tr0 c202
     replace hR := hR.tr0 c202
     replace hb200 := hb200.tr0 c202
     refine sq_q rfl (fun W hT => r_fieldAddr T.fld51_1 rfl) <| sq_q rfl (fun W hT => r_load1 (v := S _) T.one9 rfl (Blk.cell (show Blk W b6 _ _ from hT.2.2.1.trans o205) rfl)) <| sq_q rfl (fun W hT => r_fieldAddr T.fld51_3 rfl) <| sq_q rfl (fun W hT => r_load1 (v := S _) T.one9 rfl (Blk.cell (show Blk W b6 _ _ from hT.2.2.1.trans o205) rfl)) <| sq_q rfl (fun W hT => r_fieldAddr T.fld51_4 rfl) <| sq_q rfl (fun W hT => r_load1 (v := .bool _) T.one4 rfl (Blk.cell (show Blk W b6 _ _ from hT.2.2.1.trans o205) rfl)) <| sq_q rfl (fun W hT => r_fieldAddr T.fld40_2 rfl) <| sq_store1 rfl T.size9 (v := S _) rfl rfl rfl hb189 rfl (Nat.le_of_ble_eq_true rfl) q5 rfl ?_
     intro w206 c207 hb208; simp only [setVs, setV] at hb208
     clear hb189
     replace HC := HC.then1 c207 ge_b5
     replace hb4 := hb4.tr1 c207 ne_b2_b5
     replace hb13 := hb13.tr1 c207 ne_b4_b5
     replace hR := hR.tr c207 q2
     replace hb200 := hb200.tr1 c207 (Ne.symm ne_b5_b6)
     refine ⟨_, fun _ h => h, ⟨(Eq.trans hb4 o203.symm), (Eq.trans hb13 o204.symm), (Eq.trans hb200 o205.symm), trivial⟩, ?_⟩
     refine sq_q rfl (fun W hT => r_fieldAddr T.fld40_3 rfl) <| sq_store1 rfl T.size9 (v := S _) rfl rfl rfl hb208 rfl (Nat.le_of_ble_eq_true rfl) q5 rfl ?_
     intro w209 c210 hb211; simp only [setVs, setV] at hb211
     clear hb208
     replace HC := HC.then1 c210 ge_b5
     replace hb4 := hb4.tr1 c210 ne_b2_b5
     replace hb13 := hb13.tr1 c210 ne_b4_b5
     replace hR := hR.tr c210 q2
     replace hb200 := hb200.tr1 c210 (Ne.symm ne_b5_b6)
     refine ⟨_, fun _ h => h, ⟨(Eq.trans hb4 o203.symm), (Eq.trans hb13 o204.symm), (Eq.trans hb200 o205.symm), trivial⟩, ?_⟩
     refine sq_q rfl (fun W hT => r_fieldAddr T.fld40_4 rfl) <| sq_store2 rfl T.size4 (v := .bool _) rfl rfl rfl hb211 rfl (Nat.le_of_ble_eq_true rfl) q5 rfl ?_
     intro w212 c213 hb214; simp only [setVs, setV] at hb214
     clear hb211
     replace HC := HC.then1 c213 ge_b5
     replace hb4 := hb4.tr1 c213 ne_b2_b5
     replace hR := hR.tr c213 q2
     clear o203
     clear o204
     clear o205
     refine sq_nil <| then_n <| sr rfl <| Wp rfl <| st_loadA (vs := [_, _, _, _, _]) T.agg40 rfl (hb214.cells (n := 5) (vs := [_, _, _, _, _]) rfl) rfl <| Wp rfl <| st_st (v := .agg ⟨[_, _, _, _, _]⟩) T.size40 rfl rfl rfl hb4 ?_
     intro w215 c216 hb217; simp only [setVs, setV] at hb217
     clear hb4
     replace HC := HC.then1 c216 ge_b2
     replace hR := hR.tr c216 q2
     refine aB rfl <| en <| x_ret <| pp_ret <| ret_many (vs := [.agg ⟨[_, _, _, _, _]⟩, .bool _]) rfl ⟨⟨_, _, rfl, run_loadVarA T.agg40 (hb217.cells (n := 5) rfl) rfl⟩, ⟨rfl, trivial⟩⟩ (Nat.le_of_ble_eq_true rfl) ?_
     exact ⟨some ⟨if byte (hd Z).text 0 = 62 then 1 else 0, (hd Z).text, (hd Z.tail).text, (hd Z.tail).here, (hd Z.tail).raw⟩, Z.tail.tail, by rw [redir_op hk2 hrd, any_ok hk1]; rfl, hs3, (fun h => nomatch h), fun _ => by have := tail_len hg; have := tail_len hgY2; omega, by rw [if_pos hgt]; rfl, hR, HC⟩
    ·try simp only [nm, ne_eq] at h2
     have hgt : ¬ byte (hd Z).text 0 = 62 := fun e => by have h8 : ((byte (hd Z).text 0).toNat : Int) = 62 := (by rw [e]; rfl); first | omega | simp_all
     refine x_skip <| then_n <| x_seq ?_
     have hs2 : Suf Z.tail Z := .tail hg (by rw [hk2]; decide)
     refine x_region rfl <| mP rfl <| w_plain rfl (st_callP (ags := [_]) rfl rfl T.ent114 rfl (gany_spec (Z := Z.tail) hgY2 hR hq) ?_ ?_)
     ·rintro _ w218 ⟨hk1, rfl, c219⟩
      replace HC := HC.trans c219 q4
      refine then_p <| pp_panic ?_
      exact ⟨_, _, by rw [redir_op hk2 hrd, any_er hk1]; rfl, hs2, rfl, HC⟩
     rintro _ w220 ⟨hk1, rfl, hR, c221⟩
     replace HC := HC.trans c221 q4
     replace hb4 := hb4.tr1 c221 (by omega)
     replace hb13 := hb13.tr1 c221 (by omega)
     replace hb185 := hb185.tr1 c221 (by omega)
     refine Wp rfl <| st_alloc T.zero51 ?_
     intro b6 w222 e223 c224 hb225
     have ge_b6 := gB e223 HC.size
     have ne_b2_b6 := nF e223 hb4.ne_size
     have ne_b4_b6 := nF e223 hb13.ne_size
     have ne_b5_b6 := nF e223 hb185.ne_size
     replace HC := HC.then c224
     replace hb4 := hb4.tr0 c224
     replace hb13 := hb13.tr0 c224
     replace hb185 := hb185.tr0 c224
     replace hR := hR.tr0 c224
     clear e223
     refine Wp rfl <| st_st (v := .agg ⟨[_, _, _, _, _]⟩) T.size51 rfl rfl rfl hb225 ?_
     intro w226 c227 hb228; simp only [setVs, setV] at hb228
     clear hb225
     replace HC := HC.then1 c227 ge_b6
     replace hb4 := hb4.tr1 c227 ne_b2_b6
     replace hb13 := hb13.tr1 c227 ne_b4_b6
     replace hb185 := hb185.tr1 c227 ne_b5_b6
     replace hR := hR.tr c227 q2
     refine en <| x_seq ?_
     have hs3 : Suf Z.tail.tail Z := (Suf.tail hgY2 (by rw [hk1]; decide)).trans hs2
     refine x_draw [(0, 0), (1, 0), (2, 0), (3, 0), (4, 0), (5, 0), (6, 0), (7, 1), (8, 0), (9, 1), (10, 0), (11, 2)] T.mixed rfl rfl rfl (fun W => W.heap[b2]? = w226.heap[b2]? ∧ W.heap[b4]? = w226.heap[b4]? ∧ W.heap[b6]? = w226.heap[b6]? ∧ True) ⟨rfl, rfl, rfl, trivial⟩ ?_
     have o231 := hb4
     have o232 := hb13
     have o233 := hb228
     have c230 := Chg.drew w226
     generalize World.drew w226 = w229 at c230 ⊢
     replace HC := HC.then c230
     replace hb4 := hb4.tr0 c230
     replace hb13 := hb13.tr0 c230
     replace hb185 := hb185.tr0 c230
     replace hR := hR.tr0 c230
     replace hb228 := hb228.tr0 c230
     refine sq_q rfl (fun W hT => r_fieldAddr T.fld51_1 rfl) <| sq_q rfl (fun W hT => r_load1 (v := S _) T.one9 rfl (Blk.cell (show Blk W b6 _ _ from hT.2.2.1.trans o233) rfl)) <| sq_q rfl (fun W hT => r_fieldAddr T.fld51_3 rfl) <| sq_q rfl (fun W hT => r_load1 (v := S _) T.one9 rfl (Blk.cell (show Blk W b6 _ _ from hT.2.2.1.trans o233) rfl)) <| sq_q rfl (fun W hT => r_fieldAddr T.fld51_4 rfl) <| sq_q rfl (fun W hT => r_load1 (v := .bool _) T.one4 rfl (Blk.cell (show Blk W b6 _ _ from hT.2.2.1.trans o233) rfl)) <| sq_q rfl (fun W hT => r_fieldAddr T.fld40_2 rfl) <| sq_store1 rfl T.size9 (v := S _) rfl rfl rfl hb185 rfl (Nat.le_of_ble_eq_true rfl) q5 rfl ?_
     intro w234 c235 hb236; simp only [setVs, setV] at hb236
     clear hb185
     replace HC := HC.then1 c235 ge_b5
     replace hb4 := hb4.tr1 c235 ne_b2_b5
     replace hb13 := hb13.tr1 c235 ne_b4_b5
     replace hR := hR.tr c235 q2
     replace hb228 := hb228.tr1 c235 (Ne.symm ne_b5_b6)
     refine ⟨_, fun _ h => h, ⟨(Eq.trans hb4 o231.symm), (Eq.trans hb13 o232.symm), (Eq.trans hb228 o233.symm), trivial⟩, ?_⟩
     refine sq_q rfl (fun W hT => r_fieldAddr T.fld40_3 rfl) <| sq_store1 rfl T.size9 (v := S _) rfl rfl rfl hb236 rfl (Nat.le_of_ble_eq_true rfl) q5 rfl ?_
     intro w237 c238 hb239; simp only [setVs, setV] at hb239
     clear hb236
     replace HC := HC.then1 c238 ge_b5
     replace hb4 := hb4.tr1 c238 ne_b2_b5
     replace hb13 := hb13.tr1 c238 ne_b4_b5
     replace hR := hR.tr c238 q2
     replace hb228 := hb228.tr1 c238 (Ne.symm ne_b5_b6)
     refine ⟨_, fun _ h => h, ⟨(Eq.trans hb4 o231.symm), (Eq.trans hb13 o232.symm), (Eq.trans hb228 o233.symm), trivial⟩, ?_⟩
     refine sq_q rfl (fun W hT => r_fieldAddr T.fld40_4 rfl) <| sq_store2 rfl T.size4 (v := .bool _) rfl rfl rfl hb239 rfl (Nat.le_of_ble_eq_true rfl) q5 rfl ?_
     intro w240 c241 hb242; simp only [setVs, setV] at hb242
     clear hb239
     replace HC := HC.then1 c241 ge_b5
     replace hb4 := hb4.tr1 c241 ne_b2_b5
     replace hR := hR.tr c241 q2
     clear o231
     clear o232
     clear o233
     refine sq_nil <| then_n <| sr rfl <| Wp rfl <| st_loadA (vs := [_, _, _, _, _]) T.agg40 rfl (hb242.cells (n := 5) (vs := [_, _, _, _, _]) rfl) rfl <| Wp rfl <| st_st (v := .agg ⟨[_, _, _, _, _]⟩) T.size40 rfl rfl rfl hb4 ?_
     intro w243 c244 hb245; simp only [setVs, setV] at hb245
     clear hb4
     replace HC := HC.then1 c244 ge_b2
     replace hR := hR.tr c244 q2
     refine aB rfl <| en <| x_ret <| pp_ret <| ret_many (vs := [.agg ⟨[_, _, _, _, _]⟩, .bool _]) rfl ⟨⟨_, _, rfl, run_loadVarA T.agg40 (hb245.cells (n := 5) rfl) rfl⟩, ⟨rfl, trivial⟩⟩ (Nat.le_of_ble_eq_true rfl) ?_
     exact ⟨some ⟨if byte (hd Z).text 0 = 62 then 1 else 0, (hd Z).text, (hd Z.tail).text, (hd Z.tail).here, (hd Z.tail).raw⟩, Z.tail.tail, by rw [redir_op hk2 hrd, any_ok hk1]; rfl, hs3, (fun h => nomatch h), fun _ => by have := tail_len hg; have := tail_len hgY2; omega, by rw [if_neg hgt]; rfl, hR, HC⟩
   ·try simp only [nm, ne_eq] at g186
    exfalso; simp_all

theorem gassign_spec (x : Bytes) (w : World) (hx : x.length < 4294967281) (hmx : MaxT w) : CallR Tryz.prog 107 #[S x] w fun v w' => v = .tuple ⟨[.agg ⟨pairC (assignG x).1⟩, .bool (assignG x).2]⟩ ∧ Chg [] w w' := by
 refine callR_of_wp (args := [_]) Tryz.func107 rfl (Nat.le_of_ble_eq_true rfl) ?_
 have HC : Chg [] w w := .refl _
 have hm1 := hmx.lt
 refine sr rfl <| Wp rfl <| st_alloc T.zero56 ?_
 intro b2 w1 e2 c3 hb4
 have ge_b2 := gB e2 HC.size
 replace HC := HC.then c3
 replace hmx := hmx.tr0 c3
 clear e2
 refine aB rfl <| en <| sr rfl <| mS rfl <| Wp rfl <| st_call (ags := [_, _]) rfl rfl T.ent38 rfl (Cut_spec x [61] _ hx hmx) ?_
 rintro _ w5 ⟨rfl, c6⟩
 replace HC := HC.then c6
 replace hb4 := hb4.tr0 c6
 refine mv (v := .tuple ⟨[_, _, _]⟩) rfl <| Wp rfl <| st_extract (vs := [_, _, _]) (v := S _) rfl rfl <| Wp rfl <| st_extract (vs := [_, _, _]) (v := S _) rfl rfl <| Wp rfl <| st_extract (vs := [_, _, _]) (v := .bool _) rfl rfl <| aS rfl <| aS rfl <| aB rfl <| en <| sr rfl <| mS rfl <| mS rfl <| Wp rfl <| st_bld (ps := [(0, .tmp 13), (1, .tmp 14)]) (vs := [S _, S _]) T.bld56 rfl <| mB rfl <| mB rfl <| w_split (d := 17) rfl (fun g7 => ?_) (fun g7 => ?_)
 ·try simp only [nm, ne_eq] at g7
  refine w_yes 4 17 true <| st_move (v := S _) rfl <| w_yes 4 17 true <| st_call (ags := [_]) rfl rfl T.ent80 rfl (CName_spec (Lib.cut x [61]).1 _) ?_
  rintro _ w8 ⟨rfl, c9⟩
  replace HC := HC.then c9
  replace hb4 := hb4.tr0 c9
  refine pT rfl rfl <| Wp rfl <| st_st (v := .agg ⟨[_, _]⟩) T.size56 rfl rfl rfl hb4 ?_
  intro w10 c11 hb12; simp only [setVs, setV] at hb12
  clear hb4
  replace HC := HC.then1 c11 ge_b2
  refine aB rfl <| en <| x_ret <| ret_many (vs := [.agg ⟨[_, _]⟩, .bool _]) rfl ⟨⟨_, _, rfl, run_loadVarA T.agg56 (hb12.cells (n := 2) rfl) rfl⟩, ⟨rfl, trivial⟩⟩ (Nat.le_of_ble_eq_true rfl) <| ⟨?_, HC⟩
  unfold assignG pairC
  first | (rw [show (Lib.cut x [61]).2.2 = true by assumption]; rfl) | (rw [show (Lib.cut x [61]).2.2 = false by first | assumption | simp_all]; rfl)
 ·try simp only [nm, ne_eq] at g7
  refine w_no 4 17 true <| w_no 4 17 true <| pF rfl rfl <| Wp rfl <| st_st (v := .agg ⟨[_, _]⟩) T.size56 rfl rfl rfl hb4 ?_
  intro w13 c14 hb15; simp only [setVs, setV] at hb15
  clear hb4
  replace HC := HC.then1 c14 ge_b2
  refine aB rfl <| en <| x_ret <| ret_many (vs := [.agg ⟨[_, _]⟩, .bool _]) rfl ⟨⟨_, _, rfl, run_loadVarA T.agg56 (hb15.cells (n := 2) rfl) rfl⟩, ⟨rfl, trivial⟩⟩ (Nat.le_of_ble_eq_true rfl) <| ⟨?_, HC⟩
  unfold assignG pairC
  first | (rw [show (Lib.cut x [61]).2.2 = true by assumption]; rfl) | (rw [show (Lib.cut x [61]).2.2 = false by first | assumption | simp_all]; rfl)

end Go.Proofs.YtghjmiggobpmoaaGreatDoor.K
