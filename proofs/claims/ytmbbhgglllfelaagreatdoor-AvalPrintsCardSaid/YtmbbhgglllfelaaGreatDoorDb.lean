/- Reading expressions, as the document does: the methods that call one another. -/
import Derived.Test.YtmbbhgglllfelaaGreatDoorDa
import Derived.Test.YtmbbhgglllfelaaGreatDoorKitQ
set_option linter.unusedVariables false
set_option linter.unusedSimpArgs false
set_option autoImplicit false
set_option maxRecDepth 20000
namespace Go.Proofs.YtmbbhgglllfelaaGreatDoor.K
open Go Go.Proofs Go.RowKit

/-- A method's contract: it enters. -/
def QCw (fn : FuncId) (nt : NT) (f : Nat) : Prop := ∀ (D Dt : Nat → Prop) (w : World) (b : Nat) (At : Option Addr) (capt : Nat) (TT ts : List Tk) (out : List Nd) (d : Nat) (pl : Int) (r : PR), QPre D Dt w b At capt TT ts out d pl → wI (pP f) nt d ts out = some r →
  CallR Tryz.prog fn ⟨[.pointer (some ⟨b, 0, none⟩)]⟩ w (fun v w' => QPost D Dt b At capt TT ts out d pl w v w' r)
def QCl (fn : FuncId) (n : Nat) (f : Nat) : Prop := ∀ (D Dt : Nat → Prop) (w : World) (b : Nat) (At : Option Addr) (capt : Nat) (TT ts : List Tk) (out : List Nd) (d : Nat) (pl : Int) (r : PR), QPre D Dt w b At capt TT ts out d pl → pP f (.lev n) d ts out = some r →
  CallR Tryz.prog fn ⟨[.pointer (some ⟨b, 0, none⟩), .int .i64 ((n + 1 : Nat) : Int)]⟩ w (fun v w' => QPost D Dt b At capt TT ts out d pl w v w' r)
structure QI (f : Nat) : Prop where
  asg : QCw 18 .asg f
  cho : QCw 41 .cho f
  trm : QCw 77 .trm f
  lev : ∀ n : Nat, n ≤ 10 → QCl 56 n f
theorem wI_ok {p : NT → Nat → List Tk → List Nd → Option PR} {nt : NT} {d : Nat} {ts : List Tk} {out : List Nd} {r : PR} (h : wI p nt d ts out = some r) (hd : d + 1 ≤ 64) : p nt (d + 1) ts out = some r := by
  unfold wI at h; rw [if_neg (by omega)] at h; exact h
theorem wI_deep {p : NT → Nat → List Tk → List Nd → Option PR} {nt : NT} {d : Nat} {ts : List Tk} {out : List Nd} {r : PR} (h : wI p nt d ts out = some r) (hd : 64 < d + 1) : r = .bad 104 (hdT ts).2 := by
  unfold wI at h; rw [if_pos hd] at h; exact (Option.some.inj h).symm
def opsAll : List Bytes := lvls.flatten
theorem lev_all : ∀ s, s ∈ opsAll → ∀ n, n ∈ List.range 10 → decide (levelV s = ((n + 1 : Nat) : Int)) = (lvls.getD n []).contains s := by decide
theorem lev_none {s : Bytes} (h : s ∉ opsAll) : levelV s = 0 := by
  simp only [opsAll, lvls, List.flatten_cons, List.flatten_nil, List.append_nil, List.cons_append, List.nil_append, List.mem_cons, List.not_mem_nil, or_false, not_or] at h
  simp only [levelV, h, if_false]
theorem lev_in {s : Bytes} {n : Nat} (hn : n < 10) : levelV s = ((n + 1 : Nat) : Int) ↔ s ∈ lvls.getD n [] := by
  by_cases h : s ∈ opsAll
  · have := lev_all s h n (List.mem_range.2 hn)
    rw [← List.contains_iff_mem, ← this, decide_eq_true_eq]
  · rw [lev_none h]
    refine ⟨fun h2 => by omega, fun h2 => absurd (List.mem_flatten.2 ⟨_, ?_, h2⟩) h⟩
    rw [List.getD_eq_getElem?_getD, List.getElem?_eq_getElem (show n < lvls.length from hn)]; exact List.getElem_mem _

set_option maxHeartbeats 800000 in
theorem qasg_step (f : Nat) (ih : QI f) : QCw 18 .asg (f + 1) := by
 intro D Dt w b At capt TT ts out d pl r hp hpr
 obtain ⟨hfr0, hDb, hDt, ⟨i, Ao, capo, hb, hs, hd, ho⟩, hwf, hd64, hlen, hTl⟩ := hp
 obtain ⟨x, tl, rfl⟩ := hwf.ne
 have hDtb : ¬ Dt b := fun h => (hDt b h).2 rfl
 have hDtn : ∀ k, w.heap.size ≤ k → ¬ Dt k := fun k hk h => (hDt k h).1 (hfr0 k hk)
 have hll : out.length + (tl.length + 1) ≤ 1000000000 := hlen
 have hi9 := dropq_lt hd
 refine callR_of_wp (args := [_]) Tryz.func18 rfl (Nat.le_of_ble_eq_true rfl) ?_
 have HC : ChgP (fun k => D k ∨ k = b) w w := .refl _
 refine sr rfl <| aI rfl <| en <| x_seq <| sr rfl <| mP rfl <| Wp rfl <| st_call (ags := [_]) rfl rfl T.ent39 rfl (qenter_spec hb hs hd hDtb (fun k hk => hDtn k (Nat.le_trans HC.size hk)) hd64) ?_
 rintro _ w1 ⟨(⟨hdp, rfl, hb1⟩ | ⟨hdp, rfl, hb1⟩), c2⟩
 ·replace HC := HC.cB c2
  replace hs := hs.tN c2 (fun h => (hDt _ h).2 rfl)
  replace ho := ho.tN c2 hDb
  obtain rfl := wI_deep hpr hdp
  refine Wp rfl <| st_not rfl <| en <| x_cond (t := true) rfl (fun h0 => ?_) (fun h0 => ?_)
  rotate_left
  · exact absurd h0 (by decide)
  refine sr rfl <| aI rfl <| en <| x_ret <| then_r <| ret_tmp (v := .int _ _) rfl rfl ?_
  exact ⟨by decide, ⟨0, rfl⟩, ⟨_, _, _, (by simp), Nat.le_refl _, ⟨_, _, _, hb1, hs, hd, ho⟩⟩, HC⟩
 ·replace HC := HC.cB c2
  replace hs := hs.tN c2 (fun h => (hDt _ h).2 rfl)
  replace ho := ho.tN c2 hDb
  replace hpr := wI_ok hpr hdp
  rw [pP] at hpr
  have hd65 : d + 1 ≤ 64 := hdp
  refine Wp rfl <| st_not rfl <| en <| x_cond (t := false) rfl (fun h0 => ?_) (fun h0 => ?_)
  · exact absurd h0 (by decide)
  refine x_skip <| then_n <| sr rfl <| aI rfl <| en <| x_seq ?_
  obtain ⟨lb7, _, vs6, hA3, hR5, hC4⟩ := hs.at (i := i) (x := x) (dropq_at hd)
  obtain rfl : vs6 = tokC x.1 x.2 := hR5
  have hDl_lb7 := Sl.domAt hs (dropq_at hd) hA3
  refine x_draw [(0, 0), (1, 0), (2, 0), (3, 0), (4, 0), (5, 0), (6, 0), (7, 0), (8, 0), (9, 0), (10, 1), (11, 2)] T.mixed rfl rfl rfl (fun W => W.heap[b]? = w1.heap[b]? ∧ W.heap[lb7]? = w1.heap[lb7]? ∧ True) ⟨rfl, rfl, trivial⟩ ?_
  have o10 := hb1
  have c9 := Chg.drew w1
  generalize World.drew w1 = w8 at c9 ⊢
  have ht_lb7 : lb7 < w8.heap.size ∧ w8.heap[lb7]? = w1.heap[lb7]? := ⟨Nat.lt_of_lt_of_le hC4.lt c9.size, c9.block lb7 hC4.lt (by simp)⟩
  replace HC := HC.chg0 c9
  replace hs := hs.tr0 c9
  replace ho := ho.tr0 c9
  replace hb1 := hb1.tr0 c9
  refine sq_q rfl (fun W hT => r_move (v := .pointer _) rfl) <| sq_q rfl (fun W hT => r_nilCheck rfl) <| sq_q rfl (fun W hT => r_fieldAddr T.fld57_0 rfl) <| sq_q rfl (fun W hT => r_load1 (v := .slice _ _ _) T.one52 rfl (Blk.cell (show Blk W b _ _ from hT.1.trans o10) rfl)) <| sq_q rfl (fun W hT => r_move (v := .pointer _) rfl) <| sq_q rfl (fun W hT => r_nilCheck rfl) <| sq_q rfl (fun W hT => r_fieldAddr T.fld57_1 rfl) <| sq_q rfl (fun W hT => r_load1 (v := .int _ _) T.one3 rfl (Blk.cell (show Blk W b _ _ from hT.1.trans o10) rfl)) <| sq_q rfl (fun W hT => r_indexAddr T.u52 T.size60 (congrArg (fun z => Value.slice z _ _) hA3) rfl (by omega) (by (have h9 := dropq_lt hd; omega))) <| sq_q rfl (fun W hT => r_loadA (vs := [_, _, _, _]) T.agg60 rfl (Cells.tr hC4 hT.2.1) rfl) <| sq_alloc1 rfl T.zero60 ?_
  intro b4 w11 e12 c13 hb14
  have ge_b4 : w.heap.size ≤ b4 := by rw [e12]; exact HC.size
  have ne_b_b4 : b ≠ b4 := by rw [e12]; exact hb1.ne_size
  have nal_b4 : b4 ∉ ob Ao := ho.fresh (by rw [e12]; exact Nat.le_refl _)
  have nh_lb7_b4 : lb7 ≠ b4 := by have h1 := ht_lb7.1; have h2 := e12; omega
  obtain ⟨D15, sD15, nD15, mD15⟩ := dom_new D b4
  replace ho := ho.mono (D' := D15) (fun k hk hD => mD15 k hD (by omega))
  have ndD15_b : ¬ D15 b := fun h => hDb (sD15 _ h)
  have subD15 : ∀ k, D15 k → D k := fun k h => sD15 k h
  have frD15 : ∀ k, b4 + 1 ≤ k → D15 k := fun k hk => mD15 k (hfr0 k (by omega)) (by omega)
  replace HC := HC.chg0 c13
  replace hs := hs.tr0 c13
  replace ho := ho.tr0 c13
  replace hb1 := hb1.tr0 c13
  replace ht_lb7 := And.intro (Nat.lt_of_lt_of_le ht_lb7.1 c13.size) ((c13.block lb7 ht_lb7.1 (by simp)).trans ht_lb7.2)
  clear e12
  refine ext_T (b := b4) ⟨(Eq.trans hb1 o10.symm), (by first | assumption | exact ht_lb7.2), trivial⟩ ?_
  have o16 := hb14
  refine sq_store2 rfl T.size60 (v := .agg ⟨[.int _ _, .int _ _, S _, .int _ _]⟩) rfl rfl rfl hb14 rfl (Nat.le_of_ble_eq_true rfl) (by simp [Value.oneCell', S]) rfl ?_
  intro w17 c18 hb19; simp only [setVs, setV] at hb19
  clear hb14
  replace HC := HC.cN c18 ge_b4
  replace hs := hs.tN c18 (fun h => (hDt _ h).1 (hfr0 _ ge_b4))
  replace ho := ho.tN c18 nD15
  replace hb1 := hb1.tr1 c18 ne_b_b4
  replace ht_lb7 := And.intro (Nat.lt_of_lt_of_le ht_lb7.1 c18.size) ((c18.block lb7 ht_lb7.1 (by intro hx; first | exact hDtb ((List.mem_singleton.1 hx) ▸ hDl_lb7) | exact absurd (List.mem_singleton.1 hx) (by assumption))).trans ht_lb7.2)
  clear o10
  clear o16
  refine sq_nil <| then_n <| x_seq <| x_seq ?_
  rcases Decidable.em (x.1.1 = 2) with hk2 | hk2
  ·obtain ⟨y, tl2, rfl⟩ := (hwf.tl (by omega)).ne
   obtain ⟨lb24, _, vs23, hA20, hR22, hC21⟩ := hs.at (i := (i + 1)) (x := y) (dropq_at1 hd)
   obtain rfl : vs23 = tokC y.1 y.2 := hR22
   have hDl_lb24 := Sl.domAt hs (dropq_at1 hd) hA20
   obtain ⟨lb29, _, vs28, hA25, hR27, hC26⟩ := hs.at (i := (i + 1)) (x := y) (dropq_at1 hd)
   obtain rfl : vs28 = tokC y.1 y.2 := hR27
   have hDl_lb29 := Sl.domAt hs (dropq_at1 hd) hA25
   refine x_draw [(0, 0), (1, 0), (2, 0), (3, 0), (4, 0), (5, 0), (6, 0), (7, 0), (8, 0), (9, 0), (10, 0), (11, 0), (12, 0), (13, 0), (14, 0), (15, 0), (16, 0), (17, 0), (18, 0), (19, 0), (20, 0), (21, 0), (22, 0), (23, 0), (24, 0), (25, 0), (26, 0), (27, 0), (28, 0), (29, 0), (30, 0), (31, 1), (32, 0)] T.mixed rfl rfl rfl (fun W => W.heap[b]? = w17.heap[b]? ∧ W.heap[b4]? = w17.heap[b4]? ∧ W.heap[lb24]? = w17.heap[lb24]? ∧ W.heap[lb29]? = w17.heap[lb29]? ∧ True) ⟨rfl, rfl, rfl, rfl, trivial⟩ ?_
   have o32 := hb1
   have o33 := hb19
   have c31 := Chg.drew w17
   generalize World.drew w17 = w30 at c31 ⊢
   have ht_lb24 : lb24 < w30.heap.size ∧ w30.heap[lb24]? = w17.heap[lb24]? := ⟨Nat.lt_of_lt_of_le hC21.lt c31.size, c31.block lb24 hC21.lt (by simp)⟩
   have ht_lb29 : lb29 < w30.heap.size ∧ w30.heap[lb29]? = w17.heap[lb29]? := ⟨Nat.lt_of_lt_of_le hC26.lt c31.size, c31.block lb29 hC26.lt (by simp)⟩
   replace HC := HC.chg0 c31
   replace hs := hs.tr0 c31
   replace ho := ho.tr0 c31
   replace hb1 := hb1.tr0 c31
   replace hb19 := hb19.tr0 c31
   refine sq_q rfl (fun W hT => r_fieldAddr T.fld60_0 rfl) <| sq_q rfl (fun W hT => r_load1 (v := .int _ _) T.one3 rfl (Blk.cell (show Blk W b4 _ _ from hT.2.1.trans o33) rfl)) <| sq_q rfl (fun W hT => r_eql rfl rfl) <| sq_q rfl (fun W hT => r_move (v := .bool _) rfl) <| sq_split (d := 23) rfl (fun g34 => ?_) (fun g34 => ?_)
   ·try simp only [nm, ne_eq] at g34
    refine sq_q rfl (fun W hT => r_move (v := .pointer _) rfl) <| sq_q rfl (fun W hT => r_nilCheck rfl) <| sq_q rfl (fun W hT => r_fieldAddr T.fld57_0 rfl) <| sq_q rfl (fun W hT => r_load1 (v := .slice _ _ _) T.one52 rfl (Blk.cell (show Blk W b _ _ from hT.1.trans o32) rfl)) <| sq_q rfl (fun W hT => r_move (v := .pointer _) rfl) <| sq_q rfl (fun W hT => r_nilCheck rfl) <| sq_q rfl (fun W hT => r_fieldAddr T.fld57_1 rfl) <| sq_q rfl (fun W hT => r_load1 (v := .int _ _) T.one3 rfl (Blk.cell (show Blk W b _ _ from hT.1.trans o32) rfl)) <| sq_q rfl (fun W hT => r_addk rfl rfl (by exact wrap_1 (by omega))) <| sq_q rfl (fun W hT => r_indexAddr T.u52 T.size60 (congrArg (fun z => Value.slice z _ _) hA20) rfl (by omega) (by (have h9 := dropq_lt hd; simp only [List.length_cons] at h9; omega))) <| sq_q rfl (fun W hT => r_fieldAddr T.fld60_0 rfl) <| sq_q rfl (fun W hT => r_load1 (v := .int _ _) T.one3 rfl (Cells.at (j := 0) (Cells.tr hC21 hT.2.2.1) rfl)) <| sq_q rfl (fun W hT => r_eql rfl rfl) <| sq_q rfl (fun W hT => r_pick (b := true) (v := .bool _) rfl rfl) <| sq_q rfl (fun W hT => r_move (v := .bool _) rfl) <| sq_split (d := 38) rfl (fun g35 => ?_) (fun g35 => ?_)
    ·try simp only [nm, ne_eq] at g35
     refine sq_q rfl (fun W hT => r_move (v := .pointer _) rfl) <| sq_q rfl (fun W hT => r_nilCheck rfl) <| sq_q rfl (fun W hT => r_fieldAddr T.fld57_0 rfl) <| sq_q rfl (fun W hT => r_load1 (v := .slice _ _ _) T.one52 rfl (Blk.cell (show Blk W b _ _ from hT.1.trans o32) rfl)) <| sq_q rfl (fun W hT => r_move (v := .pointer _) rfl) <| sq_q rfl (fun W hT => r_nilCheck rfl) <| sq_q rfl (fun W hT => r_fieldAddr T.fld57_1 rfl) <| sq_q rfl (fun W hT => r_load1 (v := .int _ _) T.one3 rfl (Blk.cell (show Blk W b _ _ from hT.1.trans o32) rfl)) <| sq_q rfl (fun W hT => r_addk rfl rfl (by exact wrap_1 (by omega))) <| sq_q rfl (fun W hT => r_indexAddr T.u52 T.size60 (congrArg (fun z => Value.slice z _ _) hA25) rfl (by omega) (by (have h9 := dropq_lt hd; simp only [List.length_cons] at h9; omega))) <| sq_q rfl (fun W hT => r_fieldAddr T.fld60_2 rfl) <| sq_q rfl (fun W hT => r_load1 (v := S _) T.one9 rfl (Cells.at (j := 2) (Cells.tr hC26 hT.2.2.2.1) rfl)) <| sq_call1 rfl (r_call (ags := [_]) rfl rfl T.ent12 rfl) (RAssigns_spec _ _) ?_
     rintro _ w36 ⟨rfl, c37⟩
     replace HC := HC.chg0 c37
     replace hs := hs.tr0 c37
     replace ho := ho.tr0 c37
     replace hb1 := hb1.tr0 c37
     replace hb19 := hb19.tr0 c37
     replace ht_lb24 := And.intro (Nat.lt_of_lt_of_le ht_lb24.1 c37.size) ((c37.block lb24 ht_lb24.1 (by simp)).trans ht_lb24.2)
     replace ht_lb29 := And.intro (Nat.lt_of_lt_of_le ht_lb29.1 c37.size) ((c37.block lb29 ht_lb29.1 (by simp)).trans ht_lb29.2)
     refine ⟨_, fun _ h => h, ⟨(Eq.trans hb1 o32.symm), (Eq.trans hb19 o33.symm), (by first | assumption | exact ht_lb24.2), (by first | assumption | exact ht_lb29.2), trivial⟩, ?_⟩
     refine sq_q rfl (fun W hT => r_pick (b := true) (v := .bool _) rfl rfl) ?_
     clear o32
     clear o33
     refine sq_nil <| then_n <| x_cond rfl (fun h1 => ?_) (fun h1 => ?_)
     ·try simp only [nm, ne_eq] at h1
      have hA : isAsg (x :: y :: tl2) = true := by simp only [isAsg, hdT, List.headD_cons, List.drop_succ_cons, List.drop_zero, in_iff, Bool.and_eq_true, decide_eq_true_eq]; simp_all
      rw [if_pos hA] at hpr
      simp only [List.drop_succ_cons, List.drop_zero] at hpr
      have hwf2 : WfT tl2 := (hwf.tl (by omega)).tl (by omega)
      have hll2 : out.length + (tl2.length + 1 + 1) ≤ 1000000000 := hlen
      have hds := dropq_s2 hd
      refine x_seq ?_
      obtain ⟨lb42, _, vs41, hA38, hR40, hC39⟩ := hs.at (i := (i + 1)) (x := y) (dropq_at1 hd)
      obtain rfl : vs41 = tokC y.1 y.2 := hR40
      have hDl_lb42 := Sl.domAt hs (dropq_at1 hd) hA38
      refine x_draw [(0, 0), (1, 0), (2, 0), (3, 0), (4, 0), (5, 0), (6, 0), (7, 0), (8, 0), (9, 0), (10, 0), (11, 0), (12, 0)] T.mixed rfl rfl rfl (fun W => W.heap[b]? = w36.heap[b]? ∧ W.heap[b4]? = w36.heap[b4]? ∧ W.heap[lb42]? = w36.heap[lb42]? ∧ True) ⟨rfl, rfl, rfl, trivial⟩ ?_
      have o45 := hb1
      have o46 := hb19
      have c44 := Chg.drew w36
      generalize World.drew w36 = w43 at c44 ⊢
      have ht_lb42 : lb42 < w43.heap.size ∧ w43.heap[lb42]? = w36.heap[lb42]? := ⟨Nat.lt_of_lt_of_le hC39.lt c44.size, c44.block lb42 hC39.lt (by simp)⟩
      replace HC := HC.chg0 c44
      replace hs := hs.tr0 c44
      replace ho := ho.tr0 c44
      replace hb1 := hb1.tr0 c44
      replace hb19 := hb19.tr0 c44
      refine sq_q rfl (fun W hT => r_move (v := .pointer _) rfl) <| sq_q rfl (fun W hT => r_nilCheck rfl) <| sq_q rfl (fun W hT => r_fieldAddr T.fld57_0 rfl) <| sq_q rfl (fun W hT => r_load1 (v := .slice _ _ _) T.one52 rfl (Blk.cell (show Blk W b _ _ from hT.1.trans o45) rfl)) <| sq_q rfl (fun W hT => r_move (v := .pointer _) rfl) <| sq_q rfl (fun W hT => r_nilCheck rfl) <| sq_q rfl (fun W hT => r_fieldAddr T.fld57_1 rfl) <| sq_q rfl (fun W hT => r_load1 (v := .int _ _) T.one3 rfl (Blk.cell (show Blk W b _ _ from hT.1.trans o45) rfl)) <| sq_q rfl (fun W hT => r_addk rfl rfl (by exact wrap_1 (by omega))) <| sq_q rfl (fun W hT => r_indexAddr T.u52 T.size60 (congrArg (fun z => Value.slice z _ _) hA38) rfl (by omega) (by (have h9 := dropq_lt hd; simp only [List.length_cons] at h9; omega))) <| sq_q rfl (fun W hT => r_fieldAddr T.fld60_2 rfl) <| sq_q rfl (fun W hT => r_load1 (v := S _) T.one9 rfl (Cells.at (j := 2) (Cells.tr hC39 hT.2.2.1) rfl)) <| sq_q rfl (fun W hT => r_assign (v := S _) rfl) ?_
      clear o45
      clear o46
      refine sq_nil <| then_n <| sr rfl <| mP rfl <| mP rfl <| nc rfl <| fa T.fld57_1 rfl <| lI T.one3 rfl (hb1.cell rfl) <| Wp rfl <| st_addk rfl rfl (by exact wrap_2 (by omega)) <| nc rfl <| fa T.fld57_1 rfl <| Wp rfl <| st_store (v := .int _ _) T.size3 rfl rfl rfl hb1 rfl (Nat.le_of_ble_eq_true rfl) (by simp [Value.oneCell', S]) rfl ?_
      intro w47 c48 hb49; simp only [setVs, setV] at hb49
      clear hb1
      replace HC := HC.cB c48
      replace hs := hs.tN c48 (fun h => (hDt _ h).2 rfl)
      replace ho := ho.tN c48 ndD15_b
      replace hb19 := hb19.tr1 c48 (Ne.symm ne_b_b4)
      refine en <| sr rfl <| mP rfl ?_
      obtain ⟨ri1, hw1, hr1⟩ := bind_some (hpr)
      refine Wp rfl <| st_call (ags := [_]) rfl rfl T.ent18 rfl (ih.asg _ _ _ _ _ _ _ _ _ _ _ _ ⟨(fun k hk => frD15 k (by have h1 := hb19.lt; omega)), ndD15_b, (fun k h => ⟨fun h2 => (hDt k h).1 (subD15 k (h2)), (hDt k h).2⟩), ⟨_, _, _, hb49, hs, hds, ho⟩, hwf2, hd65, (by omega), hTl⟩ hw1) ?_
      rintro v1 w50 hP
      rcases ri1 with ⟨e1, a1⟩ | ⟨k1, ts1, out1⟩
      ·obtain ⟨he1, ⟨k1, rfl⟩, ⟨ts1, out1, dp1, hne1, hl1, i1, Ao1, capo1, hb1v, hs1v, hd1v, ho1v⟩, cP1⟩ := hP
       replace HC := HC.trans cP1 (fun k h => .inl (h.imp (subD15 k) id))
       replace hb19 := hb19.trP cP1 (fun h => h.elim nD15 (Ne.symm ne_b_b4))
       obtain ⟨x1, tl1, rfl⟩ := List.exists_cons_of_ne_nil hne1
       have hq1 := hl1
       simp only [List.length_cons] at hq1
       have hi91 := dropq_lt hd1v
       obtain rfl := hr1
       refine aI rfl <| en <| x_region rfl <| mP rfl <| mS rfl <| fa T.fld60_2 rfl <| lS T.one9 rfl (hb19.cell rfl) <| mI rfl <| Wp rfl <| st_lit (ps := [(0, .tmp 79)]) (vs := [.int _ _]) T.lit36 (by decide) rfl (by simp only [List.forall_mem_cons, List.not_mem_nil, false_imp_iff, implies_true, and_true]; exact rfl) rfl ?_
       intro b51 w52 e53 c54 hb55
       have ge_b51 : w.heap.size ≤ b51 := by rw [e53]; exact HC.size
       have ne_b4_b51 : b4 ≠ b51 := by rw [e53]; exact hb19.ne_size
       have ne_b_b51 : b ≠ b51 := by rw [e53]; exact hb1v.ne_size
       have geF_b51 : b4 + 1 ≤ b51 := by rw [e53]; exact hb19.lt
       have nal_b51 : b51 ∉ ob Ao1 := ho1v.fresh (by rw [e53]; exact Nat.le_refl _)
       replace HC := HC.chg0 c54
       replace hb19 := hb19.tr0 c54
       replace hb1v := hb1v.tr0 c54
       replace hs1v := hs1v.tr0 c54
       replace ho1v := ho1v.tr0 c54
       clear e53
       refine Wp rfl <| st_bld (ps := [(0, .tmp 76), (2, .tmp 78), (3, .tmp 80)]) (vs := [S _, .int _ _, S _, .slice _ _ _]) T.bld38 rfl ?_
       have nak_b51 : b51 ∉ ob Ao1 := nal_b51
       refine Wp rfl <| st_call (ags := [_, _]) rfl rfl T.ent40 rfl (qput_spec (D := D15) (x := ⟨y.1.2.2, 0, x.1.2.2, [k1]⟩) (fun k hk => frD15 k (by have h1 := hb19.lt; omega)) ndD15_b hb1v ho1v (kid_one (ks := [k1]) (show Blk _ _ (([k1] : List Int).flatMap fun x => [.int .i64 x]) _ from hb55) (by simp) ⟨frD15 _ (by exact geF_b51), nak_b51⟩) (by omega)) ?_
       rintro _ w56 ⟨rfl, ⟨Aop57, capop57, hbp57, hop57⟩, c57⟩
       replace HC := HC.chg c57 (fun k hk => .inl ((List.mem_cons.1 hk).elim .inr (fun h => .inl (subD15 k (ho1v.inD k h)))))
       replace hb19 := hb19.tr c57 (fun hx => (List.mem_cons.1 hx).elim (fun h => absurd h.symm ne_b_b4) (fun h => nD15 (ho1v.inD _ h)))
       replace hs1v := hs1v.tr c57 (fun k hk hD => (List.mem_cons.1 hk).elim (hDt k hD).2 (fun h => (hDt k hD).1 (subD15 k (ho1v.inD k h))))
       refine aI rfl <| en <| sr rfl <| mP rfl <| nc rfl <| fa T.fld57_3 rfl <| lI T.one3 rfl (hbp57.cell rfl) <| Wp rfl <| st_subk rfl rfl (by first | exact wrap_m (by omega) | exact rfl) <| nc rfl <| fa T.fld57_3 rfl <| Wp rfl <| st_store (v := .int _ _) T.size3 rfl rfl rfl hbp57 rfl (Nat.le_of_ble_eq_true rfl) (by simp [Value.oneCell', S]) rfl ?_
       intro w58 c59 hb60; simp only [setVs, setV] at hb60
       clear hbp57
       replace HC := HC.cB c59
       replace hb19 := hb19.tr1 c59 (Ne.symm ne_b_b4)
       replace hs1v := hs1v.tN c59 (fun h => (hDt _ h).2 rfl)
       replace hop57 := hop57.tN c59 ndD15_b
       refine en <| sr rfl <| mI rfl <| aI rfl <| en <| x_ret <| ret_tmp (v := .int _ _) rfl rfl ?_
       exact ⟨he1, ⟨_, rfl⟩, ⟨_, _, _, (by simp), (by simp only [List.length_append, List.length_cons, List.length_nil, List.drop_succ_cons, List.drop_zero] at *; omega), ⟨_, _, _, hb60, hs1v, hd1v, (hop57.mono (fun k _ h => subD15 k h))⟩⟩, HC⟩
      ·obtain ⟨rfl, ⟨i1, Ao1, capo1, hb1v, hs1v, hd1v, ho1v⟩, hwf1, ⟨hm1, hl1⟩, cP1⟩ := hP
       replace HC := HC.trans cP1 (fun k h => .inl (h.imp (subD15 k) id))
       replace hb19 := hb19.trP cP1 (fun h => h.elim nD15 (Ne.symm ne_b_b4))
       obtain ⟨x1, tl1, rfl⟩ := hwf1.ne
       have hq1 := hl1
       simp only [List.length_cons] at hq1
       have hi91 := dropq_lt hd1v
       have hqm1 := hm1
       simp only [List.length_cons] at hqm1
       have hg1 := hr1
       dsimp only at hg1
       obtain rfl := (Option.some.inj hg1).symm
       refine aI rfl <| en <| x_region rfl <| mP rfl <| mS rfl <| fa T.fld60_2 rfl <| lS T.one9 rfl (hb19.cell rfl) <| mI rfl <| Wp rfl <| st_lit (ps := [(0, .tmp 79)]) (vs := [.int _ _]) T.lit36 (by decide) rfl (by simp only [List.forall_mem_cons, List.not_mem_nil, false_imp_iff, implies_true, and_true]; exact rfl) rfl ?_
       intro b61 w62 e63 c64 hb65
       have ge_b61 : w.heap.size ≤ b61 := by rw [e63]; exact HC.size
       have ne_b4_b61 : b4 ≠ b61 := by rw [e63]; exact hb19.ne_size
       have ne_b_b61 : b ≠ b61 := by rw [e63]; exact hb1v.ne_size
       have geF_b61 : b4 + 1 ≤ b61 := by rw [e63]; exact hb19.lt
       have nal_b61 : b61 ∉ ob Ao1 := ho1v.fresh (by rw [e63]; exact Nat.le_refl _)
       replace HC := HC.chg0 c64
       replace hb19 := hb19.tr0 c64
       replace hb1v := hb1v.tr0 c64
       replace hs1v := hs1v.tr0 c64
       replace ho1v := ho1v.tr0 c64
       clear e63
       refine Wp rfl <| st_bld (ps := [(0, .tmp 76), (2, .tmp 78), (3, .tmp 80)]) (vs := [S _, .int _ _, S _, .slice _ _ _]) T.bld38 rfl ?_
       have nak_b61 : b61 ∉ ob Ao1 := nal_b61
       refine Wp rfl <| st_call (ags := [_, _]) rfl rfl T.ent40 rfl (qput_spec (D := D15) (x := ⟨y.1.2.2, 0, x.1.2.2, [k1]⟩) (fun k hk => frD15 k (by have h1 := hb19.lt; omega)) ndD15_b hb1v ho1v (kid_one (ks := [k1]) (show Blk _ _ (([k1] : List Int).flatMap fun x => [.int .i64 x]) _ from hb65) (by simp) ⟨frD15 _ (by exact geF_b61), nak_b61⟩) (by omega)) ?_
       rintro _ w66 ⟨rfl, ⟨Aop67, capop67, hbp67, hop67⟩, c67⟩
       replace HC := HC.chg c67 (fun k hk => .inl ((List.mem_cons.1 hk).elim .inr (fun h => .inl (subD15 k (ho1v.inD k h)))))
       replace hb19 := hb19.tr c67 (fun hx => (List.mem_cons.1 hx).elim (fun h => absurd h.symm ne_b_b4) (fun h => nD15 (ho1v.inD _ h)))
       replace hs1v := hs1v.tr c67 (fun k hk hD => (List.mem_cons.1 hk).elim (hDt k hD).2 (fun h => (hDt k hD).1 (subD15 k (ho1v.inD k h))))
       refine aI rfl <| en <| sr rfl <| mP rfl <| nc rfl <| fa T.fld57_3 rfl <| lI T.one3 rfl (hbp67.cell rfl) <| Wp rfl <| st_subk rfl rfl (by first | exact wrap_m (by omega) | exact rfl) <| nc rfl <| fa T.fld57_3 rfl <| Wp rfl <| st_store (v := .int _ _) T.size3 rfl rfl rfl hbp67 rfl (Nat.le_of_ble_eq_true rfl) (by simp [Value.oneCell', S]) rfl ?_
       intro w68 c69 hb70; simp only [setVs, setV] at hb70
       clear hbp67
       replace HC := HC.cB c69
       replace hb19 := hb19.tr1 c69 (Ne.symm ne_b_b4)
       replace hs1v := hs1v.tN c69 (fun h => (hDt _ h).2 rfl)
       replace hop67 := hop67.tN c69 ndD15_b
       refine en <| sr rfl <| mI rfl <| aI rfl <| en <| x_ret <| ret_tmp (v := .int _ _) rfl rfl ?_
       exact ⟨rfl, ⟨_, _, _, hb70, hs1v, hd1v, (hop67.mono (fun k _ h => subD15 k h))⟩, hwf1, ⟨by simp only [List.length_append, List.length_cons, List.length_nil, List.drop_succ_cons, List.drop_zero] at *; omega, by simp only [List.length_append, List.length_cons, List.length_nil, List.drop_succ_cons, List.drop_zero] at *; omega⟩, HC⟩
     ·try simp only [nm, ne_eq] at h1
      have hA : ¬ isAsg (x :: y :: tl2) = true := by simp only [isAsg, hdT, List.headD_cons, List.drop_succ_cons, List.drop_zero, in_iff, Bool.and_eq_true, decide_eq_true_eq]; simp_all
      rw [if_neg hA] at hpr
      refine x_region rfl <| mP rfl <| Wp rfl <| st_call (ags := [_]) rfl rfl T.ent41 rfl (ih.cho _ _ _ _ _ _ _ _ _ _ _ _ ⟨(fun k hk => frD15 k (by have h1 := hb19.lt; omega)), ndD15_b, (fun k h => ⟨fun h2 => (hDt k h).1 (subD15 k (h2)), (hDt k h).2⟩), ⟨_, _, _, hb1, hs, hd, ho⟩, hwf, hd65, hlen, hTl⟩ hpr) ?_
      rintro v2 w71 hP
      rcases r with ⟨e2, a2⟩ | ⟨k2, ts2, out2⟩
      ·obtain ⟨he2, ⟨k2, rfl⟩, ⟨ts2, out2, dp2, hne2, hl2, i2, Ao2, capo2, hb2v, hs2v, hd2v, ho2v⟩, cP2⟩ := hP
       replace HC := HC.trans cP2 (fun k h => .inl (h.imp (subD15 k) id))
       replace hb19 := hb19.trP cP2 (fun h => h.elim nD15 (Ne.symm ne_b_b4))
       obtain ⟨x2, tl2, rfl⟩ := List.exists_cons_of_ne_nil hne2
       have hq2 := hl2
       simp only [List.length_cons] at hq2
       have hi92 := dropq_lt hd2v
       refine aI rfl <| en <| sr rfl <| mP rfl <| nc rfl <| fa T.fld57_3 rfl <| lI T.one3 rfl (hb2v.cell rfl) <| Wp rfl <| st_subk rfl rfl (by first | exact wrap_m (by omega) | exact rfl) <| nc rfl <| fa T.fld57_3 rfl <| Wp rfl <| st_store (v := .int _ _) T.size3 rfl rfl rfl hb2v rfl (Nat.le_of_ble_eq_true rfl) (by simp [Value.oneCell', S]) rfl ?_
       intro w72 c73 hb74; simp only [setVs, setV] at hb74
       clear hb2v
       replace HC := HC.cB c73
       replace hb19 := hb19.tr1 c73 (Ne.symm ne_b_b4)
       replace hs2v := hs2v.tN c73 (fun h => (hDt _ h).2 rfl)
       replace ho2v := ho2v.tN c73 ndD15_b
       refine en <| sr rfl <| mI rfl <| aI rfl <| en <| x_ret <| ret_tmp (v := .int _ _) rfl rfl ?_
       exact ⟨he2, ⟨_, rfl⟩, ⟨_, _, _, (by simp), (by simp only [List.length_append, List.length_cons, List.length_nil, List.drop_succ_cons, List.drop_zero] at *; omega), ⟨_, _, _, hb74, hs2v, hd2v, (ho2v.mono (fun k _ h => subD15 k h))⟩⟩, HC⟩
      ·obtain ⟨rfl, ⟨i2, Ao2, capo2, hb2v, hs2v, hd2v, ho2v⟩, hwf2, ⟨hm2, hl2⟩, cP2⟩ := hP
       replace HC := HC.trans cP2 (fun k h => .inl (h.imp (subD15 k) id))
       replace hb19 := hb19.trP cP2 (fun h => h.elim nD15 (Ne.symm ne_b_b4))
       obtain ⟨x2, tl2, rfl⟩ := hwf2.ne
       have hq2 := hl2
       simp only [List.length_cons] at hq2
       have hi92 := dropq_lt hd2v
       have hqm2 := hm2
       simp only [List.length_cons] at hqm2
       refine aI rfl <| en <| sr rfl <| mP rfl <| nc rfl <| fa T.fld57_3 rfl <| lI T.one3 rfl (hb2v.cell rfl) <| Wp rfl <| st_subk rfl rfl (by first | exact wrap_m (by omega) | exact rfl) <| nc rfl <| fa T.fld57_3 rfl <| Wp rfl <| st_store (v := .int _ _) T.size3 rfl rfl rfl hb2v rfl (Nat.le_of_ble_eq_true rfl) (by simp [Value.oneCell', S]) rfl ?_
       intro w75 c76 hb77; simp only [setVs, setV] at hb77
       clear hb2v
       replace HC := HC.cB c76
       replace hb19 := hb19.tr1 c76 (Ne.symm ne_b_b4)
       replace hs2v := hs2v.tN c76 (fun h => (hDt _ h).2 rfl)
       replace ho2v := ho2v.tN c76 ndD15_b
       refine en <| sr rfl <| mI rfl <| aI rfl <| en <| x_ret <| ret_tmp (v := .int _ _) rfl rfl ?_
       exact ⟨rfl, ⟨_, _, _, hb77, hs2v, hd2v, (ho2v.mono (fun k _ h => subD15 k h))⟩, hwf2, ⟨by simp only [List.length_append, List.length_cons, List.length_nil, List.drop_succ_cons, List.drop_zero] at *; omega, by simp only [List.length_append, List.length_cons, List.length_nil, List.drop_succ_cons, List.drop_zero] at *; omega⟩, HC⟩
    ·try simp only [nm, ne_eq] at g35
     refine sq_no rfl rfl <| sq_no rfl rfl <| sq_no rfl rfl <| sq_no rfl rfl <| sq_no rfl rfl <| sq_no rfl rfl <| sq_no rfl rfl <| sq_no rfl rfl <| sq_no rfl rfl <| sq_no rfl rfl <| sq_no rfl rfl <| sq_no rfl rfl <| sq_no rfl rfl <| sq_q rfl (fun W hT => r_pick (b := false) (v := .bool _) rfl rfl) ?_
     clear o32
     clear o33
     refine sq_nil <| then_n <| x_cond (t := false) rfl (fun h1 => ?_) (fun h1 => ?_)
     · exact absurd h1 (by decide)
     have hA : ¬ isAsg (x :: y :: tl2) = true := by simp only [isAsg, hdT, List.headD_cons, List.drop_succ_cons, List.drop_zero, in_iff, Bool.and_eq_true, decide_eq_true_eq]; simp_all
     rw [if_neg hA] at hpr
     refine x_region rfl <| mP rfl <| Wp rfl <| st_call (ags := [_]) rfl rfl T.ent41 rfl (ih.cho _ _ _ _ _ _ _ _ _ _ _ _ ⟨(fun k hk => frD15 k (by have h1 := hb19.lt; omega)), ndD15_b, (fun k h => ⟨fun h2 => (hDt k h).1 (subD15 k (h2)), (hDt k h).2⟩), ⟨_, _, _, hb1, hs, hd, ho⟩, hwf, hd65, hlen, hTl⟩ hpr) ?_
     rintro v2 w78 hP
     rcases r with ⟨e2, a2⟩ | ⟨k2, ts2, out2⟩
     ·obtain ⟨he2, ⟨k2, rfl⟩, ⟨ts2, out2, dp2, hne2, hl2, i2, Ao2, capo2, hb2v, hs2v, hd2v, ho2v⟩, cP2⟩ := hP
      replace HC := HC.trans cP2 (fun k h => .inl (h.imp (subD15 k) id))
      replace hb19 := hb19.trP cP2 (fun h => h.elim nD15 (Ne.symm ne_b_b4))
      obtain ⟨x2, tl2, rfl⟩ := List.exists_cons_of_ne_nil hne2
      have hq2 := hl2
      simp only [List.length_cons] at hq2
      have hi92 := dropq_lt hd2v
      refine aI rfl <| en <| sr rfl <| mP rfl <| nc rfl <| fa T.fld57_3 rfl <| lI T.one3 rfl (hb2v.cell rfl) <| Wp rfl <| st_subk rfl rfl (by first | exact wrap_m (by omega) | exact rfl) <| nc rfl <| fa T.fld57_3 rfl <| Wp rfl <| st_store (v := .int _ _) T.size3 rfl rfl rfl hb2v rfl (Nat.le_of_ble_eq_true rfl) (by simp [Value.oneCell', S]) rfl ?_
      intro w79 c80 hb81; simp only [setVs, setV] at hb81
      clear hb2v
      replace HC := HC.cB c80
      replace hb19 := hb19.tr1 c80 (Ne.symm ne_b_b4)
      replace hs2v := hs2v.tN c80 (fun h => (hDt _ h).2 rfl)
      replace ho2v := ho2v.tN c80 ndD15_b
      refine en <| sr rfl <| mI rfl <| aI rfl <| en <| x_ret <| ret_tmp (v := .int _ _) rfl rfl ?_
      exact ⟨he2, ⟨_, rfl⟩, ⟨_, _, _, (by simp), (by simp only [List.length_append, List.length_cons, List.length_nil, List.drop_succ_cons, List.drop_zero] at *; omega), ⟨_, _, _, hb81, hs2v, hd2v, (ho2v.mono (fun k _ h => subD15 k h))⟩⟩, HC⟩
     ·obtain ⟨rfl, ⟨i2, Ao2, capo2, hb2v, hs2v, hd2v, ho2v⟩, hwf2, ⟨hm2, hl2⟩, cP2⟩ := hP
      replace HC := HC.trans cP2 (fun k h => .inl (h.imp (subD15 k) id))
      replace hb19 := hb19.trP cP2 (fun h => h.elim nD15 (Ne.symm ne_b_b4))
      obtain ⟨x2, tl2, rfl⟩ := hwf2.ne
      have hq2 := hl2
      simp only [List.length_cons] at hq2
      have hi92 := dropq_lt hd2v
      have hqm2 := hm2
      simp only [List.length_cons] at hqm2
      refine aI rfl <| en <| sr rfl <| mP rfl <| nc rfl <| fa T.fld57_3 rfl <| lI T.one3 rfl (hb2v.cell rfl) <| Wp rfl <| st_subk rfl rfl (by first | exact wrap_m (by omega) | exact rfl) <| nc rfl <| fa T.fld57_3 rfl <| Wp rfl <| st_store (v := .int _ _) T.size3 rfl rfl rfl hb2v rfl (Nat.le_of_ble_eq_true rfl) (by simp [Value.oneCell', S]) rfl ?_
      intro w82 c83 hb84; simp only [setVs, setV] at hb84
      clear hb2v
      replace HC := HC.cB c83
      replace hb19 := hb19.tr1 c83 (Ne.symm ne_b_b4)
      replace hs2v := hs2v.tN c83 (fun h => (hDt _ h).2 rfl)
      replace ho2v := ho2v.tN c83 ndD15_b
      refine en <| sr rfl <| mI rfl <| aI rfl <| en <| x_ret <| ret_tmp (v := .int _ _) rfl rfl ?_
      exact ⟨rfl, ⟨_, _, _, hb84, hs2v, hd2v, (ho2v.mono (fun k _ h => subD15 k h))⟩, hwf2, ⟨by simp only [List.length_append, List.length_cons, List.length_nil, List.drop_succ_cons, List.drop_zero] at *; omega, by simp only [List.length_append, List.length_cons, List.length_nil, List.drop_succ_cons, List.drop_zero] at *; omega⟩, HC⟩
   ·try simp only [nm, ne_eq] at g34
    exact absurd hk2 g34
  ·refine x_draw [(0, 0), (1, 0), (2, 0), (3, 0), (4, 0), (5, 0), (6, 0), (7, 0), (8, 0), (9, 0), (10, 0), (11, 0), (12, 0), (13, 0), (14, 0), (15, 0), (16, 0), (17, 0), (18, 0), (19, 0), (20, 0), (21, 0), (22, 0), (23, 0), (24, 0), (25, 0), (26, 0), (27, 0), (28, 0), (29, 0), (30, 0), (31, 1), (32, 0)] T.mixed rfl rfl rfl (fun W => W.heap[b]? = w17.heap[b]? ∧ W.heap[b4]? = w17.heap[b4]? ∧ True) ⟨rfl, rfl, trivial⟩ ?_
   have o87 := hb1
   have o88 := hb19
   have c86 := Chg.drew w17
   generalize World.drew w17 = w85 at c86 ⊢
   replace HC := HC.chg0 c86
   replace hs := hs.tr0 c86
   replace ho := ho.tr0 c86
   replace hb1 := hb1.tr0 c86
   replace hb19 := hb19.tr0 c86
   refine sq_q rfl (fun W hT => r_fieldAddr T.fld60_0 rfl) <| sq_q rfl (fun W hT => r_load1 (v := .int _ _) T.one3 rfl (Blk.cell (show Blk W b4 _ _ from hT.2.1.trans o88) rfl)) <| sq_q rfl (fun W hT => r_eql rfl rfl) <| sq_q rfl (fun W hT => r_move (v := .bool _) rfl) <| sq_split (d := 23) rfl (fun g89 => ?_) (fun g89 => ?_)
   ·try simp only [nm, ne_eq] at g89
    exact absurd g89 hk2
   ·try simp only [nm, ne_eq] at g89
    refine sq_no rfl rfl <| sq_no rfl rfl <| sq_no rfl rfl <| sq_no rfl rfl <| sq_no rfl rfl <| sq_no rfl rfl <| sq_no rfl rfl <| sq_no rfl rfl <| sq_no rfl rfl <| sq_no rfl rfl <| sq_no rfl rfl <| sq_no rfl rfl <| sq_no rfl rfl <| sq_q rfl (fun W hT => r_pick (b := false) (v := .bool _) rfl rfl) <| sq_q rfl (fun W hT => r_move (v := .bool _) rfl) <| sq_no rfl rfl <| sq_no rfl rfl <| sq_no rfl rfl <| sq_no rfl rfl <| sq_no rfl rfl <| sq_no rfl rfl <| sq_no rfl rfl <| sq_no rfl rfl <| sq_no rfl rfl <| sq_no rfl rfl <| sq_no rfl rfl <| sq_no rfl rfl <| sq_no rfl rfl <| sq_q rfl (fun W hT => r_pick (b := false) (v := .bool _) rfl rfl) ?_
    clear o87
    clear o88
    refine sq_nil <| then_n <| x_cond (t := false) rfl (fun h1 => ?_) (fun h1 => ?_)
    · exact absurd h1 (by decide)
    have hA : ¬ isAsg (x :: tl) = true := by simp only [isAsg, hdT, List.headD_cons, List.drop_succ_cons, List.drop_zero, in_iff, Bool.and_eq_true, decide_eq_true_eq]; simp_all
    rw [if_neg hA] at hpr
    refine x_region rfl <| mP rfl <| Wp rfl <| st_call (ags := [_]) rfl rfl T.ent41 rfl (ih.cho _ _ _ _ _ _ _ _ _ _ _ _ ⟨(fun k hk => frD15 k (by have h1 := hb19.lt; omega)), ndD15_b, (fun k h => ⟨fun h2 => (hDt k h).1 (subD15 k (h2)), (hDt k h).2⟩), ⟨_, _, _, hb1, hs, hd, ho⟩, hwf, hd65, hlen, hTl⟩ hpr) ?_
    rintro v2 w90 hP
    rcases r with ⟨e2, a2⟩ | ⟨k2, ts2, out2⟩
    ·obtain ⟨he2, ⟨k2, rfl⟩, ⟨ts2, out2, dp2, hne2, hl2, i2, Ao2, capo2, hb2v, hs2v, hd2v, ho2v⟩, cP2⟩ := hP
     replace HC := HC.trans cP2 (fun k h => .inl (h.imp (subD15 k) id))
     replace hb19 := hb19.trP cP2 (fun h => h.elim nD15 (Ne.symm ne_b_b4))
     obtain ⟨x2, tl2, rfl⟩ := List.exists_cons_of_ne_nil hne2
     have hq2 := hl2
     simp only [List.length_cons] at hq2
     have hi92 := dropq_lt hd2v
     refine aI rfl <| en <| sr rfl <| mP rfl <| nc rfl <| fa T.fld57_3 rfl <| lI T.one3 rfl (hb2v.cell rfl) <| Wp rfl <| st_subk rfl rfl (by first | exact wrap_m (by omega) | exact rfl) <| nc rfl <| fa T.fld57_3 rfl <| Wp rfl <| st_store (v := .int _ _) T.size3 rfl rfl rfl hb2v rfl (Nat.le_of_ble_eq_true rfl) (by simp [Value.oneCell', S]) rfl ?_
     intro w91 c92 hb93; simp only [setVs, setV] at hb93
     clear hb2v
     replace HC := HC.cB c92
     replace hb19 := hb19.tr1 c92 (Ne.symm ne_b_b4)
     replace hs2v := hs2v.tN c92 (fun h => (hDt _ h).2 rfl)
     replace ho2v := ho2v.tN c92 ndD15_b
     refine en <| sr rfl <| mI rfl <| aI rfl <| en <| x_ret <| ret_tmp (v := .int _ _) rfl rfl ?_
     exact ⟨he2, ⟨_, rfl⟩, ⟨_, _, _, (by simp), (by simp only [List.length_append, List.length_cons, List.length_nil, List.drop_succ_cons, List.drop_zero] at *; omega), ⟨_, _, _, hb93, hs2v, hd2v, (ho2v.mono (fun k _ h => subD15 k h))⟩⟩, HC⟩
    ·obtain ⟨rfl, ⟨i2, Ao2, capo2, hb2v, hs2v, hd2v, ho2v⟩, hwf2, ⟨hm2, hl2⟩, cP2⟩ := hP
     replace HC := HC.trans cP2 (fun k h => .inl (h.imp (subD15 k) id))
     replace hb19 := hb19.trP cP2 (fun h => h.elim nD15 (Ne.symm ne_b_b4))
     obtain ⟨x2, tl2, rfl⟩ := hwf2.ne
     have hq2 := hl2
     simp only [List.length_cons] at hq2
     have hi92 := dropq_lt hd2v
     have hqm2 := hm2
     simp only [List.length_cons] at hqm2
     refine aI rfl <| en <| sr rfl <| mP rfl <| nc rfl <| fa T.fld57_3 rfl <| lI T.one3 rfl (hb2v.cell rfl) <| Wp rfl <| st_subk rfl rfl (by first | exact wrap_m (by omega) | exact rfl) <| nc rfl <| fa T.fld57_3 rfl <| Wp rfl <| st_store (v := .int _ _) T.size3 rfl rfl rfl hb2v rfl (Nat.le_of_ble_eq_true rfl) (by simp [Value.oneCell', S]) rfl ?_
     intro w94 c95 hb96; simp only [setVs, setV] at hb96
     clear hb2v
     replace HC := HC.cB c95
     replace hb19 := hb19.tr1 c95 (Ne.symm ne_b_b4)
     replace hs2v := hs2v.tN c95 (fun h => (hDt _ h).2 rfl)
     replace ho2v := ho2v.tN c95 ndD15_b
     refine en <| sr rfl <| mI rfl <| aI rfl <| en <| x_ret <| ret_tmp (v := .int _ _) rfl rfl ?_
     exact ⟨rfl, ⟨_, _, _, hb96, hs2v, hd2v, (ho2v.mono (fun k _ h => subD15 k h))⟩, hwf2, ⟨by simp only [List.length_append, List.length_cons, List.length_nil, List.drop_succ_cons, List.drop_zero] at *; omega, by simp only [List.length_append, List.length_cons, List.length_nil, List.drop_succ_cons, List.drop_zero] at *; omega⟩, HC⟩

theorem qcho_step (f : Nat) (ih : QI f) : QCw 41 .cho (f + 1) := by
 intro D Dt w b At capt TT ts out d pl r hp hpr
 obtain ⟨hfr0, hDb, hDt, ⟨i, Ao, capo, hb, hs, hd, ho⟩, hwf, hd64, hlen, hTl⟩ := hp
 obtain ⟨x, tl, rfl⟩ := hwf.ne
 have hDtb : ¬ Dt b := fun h => (hDt b h).2 rfl
 have hDtn : ∀ k, w.heap.size ≤ k → ¬ Dt k := fun k hk h => (hDt k h).1 (hfr0 k hk)
 have hll : out.length + (tl.length + 1) ≤ 1000000000 := hlen
 have hi9 := dropq_lt hd
 refine callR_of_wp (args := [_]) Tryz.func41 rfl (Nat.le_of_ble_eq_true rfl) ?_
 have HC : ChgP (fun k => D k ∨ k = b) w w := .refl _
 refine sr rfl <| aI rfl <| en <| x_seq <| sr rfl <| mP rfl <| Wp rfl <| st_call (ags := [_]) rfl rfl T.ent39 rfl (qenter_spec hb hs hd hDtb (fun k hk => hDtn k (Nat.le_trans HC.size hk)) hd64) ?_
 rintro _ w1 ⟨(⟨hdp, rfl, hb1⟩ | ⟨hdp, rfl, hb1⟩), c2⟩
 ·replace HC := HC.cB c2
  replace hs := hs.tN c2 (fun h => (hDt _ h).2 rfl)
  replace ho := ho.tN c2 hDb
  obtain rfl := wI_deep hpr hdp
  refine Wp rfl <| st_not rfl <| en <| x_cond (t := true) rfl (fun h0 => ?_) (fun h0 => ?_)
  rotate_left
  · exact absurd h0 (by decide)
  refine sr rfl <| aI rfl <| en <| x_ret <| then_r <| ret_tmp (v := .int _ _) rfl rfl ?_
  exact ⟨by decide, ⟨0, rfl⟩, ⟨_, _, _, (by simp), Nat.le_refl _, ⟨_, _, _, hb1, hs, hd, ho⟩⟩, HC⟩
 ·replace HC := HC.cB c2
  replace hs := hs.tN c2 (fun h => (hDt _ h).2 rfl)
  replace ho := ho.tN c2 hDb
  replace hpr := wI_ok hpr hdp
  rw [pP] at hpr
  have hd65 : d + 1 ≤ 64 := hdp
  refine Wp rfl <| st_not rfl <| en <| x_cond (t := false) rfl (fun h0 => ?_) (fun h0 => ?_)
  · exact absurd h0 (by decide)
  refine x_skip <| then_n <| sr rfl <| mP rfl ?_
  obtain ⟨ri1, hw1, hr1⟩ := bind_some (hpr)
  refine Wp rfl <| st_call (ags := [_, _]) rfl rfl T.ent56 rfl (ih.lev 0 (by omega) _ _ _ _ _ _ _ _ _ _ _ _ ⟨(fun k hk => hfr0 k (Nat.le_trans HC.size hk)), hDb, (fun k h => ⟨fun h2 => (hDt k h).1 (h2), (hDt k h).2⟩), ⟨_, _, _, hb1, hs, hd, ho⟩, hwf, hd65, hlen, hTl⟩ hw1) ?_
  rintro v1 w3 hP
  rcases ri1 with ⟨e1, a1⟩ | ⟨k1, ts1, out1⟩
  ·obtain ⟨he1, ⟨k1, rfl⟩, ⟨ts1, out1, dp1, hne1, hl1, i1, Ao1, capo1, hb1v, hs1v, hd1v, ho1v⟩, cP1⟩ := hP
   replace HC := HC.trans cP1 (fun k h => .inl (h))
   obtain ⟨x1, tl1, rfl⟩ := List.exists_cons_of_ne_nil hne1
   have hq1 := hl1
   simp only [List.length_cons] at hq1
   have hi91 := dropq_lt hd1v
   obtain rfl := hr1
   refine aI rfl <| en <| x_seq <| sr rfl <| mP rfl <| Wp rfl <| st_call (ags := [_, _]) rfl rfl T.ent57 rfl (qop_spec (x := x1) (tl := tl1) [63] hb1v hs1v hd1v hDtb (fun k hk => hDtn k (Nat.le_trans HC.size hk))) ?_
   rintro vop w4 ⟨hvop5, c5⟩
   replace HC := HC.chg0 c5
   replace hb1v := hb1v.tr0 c5
   replace hs1v := hs1v.tr0 c5
   replace ho1v := ho1v.tr0 c5
   rw [decide_eq_false (fun h => he1 h.1)] at hvop5
   subst hvop5
   refine en <| x_cond (t := false) rfl (fun h1 => ?_) (fun h1 => ?_)
   · exact absurd h1 (by decide)
   refine x_skip <| then_n <| sr rfl <| mP rfl <| nc rfl <| fa T.fld57_3 rfl <| lI T.one3 rfl (hb1v.cell rfl) <| Wp rfl <| st_subk rfl rfl (by first | exact wrap_m (by omega) | exact rfl) <| nc rfl <| fa T.fld57_3 rfl <| Wp rfl <| st_store (v := .int _ _) T.size3 rfl rfl rfl hb1v rfl (Nat.le_of_ble_eq_true rfl) (by simp [Value.oneCell', S]) rfl ?_
   intro w6 c7 hb8; simp only [setVs, setV] at hb8
   clear hb1v
   replace HC := HC.cB c7
   replace hs1v := hs1v.tN c7 (fun h => (hDt _ h).2 rfl)
   replace ho1v := ho1v.tN c7 hDb
   refine en <| sr rfl <| mI rfl <| aI rfl <| en <| x_ret <| ret_tmp (v := .int _ _) rfl rfl ?_
   exact ⟨he1, ⟨_, rfl⟩, ⟨_, _, _, (by simp), (by simp only [List.length_append, List.length_cons, List.length_nil, List.drop_succ_cons, List.drop_zero] at *; omega), ⟨_, _, _, hb8, hs1v, hd1v, ho1v⟩⟩, HC⟩
  ·obtain ⟨rfl, ⟨i1, Ao1, capo1, hb1v, hs1v, hd1v, ho1v⟩, hwf1, ⟨hm1, hl1⟩, cP1⟩ := hP
   replace HC := HC.trans cP1 (fun k h => .inl (h))
   obtain ⟨x1, tl1, rfl⟩ := hwf1.ne
   have hq1 := hl1
   simp only [List.length_cons] at hq1
   have hi91 := dropq_lt hd1v
   have hqm1 := hm1
   simp only [List.length_cons] at hqm1
   have hg1 := hr1
   dsimp only at hg1
   refine aI rfl <| en <| x_seq <| sr rfl <| mP rfl <| Wp rfl <| st_call (ags := [_, _]) rfl rfl T.ent57 rfl (qop_spec (x := x1) (tl := tl1) [63] hb1v hs1v hd1v hDtb (fun k hk => hDtn k (Nat.le_trans HC.size hk))) ?_
   rintro vop w9 ⟨hvop10, c10⟩
   replace HC := HC.chg0 c10
   replace hb1v := hb1v.tr0 c10
   replace hs1v := hs1v.tr0 c10
   replace ho1v := ho1v.tr0 c10
   rcases Decidable.em ((0 : Int) = 0 ∧ x1.1.1 = 3 ∧ x1.1.2.2 = [63]) with hop10 | hop10
   ·rw [decide_eq_true hop10] at hvop10
    subst hvop10
    rw [if_pos (in_iff.2 ⟨hop10.2.1, by rw [hop10.2.2]; simp⟩)] at hg1
    simp only [List.drop_succ_cons, List.drop_zero] at hg1
    have hwft1 : WfT tl1 := hwf1.tl (by have := hop10.2.1; omega)
    have hds1 := dropq_s hd1v
    refine en <| x_cond (t := true) rfl (fun h1 => ?_) (fun h1 => ?_)
    rotate_left
    · exact absurd h1 (by decide)
    refine sr rfl <| mP rfl <| nc rfl <| fa T.fld57_1 rfl <| lI T.one3 rfl (hb1v.cell rfl) <| Wp rfl <| st_addk rfl rfl (by exact wrap_1 (by omega)) <| nc rfl <| fa T.fld57_1 rfl <| Wp rfl <| st_store (v := .int _ _) T.size3 rfl rfl rfl hb1v rfl (Nat.le_of_ble_eq_true rfl) (by simp [Value.oneCell', S]) rfl ?_
    intro w11 c12 hb13; simp only [setVs, setV] at hb13
    clear hb1v
    replace HC := HC.cB c12
    replace hs1v := hs1v.tN c12 (fun h => (hDt _ h).2 rfl)
    replace ho1v := ho1v.tN c12 hDb
    refine en <| sr rfl <| mP rfl ?_
    obtain ⟨ri2, hw2, hr2⟩ := bind_some (hg1)
    refine Wp rfl <| st_call (ags := [_]) rfl rfl T.ent18 rfl (ih.asg _ _ _ _ _ _ _ _ _ _ _ _ ⟨(fun k hk => hfr0 k (Nat.le_trans HC.size hk)), hDb, (fun k h => ⟨fun h2 => (hDt k h).1 (h2), (hDt k h).2⟩), ⟨_, _, _, hb13, hs1v, hds1, ho1v⟩, hwft1, hd65, (by omega), hTl⟩ hw2) ?_
    rintro v2 w14 hP
    rcases ri2 with ⟨e2, a2⟩ | ⟨k2, ts2, out2⟩
    ·obtain ⟨he2, ⟨k2, rfl⟩, ⟨ts2, out2, dp2, hne2, hl2, i2, Ao2, capo2, hb2v, hs2v, hd2v, ho2v⟩, cP2⟩ := hP
     replace HC := HC.trans cP2 (fun k h => .inl (h))
     obtain ⟨x2, tl2, rfl⟩ := List.exists_cons_of_ne_nil hne2
     have hq2 := hl2
     simp only [List.length_cons] at hq2
     have hi92 := dropq_lt hd2v
     obtain rfl := hr2
     refine aI rfl <| en <| x_seq <| sr rfl <| mP rfl <| Wp rfl <| st_call (ags := [_, _]) rfl rfl T.ent57 rfl (qop_spec (x := x2) (tl := tl2) [58] hb2v hs2v hd2v hDtb (fun k hk => hDtn k (Nat.le_trans HC.size hk))) ?_
     rintro vop w15 ⟨hvop16, c16⟩
     replace HC := HC.chg0 c16
     replace hb2v := hb2v.tr0 c16
     replace hs2v := hs2v.tr0 c16
     replace ho2v := ho2v.tr0 c16
     rw [decide_eq_false (fun h => he2 h.1)] at hvop16
     subst hvop16
     refine Wp rfl <| st_not rfl <| en <| x_cond (t := true) rfl (fun h2 => ?_) (fun h2 => ?_)
     rotate_left
     · exact absurd h2 (by decide)
     refine sr rfl <| mP rfl <| Wp rfl <| st_call (ags := [_, _]) rfl rfl T.ent19 rfl (qfail_spec (x := x2) (tl := tl2) 101 hb2v hs2v hd2v hDtb (fun k hk => hDtn k (Nat.le_trans HC.size hk))) ?_
     rintro _ w17 ⟨rfl, hbf18, c18⟩
     rw [if_neg he2, if_neg he2] at hbf18
     replace HC := HC.cB c18
     replace hs2v := hs2v.tN c18 (fun h => (hDt _ h).2 rfl)
     replace ho2v := ho2v.tN c18 hDb
     refine aI rfl <| en <| x_ret <| then_r <| then_r <| ret_tmp (v := .int _ _) rfl rfl ?_
     exact ⟨he2, ⟨_, rfl⟩, ⟨_, _, _, (by simp), (by simp only [List.length_append, List.length_cons, List.length_nil, List.drop_succ_cons, List.drop_zero] at *; omega), ⟨_, _, _, hbf18, hs2v, hd2v, ho2v⟩⟩, HC⟩
    ·obtain ⟨rfl, ⟨i2, Ao2, capo2, hb2v, hs2v, hd2v, ho2v⟩, hwf2, ⟨hm2, hl2⟩, cP2⟩ := hP
     replace HC := HC.trans cP2 (fun k h => .inl (h))
     obtain ⟨x2, tl2, rfl⟩ := hwf2.ne
     have hq2 := hl2
     simp only [List.length_cons] at hq2
     have hi92 := dropq_lt hd2v
     have hqm2 := hm2
     simp only [List.length_cons] at hqm2
     have hg2 := hr2
     dsimp only at hg2
     refine aI rfl <| en <| x_seq <| sr rfl <| mP rfl <| Wp rfl <| st_call (ags := [_, _]) rfl rfl T.ent57 rfl (qop_spec (x := x2) (tl := tl2) [58] hb2v hs2v hd2v hDtb (fun k hk => hDtn k (Nat.le_trans HC.size hk))) ?_
     rintro vop w19 ⟨hvop20, c20⟩
     replace HC := HC.chg0 c20
     replace hb2v := hb2v.tr0 c20
     replace hs2v := hs2v.tr0 c20
     replace ho2v := ho2v.tr0 c20
     rcases Decidable.em ((0 : Int) = 0 ∧ x2.1.1 = 3 ∧ x2.1.2.2 = [58]) with hop20 | hop20
     ·rw [decide_eq_true hop20] at hvop20
      subst hvop20
      rw [if_pos (in_iff.2 ⟨hop20.2.1, by rw [hop20.2.2]; simp⟩)] at hg2
      simp only [List.drop_succ_cons, List.drop_zero] at hg2
      have hwft2 : WfT tl2 := hwf2.tl (by have := hop20.2.1; omega)
      have hds2 := dropq_s hd2v
      refine Wp rfl <| st_not rfl <| en <| x_cond (t := false) rfl (fun h2 => ?_) (fun h2 => ?_)
      · exact absurd h2 (by decide)
      refine x_skip <| then_n <| sr rfl <| mP rfl <| nc rfl <| fa T.fld57_1 rfl <| lI T.one3 rfl (hb2v.cell rfl) <| Wp rfl <| st_addk rfl rfl (by exact wrap_1 (by omega)) <| nc rfl <| fa T.fld57_1 rfl <| Wp rfl <| st_store (v := .int _ _) T.size3 rfl rfl rfl hb2v rfl (Nat.le_of_ble_eq_true rfl) (by simp [Value.oneCell', S]) rfl ?_
      intro w21 c22 hb23; simp only [setVs, setV] at hb23
      clear hb2v
      replace HC := HC.cB c22
      replace hs2v := hs2v.tN c22 (fun h => (hDt _ h).2 rfl)
      replace ho2v := ho2v.tN c22 hDb
      refine en <| sr rfl <| mP rfl ?_
      obtain ⟨ri3, hw3, hr3⟩ := bind_some (hg2)
      refine Wp rfl <| st_call (ags := [_]) rfl rfl T.ent41 rfl (ih.cho _ _ _ _ _ _ _ _ _ _ _ _ ⟨(fun k hk => hfr0 k (Nat.le_trans HC.size hk)), hDb, (fun k h => ⟨fun h2 => (hDt k h).1 (h2), (hDt k h).2⟩), ⟨_, _, _, hb23, hs2v, hds2, ho2v⟩, hwft2, hd65, (by omega), hTl⟩ hw3) ?_
      rintro v3 w24 hP
      rcases ri3 with ⟨e3, a3⟩ | ⟨k3, ts3, out3⟩
      ·obtain ⟨he3, ⟨k3, rfl⟩, ⟨ts3, out3, dp3, hne3, hl3, i3, Ao3, capo3, hb3v, hs3v, hd3v, ho3v⟩, cP3⟩ := hP
       replace HC := HC.trans cP3 (fun k h => .inl (h))
       obtain ⟨x3, tl3, rfl⟩ := List.exists_cons_of_ne_nil hne3
       have hq3 := hl3
       simp only [List.length_cons] at hq3
       have hi93 := dropq_lt hd3v
       obtain rfl := hr3
       refine aI rfl <| en <| x_region rfl <| mP rfl <| mI rfl <| mI rfl <| mI rfl <| Wp rfl <| st_lit (ps := [(0, .tmp 37), (1, .tmp 38), (2, .tmp 39)]) (vs := [.int _ _, .int _ _, .int _ _]) T.lit36 (by decide) rfl (by simp only [List.forall_mem_cons, List.not_mem_nil, false_imp_iff, implies_true, and_true]; exact ⟨rfl, rfl, rfl⟩) rfl ?_
       intro b25 w26 e27 c28 hb29
       have ge_b25 : w.heap.size ≤ b25 := by rw [e27]; exact HC.size
       have ne_b_b25 : b ≠ b25 := by rw [e27]; exact hb3v.ne_size
       have nal_b25 : b25 ∉ ob Ao3 := ho3v.fresh (by rw [e27]; exact Nat.le_refl _)
       replace HC := HC.chg0 c28
       replace hb3v := hb3v.tr0 c28
       replace hs3v := hs3v.tr0 c28
       replace ho3v := ho3v.tr0 c28
       clear e27
       refine Wp rfl <| st_bld (ps := [(0, .const (S [63])), (3, .tmp 40)]) (vs := [S _, .int _ _, S _, .slice _ _ _]) T.bld38 rfl ?_
       have nak_b25 : b25 ∉ ob Ao3 := nal_b25
       refine Wp rfl <| st_call (ags := [_, _]) rfl rfl T.ent40 rfl (qput_spec (D := D) (x := ⟨[63], 0, [], [k1, k2, k3]⟩) (fun k hk => hfr0 k (by have h1 := HC.size; omega)) hDb hb3v ho3v (kid_one (ks := [k1, k2, k3]) (show Blk _ _ (([k1, k2, k3] : List Int).flatMap fun x => [.int .i64 x]) _ from hb29) (by simp) ⟨hfr0 _ (by have h1 := ge_b25; omega), nak_b25⟩) (by omega)) ?_
       rintro _ w30 ⟨rfl, ⟨Aop31, capop31, hbp31, hop31⟩, c31⟩
       replace HC := HC.chg c31 (fun k hk => .inl ((List.mem_cons.1 hk).elim .inr (fun h => .inl (ho3v.inD k h))))
       replace hs3v := hs3v.tr c31 (fun k hk hD => (List.mem_cons.1 hk).elim (hDt k hD).2 (fun h => (hDt k hD).1 (ho3v.inD k h)))
       refine aI rfl <| en <| sr rfl <| mP rfl <| nc rfl <| fa T.fld57_3 rfl <| lI T.one3 rfl (hbp31.cell rfl) <| Wp rfl <| st_subk rfl rfl (by first | exact wrap_m (by omega) | exact rfl) <| nc rfl <| fa T.fld57_3 rfl <| Wp rfl <| st_store (v := .int _ _) T.size3 rfl rfl rfl hbp31 rfl (Nat.le_of_ble_eq_true rfl) (by simp [Value.oneCell', S]) rfl ?_
       intro w32 c33 hb34; simp only [setVs, setV] at hb34
       clear hbp31
       replace HC := HC.cB c33
       replace hs3v := hs3v.tN c33 (fun h => (hDt _ h).2 rfl)
       replace hop31 := hop31.tN c33 hDb
       refine en <| sr rfl <| mI rfl <| aI rfl <| en <| x_ret <| ret_tmp (v := .int _ _) rfl rfl ?_
       exact ⟨he3, ⟨_, rfl⟩, ⟨_, _, _, (by simp), (by simp only [List.length_append, List.length_cons, List.length_nil, List.drop_succ_cons, List.drop_zero] at *; omega), ⟨_, _, _, hb34, hs3v, hd3v, hop31⟩⟩, HC⟩
      ·obtain ⟨rfl, ⟨i3, Ao3, capo3, hb3v, hs3v, hd3v, ho3v⟩, hwf3, ⟨hm3, hl3⟩, cP3⟩ := hP
       replace HC := HC.trans cP3 (fun k h => .inl (h))
       obtain ⟨x3, tl3, rfl⟩ := hwf3.ne
       have hq3 := hl3
       simp only [List.length_cons] at hq3
       have hi93 := dropq_lt hd3v
       have hqm3 := hm3
       simp only [List.length_cons] at hqm3
       have hg3 := hr3
       dsimp only at hg3
       obtain rfl := (Option.some.inj hg3).symm
       refine aI rfl <| en <| x_region rfl <| mP rfl <| mI rfl <| mI rfl <| mI rfl <| Wp rfl <| st_lit (ps := [(0, .tmp 37), (1, .tmp 38), (2, .tmp 39)]) (vs := [.int _ _, .int _ _, .int _ _]) T.lit36 (by decide) rfl (by simp only [List.forall_mem_cons, List.not_mem_nil, false_imp_iff, implies_true, and_true]; exact ⟨rfl, rfl, rfl⟩) rfl ?_
       intro b35 w36 e37 c38 hb39
       have ge_b35 : w.heap.size ≤ b35 := by rw [e37]; exact HC.size
       have ne_b_b35 : b ≠ b35 := by rw [e37]; exact hb3v.ne_size
       have nal_b35 : b35 ∉ ob Ao3 := ho3v.fresh (by rw [e37]; exact Nat.le_refl _)
       replace HC := HC.chg0 c38
       replace hb3v := hb3v.tr0 c38
       replace hs3v := hs3v.tr0 c38
       replace ho3v := ho3v.tr0 c38
       clear e37
       refine Wp rfl <| st_bld (ps := [(0, .const (S [63])), (3, .tmp 40)]) (vs := [S _, .int _ _, S _, .slice _ _ _]) T.bld38 rfl ?_
       have nak_b35 : b35 ∉ ob Ao3 := nal_b35
       refine Wp rfl <| st_call (ags := [_, _]) rfl rfl T.ent40 rfl (qput_spec (D := D) (x := ⟨[63], 0, [], [k1, k2, k3]⟩) (fun k hk => hfr0 k (by have h1 := HC.size; omega)) hDb hb3v ho3v (kid_one (ks := [k1, k2, k3]) (show Blk _ _ (([k1, k2, k3] : List Int).flatMap fun x => [.int .i64 x]) _ from hb39) (by simp) ⟨hfr0 _ (by have h1 := ge_b35; omega), nak_b35⟩) (by omega)) ?_
       rintro _ w40 ⟨rfl, ⟨Aop41, capop41, hbp41, hop41⟩, c41⟩
       replace HC := HC.chg c41 (fun k hk => .inl ((List.mem_cons.1 hk).elim .inr (fun h => .inl (ho3v.inD k h))))
       replace hs3v := hs3v.tr c41 (fun k hk hD => (List.mem_cons.1 hk).elim (hDt k hD).2 (fun h => (hDt k hD).1 (ho3v.inD k h)))
       refine aI rfl <| en <| sr rfl <| mP rfl <| nc rfl <| fa T.fld57_3 rfl <| lI T.one3 rfl (hbp41.cell rfl) <| Wp rfl <| st_subk rfl rfl (by first | exact wrap_m (by omega) | exact rfl) <| nc rfl <| fa T.fld57_3 rfl <| Wp rfl <| st_store (v := .int _ _) T.size3 rfl rfl rfl hbp41 rfl (Nat.le_of_ble_eq_true rfl) (by simp [Value.oneCell', S]) rfl ?_
       intro w42 c43 hb44; simp only [setVs, setV] at hb44
       clear hbp41
       replace HC := HC.cB c43
       replace hs3v := hs3v.tN c43 (fun h => (hDt _ h).2 rfl)
       replace hop41 := hop41.tN c43 hDb
       refine en <| sr rfl <| mI rfl <| aI rfl <| en <| x_ret <| ret_tmp (v := .int _ _) rfl rfl ?_
       exact ⟨rfl, ⟨_, _, _, hb44, hs3v, hd3v, hop41⟩, hwf3, ⟨by simp only [List.length_append, List.length_cons, List.length_nil, List.drop_succ_cons, List.drop_zero] at *; omega, by simp only [List.length_append, List.length_cons, List.length_nil, List.drop_succ_cons, List.drop_zero] at *; omega⟩, HC⟩
     ·rw [decide_eq_false hop20] at hvop20
      subst hvop20
      rw [if_neg (fun h => hop20 ⟨rfl, (in_iff.1 h).1, by simpa using (in_iff.1 h).2⟩)] at hg2
      obtain rfl := (Option.some.inj hg2).symm
      refine Wp rfl <| st_not rfl <| en <| x_cond (t := true) rfl (fun h2 => ?_) (fun h2 => ?_)
      rotate_left
      · exact absurd h2 (by decide)
      refine sr rfl <| mP rfl <| Wp rfl <| st_call (ags := [_, _]) rfl rfl T.ent19 rfl (qfail_spec (x := x2) (tl := tl2) 101 hb2v hs2v hd2v hDtb (fun k hk => hDtn k (Nat.le_trans HC.size hk))) ?_
      rintro _ w45 ⟨rfl, hbf46, c46⟩
      rw [if_pos rfl, if_pos rfl] at hbf46
      replace HC := HC.cB c46
      replace hs2v := hs2v.tN c46 (fun h => (hDt _ h).2 rfl)
      replace ho2v := ho2v.tN c46 hDb
      refine aI rfl <| en <| x_ret <| then_r <| then_r <| ret_tmp (v := .int _ _) rfl rfl ?_
      exact ⟨(show (101 : Int) ≠ 0 by decide), ⟨_, rfl⟩, ⟨_, _, _, (by simp), (by simp only [List.length_append, List.length_cons, List.length_nil, List.drop_succ_cons, List.drop_zero] at *; omega), ⟨_, _, _, hbf46, hs2v, hd2v, ho2v⟩⟩, HC⟩
   ·rw [decide_eq_false hop10] at hvop10
    subst hvop10
    rw [if_neg (fun h => hop10 ⟨rfl, (in_iff.1 h).1, by simpa using (in_iff.1 h).2⟩)] at hg1
    obtain rfl := (Option.some.inj hg1).symm
    refine en <| x_cond (t := false) rfl (fun h1 => ?_) (fun h1 => ?_)
    · exact absurd h1 (by decide)
    refine x_skip <| then_n <| sr rfl <| mP rfl <| nc rfl <| fa T.fld57_3 rfl <| lI T.one3 rfl (hb1v.cell rfl) <| Wp rfl <| st_subk rfl rfl (by first | exact wrap_m (by omega) | exact rfl) <| nc rfl <| fa T.fld57_3 rfl <| Wp rfl <| st_store (v := .int _ _) T.size3 rfl rfl rfl hb1v rfl (Nat.le_of_ble_eq_true rfl) (by simp [Value.oneCell', S]) rfl ?_
    intro w47 c48 hb49; simp only [setVs, setV] at hb49
    clear hb1v
    replace HC := HC.cB c48
    replace hs1v := hs1v.tN c48 (fun h => (hDt _ h).2 rfl)
    replace ho1v := ho1v.tN c48 hDb
    refine en <| sr rfl <| mI rfl <| aI rfl <| en <| x_ret <| ret_tmp (v := .int _ _) rfl rfl ?_
    exact ⟨rfl, ⟨_, _, _, hb49, hs1v, hd1v, ho1v⟩, hwf1, ⟨by simp only [List.length_append, List.length_cons, List.length_nil, List.drop_succ_cons, List.drop_zero] at *; omega, by simp only [List.length_append, List.length_cons, List.length_nil, List.drop_succ_cons, List.drop_zero] at *; omega⟩, HC⟩

set_option maxHeartbeats 800000 in
theorem qtrm_step (f : Nat) (ih : QI f) : QCw 77 .trm (f + 1) := by
 intro D Dt w b At capt TT ts out d pl r hp hpr
 obtain ⟨hfr0, hDb, hDt, ⟨i, Ao, capo, hb, hs, hd, ho⟩, hwf, hd64, hlen, hTl⟩ := hp
 obtain ⟨x, tl, rfl⟩ := hwf.ne
 have hDtb : ¬ Dt b := fun h => (hDt b h).2 rfl
 have hDtn : ∀ k, w.heap.size ≤ k → ¬ Dt k := fun k hk h => (hDt k h).1 (hfr0 k hk)
 have hll : out.length + (tl.length + 1) ≤ 1000000000 := hlen
 have hi9 := dropq_lt hd
 refine callR_of_wp (args := [_]) Tryz.func77 rfl (Nat.le_of_ble_eq_true rfl) ?_
 have HC : ChgP (fun k => D k ∨ k = b) w w := .refl _
 refine sr rfl <| aI rfl <| en <| x_seq <| sr rfl <| mP rfl <| Wp rfl <| st_call (ags := [_]) rfl rfl T.ent39 rfl (qenter_spec hb hs hd hDtb (fun k hk => hDtn k (Nat.le_trans HC.size hk)) hd64) ?_
 rintro _ w1 ⟨(⟨hdp, rfl, hb1⟩ | ⟨hdp, rfl, hb1⟩), c2⟩
 ·replace HC := HC.cB c2
  replace hs := hs.tN c2 (fun h => (hDt _ h).2 rfl)
  replace ho := ho.tN c2 hDb
  obtain rfl := wI_deep hpr hdp
  refine Wp rfl <| st_not rfl <| en <| x_cond (t := true) rfl (fun h0 => ?_) (fun h0 => ?_)
  rotate_left
  · exact absurd h0 (by decide)
  refine sr rfl <| aI rfl <| en <| x_ret <| then_r <| ret_tmp (v := .int _ _) rfl rfl ?_
  exact ⟨by decide, ⟨0, rfl⟩, ⟨_, _, _, (by simp), Nat.le_refl _, ⟨_, _, _, hb1, hs, hd, ho⟩⟩, HC⟩
 ·replace HC := HC.cB c2
  replace hs := hs.tN c2 (fun h => (hDt _ h).2 rfl)
  replace ho := ho.tN c2 hDb
  replace hpr := wI_ok hpr hdp
  rw [pP] at hpr
  have hd65 : d + 1 ≤ 64 := hdp
  refine Wp rfl <| st_not rfl <| en <| x_cond (t := false) rfl (fun h0 => ?_) (fun h0 => ?_)
  · exact absurd h0 (by decide)
  refine x_skip <| then_n <| x_seq ?_
  obtain ⟨lb7, _, vs6, hA3, hR5, hC4⟩ := hs.at (i := i) (x := x) (dropq_at hd)
  obtain rfl : vs6 = tokC x.1 x.2 := hR5
  have hDl_lb7 := Sl.domAt hs (dropq_at hd) hA3
  refine x_draw [(0, 0), (1, 0), (2, 0), (3, 0), (4, 0), (5, 0), (6, 0), (7, 0), (8, 0), (9, 0), (10, 1), (11, 2)] T.mixed rfl rfl rfl (fun W => W.heap[b]? = w1.heap[b]? ∧ W.heap[lb7]? = w1.heap[lb7]? ∧ True) ⟨rfl, rfl, trivial⟩ ?_
  have o10 := hb1
  have c9 := Chg.drew w1
  generalize World.drew w1 = w8 at c9 ⊢
  have ht_lb7 : lb7 < w8.heap.size ∧ w8.heap[lb7]? = w1.heap[lb7]? := ⟨Nat.lt_of_lt_of_le hC4.lt c9.size, c9.block lb7 hC4.lt (by simp)⟩
  replace HC := HC.chg0 c9
  replace hs := hs.tr0 c9
  replace ho := ho.tr0 c9
  replace hb1 := hb1.tr0 c9
  refine sq_q rfl (fun W hT => r_move (v := .pointer _) rfl) <| sq_q rfl (fun W hT => r_nilCheck rfl) <| sq_q rfl (fun W hT => r_fieldAddr T.fld57_0 rfl) <| sq_q rfl (fun W hT => r_load1 (v := .slice _ _ _) T.one52 rfl (Blk.cell (show Blk W b _ _ from hT.1.trans o10) rfl)) <| sq_q rfl (fun W hT => r_move (v := .pointer _) rfl) <| sq_q rfl (fun W hT => r_nilCheck rfl) <| sq_q rfl (fun W hT => r_fieldAddr T.fld57_1 rfl) <| sq_q rfl (fun W hT => r_load1 (v := .int _ _) T.one3 rfl (Blk.cell (show Blk W b _ _ from hT.1.trans o10) rfl)) <| sq_q rfl (fun W hT => r_indexAddr T.u52 T.size60 (congrArg (fun z => Value.slice z _ _) hA3) rfl (by omega) (by (have h9 := dropq_lt hd; omega))) <| sq_q rfl (fun W hT => r_loadA (vs := [_, _, _, _]) T.agg60 rfl (Cells.tr hC4 hT.2.1) rfl) <| sq_alloc1 rfl T.zero60 ?_
  intro b3 w11 e12 c13 hb14
  have ge_b3 : w.heap.size ≤ b3 := by rw [e12]; exact HC.size
  have ne_b_b3 : b ≠ b3 := by rw [e12]; exact hb1.ne_size
  have nal_b3 : b3 ∉ ob Ao := ho.fresh (by rw [e12]; exact Nat.le_refl _)
  have nh_lb7_b3 : lb7 ≠ b3 := by have h1 := ht_lb7.1; have h2 := e12; omega
  obtain ⟨D15, sD15, nD15, mD15⟩ := dom_new D b3
  replace ho := ho.mono (D' := D15) (fun k hk hD => mD15 k hD (by omega))
  have ndD15_b : ¬ D15 b := fun h => hDb (sD15 _ h)
  have subD15 : ∀ k, D15 k → D k := fun k h => sD15 k h
  have frD15 : ∀ k, b3 + 1 ≤ k → D15 k := fun k hk => mD15 k (hfr0 k (by omega)) (by omega)
  replace HC := HC.chg0 c13
  replace hs := hs.tr0 c13
  replace ho := ho.tr0 c13
  replace hb1 := hb1.tr0 c13
  replace ht_lb7 := And.intro (Nat.lt_of_lt_of_le ht_lb7.1 c13.size) ((c13.block lb7 ht_lb7.1 (by simp)).trans ht_lb7.2)
  clear e12
  refine ext_T (b := b3) ⟨(Eq.trans hb1 o10.symm), (by first | assumption | exact ht_lb7.2), trivial⟩ ?_
  have o16 := hb14
  refine sq_store2 rfl T.size60 (v := .agg ⟨[.int _ _, .int _ _, S _, .int _ _]⟩) rfl rfl rfl hb14 rfl (Nat.le_of_ble_eq_true rfl) (by simp [Value.oneCell', S]) rfl ?_
  intro w17 c18 hb19; simp only [setVs, setV] at hb19
  clear hb14
  replace HC := HC.cN c18 ge_b3
  replace hs := hs.tN c18 (fun h => (hDt _ h).1 (hfr0 _ ge_b3))
  replace ho := ho.tN c18 nD15
  replace hb1 := hb1.tr1 c18 ne_b_b3
  replace ht_lb7 := And.intro (Nat.lt_of_lt_of_le ht_lb7.1 c18.size) ((c18.block lb7 ht_lb7.1 (by intro hx; first | exact hDtb ((List.mem_singleton.1 hx) ▸ hDl_lb7) | exact absurd (List.mem_singleton.1 hx) (by assumption))).trans ht_lb7.2)
  clear o10
  clear o16
  refine sq_nil <| then_n <| sr rfl <| aI rfl <| en <| x_seq <| x_block <| sr rfl <| fa T.fld60_0 rfl <| lI T.one3 rfl (hb19.cell rfl) <| Wp rfl <| st_eql rfl rfl <| aB rfl <| en <| x_cond rfl (fun h1 => ?_) (fun h1 => ?_)
  ·try simp only [nm, ne_eq] at h1
   rw [if_pos (show (hdT (x :: tl)).1.1 = 1 from h1)] at hpr
   obtain rfl := (Option.some.inj hpr).symm
   have hwft : WfT tl := hwf.tl (by omega)
   have hds := dropq_s hd
   refine sr rfl <| mP rfl <| nc rfl <| fa T.fld57_1 rfl <| lI T.one3 rfl (hb1.cell rfl) <| Wp rfl <| st_addk rfl rfl (by exact wrap_1 (by omega)) <| nc rfl <| fa T.fld57_1 rfl <| Wp rfl <| st_store (v := .int _ _) T.size3 rfl rfl rfl hb1 rfl (Nat.le_of_ble_eq_true rfl) (by simp [Value.oneCell', S]) rfl ?_
   intro w20 c21 hb22; simp only [setVs, setV] at hb22
   clear hb1
   replace HC := HC.cB c21
   replace hs := hs.tN c21 (fun h => (hDt _ h).2 rfl)
   replace ho := ho.tN c21 ndD15_b
   replace hb19 := hb19.tr1 c21 (Ne.symm ne_b_b3)
   refine en <| x_region rfl <| mP rfl <| fa T.fld60_1 rfl <| lI T.one2 rfl (hb19.cell rfl) <| Wp rfl <| st_bld (ps := [(0, .const (S [35])), (1, .tmp 34)]) (vs := [S _, .int _ _, S _, .slice _ _ _]) T.bld38 rfl <| Wp rfl <| st_call (ags := [_, _]) rfl rfl T.ent40 rfl (qput_spec (D := D15) (x := ⟨[35], x.1.2.1, [], []⟩) (fun k hk => frD15 k (by have h1 := hb19.lt; omega)) ndD15_b hb22 ho (kid_none) (by omega)) ?_
   rintro _ w23 ⟨rfl, ⟨Aop24, capop24, hbp24, hop24⟩, c24⟩
   replace HC := HC.chg c24 (fun k hk => .inl ((List.mem_cons.1 hk).elim .inr (fun h => .inl (subD15 k (ho.inD k h)))))
   replace hs := hs.tr c24 (fun k hk hD => (List.mem_cons.1 hk).elim (hDt k hD).2 (fun h => (hDt k hD).1 (subD15 k (ho.inD k h))))
   replace hb19 := hb19.tr c24 (fun hx => (List.mem_cons.1 hx).elim (fun h => absurd h.symm ne_b_b3) (fun h => nD15 (ho.inD _ h)))
   refine aI rfl <| wops_nil <| block_n <| then_n <| sr rfl <| mP rfl <| nc rfl <| fa T.fld57_3 rfl <| lI T.one3 rfl (hbp24.cell rfl) <| Wp rfl <| st_subk rfl rfl (by first | exact wrap_m (by omega) | exact rfl) <| nc rfl <| fa T.fld57_3 rfl <| Wp rfl <| st_store (v := .int _ _) T.size3 rfl rfl rfl hbp24 rfl (Nat.le_of_ble_eq_true rfl) (by simp [Value.oneCell', S]) rfl ?_
   intro w25 c26 hb27; simp only [setVs, setV] at hb27
   clear hbp24
   replace HC := HC.cB c26
   replace hs := hs.tN c26 (fun h => (hDt _ h).2 rfl)
   replace hop24 := hop24.tN c26 ndD15_b
   replace hb19 := hb19.tr1 c26 (Ne.symm ne_b_b3)
   refine en <| sr rfl <| mI rfl <| aI rfl <| en <| x_ret <| ret_tmp (v := .int _ _) rfl rfl ?_
   exact ⟨rfl, ⟨_, _, _, hb27, hs, hds, (hop24.mono (fun k _ h => subD15 k h))⟩, hwft, ⟨by simp only [List.length_append, List.length_cons, List.length_nil, List.drop_succ_cons, List.drop_zero] at *; omega, by simp only [List.length_append, List.length_cons, List.length_nil, List.drop_succ_cons, List.drop_zero] at *; omega⟩, HC⟩
  ·try simp only [nm, ne_eq] at h1
   rw [if_neg (show ¬ (hdT (x :: tl)).1.1 = 1 from h1)] at hpr
   refine sr rfl <| fa T.fld60_0 rfl <| lI T.one3 rfl (hb19.cell rfl) <| Wp rfl <| st_eql rfl rfl <| aB rfl <| en <| x_cond rfl (fun h2 => ?_) (fun h2 => ?_)
   ·try simp only [nm, ne_eq] at h2
    rw [if_pos (show (hdT (x :: tl)).1.1 = 2 from h2)] at hpr
    obtain rfl := (Option.some.inj hpr).symm
    have hwft : WfT tl := hwf.tl (by omega)
    have hds := dropq_s hd
    refine sr rfl <| mP rfl <| nc rfl <| fa T.fld57_1 rfl <| lI T.one3 rfl (hb1.cell rfl) <| Wp rfl <| st_addk rfl rfl (by exact wrap_1 (by omega)) <| nc rfl <| fa T.fld57_1 rfl <| Wp rfl <| st_store (v := .int _ _) T.size3 rfl rfl rfl hb1 rfl (Nat.le_of_ble_eq_true rfl) (by simp [Value.oneCell', S]) rfl ?_
    intro w28 c29 hb30; simp only [setVs, setV] at hb30
    clear hb1
    replace HC := HC.cB c29
    replace hs := hs.tN c29 (fun h => (hDt _ h).2 rfl)
    replace ho := ho.tN c29 ndD15_b
    replace hb19 := hb19.tr1 c29 (Ne.symm ne_b_b3)
    refine en <| x_region rfl <| mP rfl <| fa T.fld60_2 rfl <| lS T.one9 rfl (hb19.cell rfl) <| Wp rfl <| st_bld (ps := [(0, .const (S [36])), (2, .tmp 50)]) (vs := [S _, .int _ _, S _, .slice _ _ _]) T.bld38 rfl <| Wp rfl <| st_call (ags := [_, _]) rfl rfl T.ent40 rfl (qput_spec (D := D15) (x := ⟨[36], 0, x.1.2.2, []⟩) (fun k hk => frD15 k (by have h1 := hb19.lt; omega)) ndD15_b hb30 ho (kid_none) (by omega)) ?_
    rintro _ w31 ⟨rfl, ⟨Aop32, capop32, hbp32, hop32⟩, c32⟩
    replace HC := HC.chg c32 (fun k hk => .inl ((List.mem_cons.1 hk).elim .inr (fun h => .inl (subD15 k (ho.inD k h)))))
    replace hs := hs.tr c32 (fun k hk hD => (List.mem_cons.1 hk).elim (hDt k hD).2 (fun h => (hDt k hD).1 (subD15 k (ho.inD k h))))
    replace hb19 := hb19.tr c32 (fun hx => (List.mem_cons.1 hx).elim (fun h => absurd h.symm ne_b_b3) (fun h => nD15 (ho.inD _ h)))
    refine aI rfl <| wops_nil <| block_n <| then_n <| sr rfl <| mP rfl <| nc rfl <| fa T.fld57_3 rfl <| lI T.one3 rfl (hbp32.cell rfl) <| Wp rfl <| st_subk rfl rfl (by first | exact wrap_m (by omega) | exact rfl) <| nc rfl <| fa T.fld57_3 rfl <| Wp rfl <| st_store (v := .int _ _) T.size3 rfl rfl rfl hbp32 rfl (Nat.le_of_ble_eq_true rfl) (by simp [Value.oneCell', S]) rfl ?_
    intro w33 c34 hb35; simp only [setVs, setV] at hb35
    clear hbp32
    replace HC := HC.cB c34
    replace hs := hs.tN c34 (fun h => (hDt _ h).2 rfl)
    replace hop32 := hop32.tN c34 ndD15_b
    replace hb19 := hb19.tr1 c34 (Ne.symm ne_b_b3)
    refine en <| sr rfl <| mI rfl <| aI rfl <| en <| x_ret <| ret_tmp (v := .int _ _) rfl rfl ?_
    exact ⟨rfl, ⟨_, _, _, hb35, hs, hds, (hop32.mono (fun k _ h => subD15 k h))⟩, hwft, ⟨by simp only [List.length_append, List.length_cons, List.length_nil, List.drop_succ_cons, List.drop_zero] at *; omega, by simp only [List.length_append, List.length_cons, List.length_nil, List.drop_succ_cons, List.drop_zero] at *; omega⟩, HC⟩
   ·try simp only [nm, ne_eq] at h2
    rw [if_neg (show ¬ (hdT (x :: tl)).1.1 = 2 from h2)] at hpr
    refine sr rfl <| fa T.fld60_0 rfl <| lI T.one3 rfl (hb19.cell rfl) <| Wp rfl <| st_eql rfl rfl <| mB rfl <| w_split (d := 57) rfl (fun g36 => ?_) (fun g36 => ?_)
    ·try simp only [nm, ne_eq] at g36
     refine w_yes 3 57 true <| st_fieldAddr T.fld60_2 rfl <| w_yes 3 57 true <| st_load1 (v := S _) T.one9 rfl (hb19.cell rfl) <| w_yes 3 57 true <| st_call (ags := [_]) rfl rfl T.ent113 rfl (Runary_spec _ _) ?_
     rintro _ w37 ⟨rfl, c38⟩
     replace HC := HC.chg0 c38
     replace hs := hs.tr0 c38
     replace ho := ho.tr0 c38
     replace hb1 := hb1.tr0 c38
     replace hb19 := hb19.tr0 c38
     refine pT rfl rfl <| aB rfl <| en <| x_cond rfl (fun h3 => ?_) (fun h3 => ?_)
     ·try simp only [nm, ne_eq] at h3
      have hun : x.1.1 = 3 ∧ x.1.2.2 ∈ unL := by simp_all
      rw [if_pos (in_iff.2 hun)] at hpr
      simp only [List.drop_succ_cons, List.drop_zero] at hpr
      have hul := un_len hun.2
      have hwft : WfT tl := hwf.tl (by omega)
      have hds := dropq_s hd
      refine sr rfl <| mP rfl <| nc rfl <| fa T.fld57_1 rfl <| lI T.one3 rfl (hb1.cell rfl) <| Wp rfl <| st_addk rfl rfl (by exact wrap_1 (by omega)) <| nc rfl <| fa T.fld57_1 rfl <| Wp rfl <| st_store (v := .int _ _) T.size3 rfl rfl rfl hb1 rfl (Nat.le_of_ble_eq_true rfl) (by simp [Value.oneCell', S]) rfl ?_
      intro w39 c40 hb41; simp only [setVs, setV] at hb41
      clear hb1
      replace HC := HC.cB c40
      replace hs := hs.tN c40 (fun h => (hDt _ h).2 rfl)
      replace ho := ho.tN c40 ndD15_b
      replace hb19 := hb19.tr1 c40 (Ne.symm ne_b_b3)
      refine en <| sr rfl <| mP rfl ?_
      obtain ⟨ri1, hw1, hr1⟩ := bind_some (hpr)
      refine Wp rfl <| st_call (ags := [_]) rfl rfl T.ent77 rfl (ih.trm _ _ _ _ _ _ _ _ _ _ _ _ ⟨(fun k hk => frD15 k (by have h1 := hb19.lt; omega)), ndD15_b, (fun k h => ⟨fun h2 => (hDt k h).1 (subD15 k (h2)), (hDt k h).2⟩), ⟨_, _, _, hb41, hs, hds, ho⟩, hwft, hd65, (by omega), hTl⟩ hw1) ?_
      rintro v1 w42 hP
      rcases ri1 with ⟨e1, a1⟩ | ⟨k1, ts1, out1⟩
      ·obtain ⟨he1, ⟨k1, rfl⟩, ⟨ts1, out1, dp1, hne1, hl1, i1, Ao1, capo1, hb1v, hs1v, hd1v, ho1v⟩, cP1⟩ := hP
       replace HC := HC.trans cP1 (fun k h => .inl (h.imp (subD15 k) id))
       replace hb19 := hb19.trP cP1 (fun h => h.elim nD15 (Ne.symm ne_b_b3))
       obtain ⟨x1, tl1, rfl⟩ := List.exists_cons_of_ne_nil hne1
       have hq1 := hl1
       simp only [List.length_cons] at hq1
       have hi91 := dropq_lt hd1v
       obtain rfl := hr1
       refine aI rfl <| en <| x_region rfl <| mP rfl <| fa T.fld60_2 rfl <| lS T.one9 rfl (hb19.cell rfl) <| Wp rfl <| st_sadd rfl rfl (by simp only [List.length_cons, List.length_nil]; omega) <| mI rfl <| Wp rfl <| st_lit (ps := [(0, .tmp 75)]) (vs := [.int _ _]) T.lit36 (by decide) rfl (by simp only [List.forall_mem_cons, List.not_mem_nil, false_imp_iff, implies_true, and_true]; exact rfl) rfl ?_
       intro b43 w44 e45 c46 hb47
       have ge_b43 : w.heap.size ≤ b43 := by rw [e45]; exact HC.size
       have ne_b3_b43 : b3 ≠ b43 := by rw [e45]; exact hb19.ne_size
       have ne_b_b43 : b ≠ b43 := by rw [e45]; exact hb1v.ne_size
       have geF_b43 : b3 + 1 ≤ b43 := by rw [e45]; exact hb19.lt
       have nal_b43 : b43 ∉ ob Ao1 := ho1v.fresh (by rw [e45]; exact Nat.le_refl _)
       replace HC := HC.chg0 c46
       replace hb19 := hb19.tr0 c46
       replace hb1v := hb1v.tr0 c46
       replace hs1v := hs1v.tr0 c46
       replace ho1v := ho1v.tr0 c46
       clear e45
       refine Wp rfl <| st_bld (ps := [(0, .tmp 74), (3, .tmp 76)]) (vs := [S _, .int _ _, S _, .slice _ _ _]) T.bld38 rfl ?_
       have nak_b43 : b43 ∉ ob Ao1 := nal_b43
       refine Wp rfl <| st_call (ags := [_, _]) rfl rfl T.ent40 rfl (qput_spec (D := D15) (x := ⟨117 :: x.1.2.2, 0, [], [k1]⟩) (fun k hk => frD15 k (by have h1 := hb19.lt; omega)) ndD15_b hb1v ho1v (kid_one (ks := [k1]) (show Blk _ _ (([k1] : List Int).flatMap fun x => [.int .i64 x]) _ from hb47) (by simp) ⟨frD15 _ (by exact geF_b43), nak_b43⟩) (by omega)) ?_
       rintro _ w48 ⟨rfl, ⟨Aop49, capop49, hbp49, hop49⟩, c49⟩
       replace HC := HC.chg c49 (fun k hk => .inl ((List.mem_cons.1 hk).elim .inr (fun h => .inl (subD15 k (ho1v.inD k h)))))
       replace hb19 := hb19.tr c49 (fun hx => (List.mem_cons.1 hx).elim (fun h => absurd h.symm ne_b_b3) (fun h => nD15 (ho1v.inD _ h)))
       replace hs1v := hs1v.tr c49 (fun k hk hD => (List.mem_cons.1 hk).elim (hDt k hD).2 (fun h => (hDt k hD).1 (subD15 k (ho1v.inD k h))))
       refine aI rfl <| wops_nil <| block_n <| then_n <| sr rfl <| mP rfl <| nc rfl <| fa T.fld57_3 rfl <| lI T.one3 rfl (hbp49.cell rfl) <| Wp rfl <| st_subk rfl rfl (by first | exact wrap_m (by omega) | exact rfl) <| nc rfl <| fa T.fld57_3 rfl <| Wp rfl <| st_store (v := .int _ _) T.size3 rfl rfl rfl hbp49 rfl (Nat.le_of_ble_eq_true rfl) (by simp [Value.oneCell', S]) rfl ?_
       intro w50 c51 hb52; simp only [setVs, setV] at hb52
       clear hbp49
       replace HC := HC.cB c51
       replace hb19 := hb19.tr1 c51 (Ne.symm ne_b_b3)
       replace hs1v := hs1v.tN c51 (fun h => (hDt _ h).2 rfl)
       replace hop49 := hop49.tN c51 ndD15_b
       refine en <| sr rfl <| mI rfl <| aI rfl <| en <| x_ret <| ret_tmp (v := .int _ _) rfl rfl ?_
       exact ⟨he1, ⟨_, rfl⟩, ⟨_, _, _, (by simp), (by simp only [List.length_append, List.length_cons, List.length_nil, List.drop_succ_cons, List.drop_zero] at *; omega), ⟨_, _, _, hb52, hs1v, hd1v, (hop49.mono (fun k _ h => subD15 k h))⟩⟩, HC⟩
      ·obtain ⟨rfl, ⟨i1, Ao1, capo1, hb1v, hs1v, hd1v, ho1v⟩, hwf1, ⟨hm1, hl1⟩, cP1⟩ := hP
       replace HC := HC.trans cP1 (fun k h => .inl (h.imp (subD15 k) id))
       replace hb19 := hb19.trP cP1 (fun h => h.elim nD15 (Ne.symm ne_b_b3))
       obtain ⟨x1, tl1, rfl⟩ := hwf1.ne
       have hq1 := hl1
       simp only [List.length_cons] at hq1
       have hi91 := dropq_lt hd1v
       have hqm1 := hm1
       simp only [List.length_cons] at hqm1
       have hg1 := hr1
       dsimp only at hg1
       obtain rfl := (Option.some.inj hg1).symm
       refine aI rfl <| en <| x_region rfl <| mP rfl <| fa T.fld60_2 rfl <| lS T.one9 rfl (hb19.cell rfl) <| Wp rfl <| st_sadd rfl rfl (by simp only [List.length_cons, List.length_nil]; omega) <| mI rfl <| Wp rfl <| st_lit (ps := [(0, .tmp 75)]) (vs := [.int _ _]) T.lit36 (by decide) rfl (by simp only [List.forall_mem_cons, List.not_mem_nil, false_imp_iff, implies_true, and_true]; exact rfl) rfl ?_
       intro b53 w54 e55 c56 hb57
       have ge_b53 : w.heap.size ≤ b53 := by rw [e55]; exact HC.size
       have ne_b3_b53 : b3 ≠ b53 := by rw [e55]; exact hb19.ne_size
       have ne_b_b53 : b ≠ b53 := by rw [e55]; exact hb1v.ne_size
       have geF_b53 : b3 + 1 ≤ b53 := by rw [e55]; exact hb19.lt
       have nal_b53 : b53 ∉ ob Ao1 := ho1v.fresh (by rw [e55]; exact Nat.le_refl _)
       replace HC := HC.chg0 c56
       replace hb19 := hb19.tr0 c56
       replace hb1v := hb1v.tr0 c56
       replace hs1v := hs1v.tr0 c56
       replace ho1v := ho1v.tr0 c56
       clear e55
       refine Wp rfl <| st_bld (ps := [(0, .tmp 74), (3, .tmp 76)]) (vs := [S _, .int _ _, S _, .slice _ _ _]) T.bld38 rfl ?_
       have nak_b53 : b53 ∉ ob Ao1 := nal_b53
       refine Wp rfl <| st_call (ags := [_, _]) rfl rfl T.ent40 rfl (qput_spec (D := D15) (x := ⟨117 :: x.1.2.2, 0, [], [k1]⟩) (fun k hk => frD15 k (by have h1 := hb19.lt; omega)) ndD15_b hb1v ho1v (kid_one (ks := [k1]) (show Blk _ _ (([k1] : List Int).flatMap fun x => [.int .i64 x]) _ from hb57) (by simp) ⟨frD15 _ (by exact geF_b53), nak_b53⟩) (by omega)) ?_
       rintro _ w58 ⟨rfl, ⟨Aop59, capop59, hbp59, hop59⟩, c59⟩
       replace HC := HC.chg c59 (fun k hk => .inl ((List.mem_cons.1 hk).elim .inr (fun h => .inl (subD15 k (ho1v.inD k h)))))
       replace hb19 := hb19.tr c59 (fun hx => (List.mem_cons.1 hx).elim (fun h => absurd h.symm ne_b_b3) (fun h => nD15 (ho1v.inD _ h)))
       replace hs1v := hs1v.tr c59 (fun k hk hD => (List.mem_cons.1 hk).elim (hDt k hD).2 (fun h => (hDt k hD).1 (subD15 k (ho1v.inD k h))))
       refine aI rfl <| wops_nil <| block_n <| then_n <| sr rfl <| mP rfl <| nc rfl <| fa T.fld57_3 rfl <| lI T.one3 rfl (hbp59.cell rfl) <| Wp rfl <| st_subk rfl rfl (by first | exact wrap_m (by omega) | exact rfl) <| nc rfl <| fa T.fld57_3 rfl <| Wp rfl <| st_store (v := .int _ _) T.size3 rfl rfl rfl hbp59 rfl (Nat.le_of_ble_eq_true rfl) (by simp [Value.oneCell', S]) rfl ?_
       intro w60 c61 hb62; simp only [setVs, setV] at hb62
       clear hbp59
       replace HC := HC.cB c61
       replace hb19 := hb19.tr1 c61 (Ne.symm ne_b_b3)
       replace hs1v := hs1v.tN c61 (fun h => (hDt _ h).2 rfl)
       replace hop59 := hop59.tN c61 ndD15_b
       refine en <| sr rfl <| mI rfl <| aI rfl <| en <| x_ret <| ret_tmp (v := .int _ _) rfl rfl ?_
       exact ⟨rfl, ⟨_, _, _, hb62, hs1v, hd1v, (hop59.mono (fun k _ h => subD15 k h))⟩, hwf1, ⟨by simp only [List.length_append, List.length_cons, List.length_nil, List.drop_succ_cons, List.drop_zero] at *; omega, by simp only [List.length_append, List.length_cons, List.length_nil, List.drop_succ_cons, List.drop_zero] at *; omega⟩, HC⟩
     ·try simp only [nm, ne_eq] at h3
      have hun : ¬ (x.1.1 = 3 ∧ x.1.2.2 ∈ unL) := by simp_all
      rw [if_neg (fun h => hun (in_iff.1 h))] at hpr
      refine sr rfl <| mP rfl <| Wp rfl <| st_call (ags := [_, _]) rfl rfl T.ent57 rfl (qop_spec (x := x) (tl := tl) [40] hb1 hs hd hDtb (fun k hk => hDtn k (Nat.le_trans HC.size hk))) ?_
      rintro vop w63 ⟨hvop64, c64⟩
      replace HC := HC.chg0 c64
      replace hs := hs.tr0 c64
      replace ho := ho.tr0 c64
      replace hb1 := hb1.tr0 c64
      replace hb19 := hb19.tr0 c64
      rcases Decidable.em ((0 : Int) = 0 ∧ x.1.1 = 3 ∧ x.1.2.2 = [40]) with hop64 | hop64
      ·rw [decide_eq_true hop64] at hvop64
       subst hvop64
       rw [if_pos (in_iff.2 ⟨hop64.2.1, by rw [hop64.2.2]; simp⟩)] at hpr
       simp only [List.drop_succ_cons, List.drop_zero] at hpr
       have hwft : WfT tl := hwf.tl (by omega)
       have hds := dropq_s hd
       refine aB rfl <| en <| x_cond (t := true) rfl (fun h4 => ?_) (fun h4 => ?_)
       rotate_left
       · exact absurd h4 (by decide)
       refine sr rfl <| mP rfl <| nc rfl <| fa T.fld57_1 rfl <| lI T.one3 rfl (hb1.cell rfl) <| Wp rfl <| st_addk rfl rfl (by exact wrap_1 (by omega)) <| nc rfl <| fa T.fld57_1 rfl <| Wp rfl <| st_store (v := .int _ _) T.size3 rfl rfl rfl hb1 rfl (Nat.le_of_ble_eq_true rfl) (by simp [Value.oneCell', S]) rfl ?_
       intro w65 c66 hb67; simp only [setVs, setV] at hb67
       clear hb1
       replace HC := HC.cB c66
       replace hs := hs.tN c66 (fun h => (hDt _ h).2 rfl)
       replace ho := ho.tN c66 ndD15_b
       replace hb19 := hb19.tr1 c66 (Ne.symm ne_b_b3)
       refine en <| sr rfl <| mP rfl ?_
       obtain ⟨ri2, hw2, hr2⟩ := bind_some (hpr)
       refine Wp rfl <| st_call (ags := [_]) rfl rfl T.ent18 rfl (ih.asg _ _ _ _ _ _ _ _ _ _ _ _ ⟨(fun k hk => frD15 k (by have h1 := hb19.lt; omega)), ndD15_b, (fun k h => ⟨fun h2 => (hDt k h).1 (subD15 k (h2)), (hDt k h).2⟩), ⟨_, _, _, hb67, hs, hds, ho⟩, hwft, hd65, (by omega), hTl⟩ hw2) ?_
       rintro v2 w68 hP
       rcases ri2 with ⟨e2, a2⟩ | ⟨k2, ts2, out2⟩
       ·obtain ⟨he2, ⟨k2, rfl⟩, ⟨ts2, out2, dp2, hne2, hl2, i2, Ao2, capo2, hb2v, hs2v, hd2v, ho2v⟩, cP2⟩ := hP
        replace HC := HC.trans cP2 (fun k h => .inl (h.imp (subD15 k) id))
        replace hb19 := hb19.trP cP2 (fun h => h.elim nD15 (Ne.symm ne_b_b3))
        obtain ⟨x2, tl2, rfl⟩ := List.exists_cons_of_ne_nil hne2
        have hq2 := hl2
        simp only [List.length_cons] at hq2
        have hi92 := dropq_lt hd2v
        obtain rfl := hr2
        refine aI rfl <| en <| x_seq <| sr rfl <| mP rfl <| Wp rfl <| st_call (ags := [_, _]) rfl rfl T.ent57 rfl (qop_spec (x := x2) (tl := tl2) [41] hb2v hs2v hd2v hDtb (fun k hk => hDtn k (Nat.le_trans HC.size hk))) ?_
        rintro vop w69 ⟨hvop70, c70⟩
        replace HC := HC.chg0 c70
        replace hb19 := hb19.tr0 c70
        replace hb2v := hb2v.tr0 c70
        replace hs2v := hs2v.tr0 c70
        replace ho2v := ho2v.tr0 c70
        rw [decide_eq_false (fun h => he2 h.1)] at hvop70
        subst hvop70
        refine Wp rfl <| st_not rfl <| en <| x_cond (t := true) rfl (fun h5 => ?_) (fun h5 => ?_)
        rotate_left
        · exact absurd h5 (by decide)
        refine sr rfl <| mP rfl <| Wp rfl <| st_call (ags := [_, _]) rfl rfl T.ent19 rfl (qfail_spec (x := x2) (tl := tl2) 101 hb2v hs2v hd2v hDtb (fun k hk => hDtn k (Nat.le_trans HC.size hk))) ?_
        rintro _ w71 ⟨rfl, hbf72, c72⟩
        rw [if_neg he2, if_neg he2] at hbf72
        replace HC := HC.cB c72
        replace hb19 := hb19.tr1 c72 (Ne.symm ne_b_b3)
        replace hs2v := hs2v.tN c72 (fun h => (hDt _ h).2 rfl)
        replace ho2v := ho2v.tN c72 ndD15_b
        refine aI rfl <| en <| x_ret <| then_r <| block_r <| then_r <| ret_tmp (v := .int _ _) rfl rfl ?_
        exact ⟨he2, ⟨_, rfl⟩, ⟨_, _, _, (by simp), (by simp only [List.length_append, List.length_cons, List.length_nil, List.drop_succ_cons, List.drop_zero] at *; omega), ⟨_, _, _, hbf72, hs2v, hd2v, (ho2v.mono (fun k _ h => subD15 k h))⟩⟩, HC⟩
       ·obtain ⟨rfl, ⟨i2, Ao2, capo2, hb2v, hs2v, hd2v, ho2v⟩, hwf2, ⟨hm2, hl2⟩, cP2⟩ := hP
        replace HC := HC.trans cP2 (fun k h => .inl (h.imp (subD15 k) id))
        replace hb19 := hb19.trP cP2 (fun h => h.elim nD15 (Ne.symm ne_b_b3))
        obtain ⟨x2, tl2, rfl⟩ := hwf2.ne
        have hq2 := hl2
        simp only [List.length_cons] at hq2
        have hi92 := dropq_lt hd2v
        have hqm2 := hm2
        simp only [List.length_cons] at hqm2
        have hg2 := hr2
        dsimp only at hg2
        refine aI rfl <| en <| x_seq <| sr rfl <| mP rfl <| Wp rfl <| st_call (ags := [_, _]) rfl rfl T.ent57 rfl (qop_spec (x := x2) (tl := tl2) [41] hb2v hs2v hd2v hDtb (fun k hk => hDtn k (Nat.le_trans HC.size hk))) ?_
        rintro vop w73 ⟨hvop74, c74⟩
        replace HC := HC.chg0 c74
        replace hb19 := hb19.tr0 c74
        replace hb2v := hb2v.tr0 c74
        replace hs2v := hs2v.tr0 c74
        replace ho2v := ho2v.tr0 c74
        rcases Decidable.em ((0 : Int) = 0 ∧ x2.1.1 = 3 ∧ x2.1.2.2 = [41]) with hop74 | hop74
        ·rw [decide_eq_true hop74] at hvop74
         subst hvop74
         rw [if_pos (in_iff.2 ⟨hop74.2.1, by rw [hop74.2.2]; simp⟩)] at hg2
         simp only [List.drop_succ_cons, List.drop_zero] at hg2
         have hwft2 : WfT tl2 := hwf2.tl (by have := hop74.2.1; omega)
         have hds2 := dropq_s hd2v
         obtain rfl := (Option.some.inj hg2).symm
         refine Wp rfl <| st_not rfl <| en <| x_cond (t := false) rfl (fun h5 => ?_) (fun h5 => ?_)
         · exact absurd h5 (by decide)
         refine x_skip <| then_n <| x_region rfl <| mP rfl <| nc rfl <| fa T.fld57_1 rfl <| lI T.one3 rfl (hb2v.cell rfl) <| Wp rfl <| st_addk rfl rfl (by exact wrap_1 (by omega)) <| nc rfl <| fa T.fld57_1 rfl <| Wp rfl <| st_store (v := .int _ _) T.size3 rfl rfl rfl hb2v rfl (Nat.le_of_ble_eq_true rfl) (by simp [Value.oneCell', S]) rfl ?_
         intro w75 c76 hb77; simp only [setVs, setV] at hb77
         clear hb2v
         replace HC := HC.cB c76
         replace hb19 := hb19.tr1 c76 (Ne.symm ne_b_b3)
         replace hs2v := hs2v.tN c76 (fun h => (hDt _ h).2 rfl)
         replace ho2v := ho2v.tN c76 ndD15_b
         refine wops_nil <| block_n <| then_n <| sr rfl <| mP rfl <| nc rfl <| fa T.fld57_3 rfl <| lI T.one3 rfl (hb77.cell rfl) <| Wp rfl <| st_subk rfl rfl (by first | exact wrap_m (by omega) | exact rfl) <| nc rfl <| fa T.fld57_3 rfl <| Wp rfl <| st_store (v := .int _ _) T.size3 rfl rfl rfl hb77 rfl (Nat.le_of_ble_eq_true rfl) (by simp [Value.oneCell', S]) rfl ?_
         intro w78 c79 hb80; simp only [setVs, setV] at hb80
         clear hb77
         replace HC := HC.cB c79
         replace hb19 := hb19.tr1 c79 (Ne.symm ne_b_b3)
         replace hs2v := hs2v.tN c79 (fun h => (hDt _ h).2 rfl)
         replace ho2v := ho2v.tN c79 ndD15_b
         refine en <| sr rfl <| mI rfl <| aI rfl <| en <| x_ret <| ret_tmp (v := .int _ _) rfl rfl ?_
         exact ⟨rfl, ⟨_, _, _, hb80, hs2v, hds2, (ho2v.mono (fun k _ h => subD15 k h))⟩, hwft2, ⟨by simp only [List.length_append, List.length_cons, List.length_nil, List.drop_succ_cons, List.drop_zero] at *; omega, by simp only [List.length_append, List.length_cons, List.length_nil, List.drop_succ_cons, List.drop_zero] at *; omega⟩, HC⟩
        ·rw [decide_eq_false hop74] at hvop74
         subst hvop74
         rw [if_neg (fun h => hop74 ⟨rfl, (in_iff.1 h).1, by simpa using (in_iff.1 h).2⟩)] at hg2
         obtain rfl := (Option.some.inj hg2).symm
         refine Wp rfl <| st_not rfl <| en <| x_cond (t := true) rfl (fun h5 => ?_) (fun h5 => ?_)
         rotate_left
         · exact absurd h5 (by decide)
         refine sr rfl <| mP rfl <| Wp rfl <| st_call (ags := [_, _]) rfl rfl T.ent19 rfl (qfail_spec (x := x2) (tl := tl2) 101 hb2v hs2v hd2v hDtb (fun k hk => hDtn k (Nat.le_trans HC.size hk))) ?_
         rintro _ w81 ⟨rfl, hbf82, c82⟩
         rw [if_pos rfl, if_pos rfl] at hbf82
         replace HC := HC.cB c82
         replace hb19 := hb19.tr1 c82 (Ne.symm ne_b_b3)
         replace hs2v := hs2v.tN c82 (fun h => (hDt _ h).2 rfl)
         replace ho2v := ho2v.tN c82 ndD15_b
         refine aI rfl <| en <| x_ret <| then_r <| block_r <| then_r <| ret_tmp (v := .int _ _) rfl rfl ?_
         exact ⟨(show (101 : Int) ≠ 0 by decide), ⟨_, rfl⟩, ⟨_, _, _, (by simp), (by simp only [List.length_append, List.length_cons, List.length_nil, List.drop_succ_cons, List.drop_zero] at *; omega), ⟨_, _, _, hbf82, hs2v, hd2v, (ho2v.mono (fun k _ h => subD15 k h))⟩⟩, HC⟩
      ·rw [decide_eq_false hop64] at hvop64
       subst hvop64
       rw [if_neg (fun h => hop64 ⟨rfl, (in_iff.1 h).1, by simpa using (in_iff.1 h).2⟩)] at hpr
       obtain rfl := (Option.some.inj hpr).symm
       refine aB rfl <| en <| x_cond (t := false) rfl (fun h4 => ?_) (fun h4 => ?_)
       · exact absurd h4 (by decide)
       refine sr rfl <| mP rfl <| Wp rfl <| st_call (ags := [_, _]) rfl rfl T.ent19 rfl (qfail_spec (x := x) (tl := tl) 101 hb1 hs hd hDtb (fun k hk => hDtn k (Nat.le_trans HC.size hk))) ?_
       rintro _ w83 ⟨rfl, hbf84, c84⟩
       rw [if_pos rfl, if_pos rfl] at hbf84
       replace HC := HC.cB c84
       replace hs := hs.tN c84 (fun h => (hDt _ h).2 rfl)
       replace ho := ho.tN c84 ndD15_b
       replace hb19 := hb19.tr1 c84 (Ne.symm ne_b_b3)
       refine aI rfl <| en <| x_ret <| block_r <| then_r <| ret_tmp (v := .int _ _) rfl rfl ?_
       exact ⟨(show (101 : Int) ≠ 0 by decide), ⟨_, rfl⟩, ⟨_, _, _, (by simp), (by simp only [List.length_append, List.length_cons, List.length_nil, List.drop_succ_cons, List.drop_zero] at *; omega), ⟨_, _, _, hbf84, hs, hd, (ho.mono (fun k _ h => subD15 k h))⟩⟩, HC⟩
    ·try simp only [nm, ne_eq] at g36
     iterate 3 refine w_no 3 57 true ?_
     refine pF rfl rfl <| aB rfl <| en <| x_cond (t := false) rfl (fun h3 => ?_) (fun h3 => ?_)
     · exact absurd h3 (by decide)
     have hun : ¬ (x.1.1 = 3 ∧ x.1.2.2 ∈ unL) := by simp_all
     rw [if_neg (fun h => hun (in_iff.1 h))] at hpr
     refine sr rfl <| mP rfl <| Wp rfl <| st_call (ags := [_, _]) rfl rfl T.ent57 rfl (qop_spec (x := x) (tl := tl) [40] hb1 hs hd hDtb (fun k hk => hDtn k (Nat.le_trans HC.size hk))) ?_
     rintro vop w85 ⟨hvop86, c86⟩
     replace HC := HC.chg0 c86
     replace hs := hs.tr0 c86
     replace ho := ho.tr0 c86
     replace hb1 := hb1.tr0 c86
     replace hb19 := hb19.tr0 c86
     rcases Decidable.em ((0 : Int) = 0 ∧ x.1.1 = 3 ∧ x.1.2.2 = [40]) with hop86 | hop86
     ·rw [decide_eq_true hop86] at hvop86
      subst hvop86
      rw [if_pos (in_iff.2 ⟨hop86.2.1, by rw [hop86.2.2]; simp⟩)] at hpr
      simp only [List.drop_succ_cons, List.drop_zero] at hpr
      have hwft : WfT tl := hwf.tl (by omega)
      have hds := dropq_s hd
      refine aB rfl <| en <| x_cond (t := true) rfl (fun h4 => ?_) (fun h4 => ?_)
      rotate_left
      · exact absurd h4 (by decide)
      refine sr rfl <| mP rfl <| nc rfl <| fa T.fld57_1 rfl <| lI T.one3 rfl (hb1.cell rfl) <| Wp rfl <| st_addk rfl rfl (by exact wrap_1 (by omega)) <| nc rfl <| fa T.fld57_1 rfl <| Wp rfl <| st_store (v := .int _ _) T.size3 rfl rfl rfl hb1 rfl (Nat.le_of_ble_eq_true rfl) (by simp [Value.oneCell', S]) rfl ?_
      intro w87 c88 hb89; simp only [setVs, setV] at hb89
      clear hb1
      replace HC := HC.cB c88
      replace hs := hs.tN c88 (fun h => (hDt _ h).2 rfl)
      replace ho := ho.tN c88 ndD15_b
      replace hb19 := hb19.tr1 c88 (Ne.symm ne_b_b3)
      refine en <| sr rfl <| mP rfl ?_
      obtain ⟨ri2, hw2, hr2⟩ := bind_some (hpr)
      refine Wp rfl <| st_call (ags := [_]) rfl rfl T.ent18 rfl (ih.asg _ _ _ _ _ _ _ _ _ _ _ _ ⟨(fun k hk => frD15 k (by have h1 := hb19.lt; omega)), ndD15_b, (fun k h => ⟨fun h2 => (hDt k h).1 (subD15 k (h2)), (hDt k h).2⟩), ⟨_, _, _, hb89, hs, hds, ho⟩, hwft, hd65, (by omega), hTl⟩ hw2) ?_
      rintro v2 w90 hP
      rcases ri2 with ⟨e2, a2⟩ | ⟨k2, ts2, out2⟩
      ·obtain ⟨he2, ⟨k2, rfl⟩, ⟨ts2, out2, dp2, hne2, hl2, i2, Ao2, capo2, hb2v, hs2v, hd2v, ho2v⟩, cP2⟩ := hP
       replace HC := HC.trans cP2 (fun k h => .inl (h.imp (subD15 k) id))
       replace hb19 := hb19.trP cP2 (fun h => h.elim nD15 (Ne.symm ne_b_b3))
       obtain ⟨x2, tl2, rfl⟩ := List.exists_cons_of_ne_nil hne2
       have hq2 := hl2
       simp only [List.length_cons] at hq2
       have hi92 := dropq_lt hd2v
       obtain rfl := hr2
       refine aI rfl <| en <| x_seq <| sr rfl <| mP rfl <| Wp rfl <| st_call (ags := [_, _]) rfl rfl T.ent57 rfl (qop_spec (x := x2) (tl := tl2) [41] hb2v hs2v hd2v hDtb (fun k hk => hDtn k (Nat.le_trans HC.size hk))) ?_
       rintro vop w91 ⟨hvop92, c92⟩
       replace HC := HC.chg0 c92
       replace hb19 := hb19.tr0 c92
       replace hb2v := hb2v.tr0 c92
       replace hs2v := hs2v.tr0 c92
       replace ho2v := ho2v.tr0 c92
       rw [decide_eq_false (fun h => he2 h.1)] at hvop92
       subst hvop92
       refine Wp rfl <| st_not rfl <| en <| x_cond (t := true) rfl (fun h5 => ?_) (fun h5 => ?_)
       rotate_left
       · exact absurd h5 (by decide)
       refine sr rfl <| mP rfl <| Wp rfl <| st_call (ags := [_, _]) rfl rfl T.ent19 rfl (qfail_spec (x := x2) (tl := tl2) 101 hb2v hs2v hd2v hDtb (fun k hk => hDtn k (Nat.le_trans HC.size hk))) ?_
       rintro _ w93 ⟨rfl, hbf94, c94⟩
       rw [if_neg he2, if_neg he2] at hbf94
       replace HC := HC.cB c94
       replace hb19 := hb19.tr1 c94 (Ne.symm ne_b_b3)
       replace hs2v := hs2v.tN c94 (fun h => (hDt _ h).2 rfl)
       replace ho2v := ho2v.tN c94 ndD15_b
       refine aI rfl <| en <| x_ret <| then_r <| block_r <| then_r <| ret_tmp (v := .int _ _) rfl rfl ?_
       exact ⟨he2, ⟨_, rfl⟩, ⟨_, _, _, (by simp), (by simp only [List.length_append, List.length_cons, List.length_nil, List.drop_succ_cons, List.drop_zero] at *; omega), ⟨_, _, _, hbf94, hs2v, hd2v, (ho2v.mono (fun k _ h => subD15 k h))⟩⟩, HC⟩
      ·obtain ⟨rfl, ⟨i2, Ao2, capo2, hb2v, hs2v, hd2v, ho2v⟩, hwf2, ⟨hm2, hl2⟩, cP2⟩ := hP
       replace HC := HC.trans cP2 (fun k h => .inl (h.imp (subD15 k) id))
       replace hb19 := hb19.trP cP2 (fun h => h.elim nD15 (Ne.symm ne_b_b3))
       obtain ⟨x2, tl2, rfl⟩ := hwf2.ne
       have hq2 := hl2
       simp only [List.length_cons] at hq2
       have hi92 := dropq_lt hd2v
       have hqm2 := hm2
       simp only [List.length_cons] at hqm2
       have hg2 := hr2
       dsimp only at hg2
       refine aI rfl <| en <| x_seq <| sr rfl <| mP rfl <| Wp rfl <| st_call (ags := [_, _]) rfl rfl T.ent57 rfl (qop_spec (x := x2) (tl := tl2) [41] hb2v hs2v hd2v hDtb (fun k hk => hDtn k (Nat.le_trans HC.size hk))) ?_
       rintro vop w95 ⟨hvop96, c96⟩
       replace HC := HC.chg0 c96
       replace hb19 := hb19.tr0 c96
       replace hb2v := hb2v.tr0 c96
       replace hs2v := hs2v.tr0 c96
       replace ho2v := ho2v.tr0 c96
       rcases Decidable.em ((0 : Int) = 0 ∧ x2.1.1 = 3 ∧ x2.1.2.2 = [41]) with hop96 | hop96
       ·rw [decide_eq_true hop96] at hvop96
        subst hvop96
        rw [if_pos (in_iff.2 ⟨hop96.2.1, by rw [hop96.2.2]; simp⟩)] at hg2
        simp only [List.drop_succ_cons, List.drop_zero] at hg2
        have hwft2 : WfT tl2 := hwf2.tl (by have := hop96.2.1; omega)
        have hds2 := dropq_s hd2v
        obtain rfl := (Option.some.inj hg2).symm
        refine Wp rfl <| st_not rfl <| en <| x_cond (t := false) rfl (fun h5 => ?_) (fun h5 => ?_)
        · exact absurd h5 (by decide)
        refine x_skip <| then_n <| x_region rfl <| mP rfl <| nc rfl <| fa T.fld57_1 rfl <| lI T.one3 rfl (hb2v.cell rfl) <| Wp rfl <| st_addk rfl rfl (by exact wrap_1 (by omega)) <| nc rfl <| fa T.fld57_1 rfl <| Wp rfl <| st_store (v := .int _ _) T.size3 rfl rfl rfl hb2v rfl (Nat.le_of_ble_eq_true rfl) (by simp [Value.oneCell', S]) rfl ?_
        intro w97 c98 hb99; simp only [setVs, setV] at hb99
        clear hb2v
        replace HC := HC.cB c98
        replace hb19 := hb19.tr1 c98 (Ne.symm ne_b_b3)
        replace hs2v := hs2v.tN c98 (fun h => (hDt _ h).2 rfl)
        replace ho2v := ho2v.tN c98 ndD15_b
        refine wops_nil <| block_n <| then_n <| sr rfl <| mP rfl <| nc rfl <| fa T.fld57_3 rfl <| lI T.one3 rfl (hb99.cell rfl) <| Wp rfl <| st_subk rfl rfl (by first | exact wrap_m (by omega) | exact rfl) <| nc rfl <| fa T.fld57_3 rfl <| Wp rfl <| st_store (v := .int _ _) T.size3 rfl rfl rfl hb99 rfl (Nat.le_of_ble_eq_true rfl) (by simp [Value.oneCell', S]) rfl ?_
        intro w100 c101 hb102; simp only [setVs, setV] at hb102
        clear hb99
        replace HC := HC.cB c101
        replace hb19 := hb19.tr1 c101 (Ne.symm ne_b_b3)
        replace hs2v := hs2v.tN c101 (fun h => (hDt _ h).2 rfl)
        replace ho2v := ho2v.tN c101 ndD15_b
        refine en <| sr rfl <| mI rfl <| aI rfl <| en <| x_ret <| ret_tmp (v := .int _ _) rfl rfl ?_
        exact ⟨rfl, ⟨_, _, _, hb102, hs2v, hds2, (ho2v.mono (fun k _ h => subD15 k h))⟩, hwft2, ⟨by simp only [List.length_append, List.length_cons, List.length_nil, List.drop_succ_cons, List.drop_zero] at *; omega, by simp only [List.length_append, List.length_cons, List.length_nil, List.drop_succ_cons, List.drop_zero] at *; omega⟩, HC⟩
       ·rw [decide_eq_false hop96] at hvop96
        subst hvop96
        rw [if_neg (fun h => hop96 ⟨rfl, (in_iff.1 h).1, by simpa using (in_iff.1 h).2⟩)] at hg2
        obtain rfl := (Option.some.inj hg2).symm
        refine Wp rfl <| st_not rfl <| en <| x_cond (t := true) rfl (fun h5 => ?_) (fun h5 => ?_)
        rotate_left
        · exact absurd h5 (by decide)
        refine sr rfl <| mP rfl <| Wp rfl <| st_call (ags := [_, _]) rfl rfl T.ent19 rfl (qfail_spec (x := x2) (tl := tl2) 101 hb2v hs2v hd2v hDtb (fun k hk => hDtn k (Nat.le_trans HC.size hk))) ?_
        rintro _ w103 ⟨rfl, hbf104, c104⟩
        rw [if_pos rfl, if_pos rfl] at hbf104
        replace HC := HC.cB c104
        replace hb19 := hb19.tr1 c104 (Ne.symm ne_b_b3)
        replace hs2v := hs2v.tN c104 (fun h => (hDt _ h).2 rfl)
        replace ho2v := ho2v.tN c104 ndD15_b
        refine aI rfl <| en <| x_ret <| then_r <| block_r <| then_r <| ret_tmp (v := .int _ _) rfl rfl ?_
        exact ⟨(show (101 : Int) ≠ 0 by decide), ⟨_, rfl⟩, ⟨_, _, _, (by simp), (by simp only [List.length_append, List.length_cons, List.length_nil, List.drop_succ_cons, List.drop_zero] at *; omega), ⟨_, _, _, hbf104, hs2v, hd2v, (ho2v.mono (fun k _ h => subD15 k h))⟩⟩, HC⟩
     ·rw [decide_eq_false hop86] at hvop86
      subst hvop86
      rw [if_neg (fun h => hop86 ⟨rfl, (in_iff.1 h).1, by simpa using (in_iff.1 h).2⟩)] at hpr
      obtain rfl := (Option.some.inj hpr).symm
      refine aB rfl <| en <| x_cond (t := false) rfl (fun h4 => ?_) (fun h4 => ?_)
      · exact absurd h4 (by decide)
      refine sr rfl <| mP rfl <| Wp rfl <| st_call (ags := [_, _]) rfl rfl T.ent19 rfl (qfail_spec (x := x) (tl := tl) 101 hb1 hs hd hDtb (fun k hk => hDtn k (Nat.le_trans HC.size hk))) ?_
      rintro _ w105 ⟨rfl, hbf106, c106⟩
      rw [if_pos rfl, if_pos rfl] at hbf106
      replace HC := HC.cB c106
      replace hs := hs.tN c106 (fun h => (hDt _ h).2 rfl)
      replace ho := ho.tN c106 ndD15_b
      replace hb19 := hb19.tr1 c106 (Ne.symm ne_b_b3)
      refine aI rfl <| en <| x_ret <| block_r <| then_r <| ret_tmp (v := .int _ _) rfl rfl ?_
      exact ⟨(show (101 : Int) ≠ 0 by decide), ⟨_, rfl⟩, ⟨_, _, _, (by simp), (by simp only [List.length_append, List.length_cons, List.length_nil, List.drop_succ_cons, List.drop_zero] at *; omega), ⟨_, _, _, hbf106, hs, hd, (ho.mono (fun k _ h => subD15 k h))⟩⟩, HC⟩

end Go.Proofs.YtmbbhgglllfelaaGreatDoor.K
