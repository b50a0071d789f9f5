/- Reading expressions, as the document does: the levels, Parse. -/
import Derived.Test.YtmbbhgglllfelaaGreatDoorDb
import Derived.Test.YtmbbhgglllfelaaGreatDoorKitQ
set_option linter.unusedVariables false
set_option linter.unusedSimpArgs false
set_option autoImplicit false
set_option maxRecDepth 20000
namespace Go.Proofs.YtmbbhgglllfelaaGreatDoor.K
open Go Go.Proofs Go.RowKit

/-- What the loop over a level's operators keeps. -/
def LQ (n d f B T0 : Nat) (r : PR) (pl : Int) (TT : List Tk) (kk : Int) (tsl : List Tk) (outl : List Nd) (fl il : Nat) (dpl pll el : Int) : Prop :=
  tsl ≠ [] ∧ TT.drop il = tsl ∧ outl.length + tsl.length ≤ B ∧ fl ≤ f ∧
  ((el = 0 ∧ pll = pl ∧ dpl = (d : Int) ∧ WfT tsl ∧ tsl.length ≤ T0 ∧ pP fl (.lop n kk) d tsl outl = some r) ∨ (el ≠ 0 ∧ r = .bad el pll))
theorem LQ.good {n d f B T0 : Nat} {r : PR} {pl : Int} {TT : List Tk} {kk : Int} {tsl : List Tk} {outl : List Nd} {fl il : Nat} {dpl pll el : Int} (h : LQ n d f B T0 r pl TT kk tsl outl fl il dpl pll el) (he : el = 0) :
    pll = pl ∧ dpl = (d : Int) ∧ WfT tsl ∧ tsl.length ≤ T0 ∧ outl.length + tsl.length ≤ B ∧ ∃ fz, fl = fz + 1 ∧ fz ≤ f ∧ (if inOp tsl (lvls.getD n []) = true then PR.bind (pP fz (.lev (n + 1)) d (tsl.drop 1) outl) fun k2 ts2 out2 => pP fz (.lop n (out2.length : Nat)) d ts2 (out2 ++ [⟨(hdT tsl).1.2.2, 0, [], [kk, k2]⟩]) else some (.good kk tsl outl)) = some r := by
  obtain ⟨h1, h2, h3, h4, h5 | h5⟩ := h
  · obtain ⟨_, q2, q3, q4, q5, q6⟩ := h5
    cases fl with
    | zero => simp [pP] at q6
    | succ z => rw [pP] at q6; exact ⟨q2, q3, q4, q5, h3, z, rfl, by omega, q6⟩
  · exact absurd he h5.1

set_option maxHeartbeats 800000 in
theorem qlev_step (f : Nat) (ihs : ∀ f', f' ≤ f → QI f') (n : Nat) (hn : n ≤ 10) : QCl 56 n (f + 1) := by
 intro D Dt w b At capt TT ts out d pl r hp hpr
 obtain ⟨hfr0, hDb, hDt, ⟨i, Ao, capo, hb, hs, hd, ho⟩, hwf, hd64, hlen, hTl⟩ := hp
 obtain ⟨x, tl, rfl⟩ := hwf.ne
 have hDtb : ¬ Dt b := fun h => (hDt b h).2 rfl
 have hDtn : ∀ k, w.heap.size ≤ k → ¬ Dt k := fun k hk h => (hDt k h).1 (hfr0 k hk)
 have hll : out.length + (tl.length + 1) ≤ 1000000000 := hlen
 have hi9 := dropq_lt hd
 rw [pP] at hpr
 have ih := ihs f (Nat.le_refl f)
 refine callR_of_wp (args := [_, _]) Tryz.func56 rfl (Nat.le_of_ble_eq_true rfl) ?_
 have HC : ChgP (fun k => D k ∨ k = b) w w := .refl _
 refine sr rfl <| aI rfl <| en <| x_seq <| sr rfl <| mI rfl <| Wp rfl <| st_gtr rfl rfl <| en <| x_cond rfl (fun h0 => ?_) (fun h0 => ?_)
 ·try simp only [nm, ne_eq] at h0
  rw [if_pos (show n = 10 by omega)] at hpr
  refine sr rfl <| mP rfl <| Wp rfl <| st_call (ags := [_]) rfl rfl T.ent77 rfl (ih.trm _ _ _ _ _ _ _ _ _ _ _ _ ⟨(fun k hk => hfr0 k (Nat.le_trans HC.size hk)), hDb, (fun k h => ⟨fun h2 => (hDt k h).1 (h2), (hDt k h).2⟩), ⟨_, _, _, hb, hs, hd, ho⟩, hwf, hd64, hlen, hTl⟩ hpr) ?_
  rintro vP w99 hP
  refine av rfl <| en <| x_ret <| then_r <| ret_tmp  rfl rfl ?_
  exact hP.lift (fun _ h => h) HC
 ·try simp only [nm, ne_eq] at h0
  rw [if_neg (show ¬ n = 10 by omega)] at hpr
  have hBB : out.length + (x :: tl).length = out.length + (tl.length + 1) := rfl
  refine x_skip <| then_n <| sr rfl <| mP rfl <| mI rfl <| Wp rfl <| st_addk rfl rfl (by exact wrap_1 (by omega)) ?_
  obtain ⟨ri1, hw1, hr1⟩ := bind_some (hpr)
  refine Wp rfl <| st_call (ags := [_, _]) rfl rfl T.ent56 rfl (ih.lev (n + 1) (by omega) _ _ _ _ _ _ _ _ _ _ _ _ ⟨(fun k hk => hfr0 k (Nat.le_trans HC.size hk)), hDb, (fun k h => ⟨fun h2 => (hDt k h).1 (h2), (hDt k h).2⟩), ⟨_, _, _, hb, hs, hd, ho⟩, hwf, hd64, hlen, hTl⟩ hw1) ?_
  rintro v1 w1 hP
  rcases ri1 with ⟨e1, a1⟩ | ⟨k1, ts1, out1⟩
  ·obtain ⟨he1, ⟨k1, rfl⟩, ⟨ts1, out1, dp1, hne1, hl1, i1, Ao1, capo1, hb1v, hs1v, hd1v, ho1v⟩, cP1⟩ := hP
   replace HC := HC.trans cP1 (fun k h => .inl (h))
   obtain ⟨x1, tl1, rfl⟩ := List.exists_cons_of_ne_nil hne1
   have hq1 := hl1
   simp only [List.length_cons] at hq1
   have hi91 := dropq_lt hd1v
   refine aI rfl <| en <| x_seq <| x_block <| x_loop (ι := Int × List Tk × List Nd × Nat × (Nat × Option Addr × Nat) × Int × Int × Int) [5, 6, 7, 16, 17, 18, 19, 20, 21, 22, 23, 24, 25, 26, 27, 28, 29, 30, 31, 32, 33, 34, 35, 36, 37, 38, 39, 40, 41, 42, 43, 44, 45, 46, 47, 48, 49, 50, 51, 52, 53, 54, 55, 56, 57, 58, 59, 60, 61, 62, 63, 64, 65, 66, 67, 68, 69, 70, 71, 72, 73, 74, 75, 76, 77, 78, 79] (fun ⟨kk, tsl, outl, fl, ⟨il, Aol, col⟩, dpl, pll, el⟩ => [(5, .int .i64 kk)]) (fun ⟨kk, tsl, outl, fl, ⟨il, Aol, col⟩, dpl, pll, el⟩ W => (LQ n d f (out.length + (tl.length + 1)) (tl.length + 1) r pl TT kk tsl outl fl il dpl pll el) ∧ (ChgP (fun k => D k ∨ k = b) w W) ∧ (Blk W b [.slice At TT.length capt, .int .i64 (il : Int), .slice Aol outl.length col, .int .i64 dpl, .int .i64 el, .int .i64 pll] 57) ∧ (Sl tkE W Dt At TT) ∧ (Own ndE 38 W D Aol col outl)) (fun ⟨kk, tsl, outl, fl, ⟨il, Aol, col⟩, dpl, pll, el⟩ => if el = 0 then tsl.length + 1 else 0) (k1, (x1 :: tl1), out1, 0, (i1, Ao1, capo1), dp1, a1, e1) ?_ ?_ ?_
   · exact ⟨rfl, trivial⟩
   ·refine ⟨?_, HC, hb1v, hs1v, ho1v⟩
    exact ⟨by simp, hd1v, (by simp only [List.length_append, List.length_cons, List.length_nil, List.drop_succ_cons, List.drop_zero] at *; omega), Nat.zero_le _, .inr ⟨he1, hr1⟩⟩
   intro ⟨kk, tsl, outl, fl, ⟨il, Aol, col⟩, dpl, pll, el⟩ G3 w2 ⟨hLI, HC, hbl, hsl, hol⟩
   change wp _ _ _ _ _ (upds (over _ _ G3) [(5, .int .i64 kk)]) _ _
   have hLI0 := hLI
   obtain ⟨hne9, hd9, hB9, hfl9, _⟩ := hLI0
   obtain ⟨x9, tl9, rfl⟩ := List.exists_cons_of_ne_nil hne9
   have hi99 := dropq_lt hd9
   simp only [List.length_cons] at hB9
   refine x_seq <| x_seq ?_
   obtain ⟨lb8, _, vs7, hA4, hR6, hC5⟩ := hsl.at (i := il) (x := x9) (dropq_at hd9)
   obtain rfl : vs7 = tokC x9.1 x9.2 := hR6
   have hDl_lb8 := Sl.domAt hsl (dropq_at hd9) hA4
   obtain ⟨lb13, _, vs12, hA9, hR11, hC10⟩ := hsl.at (i := il) (x := x9) (dropq_at hd9)
   obtain rfl : vs12 = tokC x9.1 x9.2 := hR11
   have hDl_lb13 := Sl.domAt hsl (dropq_at hd9) hA9
   refine x_draw [(0, 0), (1, 0), (2, 0), (3, 0), (4, 0), (5, 0), (6, 0), (7, 0), (8, 0), (9, 0), (10, 0), (11, 0), (12, 0), (13, 0), (14, 0), (15, 0), (16, 0), (17, 0), (18, 0), (19, 0), (20, 0), (21, 0), (22, 0), (23, 0), (24, 0), (25, 0), (26, 0), (27, 0), (28, 0), (29, 0), (30, 0), (32, 0), (31, 1), (33, 0), (34, 0)] T.mixed rfl rfl rfl (fun W => W.heap[b]? = w2.heap[b]? ∧ W.heap[lb8]? = w2.heap[lb8]? ∧ W.heap[lb13]? = w2.heap[lb13]? ∧ True) ⟨rfl, rfl, rfl, trivial⟩ ?_
   have o16 := hbl
   have c15 := Chg.drew w2
   generalize World.drew w2 = w14 at c15 ⊢
   have ht_lb8 : lb8 < w14.heap.size ∧ w14.heap[lb8]? = w2.heap[lb8]? := ⟨Nat.lt_of_lt_of_le hC5.lt c15.size, c15.block lb8 hC5.lt (by simp)⟩
   have ht_lb13 : lb13 < w14.heap.size ∧ w14.heap[lb13]? = w2.heap[lb13]? := ⟨Nat.lt_of_lt_of_le hC10.lt c15.size, c15.block lb13 hC10.lt (by simp)⟩
   replace HC := HC.chg0 c15
   replace hbl := hbl.tr0 c15
   replace hsl := hsl.tr0 c15
   replace hol := hol.tr0 c15
   refine sq_q rfl (fun W hT => r_move (v := .pointer _) rfl) <| sq_q rfl (fun W hT => r_nilCheck rfl) <| sq_q rfl (fun W hT => r_fieldAddr T.fld57_4 rfl) <| sq_q rfl (fun W hT => r_load1 (v := .int _ _) T.one3 rfl (Blk.cell (show Blk W b _ _ from hT.1.trans o16) rfl)) <| sq_q rfl (fun W hT => r_eql rfl rfl) <| sq_q rfl (fun W hT => r_move (v := .bool _) rfl) <| sq_split (d := 21) rfl (fun g17 => ?_) (fun g17 => ?_)
   ·try simp only [nm, ne_eq] at g17
    obtain ⟨hp0, hdp0, hwf9, hT9, hB0, fz, hfz, hfz2, hq9⟩ := hLI.good (by assumption)
    obtain rfl := hp0.symm
    obtain rfl := hdp0
    obtain rfl := hfz
    obtain rfl : el = 0 := by assumption
    refine sq_q rfl (fun W hT => r_move (v := .pointer _) rfl) <| sq_q rfl (fun W hT => r_nilCheck rfl) <| sq_q rfl (fun W hT => r_fieldAddr T.fld57_0 rfl) <| sq_q rfl (fun W hT => r_load1 (v := .slice _ _ _) T.one52 rfl (Blk.cell (show Blk W b _ _ from hT.1.trans o16) rfl)) <| sq_q rfl (fun W hT => r_move (v := .pointer _) rfl) <| sq_q rfl (fun W hT => r_nilCheck rfl) <| sq_q rfl (fun W hT => r_fieldAddr T.fld57_1 rfl) <| sq_q rfl (fun W hT => r_load1 (v := .int _ _) T.one3 rfl (Blk.cell (show Blk W b _ _ from hT.1.trans o16) rfl)) <| sq_q rfl (fun W hT => r_indexAddr T.u52 T.size60 (congrArg (fun z => Value.slice z _ _) hA4) rfl (by omega) (by (have h9 := dropq_lt hd9; omega))) <| sq_q rfl (fun W hT => r_fieldAddr T.fld60_0 rfl) <| sq_q rfl (fun W hT => r_load1 (v := .int _ _) T.one3 rfl (Cells.at (j := 0) (Cells.tr hC5 hT.2.1) rfl)) <| sq_q rfl (fun W hT => r_eql rfl rfl) <| sq_q rfl (fun W hT => r_pick (b := true) (v := .bool _) rfl rfl) <| sq_q rfl (fun W hT => r_move (v := .bool _) rfl) <| sq_split (d := 35) rfl (fun g18 => ?_) (fun g18 => ?_)
    ·try simp only [nm, ne_eq] at g18
     refine sq_q rfl (fun W hT => r_move (v := .pointer _) rfl) <| sq_q rfl (fun W hT => r_nilCheck rfl) <| sq_q rfl (fun W hT => r_fieldAddr T.fld57_0 rfl) <| sq_q rfl (fun W hT => r_load1 (v := .slice _ _ _) T.one52 rfl (Blk.cell (show Blk W b _ _ from hT.1.trans o16) rfl)) <| sq_q rfl (fun W hT => r_move (v := .pointer _) rfl) <| sq_q rfl (fun W hT => r_nilCheck rfl) <| sq_q rfl (fun W hT => r_fieldAddr T.fld57_1 rfl) <| sq_q rfl (fun W hT => r_load1 (v := .int _ _) T.one3 rfl (Blk.cell (show Blk W b _ _ from hT.1.trans o16) rfl)) <| sq_q rfl (fun W hT => r_indexAddr T.u52 T.size60 (congrArg (fun z => Value.slice z _ _) hA9) rfl (by omega) (by (have h9 := dropq_lt hd9; omega))) <| sq_q rfl (fun W hT => r_fieldAddr T.fld60_2 rfl) <| sq_q rfl (fun W hT => r_load1 (v := S _) T.one9 rfl (Cells.at (j := 2) (Cells.tr hC10 hT.2.2.1) rfl)) <| sq_q rfl (fun W hT => r_move (v := .int _ _) rfl) <| sq_call1 rfl (r_call (ags := [_]) rfl rfl T.ent78 rfl) (Level_spec _ _) ?_
     rintro _ w19 ⟨rfl, c20⟩
     replace HC := HC.chg0 c20
     replace hbl := hbl.tr0 c20
     replace hsl := hsl.tr0 c20
     replace hol := hol.tr0 c20
     replace ht_lb8 := And.intro (Nat.lt_of_lt_of_le ht_lb8.1 c20.size) ((c20.block lb8 ht_lb8.1 (by simp)).trans ht_lb8.2)
     replace ht_lb13 := And.intro (Nat.lt_of_lt_of_le ht_lb13.1 c20.size) ((c20.block lb13 ht_lb13.1 (by simp)).trans ht_lb13.2)
     refine ⟨_, fun _ h => h, ⟨(Eq.trans hbl o16.symm), (by first | assumption | exact ht_lb8.2), (by first | assumption | exact ht_lb13.2), trivial⟩, ?_⟩
     refine sq_q rfl (fun W hT => r_eql rfl rfl) <| sq_q rfl (fun W hT => r_pick (b := true) (v := .bool _) rfl rfl) ?_
     clear o16
     refine sq_nil <| then_n <| x_cond rfl (fun h1 => ?_) (fun h1 => ?_)
     ·try simp only [nm, ne_eq] at h1
      have hin : inOp (x9 :: tl9) (lvls.getD n []) = true := in_iff.2 ⟨by assumption, (lev_in (by omega)).1 (by assumption)⟩
      rw [if_pos hin] at hq9
      simp only [List.drop_succ_cons, List.drop_zero] at hq9
      have hwft9 : WfT tl9 := hwf9.tl (by omega)
      have hds9 := dropq_s hd9
      refine x_skip <| then_n <| x_block <| x_seq ?_
      obtain ⟨lb25, _, vs24, hA21, hR23, hC22⟩ := hsl.at (i := il) (x := x9) (dropq_at hd9)
      obtain rfl : vs24 = tokC x9.1 x9.2 := hR23
      have hDl_lb25 := Sl.domAt hsl (dropq_at hd9) hA21
      refine x_draw [(0, 0), (1, 0), (2, 0), (3, 0), (4, 0), (5, 0), (6, 0), (7, 0), (8, 0), (9, 0), (10, 0), (11, 0)] T.mixed rfl rfl rfl (fun W => W.heap[b]? = w19.heap[b]? ∧ W.heap[lb25]? = w19.heap[lb25]? ∧ True) ⟨rfl, rfl, trivial⟩ ?_
      have o28 := hbl
      have c27 := Chg.drew w19
      generalize World.drew w19 = w26 at c27 ⊢
      have ht_lb25 : lb25 < w26.heap.size ∧ w26.heap[lb25]? = w19.heap[lb25]? := ⟨Nat.lt_of_lt_of_le hC22.lt c27.size, c27.block lb25 hC22.lt (by simp)⟩
      replace HC := HC.chg0 c27
      replace hbl := hbl.tr0 c27
      replace hsl := hsl.tr0 c27
      replace hol := hol.tr0 c27
      refine sq_q rfl (fun W hT => r_move (v := .pointer _) rfl) <| sq_q rfl (fun W hT => r_nilCheck rfl) <| sq_q rfl (fun W hT => r_fieldAddr T.fld57_0 rfl) <| sq_q rfl (fun W hT => r_load1 (v := .slice _ _ _) T.one52 rfl (Blk.cell (show Blk W b _ _ from hT.1.trans o28) rfl)) <| sq_q rfl (fun W hT => r_move (v := .pointer _) rfl) <| sq_q rfl (fun W hT => r_nilCheck rfl) <| sq_q rfl (fun W hT => r_fieldAddr T.fld57_1 rfl) <| sq_q rfl (fun W hT => r_load1 (v := .int _ _) T.one3 rfl (Blk.cell (show Blk W b _ _ from hT.1.trans o28) rfl)) <| sq_q rfl (fun W hT => r_indexAddr T.u52 T.size60 (congrArg (fun z => Value.slice z _ _) hA21) rfl (by omega) (by (have h9 := dropq_lt hd9; omega))) <| sq_q rfl (fun W hT => r_fieldAddr T.fld60_2 rfl) <| sq_q rfl (fun W hT => r_load1 (v := S _) T.one9 rfl (Cells.at (j := 2) (Cells.tr hC22 hT.2.1) rfl)) <| sq_q rfl (fun W hT => r_assign (v := S _) rfl) ?_
      clear o28
      refine sq_nil <| then_n <| sr rfl <| mP rfl <| nc rfl <| fa T.fld57_1 rfl <| lI T.one3 rfl (hbl.cell rfl) <| Wp rfl <| st_addk rfl rfl (by exact wrap_1 (by omega)) <| nc rfl <| fa T.fld57_1 rfl <| Wp rfl <| st_store (v := .int _ _) T.size3 rfl rfl rfl hbl rfl (Nat.le_of_ble_eq_true rfl) (by simp [Value.oneCell', S]) rfl ?_
      intro w29 c30 hb31; simp only [setVs, setV] at hb31
      clear hbl
      replace HC := HC.cB c30
      replace hsl := hsl.tN c30 (fun h => (hDt _ h).2 rfl)
      replace hol := hol.tN c30 hDb
      refine en <| sr rfl <| mP rfl <| mI rfl <| Wp rfl <| st_addk rfl rfl (by exact wrap_1 (by omega)) ?_
      obtain ⟨ri2, hw2, hr2⟩ := bind_some (hq9)
      refine Wp rfl <| st_call (ags := [_, _]) rfl rfl T.ent56 rfl ((ihs fz hfz2).lev (n + 1) (by omega) _ _ _ _ _ _ _ _ _ _ _ _ ⟨(fun k hk => hfr0 k (Nat.le_trans HC.size hk)), hDb, (fun k h => ⟨fun h2 => (hDt k h).1 (h2), (hDt k h).2⟩), ⟨_, _, _, hb31, hsl, hds9, hol⟩, hwft9, hd64, (by omega), hTl⟩ hw2) ?_
      rintro v2 w32 hP
      rcases ri2 with ⟨e2, a2⟩ | ⟨k2, ts2, out2⟩
      ·obtain ⟨he2, ⟨k2, rfl⟩, ⟨ts2, out2, dp2, hne2, hl2, i2, Ao2, capo2, hb2v, hs2v, hd2v, ho2v⟩, cP2⟩ := hP
       replace HC := HC.trans cP2 (fun k h => .inl (h))
       obtain ⟨x2, tl2, rfl⟩ := List.exists_cons_of_ne_nil hne2
       have hq2 := hl2
       simp only [List.length_cons] at hq2
       have hi92 := dropq_lt hd2v
       refine aI rfl <| en <| x_region rfl <| mP rfl <| mS rfl <| mI rfl <| mI rfl <| Wp rfl <| st_lit (ps := [(0, .tmp 75), (1, .tmp 76)]) (vs := [.int _ _, .int _ _]) T.lit36 (by decide) rfl (by simp only [List.forall_mem_cons, List.not_mem_nil, false_imp_iff, implies_true, and_true]; exact ⟨rfl, rfl⟩) rfl ?_
       intro b33 w34 e35 c36 hb37
       have ge_b33 : w.heap.size ≤ b33 := by rw [e35]; exact HC.size
       have ne_b_b33 : b ≠ b33 := by rw [e35]; exact hb2v.ne_size
       have nal_b33 : b33 ∉ ob Ao2 := ho2v.fresh (by rw [e35]; exact Nat.le_refl _)
       replace HC := HC.chg0 c36
       replace hb2v := hb2v.tr0 c36
       replace hs2v := hs2v.tr0 c36
       replace ho2v := ho2v.tr0 c36
       clear e35
       refine Wp rfl <| st_bld (ps := [(0, .tmp 74), (3, .tmp 77)]) (vs := [S _, .int _ _, S _, .slice _ _ _]) T.bld38 rfl ?_
       have nak_b33 : b33 ∉ ob Ao2 := nal_b33
       refine Wp rfl <| st_call (ags := [_, _]) rfl rfl T.ent40 rfl (qput_spec (D := D) (x := ⟨x9.1.2.2, 0, [], [kk, k2]⟩) (fun k hk => hfr0 k (by have h1 := HC.size; omega)) hDb hb2v ho2v (kid_one (ks := [kk, k2]) (show Blk _ _ (([kk, k2] : List Int).flatMap fun x => [.int .i64 x]) _ from hb37) (by simp) ⟨hfr0 _ (by have h1 := ge_b33; omega), nak_b33⟩) (by omega)) ?_
       rintro _ w38 ⟨rfl, ⟨Aop39, capop39, hbp39, hop39⟩, c39⟩
       replace HC := HC.chg c39 (fun k hk => .inl ((List.mem_cons.1 hk).elim .inr (fun h => .inl (ho2v.inD k h))))
       replace hs2v := hs2v.tr c39 (fun k hk hD => (List.mem_cons.1 hk).elim (hDt k hD).2 (fun h => (hDt k hD).1 (ho2v.inD k h)))
       refine aI rfl <| wops_nil <| block_n <| then_n <| ⟨(((out2.length : Nat) : Int), (x2 :: tl2), (out2 ++ [⟨x9.1.2.2, 0, [], [kk, k2]⟩]), 0, (i2, Aop39, capop39), dp2, a2, e2), ?_, ?_, rfl, ⟨rfl, trivial⟩, ?_⟩
       ·refine ⟨?_, HC, hbp39, hs2v, hop39⟩
        exact ⟨by simp, hd2v, (by simp only [List.length_append, List.length_cons, List.length_nil, List.drop_succ_cons, List.drop_zero] at *; omega), Nat.zero_le _, .inr ⟨he2, hr2⟩⟩
       ·show (if e2 = 0 then _ else _) < (if (0 : Int) = 0 then _ else _); rw [if_neg he2, if_pos rfl]; simp
       repeat (first | exact agree_upds agree_over rfl | refine agree_upd ?_ rfl | refine agree_upds ?_ rfl | refine agree_over_sub ?_ rfl)
      ·obtain ⟨rfl, ⟨i2, Ao2, capo2, hb2v, hs2v, hd2v, ho2v⟩, hwf2, ⟨hm2, hl2⟩, cP2⟩ := hP
       replace HC := HC.trans cP2 (fun k h => .inl (h))
       obtain ⟨x2, tl2, rfl⟩ := hwf2.ne
       have hq2 := hl2
       simp only [List.length_cons] at hq2
       have hi92 := dropq_lt hd2v
       have hqm2 := hm2
       simp only [List.length_cons] at hqm2
       have hg2 := hr2
       dsimp only at hg2
       refine aI rfl <| en <| x_region rfl <| mP rfl <| mS rfl <| mI rfl <| mI rfl <| Wp rfl <| st_lit (ps := [(0, .tmp 75), (1, .tmp 76)]) (vs := [.int _ _, .int _ _]) T.lit36 (by decide) rfl (by simp only [List.forall_mem_cons, List.not_mem_nil, false_imp_iff, implies_true, and_true]; exact ⟨rfl, rfl⟩) rfl ?_
       intro b40 w41 e42 c43 hb44
       have ge_b40 : w.heap.size ≤ b40 := by rw [e42]; exact HC.size
       have ne_b_b40 : b ≠ b40 := by rw [e42]; exact hb2v.ne_size
       have nal_b40 : b40 ∉ ob Ao2 := ho2v.fresh (by rw [e42]; exact Nat.le_refl _)
       replace HC := HC.chg0 c43
       replace hb2v := hb2v.tr0 c43
       replace hs2v := hs2v.tr0 c43
       replace ho2v := ho2v.tr0 c43
       clear e42
       refine Wp rfl <| st_bld (ps := [(0, .tmp 74), (3, .tmp 77)]) (vs := [S _, .int _ _, S _, .slice _ _ _]) T.bld38 rfl ?_
       have nak_b40 : b40 ∉ ob Ao2 := nal_b40
       refine Wp rfl <| st_call (ags := [_, _]) rfl rfl T.ent40 rfl (qput_spec (D := D) (x := ⟨x9.1.2.2, 0, [], [kk, k2]⟩) (fun k hk => hfr0 k (by have h1 := HC.size; omega)) hDb hb2v ho2v (kid_one (ks := [kk, k2]) (show Blk _ _ (([kk, k2] : List Int).flatMap fun x => [.int .i64 x]) _ from hb44) (by simp) ⟨hfr0 _ (by have h1 := ge_b40; omega), nak_b40⟩) (by omega)) ?_
       rintro _ w45 ⟨rfl, ⟨Aop46, capop46, hbp46, hop46⟩, c46⟩
       replace HC := HC.chg c46 (fun k hk => .inl ((List.mem_cons.1 hk).elim .inr (fun h => .inl (ho2v.inD k h))))
       replace hs2v := hs2v.tr c46 (fun k hk hD => (List.mem_cons.1 hk).elim (hDt k hD).2 (fun h => (hDt k hD).1 (ho2v.inD k h)))
       refine aI rfl <| wops_nil <| block_n <| then_n <| ⟨(((out2.length : Nat) : Int), (x2 :: tl2), (out2 ++ [⟨x9.1.2.2, 0, [], [kk, k2]⟩]), fz, (i2, Aop46, capop46), (d : Int), pl, 0), ?_, ?_, rfl, ⟨rfl, trivial⟩, ?_⟩
       ·refine ⟨?_, HC, hbp46, hs2v, hop46⟩
        exact ⟨by simp, hd2v, (by simp only [List.length_append, List.length_cons, List.length_nil, List.drop_succ_cons, List.drop_zero] at *; omega), by omega, .inl ⟨rfl, rfl, rfl, hwf2, (by simp only [List.length_append, List.length_cons, List.length_nil, List.drop_succ_cons, List.drop_zero] at *; omega), hg2⟩⟩
       ·show (if (0 : Int) = 0 then _ else _) < (if (0 : Int) = 0 then _ else _); rw [if_pos rfl, if_pos rfl]; simp only [List.length_cons] at *; omega
       repeat (first | exact agree_upds agree_over rfl | refine agree_upd ?_ rfl | refine agree_upds ?_ rfl | refine agree_over_sub ?_ rfl)
     ·try simp only [nm, ne_eq] at h1
      have hin : ¬ inOp (x9 :: tl9) (lvls.getD n []) = true := fun h => by have h7 := in_iff.1 h; have h8 := (lev_in (n := n) (by omega)).2 h7.2; simp_all
      rw [if_neg hin] at hq9
      obtain rfl := (Option.some.inj hq9).symm
      refine x_exit <| then_x <| then_x <| block_x <| then_n <| sr rfl <| mI rfl <| aI rfl <| en <| x_ret <| ret_tmp (v := .int _ _) rfl rfl ?_
      exact ⟨rfl, ⟨_, _, _, hbl, hsl, hd9, hol⟩, hwf9, ⟨hT9, hB0⟩, HC⟩
    ·try simp only [nm, ne_eq] at g18
     refine sq_no rfl rfl <| sq_no rfl rfl <| sq_no rfl rfl <| sq_no rfl rfl <| sq_no rfl rfl <| sq_no rfl rfl <| sq_no rfl rfl <| sq_no rfl rfl <| sq_no rfl rfl <| sq_no rfl rfl <| sq_no rfl rfl <| sq_no rfl rfl <| sq_no rfl rfl <| sq_no rfl rfl <| sq_q rfl (fun W hT => r_pick (b := false) (v := .bool _) rfl rfl) ?_
     clear o16
     refine sq_nil <| then_n <| x_cond (t := false) rfl (fun h1 => ?_) (fun h1 => ?_)
     · exact absurd h1 (by decide)
     have hin : ¬ inOp (x9 :: tl9) (lvls.getD n []) = true := fun h => by have h7 := in_iff.1 h; have h8 := (lev_in (n := n) (by omega)).2 h7.2; simp_all
     rw [if_neg hin] at hq9
     obtain rfl := (Option.some.inj hq9).symm
     refine x_exit <| then_x <| then_x <| block_x <| then_n <| sr rfl <| mI rfl <| aI rfl <| en <| x_ret <| ret_tmp (v := .int _ _) rfl rfl ?_
     exact ⟨rfl, ⟨_, _, _, hbl, hsl, hd9, hol⟩, hwf9, ⟨hT9, hB0⟩, HC⟩
   ·try simp only [nm, ne_eq] at g17
    refine sq_no rfl rfl <| sq_no rfl rfl <| sq_no rfl rfl <| sq_no rfl rfl <| sq_no rfl rfl <| sq_no rfl rfl <| sq_no rfl rfl <| sq_no rfl rfl <| sq_no rfl rfl <| sq_no rfl rfl <| sq_no rfl rfl <| sq_no rfl rfl <| sq_q rfl (fun W hT => r_pick (b := false) (v := .bool _) rfl rfl) <| sq_q rfl (fun W hT => r_move (v := .bool _) rfl) <| sq_no rfl rfl <| sq_no rfl rfl <| sq_no rfl rfl <| sq_no rfl rfl <| sq_no rfl rfl <| sq_no rfl rfl <| sq_no rfl rfl <| sq_no rfl rfl <| sq_no rfl rfl <| sq_no rfl rfl <| sq_no rfl rfl <| sq_no rfl rfl <| sq_no rfl rfl <| sq_no rfl rfl <| sq_q rfl (fun W hT => r_pick (b := false) (v := .bool _) rfl rfl) ?_
    clear o16
    refine sq_nil <| then_n <| x_cond (t := false) rfl (fun h1 => ?_) (fun h1 => ?_)
    · exact absurd h1 (by decide)
    refine x_exit <| then_x <| then_x <| block_x <| then_n <| sr rfl <| mI rfl <| aI rfl <| en <| x_ret <| ret_tmp (v := .int _ _) rfl rfl ?_
    obtain ⟨q1, q2, q3, q4, q5 | q5⟩ := hLI
    · exact absurd q5.1 (by assumption)
    · rw [q5.2]; exact ⟨q5.1, ⟨_, rfl⟩, ⟨_, _, _, q1, q3, ⟨_, _, _, hbl, hsl, hd9, hol⟩⟩, HC⟩
  ·obtain ⟨rfl, ⟨i1, Ao1, capo1, hb1v, hs1v, hd1v, ho1v⟩, hwf1, ⟨hm1, hl1⟩, cP1⟩ := hP
   replace HC := HC.trans cP1 (fun k h => .inl (h))
   obtain ⟨x1, tl1, rfl⟩ := hwf1.ne
   have hq1 := hl1
   simp only [List.length_cons] at hq1
   have hi91 := dropq_lt hd1v
   have hqm1 := hm1
   simp only [List.length_cons] at hqm1
   have hg1 := hr1
   dsimp only at hg1
   refine aI rfl <| en <| x_seq <| x_block <| x_loop (ι := Int × List Tk × List Nd × Nat × (Nat × Option Addr × Nat) × Int × Int × Int) [5, 6, 7, 16, 17, 18, 19, 20, 21, 22, 23, 24, 25, 26, 27, 28, 29, 30, 31, 32, 33, 34, 35, 36, 37, 38, 39, 40, 41, 42, 43, 44, 45, 46, 47, 48, 49, 50, 51, 52, 53, 54, 55, 56, 57, 58, 59, 60, 61, 62, 63, 64, 65, 66, 67, 68, 69, 70, 71, 72, 73, 74, 75, 76, 77, 78, 79] (fun ⟨kk, tsl, outl, fl, ⟨il, Aol, col⟩, dpl, pll, el⟩ => [(5, .int .i64 kk)]) (fun ⟨kk, tsl, outl, fl, ⟨il, Aol, col⟩, dpl, pll, el⟩ W => (LQ n d f (out.length + (tl.length + 1)) (tl.length + 1) r pl TT kk tsl outl fl il dpl pll el) ∧ (ChgP (fun k => D k ∨ k = b) w W) ∧ (Blk W b [.slice At TT.length capt, .int .i64 (il : Int), .slice Aol outl.length col, .int .i64 dpl, .int .i64 el, .int .i64 pll] 57) ∧ (Sl tkE W Dt At TT) ∧ (Own ndE 38 W D Aol col outl)) (fun ⟨kk, tsl, outl, fl, ⟨il, Aol, col⟩, dpl, pll, el⟩ => if el = 0 then tsl.length + 1 else 0) (k1, (x1 :: tl1), out1, f, (i1, Ao1, capo1), (d : Int), pl, 0) ?_ ?_ ?_
   · exact ⟨rfl, trivial⟩
   ·refine ⟨?_, HC, hb1v, hs1v, ho1v⟩
    exact ⟨by simp, hd1v, (by simp only [List.length_append, List.length_cons, List.length_nil, List.drop_succ_cons, List.drop_zero] at *; omega), Nat.le_refl _, .inl ⟨rfl, rfl, rfl, hwf1, (by simp only [List.length_append, List.length_cons, List.length_nil, List.drop_succ_cons, List.drop_zero] at *; omega), hg1⟩⟩
   intro ⟨kk, tsl, outl, fl, ⟨il, Aol, col⟩, dpl, pll, el⟩ G48 w47 ⟨hLI, HC, hbl, hsl, hol⟩
   change wp _ _ _ _ _ (upds (over _ _ G48) [(5, .int .i64 kk)]) _ _
   have hLI0 := hLI
   obtain ⟨hne9, hd9, hB9, hfl9, _⟩ := hLI0
   obtain ⟨x9, tl9, rfl⟩ := List.exists_cons_of_ne_nil hne9
   have hi99 := dropq_lt hd9
   simp only [List.length_cons] at hB9
   refine x_seq <| x_seq ?_
   obtain ⟨lb53, _, vs52, hA49, hR51, hC50⟩ := hsl.at (i := il) (x := x9) (dropq_at hd9)
   obtain rfl : vs52 = tokC x9.1 x9.2 := hR51
   have hDl_lb53 := Sl.domAt hsl (dropq_at hd9) hA49
   obtain ⟨lb58, _, vs57, hA54, hR56, hC55⟩ := hsl.at (i := il) (x := x9) (dropq_at hd9)
   obtain rfl : vs57 = tokC x9.1 x9.2 := hR56
   have hDl_lb58 := Sl.domAt hsl (dropq_at hd9) hA54
   refine x_draw [(0, 0), (1, 0), (2, 0), (3, 0), (4, 0), (5, 0), (6, 0), (7, 0), (8, 0), (9, 0), (10, 0), (11, 0), (12, 0), (13, 0), (14, 0), (15, 0), (16, 0), (17, 0), (18, 0), (19, 0), (20, 0), (21, 0), (22, 0), (23, 0), (24, 0), (25, 0), (26, 0), (27, 0), (28, 0), (29, 0), (30, 0), (32, 0), (31, 1), (33, 0), (34, 0)] T.mixed rfl rfl rfl (fun W => W.heap[b]? = w47.heap[b]? ∧ W.heap[lb53]? = w47.heap[lb53]? ∧ W.heap[lb58]? = w47.heap[lb58]? ∧ True) ⟨rfl, rfl, rfl, trivial⟩ ?_
   have o61 := hbl
   have c60 := Chg.drew w47
   generalize World.drew w47 = w59 at c60 ⊢
   have ht_lb53 : lb53 < w59.heap.size ∧ w59.heap[lb53]? = w47.heap[lb53]? := ⟨Nat.lt_of_lt_of_le hC50.lt c60.size, c60.block lb53 hC50.lt (by simp)⟩
   have ht_lb58 : lb58 < w59.heap.size ∧ w59.heap[lb58]? = w47.heap[lb58]? := ⟨Nat.lt_of_lt_of_le hC55.lt c60.size, c60.block lb58 hC55.lt (by simp)⟩
   replace HC := HC.chg0 c60
   replace hbl := hbl.tr0 c60
   replace hsl := hsl.tr0 c60
   replace hol := hol.tr0 c60
   refine sq_q rfl (fun W hT => r_move (v := .pointer _) rfl) <| sq_q rfl (fun W hT => r_nilCheck rfl) <| sq_q rfl (fun W hT => r_fieldAddr T.fld57_4 rfl) <| sq_q rfl (fun W hT => r_load1 (v := .int _ _) T.one3 rfl (Blk.cell (show Blk W b _ _ from hT.1.trans o61) rfl)) <| sq_q rfl (fun W hT => r_eql rfl rfl) <| sq_q rfl (fun W hT => r_move (v := .bool _) rfl) <| sq_split (d := 21) rfl (fun g62 => ?_) (fun g62 => ?_)
   ·try simp only [nm, ne_eq] at g62
    obtain ⟨hp0, hdp0, hwf9, hT9, hB0, fz, hfz, hfz2, hq9⟩ := hLI.good (by assumption)
    obtain rfl := hp0.symm
    obtain rfl := hdp0
    obtain rfl := hfz
    obtain rfl : el = 0 := by assumption
    refine sq_q rfl (fun W hT => r_move (v := .pointer _) rfl) <| sq_q rfl (fun W hT => r_nilCheck rfl) <| sq_q rfl (fun W hT => r_fieldAddr T.fld57_0 rfl) <| sq_q rfl (fun W hT => r_load1 (v := .slice _ _ _) T.one52 rfl (Blk.cell (show Blk W b _ _ from hT.1.trans o61) rfl)) <| sq_q rfl (fun W hT => r_move (v := .pointer _) rfl) <| sq_q rfl (fun W hT => r_nilCheck rfl) <| sq_q rfl (fun W hT => r_fieldAddr T.fld57_1 rfl) <| sq_q rfl (fun W hT => r_load1 (v := .int _ _) T.one3 rfl (Blk.cell (show Blk W b _ _ from hT.1.trans o61) rfl)) <| sq_q rfl (fun W hT => r_indexAddr T.u52 T.size60 (congrArg (fun z => Value.slice z _ _) hA49) rfl (by omega) (by (have h9 := dropq_lt hd9; omega))) <| sq_q rfl (fun W hT => r_fieldAddr T.fld60_0 rfl) <| sq_q rfl (fun W hT => r_load1 (v := .int _ _) T.one3 rfl (Cells.at (j := 0) (Cells.tr hC50 hT.2.1) rfl)) <| sq_q rfl (fun W hT => r_eql rfl rfl) <| sq_q rfl (fun W hT => r_pick (b := true) (v := .bool _) rfl rfl) <| sq_q rfl (fun W hT => r_move (v := .bool _) rfl) <| sq_split (d := 35) rfl (fun g63 => ?_) (fun g63 => ?_)
    ·try simp only [nm, ne_eq] at g63
     refine sq_q rfl (fun W hT => r_move (v := .pointer _) rfl) <| sq_q rfl (fun W hT => r_nilCheck rfl) <| sq_q rfl (fun W hT => r_fieldAddr T.fld57_0 rfl) <| sq_q rfl (fun W hT => r_load1 (v := .slice _ _ _) T.one52 rfl (Blk.cell (show Blk W b _ _ from hT.1.trans o61) rfl)) <| sq_q rfl (fun W hT => r_move (v := .pointer _) rfl) <| sq_q rfl (fun W hT => r_nilCheck rfl) <| sq_q rfl (fun W hT => r_fieldAddr T.fld57_1 rfl) <| sq_q rfl (fun W hT => r_load1 (v := .int _ _) T.one3 rfl (Blk.cell (show Blk W b _ _ from hT.1.trans o61) rfl)) <| sq_q rfl (fun W hT => r_indexAddr T.u52 T.size60 (congrArg (fun z => Value.slice z _ _) hA54) rfl (by omega) (by (have h9 := dropq_lt hd9; omega))) <| sq_q rfl (fun W hT => r_fieldAddr T.fld60_2 rfl) <| sq_q rfl (fun W hT => r_load1 (v := S _) T.one9 rfl (Cells.at (j := 2) (Cells.tr hC55 hT.2.2.1) rfl)) <| sq_q rfl (fun W hT => r_move (v := .int _ _) rfl) <| sq_call1 rfl (r_call (ags := [_]) rfl rfl T.ent78 rfl) (Level_spec _ _) ?_
     rintro _ w64 ⟨rfl, c65⟩
     replace HC := HC.chg0 c65
     replace hbl := hbl.tr0 c65
     replace hsl := hsl.tr0 c65
     replace hol := hol.tr0 c65
     replace ht_lb53 := And.intro (Nat.lt_of_lt_of_le ht_lb53.1 c65.size) ((c65.block lb53 ht_lb53.1 (by simp)).trans ht_lb53.2)
     replace ht_lb58 := And.intro (Nat.lt_of_lt_of_le ht_lb58.1 c65.size) ((c65.block lb58 ht_lb58.1 (by simp)).trans ht_lb58.2)
     refine ⟨_, fun _ h => h, ⟨(Eq.trans hbl o61.symm), (by first | assumption | exact ht_lb53.2), (by first | assumption | exact ht_lb58.2), trivial⟩, ?_⟩
     refine sq_q rfl (fun W hT => r_eql rfl rfl) <| sq_q rfl (fun W hT => r_pick (b := true) (v := .bool _) rfl rfl) ?_
     clear o61
     refine sq_nil <| then_n <| x_cond rfl (fun h1 => ?_) (fun h1 => ?_)
     ·try simp only [nm, ne_eq] at h1
      have hin : inOp (x9 :: tl9) (lvls.getD n []) = true := in_iff.2 ⟨by assumption, (lev_in (by omega)).1 (by assumption)⟩
      rw [if_pos hin] at hq9
      simp only [List.drop_succ_cons, List.drop_zero] at hq9
      have hwft9 : WfT tl9 := hwf9.tl (by omega)
      have hds9 := dropq_s hd9
      refine x_skip <| then_n <| x_block <| x_seq ?_
      obtain ⟨lb70, _, vs69, hA66, hR68, hC67⟩ := hsl.at (i := il) (x := x9) (dropq_at hd9)
      obtain rfl : vs69 = tokC x9.1 x9.2 := hR68
      have hDl_lb70 := Sl.domAt hsl (dropq_at hd9) hA66
      refine x_draw [(0, 0), (1, 0), (2, 0), (3, 0), (4, 0), (5, 0), (6, 0), (7, 0), (8, 0), (9, 0), (10, 0), (11, 0)] T.mixed rfl rfl rfl (fun W => W.heap[b]? = w64.heap[b]? ∧ W.heap[lb70]? = w64.heap[lb70]? ∧ True) ⟨rfl, rfl, trivial⟩ ?_
      have o73 := hbl
      have c72 := Chg.drew w64
      generalize World.drew w64 = w71 at c72 ⊢
      have ht_lb70 : lb70 < w71.heap.size ∧ w71.heap[lb70]? = w64.heap[lb70]? := ⟨Nat.lt_of_lt_of_le hC67.lt c72.size, c72.block lb70 hC67.lt (by simp)⟩
      replace HC := HC.chg0 c72
      replace hbl := hbl.tr0 c72
      replace hsl := hsl.tr0 c72
      replace hol := hol.tr0 c72
      refine sq_q rfl (fun W hT => r_move (v := .pointer _) rfl) <| sq_q rfl (fun W hT => r_nilCheck rfl) <| sq_q rfl (fun W hT => r_fieldAddr T.fld57_0 rfl) <| sq_q rfl (fun W hT => r_load1 (v := .slice _ _ _) T.one52 rfl (Blk.cell (show Blk W b _ _ from hT.1.trans o73) rfl)) <| sq_q rfl (fun W hT => r_move (v := .pointer _) rfl) <| sq_q rfl (fun W hT => r_nilCheck rfl) <| sq_q rfl (fun W hT => r_fieldAddr T.fld57_1 rfl) <| sq_q rfl (fun W hT => r_load1 (v := .int _ _) T.one3 rfl (Blk.cell (show Blk W b _ _ from hT.1.trans o73) rfl)) <| sq_q rfl (fun W hT => r_indexAddr T.u52 T.size60 (congrArg (fun z => Value.slice z _ _) hA66) rfl (by omega) (by (have h9 := dropq_lt hd9; omega))) <| sq_q rfl (fun W hT => r_fieldAddr T.fld60_2 rfl) <| sq_q rfl (fun W hT => r_load1 (v := S _) T.one9 rfl (Cells.at (j := 2) (Cells.tr hC67 hT.2.1) rfl)) <| sq_q rfl (fun W hT => r_assign (v := S _) rfl) ?_
      clear o73
      refine sq_nil <| then_n <| sr rfl <| mP rfl <| nc rfl <| fa T.fld57_1 rfl <| lI T.one3 rfl (hbl.cell rfl) <| Wp rfl <| st_addk rfl rfl (by exact wrap_1 (by omega)) <| nc rfl <| fa T.fld57_1 rfl <| Wp rfl <| st_store (v := .int _ _) T.size3 rfl rfl rfl hbl rfl (Nat.le_of_ble_eq_true rfl) (by simp [Value.oneCell', S]) rfl ?_
      intro w74 c75 hb76; simp only [setVs, setV] at hb76
      clear hbl
      replace HC := HC.cB c75
      replace hsl := hsl.tN c75 (fun h => (hDt _ h).2 rfl)
      replace hol := hol.tN c75 hDb
      refine en <| sr rfl <| mP rfl <| mI rfl <| Wp rfl <| st_addk rfl rfl (by exact wrap_1 (by omega)) ?_
      obtain ⟨ri2, hw2, hr2⟩ := bind_some (hq9)
      refine Wp rfl <| st_call (ags := [_, _]) rfl rfl T.ent56 rfl ((ihs fz hfz2).lev (n + 1) (by omega) _ _ _ _ _ _ _ _ _ _ _ _ ⟨(fun k hk => hfr0 k (Nat.le_trans HC.size hk)), hDb, (fun k h => ⟨fun h2 => (hDt k h).1 (h2), (hDt k h).2⟩), ⟨_, _, _, hb76, hsl, hds9, hol⟩, hwft9, hd64, (by omega), hTl⟩ hw2) ?_
      rintro v2 w77 hP
      rcases ri2 with ⟨e2, a2⟩ | ⟨k2, ts2, out2⟩
      ·obtain ⟨he2, ⟨k2, rfl⟩, ⟨ts2, out2, dp2, hne2, hl2, i2, Ao2, capo2, hb2v, hs2v, hd2v, ho2v⟩, cP2⟩ := hP
       replace HC := HC.trans cP2 (fun k h => .inl (h))
       obtain ⟨x2, tl2, rfl⟩ := List.exists_cons_of_ne_nil hne2
       have hq2 := hl2
       simp only [List.length_cons] at hq2
       have hi92 := dropq_lt hd2v
       refine aI rfl <| en <| x_region rfl <| mP rfl <| mS rfl <| mI rfl <| mI rfl <| Wp rfl <| st_lit (ps := [(0, .tmp 75), (1, .tmp 76)]) (vs := [.int _ _, .int _ _]) T.lit36 (by decide) rfl (by simp only [List.forall_mem_cons, List.not_mem_nil, false_imp_iff, implies_true, and_true]; exact ⟨rfl, rfl⟩) rfl ?_
       intro b78 w79 e80 c81 hb82
       have ge_b78 : w.heap.size ≤ b78 := by rw [e80]; exact HC.size
       have ne_b_b78 : b ≠ b78 := by rw [e80]; exact hb2v.ne_size
       have nal_b78 : b78 ∉ ob Ao2 := ho2v.fresh (by rw [e80]; exact Nat.le_refl _)
       replace HC := HC.chg0 c81
       replace hb2v := hb2v.tr0 c81
       replace hs2v := hs2v.tr0 c81
       replace ho2v := ho2v.tr0 c81
       clear e80
       refine Wp rfl <| st_bld (ps := [(0, .tmp 74), (3, .tmp 77)]) (vs := [S _, .int _ _, S _, .slice _ _ _]) T.bld38 rfl ?_
       have nak_b78 : b78 ∉ ob Ao2 := nal_b78
       refine Wp rfl <| st_call (ags := [_, _]) rfl rfl T.ent40 rfl (qput_spec (D := D) (x := ⟨x9.1.2.2, 0, [], [kk, k2]⟩) (fun k hk => hfr0 k (by have h1 := HC.size; omega)) hDb hb2v ho2v (kid_one (ks := [kk, k2]) (show Blk _ _ (([kk, k2] : List Int).flatMap fun x => [.int .i64 x]) _ from hb82) (by simp) ⟨hfr0 _ (by have h1 := ge_b78; omega), nak_b78⟩) (by omega)) ?_
       rintro _ w83 ⟨rfl, ⟨Aop84, capop84, hbp84, hop84⟩, c84⟩
       replace HC := HC.chg c84 (fun k hk => .inl ((List.mem_cons.1 hk).elim .inr (fun h => .inl (ho2v.inD k h))))
       replace hs2v := hs2v.tr c84 (fun k hk hD => (List.mem_cons.1 hk).elim (hDt k hD).2 (fun h => (hDt k hD).1 (ho2v.inD k h)))
       refine aI rfl <| wops_nil <| block_n <| then_n <| ⟨(((out2.length : Nat) : Int), (x2 :: tl2), (out2 ++ [⟨x9.1.2.2, 0, [], [kk, k2]⟩]), 0, (i2, Aop84, capop84), dp2, a2, e2), ?_, ?_, rfl, ⟨rfl, trivial⟩, ?_⟩
       ·refine ⟨?_, HC, hbp84, hs2v, hop84⟩
        exact ⟨by simp, hd2v, (by simp only [List.length_append, List.length_cons, List.length_nil, List.drop_succ_cons, List.drop_zero] at *; omega), Nat.zero_le _, .inr ⟨he2, hr2⟩⟩
       ·show (if e2 = 0 then _ else _) < (if (0 : Int) = 0 then _ else _); rw [if_neg he2, if_pos rfl]; simp
       repeat (first | exact agree_upds agree_over rfl | refine agree_upd ?_ rfl | refine agree_upds ?_ rfl | refine agree_over_sub ?_ rfl)
      ·obtain ⟨rfl, ⟨i2, Ao2, capo2, hb2v, hs2v, hd2v, ho2v⟩, hwf2, ⟨hm2, hl2⟩, cP2⟩ := hP
       replace HC := HC.trans cP2 (fun k h => .inl (h))
       obtain ⟨x2, tl2, rfl⟩ := hwf2.ne
       have hq2 := hl2
       simp only [List.length_cons] at hq2
       have hi92 := dropq_lt hd2v
       have hqm2 := hm2
       simp only [List.length_cons] at hqm2
       have hg2 := hr2
       dsimp only at hg2
       refine aI rfl <| en <| x_region rfl <| mP rfl <| mS rfl <| mI rfl <| mI rfl <| Wp rfl <| st_lit (ps := [(0, .tmp 75), (1, .tmp 76)]) (vs := [.int _ _, .int _ _]) T.lit36 (by decide) rfl (by simp only [List.forall_mem_cons, List.not_mem_nil, false_imp_iff, implies_true, and_true]; exact ⟨rfl, rfl⟩) rfl ?_
       intro b85 w86 e87 c88 hb89
       have ge_b85 : w.heap.size ≤ b85 := by rw [e87]; exact HC.size
       have ne_b_b85 : b ≠ b85 := by rw [e87]; exact hb2v.ne_size
       have nal_b85 : b85 ∉ ob Ao2 := ho2v.fresh (by rw [e87]; exact Nat.le_refl _)
       replace HC := HC.chg0 c88
       replace hb2v := hb2v.tr0 c88
       replace hs2v := hs2v.tr0 c88
       replace ho2v := ho2v.tr0 c88
       clear e87
       refine Wp rfl <| st_bld (ps := [(0, .tmp 74), (3, .tmp 77)]) (vs := [S _, .int _ _, S _, .slice _ _ _]) T.bld38 rfl ?_
       have nak_b85 : b85 ∉ ob Ao2 := nal_b85
       refine Wp rfl <| st_call (ags := [_, _]) rfl rfl T.ent40 rfl (qput_spec (D := D) (x := ⟨x9.1.2.2, 0, [], [kk, k2]⟩) (fun k hk => hfr0 k (by have h1 := HC.size; omega)) hDb hb2v ho2v (kid_one (ks := [kk, k2]) (show Blk _ _ (([kk, k2] : List Int).flatMap fun x => [.int .i64 x]) _ from hb89) (by simp) ⟨hfr0 _ (by have h1 := ge_b85; omega), nak_b85⟩) (by omega)) ?_
       rintro _ w90 ⟨rfl, ⟨Aop91, capop91, hbp91, hop91⟩, c91⟩
       replace HC := HC.chg c91 (fun k hk => .inl ((List.mem_cons.1 hk).elim .inr (fun h => .inl (ho2v.inD k h))))
       replace hs2v := hs2v.tr c91 (fun k hk hD => (List.mem_cons.1 hk).elim (hDt k hD).2 (fun h => (hDt k hD).1 (ho2v.inD k h)))
       refine aI rfl <| wops_nil <| block_n <| then_n <| ⟨(((out2.length : Nat) : Int), (x2 :: tl2), (out2 ++ [⟨x9.1.2.2, 0, [], [kk, k2]⟩]), fz, (i2, Aop91, capop91), (d : Int), pl, 0), ?_, ?_, rfl, ⟨rfl, trivial⟩, ?_⟩
       ·refine ⟨?_, HC, hbp91, hs2v, hop91⟩
        exact ⟨by simp, hd2v, (by simp only [List.length_append, List.length_cons, List.length_nil, List.drop_succ_cons, List.drop_zero] at *; omega), by omega, .inl ⟨rfl, rfl, rfl, hwf2, (by simp only [List.length_append, List.length_cons, List.length_nil, List.drop_succ_cons, List.drop_zero] at *; omega), hg2⟩⟩
       ·show (if (0 : Int) = 0 then _ else _) < (if (0 : Int) = 0 then _ else _); rw [if_pos rfl, if_pos rfl]; simp only [List.length_cons] at *; omega
       repeat (first | exact agree_upds agree_over rfl | refine agree_upd ?_ rfl | refine agree_upds ?_ rfl | refine agree_over_sub ?_ rfl)
     ·try simp only [nm, ne_eq] at h1
      have hin : ¬ inOp (x9 :: tl9) (lvls.getD n []) = true := fun h => by have h7 := in_iff.1 h; have h8 := (lev_in (n := n) (by omega)).2 h7.2; simp_all
      rw [if_neg hin] at hq9
      obtain rfl := (Option.some.inj hq9).symm
      refine x_exit <| then_x <| then_x <| block_x <| then_n <| sr rfl <| mI rfl <| aI rfl <| en <| x_ret <| ret_tmp (v := .int _ _) rfl rfl ?_
      exact ⟨rfl, ⟨_, _, _, hbl, hsl, hd9, hol⟩, hwf9, ⟨hT9, hB0⟩, HC⟩
    ·try simp only [nm, ne_eq] at g63
     refine sq_no rfl rfl <| sq_no rfl rfl <| sq_no rfl rfl <| sq_no rfl rfl <| sq_no rfl rfl <| sq_no rfl rfl <| sq_no rfl rfl <| sq_no rfl rfl <| sq_no rfl rfl <| sq_no rfl rfl <| sq_no rfl rfl <| sq_no rfl rfl <| sq_no rfl rfl <| sq_no rfl rfl <| sq_q rfl (fun W hT => r_pick (b := false) (v := .bool _) rfl rfl) ?_
     clear o61
     refine sq_nil <| then_n <| x_cond (t := false) rfl (fun h1 => ?_) (fun h1 => ?_)
     · exact absurd h1 (by decide)
     have hin : ¬ inOp (x9 :: tl9) (lvls.getD n []) = true := fun h => by have h7 := in_iff.1 h; have h8 := (lev_in (n := n) (by omega)).2 h7.2; simp_all
     rw [if_neg hin] at hq9
     obtain rfl := (Option.some.inj hq9).symm
     refine x_exit <| then_x <| then_x <| block_x <| then_n <| sr rfl <| mI rfl <| aI rfl <| en <| x_ret <| ret_tmp (v := .int _ _) rfl rfl ?_
     exact ⟨rfl, ⟨_, _, _, hbl, hsl, hd9, hol⟩, hwf9, ⟨hT9, hB0⟩, HC⟩
   ·try simp only [nm, ne_eq] at g62
    refine sq_no rfl rfl <| sq_no rfl rfl <| sq_no rfl rfl <| sq_no rfl rfl <| sq_no rfl rfl <| sq_no rfl rfl <| sq_no rfl rfl <| sq_no rfl rfl <| sq_no rfl rfl <| sq_no rfl rfl <| sq_no rfl rfl <| sq_no rfl rfl <| sq_q rfl (fun W hT => r_pick (b := false) (v := .bool _) rfl rfl) <| sq_q rfl (fun W hT => r_move (v := .bool _) rfl) <| sq_no rfl rfl <| sq_no rfl rfl <| sq_no rfl rfl <| sq_no rfl rfl <| sq_no rfl rfl <| sq_no rfl rfl <| sq_no rfl rfl <| sq_no rfl rfl <| sq_no rfl rfl <| sq_no rfl rfl <| sq_no rfl rfl <| sq_no rfl rfl <| sq_no rfl rfl <| sq_no rfl rfl <| sq_q rfl (fun W hT => r_pick (b := false) (v := .bool _) rfl rfl) ?_
    clear o61
    refine sq_nil <| then_n <| x_cond (t := false) rfl (fun h1 => ?_) (fun h1 => ?_)
    · exact absurd h1 (by decide)
    refine x_exit <| then_x <| then_x <| block_x <| then_n <| sr rfl <| mI rfl <| aI rfl <| en <| x_ret <| ret_tmp (v := .int _ _) rfl rfl ?_
    obtain ⟨q1, q2, q3, q4, q5 | q5⟩ := hLI
    · exact absurd q5.1 (by assumption)
    · rw [q5.2]; exact ⟨q5.1, ⟨_, rfl⟩, ⟨_, _, _, q1, q3, ⟨_, _, _, hbl, hsl, hd9, hol⟩⟩, HC⟩

theorem qasg_0 : QCw 18 .asg 0 := by
 intro D Dt w b At capt TT ts out d pl r hp hpr
 obtain ⟨hfr0, hDb, hDt, ⟨i, Ao, capo, hb, hs, hd, ho⟩, hwf, hd64, hlen, hTl⟩ := hp
 obtain ⟨x, tl, rfl⟩ := hwf.ne
 have hDtb : ¬ Dt b := fun h => (hDt b h).2 rfl
 have hDtn : ∀ k, w.heap.size ≤ k → ¬ Dt k := fun k hk h => (hDt k h).1 (hfr0 k hk)
 have hll : out.length + (tl.length + 1) ≤ 1000000000 := hlen
 have hi9 := dropq_lt hd
 refine callR_of_wp (args := [_]) Tryz.func18 rfl (Nat.le_of_ble_eq_true rfl) ?_
 have HC : ChgP (fun k => D k ∨ k = b) w w := .refl _
 refine sr rfl <| aI rfl <| en <| x_seq <| sr rfl <| mP rfl <| Wp rfl <| st_call (ags := [_]) rfl rfl T.ent39 rfl (qenter_spec hb hs hd hDtb (fun k hk => hDtn k (Nat.le_trans HC.size hk)) hd64) ?_
 rintro _ w1 ⟨(⟨hdp, rfl, hb1⟩ | ⟨hdp, rfl, hb1⟩), c2⟩
 rotate_left
 · have h9 := wI_ok hpr hdp; simp [pP] at h9
 replace HC := HC.cB c2
 replace hs := hs.tN c2 (fun h => (hDt _ h).2 rfl)
 replace ho := ho.tN c2 hDb
 obtain rfl := wI_deep hpr hdp
 refine Wp rfl <| st_not rfl <| en <| x_cond (t := true) rfl (fun h0 => ?_) (fun h0 => ?_)
 rotate_left
 · exact absurd h0 (by decide)
 refine sr rfl <| aI rfl <| en <| x_ret <| then_r <| ret_tmp (v := .int _ _) rfl rfl ?_
 exact ⟨by decide, ⟨0, rfl⟩, ⟨_, _, _, (by simp), Nat.le_refl _, ⟨_, _, _, hb1, hs, hd, ho⟩⟩, HC⟩

theorem qcho_0 : QCw 41 .cho 0 := by
 intro D Dt w b At capt TT ts out d pl r hp hpr
 obtain ⟨hfr0, hDb, hDt, ⟨i, Ao, capo, hb, hs, hd, ho⟩, hwf, hd64, hlen, hTl⟩ := hp
 obtain ⟨x, tl, rfl⟩ := hwf.ne
 have hDtb : ¬ Dt b := fun h => (hDt b h).2 rfl
 have hDtn : ∀ k, w.heap.size ≤ k → ¬ Dt k := fun k hk h => (hDt k h).1 (hfr0 k hk)
 have hll : out.length + (tl.length + 1) ≤ 1000000000 := hlen
 have hi9 := dropq_lt hd
 refine callR_of_wp (args := [_]) Tryz.func41 rfl (Nat.le_of_ble_eq_true rfl) ?_
 have HC : ChgP (fun k => D k ∨ k = b) w w := .refl _
 refine sr rfl <| aI rfl <| en <| x_seq <| sr rfl <| mP rfl <| Wp rfl <| st_call (ags := [_]) rfl rfl T.ent39 rfl (qenter_spec hb hs hd hDtb (fun k hk => hDtn k (Nat.le_trans HC.size hk)) hd64) ?_
 rintro _ w1 ⟨(⟨hdp, rfl, hb1⟩ | ⟨hdp, rfl, hb1⟩), c2⟩
 rotate_left
 · have h9 := wI_ok hpr hdp; simp [pP] at h9
 replace HC := HC.cB c2
 replace hs := hs.tN c2 (fun h => (hDt _ h).2 rfl)
 replace ho := ho.tN c2 hDb
 obtain rfl := wI_deep hpr hdp
 refine Wp rfl <| st_not rfl <| en <| x_cond (t := true) rfl (fun h0 => ?_) (fun h0 => ?_)
 rotate_left
 · exact absurd h0 (by decide)
 refine sr rfl <| aI rfl <| en <| x_ret <| then_r <| ret_tmp (v := .int _ _) rfl rfl ?_
 exact ⟨by decide, ⟨0, rfl⟩, ⟨_, _, _, (by simp), Nat.le_refl _, ⟨_, _, _, hb1, hs, hd, ho⟩⟩, HC⟩

theorem qtrm_0 : QCw 77 .trm 0 := by
 intro D Dt w b At capt TT ts out d pl r hp hpr
 obtain ⟨hfr0, hDb, hDt, ⟨i, Ao, capo, hb, hs, hd, ho⟩, hwf, hd64, hlen, hTl⟩ := hp
 obtain ⟨x, tl, rfl⟩ := hwf.ne
 have hDtb : ¬ Dt b := fun h => (hDt b h).2 rfl
 have hDtn : ∀ k, w.heap.size ≤ k → ¬ Dt k := fun k hk h => (hDt k h).1 (hfr0 k hk)
 have hll : out.length + (tl.length + 1) ≤ 1000000000 := hlen
 have hi9 := dropq_lt hd
 refine callR_of_wp (args := [_]) Tryz.func77 rfl (Nat.le_of_ble_eq_true rfl) ?_
 have HC : ChgP (fun k => D k ∨ k = b) w w := .refl _
 refine sr rfl <| aI rfl <| en <| x_seq <| sr rfl <| mP rfl <| Wp rfl <| st_call (ags := [_]) rfl rfl T.ent39 rfl (qenter_spec hb hs hd hDtb (fun k hk => hDtn k (Nat.le_trans HC.size hk)) hd64) ?_
 rintro _ w1 ⟨(⟨hdp, rfl, hb1⟩ | ⟨hdp, rfl, hb1⟩), c2⟩
 rotate_left
 · have h9 := wI_ok hpr hdp; simp [pP] at h9
 replace HC := HC.cB c2
 replace hs := hs.tN c2 (fun h => (hDt _ h).2 rfl)
 replace ho := ho.tN c2 hDb
 obtain rfl := wI_deep hpr hdp
 refine Wp rfl <| st_not rfl <| en <| x_cond (t := true) rfl (fun h0 => ?_) (fun h0 => ?_)
 rotate_left
 · exact absurd h0 (by decide)
 refine sr rfl <| aI rfl <| en <| x_ret <| then_r <| ret_tmp (v := .int _ _) rfl rfl ?_
 exact ⟨by decide, ⟨0, rfl⟩, ⟨_, _, _, (by simp), Nat.le_refl _, ⟨_, _, _, hb1, hs, hd, ho⟩⟩, HC⟩

theorem QI.upto : ∀ f : Nat, ∀ f', f' ≤ f → QI f'
  | 0, f', h => by obtain rfl : f' = 0 := (by omega); exact ⟨qasg_0, qcho_0, qtrm_0, fun _ _ _ _ _ _ _ _ _ _ _ _ _ _ _ h => by simp [pP] at h⟩
  | f + 1, f', h => by
    have ihs := QI.upto f
    by_cases e : f' ≤ f
    · exact ihs f' e
    · obtain rfl : f' = f + 1 := (by omega)
      have ih := ihs f (Nat.le_refl f)
      exact ⟨qasg_step f ih, qcho_step f ih, qtrm_step f ih, fun n hn => qlev_step f ihs n hn⟩
theorem QI.all (f : Nat) : QI f := QI.upto f f (Nat.le_refl f)

theorem RParse_spec {L : List Yd} (s : Bytes) (w : World) (hL : toksF (s.length + 1) s 0 = L) (hs : s.length ≤ 100000) : CallR Tryz.prog 11 #[S s] w fun v w' => ∃ A cap, v = .tuple ⟨[.slice A (parseV s L).1.length cap, .int .i64 (parseV s L).2.1, .int .i64 (parseV s L).2.2]⟩ ∧ Own ndE 38 w' (fun k => w.heap.size ≤ k) A cap (parseV s L).1 ∧ Chg [] w w' := by
 refine callR_of_wp (args := [_]) Tryz.func11 rfl (Nat.le_of_ble_eq_true rfl) ?_
 have HC : Chg [] w w := .refl _
 refine sr rfl <| aL rfl <| aI rfl <| aI rfl <| en <| sr rfl <| mS rfl <| Wp rfl <| st_call (ags := [_]) rfl rfl T.ent17 rfl (RTokens_spec (L := L) s _ hL (by omega)) ?_
 rintro _ w1 ⟨At, capt, rfl, hoT, c2⟩
 replace HC := HC.then c2
 refine mv (v := .tuple ⟨[_, _, _]⟩) rfl <| Wp rfl <| st_extract (vs := [_, _, _]) (v := .slice _ _ _) rfl rfl <| Wp rfl <| st_extract (vs := [_, _, _]) (v := .int _ _) rfl rfl <| Wp rfl <| st_extract (vs := [_, _, _]) (v := .int _ _) rfl rfl <| aL rfl <| aI rfl <| aI rfl <| en <| x_seq <| sr rfl <| mI rfl <| Wp rfl <| st_neq rfl rfl <| en <| x_cond rfl (fun h0 => ?_) (fun h0 => ?_)
 ·try simp only [nm, ne_eq] at h0
  have hpv : parseV s L = ([], (tokV L).2.1, (tokV L).2.2) := by unfold parseV; rw [if_pos h0]
  refine sr rfl <| mI rfl <| mI rfl <| aL rfl <| aI rfl <| aI rfl <| en <| x_ret <| then_r <| ret_tmp3 (v := .slice _ _ _) (v2 := .int _ _) (v3 := .int _ _) rfl rfl rfl rfl ?_
  rw [hpv]
  exact ⟨none, 0, rfl, Own.nil, HC⟩
 ·try simp only [nm, ne_eq] at h0
  have he0 : (tokV L).2.2 = 0 := by omega
  obtain ⟨hwf, hln⟩ := tokV_wf hL he0
  obtain ⟨r, hpr, hrl⟩ := parse_tot (tokV L).1
  refine x_skip <| then_n <| sr rfl <| mL rfl <| Wp rfl <| st_bld (ps := [(0, .tmp 19)]) (vs := [.slice _ _ _, .int _ _, .slice _ _ _, .int _ _, .int _ _, .int _ _]) T.bld57 rfl <| Wp rfl <| st_box (v := .agg ⟨[.slice _ _ _, .int _ _, .slice _ _ _, .int _ _, .int _ _, .int _ _]⟩) (vs := [_, _, _, _, _, _]) rfl rfl ?_
  intro b8 w3 e4 c5 hb6
  have ge_b8 : w.heap.size ≤ b8 := by rw [e4]; exact HC.size
  have hkb_b8 : ∀ k, k ∈ ob At → k < b8 := fun k hk => by rw [e4]; exact hoT.lt k hk
  replace HC := HC.then c5
  replace hoT := hoT.tr0 c5
  clear e4
  refine aP rfl <| en <| sr rfl <| mP rfl ?_
  have hsT : Sl tkE w3 (fun k => k < b8) At (tokV L).1 := hoT.sl.reD flat_flat hkb_b8
  have hlb := hb6.lt
  refine Wp rfl <| st_call (ags := [_]) rfl rfl T.ent18 rfl ((QI.all _).asg (fun k => b8 < k) (fun k => k < b8) _ b8 At capt (tokV L).1 (tokV L).1 [] 0 0 r ⟨(fun k hk => Nat.lt_of_lt_of_le hlb hk), Nat.lt_irrefl _, (fun k hk => ⟨Nat.lt_asymm hk, Nat.ne_of_lt hk⟩), ⟨0, none, 0, hb6, hsT, rfl, Own.nil⟩, hwf, by omega, by simp only [List.length_nil]; omega, by omega⟩ hpr) ?_
  rintro v25 w7 hP
  rcases r with ⟨e1, a1⟩ | ⟨k1, ts1, out1⟩
  ·obtain ⟨he1, ⟨k1, rfl⟩, ⟨ts1, out1, dp1, hne1, hl1, i, Ao1, capo1, hb9, hs9, hd9, ho9⟩, cP⟩ := hP
   obtain ⟨x1, tl1, rfl⟩ := List.exists_cons_of_ne_nil hne1
   replace HC : Chg [] w w7 := ((Chg.toP (M := fun k => b8 < k ∨ k = b8) HC (fun x hx => by cases hx)).trans cP (fun k hk => .inl hk)).toChg (fun k hk => .inr (by omega))
   have hDtb : ¬ (fun k => k < b8) b8 := Nat.lt_irrefl _
   have hpv : parseV s L = ([], a1, e1) := by unfold parseV; rw [if_neg (fun h => h he0), hpr]
   refine en <| x_seq <| x_seq ?_
   obtain ⟨lb12, _, vs11, hA8, hR10, hC9⟩ := hs9.at (i := i) (x := x1) (dropq_at hd9)
   obtain rfl : vs11 = tokC x1.1 x1.2 := hR10
   have hDl_lb12 := Sl.domAt hs9 (dropq_at hd9) hA8
   refine x_draw [(0, 0), (1, 0), (2, 0), (3, 0), (4, 0), (5, 0), (6, 0), (7, 0), (8, 0), (9, 0), (10, 0), (11, 0), (12, 0), (13, 0), (14, 0), (15, 0), (16, 0), (17, 0), (18, 0)] T.mixed rfl rfl rfl (fun W => W.heap[b8]? = w7.heap[b8]? ∧ W.heap[lb12]? = w7.heap[lb12]? ∧ True) ⟨rfl, rfl, trivial⟩ ?_
   have o15 := hb9
   have c14 := Chg.drew w7
   generalize World.drew w7 = w13 at c14 ⊢
   have ht_lb12 : lb12 < w13.heap.size ∧ w13.heap[lb12]? = w7.heap[lb12]? := ⟨Nat.lt_of_lt_of_le hC9.lt c14.size, c14.block lb12 hC9.lt (by simp)⟩
   replace HC := HC.then c14
   replace hb9 := hb9.tr0 c14
   replace hs9 := hs9.tr0 c14
   replace ho9 := ho9.tr0 c14
   refine sq_q rfl (fun W hT => r_move (v := .pointer _) rfl) <| sq_q rfl (fun W hT => r_nilCheck rfl) <| sq_q rfl (fun W hT => r_fieldAddr T.fld57_4 rfl) <| sq_q rfl (fun W hT => r_load1 (v := .int _ _) T.one3 rfl (Blk.cell (show Blk W b8 _ _ from hT.1.trans o15) rfl)) <| sq_q rfl (fun W hT => r_eql rfl rfl) <| sq_q rfl (fun W hT => r_move (v := .bool _) rfl) <| sq_split (d := 29) rfl (fun g16 => ?_) (fun g16 => ?_)
   ·try simp only [nm, ne_eq] at g16
    exact absurd g16 he1
   ·try simp only [nm, ne_eq] at g16
    refine sq_no rfl rfl <| sq_no rfl rfl <| sq_no rfl rfl <| sq_no rfl rfl <| sq_no rfl rfl <| sq_no rfl rfl <| sq_no rfl rfl <| sq_no rfl rfl <| sq_no rfl rfl <| sq_no rfl rfl <| sq_no rfl rfl <| sq_no rfl rfl <| sq_q rfl (fun W hT => r_pick (b := false) (v := .bool _) rfl rfl) ?_
    clear o15
    refine sq_nil <| then_n <| x_cond (t := false) rfl (fun h1 => ?_) (fun h1 => ?_)
    · exact absurd h1 (by decide)
    refine x_skip <| then_n <| x_seq <| sr rfl <| mP rfl <| nc rfl <| fa T.fld57_4 rfl <| lI T.one3 rfl (hb9.cell rfl) <| Wp rfl <| st_neq rfl rfl <| en <| x_cond rfl (fun h2 => ?_) (fun h2 => ?_)
    ·try simp only [nm, ne_eq] at h2
     refine x_seq <| x_draw [(0, 0), (1, 0), (2, 0), (3, 0), (4, 0), (5, 0), (6, 0), (7, 0), (8, 0), (9, 0), (10, 0)] T.mixed rfl rfl rfl (fun W => W.heap[b8]? = w13.heap[b8]? ∧ True) ⟨rfl, trivial⟩ ?_
     have o19 := hb9
     have c18 := Chg.drew w13
     generalize World.drew w13 = w17 at c18 ⊢
     replace HC := HC.then c18
     replace hb9 := hb9.tr0 c18
     replace hs9 := hs9.tr0 c18
     replace ho9 := ho9.tr0 c18
     refine sq_q rfl (fun W hT => r_move (v := .pointer _) rfl) <| sq_q rfl (fun W hT => r_nilCheck rfl) <| sq_q rfl (fun W hT => r_fieldAddr T.fld57_5 rfl) <| sq_q rfl (fun W hT => r_load1 (v := .int _ _) T.one3 rfl (Blk.cell (show Blk W b8 _ _ from hT.1.trans o19) rfl)) <| sq_q rfl (fun W hT => r_move (v := .pointer _) rfl) <| sq_q rfl (fun W hT => r_nilCheck rfl) <| sq_q rfl (fun W hT => r_fieldAddr T.fld57_4 rfl) <| sq_q rfl (fun W hT => r_load1 (v := .int _ _) T.one3 rfl (Blk.cell (show Blk W b8 _ _ from hT.1.trans o19) rfl)) <| sq_q rfl (fun W hT => r_assign (v := .slice _ _ _) rfl) <| sq_q rfl (fun W hT => r_assign (v := .int _ _) rfl) <| sq_q rfl (fun W hT => r_assign (v := .int _ _) rfl) ?_
     clear o19
     refine sq_nil <| then_n <| x_ret <| then_r <| ret_tmp3 (v := .slice _ _ _) (v2 := .int _ _) (v3 := .int _ _) rfl rfl rfl rfl ?_
     rw [hpv]
     exact ⟨none, 0, rfl, Own.nil, HC⟩
    ·try simp only [nm, ne_eq] at h2
     exact absurd h2 he1
  ·obtain ⟨rfl, ⟨i, Ao1, capo1, hb9, hs9, hd9, ho9⟩, hwf1, hl1, cP⟩ := hP
   obtain ⟨x1, tl1, rfl⟩ := hwf1.ne
   replace HC : Chg [] w w7 := ((Chg.toP (M := fun k => b8 < k ∨ k = b8) HC (fun x hx => by cases hx)).trans cP (fun k hk => .inl hk)).toChg (fun k hk => .inr (by omega))
   have hDtb : ¬ (fun k => k < b8) b8 := Nat.lt_irrefl _
   have hpv : parseV s L = if ¬ x1.1.1 = 0 then ([], x1.2, 101) else if 1000 < out1.length then ([], s.length, 108) else (out1, 0, 0) := by unfold parseV; rw [if_neg (fun h => h he0), hpr]; rfl
   refine en <| x_seq <| x_seq ?_
   obtain ⟨lb24, _, vs23, hA20, hR22, hC21⟩ := hs9.at (i := i) (x := x1) (dropq_at hd9)
   obtain rfl : vs23 = tokC x1.1 x1.2 := hR22
   have hDl_lb24 := Sl.domAt hs9 (dropq_at hd9) hA20
   refine x_draw [(0, 0), (1, 0), (2, 0), (3, 0), (4, 0), (5, 0), (6, 0), (7, 0), (8, 0), (9, 0), (10, 0), (11, 0), (12, 0), (13, 0), (14, 0), (15, 0), (16, 0), (17, 0), (18, 0)] T.mixed rfl rfl rfl (fun W => W.heap[b8]? = w7.heap[b8]? ∧ W.heap[lb24]? = w7.heap[lb24]? ∧ True) ⟨rfl, rfl, trivial⟩ ?_
   have o27 := hb9
   have c26 := Chg.drew w7
   generalize World.drew w7 = w25 at c26 ⊢
   have ht_lb24 : lb24 < w25.heap.size ∧ w25.heap[lb24]? = w7.heap[lb24]? := ⟨Nat.lt_of_lt_of_le hC21.lt c26.size, c26.block lb24 hC21.lt (by simp)⟩
   replace HC := HC.then c26
   replace hb9 := hb9.tr0 c26
   replace hs9 := hs9.tr0 c26
   replace ho9 := ho9.tr0 c26
   refine sq_q rfl (fun W hT => r_move (v := .pointer _) rfl) <| sq_q rfl (fun W hT => r_nilCheck rfl) <| sq_q rfl (fun W hT => r_fieldAddr T.fld57_4 rfl) <| sq_q rfl (fun W hT => r_load1 (v := .int _ _) T.one3 rfl (Blk.cell (show Blk W b8 _ _ from hT.1.trans o27) rfl)) <| sq_q rfl (fun W hT => r_eql rfl rfl) <| sq_q rfl (fun W hT => r_move (v := .bool _) rfl) <| sq_split (d := 29) rfl (fun g28 => ?_) (fun g28 => ?_)
   ·try simp only [nm, ne_eq] at g28
    refine sq_q rfl (fun W hT => r_move (v := .pointer _) rfl) <| sq_q rfl (fun W hT => r_nilCheck rfl) <| sq_q rfl (fun W hT => r_fieldAddr T.fld57_0 rfl) <| sq_q rfl (fun W hT => r_load1 (v := .slice _ _ _) T.one52 rfl (Blk.cell (show Blk W b8 _ _ from hT.1.trans o27) rfl)) <| sq_q rfl (fun W hT => r_move (v := .pointer _) rfl) <| sq_q rfl (fun W hT => r_nilCheck rfl) <| sq_q rfl (fun W hT => r_fieldAddr T.fld57_1 rfl) <| sq_q rfl (fun W hT => r_load1 (v := .int _ _) T.one3 rfl (Blk.cell (show Blk W b8 _ _ from hT.1.trans o27) rfl)) <| sq_q rfl (fun W hT => r_indexAddr T.u52 T.size60 (congrArg (fun z => Value.slice z _ _) hA20) rfl (by omega) (by (have h9 := dropq_lt hd9; omega))) <| sq_q rfl (fun W hT => r_fieldAddr T.fld60_0 rfl) <| sq_q rfl (fun W hT => r_load1 (v := .int _ _) T.one3 rfl (Cells.at (j := 0) (Cells.tr hC21 hT.2.1) rfl)) <| sq_q rfl (fun W hT => r_neq rfl rfl) <| sq_q rfl (fun W hT => r_pick (b := true) (v := .bool _) rfl rfl) ?_
    clear o27
    refine sq_nil <| then_n <| x_cond rfl (fun h1 => ?_) (fun h1 => ?_)
    ·try simp only [nm, ne_eq] at h1
     have hkk : ¬ x1.1.1 = 0 := by omega
     refine x_region rfl <| mP rfl <| Wp rfl <| st_call (ags := [_, _]) rfl rfl T.ent19 rfl (qfail_spec (Dt := fun k => k < b8) (x := x1) (tl := tl1) 101 hb9 hs9 hd9 (Nat.lt_irrefl _) (fun k hk => by have := hb9.lt; omega)) ?_
     rintro _ w29 ⟨rfl, hb8, c30⟩
     rw [if_pos rfl, if_pos rfl] at hb8
     rw [if_pos hkk] at hpv
     replace HC := HC.then1 c30 ge_b8
     refine en <| x_seq <| sr rfl <| mP rfl <| nc rfl <| fa T.fld57_4 rfl <| lI T.one3 rfl (hb8.cell rfl) <| Wp rfl <| st_neq rfl rfl <| en <| x_cond rfl (fun h2 => ?_) (fun h2 => ?_)
     ·try simp only [nm, ne_eq] at h2
      refine x_seq <| x_draw [(0, 0), (1, 0), (2, 0), (3, 0), (4, 0), (5, 0), (6, 0), (7, 0), (8, 0), (9, 0), (10, 0)] T.mixed rfl rfl rfl (fun W => W.heap[b8]? = w29.heap[b8]? ∧ True) ⟨rfl, trivial⟩ ?_
      have o33 := hb8
      have c32 := Chg.drew w29
      generalize World.drew w29 = w31 at c32 ⊢
      replace HC := HC.then c32
      replace hb8 := hb8.tr0 c32
      refine sq_q rfl (fun W hT => r_move (v := .pointer _) rfl) <| sq_q rfl (fun W hT => r_nilCheck rfl) <| sq_q rfl (fun W hT => r_fieldAddr T.fld57_5 rfl) <| sq_q rfl (fun W hT => r_load1 (v := .int _ _) T.one3 rfl (Blk.cell (show Blk W b8 _ _ from hT.1.trans o33) rfl)) <| sq_q rfl (fun W hT => r_move (v := .pointer _) rfl) <| sq_q rfl (fun W hT => r_nilCheck rfl) <| sq_q rfl (fun W hT => r_fieldAddr T.fld57_4 rfl) <| sq_q rfl (fun W hT => r_load1 (v := .int _ _) T.one3 rfl (Blk.cell (show Blk W b8 _ _ from hT.1.trans o33) rfl)) <| sq_q rfl (fun W hT => r_assign (v := .slice _ _ _) rfl) <| sq_q rfl (fun W hT => r_assign (v := .int _ _) rfl) <| sq_q rfl (fun W hT => r_assign (v := .int _ _) rfl) ?_
      clear o33
      refine sq_nil <| then_n <| x_ret <| then_r <| ret_tmp3 (v := .slice _ _ _) (v2 := .int _ _) (v3 := .int _ _) rfl rfl rfl rfl ?_
      rw [hpv]
      exact ⟨none, 0, rfl, Own.nil, HC⟩
     ·try simp only [nm, ne_eq] at h2
      exact absurd h2 (by decide)
    ·try simp only [nm, ne_eq] at h1
     rw [if_neg (by omega)] at hpv
     refine x_skip <| then_n <| x_seq <| sr rfl <| mP rfl <| nc rfl <| fa T.fld57_4 rfl <| lI T.one3 rfl (hb9.cell rfl) <| Wp rfl <| st_neq rfl rfl <| en <| x_cond rfl (fun h2 => ?_) (fun h2 => ?_)
     ·try simp only [nm, ne_eq] at h2
      first | exact absurd rfl h2 | exact absurd trivial h2
     ·try simp only [nm, ne_eq] at h2
      refine x_skip <| then_n <| x_seq <| sr rfl <| mP rfl <| nc rfl <| fa T.fld57_2 rfl <| lL T.one32 rfl (hb9.cell rfl) <| Wp rfl <| st_len (ct := #[32]) (by rw [show ((#[32] : Array TypeId)[0]?).bind Tryz.prog.underlying = some (.slice 38) from T.u32]; rfl) rfl <| Wp rfl <| st_gtr rfl rfl <| en <| x_cond rfl (fun h3 => ?_) (fun h3 => ?_)
      ·try simp only [nm, ne_eq] at h3
       rw [if_pos (by omega)] at hpv
       refine sr rfl <| mS rfl <| Wp rfl <| st_slen (ct := #[9]) T.u9 rfl <| aL rfl <| aI rfl <| aI rfl <| en <| x_ret <| then_r <| ret_tmp3 (v := .slice _ _ _) (v2 := .int _ _) (v3 := .int _ _) rfl rfl rfl rfl ?_
       rw [hpv]
       exact ⟨none, 0, rfl, Own.nil, HC⟩
      ·try simp only [nm, ne_eq] at h3
       rw [if_neg (by omega)] at hpv
       refine x_skip <| then_n <| sr rfl <| mP rfl <| nc rfl <| fa T.fld57_2 rfl <| lL T.one32 rfl (hb9.cell rfl) <| aL rfl <| aI rfl <| aI rfl <| en <| x_ret <| ret_tmp3 (v := .slice _ _ _) (v2 := .int _ _) (v3 := .int _ _) rfl rfl rfl rfl ?_
       rw [hpv]
       exact ⟨Ao1, capo1, rfl, ho9.mono (fun k _ h => by show w.heap.size ≤ k; have h2 : b8 < k := h; omega), HC⟩
   ·try simp only [nm, ne_eq] at g28
    first | exact absurd rfl g28 | exact absurd trivial g28

end Go.Proofs.YtmbbhgglllfelaaGreatDoor.K
