/- Reading expressions: the methods that call one another. -/
import Derived.Test.YtmbbhgglllfelaaGreatDoorCb
import Derived.Test.YtmbbhgglllfelaaGreatDoorKitQ
set_option linter.unusedVariables false
set_option linter.unusedSimpArgs false
set_option autoImplicit false
set_option maxRecDepth 20000
namespace Go.Proofs.YtmbbhgglllfelaaGreatDoor.K
open Go Go.Proofs Go.RowKit

/-- A method's contract. -/
def RC (fn : FuncId) (nt : NT) (args : List Value) (f : Nat) : Prop := ∀ (D Dt : Nat → Prop) (w : World) (b : Nat) (ts : List Tk) (out : List Nd) (d : Nat) (pl : Int) (r : PR), RPre D Dt w b ts out d pl → pP f nt d ts out = some r →
  CallR Tryz.prog fn ⟨.pointer (some ⟨b, 0, none⟩) :: args⟩ w (fun v w' => RPost D Dt b ts out d pl w v w' r)
theorem within_call {D Dt : Nat → Prop} {w : World} {b : Nat} {ts : List Tk} {out : List Nd} {d : Nat} {pl : Int} {kf : FuncId} {r : PR} {nt : NT} {f : Nat} (hp : RPre D Dt w b ts out d pl) (hI : RC kf nt [] f) (hent : ∀ args (w : World), (callFunc kf args).run Tryz.prog w = .ok (.enter kf args) w) (h : wI (pP f) nt d ts out = some r) :
    CallR Tryz.prog 22 #[.pointer (some ⟨b, 0, none⟩), .func (.func kf) #[.pointer (some ⟨b, 0, none⟩)] #[]] w fun v w' => RPost D Dt b ts out d pl w v w' r := by
  refine within_spec hp hent ?_
  unfold wI at h
  split at h
  · exact .inl ⟨by assumption, (Option.some.inj h).symm⟩
  · exact .inr ⟨by omega, fun W hW => hI D Dt W b ts out (d + 1) pl r hW h⟩
structure RI (f : Nat) : Prop where
  asg : RC 23 .asg [] f
  cho : RC 44 .cho [] f
  trm : RC 89 .trm [] f
  lev : ∀ n : Nat, n ≤ 10 → RC 64 (.lev n) [.int .i64 (n : Int)] f
theorem kid_one {w : World} {D : Nat → Prop} {g : Nat} {o n : Bytes} {num : Int} {ks : List Int} {T : TypeId} (hg : Blk w g (ks.flatMap fun x => [.int .i64 x]) T) (hl : ks.length ≤ 1000) (hD : D g) : ndE.R w D ⟨o, num, n, ks⟩ [S o, .int .i64 num, S n, .slice (some ⟨g, 0, none⟩) ks.length ks.length] :=
  ⟨_, _, rfl, Nat.le_refl _, by omega, (sl_lit (f := fun x => [.int .i64 x]) ks (by omega) hg).mono (fun k _ h => by subst h; exact hD)⟩
theorem kid_none {w : World} {D : Nat → Prop} {o n : Bytes} {num : Int} : ndE.R w D ⟨o, num, n, []⟩ [S o, .int .i64 num, S n, .slice none 0 0] := ⟨none, 0, rfl, Nat.le_refl _, by decide, .nil⟩

theorem asg_fields : Lib.fields [61, 32, 43, 61, 32, 45, 61, 32, 42, 61, 32, 47, 61, 32, 37, 61, 32, 60, 60, 61, 32, 62, 62, 61, 32, 38, 61, 32, 94, 61, 32, 124, 61] = asgL := by kernel_rfl

theorem assigns_spec (s : Bytes) (w : World) (ht : Tab w) : CallR Tryz.prog 43 #[S s] w fun v w' => v = .bool (decide (s ∈ asgL)) ∧ Chg [] w w' := by
 refine callR_of_wp (args := [_]) Tryz.func43 rfl (Nat.le_of_ble_eq_true rfl) ?_
 have HC : Chg [] w w := .refl _
 have ht1 := ht.lt
 refine sr rfl <| aB rfl <| en <| sr rfl <| Wp rfl <| st_call (ags := [_]) rfl rfl T.ent63 rfl (Fields_spec [61, 32, 43, 61, 32, 45, 61, 32, 42, 61, 32, 47, 61, 32, 37, 61, 32, 60, 60, 61, 32, 62, 62, 61, 32, 38, 61, 32, 94, 61, 32, 124, 61] w (by decide) (all128 _ rfl) ht) ?_
 rintro _ w1 ⟨bo, rfl, hge, hsl, c2⟩
 rw [asg_fields] at hsl ⊢
 replace HC := HC.then c2
 replace ht := ht.tr0 c2
 refine mS rfl <| Wp rfl <| st_call (ags := [_, _]) rfl rfl T.ent62 rfl (Contains_spec (l := asgL) s hsl (by decide)) ?_
 rintro _ w3 ⟨rfl, c4⟩
 replace HC := HC.then c4
 replace ht := ht.tr0 c4
 replace hsl := hsl.tr0 c4
 refine aB rfl <| en <| x_ret <| ret_tmp (v := .bool _) rfl rfl ?_
 exact ⟨rfl, HC⟩

theorem asg_step (f : Nat) (ih : RI f) : RC 23 .asg [] (f + 1) := by
 intro D Dt w b ts out d pl r hp hpr
 obtain ⟨hfr0, hDb, hDt, ⟨At, capt, Ao, capo, hb, hs, hct, ho⟩, hwf, hd, hlen, ht, hone1, hone2⟩ := hp
 obtain ⟨x, tl, rfl⟩ := hwf.ne
 have ht1 := ht.lt
 have hDtb : ¬ Dt b := fun h => (hDt b h).2 rfl
 have hDtn : ∀ k, w.heap.size ≤ k → ¬ Dt k := fun k hk h => (hDt k h).1 (hfr0 k hk)
 have hll : out.length + (tl.length + 1) ≤ 1000000000 := hlen
 refine callR_of_wp (args := [_]) Tryz.func23 rfl (Nat.le_of_ble_eq_true rfl) ?_
 have HC : ChgP (fun k => D k ∨ k = b) w w := .refl _
 refine sr rfl <| aI rfl <| en <| sr rfl <| mP rfl <| nc rfl <| fa T.fld68_0 rfl <| lL T.one52 rfl (hb.cell rfl) ?_
 obtain ⟨lb5, _, vs4, hA1, hR3, hC2⟩ := hs.at (i := 0) (x := x) (rfl)
 obtain rfl : vs4 = tokC x.1 x.2 := hR3
 refine Wp rfl <| st_indexAddr T.u52 T.size60 (congrArg (fun z => Value.slice z _ _) hA1) rfl (by decide) (by simp) <| Wp rfl <| st_loadA (vs := [_, _, _, _]) T.agg60 rfl hC2 rfl <| Wp rfl <| st_alloc T.zero60 ?_
 intro b3 w6 e7 c8 hb9
 have ge_b3 : w.heap.size ≤ b3 := by rw [e7]; exact HC.size
 have ne_b_b3 : b ≠ b3 := by rw [e7]; exact hb.ne_size
 obtain ⟨D10, sD10, nD10, mD10⟩ := dom_new D b3
 replace ho := ho.mono (D' := D10) (fun k hk hD => mD10 k hD (by omega))
 have ndD10_b : ¬ D10 b := fun h => hDb (sD10 _ h)
 have subD10 : ∀ k, D10 k → D k := fun k h => sD10 k h
 have frD10 : ∀ k, b3 + 1 ≤ k → D10 k := fun k hk => mD10 k (hfr0 k (by omega)) (by omega)
 replace HC := HC.chg0 c8
 replace hb := hb.tr0 c8
 replace hs := hs.tr0 c8
 replace ho := ho.tr0 c8
 replace ht := ht.tr0 c8
 clear e7
 refine Wp rfl <| st_store (v := .agg ⟨[.int _ _, .int _ _, S _, .int _ _]⟩) T.size60 rfl rfl rfl hb9 rfl (Nat.le_of_ble_eq_true rfl) (by simp [Value.oneCell', S]) rfl ?_
 intro w11 c12 hb13; simp only [setVs, setV] at hb13
 clear hb9
 replace HC := HC.cN c12 ge_b3
 replace hb := hb.tr1 c12 ne_b_b3
 replace hs := hs.tN c12 (fun h => (hDt _ h).1 (hfr0 _ ge_b3))
 replace ho := ho.tN c12 nD10
 replace ht := ht.tr c12 (by intro hx; have hlt := ht1; simp only [List.mem_cons, List.mem_nil_iff, or_false] at hx; first | exact hone2 hx | omega)
 refine en <| x_seq <| sr rfl <| fa T.fld60_0 rfl <| lI T.one3 rfl (hb13.cell rfl) <| Wp rfl <| st_neq rfl rfl <| mB rfl <| w_split (d := 14) rfl (fun g14 => ?_) (fun g14 => ?_)
 ·try simp only [nm, ne_eq] at g14
  iterate 8 refine w_no 3 14 false ?_
  refine pT rfl rfl <| mB rfl ?_
  iterate 9 refine w_no 13 24 false ?_
  refine pT rfl rfl <| en <| x_cond (t := true) rfl (fun h0 => ?_) (fun h0 => ?_)
  rotate_left
  · exact absurd h0 (by decide)
  have hA : ¬ isAsg (x :: tl) = true := by simp only [isAsg, hdT, List.headD_cons, List.drop_succ_cons, List.drop_zero, in_iff, Bool.and_eq_true, decide_eq_true_eq]; simp_all
  rw [pP, if_neg hA] at hpr
  refine sr rfl <| mP rfl <| mP rfl <| Wp rfl <| st_makeFunc <| Wp rfl <| st_call (ags := [_, _]) rfl rfl T.ent22 rfl (within_call ⟨(fun k hk => frD10 k (by have h1 := hb13.lt; omega)), ndD10_b, (fun k h => ⟨fun h2 => (hDt k h).1 (subD10 k (h2)), (hDt k h).2⟩), ⟨_, _, _, _, hb, hs, hct, ho⟩, hwf, hd, hlen, ht, (fun h => hone1 (subD10 0 (h))), hone2⟩ (ih.cho) T.ent44 hpr) ?_
  rintro vP w15 hP
  refine av rfl <| en <| x_ret <| then_r <| ret_tmp  rfl rfl ?_
  exact hP.lift subD10 HC
 ·try simp only [nm, ne_eq] at g14
  obtain ⟨y, tl2, rfl⟩ := (hwf.tl (by omega)).ne
  refine w_yes 3 14 false <| st_move (v := .pointer _) rfl <| w_yes 3 14 false <| st_nilCheck rfl <| w_yes 3 14 false <| st_fieldAddr T.fld68_0 rfl <| w_yes 3 14 false <| st_load1 (v := .slice _ _ _) T.one52 rfl (hb.cell rfl) ?_
  obtain ⟨lb20, _, vs19, hA16, hR18, hC17⟩ := hs.at (i := 1) (x := y) (rfl)
  obtain rfl : vs19 = tokC y.1 y.2 := hR18
  refine w_yes 3 14 false <| st_indexAddr T.u52 T.size60 (congrArg (fun z => Value.slice z _ _) hA16) rfl (by decide) (by simp only [List.length_cons]; omega) <| w_yes 3 14 false <| st_fieldAddr T.fld60_0 rfl <| w_yes 3 14 false <| st_load1 (v := .int _ _) T.one3 rfl (hC17.at (j := 0) rfl) <| w_yes 3 14 false <| st_neq rfl rfl <| pF rfl rfl <| mB rfl <| w_split (d := 24) rfl (fun g21 => ?_) (fun g21 => ?_)
  ·try simp only [nm, ne_eq] at g21
   iterate 9 refine w_no 13 24 false ?_
   refine pT rfl rfl <| en <| x_cond (t := true) rfl (fun h0 => ?_) (fun h0 => ?_)
   rotate_left
   · exact absurd h0 (by decide)
   have hA : ¬ isAsg (x :: y :: tl2) = true := by simp only [isAsg, hdT, List.headD_cons, List.drop_succ_cons, List.drop_zero, in_iff, Bool.and_eq_true, decide_eq_true_eq]; simp_all
   rw [pP, if_neg hA] at hpr
   refine sr rfl <| mP rfl <| mP rfl <| Wp rfl <| st_makeFunc <| Wp rfl <| st_call (ags := [_, _]) rfl rfl T.ent22 rfl (within_call ⟨(fun k hk => frD10 k (by have h1 := hb13.lt; omega)), ndD10_b, (fun k h => ⟨fun h2 => (hDt k h).1 (subD10 k (h2)), (hDt k h).2⟩), ⟨_, _, _, _, hb, hs, hct, ho⟩, hwf, hd, hlen, ht, (fun h => hone1 (subD10 0 (h))), hone2⟩ (ih.cho) T.ent44 hpr) ?_
   rintro vP w22 hP
   refine av rfl <| en <| x_ret <| then_r <| ret_tmp  rfl rfl ?_
   exact hP.lift subD10 HC
  ·try simp only [nm, ne_eq] at g21
   refine w_yes 13 24 false <| st_move (v := .pointer _) rfl <| w_yes 13 24 false <| st_nilCheck rfl <| w_yes 13 24 false <| st_fieldAddr T.fld68_0 rfl <| w_yes 13 24 false <| st_load1 (v := .slice _ _ _) T.one52 rfl (hb.cell rfl) ?_
   obtain ⟨lb27, _, vs26, hA23, hR25, hC24⟩ := hs.at (i := 1) (x := y) (rfl)
   obtain rfl : vs26 = tokC y.1 y.2 := hR25
   refine w_yes 13 24 false <| st_indexAddr T.u52 T.size60 (congrArg (fun z => Value.slice z _ _) hA23) rfl (by decide) (by simp only [List.length_cons]; omega) <| w_yes 13 24 false <| st_fieldAddr T.fld60_2 rfl <| w_yes 13 24 false <| st_load1 (v := S _) T.one9 rfl (hC24.at (j := 2) rfl) <| w_yes 13 24 false <| st_call (ags := [_]) rfl rfl T.ent43 rfl (assigns_spec _ _ ht) ?_
   rintro _ w28 ⟨rfl, c29⟩
   replace HC := HC.chg0 c29
   replace hb := hb.tr0 c29
   replace hs := hs.tr0 c29
   replace ho := ho.tr0 c29
   replace ht := ht.tr0 c29
   replace hb13 := hb13.tr0 c29
   refine w_yes 13 24 false <| st_not rfl <| pF rfl rfl <| en <| x_cond rfl (fun h0 => ?_) (fun h0 => ?_)
   ·try simp only [nm, ne_eq] at h0
    have hA : ¬ isAsg (x :: y :: tl2) = true := by simp only [isAsg, hdT, List.headD_cons, List.drop_succ_cons, List.drop_zero, in_iff, Bool.and_eq_true, decide_eq_true_eq]; simp_all
    rw [pP, if_neg hA] at hpr
    refine sr rfl <| mP rfl <| mP rfl <| Wp rfl <| st_makeFunc <| Wp rfl <| st_call (ags := [_, _]) rfl rfl T.ent22 rfl (within_call ⟨(fun k hk => frD10 k (by have h1 := hb13.lt; omega)), ndD10_b, (fun k h => ⟨fun h2 => (hDt k h).1 (subD10 k (h2)), (hDt k h).2⟩), ⟨_, _, _, _, hb, hs, hct, ho⟩, hwf, hd, hlen, ht, (fun h => hone1 (subD10 0 (h))), hone2⟩ (ih.cho) T.ent44 hpr) ?_
    rintro vP w30 hP
    refine av rfl <| en <| x_ret <| then_r <| ret_tmp  rfl rfl ?_
    exact hP.lift subD10 HC
   ·try simp only [nm, ne_eq] at h0
    have hA : isAsg (x :: y :: tl2) = true := by simp only [isAsg, hdT, List.headD_cons, List.drop_succ_cons, List.drop_zero, in_iff, Bool.and_eq_true, decide_eq_true_eq]; simp_all
    rw [pP, if_pos hA] at hpr
    simp only [List.drop_succ_cons, List.drop_zero] at hpr
    have hwf2 : WfT tl2 := (hwf.tl (by omega)).tl (by omega)
    have hll2 : out.length + (tl2.length + 1 + 1) ≤ 1000000000 := hlen
    refine x_skip <| then_n <| sr rfl <| mP rfl <| nc rfl <| fa T.fld68_0 rfl <| lL T.one52 rfl (hb.cell rfl) ?_
    obtain ⟨lb35, _, vs34, hA31, hR33, hC32⟩ := hs.at (i := 1) (x := y) (rfl)
    obtain rfl : vs34 = tokC y.1 y.2 := hR33
    refine Wp rfl <| st_indexAddr T.u52 T.size60 (congrArg (fun z => Value.slice z _ _) hA31) rfl (by decide) (by simp only [List.length_cons]; omega) <| fa T.fld60_2 rfl <| lS T.one9 rfl (hC32.at (j := 2) rfl) <| aS rfl <| en <| sr rfl <| mP rfl <| Wp rfl <| st_call (ags := [_, _]) rfl rfl T.ent45 rfl (skip_spec (ts := x :: y :: tl2) 2 (by simp) hb hs hct hDtb) ?_
    rintro _ w36 ⟨rfl, ⟨At2, capt2, hb2, hs2, hct2⟩, c37⟩
    simp only [List.drop_succ_cons, List.drop_zero] at hb2
    replace hs2 : Sl tkE _ Dt At2 (tl2) := hs2
    replace hct2 : (tl2).length ≤ capt2 := hct2
    replace HC := HC.cB c37
    replace ho := ho.tN c37 ndD10_b
    replace ht := ht.tr c37 (by intro hx; have hlt := ht1; simp only [List.mem_cons, List.mem_nil_iff, or_false] at hx; first | exact hone2 hx | omega)
    replace hb13 := hb13.tr1 c37 (Ne.symm ne_b_b3)
    refine en <| x_seq <| x_draw [(0, 0), (1, 0), (2, 0), (3, 0), (4, 0), (5, 0), (6, 0), (7, 1), (8, 1), (9, 0), (10, 1), (11, 0)] T.mixed rfl rfl rfl (fun W => W.heap[b3]? = w36.heap[b3]? ∧ True) ⟨rfl, trivial⟩ ?_
    have o40 := hb13
    have c39 := Chg.drew w36
    generalize World.drew w36 = w38 at c39 ⊢
    replace HC := HC.chg0 c39
    replace ho := ho.tr0 c39
    replace ht := ht.tr0 c39
    replace hb13 := hb13.tr0 c39
    replace hb2 := hb2.tr0 c39
    replace hs2 := hs2.tr0 c39
    refine sq_q rfl (fun W hT => r_move (v := .pointer _) rfl) <| sq_q rfl (fun W hT => r_move (v := S _) rfl) <| sq_q rfl (fun W hT => r_fieldAddr T.fld60_2 rfl) <| sq_q rfl (fun W hT => r_load1 (v := S _) T.one9 rfl (Blk.cell (show Blk W b3 _ _ from hT.1.trans o40) rfl)) <| sq_q rfl (fun W hT => r_move (v := .pointer _) rfl) <| sq_q rfl (fun W hT => r_move (v := .pointer _) rfl) <| sq_q rfl (fun W hT => r_makeFunc) ?_
    obtain ⟨ri1, hw1, hr1⟩ := bind_some (hpr)
    refine sq_call1 rfl (r_call (ags := [_, _]) rfl rfl T.ent22 rfl) (within_call ⟨(fun k hk => frD10 k (by have h1 := hb13.lt; omega)), ndD10_b, (fun k h => ⟨fun h2 => (hDt k h).1 (subD10 k (h2)), (hDt k h).2⟩), ⟨_, _, _, _, hb2, hs2, hct2, ho⟩, hwf2, hd, (by omega), ht, (fun h => hone1 (subD10 0 (h))), hone2⟩ (ih.asg) T.ent23 hw1) ?_
    rintro v1 w41 hP
    rcases ri1 with ⟨e1, a1⟩ | ⟨k1, ts1, out1⟩
    ·obtain ⟨he1, ⟨k1, rfl⟩, ⟨ts1, out1, hne1, hl1, At1, capt1, Ao1, capo1, hb1v, hs1v, hct1v, ho1v⟩, cP1⟩ := hP
     replace HC := HC.trans cP1 (fun k h => .inl (h.imp (subD10 k) id))
     replace ht := ht.trP cP1 (fun h => h.elim (fun h => hone1 (subD10 0 h)) hone2)
     replace hb13 := hb13.trP cP1 (fun h => h.elim nD10 (Ne.symm ne_b_b3))
     obtain rfl := hr1
     refine ⟨_, fun _ h => h, ⟨(Eq.trans hb13 o40.symm), trivial⟩, ?_⟩
     refine sq_lit1 (ps := [(0, .tmp 55)]) (vs := [.int _ _]) rfl T.lit36 (by decide) rfl (by simp only [List.forall_mem_cons, List.not_mem_nil, false_imp_iff, implies_true, and_true]; exact rfl) rfl ?_
     intro b42 w43 e44 c45 hb46
     have ge_b42 : w.heap.size ≤ b42 := by rw [e44]; exact HC.size
     have ne_b3_b42 : b3 ≠ b42 := by rw [e44]; exact hb13.ne_size
     have ne_b_b42 : b ≠ b42 := by rw [e44]; exact hb1v.ne_size
     have geF_b42 : b3 + 1 ≤ b42 := by rw [e44]; exact hb13.lt
     have nal_b42 : b42 ∉ ob Ao1 := ho1v.fresh (by rw [e44]; exact Nat.le_refl _)
     replace HC := HC.chg0 c45
     replace ht := ht.tr0 c45
     replace hb13 := hb13.tr0 c45
     replace hb1v := hb1v.tr0 c45
     replace hs1v := hs1v.tr0 c45
     replace ho1v := ho1v.tr0 c45
     clear e44
     refine ext_T (b := b42) ⟨(Eq.trans hb13 o40.symm), trivial⟩ ?_
     have o47 := hb46
     refine sq_q rfl (fun W hT => r_bld (ps := [(0, .tmp 49), (2, .tmp 51), (3, .tmp 56)]) (vs := [S _, .int _ _, S _, .slice _ _ _]) T.bld38 rfl) ?_
     have nak_b42 : b42 ∉ ob Ao1 := nal_b42
     refine sq_call1 rfl (r_call (ags := [_, _]) rfl rfl T.ent46 rfl) (put_spec (D := D10) (x := ⟨y.1.2.2, 0, x.1.2.2, [k1]⟩) (fun k hk => frD10 k (by have h1 := hb13.lt; omega)) ndD10_b hb1v ho1v (kid_one (ks := [k1]) (show Blk _ _ (([k1] : List Int).flatMap fun x => [.int .i64 x]) _ from hb46) (by simp) ⟨frD10 _ geF_b42, nak_b42⟩) (by omega)) ?_
     rintro _ w48 ⟨rfl, ⟨Aop49, capop49, hbp49, hop49⟩, c49⟩
     replace HC := HC.chg c49 (fun k hk => .inl ((List.mem_cons.1 hk).elim .inr (fun h => .inl (subD10 k (ho1v.inD k h)))))
     replace ht := ht.tr c49 (fun hx => (List.mem_cons.1 hx).elim hone2 (fun h => hone1 (subD10 0 (ho1v.inD 0 h))))
     replace hb13 := hb13.tr c49 (fun hx => (List.mem_cons.1 hx).elim (fun h => absurd h.symm ne_b_b3) (fun h => nD10 (ho1v.inD _ h)))
     replace hs1v := hs1v.tr c49 (fun k hk hD => (List.mem_cons.1 hk).elim (hDt k hD).2 (fun h => (hDt k hD).1 (subD10 k (ho1v.inD k h))))
     replace hb46 := hb46.tr c49 (fun hx => (List.mem_cons.1 hx).elim (fun h => absurd h.symm ne_b_b42) (nak_b42))
     refine ⟨_, fun _ h => h, ⟨(Eq.trans hb46 o47.symm), ⟨(Eq.trans hb13 o40.symm), trivial⟩⟩, ?_⟩
     refine sq_q rfl (fun W hT => r_assign (v := .int _ _) rfl) ?_
     clear o40
     clear o47
     refine sq_nil <| then_n <| x_ret <| ret_tmp (v := .int _ _) rfl rfl ?_
     exact ⟨he1, ⟨_, rfl⟩, ⟨_, _, hne1, (by simp only [List.length_append, List.length_cons, List.length_nil, List.drop_succ_cons, List.drop_zero] at *; omega), ⟨_, _, _, _, hbp49, hs1v, hct1v, (hop49.mono (fun k _ h => subD10 k h))⟩⟩, HC⟩
    ·obtain ⟨rfl, ⟨At1, capt1, Ao1, capo1, hb1v, hs1v, hct1v, ho1v⟩, hwf1, ⟨hm1, hl1⟩, cP1⟩ := hP
     replace HC := HC.trans cP1 (fun k h => .inl (h.imp (subD10 k) id))
     replace ht := ht.trP cP1 (fun h => h.elim (fun h => hone1 (subD10 0 h)) hone2)
     replace hb13 := hb13.trP cP1 (fun h => h.elim nD10 (Ne.symm ne_b_b3))
     have hg1 := hr1
     dsimp only at hg1
     obtain rfl := (Option.some.inj hr1).symm
     refine ⟨_, fun _ h => h, ⟨(Eq.trans hb13 o40.symm), trivial⟩, ?_⟩
     refine sq_lit1 (ps := [(0, .tmp 55)]) (vs := [.int _ _]) rfl T.lit36 (by decide) rfl (by simp only [List.forall_mem_cons, List.not_mem_nil, false_imp_iff, implies_true, and_true]; exact rfl) rfl ?_
     intro b50 w51 e52 c53 hb54
     have ge_b50 : w.heap.size ≤ b50 := by rw [e52]; exact HC.size
     have ne_b3_b50 : b3 ≠ b50 := by rw [e52]; exact hb13.ne_size
     have ne_b_b50 : b ≠ b50 := by rw [e52]; exact hb1v.ne_size
     have geF_b50 : b3 + 1 ≤ b50 := by rw [e52]; exact hb13.lt
     have nal_b50 : b50 ∉ ob Ao1 := ho1v.fresh (by rw [e52]; exact Nat.le_refl _)
     replace HC := HC.chg0 c53
     replace ht := ht.tr0 c53
     replace hb13 := hb13.tr0 c53
     replace hb1v := hb1v.tr0 c53
     replace hs1v := hs1v.tr0 c53
     replace ho1v := ho1v.tr0 c53
     clear e52
     refine ext_T (b := b50) ⟨(Eq.trans hb13 o40.symm), trivial⟩ ?_
     have o55 := hb54
     refine sq_q rfl (fun W hT => r_bld (ps := [(0, .tmp 49), (2, .tmp 51), (3, .tmp 56)]) (vs := [S _, .int _ _, S _, .slice _ _ _]) T.bld38 rfl) ?_
     have nak_b50 : b50 ∉ ob Ao1 := nal_b50
     refine sq_call1 rfl (r_call (ags := [_, _]) rfl rfl T.ent46 rfl) (put_spec (D := D10) (x := ⟨y.1.2.2, 0, x.1.2.2, [k1]⟩) (fun k hk => frD10 k (by have h1 := hb13.lt; omega)) ndD10_b hb1v ho1v (kid_one (ks := [k1]) (show Blk _ _ (([k1] : List Int).flatMap fun x => [.int .i64 x]) _ from hb54) (by simp) ⟨frD10 _ geF_b50, nak_b50⟩) (by omega)) ?_
     rintro _ w56 ⟨rfl, ⟨Aop57, capop57, hbp57, hop57⟩, c57⟩
     replace HC := HC.chg c57 (fun k hk => .inl ((List.mem_cons.1 hk).elim .inr (fun h => .inl (subD10 k (ho1v.inD k h)))))
     replace ht := ht.tr c57 (fun hx => (List.mem_cons.1 hx).elim hone2 (fun h => hone1 (subD10 0 (ho1v.inD 0 h))))
     replace hb13 := hb13.tr c57 (fun hx => (List.mem_cons.1 hx).elim (fun h => absurd h.symm ne_b_b3) (fun h => nD10 (ho1v.inD _ h)))
     replace hs1v := hs1v.tr c57 (fun k hk hD => (List.mem_cons.1 hk).elim (hDt k hD).2 (fun h => (hDt k hD).1 (subD10 k (ho1v.inD k h))))
     replace hb54 := hb54.tr c57 (fun hx => (List.mem_cons.1 hx).elim (fun h => absurd h.symm ne_b_b50) (nak_b50))
     refine ⟨_, fun _ h => h, ⟨(Eq.trans hb54 o55.symm), ⟨(Eq.trans hb13 o40.symm), trivial⟩⟩, ?_⟩
     refine sq_q rfl (fun W hT => r_assign (v := .int _ _) rfl) ?_
     clear o40
     clear o55
     refine sq_nil <| then_n <| x_ret <| ret_tmp (v := .int _ _) rfl rfl ?_
     exact ⟨rfl, ⟨_, _, _, _, hbp57, hs1v, hct1v, (hop57.mono (fun k _ h => subD10 k h))⟩, hwf1, ⟨by simp only [List.length_append, List.length_cons, List.length_nil, List.drop_succ_cons, List.drop_zero] at *; omega, by simp only [List.length_append, List.length_cons, List.length_nil, List.drop_succ_cons, List.drop_zero] at *; omega⟩, HC⟩

theorem cho_step (f : Nat) (ih : RI f) : RC 44 .cho [] (f + 1) := by
 intro D Dt w b ts out d pl r hp hpr
 obtain ⟨hfr0, hDb, hDt, ⟨At, capt, Ao, capo, hb, hs, hct, ho⟩, hwf, hd, hlen, ht, hone1, hone2⟩ := hp
 obtain ⟨x, tl, rfl⟩ := hwf.ne
 have ht1 := ht.lt
 have hDtb : ¬ Dt b := fun h => (hDt b h).2 rfl
 have hDtn : ∀ k, w.heap.size ≤ k → ¬ Dt k := fun k hk h => (hDt k h).1 (hfr0 k hk)
 have hll : out.length + (tl.length + 1) ≤ 1000000000 := hlen
 rw [pP] at hpr
 refine callR_of_wp (args := [_]) Tryz.func44 rfl (Nat.le_of_ble_eq_true rfl) ?_
 have HC : ChgP (fun k => D k ∨ k = b) w w := .refl _
 refine sr rfl <| aI rfl <| en <| sr rfl <| mP rfl ?_
 obtain ⟨ri1, hw1, hr1⟩ := bind_some (hpr)
 refine Wp rfl <| st_call (ags := [_, _]) rfl rfl T.ent64 rfl (ih.lev 0 (by omega) _ _ _ _ _ _ _ _ _ ⟨(fun k hk => hfr0 k (Nat.le_trans HC.size hk)), hDb, (fun k h => ⟨fun h2 => (hDt k h).1 (h2), (hDt k h).2⟩), ⟨_, _, _, _, hb, hs, hct, ho⟩, hwf, hd, hlen, ht, (fun h => hone1 (h)), hone2⟩ hw1) ?_
 rintro v1 w1 hP
 rcases ri1 with ⟨e1, a1⟩ | ⟨k1, ts1, out1⟩
 ·obtain ⟨he1, ⟨k1, rfl⟩, ⟨ts1, out1, hne1, hl1, At1, capt1, Ao1, capo1, hb1v, hs1v, hct1v, ho1v⟩, cP1⟩ := hP
  replace HC := HC.trans cP1 (fun k h => .inl (h))
  replace ht := ht.trP cP1 (fun h => h.elim (fun h => hone1 ((fun _ h => h) 0 h)) hone2)
  obtain ⟨x1, tl1, rfl⟩ := List.exists_cons_of_ne_nil hne1
  have hq1 := hl1
  simp only [List.length_cons] at hq1
  obtain rfl := hr1
  refine aI rfl <| en <| x_seq <| sr rfl <| mP rfl <| Wp rfl <| st_lit (ps := [(0, .const (S [63]))]) (vs := [S _]) T.lit62 (by decide) rfl (by simp only [List.forall_mem_cons, List.not_mem_nil, false_imp_iff, implies_true, and_true]; exact rfl) rfl ?_
  intro b2 w3 e4 c5 hb6
  have ge_b2 : w.heap.size ≤ b2 := by rw [e4]; exact HC.size
  have ne_b_b2 : b ≠ b2 := by rw [e4]; exact hb1v.ne_size
  have nal_b2 : b2 ∉ ob Ao1 := ho1v.fresh (by rw [e4]; exact Nat.le_refl _)
  replace HC := HC.chg0 c5
  replace ht := ht.tr0 c5
  replace hb1v := hb1v.tr0 c5
  replace hs1v := hs1v.tr0 c5
  replace ho1v := ho1v.tr0 c5
  clear e4
  refine Wp rfl <| st_call (ags := [_, _]) rfl rfl T.ent65 rfl (take_spec (x := x1) (tl := tl1) (l := [[63]]) hb1v hs1v hDtb (fun k hk => hDtn k (Nat.le_trans HC.size hk)) hct1v (sl_of_map (xs := [[63]]) (T := 9) hb6) (by first | decide | (simp; done) | exact lv_len _)) ?_
  rintro _ w7 ⟨(⟨hC8, rfl, At8, capt8, hb8, hs8, hct8⟩ | ⟨hC8, rfl, hb8, hs8⟩), c8⟩
  ·replace HC := HC.cB c8
   replace ht := ht.tr c8 (by intro hx; have hlt := ht1; simp only [List.mem_cons, List.mem_nil_iff, or_false] at hx; first | exact hone2 hx | omega)
   replace ho1v := ho1v.tN c8 hDb
   replace hb6 := hb6.tr1 c8 (Ne.symm ne_b_b2)
   exact absurd hC8.1 he1
  ·replace HC := HC.cB c8
   replace ht := ht.tr c8 (by intro hx; have hlt := ht1; simp only [List.mem_cons, List.mem_nil_iff, or_false] at hx; first | exact hone2 hx | omega)
   replace ho1v := ho1v.tN c8 hDb
   replace hb6 := hb6.tr1 c8 (Ne.symm ne_b_b2)
   refine mv (v := .tuple ⟨[_, _]⟩) rfl <| Wp rfl <| st_extract (vs := [_, _]) (v := S _) rfl rfl <| Wp rfl <| st_extract (vs := [_, _]) (v := .bool _) rfl rfl <| aS rfl <| aB rfl <| en <| sr rfl <| mB rfl <| Wp rfl <| st_not rfl <| en <| x_cond rfl (fun h0 => ?_) (fun h0 => ?_)
   ·try simp only [nm, ne_eq] at h0
    refine sr rfl <| mI rfl <| aI rfl <| en <| x_ret <| then_r <| ret_tmp (v := .int _ _) rfl rfl ?_
    exact ⟨he1, ⟨_, rfl⟩, ⟨_, _, (by simp), (by simp only [List.length_append, List.length_cons, List.length_nil, List.drop_succ_cons, List.drop_zero] at *; omega), ⟨_, _, _, _, hb8, hs8, hct1v, ho1v⟩⟩, HC⟩
   ·try simp only [nm, ne_eq] at h0
    cases h0
 ·obtain ⟨rfl, ⟨At1, capt1, Ao1, capo1, hb1v, hs1v, hct1v, ho1v⟩, hwf1, ⟨hm1, hl1⟩, cP1⟩ := hP
  replace HC := HC.trans cP1 (fun k h => .inl (h))
  replace ht := ht.trP cP1 (fun h => h.elim (fun h => hone1 ((fun _ h => h) 0 h)) hone2)
  have hg1 := hr1
  dsimp only at hg1
  obtain ⟨x1, tl1, rfl⟩ := hwf1.ne
  have hq1 := hl1
  simp only [List.length_cons] at hq1
  have hqm1 := hm1
  simp only [List.length_cons] at hqm1
  refine aI rfl <| en <| x_seq <| sr rfl <| mP rfl <| Wp rfl <| st_lit (ps := [(0, .const (S [63]))]) (vs := [S _]) T.lit62 (by decide) rfl (by simp only [List.forall_mem_cons, List.not_mem_nil, false_imp_iff, implies_true, and_true]; exact rfl) rfl ?_
  intro b9 w10 e11 c12 hb13
  have ge_b9 : w.heap.size ≤ b9 := by rw [e11]; exact HC.size
  have ne_b_b9 : b ≠ b9 := by rw [e11]; exact hb1v.ne_size
  have nal_b9 : b9 ∉ ob Ao1 := ho1v.fresh (by rw [e11]; exact Nat.le_refl _)
  replace HC := HC.chg0 c12
  replace ht := ht.tr0 c12
  replace hb1v := hb1v.tr0 c12
  replace hs1v := hs1v.tr0 c12
  replace ho1v := ho1v.tr0 c12
  clear e11
  refine Wp rfl <| st_call (ags := [_, _]) rfl rfl T.ent65 rfl (take_spec (x := x1) (tl := tl1) (l := [[63]]) hb1v hs1v hDtb (fun k hk => hDtn k (Nat.le_trans HC.size hk)) hct1v (sl_of_map (xs := [[63]]) (T := 9) hb13) (by first | decide | (simp; done) | exact lv_len _)) ?_
  rintro _ w14 ⟨(⟨hC15, rfl, At15, capt15, hb15, hs15, hct15⟩ | ⟨hC15, rfl, hb15, hs15⟩), c15⟩
  ·replace HC := HC.cB c15
   replace ht := ht.tr c15 (by intro hx; have hlt := ht1; simp only [List.mem_cons, List.mem_nil_iff, or_false] at hx; first | exact hone2 hx | omega)
   replace ho1v := ho1v.tN c15 hDb
   replace hb13 := hb13.tr1 c15 (Ne.symm ne_b_b9)
   rw [if_pos (in_iff.2 hC15.2)] at hg1
   simp only [List.drop_succ_cons, List.drop_zero] at hg1
   have hwft1 : WfT tl1 := hwf1.tl (by have := hC15.2.1; omega)
   refine mv (v := .tuple ⟨[_, _]⟩) rfl <| Wp rfl <| st_extract (vs := [_, _]) (v := S _) rfl rfl <| Wp rfl <| st_extract (vs := [_, _]) (v := .bool _) rfl rfl <| aS rfl <| aB rfl <| en <| sr rfl <| mB rfl <| Wp rfl <| st_not rfl <| en <| x_cond rfl (fun h0 => ?_) (fun h0 => ?_)
   ·try simp only [nm, ne_eq] at h0
    cases h0
   ·try simp only [nm, ne_eq] at h0
    refine x_skip <| then_n <| sr rfl <| mP rfl <| mP rfl <| Wp rfl <| st_makeFunc ?_
    obtain ⟨ri2, hw2, hr2⟩ := bind_some (hg1)
    refine Wp rfl <| st_call (ags := [_, _]) rfl rfl T.ent22 rfl (within_call ⟨(fun k hk => hfr0 k (Nat.le_trans HC.size hk)), hDb, (fun k h => ⟨fun h2 => (hDt k h).1 (h2), (hDt k h).2⟩), ⟨_, _, _, _, hb15, hs15, hct15, ho1v⟩, hwft1, hd, (by omega), ht, (fun h => hone1 (h)), hone2⟩ (ih.asg) T.ent23 hw2) ?_
    rintro v2 w16 hP
    rcases ri2 with ⟨e2, a2⟩ | ⟨k2, ts2, out2⟩
    ·obtain ⟨he2, ⟨k2, rfl⟩, ⟨ts2, out2, hne2, hl2, At2, capt2, Ao2, capo2, hb2v, hs2v, hct2v, ho2v⟩, cP2⟩ := hP
     replace HC := HC.trans cP2 (fun k h => .inl (h))
     replace ht := ht.trP cP2 (fun h => h.elim (fun h => hone1 ((fun _ h => h) 0 h)) hone2)
     obtain ⟨x2, tl2, rfl⟩ := List.exists_cons_of_ne_nil hne2
     have hq2 := hl2
     simp only [List.length_cons] at hq2
     obtain rfl := hr2
     refine aI rfl <| en <| sr rfl <| mP rfl <| Wp rfl <| st_call (ags := [_, _]) rfl rfl T.ent66 rfl (want_spec (x := x2) (tl := tl2) [58] hb2v hs2v hDtb (fun k hk => hDtn k (Nat.le_trans HC.size hk)) hct2v) ?_
     rintro _ w17 ⟨rfl, (⟨hCw18, Aw18, cw18, hbw18, hsw18, hctw18⟩ | ⟨hCw18, hbw18, hsw18⟩), c18⟩
     ·exact absurd hCw18.1 he2
     ·replace HC := HC.cB c18
      replace ht := ht.tr c18 (by intro hx; have hlt := ht1; simp only [List.mem_cons, List.mem_nil_iff, or_false] at hx; first | exact hone2 hx | omega)
      replace ho2v := ho2v.tN c18 hDb
      rw [if_neg he2, if_neg he2] at hbw18
      refine en <| sr rfl <| mP rfl <| mI rfl <| mI rfl <| mP rfl <| mP rfl <| Wp rfl <| st_makeFunc <| Wp rfl <| st_call (ags := [_, _]) rfl rfl T.ent22 rfl (within_bad (x := x2) (tl := tl2) he2 (by omega) (by omega) hbw18 hsw18 hDtb (fun k hk => hDtn k (Nat.le_trans HC.size hk))) ?_
      rintro _ w19 ⟨rfl, hbi20, c20⟩
      replace HC := HC.cB c20
      replace ht := ht.tr c20 (by intro hx; have hlt := ht1; simp only [List.mem_cons, List.mem_nil_iff, or_false] at hx; first | exact hone2 hx | omega)
      replace ho2v := ho2v.tN c20 hDb
      replace hsw18 := hsw18.tN c20 (fun h => (hDt _ h).2 rfl)
      refine Wp rfl <| st_lit (ps := [(0, .tmp 25), (1, .tmp 26), (2, .tmp 30)]) (vs := [.int _ _, .int _ _, .int _ _]) T.lit36 (by decide) rfl (by simp only [List.forall_mem_cons, List.not_mem_nil, false_imp_iff, implies_true, and_true]; exact ⟨rfl, rfl, rfl⟩) rfl ?_
      intro b21 w22 e23 c24 hb25
      have ge_b21 : w.heap.size ≤ b21 := by rw [e23]; exact HC.size
      have ne_b_b21 : b ≠ b21 := by rw [e23]; exact hbi20.ne_size
      have nal_b21 : b21 ∉ ob Ao2 := ho2v.fresh (by rw [e23]; exact Nat.le_refl _)
      replace HC := HC.chg0 c24
      replace ht := ht.tr0 c24
      replace ho2v := ho2v.tr0 c24
      replace hsw18 := hsw18.tr0 c24
      replace hbi20 := hbi20.tr0 c24
      clear e23
      refine Wp rfl <| st_bld (ps := [(0, .const (S [63])), (3, .tmp 31)]) (vs := [S _, .int _ _, S _, .slice _ _ _]) T.bld38 rfl ?_
      have nak_b21 : b21 ∉ ob Ao2 := nal_b21
      refine Wp rfl <| st_call (ags := [_, _]) rfl rfl T.ent46 rfl (put_spec (D := D) (x := ⟨[63], 0, [], [k1, k2, 0]⟩) (fun k hk => hfr0 k (by have h1 := HC.size; omega)) hDb hbi20 ho2v (kid_one (ks := [k1, k2, 0]) (show Blk _ _ (([k1, k2, 0] : List Int).flatMap fun x => [.int .i64 x]) _ from hb25) (by simp) ⟨hfr0 _ (by have h1 := ge_b21; omega), nak_b21⟩) (by omega)) ?_
      rintro _ w26 ⟨rfl, ⟨Aop27, capop27, hbp27, hop27⟩, c27⟩
      replace HC := HC.chg c27 (fun k hk => .inl ((List.mem_cons.1 hk).elim .inr (fun h => .inl (ho2v.inD k h))))
      replace ht := ht.tr c27 (fun hx => (List.mem_cons.1 hx).elim hone2 (fun h => hone1 ((fun _ h => h) 0 (ho2v.inD 0 h))))
      replace hsw18 := hsw18.tr c27 (fun k hk hD => (List.mem_cons.1 hk).elim (hDt k hD).2 (fun h => (hDt k hD).1 (ho2v.inD k h)))
      refine aI rfl <| en <| x_ret <| ret_tmp (v := .int _ _) rfl rfl ?_
      exact ⟨he2, ⟨_, rfl⟩, ⟨_, _, (by simp), (by simp only [List.length_append, List.length_cons, List.length_nil, List.drop_succ_cons, List.drop_zero] at *; omega), ⟨_, _, _, _, hbp27, hsw18, hct2v, hop27⟩⟩, HC⟩
    ·obtain ⟨rfl, ⟨At2, capt2, Ao2, capo2, hb2v, hs2v, hct2v, ho2v⟩, hwf2, ⟨hm2, hl2⟩, cP2⟩ := hP
     replace HC := HC.trans cP2 (fun k h => .inl (h))
     replace ht := ht.trP cP2 (fun h => h.elim (fun h => hone1 ((fun _ h => h) 0 h)) hone2)
     have hg2 := hr2
     dsimp only at hg2
     obtain ⟨x2, tl2, rfl⟩ := hwf2.ne
     have hq2 := hl2
     simp only [List.length_cons] at hq2
     have hqm2 := hm2
     simp only [List.length_cons] at hqm2
     refine aI rfl <| en <| sr rfl <| mP rfl <| Wp rfl <| st_call (ags := [_, _]) rfl rfl T.ent66 rfl (want_spec (x := x2) (tl := tl2) [58] hb2v hs2v hDtb (fun k hk => hDtn k (Nat.le_trans HC.size hk)) hct2v) ?_
     rintro _ w28 ⟨rfl, (⟨hCw29, Aw29, cw29, hbw29, hsw29, hctw29⟩ | ⟨hCw29, hbw29, hsw29⟩), c29⟩
     ·replace HC := HC.cB c29
      replace ht := ht.tr c29 (by intro hx; have hlt := ht1; simp only [List.mem_cons, List.mem_nil_iff, or_false] at hx; first | exact hone2 hx | omega)
      replace ho2v := ho2v.tN c29 hDb
      rw [if_pos (in_iff.2 hCw29.2)] at hg2
      simp only [List.drop_succ_cons, List.drop_zero] at hg2
      have hwft2 : WfT tl2 := hwf2.tl (by have := hCw29.2.1; omega)
      refine en <| sr rfl <| mP rfl <| mI rfl <| mI rfl <| mP rfl <| mP rfl <| Wp rfl <| st_makeFunc ?_
      obtain ⟨ri3, hw3, hr3⟩ := bind_some (hg2)
      refine Wp rfl <| st_call (ags := [_, _]) rfl rfl T.ent22 rfl (within_call ⟨(fun k hk => hfr0 k (Nat.le_trans HC.size hk)), hDb, (fun k h => ⟨fun h2 => (hDt k h).1 (h2), (hDt k h).2⟩), ⟨_, _, _, _, hbw29, hsw29, hctw29, ho2v⟩, hwft2, hd, (by omega), ht, (fun h => hone1 (h)), hone2⟩ (ih.cho) T.ent44 hw3) ?_
      rintro v3 w30 hP
      rcases ri3 with ⟨e3, a3⟩ | ⟨k3, ts3, out3⟩
      ·obtain ⟨he3, ⟨k3, rfl⟩, ⟨ts3, out3, hne3, hl3, At3, capt3, Ao3, capo3, hb3v, hs3v, hct3v, ho3v⟩, cP3⟩ := hP
       replace HC := HC.trans cP3 (fun k h => .inl (h))
       replace ht := ht.trP cP3 (fun h => h.elim (fun h => hone1 ((fun _ h => h) 0 h)) hone2)
       obtain ⟨x3, tl3, rfl⟩ := List.exists_cons_of_ne_nil hne3
       have hq3 := hl3
       simp only [List.length_cons] at hq3
       obtain rfl := hr3
       refine Wp rfl <| st_lit (ps := [(0, .tmp 25), (1, .tmp 26), (2, .tmp 30)]) (vs := [.int _ _, .int _ _, .int _ _]) T.lit36 (by decide) rfl (by simp only [List.forall_mem_cons, List.not_mem_nil, false_imp_iff, implies_true, and_true]; exact ⟨rfl, rfl, rfl⟩) rfl ?_
       intro b31 w32 e33 c34 hb35
       have ge_b31 : w.heap.size ≤ b31 := by rw [e33]; exact HC.size
       have ne_b_b31 : b ≠ b31 := by rw [e33]; exact hb3v.ne_size
       have nal_b31 : b31 ∉ ob Ao3 := ho3v.fresh (by rw [e33]; exact Nat.le_refl _)
       replace HC := HC.chg0 c34
       replace ht := ht.tr0 c34
       replace hb3v := hb3v.tr0 c34
       replace hs3v := hs3v.tr0 c34
       replace ho3v := ho3v.tr0 c34
       clear e33
       refine Wp rfl <| st_bld (ps := [(0, .const (S [63])), (3, .tmp 31)]) (vs := [S _, .int _ _, S _, .slice _ _ _]) T.bld38 rfl ?_
       have nak_b31 : b31 ∉ ob Ao3 := nal_b31
       refine Wp rfl <| st_call (ags := [_, _]) rfl rfl T.ent46 rfl (put_spec (D := D) (x := ⟨[63], 0, [], [k1, k2, k3]⟩) (fun k hk => hfr0 k (by have h1 := HC.size; omega)) hDb hb3v ho3v (kid_one (ks := [k1, k2, k3]) (show Blk _ _ (([k1, k2, k3] : List Int).flatMap fun x => [.int .i64 x]) _ from hb35) (by simp) ⟨hfr0 _ (by have h1 := ge_b31; omega), nak_b31⟩) (by omega)) ?_
       rintro _ w36 ⟨rfl, ⟨Aop37, capop37, hbp37, hop37⟩, c37⟩
       replace HC := HC.chg c37 (fun k hk => .inl ((List.mem_cons.1 hk).elim .inr (fun h => .inl (ho3v.inD k h))))
       replace ht := ht.tr c37 (fun hx => (List.mem_cons.1 hx).elim hone2 (fun h => hone1 ((fun _ h => h) 0 (ho3v.inD 0 h))))
       replace hs3v := hs3v.tr c37 (fun k hk hD => (List.mem_cons.1 hk).elim (hDt k hD).2 (fun h => (hDt k hD).1 (ho3v.inD k h)))
       refine aI rfl <| en <| x_ret <| ret_tmp (v := .int _ _) rfl rfl ?_
       exact ⟨he3, ⟨_, rfl⟩, ⟨_, _, (by simp), (by simp only [List.length_append, List.length_cons, List.length_nil, List.drop_succ_cons, List.drop_zero] at *; omega), ⟨_, _, _, _, hbp37, hs3v, hct3v, hop37⟩⟩, HC⟩
      ·obtain ⟨rfl, ⟨At3, capt3, Ao3, capo3, hb3v, hs3v, hct3v, ho3v⟩, hwf3, ⟨hm3, hl3⟩, cP3⟩ := hP
       replace HC := HC.trans cP3 (fun k h => .inl (h))
       replace ht := ht.trP cP3 (fun h => h.elim (fun h => hone1 ((fun _ h => h) 0 h)) hone2)
       have hg3 := hr3
       dsimp only at hg3
       obtain ⟨x3, tl3, rfl⟩ := hwf3.ne
       have hq3 := hl3
       simp only [List.length_cons] at hq3
       have hqm3 := hm3
       simp only [List.length_cons] at hqm3
       obtain rfl := (Option.some.inj hr3).symm
       refine Wp rfl <| st_lit (ps := [(0, .tmp 25), (1, .tmp 26), (2, .tmp 30)]) (vs := [.int _ _, .int _ _, .int _ _]) T.lit36 (by decide) rfl (by simp only [List.forall_mem_cons, List.not_mem_nil, false_imp_iff, implies_true, and_true]; exact ⟨rfl, rfl, rfl⟩) rfl ?_
       intro b38 w39 e40 c41 hb42
       have ge_b38 : w.heap.size ≤ b38 := by rw [e40]; exact HC.size
       have ne_b_b38 : b ≠ b38 := by rw [e40]; exact hb3v.ne_size
       have nal_b38 : b38 ∉ ob Ao3 := ho3v.fresh (by rw [e40]; exact Nat.le_refl _)
       replace HC := HC.chg0 c41
       replace ht := ht.tr0 c41
       replace hb3v := hb3v.tr0 c41
       replace hs3v := hs3v.tr0 c41
       replace ho3v := ho3v.tr0 c41
       clear e40
       refine Wp rfl <| st_bld (ps := [(0, .const (S [63])), (3, .tmp 31)]) (vs := [S _, .int _ _, S _, .slice _ _ _]) T.bld38 rfl ?_
       have nak_b38 : b38 ∉ ob Ao3 := nal_b38
       refine Wp rfl <| st_call (ags := [_, _]) rfl rfl T.ent46 rfl (put_spec (D := D) (x := ⟨[63], 0, [], [k1, k2, k3]⟩) (fun k hk => hfr0 k (by have h1 := HC.size; omega)) hDb hb3v ho3v (kid_one (ks := [k1, k2, k3]) (show Blk _ _ (([k1, k2, k3] : List Int).flatMap fun x => [.int .i64 x]) _ from hb42) (by simp) ⟨hfr0 _ (by have h1 := ge_b38; omega), nak_b38⟩) (by omega)) ?_
       rintro _ w43 ⟨rfl, ⟨Aop44, capop44, hbp44, hop44⟩, c44⟩
       replace HC := HC.chg c44 (fun k hk => .inl ((List.mem_cons.1 hk).elim .inr (fun h => .inl (ho3v.inD k h))))
       replace ht := ht.tr c44 (fun hx => (List.mem_cons.1 hx).elim hone2 (fun h => hone1 ((fun _ h => h) 0 (ho3v.inD 0 h))))
       replace hs3v := hs3v.tr c44 (fun k hk hD => (List.mem_cons.1 hk).elim (hDt k hD).2 (fun h => (hDt k hD).1 (ho3v.inD k h)))
       refine aI rfl <| en <| x_ret <| ret_tmp (v := .int _ _) rfl rfl ?_
       exact ⟨rfl, ⟨_, _, _, _, hbp44, hs3v, hct3v, hop44⟩, hwf3, ⟨by simp only [List.length_append, List.length_cons, List.length_nil, List.drop_succ_cons, List.drop_zero] at *; omega, by simp only [List.length_append, List.length_cons, List.length_nil, List.drop_succ_cons, List.drop_zero] at *; omega⟩, HC⟩
     ·replace HC := HC.cB c29
      replace ht := ht.tr c29 (by intro hx; have hlt := ht1; simp only [List.mem_cons, List.mem_nil_iff, or_false] at hx; first | exact hone2 hx | omega)
      replace ho2v := ho2v.tN c29 hDb
      rw [if_pos rfl, if_pos rfl] at hbw29
      rw [if_neg (fun h => hCw29 ⟨rfl, in_iff.1 h⟩)] at hg2
      obtain rfl := (Option.some.inj hg2).symm
      refine en <| sr rfl <| mP rfl <| mI rfl <| mI rfl <| mP rfl <| mP rfl <| Wp rfl <| st_makeFunc <| Wp rfl <| st_call (ags := [_, _]) rfl rfl T.ent22 rfl (within_bad (x := x2) (tl := tl2) (show (101 : Int) ≠ 0 by decide) (by omega) (by omega) hbw29 hsw29 hDtb (fun k hk => hDtn k (Nat.le_trans HC.size hk))) ?_
      rintro _ w45 ⟨rfl, hbi46, c46⟩
      replace HC := HC.cB c46
      replace ht := ht.tr c46 (by intro hx; have hlt := ht1; simp only [List.mem_cons, List.mem_nil_iff, or_false] at hx; first | exact hone2 hx | omega)
      replace ho2v := ho2v.tN c46 hDb
      replace hsw29 := hsw29.tN c46 (fun h => (hDt _ h).2 rfl)
      refine Wp rfl <| st_lit (ps := [(0, .tmp 25), (1, .tmp 26), (2, .tmp 30)]) (vs := [.int _ _, .int _ _, .int _ _]) T.lit36 (by decide) rfl (by simp only [List.forall_mem_cons, List.not_mem_nil, false_imp_iff, implies_true, and_true]; exact ⟨rfl, rfl, rfl⟩) rfl ?_
      intro b47 w48 e49 c50 hb51
      have ge_b47 : w.heap.size ≤ b47 := by rw [e49]; exact HC.size
      have ne_b_b47 : b ≠ b47 := by rw [e49]; exact hbi46.ne_size
      have nal_b47 : b47 ∉ ob Ao2 := ho2v.fresh (by rw [e49]; exact Nat.le_refl _)
      replace HC := HC.chg0 c50
      replace ht := ht.tr0 c50
      replace ho2v := ho2v.tr0 c50
      replace hsw29 := hsw29.tr0 c50
      replace hbi46 := hbi46.tr0 c50
      clear e49
      refine Wp rfl <| st_bld (ps := [(0, .const (S [63])), (3, .tmp 31)]) (vs := [S _, .int _ _, S _, .slice _ _ _]) T.bld38 rfl ?_
      have nak_b47 : b47 ∉ ob Ao2 := nal_b47
      refine Wp rfl <| st_call (ags := [_, _]) rfl rfl T.ent46 rfl (put_spec (D := D) (x := ⟨[63], 0, [], [k1, k2, 0]⟩) (fun k hk => hfr0 k (by have h1 := HC.size; omega)) hDb hbi46 ho2v (kid_one (ks := [k1, k2, 0]) (show Blk _ _ (([k1, k2, 0] : List Int).flatMap fun x => [.int .i64 x]) _ from hb51) (by simp) ⟨hfr0 _ (by have h1 := ge_b47; omega), nak_b47⟩) (by omega)) ?_
      rintro _ w52 ⟨rfl, ⟨Aop53, capop53, hbp53, hop53⟩, c53⟩
      replace HC := HC.chg c53 (fun k hk => .inl ((List.mem_cons.1 hk).elim .inr (fun h => .inl (ho2v.inD k h))))
      replace ht := ht.tr c53 (fun hx => (List.mem_cons.1 hx).elim hone2 (fun h => hone1 ((fun _ h => h) 0 (ho2v.inD 0 h))))
      replace hsw29 := hsw29.tr c53 (fun k hk hD => (List.mem_cons.1 hk).elim (hDt k hD).2 (fun h => (hDt k hD).1 (ho2v.inD k h)))
      refine aI rfl <| en <| x_ret <| ret_tmp (v := .int _ _) rfl rfl ?_
      exact ⟨(show (101 : Int) ≠ 0 by decide), ⟨_, rfl⟩, ⟨_, _, (by simp), (by simp only [List.length_append, List.length_cons, List.length_nil, List.drop_succ_cons, List.drop_zero] at *; omega), ⟨_, _, _, _, hbp53, hsw29, hct2v, hop53⟩⟩, HC⟩
  ·replace HC := HC.cB c15
   replace ht := ht.tr c15 (by intro hx; have hlt := ht1; simp only [List.mem_cons, List.mem_nil_iff, or_false] at hx; first | exact hone2 hx | omega)
   replace ho1v := ho1v.tN c15 hDb
   replace hb13 := hb13.tr1 c15 (Ne.symm ne_b_b9)
   rw [if_neg (fun h => hC15 ⟨rfl, in_iff.1 h⟩)] at hg1
   obtain rfl := (Option.some.inj hg1).symm
   refine mv (v := .tuple ⟨[_, _]⟩) rfl <| Wp rfl <| st_extract (vs := [_, _]) (v := S _) rfl rfl <| Wp rfl <| st_extract (vs := [_, _]) (v := .bool _) rfl rfl <| aS rfl <| aB rfl <| en <| sr rfl <| mB rfl <| Wp rfl <| st_not rfl <| en <| x_cond rfl (fun h0 => ?_) (fun h0 => ?_)
   ·try simp only [nm, ne_eq] at h0
    refine sr rfl <| mI rfl <| aI rfl <| en <| x_ret <| then_r <| ret_tmp (v := .int _ _) rfl rfl ?_
    exact ⟨rfl, ⟨_, _, _, _, hb15, hs15, hct1v, ho1v⟩, hwf1, ⟨hm1, hl1⟩, HC⟩
   ·try simp only [nm, ne_eq] at h0
    cases h0

end Go.Proofs.YtmbbhgglllfelaaGreatDoor.K
