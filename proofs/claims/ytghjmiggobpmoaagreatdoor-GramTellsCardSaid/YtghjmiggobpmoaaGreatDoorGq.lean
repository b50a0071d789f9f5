import Derived.Test.YtghjmiggobpmoaaGreatDoorTok
import Derived.Test.YtghjmiggobpmoaaGreatDoorGn
import Derived.Test.YtghjmiggobpmoaaGreatDoorGramQ
set_option linter.unusedVariables false
set_option linter.unusedSimpArgs false
set_option autoImplicit false
set_option maxRecDepth 20000
namespace Go.Proofs.YtghjmiggobpmoaaGreatDoor.K
open Go Go.Proofs Go.RowKit

theorem gsame1_spec {x y : List Bytes × List Cm} {vx vy : List Value} {D1 D2 : Nat → Prop} (w : World) (h1 : itE.R w D1 x vx) (h2 : itE.R w D2 y vy) (hrec : ∀ k, k ∈ x.2 → ∀ (y : Cm) (vx vy : List Value) (W : World) {D1 D2 : Nat → Prop}, cmE.R W D1 k vx → cmE.R W D2 y vy → CallR Tryz.prog 11 #[.agg ⟨vx⟩, .agg ⟨vy⟩] W fun v w' => EqT k y W w' v) : CallR Tryz.prog 25 #[.agg ⟨vx⟩, .agg ⟨vy⟩] w fun v w' => EqT x y w w' v := by
 obtain ⟨_, _, rfl, ⟨I1, m1, rfl, k1, k2, hI1⟩, ⟨I2, m2, rfl, k3, k4, hI2⟩⟩ := h1
 obtain ⟨_, _, rfl, ⟨J1, n1, rfl, l1, l2, hJ1⟩, ⟨J2, n2, rfl, l3, l4, hJ2⟩⟩ := h2
 refine callR_of_wp (args := [_, _]) Tryz.func25 rfl (Nat.le_of_ble_eq_true rfl) ?_
 have HC : Chg [] w w := .refl _
 refine sr rfl <| Wp rfl <| st_box (v := .agg ⟨[.slice _ _ _, .slice _ _ _]⟩) (vs := [_, _]) rfl rfl ?_
 intro b2 w1 e2 c3 hb4
 have ge_b2 := gB e2 HC.size
 replace HC := HC.then c3
 replace hI1 := hI1.tr0 c3
 replace hI2 := hI2.tr0 c3
 replace hJ1 := hJ1.tr0 c3
 replace hJ2 := hJ2.tr0 c3
 clear e2
 refine Wp rfl <| st_box (v := .agg ⟨[.slice _ _ _, .slice _ _ _]⟩) (vs := [_, _]) rfl rfl ?_
 intro b3 w5 e6 c7 hb8
 have ge_b3 := gB e6 HC.size
 have ne_b2_b3 := nF e6 hb4.ne_size
 replace HC := HC.then c7
 replace hI1 := hI1.tr0 c7
 replace hI2 := hI2.tr0 c7
 replace hJ1 := hJ1.tr0 c7
 replace hJ2 := hJ2.tr0 c7
 replace hb4 := hb4.tr0 c7
 clear e6
 refine aB rfl <| en <| sr rfl <| fa T.fld59_0 rfl <| lL T.one23 rfl (hb4.cell rfl) <| fa T.fld59_0 rfl <| lL T.one23 rfl (hb8.cell rfl) <| Wp rfl <| st_call (ags := [_, _]) rfl rfl T.ent21 rfl (eqStr_spec hI1 hJ1 (Nat.le_trans k1 k2)) ?_
 rintro _ w9 ⟨r1, rfl, hr1, c10⟩
 replace HC := HC.then c10
 replace hI2 := hI2.tr0 c10
 replace hJ2 := hJ2.tr0 c10
 replace hb4 := hb4.tr0 c10
 replace hb8 := hb8.tr0 c10
 refine mB rfl <| w_split (d := 10) rfl (fun g11 => ?_) (fun g11 => ?_)
 ·try simp only [nm, ne_eq] at g11
  refine w_yes 5 10 true <| st_fieldAddr T.fld59_1 rfl <| w_yes 5 10 true <| st_load1 (v := .slice _ _ _) T.one27 rfl (hb4.cell rfl) <| w_yes 5 10 true <| st_fieldAddr T.fld59_1 rfl <| w_yes 5 10 true <| st_load1 (v := .slice _ _ _) T.one27 rfl (hb8.cell rfl) <| w_yes 5 10 true <| st_call (ags := [_, _, _]) rfl rfl T.ent23 rfl (eqfC_spec (caps := #[]) hI2 hJ2 (Nat.le_trans k3 k4) T.ent11 (fun k hk y vx vy W {D1 D2} q1 q2 => hrec k hk y vx vy W q1 q2)) ?_
  rintro _ w12 ⟨r2, rfl, hr2, c13⟩
  replace HC := HC.then c13
  refine pT rfl rfl <| aB rfl <| en <| x_ret <| ret_tmp (v := .bool _) rfl rfl <| ⟨_, rfl, ?_, HC⟩
  rw [Prod.ext_iff]
  first | (simp_all; done) | (simp [*]; done)
 ·try simp only [nm, ne_eq] at g11
  iterate 5 refine w_no 5 10 true ?_
  refine pF rfl rfl <| aB rfl <| en <| x_ret <| ret_tmp (v := .bool _) rfl rfl <| ⟨_, rfl, ?_, HC⟩
  rw [Prod.ext_iff]
  first | (simp_all; done) | (simp [*]; done)

theorem gsame_step {a b : Cm} {va vb : List Value} {D1 D2 : Nat → Prop} (w : World) (ha : cmE.R w D1 a va) (hb : cmE.R w D2 b vb) (hrec : ∀ x : Cm, SizeOf.sizeOf x < SizeOf.sizeOf a → ∀ (y : Cm) (vx vy : List Value) (W : World) {D1 D2 : Nat → Prop}, cmE.R W D1 x vx → cmE.R W D2 y vy → CallR Tryz.prog 11 #[.agg ⟨vx⟩, .agg ⟨vy⟩] W fun v w' => EqT x y W w' v) : CallR Tryz.prog 11 #[.agg ⟨va⟩, .agg ⟨vb⟩] w fun v w' => EqT a b w w' v := by
 obtain ⟨A1A, n1A, A2A, n2A, A3A, n3A, A4A, n4A, A5A, n5A, rfl, hAA, k1A, k2A, k3A, k4A, k5A⟩ := cm_open ha
 obtain ⟨A1B, n1B, A2B, n2B, A3B, n3B, A4B, n4B, A5B, n5B, rfl, hAB, k1B, k2B, k3B, k4B, k5B⟩ := cm_open hb
 refine callR_of_wp (args := [_, _]) Tryz.func11 rfl (Nat.le_of_ble_eq_true rfl) ?_
 have HC : Chg [] w w := .refl _
 refine sr rfl <| Wp rfl <| st_box (v := .agg ⟨[.int _ _, S _, .bool _, .bool _, .slice _ _ _, .slice _ _ _, .slice _ _ _, .slice _ _ _, .slice _ _ _]⟩) (vs := [_, _, _, _, _, _, _, _, _]) rfl rfl ?_
 intro b2 w1 e2 c3 hb4
 have ge_b2 := gB e2 HC.size
 replace HC := HC.then c3
 replace hAA := CmAt.chg hAA c3 q8
 replace hAB := CmAt.chg hAB c3 q8
 clear e2
 refine Wp rfl <| st_box (v := .agg ⟨[.int _ _, S _, .bool _, .bool _, .slice _ _ _, .slice _ _ _, .slice _ _ _, .slice _ _ _, .slice _ _ _]⟩) (vs := [_, _, _, _, _, _, _, _, _]) rfl rfl ?_
 intro b3 w5 e6 c7 hb8
 have ge_b3 := gB e6 HC.size
 have ne_b2_b3 := nF e6 hb4.ne_size
 replace HC := HC.then c7
 replace hAA := CmAt.chg hAA c7 q8
 replace hAB := CmAt.chg hAB c7 q8
 replace hb4 := hb4.tr0 c7
 clear e6
 refine aB rfl <| en <| sr rfl <| fa T.fld30_0 rfl <| lI T.one3 rfl (hb4.cell rfl) <| fa T.fld30_0 rfl <| lI T.one3 rfl (hb8.cell rfl) <| Wp rfl <| st_eql rfl rfl <| mB rfl <| w_split (d := 11) rfl (fun g9 => ?_) (fun g9 => ?_)
 ·try simp only [nm, ne_eq] at g9
  refine w_yes 5 11 true <| st_fieldAddr T.fld30_1 rfl <| w_yes 5 11 true <| st_load1 (v := S _) T.one9 rfl (hb4.cell rfl) <| w_yes 5 11 true <| st_fieldAddr T.fld30_1 rfl <| w_yes 5 11 true <| st_load1 (v := S _) T.one9 rfl (hb8.cell rfl) <| w_yes 5 11 true <| st_seql rfl rfl <| pT rfl rfl <| mB rfl <| w_split (d := 18) rfl (fun g10 => ?_) (fun g10 => ?_)
  ·try simp only [nm, ne_eq] at g10
   refine w_yes 12 18 true <| st_fieldAddr T.fld30_2 rfl <| w_yes 12 18 true <| st_load1 (v := .bool _) T.one4 rfl (hb4.cell rfl) <| w_yes 12 18 true <| st_fieldAddr T.fld30_2 rfl <| w_yes 12 18 true <| st_load1 (v := .bool _) T.one4 rfl (hb8.cell rfl) <| w_yes 12 18 true <| st_beql T.u4 rfl rfl <| pT rfl rfl <| mB rfl <| w_split (d := 25) rfl (fun g11 => ?_) (fun g11 => ?_)
   ·try simp only [nm, ne_eq] at g11
    refine w_yes 19 25 true <| st_fieldAddr T.fld30_3 rfl <| w_yes 19 25 true <| st_load1 (v := .bool _) T.one4 rfl (hb4.cell rfl) <| w_yes 19 25 true <| st_fieldAddr T.fld30_3 rfl <| w_yes 19 25 true <| st_load1 (v := .bool _) T.one4 rfl (hb8.cell rfl) <| w_yes 19 25 true <| st_beql T.u4 rfl rfl <| pT rfl rfl <| aB rfl <| en <| sr rfl <| mB rfl <| mB rfl <| w_split (d := 33) rfl (fun g12 => ?_) (fun g12 => ?_)
    ·try simp only [nm, ne_eq] at g12
     refine w_yes 1 33 true <| st_fieldAddr T.fld30_4 rfl <| w_yes 1 33 true <| st_load1 (v := .slice _ _ _) T.one25 rfl (hb4.cell rfl) <| w_yes 1 33 true <| st_fieldAddr T.fld30_4 rfl <| w_yes 1 33 true <| st_load1 (v := .slice _ _ _) T.one25 rfl (hb8.cell rfl) <| w_yes 1 33 true <| st_call (ags := [_, _]) rfl rfl T.ent20 rfl (eqPair_spec hAA.asg hAB.asg (Nat.le_trans k1A.1 k1A.2)) ?_
     rintro _ w13 ⟨r1, rfl, hr1, c14⟩
     replace HC := HC.then c14
     replace hAA := CmAt.chg hAA c14 q8
     replace hAB := CmAt.chg hAB c14 q8
     replace hb4 := hb4.tr0 c14
     replace hb8 := hb8.tr0 c14
     refine pT rfl rfl <| mB rfl <| w_split (d := 40) rfl (fun g15 => ?_) (fun g15 => ?_)
     ·try simp only [nm, ne_eq] at g15
      refine w_yes 8 40 true <| st_fieldAddr T.fld30_5 rfl <| w_yes 8 40 true <| st_load1 (v := .slice _ _ _) T.one23 rfl (hb4.cell rfl) <| w_yes 8 40 true <| st_fieldAddr T.fld30_5 rfl <| w_yes 8 40 true <| st_load1 (v := .slice _ _ _) T.one23 rfl (hb8.cell rfl) <| w_yes 8 40 true <| st_call (ags := [_, _]) rfl rfl T.ent21 rfl (eqStr_spec hAA.words hAB.words (Nat.le_trans k2A.1 k2A.2)) ?_
      rintro _ w16 ⟨r2, rfl, hr2, c17⟩
      replace HC := HC.then c17
      replace hAA := CmAt.chg hAA c17 q8
      replace hAB := CmAt.chg hAB c17 q8
      replace hb4 := hb4.tr0 c17
      replace hb8 := hb8.tr0 c17
      refine pT rfl rfl <| mB rfl <| w_split (d := 47) rfl (fun g18 => ?_) (fun g18 => ?_)
      ·try simp only [nm, ne_eq] at g18
       refine w_yes 15 47 true <| st_fieldAddr T.fld30_6 rfl <| w_yes 15 47 true <| st_load1 (v := .slice _ _ _) T.one26 rfl (hb4.cell rfl) <| w_yes 15 47 true <| st_fieldAddr T.fld30_6 rfl <| w_yes 15 47 true <| st_load1 (v := .slice _ _ _) T.one26 rfl (hb8.cell rfl) <| w_yes 15 47 true <| st_call (ags := [_, _]) rfl rfl T.ent22 rfl (eqRdr_spec hAA.rds hAB.rds (Nat.le_trans k3A.1 k3A.2)) ?_
       rintro _ w19 ⟨r3, rfl, hr3, c20⟩
       replace HC := HC.then c20
       replace hAA := CmAt.chg hAA c20 q8
       replace hAB := CmAt.chg hAB c20 q8
       replace hb4 := hb4.tr0 c20
       replace hb8 := hb8.tr0 c20
       refine pT rfl rfl <| mB rfl <| w_split (d := 54) rfl (fun g21 => ?_) (fun g21 => ?_)
       ·try simp only [nm, ne_eq] at g21
        refine w_yes 22 54 true <| st_fieldAddr T.fld30_7 rfl <| w_yes 22 54 true <| st_load1 (v := .slice _ _ _) T.one27 rfl (hb4.cell rfl) <| w_yes 22 54 true <| st_fieldAddr T.fld30_7 rfl <| w_yes 22 54 true <| st_load1 (v := .slice _ _ _) T.one27 rfl (hb8.cell rfl) <| w_yes 22 54 true <| st_call (ags := [_, _, _]) rfl rfl T.ent23 rfl (eqfC_spec (caps := #[]) hAA.kids hAB.kids (Nat.le_trans k4A.1 k4A.2) T.ent11 (fun k hk y vx vy W {D1 D2} q1 q2 => hrec k (kid_size hk) y vx vy W q1 q2)) ?_
        rintro _ w22 ⟨r4, rfl, hr4, c23⟩
        replace HC := HC.then c23
        replace hAA := CmAt.chg hAA c23 q8
        replace hAB := CmAt.chg hAB c23 q8
        replace hb4 := hb4.tr0 c23
        replace hb8 := hb8.tr0 c23
        refine pT rfl rfl <| mB rfl <| w_split (d := 61) rfl (fun g24 => ?_) (fun g24 => ?_)
        ·try simp only [nm, ne_eq] at g24
         refine w_yes 29 61 true <| st_fieldAddr T.fld30_8 rfl <| w_yes 29 61 true <| st_load1 (v := .slice _ _ _) T.one28 rfl (hb4.cell rfl) <| w_yes 29 61 true <| st_fieldAddr T.fld30_8 rfl <| w_yes 29 61 true <| st_load1 (v := .slice _ _ _) T.one28 rfl (hb8.cell rfl) <| w_yes 29 61 true <| st_call (ags := [_, _, _]) rfl rfl T.ent24 rfl (eqfI_spec (caps := #[]) hAA.items hAB.items (Nat.le_trans k5A.1 k5A.2) T.ent25 (fun x hx y vx vy W {D1 D2} q1 q2 => gsame1_spec W q1 q2 (fun k hk y vx vy W {D1 D2} q3 q4 => hrec k (item_size hx hk) y vx vy W q3 q4))) ?_
         rintro _ w25 ⟨r5, rfl, hr5, c26⟩
         replace HC := HC.then c26
         refine pT rfl rfl <| aB rfl <| en <| x_ret <| ret_tmp (v := .bool _) rfl rfl <| ⟨_, rfl, ?_, HC⟩
         rw [Cm.ext]
         clear hrec
         first | (simp_all; done) | (simp [*]; done)
        ·try simp only [nm, ne_eq] at g24
         iterate 5 refine w_no 29 61 true ?_
         refine pF rfl rfl <| aB rfl <| en <| x_ret <| ret_tmp (v := .bool _) rfl rfl <| ⟨_, rfl, ?_, HC⟩
         rw [Cm.ext]
         clear hrec
         first | (simp_all; done) | (simp [*]; done)
       ·try simp only [nm, ne_eq] at g21
        iterate 5 refine w_no 22 54 true ?_
        refine pF rfl rfl <| mB rfl ?_
        iterate 5 refine w_no 29 61 true ?_
        refine pF rfl rfl <| aB rfl <| en <| x_ret <| ret_tmp (v := .bool _) rfl rfl <| ⟨_, rfl, ?_, HC⟩
        rw [Cm.ext]
        clear hrec
        first | (simp_all; done) | (simp [*]; done)
      ·try simp only [nm, ne_eq] at g18
       iterate 5 refine w_no 15 47 true ?_
       refine pF rfl rfl <| mB rfl ?_
       iterate 5 refine w_no 22 54 true ?_
       refine pF rfl rfl <| mB rfl ?_
       iterate 5 refine w_no 29 61 true ?_
       refine pF rfl rfl <| aB rfl <| en <| x_ret <| ret_tmp (v := .bool _) rfl rfl <| ⟨_, rfl, ?_, HC⟩
       rw [Cm.ext]
       clear hrec
       first | (simp_all; done) | (simp [*]; done)
     ·try simp only [nm, ne_eq] at g15
      iterate 5 refine w_no 8 40 true ?_
      refine pF rfl rfl <| mB rfl ?_
      iterate 5 refine w_no 15 47 true ?_
      refine pF rfl rfl <| mB rfl ?_
      iterate 5 refine w_no 22 54 true ?_
      refine pF rfl rfl <| mB rfl ?_
      iterate 5 refine w_no 29 61 true ?_
      refine pF rfl rfl <| aB rfl <| en <| x_ret <| ret_tmp (v := .bool _) rfl rfl <| ⟨_, rfl, ?_, HC⟩
      rw [Cm.ext]
      clear hrec
      first | (simp_all; done) | (simp [*]; done)
    ·try simp only [nm, ne_eq] at g12
     iterate 5 refine w_no 1 33 true ?_
     refine pF rfl rfl <| mB rfl ?_
     iterate 5 refine w_no 8 40 true ?_
     refine pF rfl rfl <| mB rfl ?_
     iterate 5 refine w_no 15 47 true ?_
     refine pF rfl rfl <| mB rfl ?_
     iterate 5 refine w_no 22 54 true ?_
     refine pF rfl rfl <| mB rfl ?_
     iterate 5 refine w_no 29 61 true ?_
     refine pF rfl rfl <| aB rfl <| en <| x_ret <| ret_tmp (v := .bool _) rfl rfl <| ⟨_, rfl, ?_, HC⟩
     rw [Cm.ext]
     clear hrec
     first | (simp_all; done) | (simp [*]; done)
   ·try simp only [nm, ne_eq] at g11
    iterate 5 refine w_no 19 25 true ?_
    refine pF rfl rfl <| aB rfl <| en <| sr rfl <| mB rfl <| mB rfl ?_
    iterate 5 refine w_no 1 33 true ?_
    refine pF rfl rfl <| mB rfl ?_
    iterate 5 refine w_no 8 40 true ?_
    refine pF rfl rfl <| mB rfl ?_
    iterate 5 refine w_no 15 47 true ?_
    refine pF rfl rfl <| mB rfl ?_
    iterate 5 refine w_no 22 54 true ?_
    refine pF rfl rfl <| mB rfl ?_
    iterate 5 refine w_no 29 61 true ?_
    refine pF rfl rfl <| aB rfl <| en <| x_ret <| ret_tmp (v := .bool _) rfl rfl <| ⟨_, rfl, ?_, HC⟩
    rw [Cm.ext]
    clear hrec
    first | (simp_all; done) | (simp [*]; done)
  ·try simp only [nm, ne_eq] at g10
   iterate 5 refine w_no 12 18 true ?_
   refine pF rfl rfl <| mB rfl ?_
   iterate 5 refine w_no 19 25 true ?_
   refine pF rfl rfl <| aB rfl <| en <| sr rfl <| mB rfl <| mB rfl ?_
   iterate 5 refine w_no 1 33 true ?_
   refine pF rfl rfl <| mB rfl ?_
   iterate 5 refine w_no 8 40 true ?_
   refine pF rfl rfl <| mB rfl ?_
   iterate 5 refine w_no 15 47 true ?_
   refine pF rfl rfl <| mB rfl ?_
   iterate 5 refine w_no 22 54 true ?_
   refine pF rfl rfl <| mB rfl ?_
   iterate 5 refine w_no 29 61 true ?_
   refine pF rfl rfl <| aB rfl <| en <| x_ret <| ret_tmp (v := .bool _) rfl rfl <| ⟨_, rfl, ?_, HC⟩
   rw [Cm.ext]
   clear hrec
   first | (simp_all; done) | (simp [*]; done)
 ·try simp only [nm, ne_eq] at g9
  iterate 5 refine w_no 5 11 true ?_
  refine pF rfl rfl <| mB rfl ?_
  iterate 5 refine w_no 12 18 true ?_
  refine pF rfl rfl <| mB rfl ?_
  iterate 5 refine w_no 19 25 true ?_
  refine pF rfl rfl <| aB rfl <| en <| sr rfl <| mB rfl <| mB rfl ?_
  iterate 5 refine w_no 1 33 true ?_
  refine pF rfl rfl <| mB rfl ?_
  iterate 5 refine w_no 8 40 true ?_
  refine pF rfl rfl <| mB rfl ?_
  iterate 5 refine w_no 15 47 true ?_
  refine pF rfl rfl <| mB rfl ?_
  iterate 5 refine w_no 22 54 true ?_
  refine pF rfl rfl <| mB rfl ?_
  iterate 5 refine w_no 29 61 true ?_
  refine pF rfl rfl <| aB rfl <| en <| x_ret <| ret_tmp (v := .bool _) rfl rfl <| ⟨_, rfl, ?_, HC⟩
  rw [Cm.ext]
  clear hrec
  first | (simp_all; done) | (simp [*]; done)

theorem gsame_le : ∀ (n : Nat) (a : Cm), SizeOf.sizeOf a ≤ n → ∀ (b : Cm) (va vb : List Value) (w : World) {D1 D2 : Nat → Prop}, cmE.R w D1 a va → cmE.R w D2 b vb → CallR Tryz.prog 11 #[.agg ⟨va⟩, .agg ⟨vb⟩] w fun v w' => EqT a b w w' v
  | 0, a, hn, b, va, vb, w, _, _, ha, hb => gsame_step w ha hb fun x hx => absurd hx (by omega)
  | n + 1, a, hn, b, va, vb, w, _, _, ha, hb => gsame_step w ha hb fun x hx y vx vy W {_ _} h1 h2 => gsame_le n x (by omega) y vx vy W h1 h2
theorem gsame_spec {a b : Cm} {va vb : List Value} {D1 D2 : Nat → Prop} (w : World) (ha : cmE.R w D1 a va) (hb : cmE.R w D2 b vb) : CallR Tryz.prog 11 #[.agg ⟨va⟩, .agg ⟨vb⟩] w fun v w' => EqT a b w w' v := gsame_le _ a (Nat.le_refl _) b va vb w ha hb

end Go.Proofs.YtghjmiggobpmoaaGreatDoor.K
set_option linter.unusedVariables false
set_option linter.unusedSimpArgs false
set_option autoImplicit false
set_option maxRecDepth 20000
namespace Go.Proofs.YtghjmiggobpmoaaGreatDoor.K
open Go Go.RowKit
def NE {α : Type} (g : Rs α) : Prop := ∀ R e, g = .er R e → e ≠ 0
theorem NE.ok {α : Type} (x : α) (R : List Tok) : NE (.ok x R) := fun _ _ h => by cases h
theorem NE.er {α : Type} (R : List Tok) {e : Int} (h : e ≠ 0) : NE (.er R e : Rs α) := fun _ _ q => by cases q; exact h
theorem NE.bind {α β : Type} {g : Rs α} {f : α → List Tok → Rs β} (h : NE g) (k : ∀ x r, NE (f x r)) : NE (g.bind f) := by
  cases g with
  | ok x r => exact k x r
  | er r e => exact fun R e' q => by cases q; exact h _ _ rfl
section
variable {com : List Tok → Rs Cm} (hc : ∀ T, NE (com T))
include hc
end
end Go.Proofs.YtghjmiggobpmoaaGreatDoor.K
set_option linter.unusedVariables false
set_option linter.unusedSimpArgs false
set_option autoImplicit false
set_option maxRecDepth 20000
namespace Go.Proofs.YtghjmiggobpmoaaGreatDoor.K
open Go Go.Proofs Go.RowKit

def aw0 : Bytes := [97, 32, 38, 38, 32, 98, 32, 124, 32, 99]
def awC0 : Cm := (.mk 3 [] false false [] [] [] [(.mk 1 [] false false [] [[97]] [] [] []), (.mk 2 [] false false [] [] [] [(.mk 1 [] false false [] [[98]] [] [] []), (.mk 1 [] false false [] [[99]] [] [] [])] [])] [])
theorem aw0_eq : gramV aw0 = (awC0, 0, 0) := by kernel_rfl

def aw1 : Bytes := [105, 102, 32, 120, 59, 32, 116, 104, 101, 110, 32, 121, 59, 32, 102, 105, 32, 62, 102]
def awC1 : Cm := (.mk 9 [] false false [] [] [⟨1, [62], [102], [], false⟩] [(.mk 1 [] false false [] [[120]] [] [] []), (.mk 1 [] false false [] [[121]] [] [] [])] [])
theorem aw1_eq : gramV aw1 = (awC1, 0, 0) := by kernel_rfl

def aw2 : Bytes := [116, 104, 101, 110]
def awC2 : Cm := zCm
theorem aw2_eq : gramV aw2 = (awC2, 0, 101) := by kernel_rfl

theorem awake17_spec (w : World) (hmx : MaxT w) (ht : Tab w) : CallR Tryz.prog 6 #[] w fun v w' => v = .bool true ∧ Chg [] w w' := by
 refine callR_of_wp (args := []) Tryz.func6 rfl (Nat.le_of_ble_eq_true rfl) ?_
 have HC : Chg [] w w := .refl _
 have ht1 := ht.lt
 have hm1 := hmx.lt
 refine sr rfl <| aB rfl <| en <| sr rfl <| Wp rfl <| st_call (ags := [_]) rfl rfl T.ent7 rfl (gParse_spec aw0 _ (by decide) hmx ht) ?_
 rintro _ w1 ⟨⟨vsE, rfl, hvE, c2⟩, hplE⟩
 rw [aw0_eq] at hvE ⊢
 obtain ⟨A1E, n1E, A2E, n2E, A3E, n3E, A4E, n4E, A5E, n5E, rfl, hAE, k1E, k2E, k3E, k4E, k5E⟩ := cm_open hvE
 replace hvE := cmE.mono hvE (D' := (fun k => k < w1.heap.size)) (fun k hk _ => hk)
 have szE : w1.heap.size ≤ w1.heap.size := Nat.le_refl _
 replace HC := HC.then c2
 replace ht := ht.tr0 c2
 replace hmx := hmx.tr0 c2
 refine mv (v := .tuple ⟨[_, _, _]⟩) rfl <| Wp rfl <| st_extract (vs := [_, _, _]) (v := .agg ⟨[.int _ _, S _, .bool _, .bool _, .slice _ _ _, .slice _ _ _, .slice _ _ _, .slice _ _ _, .slice _ _ _]⟩) rfl rfl <| Wp rfl <| st_extract (vs := [_, _, _]) (v := .int _ _) rfl rfl <| Wp rfl <| st_extract (vs := [_, _, _]) (v := .int _ _) rfl rfl <| Wp rfl <| st_alloc T.zero30 ?_
 intro b1 w3 e4 c5 hb6
 have ge_b1 := gB e4 HC.size
 have gq_szE_b1 : w1.heap.size ≤ b1 := by rw [e4]; exact szE
 replace HC := HC.then c5
 replace ht := ht.tr0 c5
 replace hmx := hmx.tr0 c5
 replace hvE := Enc.chg hvE c5 q8
 replace szE := Nat.le_trans szE c5.size
 clear e4
 refine Wp rfl <| st_st (v := .agg ⟨[_, _, _, _, _, _, _, _, _]⟩) T.size30 rfl rfl rfl hb6 ?_
 intro w7 c8 hb9; simp only [setVs, setV] at hb9
 clear hb6
 replace HC := HC.then1 c8 ge_b1
 replace ht := ht.tr c8 q1
 replace hmx := hmx.tr c8 q1
 replace hvE := Enc.chg hvE c8 q3
 replace szE := Nat.le_trans szE c8.size
 refine aI rfl <| aI rfl <| en <| sr rfl <| Wp rfl <| st_call (ags := [_]) rfl rfl T.ent7 rfl (gParse_spec aw1 _ (by decide) hmx ht) ?_
 rintro _ w10 ⟨⟨vsF, rfl, hvF, c11⟩, hplF⟩
 rw [aw1_eq] at hvF ⊢
 obtain ⟨A1F, n1F, A2F, n2F, A3F, n3F, A4F, n4F, A5F, n5F, rfl, hAF, k1F, k2F, k3F, k4F, k5F⟩ := cm_open hvF
 replace hvF := cmE.mono hvF (D' := (fun k => k < w10.heap.size)) (fun k hk _ => hk)
 have szF : w10.heap.size ≤ w10.heap.size := Nat.le_refl _
 replace HC := HC.then c11
 replace ht := ht.tr0 c11
 replace hmx := hmx.tr0 c11
 replace hvE := Enc.chg hvE c11 q8
 replace szE := Nat.le_trans szE c11.size
 replace hb9 := hb9.tr0 c11
 refine mv (v := .tuple ⟨[_, _, _]⟩) rfl <| Wp rfl <| st_extract (vs := [_, _, _]) (v := .agg ⟨[.int _ _, S _, .bool _, .bool _, .slice _ _ _, .slice _ _ _, .slice _ _ _, .slice _ _ _, .slice _ _ _]⟩) rfl rfl <| Wp rfl <| st_extract (vs := [_, _, _]) (v := .int _ _) rfl rfl <| Wp rfl <| st_extract (vs := [_, _, _]) (v := .int _ _) rfl rfl <| Wp rfl <| st_alloc T.zero30 ?_
 intro b4 w12 e13 c14 hb15
 have ge_b4 := gB e13 HC.size
 have ne_b1_b4 := nF e13 hb9.ne_size
 have gq_szE_b4 : w1.heap.size ≤ b4 := by rw [e13]; exact szE
 have gq_szF_b4 : w10.heap.size ≤ b4 := by rw [e13]; exact szF
 replace HC := HC.then c14
 replace ht := ht.tr0 c14
 replace hmx := hmx.tr0 c14
 replace hvE := Enc.chg hvE c14 q8
 replace szE := Nat.le_trans szE c14.size
 replace hb9 := hb9.tr0 c14
 replace hvF := Enc.chg hvF c14 q8
 replace szF := Nat.le_trans szF c14.size
 clear e13
 refine Wp rfl <| st_st (v := .agg ⟨[_, _, _, _, _, _, _, _, _]⟩) T.size30 rfl rfl rfl hb15 ?_
 intro w16 c17 hb18; simp only [setVs, setV] at hb18
 clear hb15
 replace HC := HC.then1 c17 ge_b4
 replace ht := ht.tr c17 q1
 replace hmx := hmx.tr c17 q1
 replace hvE := Enc.chg hvE c17 q3
 replace szE := Nat.le_trans szE c17.size
 replace hb9 := hb9.tr1 c17 ne_b1_b4
 replace hvF := Enc.chg hvF c17 q3
 replace szF := Nat.le_trans szF c17.size
 refine aI rfl <| aI rfl <| en <| sr rfl <| Wp rfl <| st_call (ags := [_]) rfl rfl T.ent7 rfl (gParse_spec aw2 _ (by decide) hmx ht) ?_
 rintro _ w19 ⟨⟨vsH, rfl, hvH, c20⟩, hplH⟩
 rw [aw2_eq] at hvH ⊢
 obtain ⟨A1H, n1H, A2H, n2H, A3H, n3H, A4H, n4H, A5H, n5H, rfl, hAH, k1H, k2H, k3H, k4H, k5H⟩ := cm_open hvH
 replace hvH := cmE.mono hvH (D' := (fun k => k < w19.heap.size)) (fun k hk _ => hk)
 have szH : w19.heap.size ≤ w19.heap.size := Nat.le_refl _
 replace HC := HC.then c20
 replace hvE := Enc.chg hvE c20 q8
 replace szE := Nat.le_trans szE c20.size
 replace hb9 := hb9.tr0 c20
 replace hvF := Enc.chg hvF c20 q8
 replace szF := Nat.le_trans szF c20.size
 replace hb18 := hb18.tr0 c20
 refine mv (v := .tuple ⟨[_, _, _]⟩) rfl <| Wp rfl <| st_extract (vs := [_, _, _]) (v := .agg ⟨[.int _ _, S _, .bool _, .bool _, .slice _ _ _, .slice _ _ _, .slice _ _ _, .slice _ _ _, .slice _ _ _]⟩) rfl rfl <| Wp rfl <| st_extract (vs := [_, _, _]) (v := .int _ _) rfl rfl <| Wp rfl <| st_extract (vs := [_, _, _]) (v := .int _ _) rfl rfl <| Wp rfl <| st_alloc T.zero30 ?_
 intro b7 w21 e22 c23 hb24
 have ge_b7 := gB e22 HC.size
 have ne_b1_b7 := nF e22 hb9.ne_size
 have ne_b4_b7 := nF e22 hb18.ne_size
 have gq_szE_b7 : w1.heap.size ≤ b7 := by rw [e22]; exact szE
 have gq_szF_b7 : w10.heap.size ≤ b7 := by rw [e22]; exact szF
 have gq_szH_b7 : w19.heap.size ≤ b7 := by rw [e22]; exact szH
 replace HC := HC.then c23
 replace hvE := Enc.chg hvE c23 q8
 replace szE := Nat.le_trans szE c23.size
 replace hb9 := hb9.tr0 c23
 replace hvF := Enc.chg hvF c23 q8
 replace szF := Nat.le_trans szF c23.size
 replace hb18 := hb18.tr0 c23
 replace szH := Nat.le_trans szH c23.size
 clear e22
 refine Wp rfl <| st_st (v := .agg ⟨[_, _, _, _, _, _, _, _, _]⟩) T.size30 rfl rfl rfl hb24 ?_
 intro w25 c26 hb27; simp only [setVs, setV] at hb27
 clear hb24
 replace HC := HC.then1 c26 ge_b7
 replace hvE := Enc.chg hvE c26 q3
 replace szE := Nat.le_trans szE c26.size
 replace hb9 := hb9.tr1 c26 ne_b1_b7
 replace hvF := Enc.chg hvF c26 q3
 replace szF := Nat.le_trans szF c26.size
 replace hb18 := hb18.tr1 c26 ne_b4_b7
 replace szH := Nat.le_trans szH c26.size
 refine aI rfl <| aI rfl <| en <| x_seq ?_
 have hKa := (cm_at hvE).1.kids
 have hRb := (cm_at hvF).1.rds
 refine x_region rfl <| mI rfl <| Wp rfl <| st_eql rfl rfl <| mB rfl <| w_split (d := 27) rfl (fun g28 => ?_) (fun g28 => ?_)
 ·try simp only [nm, ne_eq] at g28
  refine w_yes 2 27 true <| st_fieldAddr T.fld30_0 rfl <| w_yes 2 27 true <| st_load1 (v := .int _ _) T.one3 rfl (hb9.cell rfl) <| w_yes 2 27 true <| st_eql rfl rfl <| pT rfl rfl <| mB rfl <| w_split (d := 32) rfl (fun g29 => ?_) (fun g29 => ?_)
  ·try simp only [nm, ne_eq] at g29
   refine w_yes 7 32 true <| st_fieldAddr T.fld30_7 rfl <| w_yes 7 32 true <| st_load1 (v := .slice _ _ _) T.one27 rfl (hb9.cell rfl) <| w_yes 7 32 true <| st_len (ct := #[27]) (by rw [show ((#[27] : Array TypeId)[0]?).bind Tryz.prog.underlying = some (.slice 30) from T.u27]; rfl) rfl <| w_yes 7 32 true <| st_eql rfl rfl <| pT rfl rfl <| mB rfl <| w_split (d := 38) rfl (fun g30 => ?_) (fun g30 => ?_)
   ·try simp only [nm, ne_eq] at g30
    refine w_yes 13 38 true <| st_fieldAddr T.fld30_7 rfl <| w_yes 13 38 true <| st_load1 (v := .slice _ _ _) T.one27 rfl (hb9.cell rfl) ?_
    obtain ⟨lb35, _, vs34, hA31, hR33, hC32⟩ := hKa.at (i := 1) (x := awC0.kids[1]) (rfl)
    have hvG := hR33
    obtain ⟨A1G, n1G, A2G, n2G, A3G, n3G, A4G, n4G, A5G, n5G, rfl, hAG, k1G, k2G, k3G, k4G, k5G⟩ := cm_open hR33
    refine w_yes 13 38 true <| st_indexAddr T.u27 T.size30 (congrArg (fun z => Value.slice z _ _) hA31) rfl (by decide) (by decide) <| w_yes 13 38 true <| st_fieldAddr T.fld30_0 rfl <| w_yes 13 38 true <| st_load1 (v := .int _ _) T.one3 rfl (hC32.at (j := 0) rfl) <| w_yes 13 38 true <| st_eql rfl rfl <| pT rfl rfl <| mB rfl <| w_split (d := 46) rfl (fun g36 => ?_) (fun g36 => ?_)
    ·try simp only [nm, ne_eq] at g36
     refine w_yes 21 46 true <| st_move (v := .int _ _) rfl <| w_yes 21 46 true <| st_eql rfl rfl <| pT rfl rfl <| mB rfl <| w_split (d := 50) rfl (fun g37 => ?_) (fun g37 => ?_)
     ·try simp only [nm, ne_eq] at g37
      refine w_yes 25 50 true <| st_fieldAddr T.fld30_0 rfl <| w_yes 25 50 true <| st_load1 (v := .int _ _) T.one3 rfl (hb18.cell rfl) <| w_yes 25 50 true <| st_eql rfl rfl <| pT rfl rfl <| mB rfl <| w_split (d := 55) rfl (fun g38 => ?_) (fun g38 => ?_)
      ·try simp only [nm, ne_eq] at g38
       refine w_yes 30 55 true <| st_fieldAddr T.fld30_7 rfl <| w_yes 30 55 true <| st_load1 (v := .slice _ _ _) T.one27 rfl (hb18.cell rfl) <| w_yes 30 55 true <| st_len (ct := #[27]) (by rw [show ((#[27] : Array TypeId)[0]?).bind Tryz.prog.underlying = some (.slice 30) from T.u27]; rfl) rfl <| w_yes 30 55 true <| st_eql rfl rfl <| pT rfl rfl <| mB rfl <| w_split (d := 61) rfl (fun g39 => ?_) (fun g39 => ?_)
       ·try simp only [nm, ne_eq] at g39
        refine w_yes 36 61 true <| st_fieldAddr T.fld30_6 rfl <| w_yes 36 61 true <| st_load1 (v := .slice _ _ _) T.one26 rfl (hb18.cell rfl) <| w_yes 36 61 true <| st_len (ct := #[26]) (by rw [show ((#[26] : Array TypeId)[0]?).bind Tryz.prog.underlying = some (.slice 40) from T.u26]; rfl) rfl <| w_yes 36 61 true <| st_eql rfl rfl <| pT rfl rfl <| mB rfl <| w_split (d := 67) rfl (fun g40 => ?_) (fun g40 => ?_)
        ·try simp only [nm, ne_eq] at g40
         refine w_yes 42 67 true <| st_fieldAddr T.fld30_6 rfl <| w_yes 42 67 true <| st_load1 (v := .slice _ _ _) T.one26 rfl (hb18.cell rfl) ?_
         obtain ⟨lb45, _, vs44, hA41, hR43, hC42⟩ := hRb.at (i := 0) (x := (⟨1, [62], [102], [], false⟩ : Rdr)) (rfl)
         obtain rfl : vs44 = rdrC (⟨1, [62], [102], [], false⟩ : Rdr) := hR43
         refine w_yes 42 67 true <| st_indexAddr T.u26 T.size40 (congrArg (fun z => Value.slice z _ _) hA41) rfl (by decide) (by decide) <| w_yes 42 67 true <| st_loadA (vs := [_, _, _, _, _]) T.agg40 rfl hC42 rfl <| w_yes 42 67 true <| st_bld (ps := [(0, .const (.int .i64 1)), (1, .const (S [62])), (2, .const (S [102]))]) (vs := [.int _ _, S _, S _, S _, .bool _]) T.bld40 rfl <| w_yes 42 67 true <| st_aeql T.eq40 rfl rfl rfl <| pT rfl rfl <| mB rfl <| w_split (d := 75) rfl (fun g46 => ?_) (fun g46 => ?_)
         ·try simp only [nm, ne_eq] at g46
          refine w_yes 50 75 true <| st_move (v := .int _ _) rfl <| w_yes 50 75 true <| st_eql rfl rfl <| pT rfl rfl <| mB rfl <| w_split (d := 79) rfl (fun g47 => ?_) (fun g47 => ?_)
          ·try simp only [nm, ne_eq] at g47
           refine w_yes 54 79 true <| st_move (v := .int _ _) rfl <| w_yes 54 79 true <| st_eql rfl rfl <| pT rfl rfl <| aB rfl <| en <| x_ret <| ret_tmp (v := .bool _) rfl rfl ?_
           exact ⟨rfl, HC⟩
          ·try simp only [nm, ne_eq] at g47
           first | exact absurd rfl g47 | exact absurd trivial g47 | (simp at g47; done) | exact absurd g47 (by decide)
         ·try simp only [nm, ne_eq] at g46
          first | exact absurd rfl g46 | exact absurd trivial g46 | (simp at g46; done) | exact absurd g46 (by decide)
        ·try simp only [nm, ne_eq] at g40
         first | exact absurd rfl g40 | exact absurd trivial g40 | (simp at g40; done) | exact absurd g40 (by decide)
       ·try simp only [nm, ne_eq] at g39
        first | exact absurd rfl g39 | exact absurd trivial g39 | (simp at g39; done) | exact absurd g39 (by decide)
      ·try simp only [nm, ne_eq] at g38
       first | exact absurd rfl g38 | exact absurd trivial g38 | (simp at g38; done) | exact absurd g38 (by decide)
     ·try simp only [nm, ne_eq] at g37
      first | exact absurd rfl g37 | exact absurd trivial g37 | (simp at g37; done) | exact absurd g37 (by decide)
    ·try simp only [nm, ne_eq] at g36
     first | exact absurd rfl g36 | exact absurd trivial g36 | (simp at g36; done) | exact absurd g36 (by decide)
   ·try simp only [nm, ne_eq] at g30
    first | exact absurd rfl g30 | exact absurd trivial g30 | (simp at g30; done) | exact absurd g30 (by decide)
  ·try simp only [nm, ne_eq] at g29
   first | exact absurd rfl g29 | exact absurd trivial g29 | (simp at g29; done) | exact absurd g29 (by decide)
 ·try simp only [nm, ne_eq] at g28
  first | exact absurd rfl g28 | exact absurd trivial g28 | (simp at g28; done) | exact absurd g28 (by decide)

end Go.Proofs.YtghjmiggobpmoaaGreatDoor.K
