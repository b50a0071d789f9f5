import Derived.Test.YtpelmhoocepenaaGreatDoorWg
set_option linter.unusedVariables false
set_option linter.unusedSimpArgs false
set_option autoImplicit false
set_option maxRecDepth 20000
namespace Go.Proofs.YtpelmhoocepenaaGreatDoor.K
open Go Go.Proofs Go.RowKit

theorem HasSuffix_spec (s p : Bytes) (w : World) (hs : s.length ≤ 9223372036854775807) : CallR Tryz.prog 65 #[S s, S p] w fun v w' => v = .bool (Lib.hasSuffix s p) ∧ Chg [] w w' :=
  CallR.of (Tryz.strings_HasSuffix ⟨⟨s⟩⟩ ⟨⟨p⟩⟩ w hs) fun e w' ⟨h1, h2⟩ => ⟨_, h1, rfl, .refl' h2⟩
theorem badP_ok {Z : Tre} {cwd : Int} {p : Bytes} (h : badP Z cwd p = 0) : p.length ≤ 1024 ∧ p ≠ [] ∧ dirV Z cwd = true := by
  unfold badP at h
  split at h
  · exact absurd h (by decide)
  · rename_i h1
    split at h
    · exact absurd h (by decide)
    · rename_i h2
      split at h
      · exact absurd h (by decide)
      · rename_i h3; exact ⟨by omega, h1, by simpa using h2⟩

theorem Walk_spec {Z : Tre} {An : Option Addr} {capn : Nat} {mx my : Int} {D : Nat → Prop} {w : World} (hT : Sl inE w D An Z) (hTl : Z.length ≤ 1000000000) (hF : FitT Z) (cwd : Int) (p : Bytes) (follow : Bool) (hmx : MaxT w) (hp : p.length ≤ 140737488355328) : CallR Tryz.prog 52 #[.agg ⟨[.slice An Z.length capn, .int .i64 mx, .int .i64 my]⟩, .int .i64 cwd, S p, .bool follow] w fun v w' => v = .tuple ⟨[.int .i64 (walkV Z cwd p follow).1, .int .i64 (walkV Z cwd p follow).2]⟩ ∧ Chg [] w w' := by
 replace hT := hT.mono (D' := fun k => k < w.heap.size) (fun k hk _ => hk)
 refine callR_of_wp (args := [_, _, _, _]) Tryz.func52 rfl (Nat.le_of_ble_eq_true rfl) ?_
 have HC : Chg [] w w := .refl _
 have hm1 := hmx.lt
 refine sr rfl <| Wp rfl <| st_box (v := .agg ⟨[.slice _ _ _, .int _ _, .int _ _]⟩) (vs := [_, _, _]) rfl rfl ?_
 intro b4 w1 e2 c3 hb4
 have ge_b4 : w.heap.size ≤ b4 := by rw [e2]; exact HC.size
 replace HC := HC.then c3
 replace hT := hT.tr0 c3
 replace hmx := hmx.tr0 c3
 clear e2
 refine aI rfl <| aI rfl <| en <| x_seq ?_
 obtain ⟨w1, hw1⟩ : ∃ W, W = w1 := ⟨_, rfl⟩
 subst hw1
 have HC1 : Chg [] w1 w1 := .refl _
 have hTs := hT
 have hbs := hb4
 have HCs := HC
 have hms := hmx
 refine x_region rfl <| Wp rfl <| st_loadA (vs := [_, _, _]) T.agg24 rfl (hb4.cells (n := 3) (vs := [_, _, _]) rfl) rfl <| mI rfl <| mS rfl <| Wp rfl <| st_call (ags := [_, _, _]) rfl rfl T.ent64 rfl (begin_spec hT hTl cwd p hmx hp) ?_
 rintro _ w5 ⟨⟨x, rfl, hbd⟩, c6⟩
 replace HC := HC.then c6
 replace hT := hT.tr0 c6
 replace hmx := hmx.tr0 c6
 replace hb4 := hb4.tr0 c6
 replace HC1 := HC1.then c6
 refine mv (v := .tuple ⟨[_, _]⟩) rfl <| Wp rfl <| st_extract (vs := [_, _]) (v := x) rfl rfl <| Wp rfl <| st_extract (vs := [_, _]) (v := .int _ _) rfl rfl <| av (v := x) rfl <| aI rfl <| en <| x_seq <| x_seq ?_
 rcases (Decidable.em (¬ badP Z cwd p = 0)).imp_right Decidable.not_not.1 with hb0 | hb0
 ·have hwv : walkV Z cwd p follow = (0, badP Z cwd p) := by unfold walkV; rw [if_pos hb0]
  refine x_region rfl <| mI rfl <| Wp rfl <| st_neq rfl rfl <| en <| x_cond rfl (fun h0 => ?_) (fun h0 => ?_)
  ·try simp only [nm, ne_eq] at h0
   refine sr rfl <| mI rfl <| aI rfl <| aI rfl <| en <| x_ret <| then_r <| ret_tmp2 (v := .int _ _) (v2 := .int _ _) rfl rfl rfl ?_
   rw [hwv]
   exact ⟨rfl, HC⟩
  ·try simp only [nm, ne_eq] at h0
   exact absurd h0 hb0
 ·obtain ⟨b, Al, capl, rfl, hbl, hbk, hol⟩ := hbd hb0
  obtain ⟨hp1, hpn, hdc⟩ := badP_ok hb0
  have hpl : (partsV p).length ≤ p.length := partsF_len (p.length + 1) p
  have hmq : mW ⟨curV p cwd, partsV p, 0⟩ < 600000 := by show (partsV p).length + ((8 : Int) - 0).toNat * 70000 < 600000; rw [show ((8 : Int) - 0).toNat = 8 from rfl]; omega
  refine x_region rfl <| mI rfl <| Wp rfl <| st_neq rfl rfl <| en <| x_cond rfl (fun h0 => ?_) (fun h0 => ?_)
  ·try simp only [nm, ne_eq] at h0
   exact absurd hb0 h0
  ·try simp only [nm, ne_eq] at h0
   refine x_skip <| then_n <| sr rfl <| mS rfl <| Wp rfl <| st_call (ags := [_, _]) rfl rfl T.ent65 rfl (HasSuffix_spec p [47] _ (by omega)) ?_
   rintro _ w7 ⟨rfl, c8⟩
   replace HC := HC.then c8
   replace hT := hT.tr0 c8
   replace hmx := hmx.tr0 c8
   replace hb4 := hb4.tr0 c8
   replace HC1 := HC1.then c8
   replace hbk := hbk.tr0 c8
   replace hol := hol.tr0 c8
   refine aB rfl <| en <| sr rfl <| mP rfl <| mB rfl <| mB rfl <| w_split (d := 29) rfl (fun g9 => ?_) (fun g9 => ?_)
   ·try simp only [nm, ne_eq] at g9
    have hfo : (follow || Lib.hasSuffix p [47]) = true := by first | (rw [show follow = true by assumption]; rfl) | (rw [show follow = true by simp_all]; rfl)
    refine w_no 2 29 false <| pT rfl rfl ?_
    have hrun := fun last => run_spec (q := ⟨curV p cwd, partsV p, 0⟩) (w0 := w1) last HC1 ((hT).mono (fun k _ hk => Nat.lt_of_lt_of_le hk HCs.size)) hTl hF hbk hol hbl hmx (Nat.lt_of_lt_of_le hm1 HCs.size) hmq (by show (0 : Int) ≤ 0; decide) (by show (0 : Int) ≤ 8; decide)
    refine Wp rfl <| st_call (ags := [_, _]) rfl rfl T.ent66 rfl (hrun _) ?_
    rintro _ w10 ⟨rfl, c11⟩
    have HC2 := HCs.then c11
    have hT2 := hTs.tr0 c11
    have hb42 := hbs.tr0 c11
    refine mv (v := .tuple ⟨[_, _]⟩) rfl <| Wp rfl <| st_extract (vs := [_, _]) (v := .int _ _) rfl rfl <| Wp rfl <| st_extract (vs := [_, _]) (v := .int _ _) rfl rfl <| aI rfl <| aI rfl <| en <| x_seq <| x_seq ?_
    have hwn : ¬ ¬ badP Z cwd p = 0 := fun h => h hb0
    refine x_region rfl <| mI rfl <| Wp rfl <| st_eql rfl rfl <| mB rfl <| w_split (d := 37) rfl (fun g12 => ?_) (fun g12 => ?_)
    ·try simp only [nm, ne_eq] at g12
     refine w_yes 2 37 true <| st_move (v := .bool _) rfl <| pT rfl rfl <| mB rfl <| w_split (d := 40) rfl (fun g13 => ?_) (fun g13 => ?_)
     ·try simp only [nm, ne_eq] at g13
      refine w_yes 5 40 true <| st_loadA (vs := [_, _, _]) T.agg24 rfl (hb42.cells (n := 3) (vs := [_, _, _]) rfl) rfl <| w_yes 5 40 true <| st_move (v := .int _ _) rfl <| w_yes 5 40 true <| st_call (ags := [_, _]) rfl rfl T.ent67 rfl (wdir_spec hT2 hTl _) ?_
      rintro _ w14 ⟨rfl, c15⟩
      replace HC2 := HC2.then c15
      replace hT2 := hT2.tr0 c15
      replace hb42 := hb42.tr0 c15
      refine w_yes 5 40 true <| st_not rfl <| pT rfl rfl <| en <| x_cond rfl (fun h1 => ?_) (fun h1 => ?_)
      ·try simp only [nm, ne_eq] at h1
       refine sr rfl <| aI rfl <| aI rfl <| en <| x_ret <| then_r <| ret_tmp2 (v := .int _ _) (v2 := .int _ _) rfl rfl rfl <| ⟨?_, HC2⟩
       unfold walkV; rw [if_neg hwn, hfo]
       first | (rw [if_pos (by refine ⟨?_, ?_, ?_⟩ <;> first | assumption | simp_all)]; rfl; done) | (rw [if_neg (by rintro ⟨h1, h2, h3⟩; simp_all)]; rfl; done) | (simp_all; done)
      ·try simp only [nm, ne_eq] at h1
       refine x_skip <| then_n <| sr rfl <| mI rfl <| mI rfl <| aI rfl <| aI rfl <| en <| x_ret <| ret_tmp2 (v := .int _ _) (v2 := .int _ _) rfl rfl rfl <| ⟨?_, HC2⟩
       unfold walkV; rw [if_neg hwn, hfo]
       first | (rw [if_pos (by refine ⟨?_, ?_, ?_⟩ <;> first | assumption | simp_all)]; rfl; done) | (rw [if_neg (by rintro ⟨h1, h2, h3⟩; simp_all)]; rfl; done) | (simp_all; done)
     ·try simp only [nm, ne_eq] at g13
      iterate 4 refine w_no 5 40 true ?_
      refine pF rfl rfl <| en <| x_cond (t := false) rfl (fun h1 => ?_) (fun h1 => ?_)
      · exact absurd h1 (by decide)
      refine x_skip <| then_n <| sr rfl <| mI rfl <| mI rfl <| aI rfl <| aI rfl <| en <| x_ret <| ret_tmp2 (v := .int _ _) (v2 := .int _ _) rfl rfl rfl <| ⟨?_, HC2⟩
      unfold walkV; rw [if_neg hwn, hfo]
      first | (rw [if_pos (by refine ⟨?_, ?_, ?_⟩ <;> first | assumption | simp_all)]; rfl; done) | (rw [if_neg (by rintro ⟨h1, h2, h3⟩; simp_all)]; rfl; done) | (simp_all; done)
    ·try simp only [nm, ne_eq] at g12
     refine w_no 2 37 true <| pF rfl rfl <| mB rfl ?_
     iterate 4 refine w_no 5 40 true ?_
     refine pF rfl rfl <| en <| x_cond (t := false) rfl (fun h1 => ?_) (fun h1 => ?_)
     · exact absurd h1 (by decide)
     refine x_skip <| then_n <| sr rfl <| mI rfl <| mI rfl <| aI rfl <| aI rfl <| en <| x_ret <| ret_tmp2 (v := .int _ _) (v2 := .int _ _) rfl rfl rfl <| ⟨?_, HC2⟩
     unfold walkV; rw [if_neg hwn, hfo]
     first | (rw [if_pos (by refine ⟨?_, ?_, ?_⟩ <;> first | assumption | simp_all)]; rfl; done) | (rw [if_neg (by rintro ⟨h1, h2, h3⟩; simp_all)]; rfl; done) | (simp_all; done)
   ·try simp only [nm, ne_eq] at g9
    have hfo : (follow || Lib.hasSuffix p [47]) = Lib.hasSuffix p [47] := by first | (rw [show follow = false by assumption]; rfl) | (rw [show follow = false by simp_all]; rfl)
    refine w_yes 2 29 false <| st_move (v := .bool _) rfl <| pF rfl rfl ?_
    have hrun := fun last => run_spec (q := ⟨curV p cwd, partsV p, 0⟩) (w0 := w1) last HC1 ((hT).mono (fun k _ hk => Nat.lt_of_lt_of_le hk HCs.size)) hTl hF hbk hol hbl hmx (Nat.lt_of_lt_of_le hm1 HCs.size) hmq (by show (0 : Int) ≤ 0; decide) (by show (0 : Int) ≤ 8; decide)
    refine Wp rfl <| st_call (ags := [_, _]) rfl rfl T.ent66 rfl (hrun _) ?_
    rintro _ w16 ⟨rfl, c17⟩
    have HC2 := HCs.then c17
    have hT2 := hTs.tr0 c17
    have hb42 := hbs.tr0 c17
    refine mv (v := .tuple ⟨[_, _]⟩) rfl <| Wp rfl <| st_extract (vs := [_, _]) (v := .int _ _) rfl rfl <| Wp rfl <| st_extract (vs := [_, _]) (v := .int _ _) rfl rfl <| aI rfl <| aI rfl <| en <| x_seq <| x_seq ?_
    have hwn : ¬ ¬ badP Z cwd p = 0 := fun h => h hb0
    refine x_region rfl <| mI rfl <| Wp rfl <| st_eql rfl rfl <| mB rfl <| w_split (d := 37) rfl (fun g18 => ?_) (fun g18 => ?_)
    ·try simp only [nm, ne_eq] at g18
     refine w_yes 2 37 true <| st_move (v := .bool _) rfl <| pT rfl rfl <| mB rfl <| w_split (d := 40) rfl (fun g19 => ?_) (fun g19 => ?_)
     ·try simp only [nm, ne_eq] at g19
      refine w_yes 5 40 true <| st_loadA (vs := [_, _, _]) T.agg24 rfl (hb42.cells (n := 3) (vs := [_, _, _]) rfl) rfl <| w_yes 5 40 true <| st_move (v := .int _ _) rfl <| w_yes 5 40 true <| st_call (ags := [_, _]) rfl rfl T.ent67 rfl (wdir_spec hT2 hTl _) ?_
      rintro _ w20 ⟨rfl, c21⟩
      replace HC2 := HC2.then c21
      replace hT2 := hT2.tr0 c21
      replace hb42 := hb42.tr0 c21
      refine w_yes 5 40 true <| st_not rfl <| pT rfl rfl <| en <| x_cond rfl (fun h1 => ?_) (fun h1 => ?_)
      ·try simp only [nm, ne_eq] at h1
       refine sr rfl <| aI rfl <| aI rfl <| en <| x_ret <| then_r <| ret_tmp2 (v := .int _ _) (v2 := .int _ _) rfl rfl rfl <| ⟨?_, HC2⟩
       unfold walkV; rw [if_neg hwn, hfo]
       first | (rw [if_pos (by refine ⟨?_, ?_, ?_⟩ <;> first | assumption | simp_all)]; rfl; done) | (rw [if_neg (by rintro ⟨h1, h2, h3⟩; simp_all)]; rfl; done) | (simp_all; done)
      ·try simp only [nm, ne_eq] at h1
       refine x_skip <| then_n <| sr rfl <| mI rfl <| mI rfl <| aI rfl <| aI rfl <| en <| x_ret <| ret_tmp2 (v := .int _ _) (v2 := .int _ _) rfl rfl rfl <| ⟨?_, HC2⟩
       unfold walkV; rw [if_neg hwn, hfo]
       first | (rw [if_pos (by refine ⟨?_, ?_, ?_⟩ <;> first | assumption | simp_all)]; rfl; done) | (rw [if_neg (by rintro ⟨h1, h2, h3⟩; simp_all)]; rfl; done) | (simp_all; done)
     ·try simp only [nm, ne_eq] at g19
      iterate 4 refine w_no 5 40 true ?_
      refine pF rfl rfl <| en <| x_cond (t := false) rfl (fun h1 => ?_) (fun h1 => ?_)
      · exact absurd h1 (by decide)
      refine x_skip <| then_n <| sr rfl <| mI rfl <| mI rfl <| aI rfl <| aI rfl <| en <| x_ret <| ret_tmp2 (v := .int _ _) (v2 := .int _ _) rfl rfl rfl <| ⟨?_, HC2⟩
      unfold walkV; rw [if_neg hwn, hfo]
      first | (rw [if_pos (by refine ⟨?_, ?_, ?_⟩ <;> first | assumption | simp_all)]; rfl; done) | (rw [if_neg (by rintro ⟨h1, h2, h3⟩; simp_all)]; rfl; done) | (simp_all; done)
    ·try simp only [nm, ne_eq] at g18
     refine w_no 2 37 true <| pF rfl rfl <| mB rfl ?_
     iterate 4 refine w_no 5 40 true ?_
     refine pF rfl rfl <| en <| x_cond (t := false) rfl (fun h1 => ?_) (fun h1 => ?_)
     · exact absurd h1 (by decide)
     refine x_skip <| then_n <| sr rfl <| mI rfl <| mI rfl <| aI rfl <| aI rfl <| en <| x_ret <| ret_tmp2 (v := .int _ _) (v2 := .int _ _) rfl rfl rfl <| ⟨?_, HC2⟩
     unfold walkV; rw [if_neg hwn, hfo]
     first | (rw [if_pos (by refine ⟨?_, ?_, ?_⟩ <;> first | assumption | simp_all)]; rfl; done) | (rw [if_neg (by rintro ⟨h1, h2, h3⟩; simp_all)]; rfl; done) | (simp_all; done)

end Go.Proofs.YtpelmhoocepenaaGreatDoor.K
set_option linter.unusedVariables false
set_option linter.unusedSimpArgs false
set_option autoImplicit false
set_option maxRecDepth 20000
namespace Go.Proofs.YtpelmhoocepenaaGreatDoor.K
open Go Go.Proofs Go.RowKit

theorem nxt_in {Z : Tre} (hF : FitT Z) {last : Bool} {q : Wst} {x : Bytes} {l : List Bytes} (hc : 0 ≤ q.cur ∧ q.cur < Z.length) (h : (nxtW Z last q x l).1 = 0) : 0 ≤ (nxtW Z last q x l).2.cur ∧ (nxtW Z last q x l).2.cur < Z.length := by
  have hr := dir_in hF.root
  unfold nxtW at h ⊢
  by_cases c1 : ¬ (stepV Z q.cur x).2 = 0
  · rw [if_pos c1] at h; exact absurd h c1
  rw [if_neg c1] at h ⊢
  have hs := step_in hF (Decidable.not_not.1 c1)
  split
  · exact hs
  · split
    · exact hc
    · show 0 ≤ curV _ q.cur ∧ curV _ q.cur < _
      unfold curV; split
      · exact hr
      · exact hc
theorem goV_in {Z : Tre} (hF : FitT Z) {last : Bool} : ∀ (k : Nat) (q : Wst), 0 ≤ q.cur ∧ q.cur < Z.length → (goV Z last k q).2 = 0 → 0 ≤ (goV Z last k q).1 ∧ (goV Z last k q).1 < Z.length
  | 0, q, _, _ => dir_in hF.root
  | k + 1, q, hc, h => by
    rw [goV] at h ⊢
    cases hq : q.left with
    | nil => exact hc
    | cons x l =>
      rw [hq] at h
      simp only at h ⊢
      by_cases c1 : ¬ (nxtW Z last q x l).1 = 0
      · rw [if_pos c1] at h; exact absurd h c1
      · rw [if_neg c1] at h ⊢
        exact goV_in hF k _ (nxt_in hF hc (Decidable.not_not.1 c1)) h
theorem walk_inT {Z : Tre} (hF : FitT Z) {cwd : Int} {p : Bytes} {follow : Bool} (h : (walkV Z cwd p follow).2 = 0) : 0 ≤ (walkV Z cwd p follow).1 ∧ (walkV Z cwd p follow).1 < Z.length := by
  unfold walkV at h ⊢
  by_cases c1 : ¬ badP Z cwd p = 0
  · rw [if_pos c1] at h; exact absurd h c1
  rw [if_neg c1] at h ⊢
  obtain ⟨_, _, hd⟩ := badP_ok (Decidable.not_not.1 c1)
  have hc : 0 ≤ curV p cwd ∧ curV p cwd < Z.length := by
    unfold curV; split
    · exact dir_in hF.root
    · exact dir_in hd
  split at h
  · exact absurd (show (20 : Int) = 0 from h) (by decide)
  · rename_i c2
    rw [if_neg c2]
    exact goV_in hF _ _ hc h
def truN (b : Bool) : Int := if b = true then 0 else 1
def turnN (n : Int) : Int := if n = 2 then 2 else 1 - n
/-- What is told of an inode at a path. -/
def inodeV (Z : Tre) (cwd : Int) (p : Bytes) (follow : Bool) (g : Int → Bool) : Int := truN (decide ((walkV Z cwd p follow).2 = 0) && g (walkV Z cwd p follow).1)
def unV (Z : Tre) (cwd : Int) (op s : Bytes) : Int :=
  if op = [45, 110] then truN (!decide (s = []))
  else if op = [45, 122] then truN (decide (s = []))
  else if op = [45, 101] then inodeV Z cwd s true fun _ => true
  else if op = [45, 102] then inodeV Z cwd s true fun k => decide (kindV Z k = 1)
  else if op = [45, 100] then inodeV Z cwd s true fun k => decide (kindV Z k = 2)
  else if op = [45, 104] then inodeV Z cwd s false fun k => decide (kindV Z k = 3)
  else if op = [45, 76] then inodeV Z cwd s false fun k => decide (kindV Z k = 3)
  else if op = [45, 115] then inodeV Z cwd s true fun k => decide (kindV Z k = 2) || !decide (dataV Z k = [])
  else if op = [45, 114] then inodeV Z cwd s true fun k => mayV Z k 4
  else if op = [45, 119] then inodeV Z cwd s true fun k => mayV Z k 2
  else if op = [45, 120] then inodeV Z cwd s true fun k => mayV Z k 1
  else 2

theorem truth_spec (b : Bool) (w : World) : CallR Tryz.prog 26 #[.bool b] w fun v w' => v = .int .i64 (truN b) ∧ Chg [] w w' := by
 refine callR_of_wp (args := [_]) Tryz.func26 rfl (Nat.le_of_ble_eq_true rfl) ?_
 have HC : Chg [] w w := .refl _
 refine sr rfl <| aI rfl <| en <| x_seq <| sr rfl <| mB rfl <| en <| x_cond rfl (fun h0 => ?_) (fun h0 => ?_)
 ·try simp only [nm, ne_eq] at h0
  refine sr rfl <| aI rfl <| en <| x_ret <| then_r <| ret_tmp (v := .int _ _) rfl rfl ?_
  rw [show b = true by simpa using h0]
  exact ⟨rfl, HC⟩
 ·try simp only [nm, ne_eq] at h0
  refine x_skip <| then_n <| sr rfl <| aI rfl <| en <| x_ret <| ret_tmp (v := .int _ _) rfl rfl ?_
  rw [show b = false by simpa using h0]
  exact ⟨rfl, HC⟩

theorem inode_spec {Z : Tre} {An : Option Addr} {capn : Nat} {mx my : Int} {cwd : Int} {D : Nat → Prop} {w : World} (hT : Sl inE w D An Z) (hTl : Z.length ≤ 1000000000) (hF : FitT Z) (p : Bytes) (follow : Bool) {cb : FuncId} {caps : Array Value} (g : Int → Bool) (hent : ∀ args (w : World), (callFunc cb args).run Tryz.prog w = .ok (.enter cb args) w) (hcb : ∀ W, Chg [] w W → (walkV Z cwd p follow).2 = 0 → CallR Tryz.prog cb ⟨.int .i64 (walkV Z cwd p follow).1 :: caps.toList⟩ W fun v W' => v = .bool (g (walkV Z cwd p follow).1) ∧ Chg [] W W') (hmx : MaxT w) (hp : p.length ≤ 140737488355328) : CallR Tryz.prog 36 #[.agg ⟨[.slice An Z.length capn, .int .i64 mx, .int .i64 my, .int .i64 cwd]⟩, S p, .bool follow, .func (.func cb) #[] caps] w fun v w' => v = .int .i64 (inodeV Z cwd p follow g) ∧ Chg [] w w' := by
 replace hT := hT.mono (D' := fun k => k < w.heap.size) (fun k hk _ => hk)
 refine callR_of_wp (args := [_, _, _, _]) Tryz.func36 rfl (Nat.le_of_ble_eq_true rfl) ?_
 have HC : Chg [] w w := .refl _
 have hm1 := hmx.lt
 refine sr rfl <| Wp rfl <| st_box (v := .agg ⟨[.slice _ _ _, .int _ _, .int _ _, .int _ _]⟩) (vs := [_, _, _, _]) rfl rfl ?_
 intro b4 w1 e2 c3 hb4
 have ge_b4 : w.heap.size ≤ b4 := by rw [e2]; exact HC.size
 replace HC := HC.then c3
 replace hT := hT.tr0 c3
 replace hmx := hmx.tr0 c3
 clear e2
 refine aI rfl <| en <| sr rfl <| fa T.fld34_0 rfl <| Wp rfl <| st_loadA (vs := [_, _, _]) T.agg24 rfl (hb4.cells (n := 3) (vs := [_, _, _]) rfl) rfl <| fa T.fld34_1 rfl <| lI T.one3 rfl (hb4.cell rfl) <| mS rfl <| mB rfl <| Wp rfl <| st_call (ags := [_, _, _, _]) rfl rfl T.ent52 rfl (Walk_spec hT hTl hF cwd p follow hmx hp) ?_
 rintro _ w5 ⟨rfl, c6⟩
 replace HC := HC.then c6
 replace hT := hT.tr0 c6
 replace hmx := hmx.tr0 c6
 replace hb4 := hb4.tr0 c6
 refine mv (v := .tuple ⟨[_, _]⟩) rfl <| Wp rfl <| st_extract (vs := [_, _]) (v := .int _ _) rfl rfl <| Wp rfl <| st_extract (vs := [_, _]) (v := .int _ _) rfl rfl <| aI rfl <| aI rfl <| en <| sr rfl <| mI rfl <| Wp rfl <| st_eql rfl rfl <| mB rfl <| w_split (d := 23) rfl (fun g7 => ?_) (fun g7 => ?_)
 ·try simp only [nm, ne_eq] at g7
  refine w_yes 2 23 true <| st_move (v := .func _ _ _) rfl <| w_yes 2 23 true <| st_move (v := .int _ _) rfl <| w_yes 2 23 true <| st_call (f := cb) (cap := caps) (ags := .int .i64 _ :: caps.toList) rfl rfl hent rfl (hcb _ HC (by assumption)) ?_
  rintro _ w8 ⟨rfl, c9⟩
  replace HC := HC.then c9
  replace hT := hT.tr0 c9
  replace hmx := hmx.tr0 c9
  replace hb4 := hb4.tr0 c9
  refine pT rfl rfl <| Wp rfl <| st_call (ags := [_]) rfl rfl T.ent26 rfl (truth_spec _ _) ?_
  rintro _ w10 ⟨rfl, c11⟩
  replace HC := HC.then c11
  replace hT := hT.tr0 c11
  replace hmx := hmx.tr0 c11
  replace hb4 := hb4.tr0 c11
  refine aI rfl <| en <| x_ret <| ret_tmp (v := .int _ _) rfl rfl <| ⟨?_, HC⟩
  unfold inodeV; rw [decide_eq_true (by first | assumption | simpa using (by assumption : decide ((walkV Z cwd p follow).2 = 0) = true))]; rfl
 ·try simp only [nm, ne_eq] at g7
  iterate 3 refine w_no 2 23 true ?_
  refine pF rfl rfl <| Wp rfl <| st_call (ags := [_]) rfl rfl T.ent26 rfl (truth_spec _ _) ?_
  rintro _ w12 ⟨rfl, c13⟩
  replace HC := HC.then c13
  replace hT := hT.tr0 c13
  replace hmx := hmx.tr0 c13
  replace hb4 := hb4.tr0 c13
  refine aI rfl <| en <| x_ret <| ret_tmp (v := .int _ _) rfl rfl <| ⟨?_, HC⟩
  unfold inodeV; rw [decide_eq_false (by first | assumption | simpa using (by assumption : decide ((walkV Z cwd p follow).2 = 0) = false))]; rfl

theorem ckind_spec {Z : Tre} {An : Option Addr} {capn : Nat} {mx my cwd : Int} {b4 : Nat} {D : Nat → Prop} {w : World} (hT : Sl inE w D An Z) (hTl : Z.length ≤ 1000000000) (hb4 : Blk w b4 [.slice An Z.length capn, .int .i64 mx, .int .i64 my, .int .i64 cwd] 34) (k : Int) (hk : 0 ≤ k ∧ k < Z.length) {b7 : Nat} {kd : Int} (hb7 : Blk w b7 [.int .i64 kd] 3) : CallR Tryz.prog 53 #[.int .i64 k, .pointer (some ⟨b4, 0, none⟩), .pointer (some ⟨b7, 0, none⟩)] w fun v w' => v = .bool (decide (kindV Z k = kd)) ∧ Chg [] w w' := by
 replace hT := hT.mono (D' := fun k => k < w.heap.size) (fun k hk _ => hk)
 obtain ⟨x, hx, hxk, hxd, _⟩ := kind_dir hk
 refine callR_of_wp (args := [_, _, _]) Tryz.func53 rfl (Nat.le_of_ble_eq_true rfl) ?_
 have HC : Chg [] w w := .refl _
 refine sr rfl <| aB rfl <| en <| x_seq ?_
 obtain ⟨lb5, _, vs4, hA1, hR3, hC2⟩ := hT.at (i := (k.toNat)) (x := x) (hx)
 obtain ⟨K6, cK6, rfl, hk1_6, hk2_6, hk3_6⟩ := hR3
 refine x_draw [(0, 0), (1, 0), (2, 0), (3, 0), (4, 0), (5, 0), (6, 0), (7, 0), (8, 0), (9, 0)] T.mixed rfl rfl rfl (fun W => W.heap[b4]? = w.heap[b4]? ∧ W.heap[b7]? = w.heap[b7]? ∧ W.heap[lb5]? = w.heap[lb5]? ∧ True) ⟨rfl, rfl, rfl, trivial⟩ ?_
 have o9 := hb4
 have o10 := hb7
 have c8 := Chg.drew w
 generalize World.drew w = w7 at c8 ⊢
 have ht_lb5 : lb5 < w7.heap.size ∧ w7.heap[lb5]? = w.heap[lb5]? := ⟨Nat.lt_of_lt_of_le hC2.lt c8.size, c8.block lb5 hC2.lt (by simp)⟩
 replace HC := HC.then c8
 replace hT := hT.tr0 c8
 replace hb4 := hb4.tr0 c8
 replace hb7 := hb7.tr0 c8
 replace hk3_6 := hk3_6.tr0 c8
 refine sq_q rfl (fun W hT => r_fieldAddr T.fld34_0 rfl) <| sq_q rfl (fun W hT => r_fieldAddr T.fld24_0 rfl) <| sq_q rfl (fun W hT => r_load1 (v := .slice _ _ _) T.one22 rfl (Blk.cell (show Blk W b4 _ _ from hT.1.trans o9) rfl)) <| sq_q rfl (fun W hT => r_move (v := .int _ _) rfl) <| sq_q rfl (fun W hT => r_indexAddr T.u22 T.size44 (congrArg (fun z => Value.slice z _ _) hA1) rfl (by omega) (by omega)) <| sq_q rfl (fun W hT => r_fieldAddr T.fld44_0 rfl) <| sq_q rfl (fun W hT => r_load1 (v := .int _ _) T.one3 rfl (Cells.at (j := 0) (Cells.tr hC2 hT.2.2.1) rfl)) <| sq_q rfl (fun W hT => r_load1 (v := .int _ _) T.one3 rfl (Blk.cell (show Blk W b7 _ _ from hT.2.1.trans o10) rfl)) <| sq_q rfl (fun W hT => r_eql rfl rfl) <| sq_q rfl (fun W hT => r_assign (v := .bool _) rfl) ?_
 clear o9
 clear o10
 refine sq_nil <| then_n <| x_ret <| ret_tmp (v := .bool _) rfl rfl ?_
 rw [hxk]
 exact ⟨rfl, HC⟩

theorem cun1_spec (k : Int) (w : World) : CallR Tryz.prog 37 #[.int .i64 k] w fun v w' => v = .bool true ∧ Chg [] w w' := by
 refine callR_of_wp (args := [_]) Tryz.func37 rfl (Nat.le_of_ble_eq_true rfl) ?_
 have HC : Chg [] w w := .refl _
 refine sr rfl <| aB rfl <| en <| sr rfl <| aB rfl <| en <| x_ret <| ret_tmp (v := .bool _) rfl rfl ?_
 exact ⟨rfl, HC⟩

theorem cun2_spec {Z : Tre} {An : Option Addr} {capn : Nat} {mx my cwd : Int} {b4 : Nat} {D : Nat → Prop} {w : World} (hT : Sl inE w D An Z) (hTl : Z.length ≤ 1000000000) (hb4 : Blk w b4 [.slice An Z.length capn, .int .i64 mx, .int .i64 my, .int .i64 cwd] 34) (k : Int) (hk : 0 ≤ k ∧ k < Z.length) : CallR Tryz.prog 39 #[.int .i64 k, .pointer (some ⟨b4, 0, none⟩)] w fun v w' => v = .bool (decide (kindV Z k = 2) || !decide (dataV Z k = [])) ∧ Chg [] w w' := by
 replace hT := hT.mono (D' := fun k => k < w.heap.size) (fun k hk _ => hk)
 obtain ⟨x, hx, hxk, hxd, _⟩ := kind_dir hk
 refine callR_of_wp (args := [_, _]) Tryz.func39 rfl (Nat.le_of_ble_eq_true rfl) ?_
 have HC : Chg [] w w := .refl _
 refine sr rfl <| aB rfl <| en <| sr rfl <| fa T.fld34_0 rfl <| fa T.fld24_0 rfl <| lL T.one22 rfl (hb4.cell rfl) <| mI rfl ?_
 obtain ⟨lb5, _, vs4, hA1, hR3, hC2⟩ := hT.at (i := (k.toNat)) (x := x) (hx)
 obtain ⟨K6, cK6, rfl, hk1_6, hk2_6, hk3_6⟩ := hR3
 refine Wp rfl <| st_indexAddr T.u22 T.size44 (congrArg (fun z => Value.slice z _ _) hA1) rfl (by omega) (by omega) <| fa T.fld44_0 rfl <| lI T.one3 rfl (hC2.at (j := 0) rfl) <| Wp rfl <| st_eql rfl rfl <| mB rfl <| w_split (d := 12) rfl (fun g7 => ?_) (fun g7 => ?_)
 ·try simp only [nm, ne_eq] at g7
  iterate 8 refine w_no 8 12 false ?_
  refine pT rfl rfl <| aB rfl <| en <| x_ret <| ret_tmp (v := .bool _) rfl rfl <| ⟨?_, HC⟩
  rw [hxk, hxd]; rw [show decide (x.kind = 2) = true from decide_eq_true (by assumption)]; rfl
 ·try simp only [nm, ne_eq] at g7
  refine w_yes 8 12 false <| st_fieldAddr T.fld34_0 rfl <| w_yes 8 12 false <| st_fieldAddr T.fld24_0 rfl <| w_yes 8 12 false <| st_load1 (v := .slice _ _ _) T.one22 rfl (hb4.cell rfl) <| w_yes 8 12 false <| st_move (v := .int _ _) rfl ?_
  obtain ⟨lb12, _, vs11, hA8, hR10, hC9⟩ := hT.at (i := (k.toNat)) (x := x) (hx)
  obtain ⟨K13, cK13, rfl, hk1_13, hk2_13, hk3_13⟩ := hR10
  refine w_yes 8 12 false <| st_indexAddr T.u22 T.size44 (congrArg (fun z => Value.slice z _ _) hA8) rfl (by omega) (by omega) <| w_yes 8 12 false <| st_fieldAddr T.fld44_3 rfl <| w_yes 8 12 false <| st_load1 (v := S _) T.one9 rfl (hC9.at (j := 3) rfl) <| w_yes 8 12 false <| st_sneq rfl rfl <| pF rfl rfl <| aB rfl <| en <| x_ret <| ret_tmp (v := .bool _) rfl rfl <| ⟨?_, HC⟩
  rw [hxk, hxd]; rw [show decide (x.kind = 2) = false from decide_eq_false (by assumption)]; rfl

theorem cmay_spec {Z : Tre} {An : Option Addr} {capn : Nat} {mx my cwd : Int} {b4 : Nat} {D : Nat → Prop} {w : World} (hT : Sl inE w D An Z) (hTl : Z.length ≤ 1000000000) (hb4 : Blk w b4 [.slice An Z.length capn, .int .i64 mx, .int .i64 my, .int .i64 cwd] 34) (k : Int) (hk : 0 ≤ k ∧ k < Z.length) {b7 : Nat} {m : Int} (hm : m = 1 ∨ m = 2 ∨ m = 4) (hb7 : Blk w b7 [.int .i64 m] 3) : CallR Tryz.prog 54 #[.int .i64 k, .pointer (some ⟨b4, 0, none⟩), .pointer (some ⟨b7, 0, none⟩)] w fun v w' => v = .bool (mayV Z k m) ∧ Chg [] w w' := by
 replace hT := hT.mono (D' := fun k => k < w.heap.size) (fun k hk _ => hk)
 obtain ⟨x, hx, hxk, hxd, _⟩ := kind_dir hk
 refine callR_of_wp (args := [_, _, _]) Tryz.func54 rfl (Nat.le_of_ble_eq_true rfl) ?_
 have HC : Chg [] w w := .refl _
 refine sr rfl <| aB rfl <| en <| sr rfl <| fa T.fld34_0 rfl <| Wp rfl <| st_loadA (vs := [_, _, _]) T.agg24 rfl (hb4.cells (n := 3) (vs := [_, _, _]) rfl) rfl <| mI rfl <| lI T.one3 rfl (hb7.cell rfl) <| Wp rfl <| st_call (ags := [_, _, _]) rfl rfl T.ent55 rfl (May_spec hT hTl k m hm) ?_
 rintro _ w1 ⟨rfl, c2⟩
 replace HC := HC.then c2
 replace hT := hT.tr0 c2
 replace hb4 := hb4.tr0 c2
 replace hb7 := hb7.tr0 c2
 refine aB rfl <| en <| x_ret <| ret_tmp (v := .bool _) rfl rfl ?_
 exact ⟨rfl, HC⟩

theorem kind_spec {Z : Tre} {An : Option Addr} {capn : Nat} {mx my : Int} {cwd : Int} {D : Nat → Prop} {w : World} (hT : Sl inE w D An Z) (hTl : Z.length ≤ 1000000000) (hF : FitT Z) (p : Bytes) (follow : Bool) (kd : Int) (hmx : MaxT w) (hp : p.length ≤ 140737488355328) : CallR Tryz.prog 38 #[.agg ⟨[.slice An Z.length capn, .int .i64 mx, .int .i64 my, .int .i64 cwd]⟩, S p, .bool follow, .int .i64 kd] w fun v w' => v = .int .i64 (inodeV Z cwd p follow fun k => decide (kindV Z k = kd)) ∧ Chg [] w w' := by
 replace hT := hT.mono (D' := fun k => k < w.heap.size) (fun k hk _ => hk)
 refine callR_of_wp (args := [_, _, _, _]) Tryz.func38 rfl (Nat.le_of_ble_eq_true rfl) ?_
 have HC : Chg [] w w := .refl _
 have hm1 := hmx.lt
 refine sr rfl <| Wp rfl <| st_box (v := .agg ⟨[.slice _ _ _, .int _ _, .int _ _, .int _ _]⟩) (vs := [_, _, _, _]) rfl rfl ?_
 intro b4 w1 e2 c3 hb4
 have ge_b4 : w.heap.size ≤ b4 := by rw [e2]; exact HC.size
 replace HC := HC.then c3
 replace hT := hT.tr0 c3
 replace hmx := hmx.tr0 c3
 clear e2
 refine Wp rfl <| st_box (v := .int _ _) (vs := [_]) rfl rfl ?_
 intro b7 w5 e6 c7 hb8
 have ge_b7 : w.heap.size ≤ b7 := by rw [e6]; exact HC.size
 have ne_b4_b7 : b4 ≠ b7 := by rw [e6]; exact hb4.ne_size
 replace HC := HC.then c7
 replace hT := hT.tr0 c7
 replace hmx := hmx.tr0 c7
 replace hb4 := hb4.tr0 c7
 clear e6
 refine aI rfl <| en <| sr rfl <| Wp rfl <| st_loadA (vs := [_, _, _, _]) T.agg34 rfl (hb4.cells (n := 4) (vs := [_, _, _, _]) rfl) rfl <| mS rfl <| mB rfl <| Wp rfl <| st_makeFunc ?_
 have hTc := hT
 have hb4c := hb4
 have hb7c := hb8
 refine Wp rfl <| st_call (ags := [_, _, _, _]) rfl rfl T.ent36 rfl (inode_spec (cwd := cwd) (cb := 53) (caps := #[.pointer (some ⟨b4, 0, none⟩), .pointer (some ⟨b7, 0, none⟩)]) hT hTl hF p follow (fun k => decide (kindV Z k = kd)) T.ent53 (fun W hc he => ckind_spec (hTc.tr0 hc) hTl (hb4c.tr0 hc) _ (walk_inT hF he) (hb7c.tr0 hc)) hmx hp) ?_
 rintro _ w9 ⟨rfl, c10⟩
 replace HC := HC.then c10
 replace hT := hT.tr0 c10
 replace hmx := hmx.tr0 c10
 replace hb4 := hb4.tr0 c10
 replace hb8 := hb8.tr0 c10
 refine aI rfl <| en <| x_ret <| ret_tmp (v := .int _ _) rfl rfl ?_
 exact ⟨rfl, HC⟩

theorem tmay_spec {Z : Tre} {An : Option Addr} {capn : Nat} {mx my : Int} {cwd : Int} {D : Nat → Prop} {w : World} (hT : Sl inE w D An Z) (hTl : Z.length ≤ 1000000000) (hF : FitT Z) (p : Bytes) (m : Int) (hm : m = 1 ∨ m = 2 ∨ m = 4) (hmx : MaxT w) (hp : p.length ≤ 140737488355328) : CallR Tryz.prog 40 #[.agg ⟨[.slice An Z.length capn, .int .i64 mx, .int .i64 my, .int .i64 cwd]⟩, S p, .int .i64 m] w fun v w' => v = .int .i64 (inodeV Z cwd p true fun k => mayV Z k m) ∧ Chg [] w w' := by
 replace hT := hT.mono (D' := fun k => k < w.heap.size) (fun k hk _ => hk)
 refine callR_of_wp (args := [_, _, _]) Tryz.func40 rfl (Nat.le_of_ble_eq_true rfl) ?_
 have HC : Chg [] w w := .refl _
 have hm1 := hmx.lt
 refine sr rfl <| Wp rfl <| st_box (v := .agg ⟨[.slice _ _ _, .int _ _, .int _ _, .int _ _]⟩) (vs := [_, _, _, _]) rfl rfl ?_
 intro b4 w1 e2 c3 hb4
 have ge_b4 : w.heap.size ≤ b4 := by rw [e2]; exact HC.size
 replace HC := HC.then c3
 replace hT := hT.tr0 c3
 replace hmx := hmx.tr0 c3
 clear e2
 refine Wp rfl <| st_box (v := .int _ _) (vs := [_]) rfl rfl ?_
 intro b7 w5 e6 c7 hb8
 have ge_b7 : w.heap.size ≤ b7 := by rw [e6]; exact HC.size
 have ne_b4_b7 : b4 ≠ b7 := by rw [e6]; exact hb4.ne_size
 replace HC := HC.then c7
 replace hT := hT.tr0 c7
 replace hmx := hmx.tr0 c7
 replace hb4 := hb4.tr0 c7
 clear e6
 refine aI rfl <| en <| sr rfl <| Wp rfl <| st_loadA (vs := [_, _, _, _]) T.agg34 rfl (hb4.cells (n := 4) (vs := [_, _, _, _]) rfl) rfl <| mS rfl <| Wp rfl <| st_makeFunc ?_
 have hTc := hT
 have hb4c := hb4
 have hb7c := hb8
 refine Wp rfl <| st_call (ags := [_, _, _, _]) rfl rfl T.ent36 rfl (inode_spec (cwd := cwd) (cb := 54) (caps := #[.pointer (some ⟨b4, 0, none⟩), .pointer (some ⟨b7, 0, none⟩)]) hT hTl hF p true (fun k => mayV Z k m) T.ent54 (fun W hc he => cmay_spec (hTc.tr0 hc) hTl (hb4c.tr0 hc) _ (walk_inT hF he) hm (hb7c.tr0 hc)) hmx hp) ?_
 rintro _ w9 ⟨rfl, c10⟩
 replace HC := HC.then c10
 replace hT := hT.tr0 c10
 replace hmx := hmx.tr0 c10
 replace hb4 := hb4.tr0 c10
 replace hb8 := hb8.tr0 c10
 refine aI rfl <| en <| x_ret <| ret_tmp (v := .int _ _) rfl rfl ?_
 exact ⟨rfl, HC⟩

theorem unary_spec {Z : Tre} {An : Option Addr} {capn : Nat} {mx my : Int} {cwd : Int} {D : Nat → Prop} {w : World} (hT : Sl inE w D An Z) (hTl : Z.length ≤ 1000000000) (hF : FitT Z) (op p : Bytes) (hmx : MaxT w) (hp : p.length ≤ 140737488355328) : CallR Tryz.prog 28 #[.agg ⟨[.slice An Z.length capn, .int .i64 mx, .int .i64 my, .int .i64 cwd]⟩, S op, S p] w fun v w' => v = .int .i64 (unV Z cwd op p) ∧ Chg [] w w' := by
 replace hT := hT.mono (D' := fun k => k < w.heap.size) (fun k hk _ => hk)
 refine callR_of_wp (args := [_, _, _]) Tryz.func28 rfl (Nat.le_of_ble_eq_true rfl) ?_
 have HC : Chg [] w w := .refl _
 have hm1 := hmx.lt
 refine sr rfl <| Wp rfl <| st_box (v := .agg ⟨[.slice _ _ _, .int _ _, .int _ _, .int _ _]⟩) (vs := [_, _, _, _]) rfl rfl ?_
 intro b4 w1 e2 c3 hb4
 have ge_b4 : w.heap.size ≤ b4 := by rw [e2]; exact HC.size
 replace HC := HC.then c3
 replace hT := hT.tr0 c3
 replace hmx := hmx.tr0 c3
 clear e2
 refine aI rfl <| en <| x_seq <| sr rfl <| mS rfl <| en <| x_block <| sr rfl <| Wp rfl <| st_seql rfl rfl <| aB rfl <| en <| x_cond rfl (fun h0 => ?_) (fun h0 => ?_)
 ·try simp only [nm, ne_eq] at h0
  refine sr rfl <| mS rfl <| Wp rfl <| st_sneq rfl rfl <| Wp rfl <| st_call (ags := [_]) rfl rfl T.ent26 rfl (truth_spec _ _) ?_
  rintro _ w5 ⟨rfl, c6⟩
  replace HC := HC.then c6
  replace hT := hT.tr0 c6
  replace hmx := hmx.tr0 c6
  replace hb4 := hb4.tr0 c6
  refine aI rfl <| en <| x_ret <| block_r <| then_r <| ret_tmp (v := .int _ _) rfl rfl <| ⟨?_, HC⟩
  unfold unV; rw [if_pos (by assumption)]
 ·try simp only [nm, ne_eq] at h0
  refine sr rfl <| Wp rfl <| st_seql rfl rfl <| aB rfl <| en <| x_cond rfl (fun h1 => ?_) (fun h1 => ?_)
  ·try simp only [nm, ne_eq] at h1
   refine sr rfl <| mS rfl <| Wp rfl <| st_seql rfl rfl <| Wp rfl <| st_call (ags := [_]) rfl rfl T.ent26 rfl (truth_spec _ _) ?_
   rintro _ w7 ⟨rfl, c8⟩
   replace HC := HC.then c8
   replace hT := hT.tr0 c8
   replace hmx := hmx.tr0 c8
   replace hb4 := hb4.tr0 c8
   refine aI rfl <| en <| x_ret <| block_r <| then_r <| ret_tmp (v := .int _ _) rfl rfl <| ⟨?_, HC⟩
   unfold unV; rw [if_neg (by assumption), if_pos (by assumption)]
  ·try simp only [nm, ne_eq] at h1
   refine sr rfl <| Wp rfl <| st_seql rfl rfl <| aB rfl <| en <| x_cond rfl (fun h2 => ?_) (fun h2 => ?_)
   ·try simp only [nm, ne_eq] at h2
    refine sr rfl <| Wp rfl <| st_loadA (vs := [_, _, _, _]) T.agg34 rfl (hb4.cells (n := 4) (vs := [_, _, _, _]) rfl) rfl <| mS rfl ?_
    have hTc := hT
    have hb4c := hb4
    skip
    refine Wp rfl <| st_call (ags := [_, _, _, _]) rfl rfl T.ent36 rfl (inode_spec (cwd := cwd) (cb := 37) (caps := #[]) hT hTl hF p true (fun _ => true) T.ent37 (fun W hc he => cun1_spec _ _) hmx hp) ?_
    rintro _ w9 ⟨rfl, c10⟩
    replace HC := HC.then c10
    replace hT := hT.tr0 c10
    replace hmx := hmx.tr0 c10
    replace hb4 := hb4.tr0 c10
    refine aI rfl <| en <| x_ret <| block_r <| then_r <| ret_tmp (v := .int _ _) rfl rfl <| ⟨?_, HC⟩
    unfold unV; rw [if_neg (by assumption), if_neg (by assumption), if_pos (by assumption)]
   ·try simp only [nm, ne_eq] at h2
    refine sr rfl <| Wp rfl <| st_seql rfl rfl <| aB rfl <| en <| x_cond rfl (fun h3 => ?_) (fun h3 => ?_)
    ·try simp only [nm, ne_eq] at h3
     refine sr rfl <| Wp rfl <| st_loadA (vs := [_, _, _, _]) T.agg34 rfl (hb4.cells (n := 4) (vs := [_, _, _, _]) rfl) rfl <| mS rfl <| Wp rfl <| st_call (ags := [_, _, _, _]) rfl rfl T.ent38 rfl (kind_spec hT hTl hF p true 1 hmx hp) ?_
     rintro _ w11 ⟨rfl, c12⟩
     replace HC := HC.then c12
     replace hT := hT.tr0 c12
     replace hmx := hmx.tr0 c12
     replace hb4 := hb4.tr0 c12
     refine aI rfl <| en <| x_ret <| block_r <| then_r <| ret_tmp (v := .int _ _) rfl rfl <| ⟨?_, HC⟩
     unfold unV; rw [if_neg (by assumption), if_neg (by assumption), if_neg (by assumption), if_pos (by assumption)]
    ·try simp only [nm, ne_eq] at h3
     refine sr rfl <| Wp rfl <| st_seql rfl rfl <| aB rfl <| en <| x_cond rfl (fun h4 => ?_) (fun h4 => ?_)
     ·try simp only [nm, ne_eq] at h4
      refine sr rfl <| Wp rfl <| st_loadA (vs := [_, _, _, _]) T.agg34 rfl (hb4.cells (n := 4) (vs := [_, _, _, _]) rfl) rfl <| mS rfl <| Wp rfl <| st_call (ags := [_, _, _, _]) rfl rfl T.ent38 rfl (kind_spec hT hTl hF p true 2 hmx hp) ?_
      rintro _ w13 ⟨rfl, c14⟩
      replace HC := HC.then c14
      replace hT := hT.tr0 c14
      replace hmx := hmx.tr0 c14
      replace hb4 := hb4.tr0 c14
      refine aI rfl <| en <| x_ret <| block_r <| then_r <| ret_tmp (v := .int _ _) rfl rfl <| ⟨?_, HC⟩
      unfold unV; rw [if_neg (by assumption), if_neg (by assumption), if_neg (by assumption), if_neg (by assumption), if_pos (by assumption)]
     ·try simp only [nm, ne_eq] at h4
      refine x_seq <| sr rfl <| Wp rfl <| st_seql rfl rfl <| aB rfl <| en <| x_cond rfl (fun h5 => ?_) (fun h5 => ?_)
      ·try simp only [nm, ne_eq] at h5
       refine x_skip <| then_n <| x_cond rfl (fun h6 => ?_) (fun h6 => ?_)
       rotate_left
       · exfalso; simp_all
       refine sr rfl <| Wp rfl <| st_loadA (vs := [_, _, _, _]) T.agg34 rfl (hb4.cells (n := 4) (vs := [_, _, _, _]) rfl) rfl <| mS rfl <| Wp rfl <| st_call (ags := [_, _, _, _]) rfl rfl T.ent38 rfl (kind_spec hT hTl hF p false 3 hmx hp) ?_
       rintro _ w15 ⟨rfl, c16⟩
       replace HC := HC.then c16
       replace hT := hT.tr0 c16
       replace hmx := hmx.tr0 c16
       replace hb4 := hb4.tr0 c16
       refine aI rfl <| en <| x_ret <| block_r <| then_r <| ret_tmp (v := .int _ _) rfl rfl <| ⟨?_, HC⟩
       unfold unV; rw [if_neg (by assumption), if_neg (by assumption), if_neg (by assumption), if_neg (by assumption), if_neg (by assumption), if_pos (by assumption)]
      ·try simp only [nm, ne_eq] at h5
       refine x_region rfl <| Wp rfl <| st_seql rfl rfl <| aB rfl <| en <| x_cond rfl (fun h6 => ?_) (fun h6 => ?_)
       ·try simp only [nm, ne_eq] at h6
        refine sr rfl <| Wp rfl <| st_loadA (vs := [_, _, _, _]) T.agg34 rfl (hb4.cells (n := 4) (vs := [_, _, _, _]) rfl) rfl <| mS rfl <| Wp rfl <| st_call (ags := [_, _, _, _]) rfl rfl T.ent38 rfl (kind_spec hT hTl hF p false 3 hmx hp) ?_
        rintro _ w17 ⟨rfl, c18⟩
        replace HC := HC.then c18
        replace hT := hT.tr0 c18
        replace hmx := hmx.tr0 c18
        replace hb4 := hb4.tr0 c18
        refine aI rfl <| en <| x_ret <| block_r <| then_r <| ret_tmp (v := .int _ _) rfl rfl <| ⟨?_, HC⟩
        unfold unV; rw [if_neg (by assumption), if_neg (by assumption), if_neg (by assumption), if_neg (by assumption), if_neg (by assumption), if_neg (by assumption), if_pos (by assumption)]
       ·try simp only [nm, ne_eq] at h6
        refine sr rfl <| Wp rfl <| st_seql rfl rfl <| aB rfl <| en <| x_cond rfl (fun h7 => ?_) (fun h7 => ?_)
        ·try simp only [nm, ne_eq] at h7
         refine sr rfl <| Wp rfl <| st_loadA (vs := [_, _, _, _]) T.agg34 rfl (hb4.cells (n := 4) (vs := [_, _, _, _]) rfl) rfl <| mS rfl <| Wp rfl <| st_makeFunc ?_
         have hTc := hT
         have hb4c := hb4
         skip
         refine Wp rfl <| st_call (ags := [_, _, _, _]) rfl rfl T.ent36 rfl (inode_spec (cwd := cwd) (cb := 39) (caps := #[.pointer (some ⟨b4, 0, none⟩)]) hT hTl hF p true (fun k => decide (kindV Z k = 2) || !decide (dataV Z k = [])) T.ent39 (fun W hc he => cun2_spec (hTc.tr0 hc) hTl (hb4c.tr0 hc) _ (walk_inT hF he)) hmx hp) ?_
         rintro _ w19 ⟨rfl, c20⟩
         replace HC := HC.then c20
         replace hT := hT.tr0 c20
         replace hmx := hmx.tr0 c20
         replace hb4 := hb4.tr0 c20
         refine aI rfl <| en <| x_ret <| block_r <| then_r <| ret_tmp (v := .int _ _) rfl rfl <| ⟨?_, HC⟩
         unfold unV; rw [if_neg (by assumption), if_neg (by assumption), if_neg (by assumption), if_neg (by assumption), if_neg (by assumption), if_neg (by assumption), if_neg (by assumption), if_pos (by assumption)]
        ·try simp only [nm, ne_eq] at h7
         refine sr rfl <| Wp rfl <| st_seql rfl rfl <| aB rfl <| en <| x_cond rfl (fun h8 => ?_) (fun h8 => ?_)
         ·try simp only [nm, ne_eq] at h8
          refine sr rfl <| Wp rfl <| st_loadA (vs := [_, _, _, _]) T.agg34 rfl (hb4.cells (n := 4) (vs := [_, _, _, _]) rfl) rfl <| mS rfl <| Wp rfl <| st_call (ags := [_, _, _]) rfl rfl T.ent40 rfl (tmay_spec hT hTl hF p 4 (by simp) hmx hp) ?_
          rintro _ w21 ⟨rfl, c22⟩
          replace HC := HC.then c22
          replace hT := hT.tr0 c22
          replace hmx := hmx.tr0 c22
          replace hb4 := hb4.tr0 c22
          refine aI rfl <| en <| x_ret <| block_r <| then_r <| ret_tmp (v := .int _ _) rfl rfl <| ⟨?_, HC⟩
          unfold unV; rw [if_neg (by assumption), if_neg (by assumption), if_neg (by assumption), if_neg (by assumption), if_neg (by assumption), if_neg (by assumption), if_neg (by assumption), if_neg (by assumption), if_pos (by assumption)]
         ·try simp only [nm, ne_eq] at h8
          refine sr rfl <| Wp rfl <| st_seql rfl rfl <| aB rfl <| en <| x_cond rfl (fun h9 => ?_) (fun h9 => ?_)
          ·try simp only [nm, ne_eq] at h9
           refine sr rfl <| Wp rfl <| st_loadA (vs := [_, _, _, _]) T.agg34 rfl (hb4.cells (n := 4) (vs := [_, _, _, _]) rfl) rfl <| mS rfl <| Wp rfl <| st_call (ags := [_, _, _]) rfl rfl T.ent40 rfl (tmay_spec hT hTl hF p 2 (by simp) hmx hp) ?_
           rintro _ w23 ⟨rfl, c24⟩
           replace HC := HC.then c24
           replace hT := hT.tr0 c24
           replace hmx := hmx.tr0 c24
           replace hb4 := hb4.tr0 c24
           refine aI rfl <| en <| x_ret <| block_r <| then_r <| ret_tmp (v := .int _ _) rfl rfl <| ⟨?_, HC⟩
           unfold unV; rw [if_neg (by assumption), if_neg (by assumption), if_neg (by assumption), if_neg (by assumption), if_neg (by assumption), if_neg (by assumption), if_neg (by assumption), if_neg (by assumption), if_neg (by assumption), if_pos (by assumption)]
          ·try simp only [nm, ne_eq] at h9
           refine sr rfl <| Wp rfl <| st_seql rfl rfl <| aB rfl <| en <| x_cond rfl (fun h10 => ?_) (fun h10 => ?_)
           ·try simp only [nm, ne_eq] at h10
            refine sr rfl <| Wp rfl <| st_loadA (vs := [_, _, _, _]) T.agg34 rfl (hb4.cells (n := 4) (vs := [_, _, _, _]) rfl) rfl <| mS rfl <| Wp rfl <| st_call (ags := [_, _, _]) rfl rfl T.ent40 rfl (tmay_spec hT hTl hF p 1 (by simp) hmx hp) ?_
            rintro _ w25 ⟨rfl, c26⟩
            replace HC := HC.then c26
            replace hT := hT.tr0 c26
            replace hmx := hmx.tr0 c26
            replace hb4 := hb4.tr0 c26
            refine aI rfl <| en <| x_ret <| block_r <| then_r <| ret_tmp (v := .int _ _) rfl rfl <| ⟨?_, HC⟩
            unfold unV; rw [if_neg (by assumption), if_neg (by assumption), if_neg (by assumption), if_neg (by assumption), if_neg (by assumption), if_neg (by assumption), if_neg (by assumption), if_neg (by assumption), if_neg (by assumption), if_neg (by assumption), if_pos (by assumption)]
           ·try simp only [nm, ne_eq] at h10
            refine x_skip <| block_n <| then_n <| sr rfl <| aI rfl <| en <| x_ret <| ret_tmp (v := .int _ _) rfl rfl <| ⟨?_, HC⟩
            unfold unV; rw [if_neg (by assumption), if_neg (by assumption), if_neg (by assumption), if_neg (by assumption), if_neg (by assumption), if_neg (by assumption), if_neg (by assumption), if_neg (by assumption), if_neg (by assumption), if_neg (by assumption), if_neg (by assumption)]

end Go.Proofs.YtpelmhoocepenaaGreatDoor.K
