import Derived.Test.YtncnalboiljgiaaGreatKitSq
import Derived.Test.YtncnalboiljgiaaGreatWg
import Derived.Test.YtncnalboiljgiaaGreatKitL
import Derived.Lib.FrozenHead2
import Derived.Lib.MinMax
import Derived.Test.YtncnalboiljgiaaGreatKitU
import Derived.Test.YtncnalboiljgiaaGreatGg
import Derived.Test.YtncnalboiljgiaaGreatGlob
set_option linter.unusedVariables false
set_option linter.unusedSimpArgs false
set_option autoImplicit false
set_option maxRecDepth 20000
namespace Go.Proofs.YtncnalboiljgiaaGreat.K
open Go Go.Proofs Go.RowKit
theorem HasSuffix_spec (s p : Bytes) (w : World) (hs : s.length ≤ 9223372036854775807) : CallR Tryz.prog 19 #[S s, S p] w fun v w' => v = .bool (Lib.hasSuffix s p) ∧ Chg [] w w' :=
  CallR.of (Tryz.strings_HasSuffix ⟨⟨s⟩⟩ ⟨⟨p⟩⟩ w hs) fun e w' ⟨h1, h2⟩ => ⟨_, h1, rfl, .refl' h2⟩
theorem badP_ok {Z : Tre} {cwd : Int} {p : Bytes} (h : badP Z cwd p = 0) : p.length ≤ 1024 ∧ p ≠ [] ∧ dirV Z cwd = true := by
  unfold badP at h
  split at h
  · exact absurd h (by decide)
  · rename_i h1
    split at h
    · exact absurd h (by decide)
    · rename_i h2
      split at h
      · exact absurd h (by decide)
      · rename_i h3; exact ⟨by omega, h1, by simpa using h2⟩
theorem Walk_spec {Z : Tre} {An : Option Addr} {capn : Nat} {mx my : Int} {D : Nat → Prop} {w : World} (hT : Sl inE w D An Z) (hTl : Z.length ≤ 1000000000) (hF : FitT Z) (cwd : Int) (p : Bytes) (follow : Bool) (hmx : MaxT w) (hp : p.length ≤ 140737488355328) : CallR Tryz.prog 40 #[.agg ⟨[.slice An Z.length capn, .int .i64 mx, .int .i64 my]⟩, .int .i64 cwd, S p, .bool follow] w fun v w' => v = .tuple ⟨[.int .i64 (walkV Z cwd p follow).1, .int .i64 (walkV Z cwd p follow).2]⟩ ∧ Chg [] w w' := by
 replace hT := hT.mono (D' := fun k => k < w.heap.size) (fun k hk _ => hk)
 refine callR_of_wp (args := [_, _, _, _]) Tryz.func40 rfl (Nat.le_of_ble_eq_true rfl) ?_
 have HC : Chg [] w w := .refl _
 have hm1 := hmx.lt
 refine sr rfl <| Wp rfl <| st_box (v := .agg ⟨[.slice _ _ _, .int _ _, .int _ _]⟩) (vs := [_, _, _]) rfl rfl ?_
 intro b4 w1 e2 c3 hb4
 have ge_b4 := gB e2 HC.size
 replace HC := HC.then c3
 replace hT := hT.tr0 c3
 replace hmx := hmx.tr0 c3
 clear e2
 refine aI rfl <| aI rfl <| en <| x_seq ?_
 obtain ⟨w1, hw1⟩ : ∃ W, W = w1 := ⟨_, rfl⟩
 subst hw1
 have HC1 : Chg [] w1 w1 := .refl _
 have hTs := hT
 have hbs := hb4
 have HCs := HC
 have hms := hmx
 refine x_region rfl <| Wp rfl <| st_loadA (vs := [_, _, _]) T.agg24 rfl (hb4.cells (n := 3) (vs := [_, _, _]) rfl) rfl <| mI rfl <| mS rfl <| Wp rfl <| st_call (ags := [_, _, _]) rfl rfl T.ent60 rfl (begin_spec hT hTl cwd p hmx hp) ?_
 rintro _ w5 ⟨⟨x, rfl, hbd⟩, c6⟩
 replace HC := HC.then c6
 replace hT := hT.tr0 c6
 replace hmx := hmx.tr0 c6
 replace HC1 := HC1.then c6
 refine mv (v := .tuple ⟨[_, _]⟩) rfl <| Wp rfl <| st_extract (vs := [_, _]) (v := x) rfl rfl <| Wp rfl <| st_extract (vs := [_, _]) (v := .int _ _) rfl rfl <| av (v := x) rfl <| aI rfl <| en <| x_seq <| x_seq ?_
 rcases (Decidable.em (¬ badP Z cwd p = 0)).imp_right Decidable.not_not.1 with hb0 | hb0
 ·have hwv : walkV Z cwd p follow = (0, badP Z cwd p) := by unfold walkV; rw [if_pos hb0]
  refine x_region rfl <| mI rfl <| Wp rfl <| st_neq rfl rfl <| en <| x_cond rfl (fun h0 => ?_) (fun h0 => ?_)
  ·try simp only [nm, ne_eq] at h0
   refine sr rfl <| mI rfl <| aI rfl <| aI rfl <| en <| x_ret <| then_r <| ret_tmp2 (v := .int _ _) (v2 := .int _ _) rfl rfl rfl ?_
   rw [hwv]
   exact ⟨rfl, HC⟩
  ·try simp only [nm, ne_eq] at h0
   exact absurd h0 hb0
 ·obtain ⟨b, Al, capl, rfl, hbl, hbk, hol⟩ := hbd hb0
  obtain ⟨hp1, hpn, hdc⟩ := badP_ok hb0
  have hpl : (partsV p).length ≤ p.length := partsF_len (p.length + 1) p
  have hmq : mW ⟨curV p cwd, partsV p, 0⟩ < 600000 := by show (partsV p).length + ((8 : Int) - 0).toNat * 70000 < 600000; rw [show ((8 : Int) - 0).toNat = 8 from rfl]; omega
  refine x_region rfl <| mI rfl <| Wp rfl <| st_neq rfl rfl <| en <| x_cond rfl (fun h0 => ?_) (fun h0 => ?_)
  ·try simp only [nm, ne_eq] at h0
   exact absurd hb0 h0
  ·try simp only [nm, ne_eq] at h0
   refine x_skip <| then_n <| sr rfl <| mS rfl <| Wp rfl <| st_call (ags := [_, _]) rfl rfl T.ent19 rfl (HasSuffix_spec p [47] _ (by omega)) ?_
   rintro _ w7 ⟨rfl, c8⟩
   replace HC := HC.then c8
   replace hT := hT.tr0 c8
   replace hmx := hmx.tr0 c8
   replace HC1 := HC1.then c8
   replace hbk := hbk.tr0 c8
   replace hol := hol.tr0 c8
   refine aB rfl <| en <| sr rfl <| mP rfl <| mB rfl <| mB rfl <| w_split (d := 29) rfl (fun g9 => ?_) (fun g9 => ?_)
   ·try simp only [nm, ne_eq] at g9
    have hfo : (follow || Lib.hasSuffix p [47]) = true := by first | (rw [show follow = true by assumption]; rfl) | (rw [show follow = true by simp_all]; rfl)
    refine w_no 2 29 false <| pT rfl rfl ?_
    have hrun := fun last => run_spec (q := ⟨curV p cwd, partsV p, 0⟩) (w0 := w1) last HC1 ((hT).mono (fun k _ hk => Nat.lt_of_lt_of_le hk HCs.size)) hTl hF hbk hol hbl hmx (Nat.lt_of_lt_of_le hm1 HCs.size) hmq (by show (0 : Int) ≤ 0; decide) (by show (0 : Int) ≤ 8; decide)
    refine Wp rfl <| st_call (ags := [_, _]) rfl rfl T.ent61 rfl (hrun _) ?_
    rintro _ w10 ⟨rfl, c11⟩
    have HC2 := HCs.then c11
    have hT2 := hTs.tr0 c11
    have hb42 := hbs.tr0 c11
    refine mv (v := .tuple ⟨[_, _]⟩) rfl <| Wp rfl <| st_extract (vs := [_, _]) (v := .int _ _) rfl rfl <| Wp rfl <| st_extract (vs := [_, _]) (v := .int _ _) rfl rfl <| aI rfl <| aI rfl <| en <| x_seq <| x_seq ?_
    have hwn : ¬ ¬ badP Z cwd p = 0 := fun h => h hb0
    refine x_region rfl <| mI rfl <| Wp rfl <| st_eql rfl rfl <| mB rfl <| w_split (d := 37) rfl (fun g12 => ?_) (fun g12 => ?_)
    ·try simp only [nm, ne_eq] at g12
     refine w_yes 2 37 true <| st_move (v := .bool _) rfl <| pT rfl rfl <| mB rfl <| w_split (d := 40) rfl (fun g13 => ?_) (fun g13 => ?_)
     ·try simp only [nm, ne_eq] at g13
      refine w_yes 5 40 true <| st_loadA (vs := [_, _, _]) T.agg24 rfl (hb42.cells (n := 3) (vs := [_, _, _]) rfl) rfl <| w_yes 5 40 true <| st_move (v := .int _ _) rfl <| w_yes 5 40 true <| st_call (ags := [_, _]) rfl rfl T.ent62 rfl (wdir_spec hT2 hTl _) ?_
      rintro _ w14 ⟨rfl, c15⟩
      replace HC2 := HC2.then c15
      refine w_yes 5 40 true <| st_not rfl <| pT rfl rfl <| en <| x_cond rfl (fun h1 => ?_) (fun h1 => ?_)
      ·try simp only [nm, ne_eq] at h1
       refine sr rfl <| aI rfl <| aI rfl <| en <| x_ret <| then_r <| ret_tmp2 (v := .int _ _) (v2 := .int _ _) rfl rfl rfl <| ⟨?_, HC2⟩
       unfold walkV; rw [if_neg hwn, hfo]
       first | (rw [if_pos (by refine ⟨?_, ?_, ?_⟩ <;> first | assumption | simp_all)]; rfl; done) | (rw [if_neg (by rintro ⟨h1, h2, h3⟩; simp_all)]; rfl; done) | (simp_all; done)
      ·try simp only [nm, ne_eq] at h1
       refine x_skip <| then_n <| sr rfl <| mI rfl <| mI rfl <| aI rfl <| aI rfl <| en <| x_ret <| ret_tmp2 (v := .int _ _) (v2 := .int _ _) rfl rfl rfl <| ⟨?_, HC2⟩
       unfold walkV; rw [if_neg hwn, hfo]
       first | (rw [if_pos (by refine ⟨?_, ?_, ?_⟩ <;> first | assumption | simp_all)]; rfl; done) | (rw [if_neg (by rintro ⟨h1, h2, h3⟩; simp_all)]; rfl; done) | (simp_all; done)
     ·try simp only [nm, ne_eq] at g13
      iterate 4 refine w_no 5 40 true ?_
      refine pF rfl rfl <| en <| x_cond (t := false) rfl (fun h1 => ?_) (fun h1 => ?_)
      · exact absurd h1 (by decide)
      refine x_skip <| then_n <| sr rfl <| mI rfl <| mI rfl <| aI rfl <| aI rfl <| en <| x_ret <| ret_tmp2 (v := .int _ _) (v2 := .int _ _) rfl rfl rfl <| ⟨?_, HC2⟩
      unfold walkV; rw [if_neg hwn, hfo]
      first | (rw [if_pos (by refine ⟨?_, ?_, ?_⟩ <;> first | assumption | simp_all)]; rfl; done) | (rw [if_neg (by rintro ⟨h1, h2, h3⟩; simp_all)]; rfl; done) | (simp_all; done)
    ·try simp only [nm, ne_eq] at g12
     refine w_no 2 37 true <| pF rfl rfl <| mB rfl ?_
     iterate 4 refine w_no 5 40 true ?_
     refine pF rfl rfl <| en <| x_cond (t := false) rfl (fun h1 => ?_) (fun h1 => ?_)
     · exact absurd h1 (by decide)
     refine x_skip <| then_n <| sr rfl <| mI rfl <| mI rfl <| aI rfl <| aI rfl <| en <| x_ret <| ret_tmp2 (v := .int _ _) (v2 := .int _ _) rfl rfl rfl <| ⟨?_, HC2⟩
     unfold walkV; rw [if_neg hwn, hfo]
     first | (rw [if_pos (by refine ⟨?_, ?_, ?_⟩ <;> first | assumption | simp_all)]; rfl; done) | (rw [if_neg (by rintro ⟨h1, h2, h3⟩; simp_all)]; rfl; done) | (simp_all; done)
   ·try simp only [nm, ne_eq] at g9
    have hfo : (follow || Lib.hasSuffix p [47]) = Lib.hasSuffix p [47] := by first | (rw [show follow = false by assumption]; rfl) | (rw [show follow = false by simp_all]; rfl)
    refine w_yes 2 29 false <| st_move (v := .bool _) rfl <| pF rfl rfl ?_
    have hrun := fun last => run_spec (q := ⟨curV p cwd, partsV p, 0⟩) (w0 := w1) last HC1 ((hT).mono (fun k _ hk => Nat.lt_of_lt_of_le hk HCs.size)) hTl hF hbk hol hbl hmx (Nat.lt_of_lt_of_le hm1 HCs.size) hmq (by show (0 : Int) ≤ 0; decide) (by show (0 : Int) ≤ 8; decide)
    refine Wp rfl <| st_call (ags := [_, _]) rfl rfl T.ent61 rfl (hrun _) ?_
    rintro _ w16 ⟨rfl, c17⟩
    have HC2 := HCs.then c17
    have hT2 := hTs.tr0 c17
    have hb42 := hbs.tr0 c17
    refine mv (v := .tuple ⟨[_, _]⟩) rfl <| Wp rfl <| st_extract (vs := [_, _]) (v := .int _ _) rfl rfl <| Wp rfl <| st_extract (vs := [_, _]) (v := .int _ _) rfl rfl <| aI rfl <| aI rfl <| en <| x_seq <| x_seq ?_
    have hwn : ¬ ¬ badP Z cwd p = 0 := fun h => h hb0
    refine x_region rfl <| mI rfl <| Wp rfl <| st_eql rfl rfl <| mB rfl <| w_split (d := 37) rfl (fun g18 => ?_) (fun g18 => ?_)
    ·try simp only [nm, ne_eq] at g18
     refine w_yes 2 37 true <| st_move (v := .bool _) rfl <| pT rfl rfl <| mB rfl <| w_split (d := 40) rfl (fun g19 => ?_) (fun g19 => ?_)
     ·try simp only [nm, ne_eq] at g19
      refine w_yes 5 40 true <| st_loadA (vs := [_, _, _]) T.agg24 rfl (hb42.cells (n := 3) (vs := [_, _, _]) rfl) rfl <| w_yes 5 40 true <| st_move (v := .int _ _) rfl <| w_yes 5 40 true <| st_call (ags := [_, _]) rfl rfl T.ent62 rfl (wdir_spec hT2 hTl _) ?_
      rintro _ w20 ⟨rfl, c21⟩
      replace HC2 := HC2.then c21
      refine w_yes 5 40 true <| st_not rfl <| pT rfl rfl <| en <| x_cond rfl (fun h1 => ?_) (fun h1 => ?_)
      ·try simp only [nm, ne_eq] at h1
       refine sr rfl <| aI rfl <| aI rfl <| en <| x_ret <| then_r <| ret_tmp2 (v := .int _ _) (v2 := .int _ _) rfl rfl rfl <| ⟨?_, HC2⟩
       unfold walkV; rw [if_neg hwn, hfo]
       first | (rw [if_pos (by refine ⟨?_, ?_, ?_⟩ <;> first | assumption | simp_all)]; rfl; done) | (rw [if_neg (by rintro ⟨h1, h2, h3⟩; simp_all)]; rfl; done) | (simp_all; done)
      ·try simp only [nm, ne_eq] at h1
       refine x_skip <| then_n <| sr rfl <| mI rfl <| mI rfl <| aI rfl <| aI rfl <| en <| x_ret <| ret_tmp2 (v := .int _ _) (v2 := .int _ _) rfl rfl rfl <| ⟨?_, HC2⟩
       unfold walkV; rw [if_neg hwn, hfo]
       first | (rw [if_pos (by refine ⟨?_, ?_, ?_⟩ <;> first | assumption | simp_all)]; rfl; done) | (rw [if_neg (by rintro ⟨h1, h2, h3⟩; simp_all)]; rfl; done) | (simp_all; done)
     ·try simp only [nm, ne_eq] at g19
      iterate 4 refine w_no 5 40 true ?_
      refine pF rfl rfl <| en <| x_cond (t := false) rfl (fun h1 => ?_) (fun h1 => ?_)
      · exact absurd h1 (by decide)
      refine x_skip <| then_n <| sr rfl <| mI rfl <| mI rfl <| aI rfl <| aI rfl <| en <| x_ret <| ret_tmp2 (v := .int _ _) (v2 := .int _ _) rfl rfl rfl <| ⟨?_, HC2⟩
      unfold walkV; rw [if_neg hwn, hfo]
      first | (rw [if_pos (by refine ⟨?_, ?_, ?_⟩ <;> first | assumption | simp_all)]; rfl; done) | (rw [if_neg (by rintro ⟨h1, h2, h3⟩; simp_all)]; rfl; done) | (simp_all; done)
    ·try simp only [nm, ne_eq] at g18
     refine w_no 2 37 true <| pF rfl rfl <| mB rfl ?_
     iterate 4 refine w_no 5 40 true ?_
     refine pF rfl rfl <| en <| x_cond (t := false) rfl (fun h1 => ?_) (fun h1 => ?_)
     · exact absurd h1 (by decide)
     refine x_skip <| then_n <| sr rfl <| mI rfl <| mI rfl <| aI rfl <| aI rfl <| en <| x_ret <| ret_tmp2 (v := .int _ _) (v2 := .int _ _) rfl rfl rfl <| ⟨?_, HC2⟩
     unfold walkV; rw [if_neg hwn, hfo]
     first | (rw [if_pos (by refine ⟨?_, ?_, ?_⟩ <;> first | assumption | simp_all)]; rfl; done) | (rw [if_neg (by rintro ⟨h1, h2, h3⟩; simp_all)]; rfl; done) | (simp_all; done)
open Go Go.Proofs Go.RowKit
theorem nxt_in {Z : Tre} (hF : FitT Z) {last : Bool} {q : Wst} {x : Bytes} {l : List Bytes} (hc : 0 ≤ q.cur ∧ q.cur < Z.length) (h : (nxtW Z last q x l).1 = 0) : 0 ≤ (nxtW Z last q x l).2.cur ∧ (nxtW Z last q x l).2.cur < Z.length := by
  have hr := dir_in hF.root
  unfold nxtW at h ⊢
  by_cases c1 : ¬ (stepV Z q.cur x).2 = 0
  · rw [if_pos c1] at h; exact absurd h c1
  rw [if_neg c1] at h ⊢
  have hs := step_in hF (Decidable.not_not.1 c1)
  split
  · exact hs
  · split
    · exact hc
    · show 0 ≤ curV _ q.cur ∧ curV _ q.cur < _
      unfold curV; split
      · exact hr
      · exact hc
theorem goV_in {Z : Tre} (hF : FitT Z) {last : Bool} : ∀ (k : Nat) (q : Wst), 0 ≤ q.cur ∧ q.cur < Z.length → (goV Z last k q).2 = 0 → 0 ≤ (goV Z last k q).1 ∧ (goV Z last k q).1 < Z.length
  | 0, q, _, _ => dir_in hF.root
  | k + 1, q, hc, h => by
    rw [goV] at h ⊢
    cases hq : q.left with
    | nil => exact hc
    | cons x l =>
      rw [hq] at h
      simp only at h ⊢
      by_cases c1 : ¬ (nxtW Z last q x l).1 = 0
      · rw [if_pos c1] at h; exact absurd h c1
      · rw [if_neg c1] at h ⊢
        exact goV_in hF k _ (nxt_in hF hc (Decidable.not_not.1 c1)) h
theorem walk_inT {Z : Tre} (hF : FitT Z) {cwd : Int} {p : Bytes} {follow : Bool} (h : (walkV Z cwd p follow).2 = 0) : 0 ≤ (walkV Z cwd p follow).1 ∧ (walkV Z cwd p follow).1 < Z.length := by
  unfold walkV at h ⊢
  by_cases c1 : ¬ badP Z cwd p = 0
  · rw [if_pos c1] at h; exact absurd h c1
  rw [if_neg c1] at h ⊢
  obtain ⟨_, _, hd⟩ := badP_ok (Decidable.not_not.1 c1)
  have hc : 0 ≤ curV p cwd ∧ curV p cwd < Z.length := by
    unfold curV; split
    · exact dir_in hF.root
    · exact dir_in hd
  split at h
  · exact absurd (show (20 : Int) = 0 from h) (by decide)
  · rename_i c2
    rw [if_neg c2]
    exact goV_in hF _ _ hc h
open Go Go.RowKit
variable {T e : TypeId} {w w' : World} {b : Nat} {A : Option Addr} {cap : Nat} {s : Bytes}
variable {P : Program} {r : Option Nat} {n : Nat} {O : Array Oper} {Q : Post} {E : Env} {ds : List Deferred} {l : List Oper}
section
variable {dst : Option Nat} {ty : TypeId} {pos : String} {af : Array Edge} {g : Option (Nat × Bool)}
theorem r_max {x y : Operand} {k k' : IntKind} {a c : Int} {ct : Array TypeId} (hx : ev E x = .int k a) (hy : ev E y = .int k' c) : (execOp (ev E) ⟨dst, .call ⟨.builtin .max, #[x, y], ct⟩, ty, pos, af, g⟩).run P w = .ok (.value (.int k (max a c))) w := by
  simp only [execOp, resolve, invoke, builtin, List.map_toArray, List.map_cons, List.map_nil, hx, hy, Sem.run_bind, Sem.run_pure, Lib.run_max_ints, Result.andThen]
theorem st_max {x y : Operand} {k k' : IntKind} {a c : Int} {ct : Array TypeId} (hx : ev E x = .int k a) (hy : ev E y = .int k' c) (h : wops P r n O Q l (updo E dst (.int k (max a c))) ds w) : wop P r n O Q ⟨dst, .call ⟨.builtin .max, #[x, y], ct⟩, ty, pos, af, g⟩ l E ds w := wop_run (fun _ => by simp) (r_max hx hy) h
end
end Go.Proofs.YtncnalboiljgiaaGreat.K
namespace Go.Proofs.YtncnalboiljgiaaGreat.K
open Go Go.RowKit
section
variable {P : Program} {r : Option Nat} {n : Nat} {l : List Oper} {Q : Post} {ds : List Deferred} {o : Oper}
def gdOK (l : List Oper) : Bool := l.all fun p => match p.guard with | some (k, _) => Nat.blt k l.length | none => true
def tailOK (l : List Oper) (o : Oper) : Bool := (List.range l.length).all (fun j => (dps o).contains j) && gdOK l && (dps o).all (fun j => Nat.blt j l.length) && plainOp o
theorem tail_at {i : Nat} (hi : i < l.length) : (l ++ [o]).toArray[i]? = l.toArray[i]? := by
  simp only [List.getElem?_toArray]; rw [List.getElem?_append_left hi]
theorem wpOpIn_tail {Q1 Q2 : Exit → Act → World → Prop} {i : Nat} {K : Act → World → Prop} {a : Act} {w : World} (hi : i < l.length) (hg : gdOK l = true) (hp : ∀ c a w, Q1 (.panic c) a w → Q2 (.panic c) a w) (hl : LetsOut Q1 → LetsOut Q2)
    (h : wpOpIn (WF r) 0 P l.toArray Q1 i K a w) : wpOpIn (WF r) 0 P (l ++ [o]).toArray Q2 i K a w := by
  unfold wpOpIn at h ⊢
  rw [tail_at hi]
  have hli : l.toArray[i]? = some l[i] := by simp [hi]
  rw [hli] at h ⊢
  simp only at h ⊢
  have hw : Region.wanted l[i] (yielded (l ++ [o]).toArray a.tmps) = Region.wanted l[i] (yielded l.toArray a.tmps) := by
    unfold Region.wanted
    have h9 := List.all_eq_true.1 hg l[i] (List.getElem_mem hi)
    cases hgd : (l[i]).guard with
    | none => rfl
    | some x =>
      obtain ⟨k, b⟩ := x
      rw [hgd] at h9
      have hk : k < l.length := by simpa [Nat.blt_eq] using h9
      simp only [yielded, tail_at hk]
  rw [hw]
  split at h
  · rename_i hc
    rw [if_pos hc]
    refine ⟨h.1, ?_⟩
    have hh := h.2
    generalize ((l[i]).semAt (WF r).round a.eval).run P w = rr at *
    cases rr with
    | ok x w' =>
      cases x <;> simp only [Oper.uponIn] at hh ⊢ <;>
        first
          | exact hh
          | exact ⟨hh.1, CallsIn.mono hh.2 (fun e w'' he => by cases e <;> first | exact he | exact hp _ _ _ he | exact hl he)⟩
          | exact ⟨hh.1, RowsIn.mono hh.2 (fun _ _ he => he)⟩
          | exact ⟨hh.1, RoundIn.mono hh.2 (fun e w'' he => by cases e <;> first | exact he | exact hp _ _ _ he | exact hl he)⟩
    | halt x w' => cases x <;> simp only [Oper.uponIn] at hh ⊢ <;> first | exact hh | exact hp _ _ _ hh
  · rename_i hc
    rw [if_neg hc]; exact h
theorem getD_push {listed : Array Bool} {j : Nat} {d : Bool} (hj : j < listed.size) : (listed.push false).getD j d = listed.getD j d := by
  simp only [Array.getD_eq_getD_getElem?]
  rw [Array.getElem?_push, if_neg (by omega)]
theorem ready_tail {listed : Array Bool} (hsz : listed.size = l.length) (i : Nat) (hi : i < l.length) (h : i ∈ Region.ready .any (l ++ [o]).toArray (listed.push false)) : i ∈ Region.ready .any l.toArray listed := by
  obtain ⟨h1, p, h2, h3⟩ := mem_ready.1 h
  refine mem_ready.2 ⟨by rw [← getD_push (d := true) (by omega)]; exact h1, p, by rw [← tail_at (o := o) hi]; exact h2, fun e he hb => ?_⟩
  have h4 := h3 e he hb
  rcases Nat.lt_or_ge e.on listed.size with h5 | h5
  · rw [← getD_push (d := false) h5]; exact h4
  · exfalso
    simp only [Array.getD_eq_getD_getElem?] at h4
    rw [Array.getElem?_push] at h4
    split at h4
    · simp at h4
    · rw [Array.getElem?_eq_none h5] at h4; simp at h4
theorem any_tail {Q1 Q2 : Exit → Act → World → Prop} (ord : List Nat) (hor : ordOK l ord [] = true) (hto : tailOK l o = true) (hp : ∀ c a w, Q1 (.panic c) a w → Q2 (.panic c) a w) (hl : LetsOut Q1 → LetsOut Q2)
    (hn : ∀ a w, Q1 .normal a w → wpOpIn (WF r) 0 P (l ++ [o]).toArray Q2 l.length (fun a w => Q2 .normal a w) a w) : ∀ (fuel : Nat) (listed : Array Bool) (a : Act) (w : World), listed.size = l.length → wpAnyIn (WF r) 0 P .any l.toArray Q1 fuel listed a w →
    wpAnyIn (WF r) 0 P .any (l ++ [o]).toArray Q2 (fuel + 1) (listed.push false) a w := by
  have hto2 := hto
  simp only [tailOK, Bool.and_eq_true] at hto2
  obtain ⟨⟨⟨t1, t2⟩, t3⟩, t4⟩ := hto2
  have hol : (l ++ [o]).toArray[l.length]? = some o := by simp
  have last : ∀ (fuel : Nat) (listed : Array Bool) (a : Act) (w : World), listed.size = l.length → (∀ j, j < l.length → listed.getD j true = true) → Q1 .normal a w →
      wpOpIn (WF r) 0 P (l ++ [o]).toArray Q2 l.length (wpAnyIn (WF r) 0 P .any (l ++ [o]).toArray Q2 fuel ((listed.push false).setIfInBounds l.length true)) a w := by
    intro fuel listed a w hsz hall hq
    refine wpOpIn_mono (fun b W h => ?_) (hn a w hq)
    refine any_done (l := l ++ [o]) (fun i hi => ?_) h
    simp only [List.length_append, List.length_cons, List.length_nil] at hi
    by_cases e : i = l.length
    · subst e; simp [Array.getD_eq_getD_getElem?, hsz]
    · rw [getD_set_ne true (Ne.symm e), getD_push (by omega)]; exact hall i (by omega)
  have odeps : ∀ (listed : Array Bool), listed.size = l.length → (∀ j, j < l.length → listed.getD j true = true) → l.length ∈ Region.ready .any (l ++ [o]).toArray (listed.push false) := by
    intro listed hsz hall
    refine mem_ready.2 ⟨by simp only [Array.getD_eq_getD_getElem?]; rw [Array.getElem?_push, if_pos hsz.symm]; rfl, o, hol, fun e he hb => ?_⟩
    have hj : e.on ∈ dps o := List.mem_map.2 ⟨e, List.mem_filter.2 ⟨by simpa using he, hb⟩, rfl⟩
    have hlt : e.on < l.length := by have := List.all_eq_true.1 t3 _ hj; simpa [Nat.blt_eq] using this
    rw [getD_push (by omega)]
    have h4 := hall e.on hlt
    rw [Array.getD_eq_getD_getElem?, Array.getElem?_eq_getElem (by omega)] at h4 ⊢; simpa using h4
  have listedAll : ∀ (listed : Array Bool), listed.size = l.length → l.length ∈ Region.ready .any (l ++ [o]).toArray (listed.push false) → ∀ j, j < l.length → listed.getD j true = true := by
    intro listed hsz h j hj
    obtain ⟨h1, p, h2, h3⟩ := mem_ready.1 h
    rw [hol] at h2; cases h2
    have hjd : j ∈ dps o := by simpa using List.all_eq_true.1 t1 j (List.mem_range.2 hj)
    obtain ⟨e, he, rfl⟩ := List.mem_map.1 hjd
    obtain ⟨he1, he2⟩ := List.mem_filter.1 he
    have h4 := h3 e (by simpa using he1) he2
    rw [getD_push (by omega)] at h4
    rw [Array.getD_eq_getD_getElem?, Array.getElem?_eq_getElem (by omega)] at h4 ⊢; simpa using h4
  have none_ready : ∀ (listed : Array Bool), listed.size = l.length → (∀ j, j < l.length → listed.getD j true = true) → Region.ready .any l.toArray listed = [] := by
    intro listed hsz hall
    cases hr : Region.ready .any l.toArray listed with
    | nil => rfl
    | cons x xs =>
      have hx : x ∈ Region.ready .any l.toArray listed := by rw [hr]; simp
      obtain ⟨h1, p, h2, _⟩ := mem_ready.1 hx
      have hlt : x < l.length := by have := (Array.getElem?_eq_some_iff.1 h2).1; simpa using this
      rw [hall x hlt] at h1; cases h1
  have lt_ready : ∀ (listed : Array Bool) i, listed.size = l.length → i ∈ Region.ready .any (l ++ [o]).toArray (listed.push false) → i < l.length ∨ i = l.length := by
    intro listed i hsz h
    obtain ⟨_, p, h2, _⟩ := mem_ready.1 h
    have := (Array.getElem?_eq_some_iff.1 h2).1
    simp at this; omega
  intro fuel
  induction fuel with
  | zero =>
    intro listed a w hsz h
    obtain ⟨h1, h2⟩ := h
    have hall := ord_ready hsz ord [] hor (fun j hj => by cases hj) h1
    refine ⟨fun hr => ?_, fun i hi => ?_⟩
    · have := odeps listed hsz hall; rw [hr] at this; cases this
    · rcases lt_ready listed i hsz hi with h3 | rfl
      · have := ready_tail hsz i h3 hi; rw [h1] at this; cases this
      · exact last 0 listed a w hsz hall h2
  | succ fuel ih =>
    intro listed a w hsz h
    obtain ⟨h1, h2⟩ := h
    refine ⟨fun hr => ?_, fun i hi => ?_⟩
    · cases hrl : Region.ready .any l.toArray listed with
      | nil =>
        have hall := ord_ready hsz ord [] hor (fun j hj => by cases hj) hrl
        have := odeps listed hsz hall; rw [hr] at this; cases this
      | cons x xs =>
        exfalso
        have hx : x ∈ Region.ready .any l.toArray listed := by rw [hrl]; simp
        obtain ⟨q1, p, q2, q3⟩ := mem_ready.1 hx
        have hlt : x < l.length := by have := (Array.getElem?_eq_some_iff.1 q2).1; simpa using this
        have hx2 : x ∈ Region.ready .any (l ++ [o]).toArray (listed.push false) := mem_ready.2 ⟨by rw [getD_push (by omega)]; exact q1, p, by rw [tail_at hlt]; exact q2, fun e he hb => by
          have h5 := q3 e he hb
          have h6 : e.on < listed.size := by
            rcases Nat.lt_or_ge e.on listed.size with h6 | h6
            · exact h6
            · simp [Array.getD_eq_getD_getElem?, Array.getElem?_eq_none h6] at h5
          rw [getD_push h6]; exact h5⟩
        rw [hr] at hx2; cases hx2
    · rcases lt_ready listed i hsz hi with h3 | rfl
      · have h4 := wpOpIn_tail (o := o) (Q2 := Q2) h3 t2 hp hl (h2 i (ready_tail hsz i h3 hi))
        refine wpOpIn_mono (fun b W hb => ?_) h4
        have h5 := ih (listed.setIfInBounds i true) b W (by simpa using hsz) hb
        have e : (listed.push false).setIfInBounds i true = (listed.setIfInBounds i true).push false := by
          apply Array.ext_getElem?; intro j
          simp only [Array.getElem?_setIfInBounds, Array.getElem?_push, Array.size_push, Array.size_setIfInBounds]
          by_cases e1 : i = j
          · subst e1; simp [show i < listed.size by omega, show i < listed.size + 1 by omega, show ¬ i = listed.size by omega]
          · simp [e1]
        rw [e]; exact h5
      · have hall := listedAll listed hsz hi
        exact last (fuel + 1) listed a w hsz hall (h1 (none_ready listed hsz hall))
def tailQ (o : Oper) (x : Operand) (Q : Post) : Post
  | .normal, E, ds, w => Q .normal (updo E o.dst (ev E x)) ds w
  | e, E, ds, w => Q e E ds w
theorem x_draw_tail {id : Nat} {E : Env} {w : World} {L : List Oper} {x : Operand} (seq : List (Nat × Nat)) (ord : List Nat) (hL : L = l ++ [o]) (hox : o.op = .assign x) (hog : o.guard = none) (hm : P.follows .mixedOrders = true) (hc : drawOK l seq = true) (hor : ordOK l ord [] = true) (hto : tailOK l o = true) (hok : L.all (okd n) = true) (hall : ((List.range l.length).all fun i => (seq.map (·.1)).contains i) = true) (T : World → Prop) (hT : T w.drew)
    (h : seqP P (fun v w' => ∀ E', Q (.panic [{ v := v, recovered := false }]) E' ds w') l (fun _ E w => Q .normal (updo E o.dst (ev E x)) ds w) seq T E w.drew) : wp P r n (.region id L.toArray true) Q E ds w := by
  subst hL
  intro a h1 h2 h3
  simp only [drawOK, Bool.and_eq_true] at hc
  obtain ⟨⟨⟨hpl, hds⟩, hch⟩, hlen⟩ := hc
  refine wpIn_region_any hm ?_
  have hokl : l.all (okd n) = true := by rw [List.all_append, Bool.and_eq_true] at hok; exact hok.1
  have hoko : okd n o = true := by rw [List.all_append, Bool.and_eq_true] at hok; simpa using hok.2
  have hL0 : ∀ j, ¬ (j < l.length ∧ (Array.replicate l.length false).getD j true = true) := fun j hj => by
    have := hj.2; simp [Array.getD_eq_getD_getElem?, hj.1] at this
  obtain ⟨post', seen', lay', V', q1, q2, q3, q4, q5, q6, q7⟩ := advance (P := P) (l := l) (K := fun _ E w => tailQ o x Q .normal E ds w) E hpl hds seq [] [] none T E E (fun j => j < l.length ∧ (Array.replicate l.length false).getD j true = true) w.drew hch h
    ⟨fun j hj => absurd hj (hL0 j), fun j hj => by simp at hj, fun j hj => by simp at hj, fun j o d hj => absurd hj (hL0 j), fun _ _ => rfl, fun _ _ => rfl, hT, fun j o hj => absurd hj (hL0 j)⟩ trivial (fun j _ => ⟨hL0 j, by simp⟩)
  have hq3 : Inv P l E seen' [] T V' (env a) (fun j => j < l.length ∧ (Array.replicate l.length false).getD j true = true) w.drew := by rw [h2]; exact q3
  have main : wpAnyIn (WF r) 0 P .any l.toArray (toQ n (tailQ o x Q)) l.length (Array.replicate l.length false) a w.drew := by
    refine any_of_seq (P := P) (l := l) (Q := tailQ o x Q) (ds := ds) (K := fun _ E w => tailQ o x Q .normal E ds w) E hpl hds (fun _ E w h => h) (fun _ _ h => h) l.length post' seen' [] none T V' (Array.replicate l.length false) w.drew a ?_ (by simp) h1 h3 hokl (chain_none (l := l) post' seen' lay' q1) q2 hq3 q4 q5 (fun j hj hjl => ?_) (fun j hj => ?_) (fun s hs => by cases hs)
    · unfold cnt; exact Nat.le_trans (List.length_filter_le _ _) (by simp)
    · simp [Array.getD_eq_getD_getElem?, hjl]
    · refine q7 j (.inr ?_)
      have := List.all_eq_true.1 hall j (List.mem_range.2 hj)
      simpa using this
  show wpAnyIn (WF r) 0 P .any (l ++ [o]).toArray (toQ n Q) (l ++ [o]).toArray.size (Array.replicate (l ++ [o]).toArray.size false) a w.drew
  have e1 : (l ++ [o]).toArray.size = l.length + 1 := by simp
  have e2 : Array.replicate (l.length + 1) false = (Array.replicate l.length false).push false := by rw [Array.replicate_succ]
  rw [e1, e2]
  refine any_tail (Q1 := toQ n (tailQ o x Q)) (Q2 := toQ n Q) ord hor hto (fun c a w h => h) (fun h => h) (fun b W hb => ?_) l.length _ a w.drew (by simp) main
  obtain ⟨hb1, hb2⟩ := hb
  unfold wpOpIn
  rw [show (l ++ [o]).toArray[l.length]? = some o by simp]
  have hw : Region.wanted o (yielded (l ++ [o]).toArray b.tmps) = true := by unfold Region.wanted; rw [hog]
  simp only [hw, if_true]
  refine ⟨fun _ _ => trivial, ?_⟩
  have hpo : plainOp o = true := by simp only [tailOK, Bool.and_eq_true] at hto; exact hto.2
  rw [ev_env, Oper.semAt_eq _ _ _ (plain_defer hpo)]
  have hr : (execOp (ev (env b)) o).run P W = .ok (.value (ev (env b) x)) W := by simp only [execOp, hox, Sem.run_pure]
  rw [hr]
  refine ⟨by rw [put_size]; exact hb1, ?_⟩
  rw [put_defers, env_puto _ _ _ (fun k hk => by rw [hb1]; exact okd_lt hoko hk)]
  exact hb2
theorem x_drawT {id : Nat} {E : Env} {w : World} {L : List Oper} {x : Operand} (seq : List (Nat × Nat)) (ord : List Nat) (hL : L.getLast? = some o) (hox : o.op = .assign x) (hog : o.guard = none) (hm : P.follows .mixedOrders = true) (hc : drawOK L.dropLast seq = true) (hor : ordOK L.dropLast ord [] = true) (hto : tailOK L.dropLast o = true) (hok : L.all (okd n) = true) (hall : ((List.range L.dropLast.length).all fun i => (seq.map (·.1)).contains i) = true) (T : World → Prop) (hT : T w.drew)
    (h : seqP P (fun v w' => ∀ E', Q (.panic [{ v := v, recovered := false }]) E' ds w') L.dropLast (fun _ E w => Q .normal (updo E o.dst (ev E x)) ds w) seq T E w.drew) : wp P r n (.region id L.toArray true) Q E ds w :=
  x_draw_tail seq ord (by obtain ⟨ys, rfl⟩ := List.getLast?_eq_some_iff.1 hL; simp) hox hog hm hc hor hto hok hall T hT h
theorem x_join {c : Code} {E : Env} {w : World} {ι : Type} (S : List Nat) (L : ι → List (Nat × Value)) (I : ι → World → Prop) (hc : wp P r n c (thenP (fun E' ds' w' => ∃ x, I x w' ∧ ds' = ds ∧ Holds E' (L x) ∧ Agree S E' E) Q) E ds w)
    (h : ∀ x G w', I x w' → Q .normal (upds (over E S G) (L x)) ds w') : wp P r n c Q E ds w := by
  intro a h1 h2 h3
  refine wpIn_mono (hc a h1 h2 h3) ?_
  rintro e a' w' ⟨q1, q2⟩
  cases e with
  | normal =>
    obtain ⟨x, hi, hd, hh, ha⟩ := q2
    refine ⟨q1, ?_⟩
    have h9 := h x (env a') w' hi
    rw [env_of_agree ha hh, ← hd] at h9
    exact h9
  | _ => exact ⟨q1, q2⟩
end
theorem ret_cell1 {P : Program} {E : Env} {w : World} {fn : Func} {Φ : Value → World → Prop} {t : TypeId} {d b off : Nat} {v : Value} (hr : fn.results = #[.cell d t]) (hv : E d = .pointer (some ⟨b, off, none⟩)) (ht : oneB P t = true) (hc : w.cell? ⟨b, off, none⟩ = some v) (h : Φ v w) : retP P fn Φ .ret E [] w :=
  ⟨rfl, fun a ha => ⟨_, by
    have hd : a.tmps.getD d undef = .pointer (some ⟨b, off, none⟩) := by rw [← hv, ← ha]; rfl
    have hl := run_loadVar1 (w := w) ht hc
    simp only [results, hr]
    rw [Array.mapM_eq_mapM_toList]
    simp only [List.mapM_cons, List.mapM_nil, hd, asAddr, Sem.run_bind, Sem.run_pure, hl, Result.andThen, ← bind_pure_comp]
    rfl, h⟩⟩
end Go.Proofs.YtncnalboiljgiaaGreat.K
namespace Go.Proofs.YtncnalboiljgiaaGreat.K
open Go Go.Proofs Go.RowKit
theorem ib_no {c : UInt8} : ∀ {s : Bytes}, Lib.indexByte s c < 0 → ∀ j, j < s.length → byte s j ≠ c
  | [], _, j, hj => by simp at hj
  | b :: l, h, j, hj => by
    rw [Lib.indexByte] at h
    split at h
    · omega
    · rename_i hb
      have hl : Lib.indexByte l c < 0 := by
        split at h
        · rename_i h1; have := eq_of_beq h1; omega
        · omega
      cases j with
      | zero => intro e; apply hb; rw [beq_iff_eq]; exact e
      | succ j => exact ib_no hl j (by simpa using hj)
theorem ib_yes {c : UInt8} : ∀ {s : Bytes}, ¬ Lib.indexByte s c < 0 → (Lib.indexByte s c).toNat < s.length ∧ byte s (Lib.indexByte s c).toNat = c ∧ ∀ j, j < (Lib.indexByte s c).toNat → byte s j ≠ c
  | [], h => by simp [Lib.indexByte] at h
  | b :: l, h => by
    rw [Lib.indexByte] at h ⊢
    split
    · rename_i hb; exact ⟨by simp, eq_of_beq hb, fun j hj => by omega⟩
    · rename_i hb
      rw [if_neg hb] at h
      split
      · rename_i h1; rw [if_pos h1] at h; omega
      · rename_i h1
        rw [if_neg h1] at h
        have hge : ¬ Lib.indexByte l c < 0 := by
          intro h2
          have : Lib.indexByte l c = -1 := by have := Lib.indexByte_ge l c; omega
          rw [this] at h1; simp at h1
        obtain ⟨q1, q2, q3⟩ := ib_yes hge
        have e : (Lib.indexByte l c + 1).toNat = (Lib.indexByte l c).toNat + 1 := by omega
        rw [e]
        refine ⟨by simp only [List.length_cons]; omega, q2, fun j hj => ?_⟩
        cases j with
        | zero => intro e; apply hb; rw [beq_iff_eq]; exact e
        | succ j => exact q3 j (by omega)
theorem byte_drop {s : Bytes} {i j : Nat} : byte (s.drop i) j = byte s (i + j) := by unfold byte; simp [List.getD_eq_getElem?_getD]
def slN (p : Bytes) (a : Nat) : Nat := if Lib.indexByte (p.drop a) 47 < 0 then p.length else a + (Lib.indexByte (p.drop a) 47).toNat
theorem slN_ok {p : Bytes} {a : Nat} (h : a ≤ p.length) : a ≤ slN p a ∧ slN p a ≤ p.length ∧ (∀ j, a ≤ j → j < slN p a → (byte p j).toNat ≠ 47) ∧ (slN p a < p.length → (byte p (slN p a)).toNat = 47) := by
  unfold slN
  split
  · rename_i h1
    refine ⟨h, Nat.le_refl _, fun j h2 h3 e => ?_, fun h2 => absurd h2 (Nat.lt_irrefl _)⟩
    have h4 := ib_no h1 (j - a) (by rw [List.length_drop]; omega)
    rw [byte_drop, show a + (j - a) = j by omega] at h4
    exact h4 (UInt8.toNat_inj.1 e)
  · rename_i h1
    obtain ⟨q1, q2, q3⟩ := ib_yes h1
    rw [List.length_drop] at q1
    rw [byte_drop] at q2
    refine ⟨by omega, by omega, fun j h2 h3 e => ?_, fun _ => by rw [q2]; rfl⟩
    have h4 := q3 (j - a) (by omega)
    rw [byte_drop, show a + (j - a) = j by omega] at h4
    exact h4 (UInt8.toNat_inj.1 e)
theorem gP_next {p q : Bytes} {a : Nat} (h : a ≤ p.length) : gP p q (p.length + 1 - a) a a = gCut p q a (slN p a) ++ gP p q (p.length + 1 - (slN p a + 1)) (slN p a + 1) (slN p a + 1) := by
  obtain ⟨h1, h2, h3, h4⟩ := slN_ok h
  exact gP_cut h1 h2 h3 h4
def gpE : Enc Gp := .flat 2 (fun x => [S x.1, S x.2]) (by omega) (fun _ => rfl) (fun _ u hu => by simp at hu; rcases hu with rfl | rfl <;> rfl)
theorem repG (n : Nat) (w : World) (hn : n ≤ 140737488355328) : CallR Tryz.prog 35 #[S [48], .int .i64 (n : Int)] w fun v w' => v = S (List.replicate n 48) ∧ Chg [] w w' :=
  CallR.of (Tryz.strings_Repeat ⟨⟨[48]⟩⟩ n w (by omega) (by show 1 * n ≤ _; omega)) fun e w' ⟨h1, h2⟩ => ⟨_, h1, by
    have e : ∀ n : Nat, Lib.repeatL [48] n = List.replicate n 48 := fun n => by induction n with | zero => rfl | succ n ih => simp [Lib.repeatL, ih, List.replicate_succ]
    show Value.string ⟨(Lib.repeatL [48] n).toArray⟩ = _; rw [e]; rfl, .of_below h2⟩
theorem maxP (a b : Nat) : max ((a : Int) - (b : Int)) 0 = ((a - b : Nat) : Int) := by omega
theorem gparts_spec (p q : Bytes) (w : World) (hp : p.length ≤ 100000) (hq : q.length ≤ 100000) : CallR Tryz.prog 18 #[S p, S q] w fun v w' => (∃ A cap, v = .slice A (gPartsV p q).length cap ∧ (gPartsV p q).length ≤ cap ∧ Own gpE 51 w' (fun k => w.heap.size ≤ k) A cap (gPartsV p q)) ∧ Chg [] w w' := by
 refine callR_of_wp (args := [_, _]) Tryz.func18 rfl (Nat.le_of_ble_eq_true rfl) ?_
 have HC : Chg [] w w := .refl _
 refine sr rfl <| aL rfl <| en <| sr rfl <| mS rfl <| mS rfl <| Wp rfl <| st_slen (ct := #[9]) T.u9 rfl <| mS rfl <| Wp rfl <| st_slen (ct := #[9]) T.u9 rfl <| Wp rfl <| st_subn rfl rfl (by constructor <;> omega) <| Wp rfl <| st_max rfl rfl ?_
 rw [maxP]
 refine Wp rfl <| st_call (ags := [_, _]) rfl rfl T.ent35 rfl (repG (p.length - q.length) _ (by omega)) ?_
 rintro _ w1 ⟨rfl, c2⟩
 replace HC := HC.then c2
 refine Wp rfl <| st_sadd rfl rfl (by simp only [List.length_append, List.length_replicate]; omega) <| aS rfl <| en <| sr rfl <| aL rfl <| en <| x_seq <| sr rfl <| aI rfl <| en <| x_block ?_
 have hoN : Own gpE 51 w1 (fun k => w.heap.size ≤ k ∧ True) none 0 ([] : List Gp) := Own.nil
 refine x_loop (ι := List Gp × Nat × Option Addr × Nat) [5, 6, 7, 17, 18, 19, 20, 21, 22, 23, 24, 25, 26, 27, 28, 29, 30, 31, 32, 33, 34, 35, 36, 37, 38, 39, 40, 41, 42, 43, 44, 45, 46, 47, 48, 49, 50, 51, 52] (fun ⟨l, a, A, cap⟩ => [(5, .slice A l.length cap), (6, .int .i64 (a : Int))]) (fun ⟨l, a, A, cap⟩ W => (gPartsV p q = l ++ gP p q (p.length + 1 - a) a a ∧ a ≤ p.length + 1 ∧ l.length ≤ a) ∧ (Chg [] w W) ∧ (Own gpE 51 W (fun k => w.heap.size ≤ k ∧ True) A cap l)) (fun ⟨l, a, A, cap⟩ => p.length + 1 - a) ([], 0, none, 0) ?_ ?_ ?_
 · exact ⟨rfl, rfl, trivial⟩
 ·refine ⟨?_, HC, hoN⟩
  exact ⟨rfl, Nat.zero_le _, Nat.le_refl _⟩
 intro ⟨l, a, A, cap⟩ G4 w3 ⟨⟨hst, ha, hll⟩, HC, ho⟩
 change wp _ _ _ _ _ (upds (over _ _ G4) [(5, .slice A l.length cap), (6, .int .i64 (a : Int))]) _ _
 refine x_seq <| sr rfl <| mI rfl <| mS rfl <| Wp rfl <| st_slen (ct := #[9]) T.u9 rfl <| Wp rfl <| st_leq rfl rfl <| en <| x_cond rfl (fun h0 => ?_) (fun h0 => ?_)
 ·try simp only [nm, ne_eq] at h0
  have hap : a ≤ p.length := by omega
  obtain ⟨hs1, hs2, hs3, hs4⟩ := slN_ok hap
  refine x_skip <| then_n <| x_block <| sr rfl <| mS rfl <| mI rfl <| Wp rfl <| st_sslo (i := a) T.u9 rfl ⟨_, rfl⟩ (by omega) <| Wp rfl <| st_call (ags := [_, _]) rfl rfl T.ent36 rfl (IndexByte_spec (p.drop a) 47 _) ?_
  rintro _ w5 ⟨rfl, c6⟩
  replace HC := HC.then c6
  replace ho := ho.tr0 c6
  unfold idx
  refine aI rfl <| en <| x_seq <| sr rfl <| mI rfl <| Wp rfl <| st_lss rfl rfl <| en <| x_cond rfl (fun h1 => ?_) (fun h1 => ?_)
  ·try simp only [nm, ne_eq] at h1
   have hsn : slN p a = p.length := by unfold slN; rw [if_pos h1]
   refine x_region rfl <| mS rfl <| Wp rfl <| st_slen (ct := #[9]) T.u9 rfl <| mI rfl <| Wp rfl <| st_subn rfl rfl (by constructor <;> omega) <| aI rfl <| en <| x_seq <| sr rfl <| mI rfl <| Wp rfl <| st_gtr rfl rfl <| en <| x_cond rfl (fun h2 => ?_) (fun h2 => ?_)
   ·try simp only [nm, ne_eq] at h2
    have hcl : a < slN p a := by omega
    have hcut : gCut p q a (slN p a) = [((p.take (slN p a)).drop a, maskV q a (slN p a))] := by unfold gCut; rw [if_pos hcl]
    refine x_drawT [(0, 0), (1, 0), (2, 0), (3, 0), (4, 0), (5, 0), (6, 0), (7, 0), (8, 0), (9, 0), (10, 0), (11, 0), (12, 0), (13, 0), (14, 1), (15, 1)] [0, 1, 2, 3, 4, 5, 6, 7, 8, 9, 10, 11, 12, 13, 14, 15] rfl rfl rfl T.mixed rfl rfl rfl rfl rfl (fun _ => True) trivial ?_
    have c8 := Chg.drew w5
    generalize World.drew w5 = w7 at c8 ⊢
    replace HC := HC.then c8
    replace ho := ho.tr0 c8
    refine sq_q rfl (fun W hT => r_move (v := .slice _ _ _) rfl) <| sq_q rfl (fun W hT => r_move (v := S _) rfl) <| sq_q rfl (fun W hT => r_move (v := .int _ _) rfl) <| sq_q rfl (fun W hT => r_move (v := .int _ _) rfl) <| sq_q rfl (fun W hT => r_move (v := .int _ _) rfl) <| sq_q (v := .int .i64 ((slN p a : Nat) : Int)) rfl (fun W hT => (r_addn rfl rfl (by constructor <;> omega)).trans (congrArg (fun z => Result.ok (Next.value (Value.int .i64 z)) W) (by omega))) <| sq_q rfl (fun W hT => r_sslice (i := a) (j := (slN p a)) T.u9 rfl ⟨_, rfl⟩ ⟨_, rfl⟩ (by omega) (by omega)) <| sq_q rfl (fun W hT => r_move (v := S _) rfl) <| sq_q rfl (fun W hT => r_move (v := .int _ _) rfl) <| sq_q rfl (fun W hT => r_move (v := .int _ _) rfl) <| sq_q rfl (fun W hT => r_move (v := .int _ _) rfl) <| sq_q (v := .int .i64 ((slN p a : Nat) : Int)) rfl (fun W hT => (r_addn rfl rfl (by constructor <;> omega)).trans (congrArg (fun z => Result.ok (Next.value (Value.int .i64 z)) W) (by omega))) <| sq_q rfl (fun W hT => r_sslice (i := a) (j := (slN p a)) T.u9 rfl ⟨_, rfl⟩ ⟨_, rfl⟩ (by omega) (by simp only [List.length_append, List.length_replicate]; omega)) <| sq_q rfl (fun W hT => r_bld (ps := [(0, .tmp 39), (1, .tmp 45)]) (vs := [S _, S _]) T.bld51 rfl) <| sq_lit1 (ps := [(0, .tmp 46)]) (vs := [S _, S _]) rfl T.lit48 (by decide) rfl q6 rfl ?_
    intro b9 w10 e11 c12 hb13
    have ge_b9 := gB e11 HC.size
    have na_gb9 : b9 ∉ ob (A) := ho.fresh (by rw [e11]; exact Nat.le_refl _)
    replace HC := HC.then c12
    replace ho := ho.tr0 c12
    clear e11
    refine ext_T (b := b9) trivial ?_
    have o14 := hb13
    have hszA := HC.size
    refine sq_append1 (c := gpE) (D2 := fun _ => False) (xs := l) (ys := [((p.take (slN p a)).drop a, maskV q a (slN p a))]) rfl T.slice48 rfl rfl ho rfl rfl (one_elem (by rw [← mask_pad p q hs2]; rfl) (hb13.cells (n := 2) rfl)) (fun _ _ h => h.elim) (fun k hk => ⟨by have := HC.size; omega, trivial⟩) q7 q7 ?_
    intro A15 cap16 w17 ho18 c19 hg20
    replace HC := HC.trans c19 (fun k hk => .inr ((ho.inD k hk).1))
    replace hb13 := hb13.tr c19 (fun hx => by first | (have h1 := ho.inD _ hx; omega) | exact na_gb9 hx | exact hav _ hx (by simp))
    refine ⟨_, fun _ h => h, ⟨(Eq.trans hb13 o14.symm), trivial⟩, ?_⟩
    clear o14
    refine sq_nil <| then_n <| x_region rfl <| mI rfl <| mI rfl <| Wp rfl <| st_addn rfl rfl (by constructor <;> omega) <| Wp rfl <| st_addn rfl rfl (by constructor <;> omega) <| aI rfl <| wops_nil <| block_n <| then_n <| ⟨(l ++ gCut p q a (slN p a), slN p a + 1, A15, cap16), ?_, ?_, rfl, ⟨(by rw [hcut]; first | rfl | (rw [List.length_append]; rfl)), (congrArg (Value.int .i64) (by omega)), trivial⟩, ?_⟩
    ·refine ⟨?_, HC, (by rw [hcut]; exact ho18)⟩
     exact ⟨by rw [hst, gP_next hap, List.append_assoc], by omega, by rw [List.length_append, hcut]; simp only [List.length_cons, List.length_nil]; omega⟩
    ·show p.length + 1 - (slN p a + 1) < p.length + 1 - a; omega
    exact q9
   ·try simp only [nm, ne_eq] at h2
    have hcut : gCut p q a (slN p a) = [] := by unfold gCut; rw [if_neg (by omega)]
    refine x_skip <| then_n <| x_region rfl <| mI rfl <| mI rfl <| Wp rfl <| st_addn rfl rfl (by constructor <;> omega) <| Wp rfl <| st_addn rfl rfl (by constructor <;> omega) <| aI rfl <| wops_nil <| block_n <| then_n <| ⟨(l ++ gCut p q a (slN p a), slN p a + 1, A, cap), ?_, ?_, rfl, ⟨(by rw [hcut, List.append_nil]; rfl), (congrArg (Value.int .i64) (by omega)), trivial⟩, ?_⟩
    ·refine ⟨?_, HC, (by rw [hcut, List.append_nil]; exact ho)⟩
     exact ⟨by rw [hst, gP_next hap, List.append_assoc], by omega, by rw [List.length_append, hcut]; simp only [List.length_cons, List.length_nil]; omega⟩
    ·show p.length + 1 - (slN p a + 1) < p.length + 1 - a; omega
    exact q9
  ·try simp only [nm, ne_eq] at h1
   have hsn : slN p a = a + (Lib.indexByte (p.drop a) 47).toNat := by unfold slN; rw [if_neg h1]
   refine x_skip <| then_n <| x_seq <| sr rfl <| mI rfl <| Wp rfl <| st_gtr rfl rfl <| en <| x_cond rfl (fun h2 => ?_) (fun h2 => ?_)
   ·try simp only [nm, ne_eq] at h2
    have hcl : a < slN p a := by omega
    have hcut : gCut p q a (slN p a) = [((p.take (slN p a)).drop a, maskV q a (slN p a))] := by unfold gCut; rw [if_pos hcl]
    refine x_drawT [(0, 0), (1, 0), (2, 0), (3, 0), (4, 0), (5, 0), (6, 0), (7, 0), (8, 0), (9, 0), (10, 0), (11, 0), (12, 0), (13, 0), (14, 1), (15, 1)] [0, 1, 2, 3, 4, 5, 6, 7, 8, 9, 10, 11, 12, 13, 14, 15] rfl rfl rfl T.mixed rfl rfl rfl rfl rfl (fun _ => True) trivial ?_
    have c22 := Chg.drew w5
    generalize World.drew w5 = w21 at c22 ⊢
    replace HC := HC.then c22
    replace ho := ho.tr0 c22
    refine sq_q rfl (fun W hT => r_move (v := .slice _ _ _) rfl) <| sq_q rfl (fun W hT => r_move (v := S _) rfl) <| sq_q rfl (fun W hT => r_move (v := .int _ _) rfl) <| sq_q rfl (fun W hT => r_move (v := .int _ _) rfl) <| sq_q rfl (fun W hT => r_move (v := .int _ _) rfl) <| sq_q (v := .int .i64 ((slN p a : Nat) : Int)) rfl (fun W hT => (r_addn rfl rfl (by constructor <;> omega)).trans (congrArg (fun z => Result.ok (Next.value (Value.int .i64 z)) W) (by omega))) <| sq_q rfl (fun W hT => r_sslice (i := a) (j := (slN p a)) T.u9 rfl ⟨_, rfl⟩ ⟨_, rfl⟩ (by omega) (by omega)) <| sq_q rfl (fun W hT => r_move (v := S _) rfl) <| sq_q rfl (fun W hT => r_move (v := .int _ _) rfl) <| sq_q rfl (fun W hT => r_move (v := .int _ _) rfl) <| sq_q rfl (fun W hT => r_move (v := .int _ _) rfl) <| sq_q (v := .int .i64 ((slN p a : Nat) : Int)) rfl (fun W hT => (r_addn rfl rfl (by constructor <;> omega)).trans (congrArg (fun z => Result.ok (Next.value (Value.int .i64 z)) W) (by omega))) <| sq_q rfl (fun W hT => r_sslice (i := a) (j := (slN p a)) T.u9 rfl ⟨_, rfl⟩ ⟨_, rfl⟩ (by omega) (by simp only [List.length_append, List.length_replicate]; omega)) <| sq_q rfl (fun W hT => r_bld (ps := [(0, .tmp 39), (1, .tmp 45)]) (vs := [S _, S _]) T.bld51 rfl) <| sq_lit1 (ps := [(0, .tmp 46)]) (vs := [S _, S _]) rfl T.lit48 (by decide) rfl q6 rfl ?_
    intro b23 w24 e25 c26 hb27
    have ge_b23 := gB e25 HC.size
    have na_gb23 : b23 ∉ ob (A) := ho.fresh (by rw [e25]; exact Nat.le_refl _)
    replace HC := HC.then c26
    replace ho := ho.tr0 c26
    clear e25
    refine ext_T (b := b23) trivial ?_
    have o28 := hb27
    have hszA := HC.size
    refine sq_append1 (c := gpE) (D2 := fun _ => False) (xs := l) (ys := [((p.take (slN p a)).drop a, maskV q a (slN p a))]) rfl T.slice48 rfl rfl ho rfl rfl (one_elem (by rw [← mask_pad p q hs2]; rfl) (hb27.cells (n := 2) rfl)) (fun _ _ h => h.elim) (fun k hk => ⟨by have := HC.size; omega, trivial⟩) q7 q7 ?_
    intro A29 cap30 w31 ho32 c33 hg34
    replace HC := HC.trans c33 (fun k hk => .inr ((ho.inD k hk).1))
    replace hb27 := hb27.tr c33 (fun hx => by first | (have h1 := ho.inD _ hx; omega) | exact na_gb23 hx | exact hav _ hx (by simp))
    refine ⟨_, fun _ h => h, ⟨(Eq.trans hb27 o28.symm), trivial⟩, ?_⟩
    clear o28
    refine sq_nil <| then_n <| x_region rfl <| mI rfl <| mI rfl <| Wp rfl <| st_addn rfl rfl (by constructor <;> omega) <| Wp rfl <| st_addn rfl rfl (by constructor <;> omega) <| aI rfl <| wops_nil <| block_n <| then_n <| ⟨(l ++ gCut p q a (slN p a), slN p a + 1, A29, cap30), ?_, ?_, rfl, ⟨(by rw [hcut]; first | rfl | (rw [List.length_append]; rfl)), (congrArg (Value.int .i64) (by omega)), trivial⟩, ?_⟩
    ·refine ⟨?_, HC, (by rw [hcut]; exact ho32)⟩
     exact ⟨by rw [hst, gP_next hap, List.append_assoc], by omega, by rw [List.length_append, hcut]; simp only [List.length_cons, List.length_nil]; omega⟩
    ·show p.length + 1 - (slN p a + 1) < p.length + 1 - a; omega
    exact q9
   ·try simp only [nm, ne_eq] at h2
    have hcut : gCut p q a (slN p a) = [] := by unfold gCut; rw [if_neg (by omega)]
    refine x_skip <| then_n <| x_region rfl <| mI rfl <| mI rfl <| Wp rfl <| st_addn rfl rfl (by constructor <;> omega) <| Wp rfl <| st_addn rfl rfl (by constructor <;> omega) <| aI rfl <| wops_nil <| block_n <| then_n <| ⟨(l ++ gCut p q a (slN p a), slN p a + 1, A, cap), ?_, ?_, rfl, ⟨(by rw [hcut, List.append_nil]; rfl), (congrArg (Value.int .i64) (by omega)), trivial⟩, ?_⟩
    ·refine ⟨?_, HC, (by rw [hcut, List.append_nil]; exact ho)⟩
     exact ⟨by rw [hst, gP_next hap, List.append_assoc], by omega, by rw [List.length_append, hcut]; simp only [List.length_cons, List.length_nil]; omega⟩
    ·show p.length + 1 - (slN p a + 1) < p.length + 1 - a; omega
    exact q9
 ·try simp only [nm, ne_eq] at h0
  have hfi : gPartsV p q = l := by rw [hst, gP_end p q (by omega), List.append_nil]
  refine x_exit <| then_x <| then_x <| block_x <| then_n <| sr rfl <| mL rfl <| aL rfl <| en <| x_ret <| ret_tmp (v := .slice _ _ _) rfl rfl ?_
  rw [hfi]
  exact ⟨⟨A, cap, rfl, ho.le.1, ho.flat flat_flat (fun k _ h => h.1)⟩, HC⟩
end Go.Proofs.YtncnalboiljgiaaGreat.K
