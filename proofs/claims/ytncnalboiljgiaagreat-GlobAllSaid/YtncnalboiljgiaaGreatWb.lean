import Derived.Test.YtncnalboiljgiaaGreatKitL
import Derived.Test.YtncnalboiljgiaaGreatShelf
import Derived.Lib.IndexAny
import Derived.Lib.IndexLaws
import Derived.Lib.LaidTab
import Derived.Lib.Space
import Derived.Test.YtncnalboiljgiaaGreatKitSq
import Derived.Test.YtncnalboiljgiaaGreatTy
import Derived.Test.YtncnalboiljgiaaGreatPatt
set_option linter.unusedVariables false
set_option linter.unusedSimpArgs false
set_option autoImplicit false
namespace Go.Proofs.YtncnalboiljgiaaGreat.K
open Go Go.Proofs Go.RowKit
def idx (s : Bytes) (c : UInt8) : Int := Lib.indexByte s c
theorem IndexByte_spec (s : Bytes) (c : UInt8) (w : World) : CallR Tryz.prog 36 #[S s, .int .u8 (c.toNat : Int)] w fun v w' => v = .int .i64 (idx s c) ∧ Chg [] w w' :=
  CallR.of (Tryz.strings_IndexByte ⟨⟨s⟩⟩ (c.toNat : Int) w) fun e w' ⟨h1, h2⟩ => ⟨_, h1, by simp [idx], .refl' h2⟩
theorem HasPrefix_spec (s p : Bytes) (w : World) : CallR Tryz.prog 54 #[S s, S p] w fun v w' => v = .bool (Lib.hasPrefix s p) ∧ Chg [] w w' :=
  CallR.of (Tryz.strings_HasPrefix ⟨⟨s⟩⟩ ⟨⟨p⟩⟩ w) fun e w' ⟨h1, h2⟩ => ⟨_, h1, rfl, .refl' h2⟩
open Go Go.Proofs Go.RowKit
theorem Compare_spec (s p : Bytes) (w : World) : CallR Tryz.prog 125 #[S s, S p] w fun v w' => v = .int .i64 (Lib.compareBytes s p) ∧ Chg [] w w' :=
  CallR.of (Tryz.strings_Compare ⟨⟨s⟩⟩ ⟨⟨p⟩⟩ w) fun e w' ⟨h1, h2⟩ => ⟨_, h1, rfl, .refl' h2⟩
theorem cmp_lt : ∀ a b : Bytes, (Lib.compareBytes a b < 0 ↔ Op.bytesLess a b = true) ∧ (Lib.compareBytes a b = 0 ↔ a = b)
  | [], [] => by simp [Lib.compareBytes, Op.bytesLess]
  | [], _ :: _ => by simp [Lib.compareBytes, Op.bytesLess]
  | _ :: _, [] => by simp [Lib.compareBytes, Op.bytesLess]
  | a :: x, b :: y => by
    obtain ⟨h1, h2⟩ := cmp_lt x y
    simp only [Lib.compareBytes, Op.bytesLess]
    by_cases e : a = b
    · subst e; simp [h1, h2]
    · by_cases l : a < b
      · simp [l, e]
      · have hb : b < a := by
          rcases UInt8.lt_or_le b a with h | h
          · exact h
          · exact absurd (UInt8.lt_of_le_of_ne h e) l
        simp [l, e, hb]
theorem less_trans : ∀ a b c : Bytes, Op.bytesLess a b = true → Op.bytesLess b c = true → Op.bytesLess a c = true
  | _, [], _, h, _ => by cases ‹Bytes› <;> simp [Op.bytesLess] at h
  | _, _ :: _, [], _, h => by simp [Op.bytesLess] at h
  | [], _ :: _, _ :: _, _, _ => rfl
  | a :: x, b :: y, c :: z, h1, h2 => by
    simp only [Op.bytesLess, Bool.or_eq_true, decide_eq_true_eq, Bool.and_eq_true, beq_iff_eq] at h1 h2 ⊢
    rcases h1 with h1 | ⟨h1, h3⟩ <;> rcases h2 with h2 | ⟨h2, h4⟩
    · exact .inl (UInt8.lt_trans h1 h2)
    · subst h2; exact .inl h1
    · subst h1; exact .inl h2
    · subst h1; subst h2; exact .inr ⟨rfl, less_trans x y z h3 h4⟩
end Go.Proofs.YtncnalboiljgiaaGreat.K
set_option maxRecDepth 20000
namespace Go.Proofs.YtncnalboiljgiaaGreat.K
open Go Go.Proofs Go.RowKit
abbrev Ke := Bytes × Int
def keE : Enc Ke := .flat 2 (fun p => [S p.1, .int .i64 p.2]) (by omega) (fun _ => rfl) (fun _ u hu => by simp at hu; rcases hu with rfl | rfl <;> rfl)
structure Ino where
  kind : Int
  mode : Int
  links : Int
  data : Bytes
  kids : List Ke
  up : Int
def inE : Enc Ino where
  sz := 6
  pos := by omega
  R := fun w D x vs => ∃ K c, vs = [.int .i64 x.kind, .int .i64 x.mode, .int .i64 x.links, S x.data, .slice K x.kids.length c, .int .i64 x.up] ∧ x.kids.length ≤ c ∧ c ≤ 9223372036854775807 ∧ Sl keE w D K x.kids
  len := fun ⟨_, _, h, _⟩ => by rw [h]; rfl
  one := fun ⟨_, _, h, _⟩ u hu => by rw [h] at hu; simp at hu; rcases hu with rfl | rfl | rfl | rfl | rfl | rfl <;> rfl
  tr := fun ⟨K, c, h1, h2, h3, h4⟩ he hs => ⟨K, c, h1, h2, h3, h4.keep he hs⟩
  mono := fun ⟨K, c, h1, h2, h3, h4⟩ hm => ⟨K, c, h1, h2, h3, h4.mono hm⟩
def RiseK (vs : List Ke) : Prop := vs.Pairwise fun a b => Op.bytesLess a.1 b.1 = true
def plK : List Ke → Bytes → Nat
  | [], _ => 0
  | p :: vs, n => if Op.bytesLess p.1 n = true then plK vs n + 1 else 0
def isK (vs : List Ke) (n : Bytes) : Bool := decide ((vs[plK vs n]?).map (·.1) = some n)
theorem plK_at {vs : List Ke} {n : Bytes} : ∀ {i : Nat}, i ≤ vs.length → (∀ k p, k < i → vs[k]? = some p → Op.bytesLess p.1 n = true) → (∀ p, vs[i]? = some p → Op.bytesLess p.1 n = false) → plK vs n = i := by
  induction vs with
  | nil => intro i hi _ _; simp at hi; simp [plK, hi]
  | cons p vs ih =>
    intro i hi h1 h2
    cases i with
    | zero => simp only [plK]; rw [if_neg (by rw [h2 p rfl]; simp)]
    | succ i =>
      simp only [plK]; rw [if_pos (h1 0 p (by omega) rfl)]
      rw [ih (i := i) (by simpa using hi) (fun k q hk hq => h1 (k + 1) q (by omega) (by simpa using hq)) (fun q hq => h2 q (by simpa using hq))]
theorem riseK_lt {vs : List Ke} (h : RiseK vs) {i j : Nat} {a b : Ke} (hij : i < j) (ha : vs[i]? = some a) (hb : vs[j]? = some b) : Op.bytesLess a.1 b.1 = true := by
  obtain ⟨hi, rfl⟩ := List.getElem?_eq_some_iff.1 ha
  obtain ⟨hj, rfl⟩ := List.getElem?_eq_some_iff.1 hb
  exact List.pairwise_iff_getElem.1 h i j hi hj hij
theorem riseK_below {vs : List Ke} {n : Bytes} (h : RiseK vs) {j : Nat} {b : Ke} (hb : vs[j]? = some b) (hl : Op.bytesLess b.1 n = true) : ∀ k p, k < j + 1 → vs[k]? = some p → Op.bytesLess p.1 n = true := fun k p hk hp => by
  by_cases e : k = j
  · subst e; obtain rfl := Option.some.inj (hb.symm.trans hp); exact hl
  · exact less_trans _ _ _ (riseK_lt h (by omega) hp hb) hl
theorem riseK_above {vs : List Ke} {n : Bytes} (h : RiseK vs) {j : Nat} {b : Ke} (hb : vs[j]? = some b) (hl : Op.bytesLess b.1 n = false) : ∀ k p, j ≤ k → vs[k]? = some p → Op.bytesLess p.1 n = false := fun k p hk hp => by
  by_cases e : k = j
  · subst e; obtain rfl := Option.some.inj (hb.symm.trans hp); exact hl
  · cases h2 : Op.bytesLess p.1 n with
    | false => rfl
    | true => rw [less_trans _ _ _ (riseK_lt h (by omega) hb hp) h2] at hl; cases hl
theorem half64 {i j : Nat} (h : i + j ≤ 9223372036854775807) : IntKind.i64.wrap (shrV .u64 ((i : Int) + (j : Int)) 1) = (((i + j) / 2 : Nat) : Int) := by
  have h1 : shrV .u64 ((i : Int) + (j : Int)) 1 = (((i + j) / 2 : Nat) : Int) := by
    unfold shrV
    rw [show min (1 : Int).toNat IntKind.u64.bits = 1 from rfl, Int.fdiv_eq_ediv_of_nonneg _ (by decide)]; omega
  rw [h1, wrap64_id (by omega) (by omega)]
theorem cmp_less {a b : Bytes} : Lib.compareBytes a b < 0 ↔ Op.bytesLess a b = true := (cmp_lt a b).1
theorem cmp_zero {a b : Bytes} : Lib.compareBytes a b = 0 ↔ a = b := (cmp_lt a b).2
abbrev Tre := List Ino
def inoV (Z : Tre) (k : Int) : Option Ino := if 0 ≤ k then Z[k.toNat]? else none
def inV (Z : Tre) (k : Int) : Bool := decide (0 ≤ k) && decide (k < Z.length)
def kindV (Z : Tre) (k : Int) : Int := ((inoV Z k).map (·.kind)).getD 0
def thereV (Z : Tre) (k : Int) : Bool := !decide (kindV Z k = 0)
def dirV (Z : Tre) (k : Int) : Bool := decide (kindV Z k = 2)
def modeV (Z : Tre) (k : Int) : Int := ((inoV Z k).map (·.mode)).getD 0
def upV (Z : Tre) (k : Int) : Int := ((inoV Z k).map (·.up)).getD 0
def dataV (Z : Tre) (k : Int) : Bytes := ((inoV Z k).map (·.data)).getD []
def kidsV (Z : Tre) (k : Int) : List Ke := ((inoV Z k).map (·.kids)).getD []
def mayV (Z : Tre) (k m : Int) : Bool := thereV Z k && decide (andV .i64 (modeV Z k) m = m)
def kidK (ks : List Ke) (n : Bytes) : Int := if isK ks n = true then ((ks[plK ks n]?).map (·.2)).getD 0 else -1
def kidV (Z : Tre) (k : Int) (n : Bytes) : Int := if dirV Z k = true then kidK (kidsV Z k) n else -1
def stepV (Z : Tre) (at' : Int) (n : Bytes) : Int × Int :=
  if dirV Z at' = false then (0, 20)
  else if mayV Z at' 1 = false then (0, 13)
  else if n = [46] then (at', 0)
  else if n = [46, 46] then (upV Z at', 0)
  else if 0 ≤ kidV Z at' n then (kidV Z at' n, 0) else (0, 2)
theorem ino_some {Z : Tre} {k : Int} (h0 : 0 ≤ k) (h1 : k < Z.length) : ∃ x, Z[k.toNat]? = some x ∧ inoV Z k = some x := by
  obtain ⟨x, hx⟩ : ∃ x, Z[k.toNat]? = some x := ⟨_, List.getElem?_eq_getElem (by omega)⟩
  exact ⟨x, hx, by unfold inoV; rw [if_pos h0]; exact hx⟩
theorem ino_none {Z : Tre} {k : Int} (h : ¬ (0 ≤ k ∧ k < Z.length)) : inoV Z k = none := by
  unfold inoV; split
  · rw [List.getElem?_eq_none (by omega)]
  · rfl
theorem dir_in {Z : Tre} {k : Int} (h : dirV Z k = true) : 0 ≤ k ∧ k < Z.length := by
  by_cases e : 0 ≤ k ∧ k < Z.length
  · exact e
  · unfold dirV kindV at h; rw [ino_none e] at h; simp at h
theorem there_in {Z : Tre} {k : Int} (h : thereV Z k = true) : 0 ≤ k ∧ k < Z.length := by
  by_cases e : 0 ≤ k ∧ k < Z.length
  · exact e
  · unfold thereV kindV at h; rw [ino_none e] at h; simp at h
structure FitT (Z : Tre) : Prop where
  few : Z.length ≤ 300
  kids : ∀ x, x ∈ Z → RiseK x.kids ∧ x.kids.length ≤ 1024 ∧ ∀ p, p ∈ x.kids → 0 ≤ p.2 ∧ p.2 < Z.length ∧ kindV Z p.2 ≠ 0
  up : ∀ x, x ∈ Z → x.kind = 2 → dirV Z x.up = true
  data : ∀ x, x ∈ Z → x.data.length ≤ 65536
  kind : ∀ x, x ∈ Z → 0 ≤ x.kind ∧ x.kind ≤ 3
  root : dirV Z 0 = true
  mode : ∀ x, x ∈ Z → 0 ≤ x.mode ∧ x.mode ≤ 7
theorem wthere_spec {Z : Tre} {An : Option Addr} {capn : Nat} {mx my : Int} {D : Nat → Prop} {w : World} (hT : Sl inE w D An Z) (hTl : Z.length ≤ 1000000000) (k : Int) : CallR Tryz.prog 63 #[.agg ⟨[.slice An Z.length capn, .int .i64 mx, .int .i64 my]⟩, .int .i64 k] w fun v w' => v = .bool (thereV Z k) ∧ Chg [] w w' := by
 replace hT := hT.mono (D' := fun k => k < w.heap.size) (fun k hk _ => hk)
 refine callR_of_wp (args := [_, _]) Tryz.func63 rfl (Nat.le_of_ble_eq_true rfl) ?_
 have HC : Chg [] w w := .refl _
 refine sr rfl <| Wp rfl <| st_box (v := .agg ⟨[.slice _ _ _, .int _ _, .int _ _]⟩) (vs := [_, _, _]) rfl rfl ?_
 intro b2 w1 e2 c3 hb4
 have ge_b2 := gB e2 HC.size
 replace HC := HC.then c3
 replace hT := hT.tr0 c3
 clear e2
 refine aB rfl <| en <| sr rfl <| mI rfl <| Wp rfl <| st_geq rfl rfl <| mB rfl <| w_split (d := 7) rfl (fun g5 => ?_) (fun g5 => ?_)
 ·try simp only [nm, ne_eq] at g5
  refine w_yes 2 7 true <| st_move (v := .int _ _) rfl <| w_yes 2 7 true <| st_fieldAddr T.fld24_0 rfl <| w_yes 2 7 true <| st_load1 (v := .slice _ _ _) T.one22 rfl (hb4.cell rfl) <| w_yes 2 7 true <| st_len (ct := #[22]) (by rw [show ((#[22] : Array TypeId)[0]?).bind Tryz.prog.underlying = some (.slice 36) from T.u22]; rfl) rfl <| w_yes 2 7 true <| st_lss rfl rfl <| pT rfl rfl <| mB rfl <| w_split (d := 14) rfl (fun g6 => ?_) (fun g6 => ?_)
  ·try simp only [nm, ne_eq] at g6
   obtain ⟨x, hx, hio⟩ := ino_some (Z := Z) (k := k) (by omega) (by omega)
   refine w_yes 9 14 true <| st_fieldAddr T.fld24_0 rfl <| w_yes 9 14 true <| st_load1 (v := .slice _ _ _) T.one22 rfl (hb4.cell rfl) <| w_yes 9 14 true <| st_move (v := .int _ _) rfl ?_
   obtain ⟨lb11, _, vs10, hA7, hR9, hC8⟩ := hT.at (i := (k.toNat)) (x := x) (hx)
   obtain ⟨K12, cK12, rfl, hk1_12, hk2_12, hk3_12⟩ := hR9
   refine w_yes 9 14 true <| st_indexAddr T.u22 T.size36 (congrArg (fun z => Value.slice z _ _) hA7) rfl (by omega) (by omega) <| w_yes 9 14 true <| st_fieldAddr T.fld36_0 rfl <| w_yes 9 14 true <| st_load1 (v := .int _ _) T.one3 rfl (hC8.at (j := 0) rfl) <| w_yes 9 14 true <| st_neq rfl rfl <| pT rfl rfl <| aB rfl <| en <| x_ret <| ret_tmp (v := .bool _) rfl rfl <| ⟨?_, HC⟩
   unfold thereV kindV; rw [hio]; first | rfl | (simp; done)
  ·try simp only [nm, ne_eq] at g6
   have hio := ino_none (Z := Z) (k := k) (by omega)
   iterate 7 refine w_no 9 14 true ?_
   refine pF rfl rfl <| aB rfl <| en <| x_ret <| ret_tmp (v := .bool _) rfl rfl <| ⟨?_, HC⟩
   unfold thereV kindV; rw [hio]; first | rfl | (simp; done)
 ·try simp only [nm, ne_eq] at g5
  have hio := ino_none (Z := Z) (k := k) (by omega)
  iterate 5 refine w_no 2 7 true ?_
  refine pF rfl rfl <| mB rfl ?_
  iterate 7 refine w_no 9 14 true ?_
  refine pF rfl rfl <| aB rfl <| en <| x_ret <| ret_tmp (v := .bool _) rfl rfl <| ⟨?_, HC⟩
  unfold thereV kindV; rw [hio]; first | rfl | (simp; done)
theorem wdir_spec {Z : Tre} {An : Option Addr} {capn : Nat} {mx my : Int} {D : Nat → Prop} {w : World} (hT : Sl inE w D An Z) (hTl : Z.length ≤ 1000000000) (k : Int) : CallR Tryz.prog 62 #[.agg ⟨[.slice An Z.length capn, .int .i64 mx, .int .i64 my]⟩, .int .i64 k] w fun v w' => v = .bool (dirV Z k) ∧ Chg [] w w' := by
 replace hT := hT.mono (D' := fun k => k < w.heap.size) (fun k hk _ => hk)
 refine callR_of_wp (args := [_, _]) Tryz.func62 rfl (Nat.le_of_ble_eq_true rfl) ?_
 have HC : Chg [] w w := .refl _
 refine sr rfl <| Wp rfl <| st_box (v := .agg ⟨[.slice _ _ _, .int _ _, .int _ _]⟩) (vs := [_, _, _]) rfl rfl ?_
 intro b2 w1 e2 c3 hb4
 have ge_b2 := gB e2 HC.size
 replace HC := HC.then c3
 replace hT := hT.tr0 c3
 clear e2
 refine aB rfl <| en <| sr rfl <| Wp rfl <| st_loadA (vs := [_, _, _]) T.agg24 rfl (hb4.cells (n := 3) (vs := [_, _, _]) rfl) rfl <| mI rfl <| Wp rfl <| st_call (ags := [_, _]) rfl rfl T.ent63 rfl (wthere_spec hT hTl k) ?_
 rintro _ w5 ⟨rfl, c6⟩
 replace HC := HC.then c6
 replace hT := hT.tr0 c6
 replace hb4 := hb4.tr0 c6
 refine mB rfl <| w_split (d := 8) rfl (fun g7 => ?_) (fun g7 => ?_)
 ·try simp only [nm, ne_eq] at g7
  obtain ⟨hk0, hk1⟩ := there_in (by assumption)
  obtain ⟨x, hx, hio⟩ := ino_some (Z := Z) (k := k) (by omega) (by omega)
  refine w_yes 3 8 true <| st_fieldAddr T.fld24_0 rfl <| w_yes 3 8 true <| st_load1 (v := .slice _ _ _) T.one22 rfl (hb4.cell rfl) <| w_yes 3 8 true <| st_move (v := .int _ _) rfl ?_
  obtain ⟨lb12, _, vs11, hA8, hR10, hC9⟩ := hT.at (i := (k.toNat)) (x := x) (hx)
  obtain ⟨K13, cK13, rfl, hk1_13, hk2_13, hk3_13⟩ := hR10
  refine w_yes 3 8 true <| st_indexAddr T.u22 T.size36 (congrArg (fun z => Value.slice z _ _) hA8) rfl (by omega) (by omega) <| w_yes 3 8 true <| st_fieldAddr T.fld36_0 rfl <| w_yes 3 8 true <| st_load1 (v := .int _ _) T.one3 rfl (hC9.at (j := 0) rfl) <| w_yes 3 8 true <| st_eql rfl rfl <| pT rfl rfl <| aB rfl <| en <| x_ret <| ret_tmp (v := .bool _) rfl rfl <| ⟨?_, HC⟩
  unfold dirV kindV; rw [hio]; first | rfl | (simp; done)
 ·try simp only [nm, ne_eq] at g7
  iterate 7 refine w_no 3 8 true ?_
  refine pF rfl rfl <| aB rfl <| en <| x_ret <| ret_tmp (v := .bool _) rfl rfl ?_
  have h9 : kindV Z k = 0 := by have h8 : thereV Z k = false := (by assumption); unfold thereV at h8; simpa using h8
  refine ⟨?_, HC⟩
  unfold dirV; rw [h9]; rfl
theorem tthere_spec {Z : Tre} {An : Option Addr} {capn : Nat} {mx my : Int} {D : Nat → Prop} {w : World} (hT : Sl inE w D An Z) (hTl : Z.length ≤ 1000000000) (k : Int) : CallR Tryz.prog 133 #[.agg ⟨[.slice An Z.length capn, .int .i64 mx, .int .i64 my]⟩, .int .i64 k] w fun v w' => v = .bool (inV Z k) ∧ Chg [] w w' := by
 replace hT := hT.mono (D' := fun k => k < w.heap.size) (fun k hk _ => hk)
 refine callR_of_wp (args := [_, _]) Tryz.func133 rfl (Nat.le_of_ble_eq_true rfl) ?_
 have HC : Chg [] w w := .refl _
 refine sr rfl <| Wp rfl <| st_box (v := .agg ⟨[.slice _ _ _, .int _ _, .int _ _]⟩) (vs := [_, _, _]) rfl rfl ?_
 intro b2 w1 e2 c3 hb4
 have ge_b2 := gB e2 HC.size
 replace HC := HC.then c3
 clear e2
 refine aB rfl <| en <| sr rfl <| mI rfl <| Wp rfl <| st_leq rfl rfl <| mB rfl <| w_split (d := 7) rfl (fun g5 => ?_) (fun g5 => ?_)
 ·try simp only [nm, ne_eq] at g5
  refine w_yes 2 7 true <| st_move (v := .int _ _) rfl <| w_yes 2 7 true <| st_fieldAddr T.fld24_0 rfl <| w_yes 2 7 true <| st_load1 (v := .slice _ _ _) T.one22 rfl (hb4.cell rfl) <| w_yes 2 7 true <| st_len (ct := #[22]) (by rw [show ((#[22] : Array TypeId)[0]?).bind Tryz.prog.underlying = some (.slice 36) from T.u22]; rfl) rfl <| w_yes 2 7 true <| st_lss rfl rfl <| pT rfl rfl <| aB rfl <| en <| x_ret <| ret_tmp (v := .bool _) rfl rfl <| ⟨?_, HC⟩
  unfold inV; rw [decide_eq_true (show 0 ≤ k by omega)]; rfl
 ·try simp only [nm, ne_eq] at g5
  iterate 5 refine w_no 2 7 true ?_
  refine pF rfl rfl <| aB rfl <| en <| x_ret <| ret_tmp (v := .bool _) rfl rfl <| ⟨?_, HC⟩
  unfold inV; rw [decide_eq_false (show ¬ 0 ≤ k by omega)]; rfl
theorem tdir_spec {Z : Tre} {An : Option Addr} {capn : Nat} {mx my : Int} {D : Nat → Prop} {w : World} (hT : Sl inE w D An Z) (hTl : Z.length ≤ 1000000000) (k : Int) : CallR Tryz.prog 122 #[.agg ⟨[.slice An Z.length capn, .int .i64 mx, .int .i64 my]⟩, .int .i64 k] w fun v w' => v = .bool (dirV Z k) ∧ Chg [] w w' := by
 replace hT := hT.mono (D' := fun k => k < w.heap.size) (fun k hk _ => hk)
 refine callR_of_wp (args := [_, _]) Tryz.func122 rfl (Nat.le_of_ble_eq_true rfl) ?_
 have HC : Chg [] w w := .refl _
 refine sr rfl <| Wp rfl <| st_box (v := .agg ⟨[.slice _ _ _, .int _ _, .int _ _]⟩) (vs := [_, _, _]) rfl rfl ?_
 intro b2 w1 e2 c3 hb4
 have ge_b2 := gB e2 HC.size
 replace HC := HC.then c3
 replace hT := hT.tr0 c3
 clear e2
 refine aB rfl <| en <| sr rfl <| Wp rfl <| st_loadA (vs := [_, _, _]) T.agg24 rfl (hb4.cells (n := 3) (vs := [_, _, _]) rfl) rfl <| mI rfl <| Wp rfl <| st_call (ags := [_, _]) rfl rfl T.ent133 rfl (tthere_spec hT hTl k) ?_
 rintro _ w5 ⟨rfl, c6⟩
 replace HC := HC.then c6
 replace hT := hT.tr0 c6
 replace hb4 := hb4.tr0 c6
 refine mB rfl <| w_split (d := 8) rfl (fun g7 => ?_) (fun g7 => ?_)
 ·try simp only [nm, ne_eq] at g7
  have hin : inV Z k = true := by assumption
  unfold inV at hin; rw [Bool.and_eq_true, decide_eq_true_eq, decide_eq_true_eq] at hin
  obtain ⟨hk0, hk1⟩ := hin
  obtain ⟨x, hx, hio⟩ := ino_some (Z := Z) (k := k) (by omega) (by omega)
  refine w_yes 3 8 true <| st_fieldAddr T.fld24_0 rfl <| w_yes 3 8 true <| st_load1 (v := .slice _ _ _) T.one22 rfl (hb4.cell rfl) <| w_yes 3 8 true <| st_move (v := .int _ _) rfl ?_
  obtain ⟨lb12, _, vs11, hA8, hR10, hC9⟩ := hT.at (i := (k.toNat)) (x := x) (hx)
  obtain ⟨K13, cK13, rfl, hk1_13, hk2_13, hk3_13⟩ := hR10
  refine w_yes 3 8 true <| st_indexAddr T.u22 T.size36 (congrArg (fun z => Value.slice z _ _) hA8) rfl (by omega) (by omega) <| w_yes 3 8 true <| st_fieldAddr T.fld36_0 rfl <| w_yes 3 8 true <| st_load1 (v := .int _ _) T.one3 rfl (hC9.at (j := 0) rfl) <| w_yes 3 8 true <| st_eql rfl rfl <| pT rfl rfl <| aB rfl <| en <| x_ret <| ret_tmp (v := .bool _) rfl rfl <| ⟨?_, HC⟩
  unfold dirV kindV; rw [hio]; first | rfl | (simp; done)
 ·try simp only [nm, ne_eq] at g7
  have hin : inV Z k = false := by assumption
  have hio := ino_none (Z := Z) (k := k) (fun h => by unfold inV at hin; rw [decide_eq_true h.1, decide_eq_true h.2] at hin; cases hin)
  iterate 7 refine w_no 3 8 true ?_
  refine pF rfl rfl <| aB rfl <| en <| x_ret <| ret_tmp (v := .bool _) rfl rfl <| ⟨?_, HC⟩
  unfold dirV kindV; rw [hio]; first | rfl | (simp; done)
theorem kid1_spec (p : Ke) (n : Bytes) (w : World) : CallR Tryz.prog 124 #[.agg ⟨[S p.1, .int .i64 p.2]⟩, S n] w fun v w' => v = .int .i64 (Lib.compareBytes p.1 n) ∧ Chg [] w w' := by
 refine callR_of_wp (args := [_, _]) Tryz.func124 rfl (Nat.le_of_ble_eq_true rfl) ?_
 have HC : Chg [] w w := .refl _
 refine sr rfl <| Wp rfl <| st_box (v := .agg ⟨[S _, .int _ _]⟩) (vs := [_, _]) rfl rfl ?_
 intro b1 w2 e3 c4 hb5
 have ge_b1 := gB e3 HC.size
 replace HC := HC.then c4
 clear e3
 refine aI rfl <| en <| sr rfl <| fa T.fld38_0 rfl <| lS T.one9 rfl (hb5.cell rfl) <| mS rfl <| Wp rfl <| st_call (ags := [_, _]) rfl rfl T.ent125 rfl (Compare_spec _ _ _) ?_
 rintro _ w6 ⟨rfl, c7⟩
 replace HC := HC.then c7
 refine aI rfl <| en <| x_ret <| ret_tmp (v := .int _ _) rfl rfl ?_
 exact ⟨rfl, HC⟩
theorem wrap_s1 {i : Nat} (h : i ≤ 9223372036854775000) : IntKind.i64.wrap ((i : Int) + 1) = ((i + 1 : Nat) : Int) := by rw [wrap64_id (by omega) (by omega)]; omega
theorem ksearch_spec {vs : List Ke} {Av : Option Addr} {cv : Nat} {Dv : Nat → Prop} {w : World} (n : Bytes) (hv : Sl keE w Dv Av vs) (hr : RiseK vs) (hl : vs.length ≤ 1000000000) : CallR Tryz.prog 123 #[.slice Av vs.length cv, S n, .func (.func 124) #[] #[]] w fun v w' => v = .tuple ⟨[.int .i64 (plK vs n : Int), .bool (isK vs n)]⟩ ∧ Chg [] w w' := by
 refine callR_of_wp (args := [_, _, _]) Tryz.func123 rfl (Nat.le_of_ble_eq_true rfl) ?_
 have HC : Chg [] w w := .refl _
 refine sr rfl <| aI rfl <| aB rfl <| en <| sr rfl <| mL rfl <| Wp rfl <| st_len (ct := #[34]) (by rw [show ((#[34] : Array TypeId)[0]?).bind Tryz.prog.underlying = some (.slice 38) from T.u34]; rfl) rfl <| aI rfl <| en <| sr rfl <| mI rfl <| aI rfl <| aI rfl <| en <| x_seq <| x_block <| x_loop (ι := Nat × Nat) [9, 10, 11, 15, 16, 17, 18, 19, 20, 21, 22, 23, 24, 25, 26, 27, 28, 29, 30, 31, 32, 33, 34] (fun ⟨i, j⟩ => [(9, .int .i64 (i : Int)), (10, .int .i64 (j : Int))]) (fun ⟨i, j⟩ W => (i ≤ j ∧ j ≤ vs.length ∧ (∀ k p, k < i → vs[k]? = some p → Op.bytesLess p.1 n = true) ∧ (∀ k p, j ≤ k → vs[k]? = some p → Op.bytesLess p.1 n = false)) ∧ (Chg [] w W) ∧ (Sl keE W Dv Av vs)) (fun ⟨i, j⟩ => j - i) (0, vs.length) ?_ ?_ ?_
 · exact ⟨rfl, rfl, trivial⟩
 ·refine ⟨?_, HC, hv⟩
  exact ⟨Nat.zero_le _, Nat.le_refl _, fun k p hk => absurd hk (Nat.not_lt_zero _), fun k p hk hp => by have := (List.getElem?_eq_some_iff.1 hp).1; omega⟩
 intro ⟨i, j⟩ G2 w1 ⟨⟨hij, hjn, hlo, hhi⟩, HC, hv⟩
 change wp _ _ _ _ _ (upds (over _ _ G2) [(9, .int .i64 (i : Int)), (10, .int .i64 (j : Int))]) _ _
 refine x_seq <| sr rfl <| mI rfl <| mI rfl <| Wp rfl <| st_lss rfl rfl <| en <| x_cond rfl (fun h0 => ?_) (fun h0 => ?_)
 ·try simp only [nm, ne_eq] at h0
  refine x_skip <| then_n <| x_block <| sr rfl <| mI rfl <| mI rfl <| Wp rfl <| st_addn rfl rfl (by constructor <;> omega) <| Wp rfl <| st_convk T.u3 T.u86 rfl (by exact wrapu64_id (by omega) (by omega)) <| Wp rfl <| st_shr rfl rfl (by decide) <| Wp rfl <| st_convk T.u86 T.u3 rfl (by exact half64 (by omega)) <| aI rfl <| en <| sr rfl <| mv (v := .func _ _ _) rfl <| mL rfl <| mI rfl ?_
  obtain ⟨x3, hx4⟩ : ∃ zz, vs[((i + j) / 2)]? = some zz := ⟨_, List.getElem?_eq_getElem (by omega)⟩
  obtain ⟨lb9, _, vs8, hA5, hR7, hC6⟩ := hv.at hx4
  obtain rfl : vs8 = [S x3.1, .int .i64 x3.2] := hR7
  refine Wp rfl <| st_indexAddr T.u34 T.size38 (congrArg (fun z => Value.slice z _ _) hA5) rfl (by omega) (by omega) <| Wp rfl <| st_loadA (vs := [_, _]) T.agg38 rfl hC6 rfl <| mS rfl <| Wp rfl <| st_call (ags := [_, _]) rfl rfl T.ent124 rfl (kid1_spec _ _ _) ?_
  rintro _ w10 ⟨rfl, c11⟩
  replace HC := HC.then c11
  replace hv := hv.tr0 c11
  refine Wp rfl <| st_lss rfl rfl <| en <| x_cond rfl (fun h1 => ?_) (fun h1 => ?_)
  ·try simp only [nm, ne_eq] at h1
   refine x_region rfl <| mI rfl <| Wp rfl <| st_addk rfl rfl (by exact wrap_s1 (by omega)) <| aI rfl <| wops_nil <| block_n <| then_n <| ⟨((i + j) / 2 + 1, j), ?_, ?_, rfl, ⟨rfl, rfl, trivial⟩, ?_⟩
   ·refine ⟨?_, HC, hv⟩
    exact ⟨by omega, hjn, riseK_below hr hx4 (cmp_less.1 h1), hhi⟩
   ·show j - ((i + j) / 2 + 1) < j - i; omega
   exact q9
  ·try simp only [nm, ne_eq] at h1
   refine x_region rfl <| mI rfl <| aI rfl <| wops_nil <| block_n <| then_n <| ⟨(i, (i + j) / 2), ?_, ?_, rfl, ⟨rfl, rfl, trivial⟩, ?_⟩
   ·refine ⟨?_, HC, hv⟩
    exact ⟨by omega, by omega, hlo, riseK_above hr hx4 (by cases hb : Op.bytesLess x3.1 n with | false => rfl | true => exact absurd (cmp_less.2 hb) h1)⟩
   ·show (i + j) / 2 - i < j - i; omega
   exact q9
 ·try simp only [nm, ne_eq] at h0
  obtain rfl : i = j := by omega
  have hpl : plK vs n = i := plK_at hjn hlo (fun p hp => hhi i p (Nat.le_refl _) hp)
  refine x_exit <| then_x <| then_x <| block_x <| then_n <| sr rfl <| mI rfl <| mI rfl <| mI rfl <| Wp rfl <| st_lss rfl rfl <| mB rfl <| w_split (d := 39) rfl (fun g12 => ?_) (fun g12 => ?_)
  ·try simp only [nm, ne_eq] at g12
   refine w_yes 4 39 true <| st_move (v := .func _ _ _) rfl <| w_yes 4 39 true <| st_move (v := .slice _ _ _) rfl <| w_yes 4 39 true <| st_move (v := .int _ _) rfl ?_
   obtain ⟨x13, hx14⟩ : ∃ zz, vs[i]? = some zz := ⟨_, List.getElem?_eq_getElem (by omega)⟩
   obtain ⟨lb19, _, vs18, hA15, hR17, hC16⟩ := hv.at hx14
   obtain rfl : vs18 = [S x13.1, .int .i64 x13.2] := hR17
   refine w_yes 4 39 true <| st_indexAddr T.u34 T.size38 (congrArg (fun z => Value.slice z _ _) hA15) rfl (by omega) (by omega) <| w_yes 4 39 true <| st_loadA (vs := [_, _]) T.agg38 rfl hC16 rfl <| w_yes 4 39 true <| st_move (v := S _) rfl <| w_yes 4 39 true <| st_call (ags := [_, _]) rfl rfl T.ent124 rfl (kid1_spec _ _ _) ?_
   rintro _ w20 ⟨rfl, c21⟩
   replace HC := HC.then c21
   refine w_yes 4 39 true <| st_eql rfl rfl <| pT rfl rfl <| aI rfl <| aB rfl <| en <| x_ret <| ret_tmp2 (v := .int _ _) (v2 := .bool _) rfl rfl rfl <| ⟨?_, HC⟩
   unfold isK; rw [hpl]
   rw [hx14]; simp only [Option.map_some, Option.some.injEq, cmp_zero]
  ·try simp only [nm, ne_eq] at g12
   iterate 8 refine w_no 4 39 true ?_
   refine pF rfl rfl <| aI rfl <| aB rfl <| en <| x_ret <| ret_tmp2 (v := .int _ _) (v2 := .bool _) rfl rfl rfl <| ⟨?_, HC⟩
   unfold isK; rw [hpl]
   rw [List.getElem?_eq_none (by omega)]; rfl
theorem kidK_at {ks : List Ke} {n : Bytes} (h : isK ks n = true) : ∃ p, ks[plK ks n]? = some p ∧ kidK ks n = p.2 ∧ p ∈ ks := by
  have h2 := h
  unfold isK at h; rw [decide_eq_true_eq] at h
  cases h5 : ks[plK ks n]? with
  | none => rw [h5] at h; cases h
  | some p => exact ⟨p, rfl, by unfold kidK; rw [if_pos h2, h5]; rfl, List.mem_of_getElem? h5⟩
theorem Kid_spec {Z : Tre} {An : Option Addr} {capn : Nat} {mx my : Int} {D : Nat → Prop} {w : World} (hT : Sl inE w D An Z) (hTl : Z.length ≤ 1000000000) (hF : FitT Z) (k : Int) (n : Bytes) : CallR Tryz.prog 110 #[.agg ⟨[.slice An Z.length capn, .int .i64 mx, .int .i64 my]⟩, .int .i64 k, S n] w fun v w' => v = .int .i64 (kidV Z k n) ∧ Chg [] w w' := by
 replace hT := hT.mono (D' := fun k => k < w.heap.size) (fun k hk _ => hk)
 refine callR_of_wp (args := [_, _, _]) Tryz.func110 rfl (Nat.le_of_ble_eq_true rfl) ?_
 have HC : Chg [] w w := .refl _
 refine sr rfl <| Wp rfl <| st_box (v := .agg ⟨[.slice _ _ _, .int _ _, .int _ _]⟩) (vs := [_, _, _]) rfl rfl ?_
 intro b3 w1 e2 c3 hb4
 have ge_b3 := gB e2 HC.size
 replace HC := HC.then c3
 replace hT := hT.tr0 c3
 clear e2
 refine aI rfl <| en <| x_seq <| sr rfl <| Wp rfl <| st_loadA (vs := [_, _, _]) T.agg24 rfl (hb4.cells (n := 3) (vs := [_, _, _]) rfl) rfl <| mI rfl <| Wp rfl <| st_call (ags := [_, _]) rfl rfl T.ent122 rfl (tdir_spec hT hTl k) ?_
 rintro _ w5 ⟨rfl, c6⟩
 replace HC := HC.then c6
 replace hT := hT.tr0 c6
 replace hb4 := hb4.tr0 c6
 refine Wp rfl <| st_not rfl <| en <| x_cond rfl (fun h0 => ?_) (fun h0 => ?_)
 ·try simp only [nm, ne_eq] at h0
  have hd : dirV Z k = false := by simpa using h0
  have hkv : kidV Z k n = -1 := by unfold kidV; rw [hd]; rfl
  refine sr rfl <| aI rfl <| en <| x_ret <| then_r <| ret_tmp (v := .int _ _) rfl rfl ?_
  rw [hkv]
  exact ⟨rfl, HC⟩
 ·try simp only [nm, ne_eq] at h0
  have hd : dirV Z k = true := by simpa using h0
  obtain ⟨hk0, hk1⟩ := dir_in hd
  obtain ⟨x, hx, hio⟩ := ino_some (Z := Z) (k := k) (by omega) (by omega)
  obtain ⟨hkr, hkl, hki⟩ := hF.kids x (List.mem_of_getElem? hx)
  have hkv0 : kidV Z k n = kidK x.kids n := by unfold kidV kidsV; rw [hd, hio]; rfl
  refine x_skip <| then_n <| sr rfl <| fa T.fld24_0 rfl <| lL T.one22 rfl (hb4.cell rfl) <| mI rfl ?_
  obtain ⟨lb11, _, vs10, hA7, hR9, hC8⟩ := hT.at (i := (k.toNat)) (x := x) (hx)
  obtain ⟨K12, cK12, rfl, hk1_12, hk2_12, hk3_12⟩ := hR9
  refine Wp rfl <| st_indexAddr T.u22 T.size36 (congrArg (fun z => Value.slice z _ _) hA7) rfl (by omega) (by omega) <| fa T.fld36_4 rfl <| lL T.one34 rfl (hC8.at (j := 4) rfl) <| aL rfl <| en <| sr rfl <| mL rfl <| mS rfl <| Wp rfl <| st_call (ags := [_, _, _]) rfl rfl T.ent123 rfl (ksearch_spec n hk3_12 hkr (by omega)) ?_
  rintro _ w13 ⟨rfl, c14⟩
  replace HC := HC.then c14
  replace hk3_12 := hk3_12.tr0 c14
  refine mv (v := .tuple ⟨[_, _]⟩) rfl <| Wp rfl <| st_extract (vs := [_, _]) (v := .int _ _) rfl rfl <| Wp rfl <| st_extract (vs := [_, _]) (v := .bool _) rfl rfl <| aI rfl <| aB rfl <| en <| x_seq <| sr rfl <| mB rfl <| Wp rfl <| st_not rfl <| en <| x_cond rfl (fun h1 => ?_) (fun h1 => ?_)
  ·try simp only [nm, ne_eq] at h1
   have hk9 : isK x.kids n = false := by simpa using h1
   have hkv : kidV Z k n = -1 := by rw [hkv0]; unfold kidK; rw [hk9]; rfl
   refine sr rfl <| aI rfl <| en <| x_ret <| then_r <| ret_tmp (v := .int _ _) rfl rfl ?_
   rw [hkv]
   exact ⟨rfl, HC⟩
  ·try simp only [nm, ne_eq] at h1
   have hk9 : isK x.kids n = true := by simpa using h1
   obtain ⟨q, hq, hq2, hq3⟩ := kidK_at hk9
   have hkv : kidV Z k n = q.2 := by rw [hkv0]; exact hq2
   have hpq := (List.getElem?_eq_some_iff.1 hq).1
   refine x_skip <| then_n <| sr rfl <| mL rfl <| mI rfl ?_
   obtain ⟨lb19, _, vs18, hA15, hR17, hC16⟩ := hk3_12.at (i := (plK x.kids n)) (x := q) (hq)
   obtain rfl : vs18 = [S q.1, .int .i64 q.2] := hR17
   refine Wp rfl <| st_indexAddr T.u34 T.size38 (congrArg (fun z => Value.slice z _ _) hA15) rfl (by omega) (by omega) <| fa T.fld38_1 rfl <| lI T.one3 rfl (hC16.at (j := 1) rfl) <| aI rfl <| en <| x_ret <| ret_tmp (v := .int _ _) rfl rfl ?_
   rw [hkv]
   exact ⟨rfl, HC⟩
theorem May_spec {Z : Tre} {An : Option Addr} {capn : Nat} {mx my : Int} {D : Nat → Prop} {w : World} (hT : Sl inE w D An Z) (hTl : Z.length ≤ 1000000000) (k m : Int) (hm : m = 1 ∨ m = 2 ∨ m = 4) : CallR Tryz.prog 41 #[.agg ⟨[.slice An Z.length capn, .int .i64 mx, .int .i64 my]⟩, .int .i64 k, .int .i64 m] w fun v w' => v = .bool (mayV Z k m) ∧ Chg [] w w' := by
 replace hT := hT.mono (D' := fun k => k < w.heap.size) (fun k hk _ => hk)
 have hsh : shrV .i64 m 3 = 0 := by rcases hm with rfl | rfl | rfl <;> rfl
 refine callR_of_wp (args := [_, _, _]) Tryz.func41 rfl (Nat.le_of_ble_eq_true rfl) ?_
 have HC : Chg [] w w := .refl _
 refine sr rfl <| Wp rfl <| st_box (v := .agg ⟨[.slice _ _ _, .int _ _, .int _ _]⟩) (vs := [_, _, _]) rfl rfl ?_
 intro b3 w1 e2 c3 hb4
 have ge_b3 := gB e2 HC.size
 replace HC := HC.then c3
 replace hT := hT.tr0 c3
 clear e2
 refine aB rfl <| en <| sr rfl <| mI rfl <| Wp rfl <| st_shr rfl rfl (by decide) <| Wp rfl <| st_eql rfl rfl <| mB rfl <| w_split (d := 10) rfl (fun g5 => ?_) (fun g5 => ?_)
 ·try simp only [nm, ne_eq] at g5
  refine w_yes 3 10 true <| st_loadA (vs := [_, _, _]) T.agg24 rfl (hb4.cells (n := 3) (vs := [_, _, _]) rfl) rfl <| w_yes 3 10 true <| st_move (v := .int _ _) rfl <| w_yes 3 10 true <| st_call (ags := [_, _]) rfl rfl T.ent63 rfl (wthere_spec hT hTl k) ?_
  rintro _ w6 ⟨rfl, c7⟩
  replace HC := HC.then c7
  replace hT := hT.tr0 c7
  replace hb4 := hb4.tr0 c7
  refine pT rfl rfl <| mB rfl <| w_split (d := 15) rfl (fun g8 => ?_) (fun g8 => ?_)
  ·try simp only [nm, ne_eq] at g8
   have hth : thereV Z k = true := by assumption
   obtain ⟨hk0, hk1⟩ := there_in hth
   obtain ⟨x, hx, hio⟩ := ino_some (Z := Z) (k := k) (by omega) (by omega)
   refine w_yes 8 15 true <| st_fieldAddr T.fld24_0 rfl <| w_yes 8 15 true <| st_load1 (v := .slice _ _ _) T.one22 rfl (hb4.cell rfl) <| w_yes 8 15 true <| st_move (v := .int _ _) rfl ?_
   obtain ⟨lb13, _, vs12, hA9, hR11, hC10⟩ := hT.at (i := (k.toNat)) (x := x) (hx)
   obtain ⟨K14, cK14, rfl, hk1_14, hk2_14, hk3_14⟩ := hR11
   refine w_yes 8 15 true <| st_indexAddr T.u22 T.size36 (congrArg (fun z => Value.slice z _ _) hA9) rfl (by omega) (by omega) <| w_yes 8 15 true <| st_fieldAddr T.fld36_1 rfl <| w_yes 8 15 true <| st_load1 (v := .int _ _) T.one3 rfl (hC10.at (j := 1) rfl) <| w_yes 8 15 true <| st_move (v := .int _ _) rfl <| w_yes 8 15 true <| st_and rfl rfl <| w_yes 8 15 true <| st_move (v := .int _ _) rfl <| w_yes 8 15 true <| st_eql rfl rfl <| pT rfl rfl <| aB rfl <| en <| x_ret <| ret_tmp (v := .bool _) rfl rfl <| ⟨?_, HC⟩
   unfold mayV modeV; rw [hth, hio]; rfl
  ·try simp only [nm, ne_eq] at g8
   iterate 10 refine w_no 8 15 true ?_
   refine pF rfl rfl <| aB rfl <| en <| x_ret <| ret_tmp (v := .bool _) rfl rfl ?_
   have hth : thereV Z k = false := by assumption
   refine ⟨?_, HC⟩
   unfold mayV; rw [hth]; rfl
 ·try simp only [nm, ne_eq] at g5
  exfalso; rw [hsh] at g5; exact absurd rfl g5
theorem step_spec {Z : Tre} {An : Option Addr} {capn : Nat} {mx my : Int} {D : Nat → Prop} {w : World} (hT : Sl inE w D An Z) (hTl : Z.length ≤ 1000000000) (hF : FitT Z) (k : Int) (n : Bytes) : CallR Tryz.prog 87 #[.agg ⟨[.slice An Z.length capn, .int .i64 mx, .int .i64 my]⟩, .int .i64 k, S n] w fun v w' => v = .tuple ⟨[.int .i64 (stepV Z k n).1, .int .i64 (stepV Z k n).2]⟩ ∧ Chg [] w w' := by
 replace hT := hT.mono (D' := fun k => k < w.heap.size) (fun k hk _ => hk)
 refine callR_of_wp (args := [_, _, _]) Tryz.func87 rfl (Nat.le_of_ble_eq_true rfl) ?_
 have HC : Chg [] w w := .refl _
 refine sr rfl <| Wp rfl <| st_box (v := .agg ⟨[.slice _ _ _, .int _ _, .int _ _]⟩) (vs := [_, _, _]) rfl rfl ?_
 intro b3 w1 e2 c3 hb4
 have ge_b3 := gB e2 HC.size
 replace HC := HC.then c3
 replace hT := hT.tr0 c3
 clear e2
 refine aI rfl <| aI rfl <| en <| x_seq <| x_block <| sr rfl <| Wp rfl <| st_loadA (vs := [_, _, _]) T.agg24 rfl (hb4.cells (n := 3) (vs := [_, _, _]) rfl) rfl <| mI rfl <| Wp rfl <| st_call (ags := [_, _]) rfl rfl T.ent62 rfl (wdir_spec hT hTl k) ?_
 rintro _ w5 ⟨rfl, c6⟩
 replace HC := HC.then c6
 replace hT := hT.tr0 c6
 replace hb4 := hb4.tr0 c6
 refine Wp rfl <| st_not rfl <| aB rfl <| en <| x_cond rfl (fun h0 => ?_) (fun h0 => ?_)
 ·try simp only [nm, ne_eq] at h0
  refine sr rfl <| aI rfl <| aI rfl <| en <| x_ret <| block_r <| then_r <| ret_tmp2 (v := .int _ _) (v2 := .int _ _) rfl rfl rfl <| ⟨?_, HC⟩
  unfold stepV; rw [if_pos (by simpa using h0)]
 ·try simp only [nm, ne_eq] at h0
  have hd : dirV Z k = true := by simpa using h0
  obtain ⟨hk0, hk1⟩ := dir_in hd
  obtain ⟨x, hx, hio⟩ := ino_some (Z := Z) (k := k) (by omega) (by omega)
  refine sr rfl <| Wp rfl <| st_loadA (vs := [_, _, _]) T.agg24 rfl (hb4.cells (n := 3) (vs := [_, _, _]) rfl) rfl <| mI rfl <| Wp rfl <| st_call (ags := [_, _, _]) rfl rfl T.ent41 rfl (May_spec hT hTl k 1 (.inl rfl)) ?_
  rintro _ w7 ⟨rfl, c8⟩
  replace HC := HC.then c8
  replace hT := hT.tr0 c8
  replace hb4 := hb4.tr0 c8
  refine Wp rfl <| st_not rfl <| aB rfl <| en <| x_cond rfl (fun h1 => ?_) (fun h1 => ?_)
  ·try simp only [nm, ne_eq] at h1
   refine sr rfl <| aI rfl <| aI rfl <| en <| x_ret <| block_r <| then_r <| ret_tmp2 (v := .int _ _) (v2 := .int _ _) rfl rfl rfl <| ⟨?_, HC⟩
   unfold stepV; rw [if_neg (by simpa using h0), if_pos (by simpa using h1)]
  ·try simp only [nm, ne_eq] at h1
   refine sr rfl <| mS rfl <| Wp rfl <| st_seql rfl rfl <| aB rfl <| en <| x_cond rfl (fun h2 => ?_) (fun h2 => ?_)
   ·try simp only [nm, ne_eq] at h2
    refine sr rfl <| mI rfl <| aI rfl <| aI rfl <| en <| x_ret <| block_r <| then_r <| ret_tmp2 (v := .int _ _) (v2 := .int _ _) rfl rfl rfl <| ⟨?_, HC⟩
    unfold stepV; rw [if_neg (by simpa using h0), if_neg (by simpa using h1), if_pos h2]
   ·try simp only [nm, ne_eq] at h2
    refine sr rfl <| mS rfl <| Wp rfl <| st_seql rfl rfl <| aB rfl <| en <| x_cond rfl (fun h3 => ?_) (fun h3 => ?_)
    ·try simp only [nm, ne_eq] at h3
     refine sr rfl <| fa T.fld24_0 rfl <| lL T.one22 rfl (hb4.cell rfl) <| mI rfl ?_
     obtain ⟨lb13, _, vs12, hA9, hR11, hC10⟩ := hT.at (i := (k.toNat)) (x := x) (hx)
     obtain ⟨K14, cK14, rfl, hk1_14, hk2_14, hk3_14⟩ := hR11
     refine Wp rfl <| st_indexAddr T.u22 T.size36 (congrArg (fun z => Value.slice z _ _) hA9) rfl (by omega) (by omega) <| fa T.fld36_5 rfl <| lI T.one3 rfl (hC10.at (j := 5) rfl) <| aI rfl <| aI rfl <| en <| x_ret <| block_r <| then_r <| ret_tmp2 (v := .int _ _) (v2 := .int _ _) rfl rfl rfl <| ⟨?_, HC⟩
     unfold stepV; rw [if_neg (by simpa using h0), if_neg (by simpa using h1), if_neg h2, if_pos h3]
     unfold upV; rw [hio]; rfl
    ·try simp only [nm, ne_eq] at h3
     refine x_skip <| block_n <| then_n <| x_seq <| sr rfl <| Wp rfl <| st_loadA (vs := [_, _, _]) T.agg24 rfl (hb4.cells (n := 3) (vs := [_, _, _]) rfl) rfl <| mI rfl <| mS rfl <| Wp rfl <| st_call (ags := [_, _, _]) rfl rfl T.ent110 rfl (Kid_spec hT hTl hF k n) ?_
     rintro _ w15 ⟨rfl, c16⟩
     replace HC := HC.then c16
     refine aI rfl <| en <| sr rfl <| mI rfl <| Wp rfl <| st_geq rfl rfl <| en <| x_cond rfl (fun h4 => ?_) (fun h4 => ?_)
     ·try simp only [nm, ne_eq] at h4
      refine sr rfl <| mI rfl <| aI rfl <| aI rfl <| en <| x_ret <| then_r <| ret_tmp2 (v := .int _ _) (v2 := .int _ _) rfl rfl rfl <| ⟨?_, HC⟩
      unfold stepV; rw [if_neg (by simpa using h0), if_neg (by simpa using h1), if_neg h2, if_neg h3, if_pos h4]
     ·try simp only [nm, ne_eq] at h4
      refine x_skip <| then_n <| sr rfl <| aI rfl <| aI rfl <| en <| x_ret <| ret_tmp2 (v := .int _ _) (v2 := .int _ _) rfl rfl rfl <| ⟨?_, HC⟩
      unfold stepV; rw [if_neg (by simpa using h0), if_neg (by simpa using h1), if_neg h2, if_neg h3, if_neg h4]
open Go Go.Proofs Go.RowKit
def MaxT (w : World) : Prop := ∃ m, w.cell? ⟨0, 0, none⟩ = some (.int .i64 m)
theorem MaxT.lt {w : World} (h : MaxT w) : 0 < w.heap.size := by
  obtain ⟨m, h⟩ := h
  rcases Nat.lt_or_ge 0 w.heap.size with h1 | h1
  · exact h1
  · have h2 : w.heap[0]? = none := Array.getElem?_eq_none h1
    simp [World.cell?, h2] at h
theorem MaxT.kept {w w' : World} (h : MaxT w) (e : w'.heap[0]? = w.heap[0]?) : MaxT w' := by
  obtain ⟨m, h⟩ := h; exact ⟨m, by rw [← h]; simp only [World.cell?, e]⟩
theorem MaxT.tr {w w' : World} {bs : List Nat} (h : MaxT w) (c : Chg bs w w') (hb : 0 ∉ bs) : MaxT w' := h.kept (c.block _ h.lt hb)
theorem MaxT.tr0 {w w' : World} (h : MaxT w) (c : Chg [] w w') : MaxT w' := h.tr c (by simp)
theorem Cut_spec (s c : Bytes) (w : World) (hs : s.length < 4294967281) (hm : MaxT w) : CallR Tryz.prog 132 #[S s, S c] w fun v w' => v = .tuple ⟨[S (Lib.cut s c).1, S (Lib.cut s c).2.1, .bool (Lib.cut s c).2.2]⟩ ∧ Chg [] w w' := by
  obtain ⟨m, hm⟩ := hm
  exact CallR.of (Tryz.strings_Cut ⟨⟨s⟩⟩ ⟨⟨c⟩⟩ m w hs hm) fun e w' ⟨h1, n, h2⟩ => ⟨_, h1, rfl, by rw [h2]; exact Chg.drewN w n⟩
def partsF : Nat → Bytes → List Bytes
  | 0, _ => []
  | k + 1, s => if s = [] then [] else if (Lib.cut s [47]).1 = [] then partsF k (Lib.cut s [47]).2.1 else (Lib.cut s [47]).1 :: partsF k (Lib.cut s [47]).2.1
def partsV (s : Bytes) : List Bytes := partsF (s.length + 1) s
theorem cut_len {s c : Bytes} (hs : s ≠ []) (hc : c ≠ []) : (Lib.cut s c).2.1.length < s.length ∧ (Lib.cut s c).1.length ≤ s.length := by
  have h0 : 0 < s.length := List.length_pos_iff.2 hs
  have h1 : 0 < c.length := List.length_pos_iff.2 hc
  unfold Lib.cut; split
  · simp only [List.length_drop, List.length_take]; omega
  · exact ⟨by simpa using h0, Nat.le_refl _⟩
theorem partsF_len : ∀ (k : Nat) (s : Bytes), (partsF k s).length ≤ s.length
  | 0, s => by simp [partsF]
  | k + 1, s => by
    rw [partsF]
    split
    · simp
    · rename_i h
      have h1 := cut_len (c := [47]) h (by simp)
      have h2 := partsF_len k (Lib.cut s [47]).2.1
      split
      · omega
      · rw [List.length_cons]; omega
theorem names_iter {bp : Nat} {s : Bytes} {K : Nat → Prop} {w : World} (qz1 : Blk w bp [S s] 9) (hmx : MaxT w) (hK1 : K bp) (hKm : K 0) (hbp : bp ≠ 0) (hs : s.length ≤ 100000000) :
    Iter Tryz.prog 131 [.pointer (some ⟨bp, 0, none⟩)] [bp] K (fun s => [S s]) (partsV s) w := by
 intro lp J Jx W hws hk hJm hJxm hR hJ
 replace qz1 := qz1.of_eq (hk _ qz1.lt hK1)
 replace hmx := hmx.kept (hk _ hmx.lt hKm)
 refine callR_of_wp (args := [_, _]) Tryz.func131 rfl (Nat.le_of_ble_eq_true rfl) <| x_block <| x_loop (ι := Nat × Bytes × List Bytes) [3, 4, 5, 6, 7, 8, 9, 10, 11, 12, 13, 14, 15, 16, 17, 18, 19, 20, 21, 22] (fun ⟨k, q, pre⟩ => []) (fun ⟨k, q, pre⟩ W => (q.length < k ∧ q.length ≤ s.length ∧ pre ++ partsF k q = partsV s) ∧ (Blk W bp [S q] 9) ∧ (MaxT W) ∧ (J pre W)) (fun ⟨k, q, pre⟩ => q.length) (s.length + 1, s, []) ?_ ?_ ?_
 · exact trivial
 ·refine ⟨?_, qz1, hmx, hJ⟩
  exact ⟨by omega, Nat.le_refl _, rfl⟩
 intro ⟨k, q, pre⟩ G2 w1 ⟨⟨hqk, hql, hq⟩, qz1, hmx, hJ⟩
 change wp _ _ _ _ _ (upds (over _ _ G2) []) _ _
 obtain ⟨k, rfl⟩ : ∃ j, k = j + 1 := ⟨k - 1, by omega⟩
 refine x_seq <| sr rfl <| lS T.one9 rfl (qz1.cell rfl) <| Wp rfl <| st_sneq rfl rfl <| en <| x_cond rfl (fun h0 => ?_) (fun h0 => ?_)
 ·try simp only [nm, ne_eq] at h0
  have hqn : q ≠ [] := by first | assumption | simpa using h0
  have hcl := cut_len (c := [47]) hqn (by simp)
  refine x_skip <| then_n <| x_block <| sr rfl <| lS T.one9 rfl (qz1.cell rfl) <| Wp rfl <| st_call (ags := [_, _]) rfl rfl T.ent132 rfl (Cut_spec q [47] _ (by omega) hmx) ?_
  rintro _ w3 ⟨rfl, c4⟩
  replace qz1 := qz1.tr0 c4
  replace hmx := hmx.tr0 c4
  replace hJ := hJm _ _ _ hJ (c4).wide
  refine mv (v := .tuple ⟨[_, _, _]⟩) rfl <| Wp rfl <| st_extract (vs := [_, _, _]) (v := S _) rfl rfl <| Wp rfl <| st_extract (vs := [_, _, _]) (v := S _) rfl rfl <| Wp rfl <| st_extract (vs := [_, _, _]) (v := .bool _) rfl rfl <| aS rfl <| aS rfl <| aB rfl <| en <| x_seq <| sr rfl <| mS rfl <| Wp rfl <| st_sneq rfl rfl <| mB rfl <| w_split (d := 16) rfl (fun g5 => ?_) (fun g5 => ?_)
  ·try simp only [nm, ne_eq] at g5
   refine w_yes 2 16 true <| st_move (v := .func _ _ _) rfl <| w_yes 2 16 true <| st_move (v := S _) rfl <| w_yes 2 16 true <| st_yield (vs := [S _]) rfl rfl rfl rfl (hR pre (Lib.cut q [47]).1 _ _ (by rw [← hq, partsF, if_neg hqn, if_neg (by assumption)]) hJ) ?_
   rintro _ w6 ⟨hk2, ⟨rfl, hJ2⟩ | ⟨rfl, hJ2⟩⟩
   ·replace qz1 := qz1.kept hk2 hK1
    replace hmx := hmx.kept (hk2.2 _ hKm hmx.lt)
    refine w_yes 2 16 true <| st_not rfl <| pT rfl rfl <| en <| x_cond (t := false) rfl (fun h1 => ?_) (fun h1 => ?_)
    · exact absurd h1 (by decide)
    refine x_skip <| then_n <| x_region rfl <| mS rfl <| Wp rfl <| st_st (v := S _) T.size9 rfl rfl rfl qz1 ?_
    intro w7 c8 hb9; simp only [setVs, setV] at hb9
    clear qz1
    replace hmx := hmx.tr c8 q1
    replace hJ2 := hJm _ _ _ hJ2 c8
    refine wops_nil <| block_n <| then_n <| ⟨(k, (Lib.cut q [47]).2.1, (pre ++ [(Lib.cut q [47]).1])), ?_, ?_, rfl, trivial, ?_⟩
    ·refine ⟨?_, hb9, hmx, hJ2⟩
     exact ⟨by omega, by omega, by rw [← hq, partsF, if_neg hqn, if_neg (by assumption)]; simp⟩
    ·show (Lib.cut q [47]).2.1.length < q.length; omega
    exact q9
   ·replace qz1 := qz1.kept hk2 hK1
    replace hmx := hmx.kept (hk2.2 _ hKm hmx.lt)
    refine w_yes 2 16 true <| st_not rfl <| pT rfl rfl <| en <| x_cond (t := true) rfl (fun h1 => ?_) (fun h1 => ?_)
    rotate_left
    · exact absurd h1 (by decide)
    refine x_ret <| then_r <| block_r <| then_r <| block_r <| ret_none rfl ?_
    exact .inr ⟨_, hJ2⟩
  ·try simp only [nm, ne_eq] at g5
   iterate 4 refine w_no 2 16 true ?_
   refine pF rfl rfl <| en <| x_cond (t := false) rfl (fun h1 => ?_) (fun h1 => ?_)
   · exact absurd h1 (by decide)
   refine x_skip <| then_n <| x_region rfl <| mS rfl <| Wp rfl <| st_st (v := S _) T.size9 rfl rfl rfl qz1 ?_
   intro w10 c11 hb12; simp only [setVs, setV] at hb12
   clear qz1
   replace hmx := hmx.tr c11 q1
   replace hJ := hJm _ _ _ hJ c11
   refine wops_nil <| block_n <| then_n <| ⟨(k, (Lib.cut q [47]).2.1, pre), ?_, ?_, rfl, trivial, ?_⟩
   ·refine ⟨?_, hb12, hmx, hJ⟩
    exact ⟨by omega, by omega, by rw [← hq, partsF, if_neg hqn, if_pos (by assumption)]⟩
   ·show (Lib.cut q [47]).2.1.length < q.length; omega
   exact q9
 ·try simp only [nm, ne_eq] at h0
  have hqe : q = [] := by first | assumption | simpa using h0
  refine x_exit <| then_x <| then_x <| block_x <| ret_none_n rfl ?_
  left
  rw [show partsV s = pre by rw [← hq, partsF, if_pos hqe, List.append_nil]]
  exact hJ
theorem AppendSeq_spec {bp : Nat} {s : Bytes} {w : World} (qz1 : Blk w bp [S s] 9) (hmx : MaxT w) (hbp : bp ≠ 0) (hs : s.length ≤ 100000000) : CallR Tryz.prog 66 #[.slice none 0 0, .func (.func 131) #[] #[.pointer (some ⟨bp, 0, none⟩)]] w fun v w' => ∃ A cap, v = .slice A (partsV s).length cap ∧ Own sE 9 w' (fun k => w.heap.size ≤ k) A cap (partsV s) ∧ Chg [bp] w w' := by
 refine callR_of_wpM (args := [_, _]) Tryz.func66 rfl (Nat.le_of_ble_eq_true rfl) ?_
 have HC : Chg [bp] w w := .refl _
 have hM : Marks w.heap.size [] w := trivial
 have hm1 := hmx.lt
 have hbpw := qz1.lt
 refine sr rfl <| Wp rfl <| st_box (v := .slice _ _ _) (vs := [_]) rfl rfl ?_
 intro b2 w1 e2 c3 hb4
 have ge_b2 := gB e2 HC.size
 have ne_bp_b2 := nE e2 qz1.ne_size
 have nm_b2 : b2 ∉ mb [] := fun hx => by have := (hM.lt _ hx).2; omega
 replace HC := HC.then c3
 replace qz1 := qz1.tr0 c3
 replace hmx := hmx.tr0 c3
 replace hM := hM.tr c3 (by simp)
 clear e2
 refine aL rfl <| en <| x_seq <| sr rfl <| mv (v := .func _ _ _) rfl <| en <| x_block <| x_range (bs := [bp]) (K := (fun k => k = bp ∨ k = 0)) (ps := [7]) (encs := (fun s => [S s])) (xs := (partsV s)) rfl T.ent131 rfl (fun _ => rfl) (by intro b hb; rw [List.mem_singleton.1 hb]; exact qz1.lt) (by intro k hk; rcases hk with h | h <;> first | (rw [h]; first | exact qz1.lt | exact hmx.lt)) (names_iter qz1 hmx (.inl rfl) (.inr rfl) (by omega) hs) ?_
 intro DD lp w5 hD1 hD2 hD3 hD4 hD5 c6
 have hszlp := HC.size
 have ge_DD : w.heap.size ≤ DD := by omega
 have ne_b2_DD : Hid (b2 ≠ DD) := by show _ ≠ _; have := hb4.lt; omega
 have nm_DD : DD ∉ mb [] := fun hx => by have := (hM.lt _ hx).2; omega
 have ge_lp : w.heap.size ≤ lp := by omega
 have ne_b2_lp : Hid (b2 ≠ lp) := by show _ ≠ _; have := hb4.lt; omega
 have nm_lp : lp ∉ mb [] := fun hx => by have := (hM.lt _ hx).2; omega
 replace HC := HC.then c6
 replace hmx := hmx.tr0 c6
 replace hM := hM.tr c6 (by simp)
 replace hb4 := hb4.tr0 c6
 refine ⟨fun pre W => ∃ (A : Option Addr), ∃ (cap : Nat), (Chg [bp] w W) ∧ (MaxT W) ∧ (Marks w.heap.size [] W) ∧ (DD < W.heap.size) ∧ (lp < W.heap.size) ∧ (Own sE 9 W (fun k => w.heap.size ≤ k ∧ k ≠ b2 ∧ k ≠ bp ∧ k ≠ lp ∧ k ≠ DD) A cap (pre)) ∧ (Blk W b2 [.slice A (pre).length cap] 29), fun _ _ _ => False, ⟨none, 0, HC, hmx, hM, hD4, hD5, Own.nil, hb4⟩, ?_, ?_, ?_, ?_, ?_⟩
 ·rintro pre Wa Wb ⟨A, cap, HC, hmx, hM, hD4, hD5, ho, hb2⟩ cL
  replace HC := HC.trans cL (by intro x hx; simp only [List.mem_cons, List.mem_nil_iff, or_false] at hx; rcases hx with h1 | h1 <;> first | (left; simp [h1]; done) | (right; rw [h1]; omega))
  replace hmx := hmx.tr cL q1
  replace hM := hM.tr cL (by intro k hk hx; have hlo := (hM.lt k hk).1; simp only [List.mem_cons, List.mem_nil_iff, or_false] at hx; rcases hx with hx | hx <;> subst hx <;> first | (first | exact nm_lp hk | omega | (cases hk; done)) | (first | exact nm_bp hk | omega | (cases hk; done)))
  replace hD4 := Nat.lt_of_lt_of_le hD4 cL.size
  replace hD5 := Nat.lt_of_lt_of_le hD5 cL.size
  replace ho := ho.trF flat_flat cL (by intro k hk hx; simp only [List.mem_cons, List.mem_nil_iff, or_false] at hx; rcases hx with hx | hx <;> first | (obtain rfl := hx; first | exact na_lp hk | exact absurd (ho.inD _ hk) (by simp)) | (obtain rfl := hx; first | exact na_bp hk | exact absurd (ho.inD _ hk) (by simp)))
  replace hb2 := hb2.tr cL (by simp only [List.mem_cons, List.mem_nil_iff, or_false, not_or]; exact ⟨ne_b2_lp, (Ne.symm ne_bp_b2)⟩)
  exact ⟨A, cap, HC, hmx, hM, hD4, hD5, ho, hb2⟩
 · exact fun _ _ _ _ h _ => h
 ·rintro pre y rest Wa hxs ⟨A, cap, HC, hmx, hM, hD4, hD5, ho, hb2⟩ ⟨rec, hrec⟩
  have lo0_ho := ho.lt
  have li0_ho := ho.inD
  have lt0_b2 := hb2.lt
  have HK : Kept (fun k => k = lp ∨ k = DD ∨ (fun k => k = bp ∨ k = 0) k) Wa Wa := .refl'
  have hLl := partsF_len (s.length + 1) s
  have hpl : pre.length < s.length + 1 := by have h9 := congrArg List.length hxs; unfold partsV at h9; simp at h9; omega
  refine x_region rfl <| aS rfl <| en <| ⟨HK, ?_⟩
  intro ds1 Wc cL hrec2
  replace HC := HC.then1 cL ge_lp
  replace hmx := hmx.tr cL q1
  replace hM := hM.tr cL (by intro k hk hx; have hlo := (hM.lt k hk).1; simp only [List.mem_singleton] at hx; subst hx; first | exact nm_lp hk | omega | (cases hk; done))
  replace hD4 := Nat.lt_of_lt_of_le hD4 cL.size
  replace hD5 := Nat.lt_of_lt_of_le hD5 cL.size
  replace ho := ho.trF flat_flat cL (by intro k hk hx; simp only [List.mem_cons, List.mem_nil_iff, or_false] at hx; obtain rfl := hx; first | exact na_lp hk | exact absurd (ho.inD _ hk) (by simp))
  replace hb2 := hb2.tr1 cL ne_b2_lp
  have HK : Kept (fun k => k = lp ∨ k = DD ∨ (fun k => k = bp ∨ k = 0) k) Wc Wc := .refl'
  refine x_block <| x_region rfl <| lL T.one29 rfl (hb2.cell rfl) <| mS rfl <| Wp rfl <| st_lit (ps := [(0, .tmp 9)]) (vs := [S _]) T.lit29 (by decide) rfl q6 rfl ?_
  intro b7 w8 e9 c10 hb11
  have ge_b7 := gB e9 HC.size
  have geK_b7 : Wc.heap.size ≤ b7 := by rw [e9]; exact HK.1
  have nm_b7 : b7 ∉ mb [] := fun hx => by have := (hM.lt _ hx).2; omega
  have na_b7 : b7 ∉ ob A := ho.fresh (by rw [e9]; exact Nat.le_refl _)
  replace HC := HC.then c10
  replace hmx := hmx.tr0 c10
  replace hM := hM.tr c10 (by simp)
  replace hD4 := Nat.lt_of_lt_of_le hD4 c10.size
  replace hD5 := Nat.lt_of_lt_of_le hD5 c10.size
  replace ho := ho.tr0 c10
  replace hb2 := hb2.tr0 c10
  replace HK := HK.chg c10 (fun k hx => absurd hx (by simp))
  clear e9
  have hszA := HC.size
  refine Wp rfl <| st_append2 (c := sE) (D2 := fun _ => False) (xs := (pre)) (ys := [y]) T.slice29 rfl rfl ho rfl rfl (one_elem rfl (hb11.cells (n := 1) rfl)) (fun _ _ h => h.elim) (fun k hk => ⟨by have := HC.size; omega, by have := hb2.lt; omega, by have := HC.size; omega, by have := hD5; omega, by have := hD4; omega⟩) q7 q7 ?_
  intro A12 cap13 w14 ho15 c16 hg17
  replace HC := HC.trans c16 (fun k hk => .inr ((ho.inD k hk).1))
  replace hmx := hmx.tr c16 (by intro hx; have h1 := ho.inD _ hx; omega)
  replace hM := hM.tr c16 (fun k hk => by cases hk)
  replace hD4 := Nat.lt_of_lt_of_le hD4 c16.size
  replace hD5 := Nat.lt_of_lt_of_le hD5 c16.size
  replace hb2 := hb2.tr c16 (fun hx => by first | (have h1 := ho.inD _ hx; omega) | exact na_b2 hx | exact hav _ hx (by simp))
  replace HK := HK.chg c16 (by intro k hk hK; have h1 := ho.inD k hk; have h2 := lo0_ho k hk; simp only [NK] at hK; omega)
  refine Wp rfl <| st_st (v := .slice _ _ _) T.size29 rfl rfl rfl hb2 ?_
  intro w18 c19 hb20; simp only [setVs, setV] at hb20
  clear hb2
  replace HC := HC.then1 c19 ge_b2
  replace hmx := hmx.tr c19 q1
  replace hM := hM.tr c19 (by intro k hk hx; have hlo := (hM.lt k hk).1; simp only [List.mem_singleton] at hx; subst hx; first | exact nm_b2 hk | omega | (cases hk; done))
  replace hD4 := Nat.lt_of_lt_of_le hD4 c19.size
  replace hD5 := Nat.lt_of_lt_of_le hD5 c19.size
  replace ho15 := ho15.trF flat_flat c19 (by intro k hk hx; simp only [List.mem_cons, List.mem_nil_iff, or_false] at hx; obtain rfl := hx; first | exact na_b2 hk | exact absurd (ho15.inD _ hk) (by simp))
  replace HK := HK.chg c19 (by
   intro k hx hK
   obtain rfl := List.mem_singleton.1 hx
   rcases hK with h | h | (h | h)
   · exact absurd h ne_b2_lp
   · exact absurd h ne_b2_DD
   · exact absurd h (Ne.symm ne_bp_b2)
   · exact absurd h (by omega))
  refine wops_nil <| block_n <| ⟨HK, ?_⟩
  exact ⟨A12, cap13, HC, hmx, hM, hD4, hD5, ho15, hb20⟩
 ·rintro W9 ⟨A, cap, HC, hmx, hM, hD4, hD5, ho, hb2⟩ hDef
  replace hM := hM.cons (by omega) hDef nm_DD
  have nm_b2 : b2 ∉ mb (mk DD :: []) := fun hx => (List.mem_cons.1 (show b2 ∈ DD :: mb [] from hx)).elim (fun h => ne_b2_DD h) (fun h => by cases h)
  refine block_n <| then_n <| sr rfl <| lL T.one29 rfl (hb2.cell rfl) <| aL rfl <| en <| x_ret <| retM_marks hM ?_
  intro w99 c99
  have hlm := hM.lt
  replace HC := HC.trans c99 (fun k hk => .inr (by have := (hlm k hk).1; omega))
  replace ho := ho.trF flat_flat c99 (by intro k hk hx; have hD := ho.inD k hk; simp only [mb_cons, mb, List.mem_cons, List.mem_nil_iff, or_false] at hx; first | (obtain rfl := hx; exact absurd hD (by simp)) | (rcases hx with hx | hx <;> (obtain rfl := hx; exact absurd hD (by simp))))
  refine ret_tmp (v := .slice _ _ _) rfl rfl ?_
  exact ⟨A, cap, rfl, ho.flat flat_flat (fun k _ h => h.1), HC⟩
 · exact fun _ _ _ h _ => h.elim
theorem Collect_spec {bp : Nat} {s : Bytes} {w : World} (qz1 : Blk w bp [S s] 9) (hmx : MaxT w) (hbp : bp ≠ 0) (hs : s.length ≤ 100000000) : CallR Tryz.prog 43 #[.func (.func 131) #[] #[.pointer (some ⟨bp, 0, none⟩)]] w fun v w' => (∃ A cap, v = .slice A (partsV s).length cap ∧ Own sE 9 w' (fun k => w.heap.size ≤ k) A cap (partsV s)) ∧ Chg [bp] w w' := by
 refine callR_of_wp (args := [_]) Tryz.func43 rfl (Nat.le_of_ble_eq_true rfl) ?_
 have HC : Chg [bp] w w := .refl _
 have hm1 := hmx.lt
 refine sr rfl <| aL rfl <| en <| sr rfl <| mv (v := .func _ _ _) rfl <| Wp rfl <| st_call (ags := [_, _]) rfl rfl T.ent66 rfl (AppendSeq_spec qz1 hmx hbp hs) ?_
 rintro _ w1 ⟨A, cap, rfl, ho, c2⟩
 replace HC := HC.trans c2 q4
 refine aL rfl <| en <| x_ret <| ret_tmp (v := .slice _ _ _) rfl rfl ?_
 exact ⟨⟨A, cap, rfl, ho⟩, HC⟩
theorem pnames_spec (s : Bytes) (w : World) : CallR Tryz.prog 121 #[S s] w fun v w' => ∃ bp, v = .func (.func 131) #[] #[.pointer (some ⟨bp, 0, none⟩)] ∧ w.heap.size ≤ bp ∧ Blk w' bp [S s] 9 ∧ Chg [] w w' := by
 refine callR_of_wp (args := [_]) Tryz.func121 rfl (Nat.le_of_ble_eq_true rfl) ?_
 have HC : Chg [] w w := .refl _
 refine sr rfl <| Wp rfl <| st_box (v := S _) (vs := [_]) rfl rfl ?_
 intro bp w1 e2 c3 hb4
 have ge_bp := gB e2 HC.size
 replace HC := HC.then c3
 clear e2
 refine av (v := .nilFunc) rfl <| en <| sr rfl <| Wp rfl <| st_makeFunc <| av (v := .func _ _ _) rfl <| en <| x_ret <| ret_tmp (v := .func _ _ _) rfl rfl ?_
 exact ⟨bp, rfl, ge_bp, hb4, HC⟩
theorem Parts_spec (s : Bytes) (w : World) (hmx : MaxT w) (hs : s.length ≤ 100000000) : CallR Tryz.prog 106 #[S s] w fun v w' => (∃ A cap, v = .slice A (partsV s).length cap ∧ Own sE 9 w' (fun k => w.heap.size ≤ k) A cap (partsV s)) ∧ Chg [] w w' := by
 refine callR_of_wp (args := [_]) Tryz.func106 rfl (Nat.le_of_ble_eq_true rfl) ?_
 have HC : Chg [] w w := .refl _
 have hm1 := hmx.lt
 refine sr rfl <| aL rfl <| en <| sr rfl <| mS rfl <| Wp rfl <| st_call (ags := [_]) rfl rfl T.ent121 rfl (pnames_spec _ _) ?_
 rintro _ w1 ⟨bp, rfl, hgp, hbp, c2⟩
 have ge_bp : w.heap.size ≤ bp := Nat.le_trans HC.size hgp
 replace HC := HC.then c2
 replace hmx := hmx.tr0 c2
 refine Wp rfl <| st_call (ags := [_]) rfl rfl T.ent43 rfl (Collect_spec hbp hmx (by omega) hs) ?_
 have hszP := HC.size
 rintro _ w3 ⟨⟨A, cap, rfl, ho⟩, c4⟩
 replace HC := HC.then1 c4 ge_bp
 refine aL rfl <| en <| x_ret <| ret_tmp (v := .slice _ _ _) rfl rfl ?_
 exact ⟨⟨A, cap, rfl, ho.flat flat_flat (fun k _ h => Nat.le_trans hszP h)⟩, HC⟩
end Go.Proofs.YtncnalboiljgiaaGreat.K
