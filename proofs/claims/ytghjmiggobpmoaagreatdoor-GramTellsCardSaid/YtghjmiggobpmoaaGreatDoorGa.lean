import Derived.Shelf.Strings.FuncGrows
import Derived.Ground.GgwProg
import Derived.Test.YtghjmiggobpmoaaGreatDoorProg
import Derived.Test.YtghjmiggobpmoaaGreatDoorKitFl
import Derived.Test.YtghjmiggobpmoaaGreatDoorUg
import Derived.Lib.DecodeN
import Derived.Test.YtghjmiggobpmoaaGreatDoorScan
import Derived.Test.YtghjmiggobpmoaaGreatDoorKitL
import Derived.Test.YtghjmiggobpmoaaGreatDoorTwoB
import Derived.Test.YtghjmiggobpmoaaGreatDoorTok
namespace Go.Proofs
open Go.Shelf
def Tryz.lx15_ren : Go.Shelf.Ren := ⟨fun | 15 => 105 | 20 => 117 | n => n, fun | 9 => 9 | 23 => 125 | 3 => 3 | 4 => 4 | 0 => 0 | 21 => 21 | n => n, fun | n => n⟩
theorem Tryz.lx15 : Go.Proofs.LaysGw.n15 Tryz.prog Tryz.lx15_ren := {
  mixed := by kernel_rfl
  f15 := Tryz.func105.trans (congrArg some (by kernel_rfl))
  f20 := Tryz.func117.trans (congrArg some (by kernel_rfl))
  t0 := Tryz.underlying0
  a0 := Tryz.isAgg0
  z0 := Tryz.sizeOf0
  v0 := Tryz.zeroValue0
  i0 := by kernel_rfl
  t3 := Tryz.underlying3
  a3 := Tryz.isAgg3
  z3 := Tryz.sizeOf3
  v3 := Tryz.zeroValue3
  i3 := by kernel_rfl
  t4 := Tryz.underlying4
  a4 := Tryz.isAgg4
  z4 := Tryz.sizeOf4
  v4 := Tryz.zeroValue4
  i4 := by kernel_rfl
  t9 := Tryz.underlying9
  a9 := Tryz.isAgg9
  z9 := Tryz.sizeOf9
  v9 := Tryz.zeroValue9
  i9 := by kernel_rfl
  t21 := Tryz.underlying21
  a21 := Tryz.isAgg21
  z21 := Tryz.sizeOf21
  v21 := Tryz.zeroValue21
  i21 := by kernel_rfl
  t23 := Tryz.underlying125
  a23 := Tryz.isAgg125
  z23 := Tryz.sizeOf125
  v23 := Tryz.zeroValue125
  i23 := by kernel_rfl }
end Go.Proofs
set_option linter.unusedVariables false
set_option linter.unusedSimpArgs false
set_option autoImplicit false
namespace Go.Proofs.YtghjmiggobpmoaaGreatDoor.K
open Go Go.RowKit
def nameV (s : Bytes) : Bool := match s with
  | [] => false
  | c :: s => begB c && s.all wordB
theorem all_off {s : Bytes} {i : Nat} (h : i < s.length) (hb : wordB (byte s i) = false) : (s.drop i).all wordB = false := by
  rw [drop_byte h, List.all_cons, hb, Bool.false_and]
theorem all_on {s : Bytes} {i : Nat} (h : i < s.length) (hb : wordB (byte s i) = true) : (s.drop i).all wordB = (s.drop (i + 1)).all wordB := by
  rw [drop_byte h, List.all_cons, hb, Bool.true_and]
theorem nameV_eq {s : Bytes} (h : ¬ s = []) : nameV s = (begB (byte s 0) && (s.drop 1).all wordB) := by
  cases s with
  | nil => exact absurd rfl h
  | cons c s => rfl
end Go.Proofs.YtghjmiggobpmoaaGreatDoor.K
set_option linter.unusedVariables false
set_option linter.unusedSimpArgs false
set_option autoImplicit false
set_option maxRecDepth 20000
namespace Go.Proofs.YtghjmiggobpmoaaGreatDoor.K
open Go Go.Proofs Go.RowKit

theorem chg_below {w w' : World} (h : Below w.heap.size w w') : Chg [] w w' := ⟨h.os, h.tape, h.output, h.size, fun k hk _ => h.block k hk⟩
theorem below_chg {w w' : World} (h : Chg [] w w') : Below w.heap.size w w' := ⟨h.os, h.tape, h.output, h.size, fun k hk => h.block k hk (by simp)⟩
theorem get_byte {s : Bytes} {i : Nat} (h : i < s.length) : (ByteArray.mk (Array.mk s)).get! i = byte s i := by
  show (Array.mk s)[i]! = _
  simp [byte, h]
theorem decode_lo {s : Bytes} {i : Nat} (h : i < s.length) (hb : (byte s i).toNat < 128) : Utf8.decode ⟨⟨s⟩⟩ i = ((byte s i).toNat, 1) := by
  rw [Lib.decode_at, get_byte h, Lib.decodeN, if_pos hb]
theorem decode_hi {s : Bytes} {i : Nat} (h : i < s.length) (hb : ¬ (byte s i).toNat < 128) : 128 ≤ (Utf8.decode ⟨⟨s⟩⟩ i).1 := by
  rw [Lib.decode_at, get_byte h]
  have h2 := (byte s i).toNat_lt
  unfold Lib.decodeN
  rw [if_neg hb]
  repeat' split
  all_goals first | omega | (simp only; omega) | decide
def notWord (x : Nat) : Bool := decide (126 < x) || !(wordB (UInt8.ofNat x))
theorem wrap_ofNat {x : Nat} (h : x ≤ 126) : IntKind.u8.wrap (x : Int) = ((UInt8.ofNat x).toNat : Int) := by
  have h1 : (UInt8.ofNat x).toNat = x := by simp; omega
  rw [wrap_u8, h1]; omega
theorem word_lo {c : UInt8} (h : wordB c = true) : c.toNat ≤ 126 := by
  simp only [wordB, begB, alphaB, upB, loB, digB, Bool.or_eq_true, decide_eq_true_eq] at h; omega
theorem notWord_byte (c : UInt8) : notWord c.toNat = !(wordB c) := by
  unfold notWord
  rw [UInt8.ofNat_toNat]
  cases h : wordB c with
  | false => simp
  | true => have := word_lo h; simp; omega
theorem idx_all (s : Bytes) : ∀ (f i : Nat), s.length ≤ i + f → decide (Lib.idxFuncFrom notWord true ⟨⟨s⟩⟩ f i < 0) = (s.drop i).all wordB
  | 0, i, h => by rw [List.drop_of_length_le (by omega)]; rfl
  | f + 1, i, h => by
    unfold Lib.idxFuncFrom
    by_cases hi : i < s.length
    · rw [if_pos (show i < (ByteArray.mk (Array.mk s)).size from hi)]
      by_cases hb : (byte s i).toNat < 128
      · rw [decode_lo hi hb]
        simp only []
        rw [notWord_byte]
        cases hw : wordB (byte s i) with
        | false => rw [if_pos (by rfl), all_off hi hw, decide_eq_false (by omega)]
        | true => rw [if_neg (by simp), all_on hi hw]; exact idx_all s f (i + 1) (by omega)
      · have h2 := decode_hi hi hb
        have hw : wordB (byte s i) = false := by
          cases hw : wordB (byte s i) with
          | false => rfl
          | true => have := word_lo hw; omega
        rw [if_pos (by unfold notWord; simp; omega), all_off hi hw, decide_eq_false (by omega)]
    · rw [if_neg (show ¬ i < (ByteArray.mk (Array.mk s)).size from hi), List.drop_of_length_le (by omega)]; rfl
theorem c_begins_n {x : Nat} (h : x ≤ 126) (w : World) : CallR Tryz.prog 104 #[.int .u8 (IntKind.u8.wrap (x : Int))] w fun v w' => v = .bool (begB (UInt8.ofNat x)) ∧ Chg [] w w' := by
  rw [wrap_ofNat h]; exact c_begins _ _
theorem c_digit_n {x : Nat} (h : x ≤ 126) (w : World) : CallR Tryz.prog 52 #[.int .u8 (IntKind.u8.wrap (x : Int))] w fun v w' => v = .bool (digB (UInt8.ofNat x)) ∧ Chg [] w w' := by
  rw [wrap_ofNat h]; exact c_digit _ _

theorem Name1_spec (x : Nat) (w : World) : CallR Tryz.prog 106 #[.int .i32 (x : Int)] w fun v w' => v = .bool (notWord x) ∧ Chg [] w w' := by
 refine callR_of_wp (args := [_]) Tryz.func106 rfl (Nat.le_of_ble_eq_true rfl) ?_
 have HC : Chg [] w w := .refl _
 refine sr rfl <| aB rfl <| en <| sr rfl <| mI rfl <| Wp rfl <| st_gtr rfl rfl <| mB rfl <| w_split (d := 5) rfl (fun g1 => ?_) (fun g1 => ?_)
 ·try simp only [nm, ne_eq] at g1
  iterate 5 refine w_no 2 5 false ?_
  iterate 4 refine w_no 7 10 true ?_
  refine w_no 2 5 false <| pT rfl rfl <| aB rfl <| en <| x_ret <| ret_tmp (v := .bool _) rfl rfl <| ⟨congrArg Value.bool ?_, HC⟩
  unfold notWord
  first | (rw [decide_eq_true (by omega)]; rfl) | (rw [decide_eq_false (by omega)]; simp [wordB, *])
 ·try simp only [nm, ne_eq] at g1
  refine w_yes 2 5 false <| st_move (v := .int _ _) rfl <| w_yes 2 5 false <| st_convInt T.u21 T.u5 rfl <| w_yes 2 5 false <| st_call (ags := [_]) rfl rfl T.ent104 rfl (c_begins_n (by omega) _) ?_
  rintro _ w2 ⟨rfl, c3⟩
  replace HC := HC.then c3
  refine w_yes 2 5 false <| st_not rfl <| w_yes 2 5 false <| st_move (v := .bool _) rfl <| w_split (d := 10) rfl (fun g4 => ?_) (fun g4 => ?_)
  ·try simp only [nm, ne_eq] at g4
   refine w_yes 7 10 true <| st_move (v := .int _ _) rfl <| w_yes 7 10 true <| st_convInt T.u21 T.u5 rfl <| w_yes 7 10 true <| st_call (ags := [_]) rfl rfl T.ent52 rfl (c_digit_n (by omega) _) ?_
   rintro _ w5 ⟨rfl, c6⟩
   replace HC := HC.then c6
   refine w_yes 7 10 true <| st_not rfl <| w_yes 2 5 false <| st_pick (b := true) (v := .bool _) rfl rfl <| pF rfl rfl <| aB rfl <| en <| x_ret <| ret_tmp (v := .bool _) rfl rfl <| ⟨congrArg Value.bool ?_, HC⟩
   unfold notWord
   first | (rw [decide_eq_true (by omega)]; rfl) | (rw [decide_eq_false (by omega)]; simp [wordB, *])
  ·try simp only [nm, ne_eq] at g4
   iterate 4 refine w_no 7 10 true ?_
   refine w_yes 2 5 false <| st_pick (b := false) (v := .bool _) rfl rfl <| pF rfl rfl <| aB rfl <| en <| x_ret <| ret_tmp (v := .bool _) rfl rfl <| ⟨congrArg Value.bool ?_, HC⟩
   unfold notWord
   first | (rw [decide_eq_true (by omega)]; rfl) | (rw [decide_eq_false (by omega)]; simp [wordB, *])

theorem SIndexFunc_spec (s : Bytes) (w : World) : CallR Tryz.prog 105 #[S s, .func (.func 106) #[] #[]] w fun v w' => v = .int .i64 (Lib.idxFunc notWord true ⟨⟨s⟩⟩) ∧ Chg [] w w' :=
  CallR.of (Any.strings_IndexFunc_grows Tryz.lx15 106 #[] T.ent106 notWord ⟨⟨s⟩⟩ w (fun W x _ _ => Calls.mono (Name1_spec x W) (by rintro e W2 ⟨v, e1, rfl, hc⟩; exact ⟨e1, below_chg hc⟩))) fun e w' ⟨h1, h2⟩ => ⟨_, h1, rfl, chg_below h2⟩
theorem Lib_idx_all (s : Bytes) : decide (Lib.idxFunc notWord true ⟨⟨s⟩⟩ < 0) = s.all wordB := idx_all s s.length 0 (by omega)
theorem nameV_begs {s : Bytes} (h : ¬ s = []) : nameV s = (begB (byte s 0) && s.all wordB) := by
  rw [nameV_eq h]
  cases s with
  | nil => exact absurd rfl h
  | cons c s =>
    show (begB c && s.all wordB) = (begB c && (wordB c && s.all wordB))
    cases hb : begB c with
    | false => rfl
    | true => rw [show wordB c = true by rw [wordB, hb]; rfl]; rfl

theorem CName_spec (s : Bytes) (w : World) : CallR Tryz.prog 80 #[S s] w fun v w' => v = .bool (nameV s) ∧ Chg [] w w' := by
 refine callR_of_wp (args := [_]) Tryz.func80 rfl (Nat.le_of_ble_eq_true rfl) ?_
 have HC : Chg [] w w := .refl _
 refine sr rfl <| aB rfl <| en <| sr rfl <| mS rfl <| Wp rfl <| st_sneq rfl rfl <| mB rfl <| w_split (d := 5) rfl (fun g1 => ?_) (fun g1 => ?_)
 ·try simp only [nm, ne_eq] at g1
  have hs0 : 0 < s.length := List.length_pos_iff.2 (by assumption)
  refine w_yes 2 5 true <| st_move (v := S _) rfl <| w_yes 2 5 true <| st_sidx T.u9 rfl rfl (by omega) (by omega) <| w_yes 2 5 true <| st_call (ags := [_]) rfl rfl T.ent104 rfl (c_begins _ _) ?_
  rintro _ w2 ⟨rfl, c3⟩
  replace HC := HC.then c3
  refine pT rfl rfl <| mB rfl <| w_split (d := 10) rfl (fun g4 => ?_) (fun g4 => ?_)
  ·try simp only [nm, ne_eq] at g4
   refine w_yes 7 10 true <| st_move (v := S _) rfl <| w_yes 7 10 true <| st_call (ags := [_, _]) rfl rfl T.ent105 rfl (SIndexFunc_spec _ _) ?_
   rintro _ w5 ⟨rfl, c6⟩
   replace HC := HC.then c6
   refine w_yes 7 10 true <| st_lss rfl rfl <| pT rfl rfl <| aB rfl <| en <| x_ret <| ret_tmp (v := .bool _) rfl rfl <| ⟨congrArg Value.bool ?_, HC⟩
   first | (rw [show s = [] by assumption]; rfl) | (rw [nameV_begs (by assumption), ← Lib_idx_all, show begB (byte s 0) = false by assumption]; rfl) | (rw [nameV_begs (by assumption), ← Lib_idx_all, show begB (byte s 0) = true by assumption]; rfl)
  ·try simp only [nm, ne_eq] at g4
   iterate 3 refine w_no 7 10 true ?_
   refine pF rfl rfl <| aB rfl <| en <| x_ret <| ret_tmp (v := .bool _) rfl rfl <| ⟨congrArg Value.bool ?_, HC⟩
   first | (rw [show s = [] by assumption]; rfl) | (rw [nameV_begs (by assumption), ← Lib_idx_all, show begB (byte s 0) = false by assumption]; rfl) | (rw [nameV_begs (by assumption), ← Lib_idx_all, show begB (byte s 0) = true by assumption]; rfl)
 ·try simp only [nm, ne_eq] at g1
  iterate 3 refine w_no 2 5 true ?_
  refine pF rfl rfl <| mB rfl ?_
  iterate 3 refine w_no 7 10 true ?_
  refine pF rfl rfl <| aB rfl <| en <| x_ret <| ret_tmp (v := .bool _) rfl rfl <| ⟨congrArg Value.bool ?_, HC⟩
  first | (rw [show s = [] by assumption]; rfl) | (rw [nameV_begs (by assumption), ← Lib_idx_all, show begB (byte s 0) = false by assumption]; rfl) | (rw [nameV_begs (by assumption), ← Lib_idx_all, show begB (byte s 0) = true by assumption]; rfl)

end Go.Proofs.YtghjmiggobpmoaaGreatDoor.K
set_option linter.unusedVariables false
set_option linter.unusedSimpArgs false
set_option autoImplicit false
set_option maxRecDepth 20000
namespace Go.Proofs.YtghjmiggobpmoaaGreatDoor.K
open Go Go.RowKit

structure Rdr where
  fd : Int
  op : Bytes
  word : Bytes
  here : Bytes
  raw : Bool
deriving DecidableEq
def rdrC (r : Rdr) : List Value := [.int .i64 r.fd, S r.op, S r.word, S r.here, .bool r.raw]
def rdrE : Enc Rdr := .flat 5 rdrC (by omega) (fun _ => rfl) (fun _ u hu => by simp [rdrC] at hu; rcases hu with rfl | rfl | rfl | rfl | rfl <;> rfl)
def pairC (p : Bytes × Bytes) : List Value := [S p.1, S p.2]
def pairE2 : Enc (Bytes × Bytes) := .flat 2 pairC (by omega) (fun _ => rfl) (fun _ u hu => by simp [pairC] at hu; rcases hu with rfl | rfl <;> rfl)
inductive Cm where
  | mk (kind : Int) (name : Bytes) (bang inn : Bool) (asg : List (Bytes × Bytes)) (words : List Bytes) (rds : List Rdr) (kids : List Cm) (items : List (List Bytes × List Cm))
namespace Cm
def kind : Cm → Int | mk k .. => k
def name : Cm → Bytes | mk _ n .. => n
def bang : Cm → Bool | mk _ _ b .. => b
def inn : Cm → Bool | mk _ _ _ b .. => b
def asg : Cm → List (Bytes × Bytes) | mk _ _ _ _ l .. => l
def words : Cm → List Bytes | mk _ _ _ _ _ l .. => l
def rds : Cm → List Rdr | mk _ _ _ _ _ _ l .. => l
def kids : Cm → List Cm | mk _ _ _ _ _ _ _ l _ => l
def items : Cm → List (List Bytes × List Cm) | mk _ _ _ _ _ _ _ _ l => l
end Cm
def zCm : Cm := .mk 0 [] false false [] [] [] [] []
def cmT (c : Cm) : Int × Bytes × Bool × Bool × List (Bytes × Bytes) × List Bytes × List Rdr × List Cm × List (List Bytes × List Cm) := (c.kind, c.name, c.bang, c.inn, c.asg, c.words, c.rds, c.kids, c.items)
def Enc.iso {α β : Type} (c : Enc α) (g : β → α) : Enc β where
  sz := c.sz
  pos := c.pos
  R := fun w D x vs => c.R w D (g x) vs
  len := c.len
  one := c.one
  tr := c.tr
  mono := c.mono
def Enc.none (α : Type) (n : Nat) (h : 0 < n) : Enc α where
  sz := n
  pos := h
  R := fun _ _ _ _ => False
  len := fun h => h.elim
  one := fun h => h.elim
  tr := fun h _ _ => h.elim
  mono := fun h _ => h.elim
def itF (c : Enc Cm) : Enc (List Bytes × List Cm) := (Enc.slice sE).seq (Enc.slice c)
def cmL (c : Enc Cm) : Enc Cm := ((iE .i64).seq <| sE.seq <| bE.seq <| bE.seq <| (Enc.slice pairE2).seq <| (Enc.slice sE).seq <| (Enc.slice rdrE).seq <| (Enc.slice c).seq (Enc.slice (itF c))).iso cmT
def cmF : Nat → Enc Cm
  | 0 => .none Cm 9 (by omega)
  | n + 1 => cmL (cmF n)
theorem cmF_sz : ∀ n, (cmF n).sz = 9
  | 0 => rfl
  | _ + 1 => rfl
theorem sl_imp {α : Type} {c c' : Enc α} {w : World} {D : Nat → Prop} {A : Option Addr} {xs : List α} (hz : c.sz = c'.sz) (h : Sl c w D A xs) (hi : ∀ x, x ∈ xs → ∀ vs, c.R w D x vs → c'.R w D x vs) : Sl c' w D A xs := by
  rcases h with h | ⟨b, o, h1, h2, h3, h4⟩
  · exact .inl h
  · exact .inr ⟨b, o, h1, h2, h3, fun i x hx => by
      obtain ⟨vs, h5, h6⟩ := h4 i x hx
      exact ⟨vs, hi x (List.mem_of_getElem? hx) vs h5, by rw [← hz]; exact h6⟩⟩
theorem slice_imp {α : Type} {c c' : Enc α} {w : World} {D : Nat → Prop} {xs : List α} {vs : List Value} (hz : c.sz = c'.sz) (h : (Enc.slice c).R w D xs vs) (hi : ∀ x, x ∈ xs → ∀ vs, c.R w D x vs → c'.R w D x vs) : (Enc.slice c').R w D xs vs := by
  obtain ⟨A, cap, h1, h2, h3, h4⟩ := h
  exact ⟨A, cap, h1, h2, h3, sl_imp hz h4 hi⟩
theorem itF_imp {c c' : Enc Cm} {w : World} {D : Nat → Prop} {x : List Bytes × List Cm} {vs : List Value} (hz : c.sz = c'.sz) (h : (itF c).R w D x vs) (hi : ∀ k, k ∈ x.2 → ∀ vs, c.R w D k vs → c'.R w D k vs) : (itF c').R w D x vs := by
  obtain ⟨v1, v2, h1, h2, h3⟩ := h
  exact ⟨v1, v2, h1, h2, slice_imp hz h3 hi⟩
theorem cmL_imp {c c' : Enc Cm} {w : World} {D : Nat → Prop} {x : Cm} {vs : List Value} (hz : c.sz = c'.sz) (h : (cmL c).R w D x vs) (hk : ∀ k, k ∈ x.kids → ∀ vs, c.R w D k vs → c'.R w D k vs) (hi : ∀ y, y ∈ x.items → ∀ k, k ∈ y.2 → ∀ vs, c.R w D k vs → c'.R w D k vs) : (cmL c').R w D x vs := by
  obtain ⟨a1, b1, e1, f1, a2, b2, e2, f2, a3, b3, e3, f3, a4, b4, e4, f4, a5, b5, e5, f5, a6, b6, e6, f6, a7, b7, e7, f7, a8, b8, e8, f8, g8⟩ := h
  exact ⟨a1, b1, e1, f1, a2, b2, e2, f2, a3, b3, e3, f3, a4, b4, e4, f4, a5, b5, e5, f5, a6, b6, e6, f6, a7, b7, e7, f7, a8, b8, e8, slice_imp hz f8 hk, slice_imp (c := itF c) (c' := itF c') rfl g8 fun y hy vs h => itF_imp hz h (hi y hy)⟩
theorem cmF_up {w : World} {D : Nat → Prop} : ∀ (n : Nat) {x : Cm} {vs : List Value}, (cmF n).R w D x vs → (cmF (n + 1)).R w D x vs
  | 0, _, _, h => h.elim
  | n + 1, x, vs, h => cmL_imp (c := cmF n) (c' := cmF (n + 1)) (by rw [cmF_sz, cmF_sz]) h (fun k _ vs h => cmF_up n h) (fun y _ k _ vs h => cmF_up n h)
theorem cmF_le {w : World} {D : Nat → Prop} {n m : Nat} (hnm : n ≤ m) {x : Cm} {vs : List Value} (h : (cmF n).R w D x vs) : (cmF m).R w D x vs := by
  induction hnm with
  | refl => exact h
  | step _ ih => exact cmF_up _ ih
def cmE : Enc Cm where
  sz := 9
  pos := by omega
  R := fun w D x vs => ∃ n, (cmF n).R w D x vs
  len := fun ⟨n, h⟩ => by rw [(cmF n).len h, cmF_sz]
  one := fun ⟨n, h⟩ => (cmF n).one h
  tr := fun ⟨n, h⟩ h1 h2 => ⟨n, (cmF n).tr h h1 h2⟩
  mono := fun ⟨n, h⟩ h1 => ⟨n, (cmF n).mono h h1⟩
def itE : Enc (List Bytes × List Cm) := itF cmE
theorem sl_bound {w : World} {D : Nat → Prop} {A : Option Addr} {xs : List Cm} (h : Sl cmE w D A xs) : ∃ n, Sl (cmF n) w D A xs := by
  rcases h with h | ⟨b, o, h1, h2, h3, h4⟩
  · exact ⟨0, .inl h⟩
  · have h5 : ∀ k, ∃ n, ∀ i, i < k → ∀ x, xs[i]? = some x → ∃ vs, (cmF n).R w D x vs ∧ Cells w b (o + i * 9) vs := by
      intro k
      induction k with
      | zero => exact ⟨0, fun i hi => absurd hi (Nat.not_lt_zero _)⟩
      | succ k ih =>
        obtain ⟨n, hn⟩ := ih
        by_cases hk : k < xs.length
        · obtain ⟨vs, ⟨m, hm⟩, hc⟩ := h4 k xs[k] (by simp [hk])
          refine ⟨max n m, fun i hi x hx => ?_⟩
          rcases Nat.lt_or_ge i k with hik | hik
          · obtain ⟨vs, q1, q2⟩ := hn i hik x hx; exact ⟨vs, cmF_le (Nat.le_max_left _ _) q1, q2⟩
          · obtain rfl : i = k := by omega
            obtain rfl : xs[i] = x := by rw [List.getElem?_eq_getElem hk] at hx; exact Option.some.inj hx
            exact ⟨vs, cmF_le (Nat.le_max_right _ _) hm, hc⟩
        · exact ⟨n, fun i hi x hx => hn i (by have := (List.getElem?_eq_some_iff.1 hx).1; omega) x hx⟩
    obtain ⟨n, hn⟩ := h5 xs.length
    exact ⟨n, .inr ⟨b, o, h1, h2, h3, fun i x hx => by rw [cmF_sz]; exact hn i (List.getElem?_eq_some_iff.1 hx).1 x hx⟩⟩
theorem slit_bound {w : World} {D : Nat → Prop} {A : Option Addr} {xs : List (List Bytes × List Cm)} (h : Sl itE w D A xs) : ∃ n, Sl (itF (cmF n)) w D A xs := by
  rcases h with h | ⟨b, o, h1, h2, h3, h4⟩
  · exact ⟨0, .inl h⟩
  · have h5 : ∀ k, ∃ n, ∀ i, i < k → ∀ x, xs[i]? = some x → ∃ vs, (itF (cmF n)).R w D x vs ∧ Cells w b (o + i * 2) vs := by
      intro k
      induction k with
      | zero => exact ⟨0, fun i hi => absurd hi (Nat.not_lt_zero _)⟩
      | succ k ih =>
        obtain ⟨n, hn⟩ := ih
        by_cases hk : k < xs.length
        · obtain ⟨vs, ⟨v1, v2, e1, e2, A2, cap2, e3, e4, e5, e6⟩, hc⟩ := h4 k xs[k] (by simp [hk])
          obtain ⟨m, hm⟩ := sl_bound e6
          refine ⟨max n m, fun i hi x hx => ?_⟩
          rcases Nat.lt_or_ge i k with hik | hik
          · obtain ⟨vs, q1, q2⟩ := hn i hik x hx; exact ⟨vs, itF_imp (by rw [cmF_sz, cmF_sz]) q1 fun _ _ _ h => cmF_le (Nat.le_max_left _ _) h, q2⟩
          · obtain rfl : i = k := by omega
            obtain rfl : xs[i] = x := by rw [List.getElem?_eq_getElem hk] at hx; exact Option.some.inj hx
            exact ⟨vs, ⟨v1, v2, e1, e2, A2, cap2, e3, e4, e5, sl_imp (by rw [cmF_sz, cmF_sz]) hm fun _ _ _ h => cmF_le (Nat.le_max_right _ _) h⟩, hc⟩
        · exact ⟨n, fun i hi x hx => hn i (by have := (List.getElem?_eq_some_iff.1 hx).1; omega) x hx⟩
    obtain ⟨n, hn⟩ := h5 xs.length
    exact ⟨n, .inr ⟨b, o, h1, h2, h3, fun i x hx => hn i (List.getElem?_eq_some_iff.1 hx).1 x hx⟩⟩
structure CmAt (w : World) (D : Nat → Prop) (c : Cm) (A1 A2 A3 A4 A5 : Option Addr) : Prop where
  asg : Sl pairE2 w D A1 c.asg
  words : Sl sE w D A2 c.words
  rds : Sl rdrE w D A3 c.rds
  kids : Sl cmE w D A4 c.kids
  items : Sl itE w D A5 c.items
def cmC (c : Cm) (A1 : Option Addr) (c1 : Nat) (A2 : Option Addr) (c2 : Nat) (A3 : Option Addr) (c3 : Nat) (A4 : Option Addr) (c4 : Nat) (A5 : Option Addr) (c5 : Nat) : List Value :=
  [.int .i64 c.kind, S c.name, .bool c.bang, .bool c.inn, .slice A1 c.asg.length c1, .slice A2 c.words.length c2, .slice A3 c.rds.length c3, .slice A4 c.kids.length c4, .slice A5 c.items.length c5]
def capOk (n c : Nat) : Prop := n ≤ c ∧ c ≤ 9223372036854775807
theorem cm_open {w : World} {D : Nat → Prop} {c : Cm} {vs : List Value} (h : cmE.R w D c vs) : ∃ A1 c1 A2 c2 A3 c3 A4 c4 A5 c5, vs = cmC c A1 c1 A2 c2 A3 c3 A4 c4 A5 c5 ∧ CmAt w D c A1 A2 A3 A4 A5 ∧
    capOk c.asg.length c1 ∧ capOk c.words.length c2 ∧ capOk c.rds.length c3 ∧ capOk c.kids.length c4 ∧ capOk c.items.length c5 := by
  obtain ⟨n, h⟩ := h
  cases n with
  | zero => exact h.elim
  | succ n =>
    obtain ⟨_, _, e1, rfl, _, _, e2, rfl, _, _, e3, rfl, _, _, e4, rfl, _, _, e5, ⟨A1, c1, rfl, p1, q1, s1⟩, _, _, e6, ⟨A2, c2, rfl, p2, q2, s2⟩, _, _, e7, ⟨A3, c3, rfl, p3, q3, s3⟩, _, _, e8, ⟨A4, c4, rfl, p4, q4, s4⟩, ⟨A5, c5, rfl, p5, q5, s5⟩⟩ := h
    subst e8 e7 e6 e5 e4 e3 e2 e1
    exact ⟨A1, c1, A2, c2, A3, c3, A4, c4, A5, c5, rfl, ⟨s1, s2, s3, sl_imp (cmF_sz n) s4 fun _ _ _ h => ⟨n, h⟩, sl_imp (c := itF (cmF n)) (c' := itE) rfl s5 fun _ _ _ h => itF_imp (cmF_sz n) h fun _ _ _ h => ⟨n, h⟩⟩, ⟨p1, q1⟩, ⟨p2, q2⟩, ⟨p3, q3⟩, ⟨p4, q4⟩, ⟨p5, q5⟩⟩
theorem cm_shut {w : World} {D : Nat → Prop} {c : Cm} {A1 A2 A3 A4 A5 : Option Addr} {c1 c2 c3 c4 c5 : Nat} (h : CmAt w D c A1 A2 A3 A4 A5)
    (h1 : capOk c.asg.length c1) (h2 : capOk c.words.length c2) (h3 : capOk c.rds.length c3) (h4 : capOk c.kids.length c4) (h5 : capOk c.items.length c5) : cmE.R w D c (cmC c A1 c1 A2 c2 A3 c3 A4 c4 A5 c5) := by
  obtain ⟨n, hn⟩ := sl_bound h.kids
  obtain ⟨m, hm⟩ := slit_bound h.items
  refine ⟨max n m + 1, [.int .i64 c.kind], _, rfl, rfl, [S c.name], _, rfl, rfl, [.bool c.bang], _, rfl, rfl, [.bool c.inn], _, rfl, rfl, [.slice A1 c.asg.length c1], _, rfl, ⟨A1, c1, rfl, h1.1, h1.2, h.asg⟩, [.slice A2 c.words.length c2], _, rfl, ⟨A2, c2, rfl, h2.1, h2.2, h.words⟩,
    [.slice A3 c.rds.length c3], _, rfl, ⟨A3, c3, rfl, h3.1, h3.2, h.rds⟩, [.slice A4 c.kids.length c4], [.slice A5 c.items.length c5], rfl, ⟨A4, c4, rfl, h4.1, h4.2, ?_⟩, ⟨A5, c5, rfl, h5.1, h5.2, ?_⟩⟩
  · exact sl_imp (by rw [cmF_sz, cmF_sz]) hn fun _ _ _ h => cmF_le (Nat.le_max_left _ _) h
  · exact sl_imp (c := itF (cmF m)) (c' := itF (cmF (max n m))) rfl hm fun _ _ _ h => itF_imp (by rw [cmF_sz, cmF_sz]) h fun _ _ _ h => cmF_le (Nat.le_max_right _ _) h
end Go.Proofs.YtghjmiggobpmoaaGreatDoor.K
set_option linter.unusedVariables false
set_option linter.unusedSimpArgs false
set_option autoImplicit false
set_option maxRecDepth 20000
namespace Go.Proofs.YtghjmiggobpmoaaGreatDoor.K
open Go Go.RowKit

def hd : List Tok → Tok
  | t :: _ => t
  | [] => ⟨0, [], 0, [], false⟩
inductive Rs (α : Type) where
  | ok (x : α) (r : List Tok)
  | er (r : List Tok) (e : Int)
def Rs.bind {α β : Type} : Rs α → (α → List Tok → Rs β) → Rs β
  | .ok x r, f => f x r
  | .er r e, _ => .er r e
def begW : List Bytes := [[33], [123], [99, 97, 115, 101], [102, 111, 114], [105, 102], [117, 110, 116, 105, 108], [119, 104, 105, 108, 101]]
def endW : List Bytes := [[125], [100, 111], [100, 111, 110, 101], [101, 108, 105, 102], [101, 108, 115, 101], [101, 115, 97, 99], [102, 105], [105, 110], [116, 104, 101, 110]]
def redW : List Bytes := [[60], [62], [62, 62], [60, 38], [62, 38], [60, 62], [62, 124], [60, 60], [60, 60, 45]]
def begsB (w : Bytes) : Bool := begW.contains w
def resB (w : Bytes) : Bool := begsB w || endW.contains w
def redB (w : Bytes) : Bool := redW.contains w
def isT (k : Int) (l : List Bytes) (T : List Tok) : Bool := decide ((hd T).kind = k) && l.contains (hd T).text
def linesG : List Tok → List Tok
  | [] => []
  | t :: r => if t.kind = 3 then linesG r else t :: r
def startsB (T : List Tok) : Bool :=
  if (hd T).kind = 1 then !resB (hd T).text || begsB (hd T).text
  else if (hd T).kind = 2 then decide ((hd T).text = [40]) || redB (hd T).text
  else decide ((hd T).kind = 4)
def wantG (k : Int) (s : Bytes) (T : List Tok) : Rs Unit := if isT k [s] T = true then .ok () T.tail else .er T 101
def anyG (T : List Tok) : Rs Tok := if (hd T).kind = 1 then .ok (hd T) T.tail else .er T 101
def redirG (T : List Tok) : Rs (Option Rdr) :=
  if (hd T).kind ≠ 4 ∧ ((hd T).kind ≠ 2 ∨ redB (hd T).text = false) then .ok none T
  else if (hd T).kind = 4 then (anyG T.tail.tail).bind fun w r => .ok (some ⟨((byte (hd T).text 0 - 48).toNat : Int), (hd T.tail).text, w.text, w.here, w.raw⟩) r
  else (anyG T.tail).bind fun w r => .ok (some ⟨if byte (hd T).text 0 = 62 then 1 else 0, (hd T).text, w.text, w.here, w.raw⟩) r
def redirsG : Nat → List Rdr → List Tok → Rs (List Rdr)
  | 0, l, T => .ok l T
  | n + 1, l, T => (redirG T).bind fun x r => match x with
    | none => .ok l r
    | some x => redirsG n (l ++ [x]) r
def assignG (w : Bytes) : (Bytes × Bytes) × Bool := (((Lib.cut w [61]).1, (Lib.cut w [61]).2.1), (Lib.cut w [61]).2.2 && nameV (Lib.cut w [61]).1)
def simpleG : Nat → List (Bytes × Bytes) → List Bytes → List Rdr → List Tok → Rs Cm
  | 0, a, ws, rs, T => .ok (.mk 1 [] false false a ws rs [] []) T
  | n + 1, a, ws, rs, T => (redirG T).bind fun x r => match x with
    | some x => simpleG n a ws (rs ++ [x]) r
    | none => if (hd T).kind ≠ 1 then (if rs.length + a.length + ws.length = 0 then .er T 101 else .ok (.mk 1 [] false false a ws rs [] []) T)
      else if (assignG (hd T).text).2 = true ∧ ws = [] then simpleG n (a ++ [(assignG (hd T).text).1]) ws rs T.tail
      else simpleG n a (ws ++ [(hd T).text]) rs T.tail
def kidsC (k : Int) (l : List Cm) : Cm := .mk k [] false false [] [] [] l []
section
variable (com : List Tok → Rs Cm)
def pipeL : Nat → List Cm → List Tok → Rs (List Cm)
  | 0, l, T => .ok l T
  | n + 1, l, T => if isT 2 [[124]] T = true then (com (linesG T.tail)).bind fun c r => pipeL n (l ++ [c]) r else .ok l T
def pipeC (bang : Bool) (l : List Cm) : Cm := if l.length = 1 ∧ bang = false then l.headD zCm else .mk 2 [] bang false [] [] [] l []
def pipeG (T : List Tok) : Rs Cm :=
  (com (if isT 1 [[33]] T = true then T.tail else T)).bind fun c r => (pipeL com r.length [c] r).bind fun l r => .ok (pipeC (isT 1 [[33]] T) l) r
def andL : Nat → Cm → List Tok → Rs Cm
  | 0, c, T => .ok c T
  | n + 1, c, T => if isT 2 [[38, 38], [124, 124]] T = true then (pipeG com (linesG T.tail)).bind fun d r => andL n (kidsC (if (hd T).text = [124, 124] then 4 else 3) [c, d]) r else .ok c T
def andG (T : List Tok) : Rs Cm := (pipeG com T).bind fun c r => andL com r.length c r
def listC (l : List Cm) : Cm := if l.length = 1 then l.headD zCm else kidsC 5 l
def moreB (T : List Tok) : Bool := isT 2 [[59], [38]] T || decide ((hd T).kind = 3)
def listL : Nat → List Cm → List Tok → Rs (List Cm)
  | 0, l, T => .ok l T
  | n + 1, l, T => (andG com T).bind fun c r =>
    let l2 := l ++ [if isT 2 [[38]] r = true then kidsC 6 [c] else c]
    if moreB r = true then (if startsB (linesG r.tail) = true then listL n l2 (linesG r.tail) else .ok l2 (linesG r.tail)) else .ok l2 r
def listG (T : List Tok) : Rs Cm := (listL com T.length [] T).bind fun l r => .ok (listC l) r
def bodyG (T : List Tok) : Rs Cm := listG com (linesG T)
def branchG : Nat → List Tok → Rs Cm
  | 0, T => .er T 101
  | n + 1, T => (bodyG com T).bind fun a r => (wantG 1 [116, 104, 101, 110] r).bind fun _ r => (bodyG com r).bind fun b r =>
    if isT 1 [[101, 108, 105, 102]] r = true then (branchG n r.tail).bind fun c r => .ok (kidsC 9 [a, b, c]) r
    else if isT 1 [[101, 108, 115, 101]] r = true then (bodyG com r.tail).bind fun c r => (wantG 1 [102, 105] r).bind fun _ r => .ok (kidsC 9 [a, b, c]) r
    else (wantG 1 [102, 105] r).bind fun _ r => .ok (kidsC 9 [a, b]) r
def doG (T : List Tok) : Rs Cm := (wantG 1 [100, 111] T).bind fun _ r => (bodyG com r).bind fun c r => (wantG 1 [100, 111, 110, 101] r).bind fun _ r => .ok c r
def wordsG : List Bytes → List Tok → List Bytes × List Tok
  | l, [] => (l, [])
  | l, t :: r => if t.kind = 1 then wordsG (l ++ [t.text]) r else (l, t :: r)
def eachG (T : List Tok) : Rs Cm :=
  if nameV (hd T).text = false then .er T 101
  else (anyG T).bind fun x r =>
    if isT 1 [[105, 110]] (linesG r) = true then
      let q := wordsG [] (linesG r).tail
      if isT 2 [[59]] q.2 = false ∧ (hd q.2).kind ≠ 3 then .er q.2 101
      else (doG com (linesG q.2.tail)).bind fun d r => .ok (.mk 12 x.text false true [] q.1 [] [d] []) r
    else (doG com (linesG (if isT 2 [[59]] (linesG r) = true then (linesG r).tail else linesG r))).bind fun d r => .ok (.mk 12 x.text false false [] [] [] [d] []) r
def patsG : Nat → List Bytes → List Tok → Rs (List Bytes)
  | 0, l, T => .ok l T
  | n + 1, l, T => if isT 2 [[124]] T = true then (anyG T.tail).bind fun x r => patsG n (l ++ [x.text]) r else .ok l T
def itemG (T : List Tok) : Rs (List Bytes × List Cm) :=
  (anyG (if isT 2 [[40]] T = true then T.tail else T)).bind fun x r => (patsG r.length [x.text] r).bind fun l r => (wantG 2 [41] r).bind fun _ r =>
    if startsB (linesG r) = true then (listG com (linesG r)).bind fun c r => .ok (l, [c]) r else .ok (l, []) (linesG r)
def itemsG : Nat → List (List Bytes × List Cm) → List Tok → Rs (List (List Bytes × List Cm))
  | 0, l, T => .ok l T
  | n + 1, l, T => if isT 1 [[101, 115, 97, 99]] T = true then .ok l T else (itemG com T).bind fun x r =>
    if isT 2 [[59, 59]] r = true then itemsG n (l ++ [x]) (linesG r.tail) else .ok (l ++ [x]) r
def chooseG (T : List Tok) : Rs Cm :=
  (anyG T).bind fun x r => (wantG 1 [105, 110] (linesG r)).bind fun _ r => (itemsG com (linesG r).length [] (linesG r)).bind fun l r => (wantG 1 [101, 115, 97, 99] r).bind fun _ r => .ok (.mk 13 [] false false [] [x.text] [] [] l) r
def innerG (T : List Tok) : Rs Cm :=
  if (hd T).text = [40] then (bodyG com T.tail).bind fun c r => (wantG 2 [41] r).bind fun _ r => .ok (kidsC 8 [c]) r
  else if (hd T).text = [123] then (bodyG com T.tail).bind fun c r => (wantG 1 [125] r).bind fun _ r => .ok (kidsC 7 [c]) r
  else if (hd T).text = [105, 102] then branchG com T.length T.tail
  else if (hd T).text = [119, 104, 105, 108, 101] ∨ (hd T).text = [117, 110, 116, 105, 108] then (bodyG com T.tail).bind fun a r => (doG com r).bind fun c r => .ok (kidsC (if (hd T).text = [117, 110, 116, 105, 108] then 11 else 10) [a, c]) r
  else if (hd T).text = [102, 111, 114] then eachG com T.tail
  else chooseG com T.tail
def addR (c : Cm) (l : List Rdr) : Cm := .mk c.kind c.name c.bang c.inn c.asg c.words l c.kids c.items
def compG (T : List Tok) : Rs Cm := (innerG com T).bind fun c r => (redirsG r.length c.rds r).bind fun l r => .ok (addR c l) r
end
def opensB (T : List Tok) : Bool := isT 2 [[40]] T || (decide ((hd T).kind = 1) && (begsB (hd T).text && !decide ((hd T).text = [33])))
def funcG (cw : List Tok → Rs Cm) (T : List Tok) : Rs Cm :=
  (wantG 2 [41] T.tail.tail).bind fun _ r => if opensB (linesG r) = false then .er (linesG r) 101 else (cw (linesG r)).bind fun c r => .ok (.mk 14 (hd T).text false false [] [] [] [c] []) r
def commandG (cw fw : List Tok → Rs Cm) (T : List Tok) : Rs Cm :=
  if opensB T = true then cw T
  else if (hd T).kind = 1 ∧ resB (hd T).text = true then .er T 101
  else if (hd T).kind = 1 ∧ nameV (hd T).text = true ∧ (hd T.tail).kind = 2 ∧ (hd T.tail).text = [40] then fw T
  else simpleG T.length [] [] [] T
def gramF : Nat → (List Tok → Rs Cm) × (List Tok → Rs Cm)
  | 0 => (fun T => .er T 104, fun T => .er T 104)
  | m + 1 => (compG (commandG (gramF m).1 (gramF m).2), funcG (gramF m).1)
def comG (m : Nat) : List Tok → Rs Cm := commandG (gramF m).1 (gramF m).2
def gramG (T : List Tok) : Rs Cm :=
  (if (hd (linesG T)).kind = 0 then Rs.ok zCm (linesG T) else listG (comG 64) (linesG T)).bind fun c r => if (hd r).kind = 0 then .ok c r else .er r 101
def gramV (s : Bytes) : Cm × Int × Int :=
  if (tokensV s).2.2 ≠ 0 then (zCm, (tokensV s).2.1, (tokensV s).2.2)
  else match gramG (tokensV s).1 with
    | .ok c _ => (c, 0, 0)
    | .er r e => (zCm, (hd r).at_, e)
end Go.Proofs.YtghjmiggobpmoaaGreatDoor.K
set_option linter.unusedVariables false
set_option linter.unusedSimpArgs false
set_option autoImplicit false
set_option maxRecDepth 20000
namespace Go.Proofs.YtghjmiggobpmoaaGreatDoor.K
open Go Go.RowKit

abbrev Sk := Int × Bytes × Int
def GT : List Tok → Prop
  | [] => False
  | [t] => t.kind = 0
  | t :: u :: r => t.kind ≠ 0 ∧ (t.kind = 4 → t.text ≠ [] ∧ u.kind = 2) ∧ GT (u :: r)
theorem GT.ne {T : List Tok} (h : GT T) : T ≠ [] := fun e => by subst e; exact h
theorem GT.pos {T : List Tok} (h : GT T) : 0 < T.length := List.length_pos_iff.2 h.ne
theorem GT.cons {T : List Tok} (h : GT T) : T = hd T :: T.tail := by
  cases T with
  | nil => exact h.elim
  | cons t r => rfl
theorem GT.tail {T : List Tok} (h : GT T) (hk : (hd T).kind ≠ 0) : GT T.tail := by
  match T, h, hk with
  | [t], h, hk => exact absurd h hk
  | t :: u :: r, h, _ => exact h.2.2
theorem GT.io {T : List Tok} (h : GT T) (hk : (hd T).kind = 4) : (hd T).text ≠ [] ∧ (hd T.tail).kind = 2 := by
  match T, h, hk with
  | [t], h, hk => exact absurd (h.symm.trans hk) (by decide)
  | t :: u :: r, h, hk => exact h.2.1 hk
structure Suf (R T : List Tok) : Prop where
  good : GT R
  suf : R <:+ T
theorem Suf.len {R T : List Tok} (h : Suf R T) : R.length ≤ T.length := h.suf.length_le
theorem Suf.refl {T : List Tok} (h : GT T) : Suf T T := ⟨h, List.suffix_refl _⟩
theorem Suf.trans {Q R T : List Tok} (h : Suf Q R) (k : Suf R T) : Suf Q T := ⟨h.good, h.suf.trans k.suf⟩
theorem Suf.tail {T : List Tok} (h : GT T) (hk : (hd T).kind ≠ 0) : Suf T.tail T := ⟨h.tail hk, List.tail_suffix _⟩
theorem tail_len {T : List Tok} (h : GT T) : T.tail.length + 1 = T.length := by have := h.pos; rw [List.length_tail]; omega
theorem lines_suf : ∀ {T : List Tok}, GT T → Suf (linesG T) T
  | [t], h => by
    rw [linesG, if_neg (by rw [show t.kind = 0 from h]; decide)]; exact .refl h
  | t :: u :: r, h => by
    rw [linesG]; split
    · exact (lines_suf h.2.2).trans ⟨h.2.2, List.suffix_cons _ _⟩
    · exact .refl h
def GTs : List Sk → Prop
  | [] => False
  | [t] => t.1 = 0
  | t :: u :: r => t.1 ≠ 0 ∧ (t.1 = 4 → t.2.1 ≠ [] ∧ u.1 = 2) ∧ GTs (u :: r)
theorem GT_of : ∀ {T : List Tok}, GTs (T.map skel) → GT T
  | [], h => h
  | [t], h => h
  | t :: u :: r, h => ⟨h.1, h.2.1, GT_of (T := u :: r) h.2.2⟩
def okS : List Sk → Prop
  | [] => True
  | x :: l => x.1 ≠ 0 ∧ (x.1 = 4 → x.2.1 ≠ [] ∧ ∀ y, l.head? = some y → y.1 = 2) ∧ okS l
def pend (l : List Sk) : Prop := ∃ x, l.getLast? = some x ∧ x.1 = 4
theorem pend_snoc {l : List Sk} {x : Sk} : pend (l ++ [x]) ↔ x.1 = 4 := by simp [pend]
theorem okS_snoc : ∀ {l : List Sk} {x : Sk}, okS l → x.1 ≠ 0 → (x.1 = 4 → x.2.1 ≠ []) → (pend l → x.1 = 2) → okS (l ++ [x])
  | [], x, _, h1, h2, _ => ⟨h1, fun h => ⟨h2 h, fun y hy => by cases hy⟩, trivial⟩
  | [a], x, h, h1, h2, h3 => ⟨h.1, fun h4 => ⟨(h.2.1 h4).1, fun y hy => by cases hy; exact h3 ⟨a, rfl, h4⟩⟩, h1, fun h => ⟨h2 h, fun y hy => by cases hy⟩, trivial⟩
  | a :: b :: l, x, h, h1, h2, h3 => ⟨h.1, fun h4 => ⟨(h.2.1 h4).1, fun y hy => (h.2.1 h4).2 y hy⟩, okS_snoc (l := b :: l) h.2.2 h1 h2 fun ⟨z, hz, hk⟩ => h3 ⟨z, by rw [List.getLast?_cons_cons]; exact hz, hk⟩⟩
theorem GTs_snoc : ∀ {l : List Sk} {x : Sk}, okS l → ¬ pend l → x.1 = 0 → GTs (l ++ [x])
  | [], x, _, _, h => h
  | [a], x, h, hp, hx => ⟨h.1, fun h4 => absurd ⟨a, rfl, h4⟩ hp, hx⟩
  | a :: b :: l, x, h, hp, hx => ⟨h.1, fun h4 => ⟨(h.2.1 h4).1, (h.2.1 h4).2 b rfl⟩, GTs_snoc (l := b :: l) h.2.2 (fun ⟨z, hz, hk⟩ => hp ⟨z, by rw [List.getLast?_cons_cons]; exact hz, hk⟩) hx⟩
theorem blank_lt {r : Bytes} (hr : r ≠ []) (h : byte r 0 = 60 ∨ byte r 0 = 62) : blankV r = 0 := by
  obtain ⟨c, t, rfl⟩ : ∃ c t, r = c :: t := by cases r with | nil => exact absurd rfl hr | cons c t => exact ⟨c, t, rfl⟩
  have hc : c = 60 ∨ c = 62 := h
  show blankL (t.length + 1) (c :: t) = 0
  rcases hc with rfl | rfl <;> simp [blankL, Lib.hasPrefix]
theorem next_lt {r : Bytes} (hr : r ≠ []) (h : byte r 0 = 60 ∨ byte r 0 = 62) (i : Int) : (nextT r i).1.kind = 2 ∧ (nextT r i).2.2 = 0 := by
  unfold nextT
  rw [if_neg hr, if_neg (by rcases h with h | h <;> rw [h] <;> decide), if_pos (by rcases h with h | h <;> rw [h] <;> decide)]
  exact ⟨rfl, rfl⟩
theorem next_io {r : Bytes} {i : Int} (h : (nextT r i).1.kind = 4) : (nextT r i).1.text ≠ [] ∧ r.drop (nextT r i).2.1 ≠ [] ∧ (byte (r.drop (nextT r i).2.1) 0 = 60 ∨ byte (r.drop (nextT r i).2.1) 0 = 62) := by
  unfold nextT at h ⊢
  split at h
  · exact absurd (show (0 : Int) = 4 from h) (by decide)
  rename_i hr
  rw [if_neg hr]
  split at h
  · exact absurd (show (3 : Int) = 4 from h) (by decide)
  rename_i h10
  rw [if_neg h10]
  split at h
  · exact absurd (show (2 : Int) = 4 from h) (by decide)
  rename_i hm
  rw [if_neg hm]
  split at h
  · exact absurd (show (0 : Int) = 4 from h) (by decide)
  rename_i he
  rw [if_neg he]
  simp only at h ⊢
  split at h
  · rename_i hc
    obtain ⟨h1, _, h3, h4⟩ := hc
    rw [h1]
    have hl : (r.drop 1).length = r.length - 1 := by simp
    refine ⟨fun e => ?_, fun e => ?_, ?_⟩
    · have := congrArg List.length e; rw [List.length_take] at this; simp only [List.length_nil] at this; omega
    · rw [e] at hl; simp only [List.length_nil] at hl; omega
    · have hb : byte (r.drop 1) 0 = byte r 1 := by simp [byte]
      rw [hb]; exact h3
  · exact absurd h (by decide)
theorem scan_good : ∀ (k : Nat) (r : Bytes) (i : Int) (out : List Tok) (ws : List (Nat × Bool)), r.length < k → okS (out.map skel) → (pend (out.map skel) → r ≠ [] ∧ (byte r 0 = 60 ∨ byte r 0 = 62)) →
    (scanF k r i out ws).2.2 = 0 → GTs ((scanF k r i out ws).1.map skel)
  | 0, _, _, _, _, h, _, _, _ => absurd h (Nat.not_lt_zero _)
  | k + 1, r, i, out, ws, hk, ho, hp, he => by
    have hbl := blankL_le r.length r
    simp only [scanF] at he ⊢
    have hpn : pend (out.map skel) → (nextT (r.drop (blankV r)) (i + blankV r)).1.kind = 2 := fun h => by
      obtain ⟨h1, h2⟩ := hp h
      rw [blank_lt h1 h2]; exact (next_lt h1 h2 _).1
    have hbs := blankL_stop r.length r (Nat.le_refl _)
    rw [show blankL r.length r = blankV r from rfl] at hbl hbs
    generalize hz : nextT (r.drop (blankV r)) (i + blankV r) = z at *
    split at he
    · exact absurd he (by assumption)
    rename_i h0
    rw [if_neg h0]
    split at he
    · rename_i hk0
      rw [if_pos hk0]
      rw [linesV_skel, List.map_append]
      exact GTs_snoc ho (fun h => by have := hpn h; rw [hk0] at this; exact absurd this (by decide)) hk0
    rename_i hk0
    rw [if_neg hk0]
    have hr : r.drop (blankV r) ≠ [] := fun e => by
      have h9 : (nextT (r.drop (blankV r)) (i + blankV r)).1.kind = 0 := by unfold nextT; rw [if_pos e]
      rw [hz] at h9; exact hk0 h9
    have hlt : (r.drop (blankV r)).length = r.length - blankV r := by simp
    have hrp := List.length_pos_iff.2 hr
    have hok : okS ((out ++ [z.1]).map skel) := by
      rw [List.map_append]
      refine okS_snoc ho hk0 (fun h => ?_) hpn
      have := next_io (r := r.drop (blankV r)) (i := i + blankV r) (by rw [hz]; exact h)
      rw [hz] at this; exact this.1
    have hn1 : 1 ≤ z.2.1 ∧ z.2.1 ≤ (r.drop (blankV r)).length := by
      rcases nextT_ok hr (hbs.resolve_left hr) (i + blankV r) with ⟨h, _⟩ | ⟨_, _, h1, h2, _⟩
      · rw [hz] at h; exact absurd (by simpa using h0) h
      · rw [hz] at h1 h2; exact ⟨h1, h2⟩
    split at he
    · rename_i hk3
      rw [if_pos hk3]
      refine scan_good k _ _ _ [] ?_ ?_ ?_ he
      · simp only [List.length_drop] at hn1 ⊢; omega
      · rw [linesV_skel]; exact hok
      · rw [linesV_skel, List.map_append]
        intro h
        have h9 := pend_snoc.1 h
        exact absurd (hk3.symm.trans h9) (by decide)
    · rename_i hk3
      rw [if_neg hk3]
      refine scan_good k _ _ _ _ ?_ hok ?_ he
      · simp only [List.length_drop] at hn1 ⊢; omega
      · intro h
        rw [List.map_append] at h
        have h9 := pend_snoc.1 h
        have := next_io (r := r.drop (blankV r)) (i := i + blankV r) (by rw [hz]; exact h9)
        rw [hz] at this; exact this.2
theorem tokens_good {s : Bytes} (he : (tokensV s).2.2 = 0) : GT (tokensV s).1 := by
  unfold tokensV at he ⊢
  split at he
  · exact absurd he (by decide)
  · rename_i h
    rw [if_neg h]
    exact GT_of (scan_good _ _ _ _ _ (Nat.lt_succ_self _) trivial (fun ⟨x, hx, _⟩ => by cases hx) he)
end Go.Proofs.YtghjmiggobpmoaaGreatDoor.K
set_option linter.unusedVariables false
set_option linter.unusedSimpArgs false
set_option autoImplicit false
set_option maxRecDepth 20000
namespace Go.Proofs.YtghjmiggobpmoaaGreatDoor.K
open Go Go.Proofs Go.RowKit

theorem fields_beg : Lib.fields [33, 32, 123, 32, 99, 97, 115, 101, 32, 102, 111, 114, 32, 105, 102, 32, 117, 110, 116, 105, 108, 32, 119, 104, 105, 108, 101] = begW := by kernel_rfl
theorem fields_end : Lib.fields [125, 32, 100, 111, 32, 100, 111, 110, 101, 32, 101, 108, 105, 102, 32, 101, 108, 115, 101, 32, 101, 115, 97, 99, 32, 102, 105, 32, 105, 110, 32, 116, 104, 101, 110] = endW := by kernel_rfl
theorem fields_red : Lib.fields [60, 32, 62, 32, 62, 62, 32, 60, 38, 32, 62, 38, 32, 60, 62, 32, 62, 124, 32, 60, 60, 32, 60, 60, 45] = redW := by kernel_rfl
theorem hd_at {T : List Tok} (h : GT T) : T[0]? = some (hd T) := by
  cases T with
  | nil => exact h.elim
  | cons t r => rfl
def RdAt (w : World) (rb tb : Nat) (d : Int) (T : List Tok) : Prop := ∃ A cap, Blk w rb [.slice A T.length cap, .int .i64 d] 49 ∧ (T.length ≤ cap ∧ True) ∧ Sl tok5E w (fun k => k = tb) A T
theorem RdAt.tr {w w' : World} {rb tb : Nat} {d : Int} {T : List Tok} {bs : List Nat} (h : RdAt w rb tb d T) (c : Chg bs w w') (hb : ∀ k, k ∈ bs → k ≠ rb ∧ k ≠ tb) : RdAt w' rb tb d T := by
  obtain ⟨A, cap, h1, h2, h3⟩ := h
  exact ⟨A, cap, h1.tr c fun hx => (hb _ hx).1 rfl, h2, h3.tr c fun k hk hD => (hb k hk).2 hD⟩
theorem RdAt.tr0 {w w' : World} {rb tb : Nat} {d : Int} {T : List Tok} (h : RdAt w rb tb d T) (c : Chg [] w w') : RdAt w' rb tb d T := h.tr c (fun k hk => by cases hk)
theorem RdAt.lt {w : World} {rb tb : Nat} {d : Int} {T : List Tok} (h : RdAt w rb tb d T) (hg : GT T) : rb < w.heap.size ∧ tb < w.heap.size := by
  obtain ⟨A, cap, h1, h2, h3⟩ := h
  refine ⟨h1.lt, ?_⟩
  rcases h3 with h | ⟨b, o, _, h4, h5, _⟩
  · exact absurd h hg.ne
  · have : b = tb := h5
    omega
def QOk (rb tb : Nat) : Prop := tb ≠ rb ∧ 1 ≠ rb ∧ 0 ≠ rb
def wrongV (R : List Tok) (e : Int) : Value := .iface 45 (.agg ⟨[.int .i64 (hd R).at_, .int .i64 e]⟩)
def ErT {α : Type} (g : Rs α) (T : List Tok) (rb : Nat) (w w' : World) (v : Value) : Prop := ∃ R e, g = .er R e ∧ Suf R T ∧ v = wrongV R e ∧ Chg [rb] w w'
def OkC (g : Rs Cm) (T : List Tok) (rb tb : Nat) (d : Int) (w w' : World) (v : Value) : Prop := ∃ c R vs, g = .ok c R ∧ Suf R T ∧ R.length < T.length ∧ v = .agg ⟨vs⟩ ∧ cmE.R w' (fun k => w.heap.size ≤ k) c vs ∧ RdAt w' rb tb d R ∧ Chg [rb] w w'

theorem SIndex_spec {l : List Bytes} {A : Option Addr} {cap : Nat} {D : Nat → Prop} {w : World} (v : Bytes) (hl : Sl sE w D A l) (hll : l.length ≤ 9223372036854775807) : CallR Tryz.prog 65 #[.slice A l.length cap, S v] w fun v' w' => ∃ n : Int, v' = .int .i64 n ∧ (0 ≤ n ↔ v ∈ l) ∧ Chg [] w w' := by
 refine callR_of_wp (args := [_, _]) Tryz.func65 rfl (Nat.le_of_ble_eq_true rfl) ?_
 have HC : Chg [] w w := .refl _
 refine sr rfl <| aI rfl <| en <| x_seq <| sr rfl <| mL rfl <| Wp rfl <| st_len (ct := #[23]) (by rw [show ((#[23] : Array TypeId)[0]?).bind Tryz.prog.underlying = some (.slice 9) from T.u23]; rfl) rfl <| mI rfl <| en <| x_block <| x_loop (ι := Nat) [4, 5, 8, 9, 10, 11, 12, 13, 14, 15, 16, 17, 18] (fun i => [(8, .int .i64 (i : Int))]) (fun i W => (i ≤ l.length ∧ v ∉ l.take i) ∧ (Chg [] w W) ∧ (Sl sE W D A l)) (fun i => l.length - i) 0 ?_ ?_ ?_
 · exact ⟨rfl, trivial⟩
 ·refine ⟨?_, HC, hl⟩
  exact ⟨Nat.zero_le _, by simp⟩
 intro i G2 w1 ⟨⟨hi, hno⟩, HC, hl⟩
 change wp _ _ _ _ _ (upds (over _ _ G2) [(8, .int .i64 (i : Int))]) _ _
 refine sr rfl <| Wp rfl <| st_lss rfl rfl <| en <| x_seq <| x_cond rfl (fun h0 => ?_) (fun h0 => ?_)
 ·try simp only [nm, ne_eq] at h0
  refine x_skip <| then_n <| x_seq <| x_block <| sr rfl <| mI rfl <| aI rfl <| en <| sr rfl <| mS rfl <| mL rfl <| mI rfl ?_
  obtain ⟨x, hx3⟩ : ∃ zz, l[i]? = some zz := ⟨_, List.getElem?_eq_getElem (by omega)⟩
  obtain ⟨lb8, _, vs7, hA4, hR6, hC5⟩ := hl.at hx3
  obtain rfl : vs7 = [S x] := hR6
  refine Wp rfl <| st_indexAddr T.u23 T.size9 (congrArg (fun z => Value.slice z _ _) hA4) rfl (by omega) (by omega) <| lS T.one9 rfl (hC5.at (j := 0) rfl) <| Wp rfl <| st_seql rfl rfl <| en <| x_cond rfl (fun h1 => ?_) (fun h1 => ?_)
  ·try simp only [nm, ne_eq] at h1
   obtain ⟨hil, hxe⟩ := List.getElem?_eq_some_iff.1 hx3
   have hvm : v ∈ l := by rw [h1, ← hxe]; exact List.getElem_mem _
   refine sr rfl <| mI rfl <| aI rfl <| en <| x_ret <| block_r <| then_r <| then_r <| block_r <| then_r <| ret_tmp (v := .int _ _) rfl rfl ?_
   exact ⟨_, rfl, ⟨fun _ => hvm, fun _ => by omega⟩, HC⟩
  ·try simp only [nm, ne_eq] at h1
   refine x_skip <| block_n <| then_n <| x_region rfl <| Wp rfl <| st_addn rfl rfl (by constructor <;> omega) <| mI rfl <| en <| ⟨i + 1, ?_, ?_, rfl, ⟨rfl, trivial⟩, ?_⟩
   ·refine ⟨?_, HC, hl⟩
    exact ⟨by omega, by rw [List.take_add_one, hx3]; simp only [Option.toList_some, List.mem_append, List.mem_singleton, not_or]; exact ⟨hno, h1⟩⟩
   ·show l.length - (i + 1) < l.length - i; omega
   exact q9
 ·try simp only [nm, ne_eq] at h0
  have hvn : v ∉ l := by rw [List.take_of_length_le (by omega)] at hno; exact hno
  refine x_exit <| then_x <| then_x <| block_x <| then_n <| sr rfl <| aI rfl <| en <| x_ret <| ret_tmp (v := .int _ _) rfl rfl ?_
  exact ⟨_, rfl, ⟨fun h => absurd h (by decide), fun h => absurd h hvn⟩, HC⟩

theorem Contains_spec {l : List Bytes} {A : Option Addr} {cap : Nat} {D : Nat → Prop} {w : World} (v : Bytes) (hl : Sl sE w D A l) (hll : l.length ≤ 9223372036854775807) : CallR Tryz.prog 44 #[.slice A l.length cap, S v] w fun v' w' => v' = .bool (l.contains v) ∧ Chg [] w w' := by
 refine callR_of_wp (args := [_, _]) Tryz.func44 rfl (Nat.le_of_ble_eq_true rfl) ?_
 have HC : Chg [] w w := .refl _
 refine sr rfl <| aB rfl <| en <| sr rfl <| mL rfl <| mS rfl <| Wp rfl <| st_call (ags := [_, _]) rfl rfl T.ent65 rfl (SIndex_spec v hl hll) ?_
 rintro _ w1 ⟨nx, rfl, hnx, c2⟩
 replace HC := HC.then c2
 refine Wp rfl <| st_geq rfl rfl <| aB rfl <| en <| x_ret <| ret_tmp (v := .bool _) rfl rfl <| ⟨congrArg Value.bool ?_, HC⟩
 rw [Bool.eq_iff_iff, decide_eq_true_eq, List.contains_iff_mem]
 exact hnx

theorem begins_spec (x : Bytes) (w : World) (ht : Tab w) : CallR Tryz.prog 41 #[S x] w fun v w' => v = .bool (begsB x) ∧ Chg [] w w' := by
 refine callR_of_wp (args := [_]) Tryz.func41 rfl (Nat.le_of_ble_eq_true rfl) ?_
 have HC : Chg [] w w := .refl _
 have ht1 := ht.lt
 refine sr rfl <| aB rfl <| en <| sr rfl <| Wp rfl <| st_call (ags := [_]) rfl rfl T.ent62 rfl (Fields_spec [33, 32, 123, 32, 99, 97, 115, 101, 32, 102, 111, 114, 32, 105, 102, 32, 117, 110, 116, 105, 108, 32, 119, 104, 105, 108, 101] _ (by decide) (all128 _ rfl) ht) ?_
 rintro _ w1 ⟨bf, rfl, hgf, hsf, c2⟩
 rw [fields_beg] at hsf ⊢
 replace HC := HC.then c2
 refine mS rfl <| Wp rfl <| st_call (ags := [_, _]) rfl rfl T.ent44 rfl (Contains_spec x hsf (by decide)) ?_
 rintro _ w3 ⟨rfl, c4⟩
 replace HC := HC.then c4
 refine aB rfl <| en <| x_ret <| ret_tmp (v := .bool _) rfl rfl ?_
 exact ⟨rfl, HC⟩

theorem redirection_spec (x : Bytes) (w : World) (ht : Tab w) : CallR Tryz.prog 42 #[S x] w fun v w' => v = .bool (redB x) ∧ Chg [] w w' := by
 refine callR_of_wp (args := [_]) Tryz.func42 rfl (Nat.le_of_ble_eq_true rfl) ?_
 have HC : Chg [] w w := .refl _
 have ht1 := ht.lt
 refine sr rfl <| aB rfl <| en <| sr rfl <| Wp rfl <| st_call (ags := [_]) rfl rfl T.ent62 rfl (Fields_spec [60, 32, 62, 32, 62, 62, 32, 60, 38, 32, 62, 38, 32, 60, 62, 32, 62, 124, 32, 60, 60, 32, 60, 60, 45] _ (by decide) (all128 _ rfl) ht) ?_
 rintro _ w1 ⟨bf, rfl, hgf, hsf, c2⟩
 rw [fields_red] at hsf ⊢
 replace HC := HC.then c2
 refine mS rfl <| Wp rfl <| st_call (ags := [_, _]) rfl rfl T.ent44 rfl (Contains_spec x hsf (by decide)) ?_
 rintro _ w3 ⟨rfl, c4⟩
 replace HC := HC.then c4
 refine aB rfl <| en <| x_ret <| ret_tmp (v := .bool _) rfl rfl ?_
 exact ⟨rfl, HC⟩

theorem Reserved_spec (x : Bytes) (w : World) (ht : Tab w) : CallR Tryz.prog 40 #[S x] w fun v w' => v = .bool (resB x) ∧ Chg [] w w' := by
 refine callR_of_wp (args := [_]) Tryz.func40 rfl (Nat.le_of_ble_eq_true rfl) ?_
 have HC : Chg [] w w := .refl _
 have ht1 := ht.lt
 refine sr rfl <| aB rfl <| en <| sr rfl <| mS rfl <| Wp rfl <| st_call (ags := [_]) rfl rfl T.ent41 rfl (begins_spec x _ ht) ?_
 rintro _ w1 ⟨rfl, c2⟩
 replace HC := HC.then c2
 replace ht := ht.tr0 c2
 refine mB rfl <| w_split (d := 5) rfl (fun g3 => ?_) (fun g3 => ?_)
 ·try simp only [nm, ne_eq] at g3
  iterate 3 refine w_no 2 5 false ?_
  refine pT rfl rfl <| aB rfl <| en <| x_ret <| ret_tmp (v := .bool _) rfl rfl ?_
  exact ⟨congrArg Value.bool (by unfold resB; first | (rw [show begsB x = true by assumption]; rfl) | (rw [show begsB x = false by first | assumption | simp_all]; rfl)), HC⟩
 ·try simp only [nm, ne_eq] at g3
  refine w_yes 2 5 false <| st_call (ags := [_]) rfl rfl T.ent62 rfl (Fields_spec [125, 32, 100, 111, 32, 100, 111, 110, 101, 32, 101, 108, 105, 102, 32, 101, 108, 115, 101, 32, 101, 115, 97, 99, 32, 102, 105, 32, 105, 110, 32, 116, 104, 101, 110] _ (by decide) (all128 _ rfl) ht) ?_
  rintro _ w4 ⟨bf, rfl, hgf, hsf, c5⟩
  rw [fields_end] at hsf ⊢
  replace HC := HC.then c5
  refine w_yes 2 5 false <| st_move (v := S _) rfl <| w_yes 2 5 false <| st_call (ags := [_, _]) rfl rfl T.ent44 rfl (Contains_spec x hsf (by decide)) ?_
  rintro _ w6 ⟨rfl, c7⟩
  replace HC := HC.then c7
  refine pF rfl rfl <| aB rfl <| en <| x_ret <| ret_tmp (v := .bool _) rfl rfl ?_
  exact ⟨congrArg Value.bool (by unfold resB; first | (rw [show begsB x = true by assumption]; rfl) | (rw [show begsB x = false by first | assumption | simp_all]; rfl)), HC⟩

end Go.Proofs.YtghjmiggobpmoaaGreatDoor.K
