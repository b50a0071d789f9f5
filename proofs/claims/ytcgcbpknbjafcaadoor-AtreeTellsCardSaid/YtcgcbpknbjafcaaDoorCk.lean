/- chars.Name. -/
import Derived.Test.YtcgcbpknbjafcaaDoorCj
import Derived.Test.YtcgcbpknbjafcaaDoorShelf2
import Derived.Lib.DecodeN
set_option linter.unusedVariables false
set_option linter.unusedSimpArgs false
set_option autoImplicit false
set_option maxRecDepth 20000
namespace Go.Proofs.YtcgcbpknbjafcaaDoor.K
open Go Go.Proofs Go.RowKit

theorem chg_below {w w' : World} (h : Below w.heap.size w w') : Chg [] w w' := ⟨h.os, h.tape, h.output, h.size, fun k hk _ => h.block k hk⟩
theorem below_chg {w w' : World} (h : Chg [] w w') : Below w.heap.size w w' := ⟨h.os, h.tape, h.output, h.size, fun k hk => h.block k hk (by simp)⟩
theorem get_byte {s : Bytes} {i : Nat} (h : i < s.length) : (ByteArray.mk (Array.mk s)).get! i = byte s i := by
  show (Array.mk s)[i]! = _
  simp [byte, h]
theorem decode_lo {s : Bytes} {i : Nat} (h : i < s.length) (hb : (byte s i).toNat < 128) : Utf8.decode ⟨⟨s⟩⟩ i = ((byte s i).toNat, 1) := by
  rw [Lib.decode_at, get_byte h, Lib.decodeN, if_pos hb]
theorem decode_hi {s : Bytes} {i : Nat} (h : i < s.length) (hb : ¬ (byte s i).toNat < 128) : 128 ≤ (Utf8.decode ⟨⟨s⟩⟩ i).1 := by
  rw [Lib.decode_at, get_byte h]
  have h2 := (byte s i).toNat_lt
  unfold Lib.decodeN
  rw [if_neg hb]
  repeat' split
  all_goals first | omega | (simp only; omega) | decide
/-- A rune that is none of a name. -/
def notWord (x : Nat) : Bool := decide (126 < x) || !(wordB (UInt8.ofNat x))
theorem wrap_ofNat {x : Nat} (h : x ≤ 126) : IntKind.u8.wrap (x : Int) = ((UInt8.ofNat x).toNat : Int) := by
  have h1 : (UInt8.ofNat x).toNat = x := by simp; omega
  rw [wrap_u8, h1]; omega
theorem word_lo {c : UInt8} (h : wordB c = true) : c.toNat ≤ 126 := by
  simp only [wordB, begB, alphaB, upB, loB, digB, Bool.or_eq_true, decide_eq_true_eq] at h; omega
theorem notWord_byte (c : UInt8) : notWord c.toNat = !(wordB c) := by
  unfold notWord
  rw [UInt8.ofNat_toNat]
  cases h : wordB c with
  | false => simp
  | true => have := word_lo h; simp; omega
theorem idx_all (s : Bytes) : ∀ (f i : Nat), s.length ≤ i + f → decide (Lib.idxFuncFrom notWord true ⟨⟨s⟩⟩ f i < 0) = (s.drop i).all wordB
  | 0, i, h => by rw [List.drop_of_length_le (by omega)]; rfl
  | f + 1, i, h => by
    unfold Lib.idxFuncFrom
    by_cases hi : i < s.length
    · rw [if_pos (show i < (ByteArray.mk (Array.mk s)).size from hi)]
      by_cases hb : (byte s i).toNat < 128
      · rw [decode_lo hi hb]
        simp only []
        rw [notWord_byte]
        cases hw : wordB (byte s i) with
        | false => rw [if_pos (by rfl), all_off hi hw, decide_eq_false (by omega)]
        | true => rw [if_neg (by simp), all_on hi hw]; exact idx_all s f (i + 1) (by omega)
      · have h2 := decode_hi hi hb
        have hw : wordB (byte s i) = false := by
          cases hw : wordB (byte s i) with
          | false => rfl
          | true => have := word_lo hw; omega
        rw [if_pos (by unfold notWord; simp; omega), all_off hi hw, decide_eq_false (by omega)]
    · rw [if_neg (show ¬ i < (ByteArray.mk (Array.mk s)).size from hi), List.drop_of_length_le (by omega)]; rfl
theorem c_begins_n {x : Nat} (h : x ≤ 126) (w : World) : CallR Tryd.prog 88 #[.int .u8 (IntKind.u8.wrap (x : Int))] w fun v w' => v = .bool (begB (UInt8.ofNat x)) ∧ Chg [] w w' := by
  rw [wrap_ofNat h]; exact c_begins _ _
theorem c_digit_n {x : Nat} (h : x ≤ 126) (w : World) : CallR Tryd.prog 73 #[.int .u8 (IntKind.u8.wrap (x : Int))] w fun v w' => v = .bool (digB (UInt8.ofNat x)) ∧ Chg [] w w' := by
  rw [wrap_ofNat h]; exact c_digit _ _

theorem Name1_spec (x : Nat) (w : World) : CallR Tryd.prog 90 #[.int .i32 (x : Int)] w fun v w' => v = .bool (notWord x) ∧ Chg [] w w' := by
 refine callR_of_wp (args := [_]) Tryd.func90 rfl (Nat.le_of_ble_eq_true rfl) ?_
 have HC : Chg [] w w := .refl _
 refine x_seq ?_
 refine x_region rfl ?_
 refine w_plain rfl (st_assign (v := .bool _) rfl ?_)
 refine wops_nil ?_
 refine then_n ?_
 refine x_seq ?_
 refine x_region rfl ?_
 refine w_plain rfl (st_move (v := .int _ _) rfl ?_)
 refine w_plain rfl (st_gtr rfl rfl ?_)
 refine w_plain rfl (st_move (v := .bool _) rfl ?_)
 refine w_split (d := 5) rfl (fun g1 => ?_) (fun g1 => ?_)
 ·skip
  try simp only [nm, ne_eq] at g1
  refine w_no 2 5 false ?_
  refine w_no 2 5 false ?_
  refine w_no 2 5 false ?_
  refine w_no 2 5 false ?_
  refine w_no 2 5 false ?_
  refine w_no 7 10 true ?_
  refine w_no 7 10 true ?_
  refine w_no 7 10 true ?_
  refine w_no 7 10 true ?_
  refine w_no 2 5 false ?_
  refine w_plain rfl (st_pick (b := true) (v := .bool _) rfl rfl ?_)
  refine w_plain rfl (st_assign (v := .bool _) rfl ?_)
  refine wops_nil ?_
  refine then_n ?_
  refine x_ret ?_
  refine ret_tmp (v := .bool _) rfl rfl ?_
  refine ⟨congrArg Value.bool ?_, HC⟩
  unfold notWord
  first | (rw [decide_eq_true (by omega)]; rfl) | (rw [decide_eq_false (by omega)]; simp [wordB, *])
 ·skip
  try simp only [nm, ne_eq] at g1
  refine w_yes 2 5 false (st_move (v := .int _ _) rfl ?_)
  refine w_yes 2 5 false (st_convInt T.u21 T.u5 rfl ?_)
  refine w_yes 2 5 false (st_call (ags := [_]) rfl rfl T.ent88 rfl (c_begins_n (by omega) _) ?_)
  rintro _ w2 ⟨rfl, c3⟩
  replace HC := HC.then c3
  refine w_yes 2 5 false (st_not rfl ?_)
  refine w_yes 2 5 false (st_move (v := .bool _) rfl ?_)
  refine w_split (d := 10) rfl (fun g4 => ?_) (fun g4 => ?_)
  ·skip
   try simp only [nm, ne_eq] at g4
   refine w_yes 7 10 true (st_move (v := .int _ _) rfl ?_)
   refine w_yes 7 10 true (st_convInt T.u21 T.u5 rfl ?_)
   refine w_yes 7 10 true (st_call (ags := [_]) rfl rfl T.ent73 rfl (c_digit_n (by omega) _) ?_)
   rintro _ w5 ⟨rfl, c6⟩
   replace HC := HC.then c6
   refine w_yes 7 10 true (st_not rfl ?_)
   refine w_yes 2 5 false (st_pick (b := true) (v := .bool _) rfl rfl ?_)
   refine w_plain rfl (st_pick (b := false) (v := .bool _) rfl rfl ?_)
   refine w_plain rfl (st_assign (v := .bool _) rfl ?_)
   refine wops_nil ?_
   refine then_n ?_
   refine x_ret ?_
   refine ret_tmp (v := .bool _) rfl rfl ?_
   refine ⟨congrArg Value.bool ?_, HC⟩
   unfold notWord
   first | (rw [decide_eq_true (by omega)]; rfl) | (rw [decide_eq_false (by omega)]; simp [wordB, *])
  ·skip
   try simp only [nm, ne_eq] at g4
   refine w_no 7 10 true ?_
   refine w_no 7 10 true ?_
   refine w_no 7 10 true ?_
   refine w_no 7 10 true ?_
   refine w_yes 2 5 false (st_pick (b := false) (v := .bool _) rfl rfl ?_)
   refine w_plain rfl (st_pick (b := false) (v := .bool _) rfl rfl ?_)
   refine w_plain rfl (st_assign (v := .bool _) rfl ?_)
   refine wops_nil ?_
   refine then_n ?_
   refine x_ret ?_
   refine ret_tmp (v := .bool _) rfl rfl ?_
   refine ⟨congrArg Value.bool ?_, HC⟩
   unfold notWord
   first | (rw [decide_eq_true (by omega)]; rfl) | (rw [decide_eq_false (by omega)]; simp [wordB, *])

theorem SIndexFunc_spec (s : Bytes) (w : World) : CallR Tryd.prog 89 #[S s, .func (.func 90) #[] #[]] w fun v w' => v = .int .i64 (Lib.idxFunc notWord true ⟨⟨s⟩⟩) ∧ Chg [] w w' :=
  CallR.of (Any.strings_IndexFunc_grows Tryd.lx15 90 #[] T.ent90 notWord ⟨⟨s⟩⟩ w (fun W x _ _ => Calls.mono (Name1_spec x W) (by rintro e W2 ⟨v, e1, rfl, hc⟩; exact ⟨e1, below_chg hc⟩))) fun e w' ⟨h1, h2⟩ => ⟨_, h1, rfl, chg_below h2⟩
theorem Lib_idx_all (s : Bytes) : decide (Lib.idxFunc notWord true ⟨⟨s⟩⟩ < 0) = s.all wordB := idx_all s s.length 0 (by omega)
theorem nameV_begs {s : Bytes} (h : ¬ s = []) : nameV s = (begB (byte s 0) && s.all wordB) := by
  rw [nameV_eq h]
  cases s with
  | nil => exact absurd rfl h
  | cons c s =>
    show (begB c && s.all wordB) = (begB c && (wordB c && s.all wordB))
    cases hb : begB c with
    | false => rfl
    | true => rw [show wordB c = true by rw [wordB, hb]; rfl]; rfl

theorem CName_spec (s : Bytes) (w : World) : CallR Tryd.prog 71 #[S s] w fun v w' => v = .bool (nameV s) ∧ Chg [] w w' := by
 refine callR_of_wp (args := [_]) Tryd.func71 rfl (Nat.le_of_ble_eq_true rfl) ?_
 have HC : Chg [] w w := .refl _
 refine x_seq ?_
 refine x_region rfl ?_
 refine w_plain rfl (st_assign (v := .bool _) rfl ?_)
 refine wops_nil ?_
 refine then_n ?_
 refine x_seq ?_
 refine x_region rfl ?_
 refine w_plain rfl (st_move (v := S _) rfl ?_)
 refine w_plain rfl (st_sneq rfl rfl ?_)
 refine w_plain rfl (st_move (v := .bool _) rfl ?_)
 refine w_split (d := 5) rfl (fun g1 => ?_) (fun g1 => ?_)
 ·skip
  try simp only [nm, ne_eq] at g1
  have hs0 : 0 < s.length := List.length_pos_iff.2 (by assumption)
  refine w_yes 2 5 true (st_move (v := S _) rfl ?_)
  refine w_yes 2 5 true (st_sidx T.u9 rfl rfl (by omega) (by omega) ?_)
  refine w_yes 2 5 true (st_call (ags := [_]) rfl rfl T.ent88 rfl (c_begins _ _) ?_)
  rintro _ w2 ⟨rfl, c3⟩
  replace HC := HC.then c3
  refine w_plain rfl (st_pick (b := true) (v := .bool _) rfl rfl ?_)
  refine w_plain rfl (st_move (v := .bool _) rfl ?_)
  refine w_split (d := 10) rfl (fun g4 => ?_) (fun g4 => ?_)
  ·skip
   try simp only [nm, ne_eq] at g4
   refine w_yes 7 10 true (st_move (v := S _) rfl ?_)
   refine w_yes 7 10 true (st_call (ags := [_, _]) rfl rfl T.ent89 rfl (SIndexFunc_spec _ _) ?_)
   rintro _ w5 ⟨rfl, c6⟩
   replace HC := HC.then c6
   refine w_yes 7 10 true (st_lss rfl rfl ?_)
   refine w_plain rfl (st_pick (b := true) (v := .bool _) rfl rfl ?_)
   refine w_plain rfl (st_assign (v := .bool _) rfl ?_)
   refine wops_nil ?_
   refine then_n ?_
   refine x_ret ?_
   refine ret_tmp (v := .bool _) rfl rfl ?_
   refine ⟨congrArg Value.bool ?_, HC⟩
   first | (rw [show s = [] by assumption]; rfl) | (rw [nameV_begs (by assumption), ← Lib_idx_all, show begB (byte s 0) = false by assumption]; rfl) | (rw [nameV_begs (by assumption), ← Lib_idx_all, show begB (byte s 0) = true by assumption]; rfl)
  ·skip
   try simp only [nm, ne_eq] at g4
   refine w_no 7 10 true ?_
   refine w_no 7 10 true ?_
   refine w_no 7 10 true ?_
   refine w_plain rfl (st_pick (b := false) (v := .bool _) rfl rfl ?_)
   refine w_plain rfl (st_assign (v := .bool _) rfl ?_)
   refine wops_nil ?_
   refine then_n ?_
   refine x_ret ?_
   refine ret_tmp (v := .bool _) rfl rfl ?_
   refine ⟨congrArg Value.bool ?_, HC⟩
   first | (rw [show s = [] by assumption]; rfl) | (rw [nameV_begs (by assumption), ← Lib_idx_all, show begB (byte s 0) = false by assumption]; rfl) | (rw [nameV_begs (by assumption), ← Lib_idx_all, show begB (byte s 0) = true by assumption]; rfl)
 ·skip
  try simp only [nm, ne_eq] at g1
  refine w_no 2 5 true ?_
  refine w_no 2 5 true ?_
  refine w_no 2 5 true ?_
  refine w_plain rfl (st_pick (b := false) (v := .bool _) rfl rfl ?_)
  refine w_plain rfl (st_move (v := .bool _) rfl ?_)
  refine w_no 7 10 true ?_
  refine w_no 7 10 true ?_
  refine w_no 7 10 true ?_
  refine w_plain rfl (st_pick (b := false) (v := .bool _) rfl rfl ?_)
  refine w_plain rfl (st_assign (v := .bool _) rfl ?_)
  refine wops_nil ?_
  refine then_n ?_
  refine x_ret ?_
  refine ret_tmp (v := .bool _) rfl rfl ?_
  refine ⟨congrArg Value.bool ?_, HC⟩
  first | (rw [show s = [] by assumption]; rfl) | (rw [nameV_begs (by assumption), ← Lib_idx_all, show begB (byte s 0) = false by assumption]; rfl) | (rw [nameV_begs (by assumption), ← Lib_idx_all, show begB (byte s 0) = true by assumption]; rfl)

end Go.Proofs.YtcgcbpknbjafcaaDoor.K
