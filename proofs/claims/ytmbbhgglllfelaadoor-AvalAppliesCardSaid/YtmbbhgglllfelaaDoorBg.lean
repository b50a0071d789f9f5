/- Walks: the document's own tokens. -/
import Derived.Test.YtmbbhgglllfelaaDoorBf
import Derived.Test.YtmbbhgglllfelaaDoorKitM
set_option linter.unusedVariables false
set_option linter.unusedSimpArgs false
set_option autoImplicit false
set_option maxRecDepth 20000
namespace Go.Proofs.YtmbbhgglllfelaaDoor.K
open Go Go.Proofs Go.RowKit

theorem ops_len {o : Bytes} (h : o ∈ opsL) : o.length ≤ 3 := by revert o; decide
def cmb (l : List Tk) (L : List Yd) : List Tk × Int × Int := match L.find? errV with
  | some y => ([], y.2.1, y.2.2)
  | none => (l ++ L.map toTk, 0, 0)
theorem cmb_nil (L : List Yd) : cmb [] L = tokV L := by unfold cmb tokV; cases L.find? errV <;> rfl
theorem cmb_cons {l : List Tk} {y : Yd} {L : List Yd} (h : y.2.2 = 0) : cmb l (y :: L) = cmb (l ++ [toTk y]) L := by
  have : errV y = false := by simp [errV, h]
  unfold cmb
  rw [List.find?_cons, this]
  cases L.find? errV <;> simp
theorem cmb_bad {l : List Tk} {y : Yd} {L : List Yd} (h : ¬ y.2.2 = 0) : cmb l (y :: L) = ([], y.2.1, y.2.2) := by
  have : errV y = true := by simp [errV, h]
  unfold cmb
  rw [List.find?_cons, this]
theorem atV_on {s : Bytes} {i : Nat} (hi : i < s.length) (h : blankB (byte s i) = true) : atV s i = atV s (i + 1) := by
  unfold atV; rw [runN_on hi h]; omega
theorem atV_off {s : Bytes} {i : Nat} (hi : i < s.length) (h : blankB (byte s i) = false) : atV s i = i := by
  unfold atV; rw [runN_off hi h]; rfl
theorem atV_end (s : Bytes) : atV s s.length = s.length := by unfold atV; rw [runN_end (by omega)]; rfl
theorem toksF_blank {s : Bytes} {i k : Nat} (hi : i < s.length) (h : blankB (byte s i) = true) : toksF (k + 1) s i = toksF (k + 1) s (i + 1) := by
  rw [toksF_succ, toksF_succ, atV_on hi h]
theorem toksF_tok {s : Bytes} {i k : Nat} {t : Int × Int × Bytes} {n : Nat} (hi : i < s.length) (h : blankB (byte s i) = false) (hn : nextV (s.drop i) = (t, (n : Int), 0)) (ht : ¬ t.1 = 0) : toksF (k + 1) s i = (t, (i : Int), 0) :: toksF k s (i + n) := by
  have e : yV s i = (t, (i : Int), 0) := by unfold yV; rw [hn]
  rw [toksF_succ, atV_off hi h, e, hn, if_neg (by simp [stopV, ht])]
  rfl
theorem toksF_bad {s : Bytes} {i k : Nat} {t : Int × Int × Bytes} {n e : Int} (hi : i < s.length) (h : blankB (byte s i) = false) (hn : nextV (s.drop i) = (t, n, e)) (he : ¬ e = 0) : toksF (k + 1) s i = [(t, (i : Int), e)] := by
  have e1 : yV s i = (t, (i : Int), e) := by unfold yV; rw [hn]
  rw [toksF_succ, atV_off hi h, e1, if_pos (by simp [stopV, he])]
theorem toksF_end (s : Bytes) (k : Nat) : toksF (k + 1) s s.length = [((0, 0, []), (s.length : Int), 0)] := by
  have e1 : yV s s.length = ((0, 0, []), (s.length : Int), 0) := by unfold yV; rw [List.drop_of_length_le (Nat.le_refl _)]; rfl
  rw [toksF_succ, atV_end, e1, if_pos (by simp [stopV])]
theorem byte_drop (s : Bytes) (i : Nat) : byte (s.drop i) 0 = byte s i := by simp [byte, List.getD_eq_getElem?_getD]
theorem drop_ne {s : Bytes} {i : Nat} (h : i < s.length) : s.drop i ≠ [] := by intro e; have := congrArg List.length e; simp at this; omega
theorem next_num {s : Bytes} {i : Nat} {W : Bytes} (hi : i < s.length) (hd : digB (byte s i) = true) (hW : W = (s.drop i).take (runN wordB (s.drop i))) (hc : (constV W).2 = true) : nextV (s.drop i) = ((1, (constV W).1, []), ((runN wordB (s.drop i) : Nat) : Int), 0) := by
  subst hW; unfold nextV; rw [if_neg (drop_ne hi), byte_drop, if_pos hd, if_pos hc]
theorem next_bad {s : Bytes} {i : Nat} {W : Bytes} (hi : i < s.length) (hd : digB (byte s i) = true) (hW : W = (s.drop i).take (runN wordB (s.drop i))) (hc : (constV W).2 = false) : nextV (s.drop i) = ((0, 0, []), 0, 102) := by
  subst hW; unfold nextV; rw [if_neg (drop_ne hi), byte_drop, if_pos hd, if_neg (by simp [hc])]
theorem next_name {s : Bytes} {i : Nat} {W : Bytes} (hi : i < s.length) (hd : digB (byte s i) = false) (hb : begB (byte s i) = true) (hW : W = (s.drop i).take (runN wordB (s.drop i))) : nextV (s.drop i) = ((2, 0, W), ((runN wordB (s.drop i) : Nat) : Int), 0) := by
  subst hW; unfold nextV; rw [if_neg (drop_ne hi), byte_drop, if_neg (by simp [hd]), if_pos (by rw [runN_on hi (by simp [wordB, hb])]; omega)]
theorem find_findN {q : Bytes → Bool} : ∀ (l : List Bytes) (i : Nat), (l.find? q = none → findN q i l = -1) ∧ ∀ x, l.find? q = some x → ∃ j : Nat, findN q i l = ((i + j : Nat) : Int) ∧ l[j]? = some x
  | [], i => by simp [findN]
  | y :: l, i => by
    have ih := find_findN (q := q) l (i + 1)
    rw [List.find?_cons]
    unfold findN
    cases hq : q y with
    | true => simp only [if_true]; exact ⟨fun h => (by cases h), fun x hx => ⟨0, rfl, by simpa using hx⟩⟩
    | false =>
      simp only [if_false, Bool.false_eq_true]
      refine ⟨ih.1, fun x hx => ?_⟩
      obtain ⟨j, h1, h2⟩ := ih.2 x hx
      exact ⟨j + 1, by rw [h1]; omega, by simpa using h2⟩
theorem next_op {s : Bytes} {i : Nat} (hi : i < s.length) (hd : digB (byte s i) = false) (hb : begB (byte s i) = false) (ho : ¬ opV (s.drop i) = []) : nextV (s.drop i) = ((3, 0, opV (s.drop i)), (((opV (s.drop i)).length : Nat) : Int), 0) := by
  unfold nextV; rw [if_neg (drop_ne hi), byte_drop, if_neg (by simp [hd]), if_neg (by rw [show runN wordB (s.drop i) = 0 from runN_off hi (by simp [wordB, hb, hd])]; omega)]
  have hf := find_findN (q := Lib.hasPrefix (s.drop i)) opsL 0
  cases hx : opsL.find? (Lib.hasPrefix (s.drop i)) with
  | none => exact absurd (by unfold opV; rw [hx]; rfl) ho
  | some x =>
    obtain ⟨j, h1, h2⟩ := hf.2 x hx
    have e : opV (s.drop i) = x := by unfold opV; rw [hx]; rfl
    rw [h1, if_neg (by omega), e, Nat.zero_add, Int.toNat_natCast, List.getD_eq_getElem?_getD, h2]
    rfl
theorem next_none {s : Bytes} {i : Nat} (hi : i < s.length) (hd : digB (byte s i) = false) (hb : begB (byte s i) = false) (ho : opV (s.drop i) = []) : nextV (s.drop i) = ((0, 0, []), 0, 101) := by
  unfold nextV; rw [if_neg (drop_ne hi), byte_drop, if_neg (by simp [hd]), if_neg (by rw [show runN wordB (s.drop i) = 0 from runN_off hi (by simp [wordB, hb, hd])]; omega)]
  have hf := find_findN (q := Lib.hasPrefix (s.drop i)) opsL 0
  cases hx : opsL.find? (Lib.hasPrefix (s.drop i)) with
  | none => rw [hf.1 hx]; rfl
  | some x =>
    have e : opV (s.drop i) = x := by unfold opV; rw [hx]; rfl
    have := ops_pos x (List.mem_of_find?_eq_some hx)
    rw [← e, ho] at this; cases this

theorem opV_le (s : Bytes) (i : Nat) : (opV (s.drop i)).length ≤ s.length - i := by
  unfold opV
  cases hx : opsL.find? (Lib.hasPrefix (s.drop i)) with
  | none => exact Nat.zero_le _
  | some x =>
    have := pre_len (List.find?_some hx)
    rw [List.length_drop] at this; exact this




def nameV (s : Bytes) : Bool := match s with
  | [] => false
  | c :: s => begB c && s.all wordB
theorem all_off {s : Bytes} {i : Nat} (h : i < s.length) (hb : wordB (byte s i) = false) : (s.drop i).all wordB = false := by
  rw [drop_byte h, List.all_cons, hb, Bool.false_and]
theorem all_on {s : Bytes} {i : Nat} (h : i < s.length) (hb : wordB (byte s i) = true) : (s.drop i).all wordB = (s.drop (i + 1)).all wordB := by
  rw [drop_byte h, List.all_cons, hb, Bool.true_and]
theorem nameV_eq {s : Bytes} (h : ¬ s = []) : nameV s = (begB (byte s 0) && (s.drop 1).all wordB) := by
  cases s with
  | nil => exact absurd rfl h
  | cons c s => rfl


end Go.Proofs.YtmbbhgglllfelaaDoor.K
