/- The library's functions that this chapter calls, by the shelf's contracts, in the walk's form; bytes. -/
import Derived.Test.YtmbbhgglllfelaaDoorKitK
import Derived.Test.YtmbbhgglllfelaaDoorShelf
import Derived.Lib.IndexAny
import Derived.Lib.IndexLaws
import Derived.Lib.LaidTab
import Derived.Lib.Space
set_option linter.unusedVariables false
set_option linter.unusedSimpArgs false
set_option autoImplicit false
namespace Go.Proofs.YtmbbhgglllfelaaDoor.K
open Go Go.Proofs Go.RowKit
/-- The first place of a byte, or -1. -/
def idx (s : Bytes) (c : UInt8) : Int := Lib.indexByte s c
theorem IndexByte_spec (s : Bytes) (c : UInt8) (w : World) : CallR Tryd.prog 36 #[S s, .int .u8 (c.toNat : Int)] w fun v w' => v = .int .i64 (idx s c) ∧ Chg [] w w' :=
  CallR.of (Tryd.strings_IndexByte ⟨⟨s⟩⟩ (c.toNat : Int) w) fun e w' ⟨h1, h2⟩ => ⟨_, h1, by simp [idx], .refl' h2⟩
theorem wrap_u8 (x : Int) : IntKind.u8.wrap x = x % 256 := by simp [IntKind.wrap, IntKind.signed, IntKind.bits]
def digB (c : UInt8) : Bool := decide (48 ≤ c.toNat ∧ c.toNat ≤ 57)
def upB (c : UInt8) : Bool := decide (65 ≤ c.toNat ∧ c.toNat ≤ 90)
def loB (c : UInt8) : Bool := decide (97 ≤ c.toNat ∧ c.toNat ≤ 122)
def alphaB (c : UInt8) : Bool := upB c || loB c
def begB (c : UInt8) : Bool := alphaB c || decide (c.toNat = 95)
def wordB (c : UInt8) : Bool := begB c || digB c
def blankB (c : UInt8) : Bool := decide (c.toNat = 32) || decide (c.toNat = 9) || decide (c.toNat = 10)
def lowB (c : UInt8) : UInt8 := if 65 ≤ c.toNat ∧ c.toNat ≤ 90 then c + 32 else c
/-- How many first bytes are as told. -/
def runN (p : UInt8 → Bool) : Bytes → Nat
  | [] => 0
  | c :: s => if p c = true then runN p s + 1 else 0
theorem drop_byte {t : Bytes} {i : Nat} (h : i < t.length) : t.drop i = byte t i :: t.drop (i + 1) := by
  rw [List.drop_eq_getElem_cons h]; simp [byte, h]
theorem take_byte {t : Bytes} {i j : Nat} (h : i < t.length) (hj : j ≤ i) : (t.take (i + 1)).drop j = (t.take i).drop j ++ [byte t i] := by
  rw [List.take_add_one, List.drop_append_of_le_length (by simp; omega)]; simp [byte, h]
theorem runN_on {p : UInt8 → Bool} {s : Bytes} {n : Nat} (h : n < s.length) (hp : p (byte s n) = true) : runN p (s.drop n) = runN p (s.drop (n + 1)) + 1 := by
  rw [drop_byte h, runN, if_pos hp]
theorem runN_off {p : UInt8 → Bool} {s : Bytes} {n : Nat} (h : n < s.length) (hp : p (byte s n) = false) : runN p (s.drop n) = 0 := by
  rw [drop_byte h, runN, if_neg (by simp [hp])]
theorem runN_end {p : UInt8 → Bool} {s : Bytes} {n : Nat} (h : ¬ n < s.length) : runN p (s.drop n) = 0 := by
  rw [List.drop_of_length_le (by omega)]; rfl
theorem runN_le (p : UInt8 → Bool) : ∀ s : Bytes, runN p s ≤ s.length
  | [] => Nat.le_refl _
  | c :: s => by
    have := runN_le p s
    simp only [runN, List.length_cons]; split <;> omega
theorem byte_at {t : Bytes} {i : Nat} {x : UInt8} (h : t[i]? = some x) : x = byte t i := by simp [byte, List.getD_eq_getElem?_getD, h]
theorem idx_le (s : Bytes) (c : UInt8) : idx s c < s.length ∨ idx s c = -1 := by
  by_cases h : 0 ≤ idx s c
  · have h1 := Lib.indexByte_some (l := s) (c := c) (o := (idx s c).toNat) (by show idx s c = _; omega)
    have := (List.getElem?_eq_some_iff.1 h1.1).1
    exact .inl (by omega)
  · have := Lib.indexByte_ge s c
    exact .inr (by unfold idx at *; omega)
theorem HasPrefix_spec (s p : Bytes) (w : World) : CallR Tryd.prog 35 #[S s, S p] w fun v w' => v = .bool (Lib.hasPrefix s p) ∧ Chg [] w w' :=
  CallR.of (Tryd.strings_HasPrefix ⟨⟨s⟩⟩ ⟨⟨p⟩⟩ w) fun e w' ⟨h1, h2⟩ => ⟨_, h1, rfl, .refl' h2⟩
/-- A number's digits, read: none: a byte is no digit, or it is too great. -/
def digV (c : UInt8) : Int := idx [48, 49, 50, 51, 52, 53, 54, 55, 56, 57, 97, 98, 99, 100, 101, 102] (lowB c)
def readN (base : Int) : Int → Bytes → Option Int
  | n, [] => some n
  | n, c :: s => if digV c < 0 ∨ base ≤ digV c ∨ (9223372036854775807 - digV c).tdiv base < n then none else readN base (n * base + digV c) s
theorem digV_lt (c : UInt8) : -1 ≤ digV c ∧ digV c < 16 := by
  have h1 := Lib.indexByte_ge [48, 49, 50, 51, 52, 53, 54, 55, 56, 57, 97, 98, 99, 100, 101, 102] (lowB c)
  have h2 := idx_le [48, 49, 50, 51, 52, 53, 54, 55, 56, 57, 97, 98, 99, 100, 101, 102] (lowB c)
  simp only [List.length_cons, List.length_nil] at h2
  unfold digV
  unfold idx at *
  omega
theorem pre_len {s p : Bytes} (h : Lib.hasPrefix s p = true) : p.length ≤ s.length := by
  rw [← Lib.hasPrefix_of_take, Bool.and_eq_true, decide_eq_true_eq] at h; exact h.1
def constB (s : Bytes) : Int × Bytes :=
  if (Lib.hasPrefix s [48, 120] || Lib.hasPrefix s [48, 88]) = true then (16, s.drop 2)
  else if (Lib.hasPrefix s [48] && decide (1 < s.length)) = true then (8, s.drop 1) else (10, s)
def constV (s : Bytes) : Int × Bool := match readN (constB s).1 0 (constB s).2 with
  | none => (0, false)
  | some n => (n, !decide ((constB s).2 = []))
theorem constV_none {s t : Bytes} {b : Int} (h : constB s = (b, t)) (hr : readN b 0 t = none) : constV s = (0, false) := by simp [constV, h, hr]
theorem constV_some {s t : Bytes} {b n : Int} (h : constB s = (b, t)) (hr : readN b 0 t = some n) : constV s = (n, !decide (t = [])) := by simp [constV, h, hr]
theorem readN_at {b n : Int} {t : Bytes} {i : Nat} (h : i < t.length) (h1 : ¬ (digV (byte t i) < 0 ∨ b ≤ digV (byte t i) ∨ (9223372036854775807 - digV (byte t i)).tdiv b < n)) : readN b n (t.drop i) = readN b (n * b + digV (byte t i)) (t.drop (i + 1)) := by
  rw [drop_byte h, readN, if_neg h1]
theorem readN_no {b n : Int} {t : Bytes} {i : Nat} (h : i < t.length) (h1 : digV (byte t i) < 0 ∨ b ≤ digV (byte t i) ∨ (9223372036854775807 - digV (byte t i)).tdiv b < n) : readN b n (t.drop i) = none := by
  rw [drop_byte h, readN, if_pos h1]
theorem readN_end {b n : Int} {t : Bytes} {i : Nat} (h : ¬ i < t.length) : readN b n (t.drop i) = some n := by
  rw [List.drop_of_length_le (by omega)]; rfl
theorem all128 (s : Bytes) (h : (s.all fun b => Nat.blt b.toNat 128) = true) : ∀ (j : Nat) (b : UInt8), s[j]? = some b → b.toNat < 128 := fun j b hj => by
  have := List.all_eq_true.1 h b (List.mem_of_getElem? hj)
  simpa [Nat.blt_eq] using this
/-- The first place at which q holds, counted from i; or -1. -/
def findN (q : Bytes → Bool) : Nat → List Bytes → Int
  | _, [] => -1
  | i, x :: l => if q x = true then (i : Int) else findN q (i + 1) l
theorem drop_at {l : List Bytes} {i : Nat} {x : Bytes} (h : l[i]? = some x) : l.drop i = x :: l.drop (i + 1) := by
  obtain ⟨hi, he⟩ := List.getElem?_eq_some_iff.1 h
  rw [List.drop_eq_getElem_cons hi, he]
theorem findN_on {q : Bytes → Bool} {l : List Bytes} {i : Nat} {x : Bytes} (h : l[i]? = some x) (hq : q x = false) : findN q i (l.drop i) = findN q (i + 1) (l.drop (i + 1)) := by
  rw [drop_at h, findN, if_neg (by simp [hq])]
theorem findN_off {q : Bytes → Bool} {l : List Bytes} {i : Nat} {x : Bytes} (h : l[i]? = some x) (hq : q x = true) : findN q i (l.drop i) = i := by
  rw [drop_at h, findN, if_pos hq]
theorem findN_end {q : Bytes → Bool} {l : List Bytes} {i : Nat} (h : ¬ i < l.length) : findN q i (l.drop i) = -1 := by
  rw [List.drop_of_length_le (by omega)]; rfl
/-- The library's table of blanks. -/
def Tab (w : World) : Prop := Lib.TabIs Tryd.prog w "strings.asciiSpace" .u8 Lib.asciiSpaceTab
theorem gTab : Tryd.prog.globalNamed "strings.asciiSpace" = some 1 := by kernel_rfl
theorem Tab.lt {w : World} (h : Tab w) : 1 < w.heap.size := by
  have := Lib.TabIs.cell h gTab 0 (by simp [Lib.asciiSpaceTab])
  unfold World.cell? at this
  split at this
  · rename_i hh; exact (Array.getElem?_eq_some_iff.1 hh).1
  · cases this
theorem Tab.tr {w w' : World} {bs : List Nat} (h : Tab w) (hc : Chg bs w w') (hb : 1 ∉ bs) : Tab w' := by
  have he := hc.block 1 h.lt hb
  unfold Tab Lib.TabIs World.var? at *
  simp only [gTab, Option.bind_some] at *
  rw [he]; exact h
theorem Tab.tr0 {w w' : World} (h : Tab w) (hc : Chg [] w w') : Tab w' := h.tr hc (by simp)
theorem sl_of_map {w : World} {b : Nat} {xs : List Bytes} {T : TypeId} (h : Blk w b (xs.map S) T) : Sl sE w (fun k => k = b) (some ⟨b, 0, none⟩) xs :=
  .inr ⟨b, 0, rfl, h.lt, rfl, fun i x hx => ⟨_, rfl, fun j v hj => by
    cases j with
    | succ j => simp at hj
    | zero =>
      simp at hj; subst hj
      refine h.cell ?_
      rw [nthV_eq]
      simp [sE, Enc.flat, hx]⟩⟩
theorem Fields_spec (s : Bytes) (w : World) (hs : s.length < 4294967281) (ha : ∀ (j : Nat) (b : UInt8), s[j]? = some b → b.toNat < 128) (ht : Tab w) :
    CallR Tryd.prog 65 #[S s] w fun v w' => ∃ b, v = .slice (some ⟨b, 0, none⟩) (Lib.fields s).length (Lib.fields s).length ∧ w.heap.size ≤ b ∧ Sl sE w' (fun k => k = b) (some ⟨b, 0, none⟩) (Lib.fields s) ∧ Chg [] w w' :=
  CallR.of (Tryd.strings_Fields ⟨⟨s⟩⟩ w hs ha ht) fun e w' ⟨h1, h2⟩ => ⟨_, h1, w.heap.size, rfl, Nat.le_refl _, by
    subst h2
    exact sl_of_map (T := 9) (Blk.new w _ _), by subst h2; exact Chg.alloc w _⟩
end Go.Proofs.YtmbbhgglllfelaaDoor.K
