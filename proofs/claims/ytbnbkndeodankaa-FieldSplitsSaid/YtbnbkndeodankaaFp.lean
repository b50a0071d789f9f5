/- Walks. -/
import Derived.Test.YtbnbkndeodankaaFa
set_option linter.unusedVariables false
set_option linter.unusedSimpArgs false
set_option autoImplicit false
set_option maxRecDepth 20000
namespace Go.Proofs.Ytbnbkndeodankaa.K
open Go Go.Proofs Go.RowKit

def Sp.new : Sp := ⟨⟨[], []⟩, false, false, []⟩
def Sp.results (ifs : Bytes) (x : Sp) (ts : List Bytes) : Sp := ts.foldl (fun x t => x.result t ifs) x
def Sp.piece (ifs : Bytes) (x : Sp) (p : Piece) : Sp :=
  if p.kind = 3 then { (if x.begun then x.tell else x) with white := false }
  else if p.kind = 2 then x.results ifs (cutL ifs [] p.text)
  else if p.kind = 1 ∨ ¬ p.text = [] then x.put p.text (if p.kind = 1 then 49 else 48) else x
def spx (ifs : Bytes) (l : List Piece) : Sp := l.foldl (Sp.piece ifs) .new
def Sp.fin (x : Sp) : Sp := if x.begun then x.tell else x
def splitL (l : List Piece) (ifs : Bytes) : List Fld := (spx ifs l).fin.out
def bulkP : List Piece → Nat
  | [] => 0
  | p :: l => p.text.length + 1 + bulkP l
def bytesL : List Bytes → Nat
  | [] => 0
  | t :: l => t.length + bytesL l
def Sp.big (x : Sp) : Nat := x.out.length + x.f.text.length
def Sp.ok (m : Nat) (x : Sp) : Prop := x.out.length + x.f.text.length ≤ m ∧ x.f.quoted.length = x.f.text.length
theorem ok_tell {m : Nat} {x : Sp} (h : x.ok m) : x.tell.ok (m + 1) := by
  obtain ⟨h1, h2⟩ := h; constructor <;> simp [Sp.tell] <;> omega
theorem ok_put {m : Nat} {x : Sp} (h : x.ok m) (t : Bytes) (q : UInt8) : (x.put t q).ok (m + t.length) := by
  obtain ⟨h1, h2⟩ := h; constructor <;> simp [Sp.put] <;> omega
theorem ok_mono {m k : Nat} {x : Sp} (h : x.ok m) (hk : m ≤ k) : x.ok k := ⟨Nat.le_trans h.1 hk, h.2⟩
theorem ok_result {m : Nat} {x : Sp} (h : x.ok m) {t : Bytes} (ifs : Bytes) (ht : t ≠ []) : (x.result t ifs).ok (m + t.length) := by
  have hp : 0 < t.length := List.length_pos_iff.2 ht
  unfold Sp.result
  split
  · exact ok_put h t _
  · split
    · show Sp.ok _ _
      by_cases hw : x.white = true
      · rw [if_pos hw]; exact ok_mono h (by omega)
      · rw [if_neg hw]; exact ok_mono (ok_tell h) (by omega)
    · split
      · exact ok_mono (ok_tell h) (by omega)
      · exact ok_mono h (by omega)
theorem ok_results {m : Nat} {x : Sp} (h : x.ok m) (ifs : Bytes) : ∀ {ts : List Bytes}, (∀ t, t ∈ ts → t ≠ []) → (x.results ifs ts).ok (m + bytesL ts) := by
  intro ts
  induction ts generalizing m x with
  | nil => intro _; exact h
  | cons t ts ih =>
    intro ht
    have := ih (ok_result h ifs (ht t (by simp))) (fun u hu => ht u (by simp [hu]))
    exact ok_mono this (by simp only [bytesL]; omega)
theorem bytesL_append (a b : List Bytes) : bytesL (a ++ b) = bytesL a + bytesL b := by induction a <;> simp_all [bytesL, Nat.add_assoc]
theorem cutL_bytes (ifs : Bytes) : ∀ (t acc : Bytes), bytesL (cutL ifs acc t) = acc.length + t.length
  | [], acc => by unfold cutL; split <;> simp_all [bytesL]
  | c :: t, acc => by
    unfold cutL
    split
    · rw [cutL_bytes ifs t]; simp; omega
    · rw [bytesL_append, bytesL, cutL_bytes ifs t]
      split <;> simp_all [bytesL] <;> omega
theorem cutL_ne (ifs : Bytes) : ∀ (t acc : Bytes), ∀ u, u ∈ cutL ifs acc t → u ≠ []
  | [], acc => by unfold cutL; split <;> simp_all
  | c :: t, acc => by
    intro u hu
    unfold cutL at hu
    split at hu
    · exact cutL_ne ifs t _ u hu
    · rcases List.mem_append.1 hu with h | h
      · split at h <;> simp_all
      · rcases List.mem_cons.1 h with h | h
        · subst h; simp
        · exact cutL_ne ifs t _ u h
theorem ok_piece {m : Nat} {x : Sp} (h : x.ok m) (ifs : Bytes) (p : Piece) : (x.piece ifs p).ok (m + (p.text.length + 1)) := by
  unfold Sp.piece
  split
  · by_cases hb : x.begun = true
    · rw [if_pos hb]; exact ok_mono (ok_tell h) (by omega)
    · rw [if_neg hb]; exact ok_mono h (by omega)
  · split
    · exact ok_mono (ok_results h ifs (cutL_ne ifs _ _)) (by rw [cutL_bytes]; simp)
    · split
      · exact ok_mono (ok_put h _ _) (by omega)
      · exact ok_mono h (by omega)
theorem ok_pieces {m : Nat} {x : Sp} (h : x.ok m) (ifs : Bytes) : ∀ (l : List Piece), (l.foldl (Sp.piece ifs) x).ok (m + bulkP l) := by
  intro l
  induction l generalizing m x with
  | nil => exact h
  | cons p l ih => exact ok_mono (ih (ok_piece h ifs p)) (by simp only [bulkP]; omega)
theorem ok_spx (ifs : Bytes) (l : List Piece) : (spx ifs l).ok (bulkP l) := by
  have := ok_pieces (m := 0) (x := .new) ⟨by simp [Sp.new], by simp [Sp.new]⟩ ifs l
  rw [Nat.zero_add] at this; exact this
theorem bulkP_append (a b : List Piece) : bulkP (a ++ b) = bulkP a + bulkP b := by induction a <;> simp_all [bulkP, Nat.add_assoc]
theorem bulkP_take (l : List Piece) (i : Nat) : bulkP (l.take i) ≤ bulkP l := by
  have := bulkP_append (l.take i) (l.drop i); rw [List.take_append_drop] at this; omega
theorem bulkP_at {l : List Piece} {i : Nat} {p : Piece} (h : l[i]? = some p) : bulkP (l.take i) + (p.text.length + 1) ≤ bulkP l := by
  have h1 := bulkP_take l (i + 1)
  rw [List.take_add_one, bulkP_append, h] at h1
  simpa [bulkP] using h1
theorem len_bulkP : ∀ l : List Piece, l.length ≤ bulkP l
  | [] => by simp [bulkP]
  | p :: l => by have := len_bulkP l; simp only [List.length_cons, bulkP]; omega
theorem spx_step {ifs : Bytes} {l : List Piece} {i : Nat} {p : Piece} (h : l[i]? = some p) : spx ifs (l.take (i + 1)) = (spx ifs (l.take i)).piece ifs p := by
  simp [spx, List.take_add_one, h, List.foldl_append]

end Go.Proofs.Ytbnbkndeodankaa.K
