/- Pieces without substitutions and breaks are one field, or none; with no separators substitutions are plain. -/
import Derived.Test.YtbnbkndeodankaaFj
set_option linter.unusedVariables false
set_option linter.unusedSimpArgs false
set_option autoImplicit false
namespace Go.Proofs.Ytbnbkndeodankaa.K
open Go Go.RowKit
def plainQ (p : Piece) : Bool := !(decide (p.kind = 3) || decide (p.kind = 2))
def plainL (l : List Piece) : List Piece := l.filter plainQ
def otherP (p : Piece) : Piece := if p.kind = 2 then ⟨0, p.text⟩ else p
def othersL (l : List Piece) : List Piece := l.map otherP
def begQ (p : Piece) : Bool := decide (p.kind = 1) || !decide (p.text = [])
def begB (l : List Piece) : Bool := (plainL l).any begQ
section
variable {l : List Piece} {i : Nat} {p : Piece}
theorem plain_step (h : l[i]? = some p) (hq : plainQ p = true) : plainL (l.take (i + 1)) = plainL (l.take i) ++ [p] := by
  rw [List.take_add_one, h, plainL, List.filter_append]; simp [hq, plainL]
theorem plain_skip (h : l[i]? = some p) (hq : plainQ p = false) : plainL (l.take (i + 1)) = plainL (l.take i) := by
  rw [List.take_add_one, h, plainL, List.filter_append]; simp [hq, plainL]
theorem others_step (h : l[i]? = some p) : othersL (l.take (i + 1)) = othersL (l.take i) ++ [otherP p] := by
  rw [List.take_add_one, h]; simp [othersL]
theorem beg_step (h : l[i]? = some p) (hq : plainQ p = true) : begB (l.take (i + 1)) = (begB (l.take i) || (decide (p.kind = 1) || !decide (p.text = []))) := by
  rw [begB, plain_step h hq, List.any_append]; simp [begB, begQ]
theorem beg_skip (h : l[i]? = some p) (hq : plainQ p = false) : begB (l.take (i + 1)) = begB (l.take i) := by
  rw [begB, plain_skip h hq]; rfl
end
theorem bulk_plain : ∀ l : List Piece, bulkP (plainL l) ≤ bulkP l
  | [] => Nat.le_refl _
  | p :: l => by
    have := bulk_plain l
    simp only [plainL, List.filter_cons] at this ⊢
    split <;> simp only [bulkP] <;> omega
theorem bulk_others : ∀ l : List Piece, bulkP (othersL l) = bulkP l
  | [] => rfl
  | p :: l => by
    have := bulk_others l
    have h : (otherP p).text = p.text := by unfold otherP; split <;> rfl
    simp only [othersL, List.map_cons, bulkP, h] at this ⊢; omega
theorem plain_all (l : List Piece) : ∀ p, p ∈ plainL l → p.kind ≠ 3 ∧ p.kind ≠ 2 := by
  intro p hp
  have := (List.mem_filter.1 hp).2
  simpa [plainQ] using this
theorem len_plain (l : List Piece) : (plainL l).length ≤ l.length := List.length_filter_le _ _
theorem jp_plain {p : Piece} (h : p.kind ≠ 3) : jp p = p := by unfold jp; rw [if_neg h]
/-- The splitter over plain pieces. -/
theorem spx_plain (ifs : Bytes) : ∀ (l : List Piece) (x : Sp), (∀ p, p ∈ l → p.kind ≠ 3 ∧ p.kind ≠ 2) →
    ∃ w, l.foldl (Sp.piece ifs) x = { f := ⟨x.f.text ++ jT l, x.f.quoted ++ jQ l⟩, begun := x.begun || l.any begQ, white := w, out := x.out }
  | [], x, _ => ⟨x.white, by simp [jT, jQ]⟩
  | p :: l, x, h => by
    obtain ⟨h3, h2⟩ := h p (by simp)
    have hj := jp_plain h3
    have ih := fun x => spx_plain ifs l x (fun q hq => h q (by simp [hq]))
    have hT : jT (p :: l) = p.text ++ jT l := by simp [jT, hj]
    have hQ : jQ (p :: l) = List.replicate p.text.length (if p.kind = 1 then (49 : UInt8) else 48) ++ jQ l := by simp [jQ, hj]
    simp only [List.foldl_cons, Sp.piece]
    rw [if_neg h3, if_neg h2, hT, hQ]
    split
    · rename_i hb
      obtain ⟨w, hw⟩ := ih (x.put p.text (if p.kind = 1 then 49 else 48))
      have hbq : begQ p = true := by unfold begQ; rcases hb with hb | hb <;> simp [hb]
      exact ⟨w, by rw [hw]; simp [Sp.put, hbq]⟩
    · rename_i hb
      have ht : p.text = [] := by cases hh : p.text with | nil => rfl | cons a t => exact absurd (.inr (by rw [hh]; simp)) hb
      have hk : ¬ p.kind = 1 := fun h => hb (.inl h)
      obtain ⟨w, hw⟩ := ih x
      have hbq : begQ p = false := by simp [begQ, hk, ht]
      exact ⟨w, by rw [hw]; simp [ht, hbq]⟩
theorem plain_law (ifs : Bytes) (l : List Piece) : splitL (plainL l) ifs = if begB l = true then [⟨jT (plainL l), jQ (plainL l)⟩] else [] := by
  obtain ⟨w, hw⟩ := spx_plain ifs (plainL l) .new (plain_all l)
  unfold splitL spx
  rw [hw]
  simp only [Sp.fin, Sp.new, Bool.false_or, List.nil_append]
  show _ = if (plainL l).any begQ = true then _ else _
  split <;> simp [Sp.tell]
theorem idx_nil (c : UInt8) : idx [] c < 0 := by rw [idx_neg]; rfl
theorem cut_nil : ∀ (t acc : Bytes), cutL [] acc t = if acc ++ t = [] then [] else [acc ++ t]
  | [], acc => by simp [cutL]
  | c :: t, acc => by
    unfold cutL
    rw [if_pos (idx_nil c), cut_nil t]; simp
theorem others_piece (ifs : Bytes) (x : Sp) (p : Piece) : x.piece [] p = x.piece ifs (otherP p) := by
  unfold otherP
  by_cases h2 : p.kind = 2
  · rw [if_pos h2]
    unfold Sp.piece
    rw [if_neg (by rw [h2]; decide), if_pos h2, if_neg (by simp), if_neg (by simp), cut_nil]
    by_cases ht : p.text = []
    · simp [ht, Sp.results]
    · simp only [List.nil_append]
      rw [if_neg ht, if_pos (.inr ht)]
      simp [Sp.results, Sp.result, idx_nil]
  · rw [if_neg h2]
    unfold Sp.piece
    rw [if_neg h2, if_neg h2]
theorem others_law (ifs : Bytes) (l : List Piece) : splitL l [] = splitL (othersL l) ifs := by
  unfold splitL spx
  have : ∀ (l : List Piece) (x : Sp), l.foldl (Sp.piece []) x = (othersL l).foldl (Sp.piece ifs) x := by
    intro l
    induction l with
    | nil => intro x; rfl
    | cons p l ih => intro x; simp only [List.foldl_cons, othersL, List.map_cons]; rw [others_piece ifs x p]; exact ih _
  rw [this]
end Go.Proofs.Ytbnbkndeodankaa.K
