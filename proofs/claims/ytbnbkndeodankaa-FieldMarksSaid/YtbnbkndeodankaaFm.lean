/- A text in a substitution, with one mark that is no blank, is cut at each mark. -/
import Derived.Test.YtbnbkndeodankaaFw
set_option linter.unusedVariables false
set_option linter.unusedSimpArgs false
set_option autoImplicit false
namespace Go.Proofs.Ytbnbkndeodankaa.K
open Go Go.RowKit
def cutM (m : UInt8) : Bytes → Bytes → List Bytes
  | acc, [] => if acc = [] then [] else [acc]
  | acc, c :: r => if c = m then acc :: cutM m [] r else cutM m (acc ++ [c]) r
theorem idx_one {m c : UInt8} : idx [m] c < 0 ↔ c ≠ m := by
  rw [idx_neg]; simp
theorem idx_blank {m : UInt8} (h1 : m ≠ 32) (h2 : m ≠ 9) (h3 : m ≠ 10) : idx [32, 9, 10] m < 0 := by
  rw [idx_neg]; simp [h1, h2, h3]
section
variable {m : UInt8}
/-- What stands at a field's beginning. -/
structure Sp.at0 (x : Sp) : Prop where
  text : x.f.text = []
  begun : x.begun = false
  white : x.white = false
theorem res_put {x : Sp} {acc : Bytes} (hn : acc ≠ []) (ha : ∀ c, c ∈ acc → c ≠ m) : x.result acc [m] = x.put acc 48 := by
  unfold Sp.result
  rw [if_pos]
  refine idx_one.2 (ha _ ?_)
  cases acc with
  | nil => exact absurd rfl hn
  | cons a r => simp [byte]
theorem res_mark {x : Sp} (hw : x.white = false) (hb : idx [32, 9, 10] m < 0) : x.result [m] [m] = { x.tell with white := false } := by
  unfold Sp.result
  rw [if_neg (by rw [idx_one]; simp [byte]), if_pos (by simpa [byte] using hb), if_neg (by simp [hw])]
theorem marks_gen (hb : idx [32, 9, 10] m < 0) : ∀ (s acc : Bytes) (x : Sp), x.at0 → (∀ c, c ∈ acc → c ≠ m) → ((x.results [m] (cutL [m] acc s)).fin.out.map (·.text)) = x.out.map (·.text) ++ cutM m acc s
  | [], acc, x, h0, ha => by
    unfold cutL cutM
    by_cases hn : acc = []
    · rw [if_pos hn]; simp [Sp.results, Sp.fin, h0.begun]
    · rw [if_neg hn]
      simp only [Sp.results, List.foldl_cons, List.foldl_nil]
      rw [res_put hn ha]
      simp [Sp.fin, Sp.put, Sp.tell, h0.text]
  | c :: s, acc, x, h0, ha => by
    unfold cutL cutM
    by_cases hc : c = m
    · rw [hc, if_neg (by rw [idx_one]; simp), if_pos rfl]
      by_cases hn : acc = []
      · subst hn
        simp only [if_true, List.nil_append, Sp.results, List.foldl_cons]
        rw [res_mark h0.white hb]
        have := marks_gen hb s [] { x.tell with white := false } ⟨rfl, rfl, rfl⟩ (by simp)
        simp only [Sp.results] at this
        rw [this]; simp [Sp.tell, h0.text]
      · rw [if_neg hn]
        simp only [Sp.results, List.foldl_append, List.foldl_cons, List.foldl_nil]
        rw [res_put hn ha, res_mark (by rfl) hb]
        have := marks_gen hb s [] { (x.put acc 48).tell with white := false } ⟨rfl, rfl, rfl⟩ (by simp)
        simp only [Sp.results] at this
        rw [this]; simp [Sp.tell, Sp.put, h0.text]
    · rw [if_pos (idx_one.2 hc), if_neg hc]
      exact marks_gen hb s (acc ++ [c]) x h0 (fun d hd => by rcases List.mem_append.1 hd with h | h; exact ha d h; simp at h; subst h; exact hc)
end
theorem marks_law {m : UInt8} (h1 : m ≠ 32) (h2 : m ≠ 9) (h3 : m ≠ 10) (s : Bytes) : (splitL [⟨2, s⟩] [m]).map (·.text) = cutM m [] s := by
  have := marks_gen (idx_blank h1 h2 h3) s [] .new ⟨rfl, rfl, rfl⟩ (by simp)
  simpa [splitL, spx, Sp.piece, Sp.new] using this
section
variable {m : UInt8} {s : Bytes} {L ws : List Bytes} {i a : Nat}
theorem mark_on (hi : i < s.length) (ha : a ≤ i) (h : ws ++ cutM m ((s.take i).drop a) (s.drop i) = L) (hn : ¬ byte s i = m) : ws ++ cutM m ((s.take (i + 1)).drop a) (s.drop (i + 1)) = L := by
  rw [drop_byte hi, cutM, if_neg hn, ← take_byte hi ha] at h; exact h
theorem mark_at (hi : i < s.length) (h : ws ++ cutM m ((s.take i).drop a) (s.drop i) = L) (hn : byte s i = m) : (ws ++ [(s.take i).drop a]) ++ cutM m ((s.take (i + 1)).drop (i + 1)) (s.drop (i + 1)) = L := by
  rw [drop_byte hi, cutM, if_pos hn] at h; rw [← h]; simp
theorem mark_end (hi : ¬ i < s.length) (hl : i ≤ s.length) (ha : a < s.length) (h : ws ++ cutM m ((s.take i).drop a) (s.drop i) = L) : ws ++ [(s.take s.length).drop a] = L := by
  have e : i = s.length := by omega
  subst e
  rw [List.drop_length, cutM, if_neg (by intro e; have := congrArg List.length e; simp at this; omega)] at h; exact h
theorem mark_fin (hi : ¬ i < s.length) (hl : i ≤ s.length) (ha : ¬ a < s.length) (h : ws ++ cutM m ((s.take i).drop a) (s.drop i) = L) : ws = L := by
  have e : i = s.length := by omega
  subst e
  rw [List.drop_length, cutM, if_pos (by simp; omega)] at h; simpa using h
end
end Go.Proofs.Ytbnbkndeodankaa.K
