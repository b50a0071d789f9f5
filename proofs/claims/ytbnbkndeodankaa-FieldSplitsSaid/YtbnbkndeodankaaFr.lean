/- The document's splitter goes byte by byte, and comes to the same. -/
import Derived.Test.YtbnbkndeodankaaFq
set_option linter.unusedVariables false
set_option linter.unusedSimpArgs false
set_option autoImplicit false
namespace Go.Proofs.Ytbnbkndeodankaa.K
open Go Go.RowKit
theorem has_yes {s : Bytes} {c : UInt8} {i : Nat} (hi : i < s.length) (h : byte s i = c) : s.contains c = true := by
  rw [List.contains_iff_mem, ← h]; simp [byte, hi]
theorem has_no {s : Bytes} {c : UInt8} (h : ∀ k, k < s.length → byte s k ≠ c) : s.contains c = false := by
  cases hc : s.contains c with
  | false => rfl
  | true =>
    rw [List.contains_iff_mem] at hc
    obtain ⟨k, hk, e⟩ := List.mem_iff_getElem.1 hc
    exact absurd (by simp [byte, hk, e]) (h k hk)
def Sp.rbyte (ifs : Bytes) (x : Sp) (c : UInt8) : Sp :=
  if ifs.contains c = false then x.put [c] 48
  else if c = 32 ∨ c = 9 ∨ c = 10 then (if x.begun then { x.tell with white := true } else x)
  else { (if x.white then x else x.tell) with white := false }
def Sp.rputs (q : UInt8) (x : Sp) (t : Bytes) : Sp := t.foldl (fun x c => x.put [c] q) x
def Sp.rpiece (ifs : Bytes) (x : Sp) (p : Piece) : Sp :=
  if p.kind = 3 then { (if x.begun then x.tell else x) with white := false }
  else if p.kind = 2 then p.text.foldl (Sp.rbyte ifs) x
  else if p.kind = 1 then Sp.rputs 49 { x with begun := true, white := false } p.text
  else Sp.rputs 48 x p.text
theorem put_app (x : Sp) (t u : Bytes) (q : UInt8) : (x.put t q).put u q = x.put (t ++ u) q := by
  simp [Sp.put, List.replicate_append_replicate]
theorem rputs_put : ∀ (t : Bytes) (x : Sp) (q : UInt8) (a : Bytes), Sp.rputs q (x.put a q) t = x.put (a ++ t) q
  | [], x, q, a => by simp [Sp.rputs]
  | c :: t, x, q, a => by
    show Sp.rputs q ((x.put a q).put [c] q) t = _
    rw [put_app, rputs_put t]; simp
theorem rputs_eq (t : Bytes) (x : Sp) (q : UInt8) (h : t ≠ []) : Sp.rputs q x t = x.put t q := by
  cases t with
  | nil => exact absurd rfl h
  | cons c t =>
    show Sp.rputs q (x.put [c] q) t = _
    rw [rputs_put]; rfl
theorem result_one (x : Sp) (c : UInt8) (ifs : Bytes) (h : ifs.contains c = true) : x.result [c] ifs = x.rbyte ifs c := by
  have h1 : ¬ idx ifs (byte [c] 0) < 0 := fun hh => by have := idx_neg.1 hh; simp only [byte, List.getD_cons_zero] at this; rw [h] at this; cases this
  have hb : idx [32, 9, 10] (byte [c] 0) < 0 ↔ ¬ (c = 32 ∨ c = 9 ∨ c = 10) := by
    rw [idx_neg]; simp [byte]
  unfold Sp.result Sp.rbyte
  have hn : ¬ ifs.contains c = false := by rw [h]; simp
  rw [if_neg h1, if_neg hn]
  by_cases hc : c = 32 ∨ c = 9 ∨ c = 10
  · rw [if_neg (fun hh => hb.1 hh hc), if_pos hc]
  · rw [if_pos (hb.2 hc), if_neg hc]
theorem rbytes_cut (ifs : Bytes) : ∀ (t acc : Bytes) (x : Sp), (∀ c, c ∈ acc → ifs.contains c = false) → x.results ifs (cutL ifs acc t) = t.foldl (Sp.rbyte ifs) (if acc = [] then x else x.put acc 48)
  | [], acc, x, ha => by
    unfold cutL
    by_cases hn : acc = []
    · rw [if_pos hn, if_pos hn]; rfl
    · rw [if_neg hn, if_neg hn]
      show x.result acc ifs = _
      have hb : byte acc 0 ∈ acc := by cases acc with | nil => exact absurd rfl hn | cons a r => simp [byte]
      unfold Sp.result
      rw [if_pos (idx_neg.2 (ha _ hb))]; rfl
  | c :: t, acc, x, ha => by
    unfold cutL
    by_cases hc : idx ifs c < 0
    · rw [if_pos hc, rbytes_cut ifs t (acc ++ [c]) x (fun d hd => by rcases List.mem_append.1 hd with h | h; exact ha d h; simp at h; subst h; exact idx_neg.1 hc)]
      rw [if_neg (by simp)]
      have h1 := idx_neg.1 hc
      show _ = t.foldl (Sp.rbyte ifs) (Sp.rbyte ifs _ c)
      unfold Sp.rbyte
      rw [if_pos h1]
      by_cases hn : acc = []
      · rw [if_pos hn, hn] <;> rfl
      · rw [if_neg hn, put_app] <;> rfl
    · have hc1 : ifs.contains c = true := by cases hh : ifs.contains c with | true => rfl | false => exact absurd (idx_neg.2 hh) hc
      rw [if_neg hc]
      have ih := fun x => rbytes_cut ifs t [] x (by simp)
      simp only [if_true] at ih
      have hsplit : x.results ifs ((if acc = [] then [] else [acc]) ++ [c] :: cutL ifs [] t) = ((if acc = [] then x else x.put acc 48).result [c] ifs).results ifs (cutL ifs [] t) := by
        by_cases hn : acc = []
        · rw [if_pos hn, if_pos hn]; rfl
        · rw [if_neg hn, if_neg hn]
          have hb : byte acc 0 ∈ acc := by cases acc with | nil => exact absurd rfl hn | cons a r => simp [byte]
          show ((x.result acc ifs).result [c] ifs).results ifs _ = _
          have : x.result acc ifs = x.put acc 48 := by unfold Sp.result; rw [if_pos (idx_neg.2 (ha _ hb))]
          rw [this]
      rw [hsplit, ih, result_one _ _ _ hc1]; rfl
theorem rpiece_eq (ifs : Bytes) (x : Sp) (p : Piece) : x.rpiece ifs p = x.piece ifs p := by
  unfold Sp.rpiece Sp.piece
  by_cases h3 : p.kind = 3
  · rw [if_pos h3, if_pos h3]
  · rw [if_neg h3, if_neg h3]
    by_cases h2 : p.kind = 2
    · rw [if_pos h2, if_pos h2, rbytes_cut ifs p.text [] x (by simp)]; rfl
    · rw [if_neg h2, if_neg h2]
      by_cases h1 : p.kind = 1
      · rw [if_pos h1, if_pos (.inl h1), if_pos h1]
        by_cases ht : p.text = []
        · rw [ht]; simp [Sp.rputs, Sp.put]
        · rw [rputs_eq _ _ _ ht]; rfl
      · rw [if_neg h1]
        by_cases ht : p.text = []
        · rw [if_neg (by simp [h1, ht]), ht]; rfl
        · rw [rputs_eq _ _ _ ht, if_pos (.inr ht), if_neg h1]
theorem blank_iff {c : UInt8} : ((c.toNat : Int) = 32 ∨ (c.toNat : Int) = 9 ∨ (c.toNat : Int) = 10) ↔ (c = 32 ∨ c = 9 ∨ c = 10) := by
  constructor
  · rintro (h | h | h)
    · exact .inl (UInt8.toNat_inj.1 (Int.ofNat.inj h))
    · exact .inr (.inl (UInt8.toNat_inj.1 (Int.ofNat.inj h)))
    · exact .inr (.inr (UInt8.toNat_inj.1 (Int.ofNat.inj h)))
  · rintro (rfl | rfl | rfl)
    · exact .inl rfl
    · exact .inr (.inl rfl)
    · exact .inr (.inr rfl)
def Sp.rstep (ifs : Bytes) (k : Int) (q : UInt8) (y : Sp) (c : UInt8) : Sp := if k = 2 then y.rbyte ifs c else y.put [c] q
theorem rpiece_step (ifs : Bytes) (x : Sp) (p : Piece) (h : ¬ p.kind = 3) : x.piece ifs p = p.text.foldl (Sp.rstep ifs p.kind (if p.kind = 1 then 49 else 48)) (if p.kind = 1 then { x with begun := true, white := false } else x) := by
  rw [← rpiece_eq]
  unfold Sp.rpiece
  rw [if_neg h]
  by_cases h2 : p.kind = 2
  · have e : Sp.rstep ifs p.kind (if p.kind = 1 then 49 else 48) = Sp.rbyte ifs := by funext y c; unfold Sp.rstep; rw [if_pos h2]
    rw [if_pos h2, e, if_neg (by rw [h2]; decide)]
  · rw [if_neg h2]
    by_cases h1 : p.kind = 1
    · have e : Sp.rstep ifs p.kind (if p.kind = 1 then 49 else 48) = fun y c => Sp.put y [c] 49 := by funext y c; unfold Sp.rstep; rw [if_neg h2, if_pos h1]
      rw [e, if_pos h1, if_pos h1]; rfl
    · have e : Sp.rstep ifs p.kind (if p.kind = 1 then 49 else 48) = fun y c => Sp.put y [c] 48 := by funext y c; unfold Sp.rstep; rw [if_neg h2, if_neg h1]
      rw [e, if_neg h1, if_neg h1]; rfl
theorem ok_rbyte {m : Nat} {x : Sp} (h : x.ok m) (ifs : Bytes) (c : UInt8) : (x.rbyte ifs c).ok (m + 1) := by
  unfold Sp.rbyte
  split
  · exact ok_put h [c] _
  · split
    · split
      · exact ok_tell h
      · exact ok_mono h (by omega)
    · show Sp.ok _ _
      by_cases hw : x.white = true
      · rw [if_pos hw]; exact ok_mono h (by omega)
      · rw [if_neg hw]; exact ok_tell h
theorem ok_rstep {m : Nat} {x : Sp} (h : x.ok m) (ifs : Bytes) (k : Int) (q c : UInt8) : (x.rstep ifs k q c).ok (m + 1) := by
  unfold Sp.rstep; split
  · exact ok_rbyte h ifs c
  · exact ok_put h [c] q
theorem ok_rsteps {m : Nat} {x : Sp} (h : x.ok m) (ifs : Bytes) (k : Int) (q : UInt8) : ∀ t : Bytes, (t.foldl (Sp.rstep ifs k q) x).ok (m + t.length) := by
  intro t
  induction t generalizing m x with
  | nil => exact h
  | cons c t ih => exact ok_mono (ih (ok_rstep h ifs k q c)) (by simp only [List.length_cons]; omega)
theorem rsteps_step {t : Bytes} {j : Nat} (hj : j < t.length) (ifs : Bytes) (k : Int) (q : UInt8) (x : Sp) : (t.take (j + 1)).foldl (Sp.rstep ifs k q) x = ((t.take j).foldl (Sp.rstep ifs k q) x).rstep ifs k q (byte t j) := by
  have := take_byte (t := t) (i := j) (j := 0) hj (Nat.zero_le _)
  simp only [List.drop_zero] at this
  rw [this, List.foldl_append]; rfl
end Go.Proofs.Ytbnbkndeodankaa.K
