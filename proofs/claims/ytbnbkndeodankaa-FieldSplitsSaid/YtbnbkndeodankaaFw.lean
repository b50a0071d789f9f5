/- What Split's fields are made of: all bytes of the pieces but separators in substitutions, each byte with one mark. -/
import Derived.Test.YtbnbkndeodankaaFp
import Derived.Test.YtbnbkndeodankaaKitI
set_option linter.unusedVariables false
set_option linter.unusedSimpArgs false
set_option autoImplicit false
namespace Go.Proofs.Ytbnbkndeodankaa.K
open Go Go.RowKit
def allF (l : List Fld) : Bytes := (l.map (·.text)).flatten
/-- The bytes of a piece that come to fields. -/
def wantP (ifs : Bytes) (p : Piece) : Bytes := if p.kind = 3 then [] else p.text.filter fun c => !(decide (p.kind = 2) && ifs.contains c)
def wantL (ifs : Bytes) (l : List Piece) : Bytes := (l.map (wantP ifs)).flatten
def textsP : List Piece → Nat
  | [] => 0
  | p :: l => p.text.length + textsP l
/-- What the splitter holds: fit fields, and the bytes b. -/
structure Sp.has (x : Sp) (b : Bytes) : Prop where
  fit : ∀ f, f ∈ x.out → f.quoted.length = f.text.length
  fit1 : x.f.quoted.length = x.f.text.length
  none : x.begun = false → x.f.text = []
  all : allF x.out ++ x.f.text = b
theorem has_tell {x : Sp} {b : Bytes} (h : x.has b) : x.tell.has b :=
  ⟨fun f hf => by simp only [Sp.tell, List.mem_append, List.mem_singleton] at hf; rcases hf with hf | rfl; exact h.fit f hf; exact h.fit1, rfl, fun _ => rfl,
    by have := h.all; simp only [allF, Sp.tell, List.map_append, List.flatten_append, List.map_cons, List.map_nil, List.flatten_cons, List.flatten_nil, List.append_nil] at this ⊢; exact this⟩
theorem has_put {x : Sp} {b : Bytes} (h : x.has b) (t : Bytes) (q : UInt8) : (x.put t q).has (b ++ t) :=
  ⟨h.fit, by have := h.fit1; simp [Sp.put, this], fun h => by simp [Sp.put] at h, by have := h.all; simp only [Sp.put, ← List.append_assoc, this]⟩
theorem has_white {x : Sp} {b : Bytes} (h : x.has b) (v : Bool) : ({ x with white := v } : Sp).has b := ⟨h.fit, h.fit1, h.none, h.all⟩
/-- A part: one separator, or bytes that are none. -/
def goodPart (ifs t : Bytes) : Prop := (∃ c, t = [c] ∧ ifs.contains c = true) ∨ (t ≠ [] ∧ ∀ c, c ∈ t → ifs.contains c = false)
theorem cutL_good (ifs : Bytes) : ∀ (t acc : Bytes), (∀ c, c ∈ acc → ifs.contains c = false) → ∀ u, u ∈ cutL ifs acc t → goodPart ifs u
  | [], acc => by
    intro ha u hu; unfold cutL at hu; split at hu
    · simp at hu
    · simp at hu; subst hu; exact .inr ⟨by assumption, ha⟩
  | c :: t, acc => by
    intro ha u hu
    unfold cutL at hu
    split at hu
    · rename_i hc
      exact cutL_good ifs t (acc ++ [c]) (fun d hd => by rcases List.mem_append.1 hd with h | h; exact ha d h; simp at h; subst h; exact idx_neg.1 hc) u hu
    · rename_i hc
      rcases List.mem_append.1 hu with h | h
      · split at h
        · simp at h
        · simp at h; subst h; exact .inr ⟨by assumption, ha⟩
      · rcases List.mem_cons.1 h with h | h
        · subst h; exact .inl ⟨c, rfl, by cases hh : ifs.contains c with | true => rfl | false => exact absurd (idx_neg.2 hh) hc⟩
        · exact cutL_good ifs t [] (by simp) u h
def partW (ifs t : Bytes) : Bytes := t.filter fun c => !ifs.contains c
theorem filter_none {ifs t : Bytes} (h : ∀ c, c ∈ t → ifs.contains c = false) : partW ifs t = t := by
  unfold partW; rw [List.filter_eq_self]; intro c hc; rw [h c hc]; rfl
theorem cutL_want (ifs : Bytes) : ∀ (t acc : Bytes), (∀ c, c ∈ acc → ifs.contains c = false) → ((cutL ifs acc t).map (partW ifs)).flatten = acc ++ partW ifs t
  | [], acc => by
    intro ha; unfold cutL; split
    · rename_i h; subst h; rfl
    · simp [filter_none ha]; rfl
  | c :: t, acc => by
    intro ha
    unfold cutL
    split
    · rename_i hc
      rw [cutL_want ifs t _ (fun d hd => by rcases List.mem_append.1 hd with h | h; exact ha d h; simp at h; subst h; exact idx_neg.1 hc)]
      have h1 := idx_neg.1 hc
      simp [-List.contains_eq_mem, partW, List.filter_cons, h1]
    · rename_i hc
      have hc1 : ifs.contains c = true := by cases hh : ifs.contains c with | true => rfl | false => exact absurd (idx_neg.2 hh) hc
      have ih := cutL_want ifs t [] (by simp)
      have h1 : partW ifs [c] = [] := by simp [-List.contains_eq_mem, partW, List.filter_cons, hc1]
      have h2 : partW ifs (c :: t) = partW ifs t := by simp [-List.contains_eq_mem, partW, List.filter_cons, hc1]
      simp only [List.map_append, List.flatten_append, List.map_cons, List.flatten_cons, ih, h1, h2, List.nil_append]
      split
      · rename_i h; subst h; simp
      · simp [filter_none ha]
theorem has_result {x : Sp} {b : Bytes} (h : x.has b) {ifs t : Bytes} (ht : goodPart ifs t) : (x.result t ifs).has (b ++ partW ifs t) := by
  have hb : byte t 0 ∈ t := by
    rcases ht with ⟨c, rfl, _⟩ | ⟨h1, _⟩
    · simp [byte]
    · cases t with
      | nil => exact absurd rfl h1
      | cons a t => simp [byte]
  unfold Sp.result
  split
  · rename_i hi
    rcases ht with ⟨c, rfl, h2⟩ | ⟨h1, h2⟩
    · have := idx_neg.1 hi; simp only [byte, List.getD_cons_zero] at this; rw [h2] at this; cases this
    · rw [filter_none h2]; exact has_put h t _
  · rename_i hi
    have hp : partW ifs t = [] := by
      rcases ht with ⟨c, rfl, h2⟩ | ⟨h1, h2⟩
      · simp [-List.contains_eq_mem, partW, List.filter_cons, h2]
      · exact absurd (idx_neg.2 (h2 _ hb)) hi
    rw [hp, List.append_nil]
    split
    · by_cases hw : x.white = true
      · rw [if_pos hw]; exact has_white h _
      · rw [if_neg hw]; exact has_white (has_tell h) _
    · split
      · exact has_white (has_tell h) _
      · exact h
theorem has_results {x : Sp} {b : Bytes} (h : x.has b) {ifs : Bytes} : ∀ {ts : List Bytes}, (∀ t, t ∈ ts → goodPart ifs t) → (x.results ifs ts).has (b ++ (ts.map (partW ifs)).flatten) := by
  intro ts
  induction ts generalizing x b with
  | nil => intro _; simpa [Sp.results] using h
  | cons t ts ih =>
    intro ht
    have := ih (has_result h (ht t (by simp))) (fun u hu => ht u (by simp [hu]))
    simpa [Sp.results] using this
theorem has_piece {x : Sp} {b : Bytes} (h : x.has b) (ifs : Bytes) (p : Piece) : (x.piece ifs p).has (b ++ wantP ifs p) := by
  unfold Sp.piece
  split
  · rename_i hk
    rw [show wantP ifs p = [] by unfold wantP; rw [if_pos hk], List.append_nil]
    by_cases hb : x.begun = true
    · rw [if_pos hb]; exact has_white (has_tell h) _
    · rw [if_neg hb]; exact has_white h _
  · rename_i hk3
    split
    · rename_i hk
      have := has_results h (cutL_good ifs p.text [] (by simp))
      rw [cutL_want ifs p.text [] (by simp)] at this
      rw [show wantP ifs p = partW ifs p.text by unfold wantP partW; rw [if_neg hk3]; simp [hk]]
      simpa using this
    · rename_i hk
      rw [show wantP ifs p = p.text by unfold wantP; rw [if_neg hk3]; simp [hk]]
      split
      · exact has_put h _ _
      · rename_i hn
        have : p.text = [] := by cases hh : p.text with | nil => rfl | cons a t => exact absurd (.inr (by rw [hh]; simp)) hn
        rw [this, List.append_nil]; exact h
theorem has_pieces {x : Sp} {b : Bytes} (h : x.has b) (ifs : Bytes) : ∀ (l : List Piece), (l.foldl (Sp.piece ifs) x).has (b ++ wantL ifs l) := by
  intro l
  induction l generalizing x b with
  | nil => simpa [wantL] using h
  | cons p l ih => have := ih (has_piece h ifs p); simpa [wantL] using this
theorem has_spx (ifs : Bytes) (l : List Piece) : (spx ifs l).has (wantL ifs l) := by
  have := has_pieces (x := .new) (b := []) ⟨by simp [Sp.new], rfl, fun _ => rfl, rfl⟩ ifs l
  simpa [spx] using this
theorem split_fit (ifs : Bytes) (l : List Piece) : ∀ f, f ∈ splitL l ifs → f.quoted.length = f.text.length := by
  intro f hf
  unfold splitL Sp.fin at hf
  split at hf
  · exact (has_tell (has_spx ifs l)).fit f hf
  · exact (has_spx ifs l).fit f hf
theorem split_all (ifs : Bytes) (l : List Piece) : allF (splitL l ifs) = wantL ifs l := by
  have h := has_spx ifs l
  unfold splitL Sp.fin
  split
  · have := (has_tell h).all; simpa [Sp.tell] using this
  · rename_i hb
    have := h.all; rw [h.none (by simpa using hb), List.append_nil] at this; exact this
theorem want_le (ifs : Bytes) : ∀ l : List Piece, (wantL ifs l).length ≤ textsP l
  | [] => by simp [wantL, textsP]
  | p :: l => by
    have h1 := want_le ifs l
    have h2 : (wantP ifs p).length ≤ p.text.length := by unfold wantP; split; simp; exact List.length_filter_le _ _
    simp only [wantL, List.map_cons, List.flatten_cons, List.length_append, textsP] at h1 ⊢; omega
theorem texts_bulk : ∀ l : List Piece, bulkP l = textsP l + l.length
  | [] => rfl
  | p :: l => by simp only [bulkP, textsP, texts_bulk l, List.length_cons]; omega
theorem split_len (ifs : Bytes) (l : List Piece) : (splitL l ifs).length ≤ bulkP l + 1 := by
  have := ok_spx ifs l
  unfold splitL Sp.fin
  split
  · have := (ok_tell this).1; omega
  · have := this.1; omega
theorem texts_append (a b : List Piece) : textsP (a ++ b) = textsP a + textsP b := by induction a <;> simp_all [textsP, Nat.add_assoc]
theorem texts_take (l : List Piece) (i : Nat) : textsP (l.take i) ≤ textsP l := by
  have := texts_append (l.take i) (l.drop i); rw [List.take_append_drop] at this; omega
theorem texts_step {l : List Piece} {i : Nat} {p : Piece} (h : l[i]? = some p) : textsP (l.take (i + 1)) = textsP (l.take i) + p.text.length := by
  rw [List.take_add_one, texts_append, h]; simp [textsP]
def fewB (l : List Piece) : Bool := decide (textsP l ≤ 2000) && decide (l.length ≤ 200)
/-- Fields, shown. -/
def showF : List Fld → Bytes
  | [] => []
  | f :: l => [60] ++ f.text ++ [62] ++ showF l
theorem showF_append (a b : List Fld) : showF (a ++ b) = showF a ++ showF b := by induction a <;> simp_all [showF]
theorem showF_step {l : List Fld} {i : Nat} {f : Fld} (h : l[i]? = some f) : showF (l.take (i + 1)) = showF (l.take i) ++ ([60] ++ f.text ++ [62]) := by
  rw [List.take_add_one, showF_append, h]; simp [showF]
theorem showF_len : ∀ l : List Fld, (showF l).length = (allF l).length + 2 * l.length
  | [] => rfl
  | f :: l => by have := showF_len l; simp only [showF, allF, List.length_append, List.map_cons, List.flatten_cons, List.length_cons, List.length_nil] at this ⊢; omega
theorem showF_take (l : List Fld) (i : Nat) : (showF (l.take i)).length ≤ (showF l).length := by
  have := congrArg List.length (showF_append (l.take i) (l.drop i)); rw [List.take_append_drop, List.length_append] at this; omega
theorem showF_at {l : List Fld} {i : Nat} {f : Fld} (h : l[i]? = some f) : (showF (l.take i)).length + f.text.length + 2 ≤ (showF l).length := by
  have := showF_take l (i + 1); rw [showF_step h] at this; simp only [List.length_append, List.length_cons, List.length_nil] at this; omega
theorem show_split (ifs : Bytes) (l : List Piece) : (showF (splitL l ifs)).length ≤ 3 * bulkP l + 2 := by
  rw [showF_len, split_all]
  have := want_le ifs l; have := split_len ifs l; have := texts_bulk l; omega
theorem allF_append (a b : List Fld) : allF (a ++ b) = allF a ++ allF b := by simp [allF]
theorem allF_step {l : List Fld} {i : Nat} {f : Fld} (h : l[i]? = some f) : allF (l.take (i + 1)) = allF (l.take i) ++ f.text := by
  rw [List.take_add_one, allF_append, h]; simp [allF]
theorem allF_at {l : List Fld} {i : Nat} {f : Fld} (h : l[i]? = some f) : (allF (l.take i)).length + f.text.length ≤ (allF l).length := by
  have h1 := congrArg List.length (allF_append (l.take (i + 1)) (l.drop (i + 1)))
  rw [List.take_append_drop, List.length_append, allF_step h, List.length_append] at h1; omega
/-- Which bytes a text has. -/
def sepF (s : Bytes) : Nat → Bool := fun k => s.any fun c => decide (c.toNat = k)
theorem sepF_at (s : Bytes) (c : UInt8) : sepF s c.toNat = s.contains c := by
  rw [Bool.eq_iff_iff, List.contains_iff_mem, sepF, List.any_eq_true]
  constructor
  · rintro ⟨d, h1, h2⟩
    have h3 := UInt8.toNat_inj.1 (of_decide_eq_true h2)
    subst h3; exact h1
  · intro h; exact ⟨c, h, by simp⟩
theorem seps_set (s : Bytes) (c : UInt8) (off : Nat) (h : off = c.toNat) : setV (boolsV (sepF s) 0 256) off (.bool true) = boolsV (sepF (s ++ [c])) 0 256 := by
  subst h
  rw [boolsV_set _ _ _ _ _ c.toNat_lt]
  refine boolsV_congr _ _ fun k _ _ => ?_
  simp only [sepF, List.any_append, List.any_cons, List.any_nil, Bool.or_false, Nat.zero_add]
  by_cases hk : k = c.toNat
  · subst hk; simp
  · rw [if_neg hk, decide_eq_false (fun h => hk h.symm), Bool.or_false]
theorem seps_at (s : Bytes) (c : UInt8) (off : Nat) (h : off = c.toNat) : nthV (boolsV (sepF s) 0 256) off = some (.bool (s.contains c)) := by
  subst h; rw [boolsV_nth _ _ _ _ c.toNat_lt, Nat.zero_add, sepF_at]
def wantF (ifs : Bytes) (k : Int) (t : Bytes) : Bytes := t.filter fun c => !(decide (k = 2) && ifs.contains c)
theorem wantF_step {ifs t : Bytes} {k : Int} {j : Nat} (h : j < t.length) : wantF ifs k (t.take (j + 1)) = wantF ifs k (t.take j) ++ (if (decide (k = 2) && ifs.contains (byte t j)) = true then [] else [byte t j]) := by
  rw [List.take_add_one, wantF, List.filter_append]
  simp only [byte, h, List.getD_eq_getElem?_getD, List.getElem?_eq_getElem, Option.getD_some, Option.toList_some, List.filter_cons, List.filter_nil, wantF]
  congr 1
  cases (decide (k = 2) && List.contains ifs t[j]) <;> rfl
theorem want_step {ifs : Bytes} {l : List Piece} {i : Nat} {p : Piece} (h : l[i]? = some p) : wantL ifs (l.take (i + 1)) = wantL ifs (l.take i) ++ wantP ifs p := by
  rw [List.take_add_one, h]; simp [wantL]
theorem wantF_len (ifs : Bytes) (k : Int) (t : Bytes) : (wantF ifs k t).length ≤ t.length := List.length_filter_le _ _
theorem few_of {l : List Piece} (h : fewB l = true) : textsP l ≤ 2000 ∧ l.length ≤ 200 := by simpa [fewB] using h
end Go.Proofs.Ytbnbkndeodankaa.K
