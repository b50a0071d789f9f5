import Derived.Test.YtghjmiggobpmoaaGreatDoorScan
import Derived.Test.YtghjmiggobpmoaaGreatDoorTok
import Derived.Lib.AppendZerosOnto
import Derived.Lib.Overlaps
set_option linter.unusedVariables false
set_option linter.unusedSimpArgs false
set_option autoImplicit false
set_option maxRecDepth 20000
namespace Go.Proofs.YtghjmiggobpmoaaGreatDoor.K
open Go Go.RowKit

/-- A token without what lines hand it. -/
def skel (t : Tok) : Int × Bytes × Int := (t.kind, t.text, t.at_)
theorem linesV_skel : ∀ (ws : List (Nat × Bool)) (out : List Tok) (r : Bytes), (linesV out ws r).1.map skel = out.map skel
  | [], out, r => rfl
  | (j, st) :: ws, out, r => by
    simp only [linesV]
    rw [linesV_skel ws]
    apply List.ext_getElem?
    intro i
    simp only [List.getElem?_map, List.getElem?_set]
    by_cases h : j = i
    · subst h
      by_cases hj : j < out.length
      · rw [if_pos rfl, if_pos hj]
        simp [List.getD_eq_getElem?_getD, hj, skel]
      · rw [if_pos rfl, if_neg hj]
        simp [hj]
    · rw [if_neg h]
theorem linesV_len (ws : List (Nat × Bool)) (out : List Tok) (r : Bytes) : (linesV out ws r).1.length = out.length := by
  have := congrArg List.length (linesV_skel ws out r); simpa using this
theorem cut_le (s c : Bytes) : (Lib.cut s c).1.length ≤ s.length := by
  unfold Lib.cut; split
  · simp only [List.length_take]; omega
  · exact Nat.le_refl _
theorem cut_more {s c : Bytes} (h : (Lib.cut s c).2.2 = true) : (Lib.cut s c).1.length + c.length ≤ s.length := by
  unfold Lib.cut at h ⊢; split
  · rename_i hk
    have := Lib.index_room s c hk
    simp only [List.length_take]
    omega
  · rename_i hk; rw [if_neg hk] at h; cases h
theorem bodyL_le (fin : Bytes) (strip : Bool) : ∀ (k : Nat) (r : Bytes), (bodyL fin strip k r).2 ≤ r.length
  | 0, r => by simp [bodyL]
  | k + 1, r => by
    simp only [bodyL]
    split
    · simp
    · have h1 : (Lib.cut r [10]).1.length + (if (Lib.cut r [10]).2.2 = true then 1 else 0) ≤ r.length := by
        by_cases h : (Lib.cut r [10]).2.2 = true
        · rw [if_pos h]; exact cut_more h
        · rw [if_neg h]; exact cut_le _ _
      generalize (if strip = true then trimT (Lib.cut r [10]).1 else (Lib.cut r [10]).1) = q
      split
      · exact h1
      · have h2 := bodyL_le fin strip k (r.drop ((Lib.cut r [10]).1.length + (if (Lib.cut r [10]).2.2 = true then 1 else 0)))
        simp only [List.length_drop] at h2
        show _ + (_ + _) ≤ _
        omega
theorem linesV_le : ∀ (ws : List (Nat × Bool)) (out : List Tok) (r : Bytes), (linesV out ws r).2 ≤ r.length
  | [], out, r => by simp [linesV]
  | (j, st) :: ws, out, r => by
    simp only [linesV]
    have h1 := linesV_le ws (out.set j { (out.getD j ⟨0, [], 0, [], false⟩) with here := (out.getD j ⟨0, [], 0, [], false⟩).here ++ (bodyV (plainV (out.getD j ⟨0, [], 0, [], false⟩).text).1 st r).1, raw := (plainV (out.getD j ⟨0, [], 0, [], false⟩).text).2 }) (r.drop (bodyV (plainV (out.getD j ⟨0, [], 0, [], false⟩).text).1 st r).2)
    have h2 := bodyL_le (plainV (out.getD j ⟨0, [], 0, [], false⟩).text).1 st r.length r
    simp only [List.length_drop] at h1
    show _ + (bodyL _ _ _ _).2 ≤ _
    simp only [bodyV] at h1 ⊢
    omega
/-- What is known of the tokens so far. -/
structure Placed (s : Bytes) (i : Nat) (l : List (Int × Bytes × Int)) : Prop where
  at_ : ∀ x, x ∈ l → x.1 ≠ 0 ∧ 0 ≤ x.2.2 ∧ x.2.2.toNat + x.2.1.length ≤ i ∧ (s.drop x.2.2.toNat).take x.2.1.length = x.2.1
  up : ∀ (j : Nat) x y, l[j]? = some x → l[j + 1]? = some y → x.2.2 + x.2.1.length ≤ y.2.2
theorem Placed.nil {s : Bytes} {i : Nat} : Placed s i [] := ⟨fun x h => (by cases h), fun j x y h => (by simp at h)⟩
theorem Placed.push {s : Bytes} {i i2 : Nat} {l : List (Int × Bytes × Int)} {k : Int} {n : Nat} (h : Placed s i l) (hi : i ≤ i2) (hk : k ≠ 0) (hn : i2 + n ≤ s.length) : Placed s (i2 + n) (l ++ [(k, (s.drop i2).take n, (i2 : Int))]) := by
  have hl : ((s.drop i2).take n).length = n := by simp; omega
  refine ⟨fun x hx => ?_, fun j x y hx hy => ?_⟩
  · rcases List.mem_append.1 hx with hx | hx
    · obtain ⟨h1, h2, h3, h4⟩ := h.at_ x hx; exact ⟨h1, h2, by omega, h4⟩
    · rw [List.mem_singleton.1 hx]
      refine ⟨hk, Int.natCast_nonneg _, ?_, ?_⟩
      · show (i2 : Int).toNat + ((s.drop i2).take n).length ≤ i2 + n
        rw [hl]; omega
      · show (s.drop (i2 : Int).toNat).take ((s.drop i2).take n).length = _
        rw [hl, Int.toNat_natCast]
  · by_cases hj : j + 1 < l.length
    · rw [List.getElem?_append_left (by omega)] at hx
      rw [List.getElem?_append_left hj] at hy
      exact h.up j x y hx hy
    · have h1 : j + 1 = l.length := by
        have := (List.getElem?_eq_some_iff.1 hy).1
        simp at this; omega
      rw [List.getElem?_append_left (by omega)] at hx
      rw [h1, List.getElem?_append_right (Nat.le_refl _), Nat.sub_self] at hy
      simp only [List.getElem?_cons_zero, Option.some.injEq] at hy
      subst hy
      obtain ⟨_, h2, h3, _⟩ := h.at_ x (List.mem_of_getElem? hx)
      show x.2.2 + _ ≤ (i2 : Int)
      omega
/-- What the token that stands ahead of r is. -/
theorem nextT_ok {r : Bytes} (hr : r ≠ []) (hb : byte r 0 ≠ 32 ∧ byte r 0 ≠ 9 ∧ byte r 0 ≠ 35) (i : Int) :
    ((nextT r i).2.2 ≠ 0 ∧ ∃ j : Nat, (nextT r i).1.at_ = i + j ∧ j < r.length) ∨
    ((nextT r i).2.2 = 0 ∧ (nextT r i).1.kind ≠ 0 ∧ 1 ≤ (nextT r i).2.1 ∧ (nextT r i).2.1 ≤ r.length ∧ (nextT r i).1.text = r.take (nextT r i).2.1 ∧ (nextT r i).1.at_ = i ∧ (nextT r i).1.here = [] ∧ (nextT r i).1.raw = false) := by
  unfold nextT
  rw [if_neg hr]
  split
  · right
    rename_i h
    obtain ⟨c, t, rfl⟩ : ∃ c t, r = c :: t := by cases r with | nil => exact absurd rfl hr | cons c t => exact ⟨c, t, rfl⟩
    have hb : byte (c :: t) 0 = c := rfl
    rw [hb] at h; subst h
    simp
  · rename_i h10
    split
    · rename_i hm
      obtain ⟨j, h1, h2, h3, h4, h5, h6⟩ := op_hit hm h10 hb.1 hb.2.1 hr
      right
      refine ⟨rfl, by show (2 : Int) ≠ 0; decide, h5, h6, ?_, rfl, rfl, rfl⟩
      have := List.isPrefixOf_iff_prefix.1 h4
      show opT r = r.take (opT r).length
      exact List.prefix_iff_eq_take.1 this
    · rename_i hm
      have hm' : metaB (byte r 0) = false := by simpa using hm
      split
      · rename_i he
        exact .inl ⟨by simpa using he, _, rfl, wordL_err _ _ he⟩
      · rename_i he
        have he' : (wordV r).2 = 0 := by simpa using he
        exact .inr ⟨rfl, by show ite _ _ _ ≠ (0 : Int); split <;> decide, wordV_pos hr hm' he', wordL_le _ _, rfl, rfl, rfl, rfl⟩
theorem drop_drop_at {s : Bytes} {i b : Nat} : (s.drop i).drop b = s.drop (i + b) := by rw [List.drop_drop]
theorem scan_places (s : Bytes) : ∀ (k i : Nat) (out : List Tok) (ws : List (Nat × Bool)), i ≤ s.length → s.length - i < k → Placed s i (out.map skel) →
    ((scanF k (s.drop i) i out ws).2.2 ≠ 0 ∧ (scanF k (s.drop i) i out ws).1 = [] ∧ 0 ≤ (scanF k (s.drop i) i out ws).2.1 ∧ (scanF k (s.drop i) i out ws).2.1 < s.length) ∨
    ((scanF k (s.drop i) i out ws).2 = (0, 0) ∧ ∃ pre, (scanF k (s.drop i) i out ws).1.map skel = pre ++ [(0, [], (s.length : Int))] ∧ Placed s s.length pre)
  | 0, i, out, ws, hi, hk, hp => by omega
  | k + 1, i, out, ws, hi, hk, hp => by
    have hbl := blankL_le (s.drop i).length (s.drop i)
    have hbs := blankL_stop (s.drop i).length (s.drop i) (Nat.le_refl _)
    simp only [List.length_drop] at hbl
    have hbv : blankV (s.drop i) = blankL (s.length - i) (s.drop i) := by simp [blankV]
    simp only [List.length_drop, ← hbv] at hbl hbs
    simp only [scanF]
    generalize hB : blankV (s.drop i) = b at hbl hbs ⊢
    rw [drop_drop_at] at hbs ⊢
    by_cases hr : s.drop (i + b) = []
    · have hib : i + b = s.length := by have := List.drop_eq_nil_iff.1 hr; omega
      have hn : nextT (s.drop (i + b)) ((i : Int) + b) = (⟨0, [], (i : Int) + b, [], false⟩, 0, 0) := by unfold nextT; rw [if_pos hr]
      right
      rw [hn]
      simp only []
      rw [if_neg (by simp), if_pos trivial]
      refine ⟨rfl, out.map skel, ?_, ⟨fun x hx => ?_, hp.up⟩⟩
      · rw [linesV_skel, List.map_append]
        congr 1
        simp only [List.map_cons, List.map_nil, skel]
        rw [← hib]; simp
      · obtain ⟨h1, h2, h3, h4⟩ := hp.at_ x hx; exact ⟨h1, h2, by omega, h4⟩
    · have hb := hbs.resolve_left hr
      have hlt : i + b < s.length := by
        rcases Nat.lt_or_ge (i + b) s.length with h | h
        · exact h
        · exact absurd (List.drop_eq_nil_of_le h) hr
      have hlen : (s.drop (i + b)).length = s.length - (i + b) := by simp
      rcases nextT_ok hr hb ((i : Int) + b) with ⟨he, j, hj, hj2⟩ | ⟨he, hk0, hn1, hn2, htx, hat, hh, hraw⟩
      · left
        rw [if_pos he]
        rw [hlen] at hj2
        exact ⟨he, rfl, by rw [hj]; show 0 ≤ (i : Int) + b + j; omega, by rw [hj]; show (i : Int) + b + j < _; omega⟩
      · rw [if_neg (by simpa using he), if_neg hk0]
        generalize hN : nextT (s.drop (i + b)) ((i : Int) + b) = z at *
        rw [hlen] at hn2
        have hpl : Placed s (i + b + z.2.1) ((out ++ [z.1]).map skel) := by
          rw [List.map_append]
          have := Placed.push (n := z.2.1) hp (i2 := i + b) (by omega) hk0 (by omega)
          simpa [skel, htx, hat] using this
        have hc1 : ((i : Int) + b + z.2.1) = ((i + b + z.2.1 : Nat) : Int) := by omega
        split
        · have hl := linesV_le (pushW out ws z.1) (out ++ [z.1]) ((s.drop (i + b)).drop z.2.1)
          have hs := linesV_skel (pushW out ws z.1) (out ++ [z.1]) ((s.drop (i + b)).drop z.2.1)
          simp only [List.length_drop] at hl
          rw [drop_drop_at] at hl hs
          rw [drop_drop_at (b := z.2.1)]
          generalize linesV (out ++ [z.1]) (pushW out ws z.1) (s.drop (i + b + z.2.1)) = y at hl hs ⊢
          rw [drop_drop_at, hc1, ← Int.natCast_add]
          refine scan_places s k (i + b + z.2.1 + y.2) y.1 [] (by omega) (by omega) ?_
          rw [hs]
          exact ⟨fun x hx => let ⟨h1, h2, h3, h4⟩ := hpl.at_ x hx; ⟨h1, h2, by omega, h4⟩, hpl.up⟩
        · rw [drop_drop_at, hc1]
          exact scan_places s k (i + b + z.2.1) (out ++ [z.1]) (pushW out ws z.1) (by omega) (by omega) hpl
/-- What the law asks of a row of tokens. -/
structure GoodT (s : Bytes) (l : List Tok) : Prop where
  at_ : ∀ (i : Nat) (x : Tok), l[i]? = some x → 0 ≤ x.at_ ∧ x.at_ ≤ s.length ∧ (x.text.length : Int) ≤ s.length - x.at_ ∧ (s.drop x.at_.toNat).take x.text.length = x.text
  up : ∀ (i : Nat) (x y : Tok), l[i]? = some x → l[i + 1]? = some y → x.at_ + x.text.length ≤ y.at_
  fin : ∀ (i : Nat) (x : Tok), l[i]? = some x → (x.kind = 0 ↔ i + 1 = l.length)
  last : ∃ n z, l.length = n + 1 ∧ l[n]? = some z ∧ z.at_ = s.length
theorem tokens_places {s : Bytes} (hs : s.length ≤ 3000) : ((tokensV s).2.2 ≠ 0 ∧ (tokensV s).1 = [] ∧ 0 ≤ (tokensV s).2.1 ∧ (tokensV s).2.1 < s.length) ∨ ((tokensV s).2 = (0, 0) ∧ GoodT s (tokensV s).1) := by
  have h := scan_places s (s.length + 1) 0 [] [] (Nat.zero_le _) (by omega) .nil
  rw [tokensV, if_neg (by omega)]
  rw [List.drop_zero] at h
  refine h.imp id ?_
  rintro ⟨h1, pre, h2, h3⟩
  refine ⟨h1, ?_⟩
  generalize (scanF (s.length + 1) s ((0 : Nat) : Int) [] []).1 = l at h2
  have hl : l.length = pre.length + 1 := by have := congrArg List.length h2; simpa using this
  have hx : ∀ (i : Nat) (x : Tok), l[i]? = some x → (pre ++ [(0, [], (s.length : Int))])[i]? = some (skel x) := fun i x hx => by
    rw [← h2, List.getElem?_map, hx]; rfl
  refine ⟨fun i x h => ?_, fun i x y h h' => ?_, fun i x h => ?_, ?_⟩
  · have h5 := hx i x h
    rcases Nat.lt_or_ge i pre.length with hi | hi
    · rw [List.getElem?_append_left hi] at h5
      obtain ⟨_, q2, q3, q4⟩ := h3.at_ _ (List.mem_of_getElem? h5)
      simp only [skel] at q2 q3 q4
      exact ⟨q2, by omega, by omega, q4⟩
    · have : i = pre.length := by have := (List.getElem?_eq_some_iff.1 h).1; omega
      rw [this, List.getElem?_append_right (Nat.le_refl _), Nat.sub_self] at h5
      simp only [List.getElem?_cons_zero, Option.some.injEq, skel, Prod.mk.injEq] at h5
      obtain ⟨_, q2, q3⟩ := h5
      rw [← q2, ← q3]; simp
  · have h5 := hx i x h; have h6 := hx _ y h'
    rcases Nat.lt_or_ge (i + 1) pre.length with hi | hi
    · rw [List.getElem?_append_left (by omega)] at h5
      rw [List.getElem?_append_left hi] at h6
      exact h3.up i _ _ h5 h6
    · have : i + 1 = pre.length := by have := (List.getElem?_eq_some_iff.1 h').1; omega
      rw [List.getElem?_append_left (by omega)] at h5
      rw [this, List.getElem?_append_right (Nat.le_refl _), Nat.sub_self] at h6
      simp only [List.getElem?_cons_zero, Option.some.injEq, skel, Prod.mk.injEq] at h6
      obtain ⟨_, q2, q3⟩ := h3.at_ _ (List.mem_of_getElem? h5)
      simp only [skel] at q2 q3
      omega
  · have h5 := hx i x h
    rcases Nat.lt_or_ge i pre.length with hi | hi
    · rw [List.getElem?_append_left hi] at h5
      have := (h3.at_ _ (List.mem_of_getElem? h5)).1
      simp only [skel] at this
      exact ⟨fun e => absurd e this, fun e => by omega⟩
    · have : i = pre.length := by have := (List.getElem?_eq_some_iff.1 h).1; omega
      rw [this, List.getElem?_append_right (Nat.le_refl _), Nat.sub_self] at h5
      simp only [List.getElem?_cons_zero, Option.some.injEq, skel, Prod.mk.injEq] at h5
      exact ⟨fun _ => by omega, fun _ => h5.1.symm⟩
  · obtain ⟨z, hz⟩ : ∃ z, l[pre.length]? = some z := ⟨_, List.getElem?_eq_getElem (by omega)⟩
    have h5 := hx _ z hz
    rw [List.getElem?_append_right (Nat.le_refl _), Nat.sub_self] at h5
    simp only [List.getElem?_cons_zero, Option.some.injEq, skel, Prod.mk.injEq] at h5
    exact ⟨pre.length, z, hl, hz, h5.2.2.symm⟩
end Go.Proofs.YtghjmiggobpmoaaGreatDoor.K
set_option linter.unusedVariables false
set_option linter.unusedSimpArgs false
set_option autoImplicit false
set_option maxRecDepth 20000
namespace Go.Proofs.YtghjmiggobpmoaaGreatDoor.K
open Go Go.RowKit

def L10 (r : Bytes) : Prop := r.getLast? = some 10
theorem L10.drop {r : Bytes} (h : L10 r) {j : Nat} (hj : r.drop j ≠ []) : L10 (r.drop j) := by
  unfold L10 at h ⊢
  rw [List.getLast?_drop, if_neg (by intro h9; exact hj (List.drop_eq_nil_of_le h9))]; exact h
theorem L10.one {c : UInt8} (h : L10 [c]) : c = 10 := by simpa [L10] using h
theorem L10.ne {r : Bytes} (h : L10 r) : r ≠ [] := by intro e; subst e; simp [L10] at h
theorem L10.tail {c : UInt8} {u : Bytes} (h : L10 (c :: u)) (hu : u ≠ []) : L10 u := by
  have := L10.drop (j := 1) h (by simpa using hu); simpa using this
theorem blank_facts (r : Bytes) : blankV r ≤ r.length ∧ (r.drop (blankV r) = [] ∨ (byte (r.drop (blankV r)) 0 ≠ 32 ∧ byte (r.drop (blankV r)) 0 ≠ 9 ∧ byte (r.drop (blankV r)) 0 ≠ 35)) :=
  ⟨blankL_le _ _, blankL_stop _ _ (Nat.le_refl _)⟩
theorem pushW_lt {out : List Tok} {ws : List (Nat × Bool)} {t : Tok} (h : ∀ w, w ∈ ws → w.1 < out.length) : ∀ w, w ∈ pushW out ws t → w.1 < (out ++ [t]).length := fun w hw => by
  rw [List.length_append]
  unfold pushW at hw
  split at hw
  · rcases List.mem_append.1 hw with h1 | h1
    · have := h w h1; simp; omega
    · rw [List.mem_singleton.1 h1]; simp
  · have := h w hw; simp; omega
end Go.Proofs.YtghjmiggobpmoaaGreatDoor.K
set_option linter.unusedVariables false
set_option linter.unusedSimpArgs false
set_option autoImplicit false
set_option maxRecDepth 20000
namespace Go.Proofs.YtghjmiggobpmoaaGreatDoor.K
open Go Go.RowKit

end Go.Proofs.YtghjmiggobpmoaaGreatDoor.K
set_option linter.unusedVariables false
set_option linter.unusedSimpArgs false
set_option autoImplicit false
set_option maxRecDepth 20000
namespace Go.Proofs.YtghjmiggobpmoaaGreatDoor.K
open Go Go.RowKit

/-- Where a lexer stands: behind blanks; its tokens; the words that end lines. -/
structure Zst where
  i : Nat
  out : List Tok
  ws : List (Nat × Bool)
def tZ (s : Bytes) (Z : Zst) : Tok × Nat × Int := nextT (s.drop Z.i) (Z.i : Int)
def yZ (s : Bytes) (Z : Zst) : Tok × Int := ((tZ s Z).1, (tZ s Z).2.2)
def nxO (s : Bytes) (Z : Zst) : List Tok := Z.out ++ [(tZ s Z).1]
def nxW (s : Bytes) (Z : Zst) : List (Nat × Bool) := pushW Z.out Z.ws (tZ s Z).1
def nxI (s : Bytes) (Z : Zst) : Nat := Z.i + (tZ s Z).2.1
def nxZ (s : Bytes) (Z : Zst) : Zst :=
  if (tZ s Z).1.kind = 3 then ⟨nxI s Z + (linesV (nxO s Z) (nxW s Z) (s.drop (nxI s Z))).2 + blankV (s.drop (nxI s Z + (linesV (nxO s Z) (nxW s Z) (s.drop (nxI s Z))).2)), (linesV (nxO s Z) (nxW s Z) (s.drop (nxI s Z))).1, []⟩
  else ⟨nxI s Z + blankV (s.drop (nxI s Z)), nxO s Z, nxW s Z⟩
def endZ (s : Bytes) (Z : Zst) : Bool := decide ((tZ s Z).2.2 ≠ 0) || decide ((tZ s Z).1.kind = 0)
theorem endZ_iff {s : Bytes} {Z : Zst} : endZ s Z = true ↔ (tZ s Z).2.2 ≠ 0 ∨ (tZ s Z).1.kind = 0 := by simp [endZ]
theorem endZ_no {s : Bytes} {Z : Zst} : endZ s Z = false ↔ (tZ s Z).2.2 = 0 ∧ (tZ s Z).1.kind ≠ 0 := by simp [endZ]
def yldF (s : Bytes) : Nat → Zst → List (Tok × Int)
  | 0, _ => []
  | k + 1, Z => yZ s Z :: (if endZ s Z then [] else yldF s k (nxZ s Z))
def itZ (s : Bytes) : Nat → Zst → Zst
  | 0, Z => Z
  | n + 1, Z => itZ s n (nxZ s Z)
theorem itZ_succ (s : Bytes) : ∀ (n : Nat) (Z : Zst), itZ s (n + 1) Z = nxZ s (itZ s n Z)
  | 0, Z => rfl
  | n + 1, Z => itZ_succ s n (nxZ s Z)
/-- Tokens whose texts are short. -/
def GoodO (n i : Nat) (l : List Tok) : Prop := ∀ z, z ∈ l → z.text.length ≤ n ∧ z.here.length ≤ i
theorem GoodO.mono {n i j : Nat} {l : List Tok} (h : GoodO n i l) (hij : i ≤ j) : GoodO n j l := fun z hz => ⟨(h z hz).1, Nat.le_trans (h z hz).2 hij⟩
theorem trimT_len : ∀ l : Bytes, (trimT l).length ≤ l.length
  | [] => Nat.le_refl _
  | c :: t => by rw [trimT]; split; (have := trimT_len t; simp only [List.length_cons]; omega); exact Nat.le_refl _
theorem bodyL_len (fin : Bytes) (st : Bool) : ∀ (k : Nat) (r : Bytes), (bodyL fin st k r).1.length ≤ (bodyL fin st k r).2
  | 0, r => by simp [bodyL]
  | k + 1, r => by
    rw [bodyL]
    split
    · simp
    · have h2 : (if st = true then trimT (Lib.cut r [10]).1 else (Lib.cut r [10]).1).length ≤ (Lib.cut r [10]).1.length := by split; exact trimT_len _; exact Nat.le_refl _
      simp only []
      generalize (if st = true then trimT (Lib.cut r [10]).1 else (Lib.cut r [10]).1) = l2 at h2 ⊢
      by_cases hf : l2 = fin
      · rw [if_pos hf]; exact Nat.zero_le _
      · rw [if_neg hf]
        cases hm : (Lib.cut r [10]).2.2 with
        | true => have h1 := bodyL_len fin st k (r.drop ((Lib.cut r [10]).1.length + 1)); simp; omega
        | false => have h1 := bodyL_len fin st k (r.drop (Lib.cut r [10]).1.length); simp; omega
theorem linesV_good {n : Nat} : ∀ (ws : List (Nat × Bool)) (out : List Tok) (r : Bytes) (i : Nat), GoodO n i out → (∀ x, x ∈ ws → x.1 < out.length) → GoodO n (i + (linesV out ws r).2) (linesV out ws r).1
  | [], out, r, i, h, _ => h
  | (j, st) :: ws, out, r, i, h, hw => by
    simp only [linesV]
    have hj : j < out.length := hw (j, st) (by simp)
    have hb := bodyL_len (plainV (out.getD j ⟨0, [], 0, [], false⟩).text).1 st r.length r
    have hg : out.getD j ⟨0, [], 0, [], false⟩ ∈ out := by rw [List.getD_eq_getElem?_getD, List.getElem?_eq_getElem hj]; exact List.getElem_mem hj
    generalize out.getD j ⟨0, [], 0, [], false⟩ = z at hb hg ⊢
    have h2 := linesV_good ws (out.set j { z with here := z.here ++ (bodyV (plainV z.text).1 st r).1, raw := (plainV z.text).2 }) (r.drop (bodyV (plainV z.text).1 st r).2) (i + (bodyV (plainV z.text).1 st r).2) (by
      intro u hu
      rcases List.mem_or_eq_of_mem_set hu with h1 | h1
      · exact ⟨(h u h1).1, by have := (h u h1).2; omega⟩
      · subst h1
        refine ⟨(h z hg).1, ?_⟩
        have := (h z hg).2
        show (z.here ++ (bodyV (plainV z.text).1 st r).1).length ≤ _
        rw [List.length_append]; unfold bodyV; omega) (fun x hx => by rw [List.length_set]; exact hw x (List.mem_cons_of_mem _ hx))
    intro u hu
    exact ⟨(h2 u hu).1, by have := (h2 u hu).2; omega⟩
structure InvZ (s : Bytes) (Z : Zst) : Prop where
  le : Z.i ≤ s.length
  bl : s.drop Z.i = [] ∨ (byte (s.drop Z.i) 0 ≠ 32 ∧ byte (s.drop Z.i) 0 ≠ 9 ∧ byte (s.drop Z.i) 0 ≠ 35)
  ws : ∀ x, x ∈ Z.ws → x.1 < Z.out.length
  good : GoodO s.length Z.i Z.out
theorem blank_at (s : Bytes) {j : Nat} (hj : j ≤ s.length) : j + blankV (s.drop j) ≤ s.length ∧ (s.drop (j + blankV (s.drop j)) = [] ∨ (byte (s.drop (j + blankV (s.drop j))) 0 ≠ 32 ∧ byte (s.drop (j + blankV (s.drop j))) 0 ≠ 9 ∧ byte (s.drop (j + blankV (s.drop j))) 0 ≠ 35)) := by
  have h := blank_facts (s.drop j)
  rw [List.drop_drop] at h
  simp only [List.length_drop] at h
  exact ⟨by omega, h.2⟩
theorem inv_first (s : Bytes) : InvZ s ⟨blankV s, [], []⟩ := by
  have h := blank_at s (Nat.zero_le s.length)
  simp only [Nat.zero_add, List.drop_zero] at h
  exact ⟨h.1, h.2, fun _ h => (by cases h), fun _ h => (by cases h)⟩
theorem inv_mid {s : Bytes} {Z : Zst} (h : InvZ s Z) (he : endZ s Z = false) : Z.i < nxI s Z ∧ nxI s Z ≤ s.length ∧ (∀ x, x ∈ nxW s Z → x.1 < (nxO s Z).length) ∧ GoodO s.length (nxI s Z) (nxO s Z) := by
  obtain ⟨h1, h2⟩ := endZ_no.1 he
  have hr : s.drop Z.i ≠ [] := by intro e; apply h2; unfold tZ nextT; rw [if_pos e]
  rcases nextT_ok hr (h.bl.resolve_left hr) (Z.i : Int) with ⟨h3, _⟩ | ⟨_, _, hn1, hn2, htx, _, hh, _⟩
  · exact absurd h1 h3
  · have hle := h.le
    simp only [List.length_drop] at hn2
    refine ⟨by unfold nxI tZ; omega, by unfold nxI tZ; omega, pushW_lt h.ws, fun u hu => ?_⟩
    rcases List.mem_append.1 hu with hu | hu
    · have := h.good u hu; exact ⟨this.1, by unfold nxI; omega⟩
    · rw [List.mem_singleton.1 hu]
      refine ⟨?_, ?_⟩
      · show (nextT (s.drop Z.i) Z.i).1.text.length ≤ _
        rw [htx, List.length_take, List.length_drop]; omega
      · show (nextT (s.drop Z.i) Z.i).1.here.length ≤ _
        rw [hh]; exact Nat.zero_le _
theorem inv_next {s : Bytes} {Z : Zst} (h : InvZ s Z) (he : endZ s Z = false) : InvZ s (nxZ s Z) ∧ Z.i < (nxZ s Z).i := by
  obtain ⟨h1, h2, h3, h4⟩ := inv_mid h he
  unfold nxZ
  split
  · have hl := linesV_le (nxW s Z) (nxO s Z) (s.drop (nxI s Z))
    rw [List.length_drop] at hl
    obtain ⟨b1, b2⟩ := blank_at s (j := nxI s Z + (linesV (nxO s Z) (nxW s Z) (s.drop (nxI s Z))).2) (by omega)
    exact ⟨⟨b1, b2, fun _ h => (by cases h), (linesV_good _ _ _ _ h4 h3).mono (Nat.le_add_right _ _)⟩, by show Z.i < nxI s Z + _ + _; omega⟩
  · obtain ⟨b1, b2⟩ := blank_at s h2
    exact ⟨⟨b1, b2, h3, h4.mono (Nat.le_add_right _ _)⟩, by show Z.i < nxI s Z + _; omega⟩
theorem yld_at (s : Bytes) : ∀ (k : Nat) (Z : Zst), InvZ s Z → s.length - Z.i < k → 0 < (yldF s k Z).length ∧
    ∀ n, n < (yldF s k Z).length → (yldF s k Z)[n]? = some (yZ s (itZ s n Z)) ∧ InvZ s (itZ s n Z) ∧ (endZ s (itZ s n Z) = true ↔ n + 1 = (yldF s k Z).length)
  | 0, Z, _, h => by omega
  | k + 1, Z, hi, hk => by
    rw [yldF]
    refine ⟨by simp, ?_⟩
    cases he : endZ s Z with
    | true =>
      intro n hn
      simp at hn; subst hn
      exact ⟨rfl, hi, by simp [itZ, he]⟩
    | false =>
      obtain ⟨h1, h2⟩ := inv_next hi he
      have hle := h1.le
      obtain ⟨h3, h4⟩ := yld_at s k (nxZ s Z) h1 (by omega)
      intro n hn
      simp only [Bool.false_eq_true, if_false, List.length_cons] at hn ⊢
      cases n with
      | zero => exact ⟨rfl, hi, by rw [show itZ s 0 Z = Z from rfl, he]; constructor; (intro h; cases h); (intro h; omega)⟩
      | succ n =>
        obtain ⟨h5, h6, h7⟩ := h4 n (by omega)
        exact ⟨by rw [List.getElem?_cons_succ]; exact h5, h6, by rw [show itZ s (n + 1) Z = itZ s n (nxZ s Z) from rfl, h7]; omega⟩
/-- What is told where a lexer ends. -/
def endV (s : Bytes) (Z : Zst) : List Tok × Int × Int := if (tZ s Z).2.2 ≠ 0 then ([], (tZ s Z).1.at_, (tZ s Z).2.2) else ((linesV (nxO s Z) (nxW s Z) []).1, 0, 0)
theorem scan_it (s : Bytes) : ∀ (k i : Nat) (out : List Tok) (ws : List (Nat × Bool)), InvZ s ⟨i + blankV (s.drop i), out, ws⟩ → i ≤ s.length → s.length - i < k → ∀ n, n + 1 = (yldF s k ⟨i + blankV (s.drop i), out, ws⟩).length → scanF k (s.drop i) i out ws = endV s (itZ s n ⟨i + blankV (s.drop i), out, ws⟩)
  | 0, i, out, ws, _, _, h, n, hn => by omega
  | k + 1, i, out, ws, hi, hil, hk, n, hn => by
    rw [yldF] at hn
    have et : tZ s ⟨i + blankV (s.drop i), out, ws⟩ = nextT ((s.drop i).drop (blankV (s.drop i))) ((i : Int) + (blankV (s.drop i) : Nat)) := by
      unfold tZ; rw [List.drop_drop]; rfl
    cases he : endZ s ⟨i + blankV (s.drop i), out, ws⟩ with
    | true =>
      rw [he] at hn
      obtain rfl : n = 0 := by simp at hn; exact hn
      simp only [scanF, ← et]
      show _ = endV s ⟨i + blankV (s.drop i), out, ws⟩
      unfold endV
      rcases endZ_iff.1 he with h | h
      · rw [if_pos h, if_pos h]
      · by_cases h2 : (tZ s ⟨i + blankV (s.drop i), out, ws⟩).2.2 ≠ 0
        · rw [if_pos h2, if_pos h2]
        · rw [if_neg h2, if_neg h2, if_pos h]; rfl
    | false =>
      rw [he] at hn
      simp only [Bool.false_eq_true, if_false, List.length_cons] at hn
      obtain ⟨h1, h2⟩ := endZ_no.1 he
      obtain ⟨m1, m2, m3, m4⟩ := inv_mid hi he
      obtain ⟨q1, q2⟩ := inv_next hi he
      have hp := (yld_at s k _ q1 (by have := q1.le; show _ < k; have := hi.le; simp only at q2 this ⊢; omega)).1
      obtain ⟨n, rfl⟩ : ∃ z, n = z + 1 := ⟨n - 1, by omega⟩
      simp only [scanF, ← et]
      rw [if_neg (by rw [h1]; simp), if_neg h2]
      rw [show itZ s (n + 1) ⟨i + blankV (s.drop i), out, ws⟩ = itZ s n (nxZ s ⟨i + blankV (s.drop i), out, ws⟩) from rfl]
      by_cases h3 : (tZ s ⟨i + blankV (s.drop i), out, ws⟩).1.kind = 3
      · rw [if_pos h3]
        have enx : nxZ s ⟨i + blankV (s.drop i), out, ws⟩ = ⟨nxI s ⟨i + blankV (s.drop i), out, ws⟩ + (linesV (nxO s ⟨i + blankV (s.drop i), out, ws⟩) (nxW s ⟨i + blankV (s.drop i), out, ws⟩) (s.drop (nxI s ⟨i + blankV (s.drop i), out, ws⟩))).2 + blankV (s.drop (nxI s ⟨i + blankV (s.drop i), out, ws⟩ + (linesV (nxO s ⟨i + blankV (s.drop i), out, ws⟩) (nxW s ⟨i + blankV (s.drop i), out, ws⟩) (s.drop (nxI s ⟨i + blankV (s.drop i), out, ws⟩))).2)), (linesV (nxO s ⟨i + blankV (s.drop i), out, ws⟩) (nxW s ⟨i + blankV (s.drop i), out, ws⟩) (s.drop (nxI s ⟨i + blankV (s.drop i), out, ws⟩))).1, []⟩ := by unfold nxZ; rw [if_pos h3]
        have ed : ((s.drop i).drop (blankV (s.drop i))).drop (tZ s ⟨i + blankV (s.drop i), out, ws⟩).2.1 = s.drop (nxI s ⟨i + blankV (s.drop i), out, ws⟩) := by rw [List.drop_drop, List.drop_drop]; unfold nxI; congr 1; exact (Nat.add_assoc _ _ _).symm
        rw [ed, List.drop_drop]
        have hl := linesV_le (nxW s ⟨i + blankV (s.drop i), out, ws⟩) (nxO s ⟨i + blankV (s.drop i), out, ws⟩) (s.drop (nxI s ⟨i + blankV (s.drop i), out, ws⟩))
        rw [List.length_drop] at hl
        rw [enx] at hn q1 ⊢
        have hi2 := hi.le
        simp only at m1 hi2
        have r := scan_it s k (nxI s ⟨i + blankV (s.drop i), out, ws⟩ + (linesV (nxO s ⟨i + blankV (s.drop i), out, ws⟩) (nxW s ⟨i + blankV (s.drop i), out, ws⟩) (s.drop (nxI s ⟨i + blankV (s.drop i), out, ws⟩))).2) _ [] q1 (by omega) (by omega) n (by omega)
        rw [← r]
        congr 1
      · rw [if_neg h3]
        have enx : nxZ s ⟨i + blankV (s.drop i), out, ws⟩ = ⟨nxI s ⟨i + blankV (s.drop i), out, ws⟩ + blankV (s.drop (nxI s ⟨i + blankV (s.drop i), out, ws⟩)), nxO s ⟨i + blankV (s.drop i), out, ws⟩, nxW s ⟨i + blankV (s.drop i), out, ws⟩⟩ := by unfold nxZ; rw [if_neg h3]
        have ed : ((s.drop i).drop (blankV (s.drop i))).drop (tZ s ⟨i + blankV (s.drop i), out, ws⟩).2.1 = s.drop (nxI s ⟨i + blankV (s.drop i), out, ws⟩) := by rw [List.drop_drop, List.drop_drop]; unfold nxI; congr 1; exact (Nat.add_assoc _ _ _).symm
        rw [ed]
        rw [enx] at hn q1 ⊢
        have hi2 := hi.le
        simp only at m1 hi2
        have r := scan_it s k (nxI s ⟨i + blankV (s.drop i), out, ws⟩) _ _ q1 m2 (by omega) n (by omega)
        rw [← r]
        congr 1
/-- What is told ahead of the n-th token. -/
def mO (s : Bytes) (n : Nat) : List Tok := match n with | 0 => [] | n + 1 => nxO s (itZ s n ⟨blankV s, [], []⟩)
def mW (s : Bytes) (n : Nat) : List (Nat × Bool) := match n with | 0 => [] | n + 1 => nxW s (itZ s n ⟨blankV s, [], []⟩)
theorem tokensV_end {s : Bytes} (hs : s.length ≤ 16384) {n : Nat} (hn : n + 1 = (yldF s (s.length + 1) ⟨blankV s, [], []⟩).length) : tokensV s = endV s (itZ s n ⟨blankV s, [], []⟩) := by
  unfold tokensV; rw [if_neg (by omega)]
  have h := scan_it s (s.length + 1) 0 [] [] (by simpa using inv_first s) (Nat.zero_le _) (by omega) n (by simpa using hn)
  simpa using h
end Go.Proofs.YtghjmiggobpmoaaGreatDoor.K
set_option linter.unusedVariables false
set_option linter.unusedSimpArgs false
set_option autoImplicit false
namespace Go.Proofs.YtghjmiggobpmoaaGreatDoor.K
open Go
section rules
variable {P : Program} {X : Value → World → Prop} {r : Option Nat} {n : Nat} {O : Array Oper} {Q : Post} {l : List Oper} {E : Env} {ds : List Deferred} {w : World} {dst : Option Nat} {ty : TypeId} {pos : String} {af : Array Edge} {g : Option (Nat × Bool)}
end rules
/-! ### the call's own row, as a block -/
def flatC {α : Type} (f : α → List Value) (xs : List α) : List Value := xs.flatMap f
section flat
variable {α : Type} {sz : Nat} {f : α → List Value} {hp : 0 < sz} {hl : ∀ x, (f x).length = sz} {ho : ∀ x, ∀ u ∈ f x, u.oneCell' = true} {w : World} {D : Nat → Prop}
theorem flatC_len (hl : ∀ x, (f x).length = sz) (xs : List α) : (flatC f xs).length = xs.length * sz := by
  induction xs with
  | nil => simp [flatC]
  | cons x xs ih => simp only [flatC, List.flatMap_cons, List.length_append, List.length_cons, hl] at *; rw [ih, Nat.add_mul]; omega
theorem flatC_chunks (hl : ∀ x, (f x).length = sz) (xs : List α) : Chunks (Enc.flat sz f hp hl ho) w D xs (flatC f xs) := by
  induction xs with
  | nil => exact .nil
  | cons x xs ih => exact Chunks.cons (rfl : (Enc.flat sz f hp hl ho).R w D x (f x)) ih
theorem chunks_flatC {xs : List α} {cs : List Value} (h : Chunks (Enc.flat sz f hp hl ho) w D xs cs) : cs = flatC f xs := by
  have h2 := flatC_chunks (w := w) (D := D) (hp := hp) (ho := ho) hl xs
  apply List.ext_getElem?
  intro j
  by_cases hj : j < cs.length
  · have hjx : j / sz < xs.length := by rw [h.1] at hj; exact Nat.div_lt_of_lt_mul (by rw [Nat.mul_comm]; exact hj)
    obtain ⟨x, hx⟩ : ∃ x, xs[j / sz]? = some x := ⟨_, List.getElem?_eq_getElem hjx⟩
    obtain ⟨vs, rfl, h3⟩ := h.2 _ x hx
    obtain ⟨us, rfl, h4⟩ := h2.2 _ x hx
    have hm : j % sz < (f x).length := by rw [hl]; exact Nat.mod_lt _ hp
    have e : j / sz * sz + j % sz = j := Nat.div_add_mod' j sz
    have h5 := h3 (j % sz) _ (List.getElem?_eq_getElem hm)
    have h6 := h4 (j % sz) _ (List.getElem?_eq_getElem hm)
    rw [show j / sz * (Enc.flat sz f hp hl ho).sz + j % sz = j from e] at h5 h6
    rw [h5, h6]
  · rw [List.getElem?_eq_none (by omega), List.getElem?_eq_none (by rw [flatC_len hl]; have := h.1; show xs.length * sz ≤ j; rw [show cs.length = xs.length * sz from this] at hj; omega)]
theorem Own.raw {e : TypeId} {a : Addr} {cap : Nat} {xs : List α} (h : Own (Enc.flat sz f hp hl ho) e w D (some a) cap xs) : ∃ g rest, a = ⟨g, 0, none⟩ ∧ Blk w g (flatC f xs ++ rest) e ∧ (flatC f xs ++ rest).length = cap * sz ∧ xs.length ≤ cap ∧ cap ≤ 9223372036854775807 ∧ D g := by
  obtain ⟨cs, h1, h2, h3⟩ := h
  rcases h1.2 with ⟨h4, _⟩ | ⟨g, cp, cur, h4, h5, h6, h7, h8, h9, h10⟩
  · simp at h4
  · simp only [Value.slice.injEq, Option.some.injEq] at h4
    obtain ⟨rfl, _, rfl⟩ := h4
    have hcs := chunks_flatC h3
    subst hcs
    replace h10 : List.take (xs.length * sz) cur.toList = flatC f xs := h10
    replace h9 : cur.size = cap * sz := h9
    refine ⟨g, cur.toList.drop (xs.length * sz), rfl, ?_, ?_, h7, by simpa [maxLen] using h8, h2 g (by simp [ob])⟩
    · rw [← h10, List.take_append_drop]; exact h6
    · rw [← h10, List.take_append_drop]; simpa using h9
theorem Own.of_raw {e : TypeId} {g cap : Nat} {xs : List α} {rest : List Value} (hb : Blk w g (flatC f xs ++ rest) e) (hlen : (flatC f xs ++ rest).length = cap * sz) (hle : xs.length ≤ cap) (hcap : cap ≤ 9223372036854775807) (hD : D g) : Own (Enc.flat sz f hp hl ho) e w D (some ⟨g, 0, none⟩) cap xs := by
  refine ⟨flatC f xs, ⟨flatC_len hl xs, .inr ⟨g, cap, _, rfl, Nat.zero_le _, hb, hle, by simpa [maxLen] using hcap, (show Array.size ⟨flatC f xs ++ rest⟩ = cap * sz from by simpa using hlen), ?_⟩⟩, fun k hk => by simp [ob] at hk; subst hk; exact hD, flatC_chunks hl xs⟩
  show (flatC f xs ++ rest).take (xs.length * sz) = flatC f xs
  rw [← flatC_len hl xs, List.take_left]
end flat
end Go.Proofs.YtghjmiggobpmoaaGreatDoor.K
set_option linter.unusedVariables false
set_option linter.unusedSimpArgs false
set_option autoImplicit false
namespace Go.Proofs.YtghjmiggobpmoaaGreatDoor.K
open Go
section rules
variable {P : Program} {r : Option Nat} {n : Nat} {O : Array Oper} {Q : Post} {l : List Oper} {E : Env} {ds : List Deferred} {w : World} {dst : Option Nat} {ty : TypeId} {pos : String} {af : Array Edge} {g : Option (Nat × Bool)}
end rules
end Go.Proofs.YtghjmiggobpmoaaGreatDoor.K
