import Derived.Test.YthggegbljpmecaaDoorScan
set_option linter.unusedVariables false
set_option linter.unusedSimpArgs false
set_option autoImplicit false
set_option maxRecDepth 20000
namespace Go.Proofs.YthggegbljpmecaaDoor.K
open Go Go.RowKit

/-- A token without what lines hand it. -/
def skel (t : Tok) : Int × Bytes × Int := (t.kind, t.text, t.at_)
theorem linesV_skel : ∀ (ws : List (Nat × Bool)) (out : List Tok) (r : Bytes), (linesV out ws r).1.map skel = out.map skel
  | [], out, r => rfl
  | (j, st) :: ws, out, r => by
    simp only [linesV]
    rw [linesV_skel ws]
    apply List.ext_getElem?
    intro i
    simp only [List.getElem?_map, List.getElem?_set]
    by_cases h : j = i
    · subst h
      by_cases hj : j < out.length
      · rw [if_pos rfl, if_pos hj]
        simp [List.getD_eq_getElem?_getD, hj, skel]
      · rw [if_pos rfl, if_neg hj]
        simp [hj]
    · rw [if_neg h]
theorem linesV_len (ws : List (Nat × Bool)) (out : List Tok) (r : Bytes) : (linesV out ws r).1.length = out.length := by
  have := congrArg List.length (linesV_skel ws out r); simpa using this
theorem cut_le (s c : Bytes) : (Lib.cut s c).1.length ≤ s.length := by
  unfold Lib.cut; split
  · simp only [List.length_take]; omega
  · exact Nat.le_refl _
theorem cut_more {s c : Bytes} (h : (Lib.cut s c).2.2 = true) : (Lib.cut s c).1.length + c.length ≤ s.length := by
  unfold Lib.cut at h ⊢; split
  · rename_i hk
    have := Lib.index_room s c hk
    simp only [List.length_take]
    omega
  · rename_i hk; rw [if_neg hk] at h; cases h
theorem bodyL_le (fin : Bytes) (strip : Bool) : ∀ (k : Nat) (r : Bytes), (bodyL fin strip k r).2 ≤ r.length
  | 0, r => by simp [bodyL]
  | k + 1, r => by
    simp only [bodyL]
    split
    · simp
    · have h1 : (Lib.cut r [10]).1.length + (if (Lib.cut r [10]).2.2 = true then 1 else 0) ≤ r.length := by
        by_cases h : (Lib.cut r [10]).2.2 = true
        · rw [if_pos h]; exact cut_more h
        · rw [if_neg h]; exact cut_le _ _
      generalize (if strip = true then trimT (Lib.cut r [10]).1 else (Lib.cut r [10]).1) = q
      split
      · exact h1
      · have h2 := bodyL_le fin strip k (r.drop ((Lib.cut r [10]).1.length + (if (Lib.cut r [10]).2.2 = true then 1 else 0)))
        simp only [List.length_drop] at h2
        show _ + (_ + _) ≤ _
        omega
theorem linesV_le : ∀ (ws : List (Nat × Bool)) (out : List Tok) (r : Bytes), (linesV out ws r).2 ≤ r.length
  | [], out, r => by simp [linesV]
  | (j, st) :: ws, out, r => by
    simp only [linesV]
    have h1 := linesV_le ws (out.set j { (out.getD j ⟨0, [], 0, [], false⟩) with here := (out.getD j ⟨0, [], 0, [], false⟩).here ++ (bodyV (plainV (out.getD j ⟨0, [], 0, [], false⟩).text).1 st r).1, raw := (plainV (out.getD j ⟨0, [], 0, [], false⟩).text).2 }) (r.drop (bodyV (plainV (out.getD j ⟨0, [], 0, [], false⟩).text).1 st r).2)
    have h2 := bodyL_le (plainV (out.getD j ⟨0, [], 0, [], false⟩).text).1 st r.length r
    simp only [List.length_drop] at h1
    show _ + (bodyL _ _ _ _).2 ≤ _
    simp only [bodyV] at h1 ⊢
    omega
/-- What is known of the tokens so far. -/
structure Placed (s : Bytes) (i : Nat) (l : List (Int × Bytes × Int)) : Prop where
  at_ : ∀ x, x ∈ l → x.1 ≠ 0 ∧ 0 ≤ x.2.2 ∧ x.2.2.toNat + x.2.1.length ≤ i ∧ (s.drop x.2.2.toNat).take x.2.1.length = x.2.1
  up : ∀ (j : Nat) x y, l[j]? = some x → l[j + 1]? = some y → x.2.2 + x.2.1.length ≤ y.2.2
theorem Placed.nil {s : Bytes} {i : Nat} : Placed s i [] := ⟨fun x h => (by cases h), fun j x y h => (by simp at h)⟩
theorem Placed.push {s : Bytes} {i i2 : Nat} {l : List (Int × Bytes × Int)} {k : Int} {n : Nat} (h : Placed s i l) (hi : i ≤ i2) (hk : k ≠ 0) (hn : i2 + n ≤ s.length) : Placed s (i2 + n) (l ++ [(k, (s.drop i2).take n, (i2 : Int))]) := by
  have hl : ((s.drop i2).take n).length = n := by simp; omega
  refine ⟨fun x hx => ?_, fun j x y hx hy => ?_⟩
  · rcases List.mem_append.1 hx with hx | hx
    · obtain ⟨h1, h2, h3, h4⟩ := h.at_ x hx; exact ⟨h1, h2, by omega, h4⟩
    · rw [List.mem_singleton.1 hx]
      refine ⟨hk, Int.natCast_nonneg _, ?_, ?_⟩
      · show (i2 : Int).toNat + ((s.drop i2).take n).length ≤ i2 + n
        rw [hl]; omega
      · show (s.drop (i2 : Int).toNat).take ((s.drop i2).take n).length = _
        rw [hl, Int.toNat_natCast]
  · by_cases hj : j + 1 < l.length
    · rw [List.getElem?_append_left (by omega)] at hx
      rw [List.getElem?_append_left hj] at hy
      exact h.up j x y hx hy
    · have h1 : j + 1 = l.length := by
        have := (List.getElem?_eq_some_iff.1 hy).1
        simp at this; omega
      rw [List.getElem?_append_left (by omega)] at hx
      rw [h1, List.getElem?_append_right (Nat.le_refl _), Nat.sub_self] at hy
      simp only [List.getElem?_cons_zero, Option.some.injEq] at hy
      subst hy
      obtain ⟨_, h2, h3, _⟩ := h.at_ x (List.mem_of_getElem? hx)
      show x.2.2 + _ ≤ (i2 : Int)
      omega
/-- What the token that stands ahead of r is. -/
theorem nextT_ok {r : Bytes} (hr : r ≠ []) (hb : byte r 0 ≠ 32 ∧ byte r 0 ≠ 9 ∧ byte r 0 ≠ 35) (i : Int) :
    ((nextT r i).2.2 ≠ 0 ∧ ∃ j : Nat, (nextT r i).1.at_ = i + j ∧ j < r.length) ∨
    ((nextT r i).2.2 = 0 ∧ (nextT r i).1.kind ≠ 0 ∧ 1 ≤ (nextT r i).2.1 ∧ (nextT r i).2.1 ≤ r.length ∧ (nextT r i).1.text = r.take (nextT r i).2.1 ∧ (nextT r i).1.at_ = i ∧ (nextT r i).1.here = [] ∧ (nextT r i).1.raw = false) := by
  unfold nextT
  rw [if_neg hr]
  split
  · right
    rename_i h
    obtain ⟨c, t, rfl⟩ : ∃ c t, r = c :: t := by cases r with | nil => exact absurd rfl hr | cons c t => exact ⟨c, t, rfl⟩
    have hb : byte (c :: t) 0 = c := rfl
    rw [hb] at h; subst h
    simp
  · rename_i h10
    split
    · rename_i hm
      obtain ⟨j, h1, h2, h3, h4, h5, h6⟩ := op_hit hm h10 hb.1 hb.2.1 hr
      right
      refine ⟨rfl, by show (2 : Int) ≠ 0; decide, h5, h6, ?_, rfl, rfl, rfl⟩
      have := List.isPrefixOf_iff_prefix.1 h4
      show opT r = r.take (opT r).length
      exact List.prefix_iff_eq_take.1 this
    · rename_i hm
      have hm' : metaB (byte r 0) = false := by simpa using hm
      split
      · rename_i he
        exact .inl ⟨by simpa using he, _, rfl, wordL_err _ _ he⟩
      · rename_i he
        have he' : (wordV r).2 = 0 := by simpa using he
        exact .inr ⟨rfl, by show ite _ _ _ ≠ (0 : Int); split <;> decide, wordV_pos hr hm' he', wordL_le _ _, rfl, rfl, rfl, rfl⟩
theorem drop_drop_at {s : Bytes} {i b : Nat} : (s.drop i).drop b = s.drop (i + b) := by rw [List.drop_drop]
theorem scan_places (s : Bytes) : ∀ (k i : Nat) (out : List Tok) (ws : List (Nat × Bool)), i ≤ s.length → s.length - i < k → Placed s i (out.map skel) →
    ((scanF k (s.drop i) i out ws).2.2 ≠ 0 ∧ (scanF k (s.drop i) i out ws).1 = [] ∧ 0 ≤ (scanF k (s.drop i) i out ws).2.1 ∧ (scanF k (s.drop i) i out ws).2.1 < s.length) ∨
    ((scanF k (s.drop i) i out ws).2 = (0, 0) ∧ ∃ pre, (scanF k (s.drop i) i out ws).1.map skel = pre ++ [(0, [], (s.length : Int))] ∧ Placed s s.length pre)
  | 0, i, out, ws, hi, hk, hp => by omega
  | k + 1, i, out, ws, hi, hk, hp => by
    have hbl := blankL_le (s.drop i).length (s.drop i)
    have hbs := blankL_stop (s.drop i).length (s.drop i) (Nat.le_refl _)
    simp only [List.length_drop] at hbl
    have hbv : blankV (s.drop i) = blankL (s.length - i) (s.drop i) := by simp [blankV]
    simp only [List.length_drop, ← hbv] at hbl hbs
    simp only [scanF]
    generalize hB : blankV (s.drop i) = b at hbl hbs ⊢
    rw [drop_drop_at] at hbs ⊢
    by_cases hr : s.drop (i + b) = []
    · have hib : i + b = s.length := by have := List.drop_eq_nil_iff.1 hr; omega
      have hn : nextT (s.drop (i + b)) ((i : Int) + b) = (⟨0, [], (i : Int) + b, [], false⟩, 0, 0) := by unfold nextT; rw [if_pos hr]
      right
      rw [hn]
      simp only []
      rw [if_neg (by simp), if_pos trivial]
      refine ⟨rfl, out.map skel, ?_, ⟨fun x hx => ?_, hp.up⟩⟩
      · rw [linesV_skel, List.map_append]
        congr 1
        simp only [List.map_cons, List.map_nil, skel]
        rw [← hib]; simp
      · obtain ⟨h1, h2, h3, h4⟩ := hp.at_ x hx; exact ⟨h1, h2, by omega, h4⟩
    · have hb := hbs.resolve_left hr
      have hlt : i + b < s.length := by
        rcases Nat.lt_or_ge (i + b) s.length with h | h
        · exact h
        · exact absurd (List.drop_eq_nil_of_le h) hr
      have hlen : (s.drop (i + b)).length = s.length - (i + b) := by simp
      rcases nextT_ok hr hb ((i : Int) + b) with ⟨he, j, hj, hj2⟩ | ⟨he, hk0, hn1, hn2, htx, hat, hh, hraw⟩
      · left
        rw [if_pos he]
        rw [hlen] at hj2
        exact ⟨he, rfl, by rw [hj]; show 0 ≤ (i : Int) + b + j; omega, by rw [hj]; show (i : Int) + b + j < _; omega⟩
      · rw [if_neg (by simpa using he), if_neg hk0]
        generalize hN : nextT (s.drop (i + b)) ((i : Int) + b) = z at *
        rw [hlen] at hn2
        have hpl : Placed s (i + b + z.2.1) ((out ++ [z.1]).map skel) := by
          rw [List.map_append]
          have := Placed.push (n := z.2.1) hp (i2 := i + b) (by omega) hk0 (by omega)
          simpa [skel, htx, hat] using this
        have hc1 : ((i : Int) + b + z.2.1) = ((i + b + z.2.1 : Nat) : Int) := by omega
        split
        · have hl := linesV_le (pushW out ws z.1) (out ++ [z.1]) ((s.drop (i + b)).drop z.2.1)
          have hs := linesV_skel (pushW out ws z.1) (out ++ [z.1]) ((s.drop (i + b)).drop z.2.1)
          simp only [List.length_drop] at hl
          rw [drop_drop_at] at hl hs
          rw [drop_drop_at (b := z.2.1)]
          generalize linesV (out ++ [z.1]) (pushW out ws z.1) (s.drop (i + b + z.2.1)) = y at hl hs ⊢
          rw [drop_drop_at, hc1, ← Int.natCast_add]
          refine scan_places s k (i + b + z.2.1 + y.2) y.1 [] (by omega) (by omega) ?_
          rw [hs]
          exact ⟨fun x hx => let ⟨h1, h2, h3, h4⟩ := hpl.at_ x hx; ⟨h1, h2, by omega, h4⟩, hpl.up⟩
        · rw [drop_drop_at, hc1]
          exact scan_places s k (i + b + z.2.1) (out ++ [z.1]) (pushW out ws z.1) (by omega) (by omega) hpl
/-- What the law asks of a row of tokens. -/
structure GoodT (s : Bytes) (l : List Tok) : Prop where
  at_ : ∀ (i : Nat) (x : Tok), l[i]? = some x → 0 ≤ x.at_ ∧ x.at_ ≤ s.length ∧ (x.text.length : Int) ≤ s.length - x.at_ ∧ (s.drop x.at_.toNat).take x.text.length = x.text
  up : ∀ (i : Nat) (x y : Tok), l[i]? = some x → l[i + 1]? = some y → x.at_ + x.text.length ≤ y.at_
  fin : ∀ (i : Nat) (x : Tok), l[i]? = some x → (x.kind = 0 ↔ i + 1 = l.length)
  last : ∃ n z, l.length = n + 1 ∧ l[n]? = some z ∧ z.at_ = s.length
theorem tokens_places {s : Bytes} (hs : s.length ≤ 3000) : ((tokensV s).2.2 ≠ 0 ∧ (tokensV s).1 = [] ∧ 0 ≤ (tokensV s).2.1 ∧ (tokensV s).2.1 < s.length) ∨ ((tokensV s).2 = (0, 0) ∧ GoodT s (tokensV s).1) := by
  have h := scan_places s (s.length + 1) 0 [] [] (Nat.zero_le _) (by omega) .nil
  rw [tokensV, if_neg (by omega)]
  rw [List.drop_zero] at h
  refine h.imp id ?_
  rintro ⟨h1, pre, h2, h3⟩
  refine ⟨h1, ?_⟩
  generalize (scanF (s.length + 1) s ((0 : Nat) : Int) [] []).1 = l at h2
  have hl : l.length = pre.length + 1 := by have := congrArg List.length h2; simpa using this
  have hx : ∀ (i : Nat) (x : Tok), l[i]? = some x → (pre ++ [(0, [], (s.length : Int))])[i]? = some (skel x) := fun i x hx => by
    rw [← h2, List.getElem?_map, hx]; rfl
  refine ⟨fun i x h => ?_, fun i x y h h' => ?_, fun i x h => ?_, ?_⟩
  · have h5 := hx i x h
    rcases Nat.lt_or_ge i pre.length with hi | hi
    · rw [List.getElem?_append_left hi] at h5
      obtain ⟨_, q2, q3, q4⟩ := h3.at_ _ (List.mem_of_getElem? h5)
      simp only [skel] at q2 q3 q4
      exact ⟨q2, by omega, by omega, q4⟩
    · have : i = pre.length := by have := (List.getElem?_eq_some_iff.1 h).1; omega
      rw [this, List.getElem?_append_right (Nat.le_refl _), Nat.sub_self] at h5
      simp only [List.getElem?_cons_zero, Option.some.injEq, skel, Prod.mk.injEq] at h5
      obtain ⟨_, q2, q3⟩ := h5
      rw [← q2, ← q3]; simp
  · have h5 := hx i x h; have h6 := hx _ y h'
    rcases Nat.lt_or_ge (i + 1) pre.length with hi | hi
    · rw [List.getElem?_append_left (by omega)] at h5
      rw [List.getElem?_append_left hi] at h6
      exact h3.up i _ _ h5 h6
    · have : i + 1 = pre.length := by have := (List.getElem?_eq_some_iff.1 h').1; omega
      rw [List.getElem?_append_left (by omega)] at h5
      rw [this, List.getElem?_append_right (Nat.le_refl _), Nat.sub_self] at h6
      simp only [List.getElem?_cons_zero, Option.some.injEq, skel, Prod.mk.injEq] at h6
      obtain ⟨_, q2, q3⟩ := h3.at_ _ (List.mem_of_getElem? h5)
      simp only [skel] at q2 q3
      omega
  · have h5 := hx i x h
    rcases Nat.lt_or_ge i pre.length with hi | hi
    · rw [List.getElem?_append_left hi] at h5
      have := (h3.at_ _ (List.mem_of_getElem? h5)).1
      simp only [skel] at this
      exact ⟨fun e => absurd e this, fun e => by omega⟩
    · have : i = pre.length := by have := (List.getElem?_eq_some_iff.1 h).1; omega
      rw [this, List.getElem?_append_right (Nat.le_refl _), Nat.sub_self] at h5
      simp only [List.getElem?_cons_zero, Option.some.injEq, skel, Prod.mk.injEq] at h5
      exact ⟨fun _ => by omega, fun _ => h5.1.symm⟩
  · obtain ⟨z, hz⟩ : ∃ z, l[pre.length]? = some z := ⟨_, List.getElem?_eq_getElem (by omega)⟩
    have h5 := hx _ z hz
    rw [List.getElem?_append_right (Nat.le_refl _), Nat.sub_self] at h5
    simp only [List.getElem?_cons_zero, Option.some.injEq, skel, Prod.mk.injEq] at h5
    exact ⟨pre.length, z, hl, hz, h5.2.2.symm⟩
end Go.Proofs.YthggegbljpmecaaDoor.K
set_option linter.unusedVariables false
set_option linter.unusedSimpArgs false
set_option autoImplicit false
set_option maxRecDepth 20000
namespace Go.Proofs.YthggegbljpmecaaDoor.K
open Go Go.RowKit

def L10 (r : Bytes) : Prop := r.getLast? = some 10
theorem L10.drop {r : Bytes} (h : L10 r) {j : Nat} (hj : r.drop j ≠ []) : L10 (r.drop j) := by
  unfold L10 at h ⊢
  rw [List.getLast?_drop, if_neg (by intro h9; exact hj (List.drop_eq_nil_of_le h9))]; exact h
theorem L10.one {c : UInt8} (h : L10 [c]) : c = 10 := by simpa [L10] using h
theorem L10.ne {r : Bytes} (h : L10 r) : r ≠ [] := by intro e; subst e; simp [L10] at h
theorem L10.tail {c : UInt8} {u : Bytes} (h : L10 (c :: u)) (hu : u ≠ []) : L10 u := by
  have := L10.drop (j := 1) h (by simpa using hu); simpa using this
theorem runL_ext {m : UInt8} {esc : Bool} (t : Bytes) : ∀ (n : Nat) (r : Bytes) (k : Nat), r.length ≤ n → runL m esc r = some k → runL m esc (r ++ t) = some k
  | 0, r, k, hn, h => by rw [show r = [] from List.length_eq_zero_iff.1 (by omega)] at h; cases h
  | n + 1, [], k, _, h => by cases h
  | n + 1, [c], k, _, h => by
    simp only [runL] at h; split at h
    · rename_i hc; cases t <;> simp [runL, hc, ← h]
    · cases h
  | n + 1, c :: d :: u, k, hn, h => by
    simp only [List.length_cons] at hn
    show runL m esc (c :: d :: (u ++ t)) = some k
    simp only [runL] at h ⊢
    split at h
    · rename_i hc; rw [if_pos hc]; exact h
    · rename_i hc
      rw [if_neg hc]
      split at h
      · rename_i he
        rw [if_pos he]
        cases h1 : runL m esc u with
        | none => rw [h1] at h; cases h
        | some j => rw [runL_ext t n u j (by omega) h1]; rw [h1] at h; exact h
      · rename_i he
        rw [if_neg he]
        cases h1 : runL m esc (d :: u) with
        | none => rw [h1] at h; cases h
        | some j =>
          have := runL_ext t n (d :: u) j (by simp only [List.length_cons]; omega) h1
          rw [show d :: (u ++ t) = (d :: u) ++ t from rfl, this]; rw [h1] at h; exact h
theorem untilN_ext {σ : Type} {sk : Bytes → Except Nat Nat} {beg : UInt8 → Bool} {fin : σ → UInt8 → Bool × σ} (t : Bytes) (hsk : ∀ r k, L10 r → sk r = .ok k → sk (r ++ t) = .ok k) : ∀ (n n' : Nat) (st : σ) (r : Bytes) (k : Nat), n ≤ n' → (r ≠ [] → L10 r) → untilN sk beg fin n st r = .ok k → untilN sk beg fin n' st (r ++ t) = .ok k
  | 0, _, _, _, k, _, _, h => by cases h
  | n + 1, 0, _, _, _, hn, _, _ => by omega
  | n + 1, n' + 1, st, [], k, _, _, h => by cases h
  | n + 1, n' + 1, st, c :: u, k, hn, hr, h => by
    have hL := hr (by simp)
    rw [List.cons_append]
    simp only [untilN] at h ⊢
    split at h
    · rename_i hf; rw [if_pos hf]; exact h
    · rename_i hf
      rw [if_neg hf]
      split at h
      · rename_i hb
        rw [if_pos hb]
        split at h
        · cases h
        · rename_i j hj
          have h2 := hsk _ _ hL hj
          rw [List.cons_append] at h2
          rw [h2]
          simp only []
          obtain ⟨i, h3, rfl⟩ := map_ok h
          have hne : (c :: u).drop j ≠ [] := by intro e; rw [e] at h3; cases n <;> cases h3
          have hjl : j ≤ (c :: u).length := by
            rcases Nat.lt_or_ge (c :: u).length j with h9 | h9
            · exact absurd (List.drop_eq_nil_of_le (Nat.le_of_lt h9)) hne
            · exact h9
          have h4 := untilN_ext t hsk n n' _ _ _ (by omega) (fun _ => hL.drop hne) h3
          rw [← List.drop_append_of_le_length hjl, List.cons_append] at h4
          rw [h4]; rfl
      · rename_i hb
        rw [if_neg hb]
        obtain ⟨i, h3, rfl⟩ := map_ok h
        have hne : u ≠ [] := by intro e; rw [e] at h3; cases n <;> cases h3
        have h4 := untilN_ext t hsk n n' _ _ _ (by omega) (fun _ => hL.tail hne) h3
        rw [h4]; rfl
theorem skipL_ext (t : Bytes) : ∀ (f : Nat) (r : Bytes) (k : Nat), L10 r → skipL f r = .ok k → skipL f (r ++ t) = .ok k
  | 0, r, k, _, h => by cases h
  | f + 1, [], k, hL, _ => absurd rfl hL.ne
  | f + 1, c :: u, k, hL, h => by
    have run : ∀ {m : UInt8} {esc : Bool} {k : Nat}, (orSyn (runL m esc u)).map (· + 1) = .ok k → (orSyn (runL m esc (u ++ t))).map (· + 1) = .ok k := fun {m esc k} h => by
      cases h1 : runL m esc u with
      | none => rw [h1] at h; cases h
      | some j => rw [runL_ext t u.length u j (Nat.le_refl _) h1]; rw [h1] at h; exact h
    rw [List.cons_append, skipL_cons]
    rw [skipL_cons] at h
    split at h
    · rename_i hc
      rw [if_pos hc]
      have hu : u ≠ [] := by intro e; subst e; have := hL.one; rw [hc] at this; exact absurd this (by decide)
      have h1 := List.length_pos_iff.2 hu
      rw [← h]; congr 1; rw [List.length_append]; omega
    · rename_i hc
      rw [if_neg hc]
      split at h
      · rename_i h39; rw [if_pos h39]; exact run h
      · rename_i h39
        rw [if_neg h39]
        split at h
        · rename_i h96; rw [if_pos h96]; exact run h
        · rename_i h96
          rw [if_neg h96]
          split at h
          · rename_i h34
            rw [if_pos h34]
            obtain ⟨i, h3, rfl⟩ := map_ok h
            rw [untilN_ext t (fun r k => skipL_ext t f r k) _ (u ++ t).length _ _ _ (by rw [List.length_append]; omega) (fun hu => hL.tail hu) h3]; rfl
          · rename_i h34
            rw [if_neg h34]
            split at h
            · rename_i h36
              rw [if_pos h36]
              split at h
              · have := hL.one; rw [h36] at this; exact absurd this (by decide)
              · rename_i d v
                rw [List.cons_append]
                simp only []
                split at h
                · rename_i h40
                  rw [if_pos h40]
                  obtain ⟨i, h3, rfl⟩ := map_ok h
                  rw [untilN_ext t (fun r k => skipL_ext t f r k) _ (v ++ t).length _ _ _ (by rw [List.length_append]; omega) (fun hv => (hL.tail (by simp)).tail hv) h3]; rfl
                · rename_i h40
                  rw [if_neg h40]
                  split at h
                  · rename_i h123
                    rw [if_pos h123]
                    obtain ⟨i, h3, rfl⟩ := map_ok h
                    rw [untilN_ext t (fun r k => skipL_ext t f r k) _ (v ++ t).length _ _ _ (by rw [List.length_append]; omega) (fun hv => (hL.tail (by simp)).tail hv) h3]; rfl
                  · rename_i h123; rw [if_neg h123]; exact h
            · rename_i h36; rw [if_neg h36]; exact h
theorem wordL_ext (t : Bytes) : ∀ (k k' : Nat) (r : Bytes), r.length ≤ k → r.length ≤ k' → L10 r → (wordL k r).2 = 0 → r.drop (wordL k r).1 ≠ [] → wordL k' (r ++ t) = wordL k r
  | 0, _, r, hk, _, hL, _, _ => absurd (List.length_eq_zero_iff.1 (by omega)) hL.ne
  | k + 1, _, [], _, _, hL, _, _ => absurd rfl hL.ne
  | k + 1, 0, c :: u, _, hk', _, _, _ => by simp at hk'
  | k + 1, k' + 1, c :: u, hk, hk', hL, he, hd => by
    rw [List.cons_append]
    simp only [wordL] at he hd ⊢
    split at he
    · rename_i hm; rw [if_pos hm, if_pos hm]
    · rename_i hm
      rw [if_neg hm] at hd
      rw [if_neg hm, if_neg hm]
      cases hs : skipL 64 (c :: u) with
      | error e => rw [hs] at he; exact absurd he (skipL_err _ _ _ hs)
      | ok n =>
        rw [hs] at he hd
        have h2 := skipL_ext t _ _ _ hL hs
        rw [List.cons_append] at h2
        rw [h2]
        simp only [] at he hd ⊢
        have h1 := skipL_le _ _ _ (by simp) hs
        simp only [List.length_cons] at hk hk' h1
        have hne : (c :: u).drop n ≠ [] := by
          intro e
          have h5 := wordL_le k ((c :: u).drop n)
          rw [e] at h5
          refine hd (List.drop_eq_nil_of_le ?_)
          have := List.drop_eq_nil_iff.1 e
          omega
        have h6 := wordL_ext t k k' ((c :: u).drop n) (by simp only [List.length_drop, List.length_cons]; omega) (by simp only [List.length_drop, List.length_cons]; omega) (hL.drop hne) he (by rw [List.drop_drop, Nat.add_comm]; exact hd)
        rw [← List.drop_append_of_le_length (by simp only [List.length_cons]; omega), List.cons_append] at h6
        rw [h6]
theorem idx_app {c : UInt8} : ∀ {s t : Bytes}, 0 ≤ idx s c → idx (s ++ t) c = idx s c
  | [], _, h => by simp [idx, Lib.indexByte] at h
  | d :: s, t, h => by
    simp only [idx, List.cons_append, Lib.indexByte] at h ⊢
    split at h
    · rename_i hd; rw [if_pos hd, if_pos hd]
    · rename_i hd
      rw [if_neg hd, if_neg hd]
      split at h
      · omega
      · rename_i hn
        have h1 : 0 ≤ idx s c := by
          rcases Int.lt_or_le (idx s c) 0 with h9 | h9
          · exact absurd (idx_neg h9) (by simpa using hn)
          · exact h9
        have h2 := idx_app (t := t) h1
        simp only [idx] at h2
        rw [h2]
theorem hasP_app {r p t : Bytes} (h : p.length ≤ r.length) : Lib.hasPrefix (r ++ t) p = Lib.hasPrefix r p := by
  simp only [Lib.hasPrefix]
  rw [Bool.eq_iff_iff, List.isPrefixOf_iff_prefix, List.isPrefixOf_iff_prefix]
  constructor
  · intro h1; exact List.prefix_of_prefix_length_le h1 (List.prefix_append r t) h
  · intro h1; exact h1.trans (List.prefix_append r t)
theorem hasP_no {r p t : Bytes} (hL : L10 r) (hp : (10 : UInt8) ∉ p) : Lib.hasPrefix (r ++ t) p = Lib.hasPrefix r p := by
  rcases Nat.lt_or_ge r.length p.length with h | h
  · have h1 : Lib.hasPrefix r p = false := by
      cases h2 : Lib.hasPrefix r p with
      | false => rfl
      | true => have := pre_len h2; omega
    rw [h1]
    cases h2 : Lib.hasPrefix (r ++ t) p with
    | false => rfl
    | true =>
      exfalso
      simp only [Lib.hasPrefix] at h2
      have h3 := List.isPrefixOf_iff_prefix.1 h2
      have h4 : r <+: p := List.prefix_of_prefix_length_le (List.prefix_append r t) h3 (by omega)
      exact hp (h4.subset (List.mem_of_getLast? hL))
  · exact hasP_app h
theorem blankL_ext (t : Bytes) : ∀ (k k' : Nat) (r : Bytes), r.length ≤ k → r.length ≤ k' → L10 r → r.drop (blankL k r) ≠ [] → blankL k' (r ++ t) = blankL k r
  | 0, _, r, hk, _, hL, _ => absurd (List.length_eq_zero_iff.1 (by omega)) hL.ne
  | k + 1, _, [], _, _, hL, _ => absurd rfl hL.ne
  | k + 1, 0, c :: u, _, hk', _, _ => by simp at hk'
  | k + 1, k' + 1, c :: u, hk, hk', hL, hd => by
    simp only [List.length_cons] at hk hk'
    rw [List.cons_append]
    simp only [blankL] at hd ⊢
    by_cases hb : c = 32 ∨ c = 9
    · rw [if_pos hb] at hd
      rw [if_pos hb, if_pos hb]
      rw [List.drop_succ_cons] at hd
      have hu : u ≠ [] := by intro e; subst e; simp at hd
      rw [blankL_ext t k k' u (by omega) (by omega) (hL.tail hu) hd]
    · rw [if_neg hb] at hd
      rw [if_neg hb, if_neg hb]
      by_cases hp : Lib.hasPrefix (c :: u) [92, 10] = true
      · have h2 := pre_len hp
        simp only [List.length_cons, List.length_nil] at h2
        have hp2 : Lib.hasPrefix (c :: (u ++ t)) [92, 10] = true := by
          rw [show c :: (u ++ t) = (c :: u) ++ t from rfl, hasP_app (by simp only [List.length_cons, List.length_nil]; omega)]; exact hp
        rw [if_pos hp] at hd
        rw [if_pos hp, if_pos hp2]
        have e : (c :: u).drop (blankL k (u.drop 1) + 2) = (u.drop 1).drop (blankL k (u.drop 1)) := by
          rw [List.drop_succ_cons, List.drop_drop, Nat.add_comm 1]
        rw [e] at hd
        have hu : u.drop 1 ≠ [] := by intro e9; rw [e9] at hd; simp at hd
        have hu2 : u ≠ [] := by intro e9; subst e9; simp at hu
        rw [List.drop_append_of_le_length (by omega), blankL_ext t k k' (u.drop 1) (by simp only [List.length_drop]; omega) (by simp only [List.length_drop]; omega) ((hL.tail hu2).drop hu) hd]
      · have hp2 : ¬ Lib.hasPrefix (c :: (u ++ t)) [92, 10] = true := by
          intro h9
          by_cases hu : u = []
          · subst hu
            have := hL.one
            subst this
            rw [hasP_cons] at h9; simp at h9
          · have := List.length_pos_iff.2 hu
            rw [show c :: (u ++ t) = (c :: u) ++ t from rfl, hasP_app (by simp only [List.length_cons, List.length_nil]; omega)] at h9
            exact hp h9
        rw [if_neg hp] at hd
        rw [if_neg hp, if_neg hp2]
        by_cases h35 : c = 35
        · rw [if_pos h35] at hd
          rw [if_pos h35, if_pos h35]
          have hi : 0 ≤ idx (c :: u) 10 := idx_mem.2 (List.mem_of_getLast? hL)
          have hi2 : idx (c :: (u ++ t)) 10 = idx (c :: u) 10 := by
            rw [show c :: (u ++ t) = (c :: u) ++ t from rfl]; exact idx_app hi
          rw [if_neg (by omega)] at hd
          rw [if_neg (by rw [hi2]; omega), if_neg (by omega), hi2]
          have hil : (idx (c :: u) 10).toNat ≤ (c :: u).length := by have := idx_le (c :: u) 10; omega
          rw [Nat.add_comm, ← List.drop_drop] at hd
          have hne : (c :: u).drop (idx (c :: u) 10).toNat ≠ [] := by intro e9; rw [e9] at hd; simp at hd
          have hi0 : (idx (c :: u) 10).toNat ≠ 0 := by
            intro h0
            have h1 : Lib.indexByte (c :: u) 10 = 0 := by simp only [idx] at h0 hi; omega
            simp only [Lib.indexByte] at h1
            split at h1
            · rename_i h9; rw [h35] at h9; exact absurd h9 (by decide)
            · split at h1
              · omega
              · rename_i h9 h10
                rcases Int.lt_or_le (Lib.indexByte u 10) 0 with h11 | h11
                · exact absurd (idx_neg h11) (by simpa using h10)
                · omega
          have h7 := blankL_ext t k k' ((c :: u).drop (idx (c :: u) 10).toNat) (by simp only [List.length_drop, List.length_cons]; omega) (by simp only [List.length_drop, List.length_cons]; omega) (hL.drop hne) hd
          rw [← List.drop_append_of_le_length hil, List.cons_append] at h7
          rw [h7]
        · rw [if_neg h35, if_neg h35]
theorem findN_congr {p q : Bytes → Bool} : ∀ (l : List Bytes) (i : Nat), (∀ x, x ∈ l → p x = q x) → findN p i l = findN q i l
  | [], _, _ => rfl
  | x :: l, i, h => by
    simp only [findN, h x (by simp)]
    rw [findN_congr l (i + 1) fun y hy => h y (by simp [hy])]
theorem byte_app {r t : Bytes} {i : Nat} (h : i < r.length) : byte (r ++ t) i = byte r i := by
  simp [byte, List.getD_eq_getElem?_getD, List.getElem?_append_left h]
theorem nextT_ext {r : Bytes} (t : Bytes) (i : Int) (hL : L10 r) (he : (nextT r i).2.2 = 0) (hk : r.drop (nextT r i).2.1 ≠ [] ∨ (nextT r i).1.kind = 3) : nextT (r ++ t) i = nextT r i := by
  have hr := hL.ne
  have h0 := List.length_pos_iff.2 hr
  have hb : byte (r ++ t) 0 = byte r 0 := byte_app h0
  unfold nextT at he hk ⊢
  rw [if_neg hr] at he hk
  rw [if_neg hr, if_neg (by simp [hr]), hb]
  by_cases h10 : byte r 0 = 10
  · rw [if_pos h10, if_pos h10]
  rw [if_neg h10] at he hk
  rw [if_neg h10, if_neg h10]
  by_cases hm : metaB (byte r 0) = true
  · rw [if_pos hm, if_pos hm]
    have ho : opT (r ++ t) = opT r := by
      unfold opT
      rw [findN_congr (p := preO (r ++ t)) (q := preO r) opsT 0 fun x hx => hasP_no hL (by
        have : ∀ x, x ∈ opsT → (10 : UInt8) ∉ x := by decide
        exact this x hx)]
    rw [ho]
  rw [if_neg hm] at he hk
  rw [if_neg hm, if_neg hm]
  by_cases hw : (wordV r).2 = 0
  · rw [if_neg (by rw [hw]; simp)] at he hk
    have hd : r.drop (wordV r).1 ≠ [] := by
      rcases hk with h | h
      · exact h
      · simp only at h; split at h <;> cases h
    have hx : wordV (r ++ t) = wordV r := wordL_ext t _ _ _ (Nat.le_refl _) (by rw [List.length_append]; omega) hL hw hd
    have hw2 : ¬ (wordV r).2 ≠ 0 := by rw [hw]; simp
    rw [hx, if_neg hw2, if_neg hw2]
    have hl : (wordV r).1 < r.length := by
      rcases Nat.lt_or_ge (wordV r).1 r.length with h | h
      · exact h
      · exact absurd (List.drop_eq_nil_of_le h) hd
    rw [List.take_append_of_le_length (Nat.le_of_lt hl)]
    congr 2
    by_cases h1 : (wordV r).1 = 1
    · have hb1 : byte (r ++ t) 1 = byte r 1 := byte_app (by omega)
      rw [hb1]
      have h2 : 1 < (r ++ t).length := by rw [List.length_append]; omega
      have h3 : 1 < r.length := by omega
      simp only [h2, h3]
    · rw [if_neg (fun h => h1 h.1), if_neg (fun h => h1 h.1)]
  · rw [if_pos hw] at he; exact absurd he (by simpa using hw)
theorem blank_facts (r : Bytes) : blankV r ≤ r.length ∧ (r.drop (blankV r) = [] ∨ (byte (r.drop (blankV r)) 0 ≠ 32 ∧ byte (r.drop (blankV r)) 0 ≠ 9 ∧ byte (r.drop (blankV r)) 0 ≠ 35)) :=
  ⟨blankL_le _ _, blankL_stop _ _ (Nat.le_refl _)⟩
/-- What is left behind a token is shorter. -/
theorem step_len {r : Bytes} {i : Int} (hr : r.drop (blankV r) ≠ []) (he : (nextT (r.drop (blankV r)) i).2.2 = 0) : ((r.drop (blankV r)).drop (nextT (r.drop (blankV r)) i).2.1).length < r.length := by
  obtain ⟨h1, h2⟩ := blank_facts r
  have hb := h2.resolve_left hr
  rcases nextT_ok hr hb i with ⟨h, _⟩ | ⟨_, _, hn1, hn2, _⟩
  · exact absurd he h
  · simp only [List.length_drop] at hn2 ⊢
    have := List.length_pos_iff.2 hr
    simp only [List.length_drop] at this
    omega
theorem scan_fuel : ∀ (k k' : Nat) (r : Bytes) (i : Int) (out : List Tok) (ws : List (Nat × Bool)), r.length < k → r.length < k' → scanF k r i out ws = scanF k' r i out ws
  | 0, _, r, i, out, ws, h, _ => by omega
  | _ + 1, 0, r, i, out, ws, _, h => by omega
  | k + 1, k' + 1, r, i, out, ws, h, h' => by
    simp only [scanF]
    split
    · rfl
    · rename_i he
      split
      · rfl
      · rename_i hk
        have he' : (nextT (r.drop (blankV r)) (i + blankV r)).2.2 = 0 := by simpa using he
        have hr : r.drop (blankV r) ≠ [] := by
          intro e; rw [e] at hk; exact hk (by unfold nextT; rw [if_pos rfl])
        have hl := step_len hr he'
        split
        · refine scan_fuel k k' _ _ _ _ ?_ ?_ <;> (rw [List.length_drop]; omega)
        · exact scan_fuel k k' _ _ _ _ (by omega) (by omega)
def shT (d : Int) (t : Tok) : Tok := { t with at_ := t.at_ + d }
theorem nextT_shift (r : Bytes) (i d : Int) : nextT r (i + d) = (shT d (nextT r i).1, (nextT r i).2.1, (nextT r i).2.2) := by
  unfold nextT shT
  split
  · rfl
  · split
    · rfl
    · split
      · rfl
      · split
        · simp only []; congr 2; omega
        · rfl
theorem getD_app {α : Type} {a b : List α} {j : Nat} {d : α} : (a ++ b).getD (j + a.length) d = b.getD j d := by
  rw [List.getD_eq_getElem?_getD, List.getD_eq_getElem?_getD, List.getElem?_append_right (by omega), Nat.add_sub_cancel]
theorem linesV_shift (pre : List Tok) (d : Int) : ∀ (ws : List (Nat × Bool)) (out : List Tok) (r : Bytes), (∀ w, w ∈ ws → w.1 < out.length) →
    linesV (pre ++ out.map (shT d)) (ws.map fun w => (w.1 + pre.length, w.2)) r = (pre ++ (linesV out ws r).1.map (shT d), (linesV out ws r).2)
  | [], out, r, _ => rfl
  | (j, st) :: ws, out, r, h => by
    have hj : j < out.length := h (j, st) (by simp)
    simp only [List.map_cons, linesV]
    have h1 : (pre ++ out.map (shT d)).getD (j + pre.length) ⟨0, [], 0, [], false⟩ = shT d (out.getD j ⟨0, [], 0, [], false⟩) := by
      rw [getD_app, List.getD_eq_getElem?_getD, List.getD_eq_getElem?_getD, List.getElem?_map, List.getElem?_eq_getElem hj]; rfl
    rw [h1]
    have h2 : ∀ (y : Tok), (pre ++ out.map (shT d)).set (j + pre.length) (shT d y) = pre ++ (out.set j y).map (shT d) := fun y => by
      rw [List.set_append_right _ _ (by omega), Nat.add_sub_cancel, ← List.map_set]
    have h3 := h2 { (out.getD j ⟨0, [], 0, [], false⟩) with here := (out.getD j ⟨0, [], 0, [], false⟩).here ++ (bodyV (plainV (out.getD j ⟨0, [], 0, [], false⟩).text).1 st r).1, raw := (plainV (out.getD j ⟨0, [], 0, [], false⟩).text).2 }
    simp only [shT] at h3 ⊢
    rw [h3]
    have h4 := linesV_shift pre d ws (out.set j { (out.getD j ⟨0, [], 0, [], false⟩) with here := (out.getD j ⟨0, [], 0, [], false⟩).here ++ (bodyV (plainV (out.getD j ⟨0, [], 0, [], false⟩).text).1 st r).1, raw := (plainV (out.getD j ⟨0, [], 0, [], false⟩).text).2 }) (r.drop (bodyV (plainV (out.getD j ⟨0, [], 0, [], false⟩).text).1 st r).2) (fun w hw => by rw [List.length_set]; exact h w (by simp [hw]))
    simp only [shT] at h4
    rw [h4]
/-- Tokens ahead of which no word ends lines. -/
def Quiet (pre : List Tok) : Prop := ∀ z, pre.getLast? = some z → ¬ (z.kind = 2 ∧ Lib.hasPrefix z.text [60, 60] = true)
theorem hereV_shift {pre out : List Tok} (hq : Quiet pre) (d : Int) (t : Tok) : hereV (pre ++ out.map (shT d)) (shT d t) = hereV out t := by
  unfold hereV
  cases hl : out.getLast? with
  | none =>
    have : out = [] := by simpa using hl
    subst this
    rw [List.map_nil, List.append_nil]
    cases hp : pre.getLast? with
    | none => rfl
    | some z =>
      simp only []
      rw [if_neg (fun h => hq z hp ⟨h.2.1, h.2.2⟩)]
  | some z =>
    have h1 : (pre ++ out.map (shT d)).getLast? = some (shT d z) := by
      rw [List.getLast?_append, List.getLast?_map, hl]; rfl
    rw [h1]; rfl
theorem pushW_shift {pre out : List Tok} (hq : Quiet pre) (d : Int) (ws : List (Nat × Bool)) (t : Tok) : pushW (pre ++ out.map (shT d)) (ws.map fun w => (w.1 + pre.length, w.2)) (shT d t) = (pushW out ws t).map fun w => (w.1 + pre.length, w.2) := by
  unfold pushW
  rw [hereV_shift hq]
  cases hereV out t with
  | none => rfl
  | some b => simp only [List.map_append, List.map_cons, List.map_nil, List.length_append, List.length_map]; rw [Nat.add_comm]
theorem pushW_lt {out : List Tok} {ws : List (Nat × Bool)} {t : Tok} (h : ∀ w, w ∈ ws → w.1 < out.length) : ∀ w, w ∈ pushW out ws t → w.1 < (out ++ [t]).length := fun w hw => by
  rw [List.length_append]
  unfold pushW at hw
  split at hw
  · rcases List.mem_append.1 hw with h1 | h1
    · have := h w h1; simp; omega
    · rw [List.mem_singleton.1 h1]; simp
  · have := h w hw; simp; omega
theorem scan_shift {pre : List Tok} (hq : Quiet pre) (d : Int) : ∀ (k : Nat) (r : Bytes) (i : Int) (out : List Tok) (ws : List (Nat × Bool)), (∀ w, w ∈ ws → w.1 < out.length) → r.length < k →
    scanF k r (i + d) (pre ++ out.map (shT d)) (ws.map fun w => (w.1 + pre.length, w.2)) = if (scanF k r i out ws).2.2 ≠ 0 then ([], (scanF k r i out ws).2.1 + d, (scanF k r i out ws).2.2) else (pre ++ (scanF k r i out ws).1.map (shT d), (scanF k r i out ws).2.1, 0)
  | 0, r, i, out, ws, _, h => by omega
  | k + 1, r, i, out, ws, hw, hk => by
    simp only [scanF]
    have hN := nextT_shift (r.drop (blankV r)) (i + blankV r) d
    rw [show i + d + (blankV r : Int) = i + blankV r + d by omega, hN]
    by_cases he : (nextT (r.drop (blankV r)) (i + blankV r)).2.2 = 0
    · have he2 : ¬ (nextT (r.drop (blankV r)) (i + blankV r)).2.2 ≠ 0 := by simpa using he
      have hpw := pushW_shift (out := out) hq d ws (nextT (r.drop (blankV r)) (i + blankV r)).1
      have hlt := pushW_lt (t := (nextT (r.drop (blankV r)) (i + blankV r)).1) hw
      have hmap : pre ++ out.map (shT d) ++ [shT d (nextT (r.drop (blankV r)) (i + blankV r)).1] = pre ++ (out ++ [(nextT (r.drop (blankV r)) (i + blankV r)).1]).map (shT d) := by simp
      rw [if_neg he2, if_neg he2]
      have hkd : (shT d (nextT (r.drop (blankV r)) (i + blankV r)).1).kind = (nextT (r.drop (blankV r)) (i + blankV r)).1.kind := rfl
      simp only [hkd, hmap, hpw]
      by_cases h0 : (nextT (r.drop (blankV r)) (i + blankV r)).1.kind = 0
      · rw [if_pos h0, if_pos h0]
        rw [linesV_shift pre d _ _ [] hlt]
        simp
      · rw [if_neg h0, if_neg h0]
        have hr : r.drop (blankV r) ≠ [] := by
          intro e; rw [e] at h0; exact h0 (by unfold nextT; rw [if_pos rfl])
        have hl := step_len hr he
        split
        · rw [linesV_shift pre d _ _ _ hlt]
          simp only []
          have hlen : ∀ w : Nat × Bool, w ∈ [] → w.1 < (linesV (out ++ [(nextT (r.drop (blankV r)) (i + blankV r)).1]) (pushW out ws (nextT (r.drop (blankV r)) (i + blankV r)).1) ((r.drop (blankV r)).drop (nextT (r.drop (blankV r)) (i + blankV r)).2.1)).1.length := fun w h => by cases h
          have ih := scan_shift hq d k _ (i + blankV r + (nextT (r.drop (blankV r)) (i + blankV r)).2.1 + (linesV (out ++ [(nextT (r.drop (blankV r)) (i + blankV r)).1]) (pushW out ws (nextT (r.drop (blankV r)) (i + blankV r)).1) ((r.drop (blankV r)).drop (nextT (r.drop (blankV r)) (i + blankV r)).2.1)).2) _ [] hlen (by rw [List.length_drop]; omega : (((r.drop (blankV r)).drop (nextT (r.drop (blankV r)) (i + blankV r)).2.1).drop (linesV (out ++ [(nextT (r.drop (blankV r)) (i + blankV r)).1]) (pushW out ws (nextT (r.drop (blankV r)) (i + blankV r)).1) ((r.drop (blankV r)).drop (nextT (r.drop (blankV r)) (i + blankV r)).2.1)).2).length < k)
          rw [List.map_nil] at ih
          rw [← ih]
          congr 1
          omega
        · have ih := scan_shift hq d k _ (i + blankV r + (nextT (r.drop (blankV r)) (i + blankV r)).2.1) (out ++ [(nextT (r.drop (blankV r)) (i + blankV r)).1]) (pushW out ws (nextT (r.drop (blankV r)) (i + blankV r)).1) hlt (by omega : ((r.drop (blankV r)).drop (nextT (r.drop (blankV r)) (i + blankV r)).2.1).length < k)
          rw [← ih]
          congr 1
          omega
    · have he2 : (nextT (r.drop (blankV r)) (i + blankV r)).2.2 ≠ 0 := he
      rw [if_pos he2, if_pos he2, if_pos he2]; rfl
end Go.Proofs.YthggegbljpmecaaDoor.K
set_option linter.unusedVariables false
set_option linter.unusedSimpArgs false
set_option autoImplicit false
set_option maxRecDepth 20000
namespace Go.Proofs.YthggegbljpmecaaDoor.K
open Go Go.RowKit

/-- What is known of a token's text by its kind. -/
def SkOk (x : Int × Bytes × Int) : Prop := (x.1 = 2 → x.2.1 ∈ opsT) ∧ (x.1 = 3 → x.2.1 = [10])
theorem nextT_sk {r : Bytes} (hb : r ≠ [] → byte r 0 ≠ 32 ∧ byte r 0 ≠ 9 ∧ byte r 0 ≠ 35) (i : Int) : SkOk (skel (nextT r i).1) := by
  unfold nextT
  split
  · exact ⟨fun h => by simp [skel] at h, fun h => by simp [skel] at h⟩
  · rename_i hr
    split
    · exact ⟨fun h => by simp [skel] at h, fun _ => rfl⟩
    · rename_i h10
      split
      · rename_i hm
        obtain ⟨j, h1, h2, h3, _⟩ := op_hit hm h10 (hb hr).1 (hb hr).2.1 hr
        refine ⟨fun _ => ?_, fun h => by simp [skel] at h⟩
        show opT r ∈ opsT
        rw [h3, List.getD_eq_getElem?_getD, List.getElem?_eq_getElem h2]; exact List.getElem_mem _
      · split
        · exact ⟨fun h => by simp [skel] at h, fun h => by simp [skel] at h⟩
        · refine ⟨fun h => ?_, fun h => ?_⟩ <;> (simp only [skel] at h; split at h <;> exact absurd h (by decide))
/-- What a scan hands back goes on from what there was. -/
theorem scan_pre : ∀ (k : Nat) (r : Bytes) (i : Int) (out : List Tok) (ws : List (Nat × Bool)), (∀ x, x ∈ out.map skel → SkOk x) → (scanF k r i out ws).2.2 = 0 → (∃ suf, (scanF k r i out ws).1.map skel = out.map skel ++ suf) ∧ ∀ x, x ∈ (scanF k r i out ws).1.map skel → SkOk x
  | 0, r, i, out, ws, ho, _ => ⟨⟨[], by simp [scanF]⟩, ho⟩
  | k + 1, r, i, out, ws, ho, he => by
    simp only [scanF] at he ⊢
    have hb := blank_facts r
    have hsk := nextT_sk (r := r.drop (blankV r)) (fun h => hb.2.resolve_left h) (i + blankV r)
    generalize nextT (r.drop (blankV r)) (i + blankV r) = z at he hsk ⊢
    have ho2 : ∀ x, x ∈ (out ++ [z.1]).map skel → SkOk x := fun x hx => by
      rw [List.map_append] at hx
      rcases List.mem_append.1 hx with h | h
      · exact ho x h
      · rw [List.map_cons, List.map_nil, List.mem_singleton] at h; rw [h]; exact hsk
    split at he
    · rename_i h; exact absurd he h
    · rename_i h
      rw [if_neg h]
      split at he
      · rename_i h0
        rw [if_pos h0]
        simp only []
        rw [linesV_skel]
        exact ⟨⟨[skel z.1], by simp⟩, ho2⟩
      · rename_i h0
        rw [if_neg h0]
        split at he
        · rename_i h3
          rw [if_pos h3]
          have hs := linesV_skel (pushW out ws z.1) (out ++ [z.1]) ((r.drop (blankV r)).drop z.2.1)
          obtain ⟨⟨suf, q1⟩, q2⟩ := scan_pre k _ _ _ _ (by rw [hs]; exact ho2) he
          exact ⟨⟨skel z.1 :: suf, by rw [q1, hs]; simp⟩, q2⟩
        · rename_i h3
          rw [if_neg h3]
          obtain ⟨⟨suf, q1⟩, q2⟩ := scan_pre k _ _ _ _ ho2 he
          exact ⟨⟨skel z.1 :: suf, by rw [q1]; simp⟩, q2⟩
def hereOp (x : Int × Bytes × Int) : Prop := x.1 = 2 ∧ (x.2.1 = [60, 60] ∨ x.2.1 = [60, 60, 45])
theorem pushW_none {out : List Tok} {z : Tok} (ho : ∀ x, x ∈ out.map skel → SkOk x) (hq : ∀ x, x ∈ out.map skel → ¬ hereOp x) : pushW out [] z = [] := by
  unfold pushW hereV
  cases hl : out.getLast? with
  | none => rfl
  | some y =>
    simp only []
    rw [if_neg]
    rintro ⟨_, h2, h3⟩
    have hm : skel y ∈ out.map skel := List.mem_map_of_mem (List.mem_of_getLast? hl)
    have h4 := (ho _ hm).1 h2
    have h5 : ∀ x, x ∈ opsT → Lib.hasPrefix x [60, 60] = true → x = [60, 60] ∨ x = [60, 60, 45] := by decide
    exact hq _ hm ⟨h2, h5 _ h4 h3⟩
theorem scan_end {k : Nat} {i : Int} {out : List Tok} (hk : 0 < k) : scanF k [] i out [] = (out ++ [⟨0, [], i, [], false⟩], 0, 0) := by
  obtain ⟨k, rfl⟩ : ∃ j, k = j + 1 := ⟨k - 1, by omega⟩
  have hb : blankV [] = 0 := rfl
  have hn : nextT [] (i + (0 : Nat)) = (⟨0, [], i + (0 : Nat), [], false⟩, 0, 0) := rfl
  simp only [scanF, hb, List.drop_nil, hn]
  rw [if_neg (by simp), if_pos trivial]
  have hp : pushW out [] ⟨0, [], i + (0 : Nat), [], false⟩ = [] := by
    unfold pushW hereV
    cases out.getLast? with
    | none => rfl
    | some z => simp
  rw [hp]
  simp [linesV]
theorem scan_ext {s t : Bytes} (hL : L10 s) {l0 : List Tok} {x e : Tok} (hx : x.kind = 3) (hxt : x.text = [10]) (hxa : x.at_ = s.length - 1) (hq : ∀ y, y ∈ (l0 ++ [x, e]).map skel → ¬ hereOp y) : ∀ (k i : Nat) (out : List Tok), i ≤ s.length → s.length - i < k → Placed s i (out.map skel) → (∀ x, x ∈ out.map skel → SkOk x) →
    (scanF k (s.drop i) i out []).2.2 = 0 → (scanF k (s.drop i) i out []).1 = l0 ++ [x, e] → ∀ k', (s.drop i ++ t).length < k' → scanF k' (s.drop i ++ t) i out [] = scanF k' t s.length (l0 ++ [x]) []
  | 0, i, out, _, hk, _, _, _, _ => by omega
  | k + 1, i, out, hi, hk, hp, ho, he, hl => by
    intro k' hk'
    have hpre := scan_pre (k + 1) (s.drop i) i out [] ho he
    have hqo : ∀ y, y ∈ out.map skel → ¬ hereOp y := fun y hy => hq y (by
      obtain ⟨⟨suf, h1⟩, _⟩ := hpre
      rw [← hl, h1]; exact List.mem_append_left _ hy)
    obtain ⟨k', rfl⟩ : ∃ j, k' = j + 1 := ⟨k' - 1, by omega⟩
    have hbf := blank_facts (s.drop i)
    simp only [List.length_drop] at hbf
    have hpn : ∀ z, pushW out [] z = [] := fun z => pushW_none ho hqo
    by_cases hr : (s.drop i).drop (blankV (s.drop i)) = []
    · -- nothing more stands in s
      have hN : nextT ((s.drop i).drop (blankV (s.drop i))) ((i : Int) + blankV (s.drop i)) = (⟨0, [], (i : Int) + blankV (s.drop i), [], false⟩, 0, 0) := by rw [hr]; rfl
      simp only [scanF] at hl
      rw [hN] at hl
      simp only [hpn] at hl
      rw [if_neg (by simp), if_pos trivial] at hl
      simp only [linesV] at hl
      have h1 : out ++ [⟨0, [], (i : Int) + blankV (s.drop i), [], false⟩] = (l0 ++ [x]) ++ [e] := by rw [hl]; simp
      have h2 := List.append_inj_left' h1 rfl
      have h3 := (hp.at_ (skel x) (by rw [h2]; simp)).2.2.1
      have hlen : x.at_ = ((s.length - 1 : Nat) : Int) := by
        have := List.length_pos_iff.2 hL.ne
        omega
      simp only [skel, hxt, hlen, Int.toNat_natCast, List.length_cons, List.length_nil] at h3
      have h4 : i = s.length := by have := List.length_pos_iff.2 hL.ne; omega
      rw [h2, h4, List.drop_length, List.nil_append]
    · have hLr : L10 (s.drop i) := hL.drop (by intro e9; rw [e9] at hr; simp at hr)
      have hbx : blankV (s.drop i ++ t) = blankV (s.drop i) := blankL_ext t _ _ _ (Nat.le_refl _) (by rw [List.length_append]; omega) hLr hr
      have hb := hbf.2.resolve_left hr
      have hLr1 := hLr.drop hr
      have hle := step_len (i := (i : Int) + blankV (s.drop i)) hr
      have hpl0 : Placed s (i + blankV (s.drop i)) (out.map skel) := ⟨fun y hy => let ⟨h1, h2, h3, h4⟩ := hp.at_ y hy; ⟨h1, h2, by omega, h4⟩, hp.up⟩
      have hok := nextT_ok hr hb ((i : Int) + blankV (s.drop i))
      have hsk := nextT_sk (r := (s.drop i).drop (blankV (s.drop i))) (fun h => hb) ((i : Int) + blankV (s.drop i))
      have hxt2 := nextT_ext t ((i : Int) + blankV (s.drop i)) hLr1
      have hdd : (s.drop i ++ t).drop (blankV (s.drop i)) = (s.drop i).drop (blankV (s.drop i)) ++ t := List.drop_append_of_le_length (by rw [List.length_drop]; exact hbf.1)
      generalize hR : scanF (k' + 1) t s.length (l0 ++ [x]) [] = R
      simp only [scanF] at he hl ⊢
      rw [hbx, hdd]
      generalize hB : blankV (s.drop i) = b at *
      generalize hZ : nextT ((s.drop i).drop b) ((i : Int) + b) = z at *
      rcases hok with ⟨h9, _⟩ | ⟨hz0, hzk, hn1, hn2, htx, hat, hhe, hra⟩
      · rw [if_pos h9] at he; exact absurd he h9
      have hz0' : ¬ z.2.2 ≠ 0 := by simpa using hz0
      rw [if_neg hz0', if_neg hzk] at he hl
      simp only [hpn, linesV, List.drop_zero, Int.natCast_zero, Int.add_zero, List.drop_drop, Nat.add_zero] at he hl hn2 htx hle
      simp only [List.length_drop] at hn2
      have hlt : i + b < s.length := by
        rcases Nat.lt_or_ge (i + b) s.length with h | h
        · exact h
        · exact absurd (by rw [List.drop_drop]; exact List.drop_eq_nil_of_le h) hr
      have hpl : Placed s (i + b + z.2.1) ((out ++ [z.1]).map skel) := by
        rw [List.map_append]
        have := Placed.push (n := z.2.1) hpl0 (i2 := i + b) (Nat.le_refl _) hzk (by omega)
        simpa [skel, htx, hat] using this
      have ho2 : ∀ x, x ∈ (out ++ [z.1]).map skel → SkOk x := fun y hy => by
        rw [List.map_append] at hy
        rcases List.mem_append.1 hy with h | h
        · exact ho y h
        · rw [List.map_cons, List.map_nil, List.mem_singleton] at h; rw [h]; exact hsk
      have hif : (if z.1.kind = 3 then scanF k (s.drop (i + b + z.2.1)) ((i : Int) + b + z.2.1) (out ++ [z.1]) [] else scanF k (s.drop (i + b + z.2.1)) ((i : Int) + b + z.2.1) (out ++ [z.1]) []) = scanF k (s.drop (i + b + z.2.1)) ((i : Int) + b + z.2.1) (out ++ [z.1]) [] := by split <;> rfl
      rw [hif] at he hl
      have hc1 : ((i : Int) + b + z.2.1) = ((i + b + z.2.1 : Nat) : Int) := by omega
      rw [hc1] at he hl
      have hn3 : ((s.drop i).drop b).drop z.2.1 ≠ [] ∨ z.1.kind = 3 := by
        by_cases h5 : ((s.drop i).drop b).drop z.2.1 = []
        · right
          have h5' : s.drop (i + b + z.2.1) = [] := by rw [← h5]; simp only [List.drop_drop]
          rw [h5', scan_end (by omega)] at hl
          have h6 : (out ++ [z.1]) ++ [⟨0, [], ((i + b + z.2.1 : Nat) : Int), [], false⟩] = (l0 ++ [x]) ++ [e] := by simpa using hl
          have h7 := List.append_inj_left' h6 rfl
          have h8 := List.append_inj_right' h7 rfl
          have h9 : z.1 = x := by simpa using h8
          rw [h9]; exact hx
        · exact .inl h5
      have hxt3 := hxt2 hz0 hn3
      rw [hxt3, if_neg hz0', if_neg hzk]
      simp only [hpn, linesV, List.drop_zero, Int.natCast_zero, Int.add_zero]
      have hd2 : ((s.drop i).drop b ++ t).drop z.2.1 = s.drop (i + b + z.2.1) ++ t := by
        rw [List.drop_append_of_le_length (by simp only [List.length_drop]; omega), List.drop_drop, List.drop_drop]; congr 2; omega
      have hkl : (s.drop (i + b + z.2.1) ++ t).length < k' := by
        simp only [List.length_append, List.length_drop] at hk' ⊢; omega
      have hk1 : 1 ≤ k := by omega
      have ih := scan_ext hL hx hxt hxa hq k (i + b + z.2.1) (out ++ [z.1]) (by omega) (by omega) hpl ho2 he hl k' hkl
      have htl : t.length < k' := by simp only [List.length_append] at hkl; omega
      rw [hd2, hc1, ← hR, scan_fuel (k' + 1) k' t s.length (l0 ++ [x]) [] (by omega) htl, ← ih]
      split <;> rfl
/-- The plain law of TokenTwo. -/
theorem tokens_two {s t : Bytes} (hs : s.length ≤ 3000) (ht : t.length ≤ 3000) (he : (tokensV s).2.2 = 0) {l0 : List Tok} {x e : Tok} (hl : (tokensV s).1 = l0 ++ [x, e]) (hx : x.kind = 3) (hxa : x.at_ = s.length - 1)
    (hq : ∀ y, y ∈ (tokensV s).1 → ¬ (y.kind = 2 ∧ (y.text = [60, 60] ∨ y.text = [60, 60, 45]))) :
    tokensV (s ++ t) = if (tokensV t).2.2 ≠ 0 then ([], (tokensV t).2.1 + s.length, (tokensV t).2.2) else ((l0 ++ [x]) ++ (tokensV t).1.map (shT s.length), (tokensV t).2.1, 0) := by
  have hgood := (tokens_places hs).resolve_left (fun h => h.1 he)
  have hts : tokensV s = scanF (s.length + 1) s 0 [] [] := by rw [tokensV, if_neg (by omega)]
  have hsk := (scan_pre (s.length + 1) s 0 [] [] (fun x h => by cases h) (by rw [← hts]; exact he)).2
  rw [← hts] at hsk
  have hxm : skel x ∈ (tokensV s).1.map skel := by rw [hl]; simp
  have hxt : x.text = [10] := (hsk _ hxm).2 hx
  have hL : L10 s := by
    have h1 := hgood.2.at_ l0.length x (by rw [hl]; simp)
    have h2 := h1.2.2.2
    rw [hxt] at h2
    have h3 : 0 < s.length := by
      rcases Nat.eq_zero_or_pos s.length with h | h
      · rw [show s = [] from List.length_eq_zero_iff.1 h] at h2; simp at h2
      · exact h
    have h4 : x.at_.toNat = s.length - 1 := by omega
    rw [h4] at h2
    have h5 : s.drop (s.length - 1) = [10] := by
      have h6 : (s.drop (s.length - 1)).length = 1 := by rw [List.length_drop]; omega
      rw [← h2]; exact (List.take_of_length_le (by rw [h6]; simp)).symm
    unfold L10
    have h7 : s = s.take (s.length - 1) ++ [10] := by rw [← h5, List.take_append_drop]
    rw [h7]; simp
  have h1 := scan_ext (t := t) hL hx hxt hxa (fun y hy hh => by
    obtain ⟨z, hz, rfl⟩ := List.mem_map.1 hy
    exact hq z (by rw [hl]; exact hz) hh) (s.length + 1) 0 [] (Nat.zero_le _) (by omega) .nil (fun x h => by cases h) (by rw [List.drop_zero]; rw [hts] at he; exact he) (by rw [List.drop_zero]; rw [hts] at hl; exact hl) ((s ++ t).length + 1) (by rw [List.drop_zero]; omega)
  rw [List.drop_zero] at h1
  rw [tokensV, if_neg (by rw [List.length_append]; omega)]
  have htt : tokensV t = scanF (t.length + 1) t 0 [] [] := by rw [tokensV, if_neg (by omega)]
  have h0 : ((0 : Nat) : Int) = 0 := rfl
  rw [h0] at h1
  rw [h1, scan_fuel ((s ++ t).length + 1) (t.length + 1) t _ _ _ (by rw [List.length_append]; omega) (by omega), htt]
  have hqt : Quiet (l0 ++ [x]) := fun z hz hk => by
    simp only [List.getLast?_append, List.getLast?_singleton, Option.some_or, Option.some.injEq] at hz
    subst hz
    rw [hx] at hk; exact absurd hk.1 (by decide)
  have h2 := scan_shift hqt s.length (t.length + 1) t 0 [] [] (fun w h => by cases h) (by omega)
  simp only [List.map_nil, List.append_nil, Int.zero_add] at h2
  rw [h2]
end Go.Proofs.YthggegbljpmecaaDoor.K
