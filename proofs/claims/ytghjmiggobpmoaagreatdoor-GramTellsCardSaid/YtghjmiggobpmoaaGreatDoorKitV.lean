import Derived.Test.YtghjmiggobpmoaaGreatDoorTwoB
import Derived.Test.YtghjmiggobpmoaaGreatDoorTok
import Derived.Lib.AppendZerosOnto
import Derived.Lib.Overlaps
set_option linter.unusedVariables false
set_option linter.unusedSimpArgs false
set_option autoImplicit false
set_option maxRecDepth 20000
namespace Go.Proofs.YtghjmiggobpmoaaGreatDoor.K
open Go Go.RowKit

structure Zst where
  i : Nat
  out : List Tok
  ws : List (Nat × Bool)
def tZ (s : Bytes) (Z : Zst) : Tok × Nat × Int := nextT (s.drop Z.i) (Z.i : Int)
def yZ (s : Bytes) (Z : Zst) : Tok × Int := ((tZ s Z).1, (tZ s Z).2.2)
def nxO (s : Bytes) (Z : Zst) : List Tok := Z.out ++ [(tZ s Z).1]
def nxW (s : Bytes) (Z : Zst) : List (Nat × Bool) := pushW Z.out Z.ws (tZ s Z).1
def nxI (s : Bytes) (Z : Zst) : Nat := Z.i + (tZ s Z).2.1
def nxZ (s : Bytes) (Z : Zst) : Zst :=
  if (tZ s Z).1.kind = 3 then ⟨nxI s Z + (linesV (nxO s Z) (nxW s Z) (s.drop (nxI s Z))).2 + blankV (s.drop (nxI s Z + (linesV (nxO s Z) (nxW s Z) (s.drop (nxI s Z))).2)), (linesV (nxO s Z) (nxW s Z) (s.drop (nxI s Z))).1, []⟩
  else ⟨nxI s Z + blankV (s.drop (nxI s Z)), nxO s Z, nxW s Z⟩
def endZ (s : Bytes) (Z : Zst) : Bool := decide ((tZ s Z).2.2 ≠ 0) || decide ((tZ s Z).1.kind = 0)
theorem endZ_iff {s : Bytes} {Z : Zst} : endZ s Z = true ↔ (tZ s Z).2.2 ≠ 0 ∨ (tZ s Z).1.kind = 0 := by simp [endZ]
theorem endZ_no {s : Bytes} {Z : Zst} : endZ s Z = false ↔ (tZ s Z).2.2 = 0 ∧ (tZ s Z).1.kind ≠ 0 := by simp [endZ]
def yldF (s : Bytes) : Nat → Zst → List (Tok × Int)
  | 0, _ => []
  | k + 1, Z => yZ s Z :: (if endZ s Z then [] else yldF s k (nxZ s Z))
def itZ (s : Bytes) : Nat → Zst → Zst
  | 0, Z => Z
  | n + 1, Z => itZ s n (nxZ s Z)
theorem itZ_succ (s : Bytes) : ∀ (n : Nat) (Z : Zst), itZ s (n + 1) Z = nxZ s (itZ s n Z)
  | 0, Z => rfl
  | n + 1, Z => itZ_succ s n (nxZ s Z)
def GoodO (n i : Nat) (l : List Tok) : Prop := ∀ z, z ∈ l → z.text.length ≤ n ∧ z.here.length ≤ i
theorem GoodO.mono {n i j : Nat} {l : List Tok} (h : GoodO n i l) (hij : i ≤ j) : GoodO n j l := fun z hz => ⟨(h z hz).1, Nat.le_trans (h z hz).2 hij⟩
theorem trimT_len : ∀ l : Bytes, (trimT l).length ≤ l.length
  | [] => Nat.le_refl _
  | c :: t => by rw [trimT]; split; (have := trimT_len t; simp only [List.length_cons]; omega); exact Nat.le_refl _
theorem bodyL_len (fin : Bytes) (st : Bool) : ∀ (k : Nat) (r : Bytes), (bodyL fin st k r).1.length ≤ (bodyL fin st k r).2
  | 0, r => by simp [bodyL]
  | k + 1, r => by
    rw [bodyL]
    split
    · simp
    · have h2 : (if st = true then trimT (Lib.cut r [10]).1 else (Lib.cut r [10]).1).length ≤ (Lib.cut r [10]).1.length := by split; exact trimT_len _; exact Nat.le_refl _
      simp only []
      generalize (if st = true then trimT (Lib.cut r [10]).1 else (Lib.cut r [10]).1) = l2 at h2 ⊢
      by_cases hf : l2 = fin
      · rw [if_pos hf]; exact Nat.zero_le _
      · rw [if_neg hf]
        cases hm : (Lib.cut r [10]).2.2 with
        | true => have h1 := bodyL_len fin st k (r.drop ((Lib.cut r [10]).1.length + 1)); simp; omega
        | false => have h1 := bodyL_len fin st k (r.drop (Lib.cut r [10]).1.length); simp; omega
theorem linesV_good {n : Nat} : ∀ (ws : List (Nat × Bool)) (out : List Tok) (r : Bytes) (i : Nat), GoodO n i out → (∀ x, x ∈ ws → x.1 < out.length) → GoodO n (i + (linesV out ws r).2) (linesV out ws r).1
  | [], out, r, i, h, _ => h
  | (j, st) :: ws, out, r, i, h, hw => by
    simp only [linesV]
    have hj : j < out.length := hw (j, st) (by simp)
    have hb := bodyL_len (plainV (out.getD j ⟨0, [], 0, [], false⟩).text).1 st r.length r
    have hg : out.getD j ⟨0, [], 0, [], false⟩ ∈ out := by rw [List.getD_eq_getElem?_getD, List.getElem?_eq_getElem hj]; exact List.getElem_mem hj
    generalize out.getD j ⟨0, [], 0, [], false⟩ = z at hb hg ⊢
    have h2 := linesV_good ws (out.set j { z with here := z.here ++ (bodyV (plainV z.text).1 st r).1, raw := (plainV z.text).2 }) (r.drop (bodyV (plainV z.text).1 st r).2) (i + (bodyV (plainV z.text).1 st r).2) (by
      intro u hu
      rcases List.mem_or_eq_of_mem_set hu with h1 | h1
      · exact ⟨(h u h1).1, by have := (h u h1).2; omega⟩
      · subst h1
        refine ⟨(h z hg).1, ?_⟩
        have := (h z hg).2
        show (z.here ++ (bodyV (plainV z.text).1 st r).1).length ≤ _
        rw [List.length_append]; unfold bodyV; omega) (fun x hx => by rw [List.length_set]; exact hw x (List.mem_cons_of_mem _ hx))
    intro u hu
    exact ⟨(h2 u hu).1, by have := (h2 u hu).2; omega⟩
structure InvZ (s : Bytes) (Z : Zst) : Prop where
  le : Z.i ≤ s.length
  bl : s.drop Z.i = [] ∨ (byte (s.drop Z.i) 0 ≠ 32 ∧ byte (s.drop Z.i) 0 ≠ 9 ∧ byte (s.drop Z.i) 0 ≠ 35)
  ws : ∀ x, x ∈ Z.ws → x.1 < Z.out.length
  good : GoodO s.length Z.i Z.out
theorem blank_at (s : Bytes) {j : Nat} (hj : j ≤ s.length) : j + blankV (s.drop j) ≤ s.length ∧ (s.drop (j + blankV (s.drop j)) = [] ∨ (byte (s.drop (j + blankV (s.drop j))) 0 ≠ 32 ∧ byte (s.drop (j + blankV (s.drop j))) 0 ≠ 9 ∧ byte (s.drop (j + blankV (s.drop j))) 0 ≠ 35)) := by
  have h := blank_facts (s.drop j)
  rw [List.drop_drop] at h
  simp only [List.length_drop] at h
  exact ⟨by omega, h.2⟩
theorem inv_first (s : Bytes) : InvZ s ⟨blankV s, [], []⟩ := by
  have h := blank_at s (Nat.zero_le s.length)
  simp only [Nat.zero_add, List.drop_zero] at h
  exact ⟨h.1, h.2, fun _ h => (by cases h), fun _ h => (by cases h)⟩
theorem inv_mid {s : Bytes} {Z : Zst} (h : InvZ s Z) (he : endZ s Z = false) : Z.i < nxI s Z ∧ nxI s Z ≤ s.length ∧ (∀ x, x ∈ nxW s Z → x.1 < (nxO s Z).length) ∧ GoodO s.length (nxI s Z) (nxO s Z) := by
  obtain ⟨h1, h2⟩ := endZ_no.1 he
  have hr : s.drop Z.i ≠ [] := by intro e; apply h2; unfold tZ nextT; rw [if_pos e]
  rcases nextT_ok hr (h.bl.resolve_left hr) (Z.i : Int) with ⟨h3, _⟩ | ⟨_, _, hn1, hn2, htx, _, hh, _⟩
  · exact absurd h1 h3
  · have hle := h.le
    simp only [List.length_drop] at hn2
    refine ⟨by unfold nxI tZ; omega, by unfold nxI tZ; omega, pushW_lt h.ws, fun u hu => ?_⟩
    rcases List.mem_append.1 hu with hu | hu
    · have := h.good u hu; exact ⟨this.1, by unfold nxI; omega⟩
    · rw [List.mem_singleton.1 hu]
      refine ⟨?_, ?_⟩
      · show (nextT (s.drop Z.i) Z.i).1.text.length ≤ _
        rw [htx, List.length_take, List.length_drop]; omega
      · show (nextT (s.drop Z.i) Z.i).1.here.length ≤ _
        rw [hh]; exact Nat.zero_le _
theorem inv_next {s : Bytes} {Z : Zst} (h : InvZ s Z) (he : endZ s Z = false) : InvZ s (nxZ s Z) ∧ Z.i < (nxZ s Z).i := by
  obtain ⟨h1, h2, h3, h4⟩ := inv_mid h he
  unfold nxZ
  split
  · have hl := linesV_le (nxW s Z) (nxO s Z) (s.drop (nxI s Z))
    rw [List.length_drop] at hl
    obtain ⟨b1, b2⟩ := blank_at s (j := nxI s Z + (linesV (nxO s Z) (nxW s Z) (s.drop (nxI s Z))).2) (by omega)
    exact ⟨⟨b1, b2, fun _ h => (by cases h), (linesV_good _ _ _ _ h4 h3).mono (Nat.le_add_right _ _)⟩, by show Z.i < nxI s Z + _ + _; omega⟩
  · obtain ⟨b1, b2⟩ := blank_at s h2
    exact ⟨⟨b1, b2, h3, h4.mono (Nat.le_add_right _ _)⟩, by show Z.i < nxI s Z + _; omega⟩
theorem yld_at (s : Bytes) : ∀ (k : Nat) (Z : Zst), InvZ s Z → s.length - Z.i < k → 0 < (yldF s k Z).length ∧
    ∀ n, n < (yldF s k Z).length → (yldF s k Z)[n]? = some (yZ s (itZ s n Z)) ∧ InvZ s (itZ s n Z) ∧ (endZ s (itZ s n Z) = true ↔ n + 1 = (yldF s k Z).length)
  | 0, Z, _, h => by omega
  | k + 1, Z, hi, hk => by
    rw [yldF]
    refine ⟨by simp, ?_⟩
    cases he : endZ s Z with
    | true =>
      intro n hn
      simp at hn; subst hn
      exact ⟨rfl, hi, by simp [itZ, he]⟩
    | false =>
      obtain ⟨h1, h2⟩ := inv_next hi he
      have hle := h1.le
      obtain ⟨h3, h4⟩ := yld_at s k (nxZ s Z) h1 (by omega)
      intro n hn
      simp only [Bool.false_eq_true, if_false, List.length_cons] at hn ⊢
      cases n with
      | zero => exact ⟨rfl, hi, by rw [show itZ s 0 Z = Z from rfl, he]; constructor; (intro h; cases h); (intro h; omega)⟩
      | succ n =>
        obtain ⟨h5, h6, h7⟩ := h4 n (by omega)
        exact ⟨by rw [List.getElem?_cons_succ]; exact h5, h6, by rw [show itZ s (n + 1) Z = itZ s n (nxZ s Z) from rfl, h7]; omega⟩
def endV (s : Bytes) (Z : Zst) : List Tok × Int × Int := if (tZ s Z).2.2 ≠ 0 then ([], (tZ s Z).1.at_, (tZ s Z).2.2) else ((linesV (nxO s Z) (nxW s Z) []).1, 0, 0)
theorem scan_it (s : Bytes) : ∀ (k i : Nat) (out : List Tok) (ws : List (Nat × Bool)), InvZ s ⟨i + blankV (s.drop i), out, ws⟩ → i ≤ s.length → s.length - i < k → ∀ n, n + 1 = (yldF s k ⟨i + blankV (s.drop i), out, ws⟩).length → scanF k (s.drop i) i out ws = endV s (itZ s n ⟨i + blankV (s.drop i), out, ws⟩)
  | 0, i, out, ws, _, _, h, n, hn => by omega
  | k + 1, i, out, ws, hi, hil, hk, n, hn => by
    rw [yldF] at hn
    have et : tZ s ⟨i + blankV (s.drop i), out, ws⟩ = nextT ((s.drop i).drop (blankV (s.drop i))) ((i : Int) + (blankV (s.drop i) : Nat)) := by
      unfold tZ; rw [List.drop_drop]; rfl
    cases he : endZ s ⟨i + blankV (s.drop i), out, ws⟩ with
    | true =>
      rw [he] at hn
      obtain rfl : n = 0 := by simp at hn; exact hn
      simp only [scanF, ← et]
      show _ = endV s ⟨i + blankV (s.drop i), out, ws⟩
      unfold endV
      rcases endZ_iff.1 he with h | h
      · rw [if_pos h, if_pos h]
      · by_cases h2 : (tZ s ⟨i + blankV (s.drop i), out, ws⟩).2.2 ≠ 0
        · rw [if_pos h2, if_pos h2]
        · rw [if_neg h2, if_neg h2, if_pos h]; rfl
    | false =>
      rw [he] at hn
      simp only [Bool.false_eq_true, if_false, List.length_cons] at hn
      obtain ⟨h1, h2⟩ := endZ_no.1 he
      obtain ⟨m1, m2, m3, m4⟩ := inv_mid hi he
      obtain ⟨q1, q2⟩ := inv_next hi he
      have hp := (yld_at s k _ q1 (by have := q1.le; show _ < k; have := hi.le; simp only at q2 this ⊢; omega)).1
      obtain ⟨n, rfl⟩ : ∃ z, n = z + 1 := ⟨n - 1, by omega⟩
      simp only [scanF, ← et]
      rw [if_neg (by rw [h1]; simp), if_neg h2]
      rw [show itZ s (n + 1) ⟨i + blankV (s.drop i), out, ws⟩ = itZ s n (nxZ s ⟨i + blankV (s.drop i), out, ws⟩) from rfl]
      by_cases h3 : (tZ s ⟨i + blankV (s.drop i), out, ws⟩).1.kind = 3
      · rw [if_pos h3]
        have enx : nxZ s ⟨i + blankV (s.drop i), out, ws⟩ = ⟨nxI s ⟨i + blankV (s.drop i), out, ws⟩ + (linesV (nxO s ⟨i + blankV (s.drop i), out, ws⟩) (nxW s ⟨i + blankV (s.drop i), out, ws⟩) (s.drop (nxI s ⟨i + blankV (s.drop i), out, ws⟩))).2 + blankV (s.drop (nxI s ⟨i + blankV (s.drop i), out, ws⟩ + (linesV (nxO s ⟨i + blankV (s.drop i), out, ws⟩) (nxW s ⟨i + blankV (s.drop i), out, ws⟩) (s.drop (nxI s ⟨i + blankV (s.drop i), out, ws⟩))).2)), (linesV (nxO s ⟨i + blankV (s.drop i), out, ws⟩) (nxW s ⟨i + blankV (s.drop i), out, ws⟩) (s.drop (nxI s ⟨i + blankV (s.drop i), out, ws⟩))).1, []⟩ := by unfold nxZ; rw [if_pos h3]
        have ed : ((s.drop i).drop (blankV (s.drop i))).drop (tZ s ⟨i + blankV (s.drop i), out, ws⟩).2.1 = s.drop (nxI s ⟨i + blankV (s.drop i), out, ws⟩) := by rw [List.drop_drop, List.drop_drop]; unfold nxI; congr 1; exact (Nat.add_assoc _ _ _).symm
        rw [ed, List.drop_drop]
        have hl := linesV_le (nxW s ⟨i + blankV (s.drop i), out, ws⟩) (nxO s ⟨i + blankV (s.drop i), out, ws⟩) (s.drop (nxI s ⟨i + blankV (s.drop i), out, ws⟩))
        rw [List.length_drop] at hl
        rw [enx] at hn q1 ⊢
        have hi2 := hi.le
        simp only at m1 hi2
        have r := scan_it s k (nxI s ⟨i + blankV (s.drop i), out, ws⟩ + (linesV (nxO s ⟨i + blankV (s.drop i), out, ws⟩) (nxW s ⟨i + blankV (s.drop i), out, ws⟩) (s.drop (nxI s ⟨i + blankV (s.drop i), out, ws⟩))).2) _ [] q1 (by omega) (by omega) n (by omega)
        rw [← r]
        congr 1
      · rw [if_neg h3]
        have enx : nxZ s ⟨i + blankV (s.drop i), out, ws⟩ = ⟨nxI s ⟨i + blankV (s.drop i), out, ws⟩ + blankV (s.drop (nxI s ⟨i + blankV (s.drop i), out, ws⟩)), nxO s ⟨i + blankV (s.drop i), out, ws⟩, nxW s ⟨i + blankV (s.drop i), out, ws⟩⟩ := by unfold nxZ; rw [if_neg h3]
        have ed : ((s.drop i).drop (blankV (s.drop i))).drop (tZ s ⟨i + blankV (s.drop i), out, ws⟩).2.1 = s.drop (nxI s ⟨i + blankV (s.drop i), out, ws⟩) := by rw [List.drop_drop, List.drop_drop]; unfold nxI; congr 1; exact (Nat.add_assoc _ _ _).symm
        rw [ed]
        rw [enx] at hn q1 ⊢
        have hi2 := hi.le
        simp only at m1 hi2
        have r := scan_it s k (nxI s ⟨i + blankV (s.drop i), out, ws⟩) _ _ q1 m2 (by omega) n (by omega)
        rw [← r]
        congr 1
def mO (s : Bytes) (n : Nat) : List Tok := match n with | 0 => [] | n + 1 => nxO s (itZ s n ⟨blankV s, [], []⟩)
def mW (s : Bytes) (n : Nat) : List (Nat × Bool) := match n with | 0 => [] | n + 1 => nxW s (itZ s n ⟨blankV s, [], []⟩)
theorem tokensV_end {s : Bytes} (hs : s.length ≤ 16384) {n : Nat} (hn : n + 1 = (yldF s (s.length + 1) ⟨blankV s, [], []⟩).length) : tokensV s = endV s (itZ s n ⟨blankV s, [], []⟩) := by
  unfold tokensV; rw [if_neg (by omega)]
  have h := scan_it s (s.length + 1) 0 [] [] (by simpa using inv_first s) (Nat.zero_le _) (by omega) n (by simpa using hn)
  simpa using h
end Go.Proofs.YtghjmiggobpmoaaGreatDoor.K
set_option linter.unusedVariables false
set_option linter.unusedSimpArgs false
set_option autoImplicit false
namespace Go.Proofs.YtghjmiggobpmoaaGreatDoor.K
open Go
section rules
variable {P : Program} {X : Value → World → Prop} {r : Option Nat} {n : Nat} {O : Array Oper} {Q : Post} {l : List Oper} {E : Env} {ds : List Deferred} {w : World} {dst : Option Nat} {ty : TypeId} {pos : String} {af : Array Edge} {g : Option (Nat × Bool)}
end rules
def flatC {α : Type} (f : α → List Value) (xs : List α) : List Value := xs.flatMap f
section flat
variable {α : Type} {sz : Nat} {f : α → List Value} {hp : 0 < sz} {hl : ∀ x, (f x).length = sz} {ho : ∀ x, ∀ u ∈ f x, u.oneCell' = true} {w : World} {D : Nat → Prop}
theorem flatC_len (hl : ∀ x, (f x).length = sz) (xs : List α) : (flatC f xs).length = xs.length * sz := by
  induction xs with
  | nil => simp [flatC]
  | cons x xs ih => simp only [flatC, List.flatMap_cons, List.length_append, List.length_cons, hl] at *; rw [ih, Nat.add_mul]; omega
theorem flatC_chunks (hl : ∀ x, (f x).length = sz) (xs : List α) : Chunks (Enc.flat sz f hp hl ho) w D xs (flatC f xs) := by
  induction xs with
  | nil => exact .nil
  | cons x xs ih => exact Chunks.cons (rfl : (Enc.flat sz f hp hl ho).R w D x (f x)) ih
theorem chunks_flatC {xs : List α} {cs : List Value} (h : Chunks (Enc.flat sz f hp hl ho) w D xs cs) : cs = flatC f xs := by
  have h2 := flatC_chunks (w := w) (D := D) (hp := hp) (ho := ho) hl xs
  apply List.ext_getElem?
  intro j
  by_cases hj : j < cs.length
  · have hjx : j / sz < xs.length := by rw [h.1] at hj; exact Nat.div_lt_of_lt_mul (by rw [Nat.mul_comm]; exact hj)
    obtain ⟨x, hx⟩ : ∃ x, xs[j / sz]? = some x := ⟨_, List.getElem?_eq_getElem hjx⟩
    obtain ⟨vs, rfl, h3⟩ := h.2 _ x hx
    obtain ⟨us, rfl, h4⟩ := h2.2 _ x hx
    have hm : j % sz < (f x).length := by rw [hl]; exact Nat.mod_lt _ hp
    have e : j / sz * sz + j % sz = j := Nat.div_add_mod' j sz
    have h5 := h3 (j % sz) _ (List.getElem?_eq_getElem hm)
    have h6 := h4 (j % sz) _ (List.getElem?_eq_getElem hm)
    rw [show j / sz * (Enc.flat sz f hp hl ho).sz + j % sz = j from e] at h5 h6
    rw [h5, h6]
  · rw [List.getElem?_eq_none (by omega), List.getElem?_eq_none (by rw [flatC_len hl]; have := h.1; show xs.length * sz ≤ j; rw [show cs.length = xs.length * sz from this] at hj; omega)]
theorem Own.raw {e : TypeId} {a : Addr} {cap : Nat} {xs : List α} (h : Own (Enc.flat sz f hp hl ho) e w D (some a) cap xs) : ∃ g rest, a = ⟨g, 0, none⟩ ∧ Blk w g (flatC f xs ++ rest) e ∧ (flatC f xs ++ rest).length = cap * sz ∧ xs.length ≤ cap ∧ cap ≤ 9223372036854775807 ∧ D g := by
  obtain ⟨cs, h1, h2, h3⟩ := h
  rcases h1.2 with ⟨h4, _⟩ | ⟨g, cp, cur, h4, h5, h6, h7, h8, h9, h10⟩
  · simp at h4
  · simp only [Value.slice.injEq, Option.some.injEq] at h4
    obtain ⟨rfl, _, rfl⟩ := h4
    have hcs := chunks_flatC h3
    subst hcs
    replace h10 : List.take (xs.length * sz) cur.toList = flatC f xs := h10
    replace h9 : cur.size = cap * sz := h9
    refine ⟨g, cur.toList.drop (xs.length * sz), rfl, ?_, ?_, h7, by simpa [maxLen] using h8, h2 g (by simp [ob])⟩
    · rw [← h10, List.take_append_drop]; exact h6
    · rw [← h10, List.take_append_drop]; simpa using h9
theorem Own.of_raw {e : TypeId} {g cap : Nat} {xs : List α} {rest : List Value} (hb : Blk w g (flatC f xs ++ rest) e) (hlen : (flatC f xs ++ rest).length = cap * sz) (hle : xs.length ≤ cap) (hcap : cap ≤ 9223372036854775807) (hD : D g) : Own (Enc.flat sz f hp hl ho) e w D (some ⟨g, 0, none⟩) cap xs := by
  refine ⟨flatC f xs, ⟨flatC_len hl xs, .inr ⟨g, cap, _, rfl, Nat.zero_le _, hb, hle, by simpa [maxLen] using hcap, (show Array.size ⟨flatC f xs ++ rest⟩ = cap * sz from by simpa using hlen), ?_⟩⟩, fun k hk => by simp [ob] at hk; subst hk; exact hD, flatC_chunks hl xs⟩
  show (flatC f xs ++ rest).take (xs.length * sz) = flatC f xs
  rw [← flatC_len hl xs, List.take_left]
end flat
end Go.Proofs.YtghjmiggobpmoaaGreatDoor.K
set_option linter.unusedVariables false
set_option linter.unusedSimpArgs false
set_option autoImplicit false
namespace Go.Proofs.YtghjmiggobpmoaaGreatDoor.K
open Go
section rules
variable {P : Program} {r : Option Nat} {n : Nat} {O : Array Oper} {Q : Post} {l : List Oper} {E : Env} {ds : List Deferred} {w : World} {dst : Option Nat} {ty : TypeId} {pos : String} {af : Array Edge} {g : Option (Nat × Bool)}
end rules
end Go.Proofs.YtghjmiggobpmoaaGreatDoor.K
set_option linter.unusedVariables false
set_option linter.unusedSimpArgs false
set_option autoImplicit false
set_option maxRecDepth 20000
namespace Go.Proofs.YtghjmiggobpmoaaGreatDoor.K
open Go Go.Proofs Go.RowKit

def MaxT (w : World) : Prop := ∃ m, w.cell? ⟨1, 0, none⟩ = some (.int .i64 m)
theorem MaxT.lt {w : World} (h : MaxT w) : 1 < w.heap.size := by
  obtain ⟨m, h⟩ := h
  rcases Nat.lt_or_ge 1 w.heap.size with h1 | h1
  · exact h1
  · have h2 : w.heap[1]? = none := Array.getElem?_eq_none h1
    simp [World.cell?, h2] at h
theorem MaxT.kept {w w' : World} (h : MaxT w) (e : w'.heap[1]? = w.heap[1]?) : MaxT w' := by
  obtain ⟨m, h⟩ := h; exact ⟨m, by rw [← h]; simp only [World.cell?, e]⟩
theorem MaxT.tr {w w' : World} {bs : List Nat} (h : MaxT w) (c : Chg bs w w') (hb : 1 ∉ bs) : MaxT w' := h.kept (c.block _ h.lt hb)
theorem MaxT.tr0 {w w' : World} (h : MaxT w) (c : Chg [] w w') : MaxT w' := h.tr c (by simp)
theorem Cut_spec (s c : Bytes) (w : World) (hs : s.length < 4294967281) (hm : MaxT w) : CallR Tryz.prog 38 #[S s, S c] w fun v w' => v = .tuple ⟨[S (Lib.cut s c).1, S (Lib.cut s c).2.1, .bool (Lib.cut s c).2.2]⟩ ∧ Chg [] w w' := by
  obtain ⟨m, hm⟩ := hm
  exact CallR.of (Tryz.strings_Cut ⟨⟨s⟩⟩ ⟨⟨c⟩⟩ m w hs hm) fun e w' ⟨h1, n, h2⟩ => ⟨_, h1, rfl, by rw [h2]; exact Chg.drewN w n⟩
def wtC (x : Nat × Bool) : List Value := [.int .i64 (x.1 : Int), .bool x.2]
def wtE : Enc (Nat × Bool) := .flat 2 wtC (by omega) (fun _ => rfl) (fun _ u hu => by simp [wtC] at hu; rcases hu with rfl | rfl <;> rfl)
def withL (z : Tok) (h : Bytes) (r : Bool) : Tok := { z with here := h, raw := r }
theorem tokL (l : List Tok) : (flatC tokC5 l).length = l.length * 5 := flatC_len (sz := 5) (fun _ => rfl) l
theorem flat_split {l0 l1 : List Tok} {z : Tok} {rest : List Value} : flatC tokC5 (l0 ++ z :: l1) ++ rest = flatC tokC5 l0 ++ (tokC5 z ++ (flatC tokC5 l1 ++ rest)) := by
  simp [flatC]
theorem cell_tok {l0 l1 : List Tok} {z : Tok} {rest : List Value} (k : Nat) {v : Value} (h : (tokC5 z)[k]? = some v) : nthV (flatC tokC5 (l0 ++ z :: l1) ++ rest) (0 + l0.length * 5 + k) = some v := by
  rw [nthV_eq, flat_split, List.getElem?_append_right (by rw [tokL]; omega), tokL, show 0 + l0.length * 5 + k - l0.length * 5 = k by omega, List.getElem?_append_left (List.getElem?_eq_some_iff.1 h).1, h]
theorem set_tok {l0 l1 : List Tok} {z u : Tok} {rest : List Value} (k : Nat) {v : Value} (hk : k < 5) (h : (tokC5 z).set k v = tokC5 u) : setVs (flatC tokC5 (l0 ++ z :: l1) ++ rest) (0 + l0.length * 5 + k) [v] = flatC tokC5 (l0 ++ u :: l1) ++ rest := by
  show setV _ (0 + l0.length * 5 + k) v = _
  rw [setV_eq, flat_split, flat_split, List.set_append_right _ _ (by rw [tokL]; omega), tokL, show 0 + l0.length * 5 + k - l0.length * 5 = k by omega, List.set_append_left _ _ (show k < 5 from hk), h]
theorem flat_len {l0 l1 : List Tok} {z u : Tok} {rest : List Value} : (flatC tokC5 (l0 ++ u :: l1) ++ rest).length = (flatC tokC5 (l0 ++ z :: l1) ++ rest).length := by
  simp only [List.length_append, tokL, List.length_cons]
theorem at_split {l : List Tok} {j : Nat} (h : j < l.length) : ∃ l0 z l1, l = l0 ++ z :: l1 ∧ l0.length = j := by
  refine ⟨l.take j, l[j], l.drop (j + 1), ?_, by rw [List.length_take]; omega⟩
  rw [List.getElem_cons_drop, List.take_append_drop]
theorem linesV_cons {l0 l1 : List Tok} {z : Tok} {st : Bool} {ws : List (Nat × Bool)} {r x : Bytes} {m : Nat} (h : bodyV (plainV z.text).1 st r = (x, m)) :
    linesV (l0 ++ z :: l1) ((l0.length, st) :: ws) r = ((linesV (l0 ++ withL z (z.here ++ x) (plainV z.text).2 :: l1) ws (r.drop m)).1, (linesV (l0 ++ withL z (z.here ++ x) (plainV z.text).2 :: l1) ws (r.drop m)).2 + m) := by
  have e : (l0 ++ z :: l1).getD l0.length ⟨0, [], 0, [], false⟩ = z := by simp [List.getD_eq_getElem?_getD]
  have e2 : ∀ u : Tok, (l0 ++ z :: l1).set l0.length u = l0 ++ u :: l1 := fun u => by simp
  simp only [linesV, e, h, e2]; rfl
theorem cut_all {r c : Bytes} (h : (Lib.cut r c).2.2 = false) : (Lib.cut r c).1 = r := by
  unfold Lib.cut at h ⊢; split
  · rename_i h1; rw [if_pos h1] at h; cases h
  · rfl
def lnV (st : Bool) (r : Bytes) : Bytes := if st then trimT (Lib.cut r [10]).1 else (Lib.cut r [10]).1
def lmV (r : Bytes) : Nat := (Lib.cut r [10]).1.length + (if (Lib.cut r [10]).2.2 then 1 else 0)
def laV (st : Bool) (r : Bytes) : Bytes := if (Lib.cut r [10]).2.2 then lnV st r ++ [10] else lnV st r
theorem lm_pos {r : Bytes} (h : r ≠ []) : 1 ≤ lmV r ∧ lmV r ≤ r.length := by
  unfold lmV
  cases hm : (Lib.cut r [10]).2.2 with
  | true => have := cut_more hm; simp at this ⊢; omega
  | false => rw [cut_all hm]; have := List.length_pos_iff.2 h; simp; omega
theorem la_len (st : Bool) (r : Bytes) : (laV st r).length ≤ lmV r := by
  have h : (lnV st r).length ≤ (Lib.cut r [10]).1.length := by unfold lnV; split; exact trimT_len _; exact Nat.le_refl _
  unfold laV lmV; split
  · simp; omega
  · omega
theorem bodyL_end {fin : Bytes} {st : Bool} {k : Nat} {r : Bytes} (h : r = []) : bodyL fin st k r = ([], 0) := by cases k with | zero => rfl | succ k => rw [bodyL, if_pos h]
theorem bodyL_fin {fin : Bytes} {st : Bool} {k : Nat} {r : Bytes} (hr : r ≠ []) (h : lnV st r = fin) : bodyL fin st (k + 1) r = ([], lmV r) := by
  rw [bodyL, if_neg hr]; simp only []; rw [if_pos (show (if st = true then trimT _ else _) = fin from h)]; rfl
theorem bodyL_go {fin : Bytes} {st : Bool} {k : Nat} {r : Bytes} (hr : r ≠ []) (h : ¬ lnV st r = fin) : bodyL fin st (k + 1) r = (laV st r ++ (bodyL fin st k (r.drop (lmV r))).1, (bodyL fin st k (r.drop (lmV r))).2 + lmV r) := by
  rw [bodyL, if_neg hr]; simp only []; rw [if_neg (show ¬ (if st = true then trimT _ else _) = fin from h)]; rfl
theorem GoodO.set {n i j : Nat} {l0 l1 : List Tok} {z : Tok} {h : Bytes} {r : Bool} (hg : GoodO n i (l0 ++ z :: l1)) (hij : i ≤ j) (hh : h.length ≤ j) : GoodO n j (l0 ++ withL z h r :: l1) := fun u hu => by
  rcases List.mem_append.1 hu with h1 | h1
  · have := hg u (List.mem_append_left _ h1); exact ⟨this.1, by omega⟩
  · rcases List.mem_cons.1 h1 with rfl | h1
    · exact ⟨(hg z (by simp)).1, hh⟩
    · have := hg u (List.mem_append_right _ (List.mem_cons_of_mem _ h1)); exact ⟨this.1, by omega⟩
theorem drop_cons_at {α : Type} {l : List α} {k : Nat} {x : α} (h : l[k]? = some x) : l.drop k = x :: l.drop (k + 1) := by
  obtain ⟨h1, h2⟩ := List.getElem?_eq_some_iff.1 h
  rw [List.drop_eq_getElem_cons h1, h2]

theorem lines_spec {b : Nat} {A Aw : Option Addr} {cap capw : Nat} {out : List Tok} {ws : List (Nat × Bool)} {D : Nat → Prop} (s : Bytes) (i0 : Nat) (w : World) (hb : Blk w b [S s, .slice A out.length cap, .slice Aw ws.length capw] 69) (ho : Own tok5E 51 w D A cap out) (hw : Own wtE 75 w D Aw capw ws) (hDb : ∀ k, D k → k ≠ b ∧ k ≠ 1) (hbx : b ≠ 1)
    (hwj : ∀ x, x ∈ ws → x.1 < out.length) (hi : i0 ≤ s.length) (hs : s.length ≤ 16384) (hg : GoodO s.length i0 out) (hmx : MaxT w) : CallR Tryz.prog 28 #[.pointer (some ⟨b, 0, none⟩), .int .i64 (i0 : Int)] w fun v w' => v = .int .i64 ((i0 + (linesV out ws (s.drop i0)).2 : Nat) : Int) ∧ Blk w' b [S s, .slice A out.length cap, .slice none 0 0] 69 ∧ Own tok5E 51 w' D A cap (linesV out ws (s.drop i0)).1 ∧ (GoodO s.length (i0 + (linesV out ws (s.drop i0)).2) (linesV out ws (s.drop i0)).1 ∧ i0 + (linesV out ws (s.drop i0)).2 ≤ s.length) ∧ Chg (b :: ob A) w w' := by
 refine callR_of_wp (args := [_, _]) Tryz.func28 rfl (Nat.le_of_ble_eq_true rfl) ?_
 have HC : Chg (b :: ob A) w w := .refl _
 have nao_b : b ∉ ob A := fun h => (hDb _ (ho.inD _ h)).1 rfl
 have naw_b : b ∉ ob Aw := fun h => (hDb _ (hw.inD _ h)).1 rfl
 have hws : ∀ k, (s.drop k).length ≤ 16384 := fun k => by rw [List.length_drop]; omega
 have hm1 := hmx.lt
 have hwle := hw.le
 refine sr rfl <| aI rfl <| en <| x_seq <| sr rfl <| mP rfl <| nc rfl <| fa T.fld69_2 rfl <| lL T.one67 rfl (hb.cell rfl) <| Wp rfl <| st_len (ct := #[67]) (by rw [show ((#[67] : Array TypeId)[0]?).bind Tryz.prog.underlying = some (.slice 75) from T.u67]; rfl) rfl <| mI rfl <| en <| x_block <| x_loop (ι := List Tok × Nat × Nat) [1, 6, 7, 8, 9, 10, 11, 17, 18, 19, 20, 21, 22, 23, 24, 25, 26, 27, 28, 29, 30, 31, 32, 33, 34, 35, 36, 37, 38, 39, 40, 41, 42, 43, 44, 45, 46, 47, 48, 49, 50, 51, 52, 53, 54, 55, 56, 57, 58, 59, 60, 61, 62, 63, 64, 65, 66, 67, 68, 69, 70, 71, 72, 73, 74, 75, 76, 77, 78, 79, 80, 81, 82] (fun ⟨L, k, i⟩ => [(1, .int .i64 (i : Int)), (17, .int .i64 (k : Int))]) (fun ⟨L, k, i⟩ W => (L.length = out.length ∧ GoodO s.length i L ∧ k ≤ ws.length ∧ i0 ≤ i ∧ i ≤ s.length ∧ linesV out ws (s.drop i0) = ((linesV L (ws.drop k) (s.drop i)).1, (linesV L (ws.drop k) (s.drop i)).2 + (i - i0))) ∧ (Chg (b :: ob A) w W) ∧ (Blk W b [S s, .slice A out.length cap, .slice Aw ws.length capw] 69) ∧ (Own tok5E 51 W D A cap L) ∧ (Own wtE 75 W D Aw capw ws) ∧ (MaxT W)) (fun ⟨L, k, i⟩ => ws.length - k) (out, 0, i0) ?_ ?_ ?_
 · exact ⟨rfl, rfl, trivial⟩
 ·refine ⟨?_, HC, hb, ho, hw, hmx⟩
  exact ⟨rfl, hg, Nat.zero_le _, Nat.le_refl _, hi, by rw [Nat.sub_self]; rfl⟩
 intro ⟨L, k, i⟩ G2 w1 ⟨⟨hLl, hLg, hk, hi0, his, hlv⟩, HC, hb, ho, hw, hmx⟩
 change wp _ _ _ _ _ (upds (over _ _ G2) [(1, .int .i64 (i : Int)), (17, .int .i64 (k : Int))]) _ _
 refine sr rfl <| Wp rfl <| st_lss rfl rfl <| en <| x_seq <| x_cond rfl (fun h0 => ?_) (fun h0 => ?_)
 ·try simp only [nm, ne_eq] at h0
  obtain ⟨⟨j, st⟩, hx⟩ : ∃ x, ws[k]? = some x := ⟨ws[k], List.getElem?_eq_getElem (by omega)⟩
  have hjL : j < L.length := by rw [hLl]; exact hwj _ (List.mem_of_getElem? hx)
  obtain ⟨l0, z, l1, hLs, rfl⟩ := at_split hjL
  subst hLs
  obtain ⟨ga, hgA, hgaD⟩ : ∃ g, A = some ⟨g, 0, none⟩ ∧ D g := by rcases ho.form with ⟨_, _, h⟩ | ⟨g, h, _, _, _, h2⟩; (simp at h); exact ⟨g, h, h2⟩
  have hoz := ho
  rw [hgA] at hoz
  obtain ⟨g2, rest9, hge, hA, hlnA, hleA, hcapA, hDg⟩ := Own.raw (h := hoz)
  obtain rfl : ga = g2 := by cases hge; rfl
  have naw_ga : ga ∉ ob Aw := hw.ne_blk hA (by decide)
  have ne_b_ga : b ≠ ga := fun e => (hDb _ hgaD).1 e.symm
  have hga0 := (hDb _ hgaD).2
  have hgz := hLg z (by simp)
  have hgs := hws i 
  have hlen0 : (l0 ++ z :: l1).length = out.length := hLl
  rw [List.length_append, List.length_cons] at hlen0 hjL
  have hwl := drop_cons_at hx
  have hz := hw.sl
  refine x_skip <| then_n <| x_seq <| x_block <| sr rfl ?_
  obtain ⟨lb7, _, vs6, hA3, hR5, hC4⟩ := hz.at (i := k) (x := (l0.length, st)) (hx)
  obtain rfl : vs6 = [.int .i64 (l0.length : Int), .bool st] := hR5
  refine Wp rfl <| st_indexAddr T.u67 T.size75 (congrArg (fun z => Value.slice z _ _) hA3) rfl (by omega) (by omega) <| Wp rfl <| st_loadA (vs := [_, _]) T.agg75 rfl hC4 rfl <| Wp rfl <| st_alloc T.zero75 ?_
  intro b6 w8 e9 c10 hb11
  have ge_b6 := gB e9 HC.size
  have ne_b_b6 := nF e9 hb.ne_size
  have ne_ga_b6 := nF e9 hA.ne_size
  have na_wb6 : b6 ∉ ob Aw := hw.fresh (by rw [e9]; exact Nat.le_refl _)
  have nf_hz_b6 : ws = [] ∨ b6 ∉ ob (Aw) := hz.fresh (by rw [e9]; exact Nat.le_refl _)
  replace HC := HC.then c10
  replace hb := hb.tr0 c10
  replace hw := hw.tr0 c10
  replace hmx := hmx.tr0 c10
  replace hA := hA.tr0 c10
  clear e9
  refine Wp rfl <| st_st (v := .agg ⟨[_, _]⟩) T.size75 rfl rfl rfl hb11 ?_
  intro w12 c13 hb14; simp only [setVs, setV] at hb14
  clear hb11
  replace HC := HC.then1 c13 ge_b6
  replace hb := hb.tr1 c13 ne_b_b6
  replace hw := hw.trF flat_flat c13 (by intro k hk hx; simp only [List.mem_singleton] at hx; subst hx; exact na_wb6 hk)
  replace hmx := hmx.tr c13 q1
  replace hA := hA.tr1 c13 ne_ga_b6
  refine en <| x_seq <| x_draw [(0, 0), (1, 0), (2, 0), (3, 0), (4, 0), (5, 0), (6, 0), (7, 0)] T.mixed rfl rfl rfl (fun W => W.heap[b]? = w12.heap[b]? ∧ W.heap[ga]? = w12.heap[ga]? ∧ W.heap[b6]? = w12.heap[b6]? ∧ True) ⟨rfl, rfl, rfl, trivial⟩ ?_
  have o17 := hb
  have o18 := hA
  have o19 := hb14
  have c16 := Chg.drew w12
  generalize World.drew w12 = w15 at c16 ⊢
  replace HC := HC.then c16
  replace hb := hb.tr0 c16
  replace hw := hw.tr0 c16
  replace hmx := hmx.tr0 c16
  replace hA := hA.tr0 c16
  replace hb14 := hb14.tr0 c16
  refine sq_q rfl (fun W hT => r_move (v := .pointer _) rfl) <| sq_q rfl (fun W hT => r_nilCheck rfl) <| sq_q rfl (fun W hT => r_fieldAddr T.fld69_1 rfl) <| sq_q rfl (fun W hT => r_load1 (v := .slice _ _ _) T.one41 rfl (Blk.cell (show Blk W b _ _ from hT.1.trans o17) rfl)) <| sq_q rfl (fun W hT => r_fieldAddr T.fld75_0 rfl) <| sq_q rfl (fun W hT => r_load1 (v := .int _ _) T.one3 rfl (Blk.cell (show Blk W b6 _ _ from hT.2.2.1.trans o19) rfl)) <| sq_q rfl (fun W hT => r_indexAddr (b := ga) (o := 0) (i := (l0.length : Int)) T.u41 T.size51 (show Value.slice A out.length cap = _ by rw [hgA]) rfl (by omega) (by omega)) <| sq_q rfl (fun W hT => r_assign (v := .pointer _) rfl) ?_
  clear o17
  clear o18
  clear o19
  refine sq_nil <| then_n <| sr rfl <| aS rfl <| en <| sr rfl <| mP rfl <| mP rfl <| nc rfl <| fa T.fld51_1 rfl <| lS T.one9 rfl (hA.cell (cell_tok 1 rfl)) <| Wp rfl <| st_call (ags := [_]) rfl rfl T.ent37 rfl (Plain_spec z.text _ (by omega)) ?_
  rintro _ w20 ⟨rfl, c21⟩
  replace HC := HC.then c21
  replace hb := hb.tr0 c21
  replace hw := hw.tr0 c21
  replace hmx := hmx.tr0 c21
  replace hA := hA.tr0 c21
  replace hb14 := hb14.tr0 c21
  refine mv (v := .tuple ⟨[_, _]⟩) rfl <| Wp rfl <| st_extract (vs := [_, _]) (v := S _) rfl rfl <| Wp rfl <| st_extract (vs := [_, _]) (v := .bool _) rfl rfl <| aS rfl <| nc rfl <| fa T.fld51_4 rfl <| Wp rfl <| st_store (v := .bool _) T.size4 rfl rfl rfl hA rfl (by show 0 + l0.length * 5 + 4 + 1 ≤ _; rw [flat_len (z := z), hlnA]; omega) q5 rfl ?_
  intro w22 c23 hb24
  replace hb24 : Blk w22 ga (flatC tokC5 (l0 ++ withL z (z.here ++ []) (plainV z.text).2 :: l1) ++ rest9) 51 := by rw [List.append_nil, ← set_tok (z := z) (u := withL z z.here (plainV z.text).2) 4 (by omega) rfl]; exact hb24
  clear hA
  replace hb := hb.tr1 c23 ne_b_ga
  replace hw := hw.trF flat_flat c23 (by intro k hk hx; simp only [List.mem_singleton] at hx; subst hx; exact naw_ga hk)
  replace hmx := hmx.tr c23 q1
  replace hb14 := hb14.tr1 c23 (Ne.symm ne_ga_b6)
  replace HC := HC.trans c23 (fun x hx => .inl (by rw [List.mem_singleton.1 hx, hgA]; exact List.mem_cons_of_mem _ (by simp [ob])))
  refine en <| x_block <| x_loop (ι := Bytes × Nat × Nat) [1, 9, 10, 11, 39, 40, 41, 42, 43, 44, 45, 46, 47, 48, 49, 50, 51, 52, 53, 54, 55, 56, 57, 58, 59, 60, 61, 62, 63, 64, 65, 66, 67, 68, 69, 70, 71, 72, 73, 74, 75, 76, 77, 78, 79, 80, 81] (fun ⟨acc, kf, p⟩ => [(1, .int .i64 (p : Int))]) (fun ⟨acc, kf, p⟩ W => (acc.length ≤ p - i ∧ i ≤ p ∧ p ≤ s.length ∧ s.length - p ≤ kf ∧ bodyV (plainV z.text).1 st (s.drop i) = (acc ++ (bodyL (plainV z.text).1 st kf (s.drop p)).1, (bodyL (plainV z.text).1 st kf (s.drop p)).2 + (p - i))) ∧ (Chg (b :: ob A) w W) ∧ (Blk W b [S s, .slice A out.length cap, .slice Aw ws.length capw] 69) ∧ (Own wtE 75 W D Aw capw ws) ∧ (MaxT W) ∧ (Blk W b6 [.int .i64 (l0.length : Int), .bool st] 75) ∧ (Blk W ga (flatC tokC5 (l0 ++ withL z (z.here ++ acc) (plainV z.text).2 :: l1) ++ rest9) 51)) (fun ⟨acc, kf, p⟩ => s.length - p) ([], (s.drop i).length, i) ?_ ?_ ?_
  · exact ⟨rfl, trivial⟩
  ·refine ⟨?_, HC, hb, hw, hmx, hb14, hb24⟩
   exact ⟨by simp, Nat.le_refl _, his, by rw [List.length_drop]; exact Nat.le_refl _, by rw [Nat.sub_self]; rfl⟩
  intro ⟨acc, kf, p⟩ G26 w25 ⟨⟨hac, hip, hps, hkf, hbv⟩, HC, hb, hw, hmx, hb14, hA⟩
  change wp _ _ _ _ _ (upds (over _ _ G26) [(1, .int .i64 (p : Int))]) _ _
  refine x_seq <| sr rfl <| mI rfl <| mP rfl <| nc rfl <| fa T.fld69_0 rfl <| lS T.one9 rfl (hb.cell rfl) <| Wp rfl <| st_slen (ct := #[9]) T.u9 rfl <| Wp rfl <| st_lss rfl rfl <| en <| x_cond rfl (fun h1 => ?_) (fun h1 => ?_)
  ·try simp only [nm, ne_eq] at h1
   have hrn : s.drop p ≠ [] := drop_ne (by omega)
   have hlm := lm_pos hrn
   have hla := la_len st (s.drop p)
   have hcl := cut_le (s.drop p) [10]
   obtain ⟨kf, rfl⟩ : ∃ z, kf = z + 1 := ⟨kf - 1, by omega⟩
   have hrl : (s.drop p).length = s.length - p := List.length_drop
   rw [hrl] at hlm
   refine x_skip <| then_n <| x_block <| sr rfl <| mP rfl <| nc rfl <| fa T.fld69_0 rfl <| lS T.one9 rfl (hb.cell rfl) <| mI rfl <| Wp rfl <| st_sslo (i := p) T.u9 rfl ⟨_, rfl⟩ (by omega) <| Wp rfl <| st_call (ags := [_, _]) rfl rfl T.ent38 rfl (Cut_spec (s.drop p) [10] _ (by omega) hmx) ?_
   rintro _ w27 ⟨rfl, c28⟩
   replace HC := HC.then c28
   replace hb := hb.tr0 c28
   replace hw := hw.tr0 c28
   replace hmx := hmx.tr0 c28
   replace hb14 := hb14.tr0 c28
   replace hA := hA.tr0 c28
   refine mv (v := .tuple ⟨[_, _, _]⟩) rfl <| Wp rfl <| st_extract (vs := [_, _, _]) (v := S _) rfl rfl <| Wp rfl <| st_extract (vs := [_, _, _]) (v := S _) rfl rfl <| Wp rfl <| st_extract (vs := [_, _, _]) (v := .bool _) rfl rfl <| aS rfl <| aS rfl <| aB rfl <| en <| sr rfl <| mI rfl <| mS rfl <| Wp rfl <| st_slen (ct := #[9]) T.u9 rfl <| Wp rfl <| st_addn rfl rfl (by constructor <;> omega) <| aI rfl <| en <| x_seq <| sr rfl <| fa T.fld75_1 rfl <| Wp rfl <| st_load1 (v := .bool _) T.one4 rfl (hb14.cell rfl) <| en <| x_cond rfl (fun h2 => ?_) (fun h2 => ?_)
   ·try simp only [nm, ne_eq] at h2
    have hlnq : lnV st (s.drop p) = trimT (Lib.cut (s.drop p) [10]).1 := by unfold lnV; rw [if_pos (by first | assumption | simp_all)]
    have hltr := trimT_len (Lib.cut (s.drop p) [10]).1
    refine x_region rfl <| mS rfl <| Wp rfl <| st_call (ags := [_, _]) rfl rfl T.ent39 rfl (TrimLeft_spec (Lib.cut (s.drop p) [10]).1 _) ?_
    rintro _ w29 ⟨rfl, c30⟩
    replace HC := HC.then c30
    replace hb := hb.tr0 c30
    replace hw := hw.tr0 c30
    replace hmx := hmx.tr0 c30
    replace hb14 := hb14.tr0 c30
    replace hA := hA.tr0 c30
    refine aS rfl <| en <| x_seq <| sr rfl <| mB rfl <| en <| x_cond rfl (fun h3 => ?_) (fun h3 => ?_)
    ·try simp only [nm, ne_eq] at h3
     have hlmq : lmV (s.drop p) = (Lib.cut (s.drop p) [10]).1.length + 1 := by unfold lmV; rw [if_pos (by first | assumption | simp_all)]
     have hlaq : laV st (s.drop p) = lnV st (s.drop p) ++ [10] := by unfold laV; rw [if_pos (by first | assumption | simp_all)]
     rw [hlnq] at hlaq
     refine x_region rfl <| mI rfl <| Wp rfl <| st_addn rfl rfl (by constructor <;> omega) <| aI rfl <| en <| x_seq <| sr rfl <| mS rfl <| mS rfl <| Wp rfl <| st_seql rfl rfl <| en <| x_cond rfl (fun h4 => ?_) (fun h4 => ?_)
     ·try simp only [nm, ne_eq] at h4
      have hbq : bodyV (plainV z.text).1 st (s.drop i) = (acc, (p + ((Lib.cut (s.drop p) [10]).1.length + 1)) - i) := by rw [hbv, bodyL_fin hrn (hlnq.trans (by assumption)), hlmq]; simp; omega
      refine x_exit <| then_x <| block_o rfl <| then_x <| block_x <| block_n <| then_n ?_
      have hoN : Own tok5E 51 w29 D A cap (l0 ++ withL z (z.here ++ acc) (plainV z.text).2 :: l1) := by rw [hgA]; exact Own.of_raw hA (by rw [← hlnA]; simp only [List.length_append, tokL, List.length_cons]) (by simpa using hleA) hcapA hgaD
      refine x_region rfl <| Wp rfl <| st_addn rfl rfl (by constructor <;> omega) <| mI rfl <| en <| ⟨(l0 ++ withL z (z.here ++ acc) (plainV z.text).2 :: l1, k + 1, (p + ((Lib.cut (s.drop p) [10]).1.length + 1))), ?_, ?_, rfl, ⟨rfl, rfl, trivial⟩, ?_⟩
      ·refine ⟨?_, HC, hb, hoN, hw, hmx⟩
       exact ⟨by rw [← hLl]; simp, hLg.set (by omega) (by rw [List.length_append]; omega), by omega, by omega, by omega, by rw [hlv, hwl, linesV_cons hbq, List.drop_drop, show i + ((p + ((Lib.cut (s.drop p) [10]).1.length + 1)) - i) = (p + ((Lib.cut (s.drop p) [10]).1.length + 1)) by omega]; exact congrArg _ (by omega)⟩
      ·show ws.length - (k + 1) < ws.length - k; omega
      exact q9
     ·try simp only [nm, ne_eq] at h4
      have hln : ¬ lnV st (s.drop p) = (plainV z.text).1 := by rw [hlnq]; assumption
      refine x_skip <| then_n <| x_seq <| sr rfl <| mB rfl <| en <| x_cond rfl (fun h5 => ?_) (fun h5 => ?_)
      ·try simp only [nm, ne_eq] at h5
       refine x_region rfl <| mS rfl <| Wp rfl <| st_sadd rfl rfl (by (try simp only [List.length_append, List.length_cons, List.length_nil] at *); omega) <| aS rfl <| en <| x_region rfl <| mP rfl <| nc rfl <| fa T.fld51_3 rfl <| lS T.one9 rfl (hA.cell (cell_tok 3 rfl)) <| mS rfl <| Wp rfl <| st_sadd rfl rfl (by have h7 : (withL z (z.here ++ acc) (plainV z.text).2).here.length = z.here.length + acc.length := List.length_append; have h8 := congrArg List.length hlaq; (try simp only [List.length_append, List.length_cons, List.length_nil] at h8 ⊢); omega) <| nc rfl <| fa T.fld51_3 rfl <| Wp rfl <| st_store (v := S _) T.size9 rfl rfl rfl hA rfl (by show 0 + l0.length * 5 + 3 + 1 ≤ _; rw [flat_len (z := z), hlnA]; omega) q5 rfl ?_
       intro w31 c32 hb33
       replace hb33 : Blk w31 ga (flatC tokC5 (l0 ++ withL z (z.here ++ (acc ++ laV st (s.drop p))) (plainV z.text).2 :: l1) ++ rest9) 51 := by rw [← List.append_assoc, ← set_tok (z := withL z (z.here ++ acc) (plainV z.text).2) (u := withL z (z.here ++ acc ++ laV st (s.drop p)) (plainV z.text).2) 3 (by omega) rfl]; show Blk _ _ (setVs _ _ [S (z.here ++ acc ++ laV st (s.drop p))]) _; rw [hlaq]; exact hb33
       clear hA
       replace hb := hb.tr1 c32 ne_b_ga
       replace hw := hw.trF flat_flat c32 (by intro k hk hx; simp only [List.mem_singleton] at hx; subst hx; exact naw_ga hk)
       replace hmx := hmx.tr c32 q1
       replace hb14 := hb14.tr1 c32 (Ne.symm ne_ga_b6)
       replace HC := HC.trans c32 (fun x hx => .inl (by rw [List.mem_singleton.1 hx, hgA]; exact List.mem_cons_of_mem _ (by simp [ob])))
       refine wops_nil <| block_n <| then_n <| ⟨(acc ++ laV st (s.drop p), kf, (p + ((Lib.cut (s.drop p) [10]).1.length + 1))), ?_, ?_, rfl, ⟨rfl, trivial⟩, ?_⟩
       ·refine ⟨?_, HC, hb, hw, hmx, hb14, hb33⟩
        exact ⟨by rw [List.length_append]; omega, by omega, by omega, by omega, by rw [hbv, bodyL_go hrn hln, List.drop_drop, List.append_assoc, hlmq]; exact congrArg _ (by omega)⟩
       ·show s.length - (p + ((Lib.cut (s.drop p) [10]).1.length + 1)) < s.length - p; omega
       exact q9
      ·try simp only [nm, ne_eq] at h5
       exact absurd h3 (by first | assumption | simp_all)
    ·try simp only [nm, ne_eq] at h3
     have hlmq : lmV (s.drop p) = (Lib.cut (s.drop p) [10]).1.length := by unfold lmV; rw [if_neg (by first | assumption | simp_all)]; rfl
     have hlaq : laV st (s.drop p) = lnV st (s.drop p) := by unfold laV; rw [if_neg (by first | assumption | simp_all)]
     rw [hlnq] at hlaq
     refine x_skip <| then_n <| x_seq <| sr rfl <| mS rfl <| mS rfl <| Wp rfl <| st_seql rfl rfl <| en <| x_cond rfl (fun h4 => ?_) (fun h4 => ?_)
     ·try simp only [nm, ne_eq] at h4
      have hbq : bodyV (plainV z.text).1 st (s.drop i) = (acc, (p + (Lib.cut (s.drop p) [10]).1.length) - i) := by rw [hbv, bodyL_fin hrn (hlnq.trans (by assumption)), hlmq]; simp; omega
      refine x_exit <| then_x <| block_o rfl <| then_x <| block_x <| block_n <| then_n ?_
      have hoN : Own tok5E 51 w29 D A cap (l0 ++ withL z (z.here ++ acc) (plainV z.text).2 :: l1) := by rw [hgA]; exact Own.of_raw hA (by rw [← hlnA]; simp only [List.length_append, tokL, List.length_cons]) (by simpa using hleA) hcapA hgaD
      refine x_region rfl <| Wp rfl <| st_addn rfl rfl (by constructor <;> omega) <| mI rfl <| en <| ⟨(l0 ++ withL z (z.here ++ acc) (plainV z.text).2 :: l1, k + 1, (p + (Lib.cut (s.drop p) [10]).1.length)), ?_, ?_, rfl, ⟨rfl, rfl, trivial⟩, ?_⟩
      ·refine ⟨?_, HC, hb, hoN, hw, hmx⟩
       exact ⟨by rw [← hLl]; simp, hLg.set (by omega) (by rw [List.length_append]; omega), by omega, by omega, by omega, by rw [hlv, hwl, linesV_cons hbq, List.drop_drop, show i + ((p + (Lib.cut (s.drop p) [10]).1.length) - i) = (p + (Lib.cut (s.drop p) [10]).1.length) by omega]; exact congrArg _ (by omega)⟩
      ·show ws.length - (k + 1) < ws.length - k; omega
      exact q9
     ·try simp only [nm, ne_eq] at h4
      have hln : ¬ lnV st (s.drop p) = (plainV z.text).1 := by rw [hlnq]; assumption
      refine x_skip <| then_n <| x_seq <| sr rfl <| mB rfl <| en <| x_cond rfl (fun h5 => ?_) (fun h5 => ?_)
      ·try simp only [nm, ne_eq] at h5
       exact absurd h5 (by first | assumption | simp_all)
      ·try simp only [nm, ne_eq] at h5
       refine x_skip <| then_n <| x_region rfl <| mP rfl <| nc rfl <| fa T.fld51_3 rfl <| lS T.one9 rfl (hA.cell (cell_tok 3 rfl)) <| mS rfl <| Wp rfl <| st_sadd rfl rfl (by have h7 : (withL z (z.here ++ acc) (plainV z.text).2).here.length = z.here.length + acc.length := List.length_append; have h8 := congrArg List.length hlaq; (try simp only [List.length_append, List.length_cons, List.length_nil] at h8 ⊢); omega) <| nc rfl <| fa T.fld51_3 rfl <| Wp rfl <| st_store (v := S _) T.size9 rfl rfl rfl hA rfl (by show 0 + l0.length * 5 + 3 + 1 ≤ _; rw [flat_len (z := z), hlnA]; omega) q5 rfl ?_
       intro w34 c35 hb36
       replace hb36 : Blk w34 ga (flatC tokC5 (l0 ++ withL z (z.here ++ (acc ++ laV st (s.drop p))) (plainV z.text).2 :: l1) ++ rest9) 51 := by rw [← List.append_assoc, ← set_tok (z := withL z (z.here ++ acc) (plainV z.text).2) (u := withL z (z.here ++ acc ++ laV st (s.drop p)) (plainV z.text).2) 3 (by omega) rfl]; show Blk _ _ (setVs _ _ [S (z.here ++ acc ++ laV st (s.drop p))]) _; rw [hlaq]; exact hb36
       clear hA
       replace hb := hb.tr1 c35 ne_b_ga
       replace hw := hw.trF flat_flat c35 (by intro k hk hx; simp only [List.mem_singleton] at hx; subst hx; exact naw_ga hk)
       replace hmx := hmx.tr c35 q1
       replace hb14 := hb14.tr1 c35 (Ne.symm ne_ga_b6)
       replace HC := HC.trans c35 (fun x hx => .inl (by rw [List.mem_singleton.1 hx, hgA]; exact List.mem_cons_of_mem _ (by simp [ob])))
       refine wops_nil <| block_n <| then_n <| ⟨(acc ++ laV st (s.drop p), kf, (p + (Lib.cut (s.drop p) [10]).1.length)), ?_, ?_, rfl, ⟨rfl, trivial⟩, ?_⟩
       ·refine ⟨?_, HC, hb, hw, hmx, hb14, hb36⟩
        exact ⟨by rw [List.length_append]; omega, by omega, by omega, by omega, by rw [hbv, bodyL_go hrn hln, List.drop_drop, List.append_assoc, hlmq]; exact congrArg _ (by omega)⟩
       ·show s.length - (p + (Lib.cut (s.drop p) [10]).1.length) < s.length - p; omega
       exact q9
   ·try simp only [nm, ne_eq] at h2
    have hlnq : lnV st (s.drop p) = (Lib.cut (s.drop p) [10]).1 := by unfold lnV; rw [if_neg (by first | assumption | simp_all)]
    refine x_skip <| then_n <| x_seq <| sr rfl <| mB rfl <| en <| x_cond rfl (fun h3 => ?_) (fun h3 => ?_)
    ·try simp only [nm, ne_eq] at h3
     have hlmq : lmV (s.drop p) = (Lib.cut (s.drop p) [10]).1.length + 1 := by unfold lmV; rw [if_pos (by first | assumption | simp_all)]
     have hlaq : laV st (s.drop p) = lnV st (s.drop p) ++ [10] := by unfold laV; rw [if_pos (by first | assumption | simp_all)]
     rw [hlnq] at hlaq
     refine x_region rfl <| mI rfl <| Wp rfl <| st_addn rfl rfl (by constructor <;> omega) <| aI rfl <| en <| x_seq <| sr rfl <| mS rfl <| mS rfl <| Wp rfl <| st_seql rfl rfl <| en <| x_cond rfl (fun h4 => ?_) (fun h4 => ?_)
     ·try simp only [nm, ne_eq] at h4
      have hbq : bodyV (plainV z.text).1 st (s.drop i) = (acc, (p + ((Lib.cut (s.drop p) [10]).1.length + 1)) - i) := by rw [hbv, bodyL_fin hrn (hlnq.trans (by assumption)), hlmq]; simp; omega
      refine x_exit <| then_x <| block_o rfl <| then_x <| block_x <| block_n <| then_n ?_
      have hoN : Own tok5E 51 w27 D A cap (l0 ++ withL z (z.here ++ acc) (plainV z.text).2 :: l1) := by rw [hgA]; exact Own.of_raw hA (by rw [← hlnA]; simp only [List.length_append, tokL, List.length_cons]) (by simpa using hleA) hcapA hgaD
      refine x_region rfl <| Wp rfl <| st_addn rfl rfl (by constructor <;> omega) <| mI rfl <| en <| ⟨(l0 ++ withL z (z.here ++ acc) (plainV z.text).2 :: l1, k + 1, (p + ((Lib.cut (s.drop p) [10]).1.length + 1))), ?_, ?_, rfl, ⟨rfl, rfl, trivial⟩, ?_⟩
      ·refine ⟨?_, HC, hb, hoN, hw, hmx⟩
       exact ⟨by rw [← hLl]; simp, hLg.set (by omega) (by rw [List.length_append]; omega), by omega, by omega, by omega, by rw [hlv, hwl, linesV_cons hbq, List.drop_drop, show i + ((p + ((Lib.cut (s.drop p) [10]).1.length + 1)) - i) = (p + ((Lib.cut (s.drop p) [10]).1.length + 1)) by omega]; exact congrArg _ (by omega)⟩
      ·show ws.length - (k + 1) < ws.length - k; omega
      exact q9
     ·try simp only [nm, ne_eq] at h4
      have hln : ¬ lnV st (s.drop p) = (plainV z.text).1 := by rw [hlnq]; assumption
      refine x_skip <| then_n <| x_seq <| sr rfl <| mB rfl <| en <| x_cond rfl (fun h5 => ?_) (fun h5 => ?_)
      ·try simp only [nm, ne_eq] at h5
       refine x_region rfl <| mS rfl <| Wp rfl <| st_sadd rfl rfl (by (try simp only [List.length_append, List.length_cons, List.length_nil] at *); omega) <| aS rfl <| en <| x_region rfl <| mP rfl <| nc rfl <| fa T.fld51_3 rfl <| lS T.one9 rfl (hA.cell (cell_tok 3 rfl)) <| mS rfl <| Wp rfl <| st_sadd rfl rfl (by have h7 : (withL z (z.here ++ acc) (plainV z.text).2).here.length = z.here.length + acc.length := List.length_append; have h8 := congrArg List.length hlaq; (try simp only [List.length_append, List.length_cons, List.length_nil] at h8 ⊢); omega) <| nc rfl <| fa T.fld51_3 rfl <| Wp rfl <| st_store (v := S _) T.size9 rfl rfl rfl hA rfl (by show 0 + l0.length * 5 + 3 + 1 ≤ _; rw [flat_len (z := z), hlnA]; omega) q5 rfl ?_
       intro w37 c38 hb39
       replace hb39 : Blk w37 ga (flatC tokC5 (l0 ++ withL z (z.here ++ (acc ++ laV st (s.drop p))) (plainV z.text).2 :: l1) ++ rest9) 51 := by rw [← List.append_assoc, ← set_tok (z := withL z (z.here ++ acc) (plainV z.text).2) (u := withL z (z.here ++ acc ++ laV st (s.drop p)) (plainV z.text).2) 3 (by omega) rfl]; show Blk _ _ (setVs _ _ [S (z.here ++ acc ++ laV st (s.drop p))]) _; rw [hlaq]; exact hb39
       clear hA
       replace hb := hb.tr1 c38 ne_b_ga
       replace hw := hw.trF flat_flat c38 (by intro k hk hx; simp only [List.mem_singleton] at hx; subst hx; exact naw_ga hk)
       replace hmx := hmx.tr c38 q1
       replace hb14 := hb14.tr1 c38 (Ne.symm ne_ga_b6)
       replace HC := HC.trans c38 (fun x hx => .inl (by rw [List.mem_singleton.1 hx, hgA]; exact List.mem_cons_of_mem _ (by simp [ob])))
       refine wops_nil <| block_n <| then_n <| ⟨(acc ++ laV st (s.drop p), kf, (p + ((Lib.cut (s.drop p) [10]).1.length + 1))), ?_, ?_, rfl, ⟨rfl, trivial⟩, ?_⟩
       ·refine ⟨?_, HC, hb, hw, hmx, hb14, hb39⟩
        exact ⟨by rw [List.length_append]; omega, by omega, by omega, by omega, by rw [hbv, bodyL_go hrn hln, List.drop_drop, List.append_assoc, hlmq]; exact congrArg _ (by omega)⟩
       ·show s.length - (p + ((Lib.cut (s.drop p) [10]).1.length + 1)) < s.length - p; omega
       exact q9
      ·try simp only [nm, ne_eq] at h5
       exact absurd h3 (by first | assumption | simp_all)
    ·try simp only [nm, ne_eq] at h3
     have hlmq : lmV (s.drop p) = (Lib.cut (s.drop p) [10]).1.length := by unfold lmV; rw [if_neg (by first | assumption | simp_all)]; rfl
     have hlaq : laV st (s.drop p) = lnV st (s.drop p) := by unfold laV; rw [if_neg (by first | assumption | simp_all)]
     rw [hlnq] at hlaq
     refine x_skip <| then_n <| x_seq <| sr rfl <| mS rfl <| mS rfl <| Wp rfl <| st_seql rfl rfl <| en <| x_cond rfl (fun h4 => ?_) (fun h4 => ?_)
     ·try simp only [nm, ne_eq] at h4
      have hbq : bodyV (plainV z.text).1 st (s.drop i) = (acc, (p + (Lib.cut (s.drop p) [10]).1.length) - i) := by rw [hbv, bodyL_fin hrn (hlnq.trans (by assumption)), hlmq]; simp; omega
      refine x_exit <| then_x <| block_o rfl <| then_x <| block_x <| block_n <| then_n ?_
      have hoN : Own tok5E 51 w27 D A cap (l0 ++ withL z (z.here ++ acc) (plainV z.text).2 :: l1) := by rw [hgA]; exact Own.of_raw hA (by rw [← hlnA]; simp only [List.length_append, tokL, List.length_cons]) (by simpa using hleA) hcapA hgaD
      refine x_region rfl <| Wp rfl <| st_addn rfl rfl (by constructor <;> omega) <| mI rfl <| en <| ⟨(l0 ++ withL z (z.here ++ acc) (plainV z.text).2 :: l1, k + 1, (p + (Lib.cut (s.drop p) [10]).1.length)), ?_, ?_, rfl, ⟨rfl, rfl, trivial⟩, ?_⟩
      ·refine ⟨?_, HC, hb, hoN, hw, hmx⟩
       exact ⟨by rw [← hLl]; simp, hLg.set (by omega) (by rw [List.length_append]; omega), by omega, by omega, by omega, by rw [hlv, hwl, linesV_cons hbq, List.drop_drop, show i + ((p + (Lib.cut (s.drop p) [10]).1.length) - i) = (p + (Lib.cut (s.drop p) [10]).1.length) by omega]; exact congrArg _ (by omega)⟩
      ·show ws.length - (k + 1) < ws.length - k; omega
      exact q9
     ·try simp only [nm, ne_eq] at h4
      have hln : ¬ lnV st (s.drop p) = (plainV z.text).1 := by rw [hlnq]; assumption
      refine x_skip <| then_n <| x_seq <| sr rfl <| mB rfl <| en <| x_cond rfl (fun h5 => ?_) (fun h5 => ?_)
      ·try simp only [nm, ne_eq] at h5
       exact absurd h5 (by first | assumption | simp_all)
      ·try simp only [nm, ne_eq] at h5
       refine x_skip <| then_n <| x_region rfl <| mP rfl <| nc rfl <| fa T.fld51_3 rfl <| lS T.one9 rfl (hA.cell (cell_tok 3 rfl)) <| mS rfl <| Wp rfl <| st_sadd rfl rfl (by have h7 : (withL z (z.here ++ acc) (plainV z.text).2).here.length = z.here.length + acc.length := List.length_append; have h8 := congrArg List.length hlaq; (try simp only [List.length_append, List.length_cons, List.length_nil] at h8 ⊢); omega) <| nc rfl <| fa T.fld51_3 rfl <| Wp rfl <| st_store (v := S _) T.size9 rfl rfl rfl hA rfl (by show 0 + l0.length * 5 + 3 + 1 ≤ _; rw [flat_len (z := z), hlnA]; omega) q5 rfl ?_
       intro w40 c41 hb42
       replace hb42 : Blk w40 ga (flatC tokC5 (l0 ++ withL z (z.here ++ (acc ++ laV st (s.drop p))) (plainV z.text).2 :: l1) ++ rest9) 51 := by rw [← List.append_assoc, ← set_tok (z := withL z (z.here ++ acc) (plainV z.text).2) (u := withL z (z.here ++ acc ++ laV st (s.drop p)) (plainV z.text).2) 3 (by omega) rfl]; show Blk _ _ (setVs _ _ [S (z.here ++ acc ++ laV st (s.drop p))]) _; rw [hlaq]; exact hb42
       clear hA
       replace hb := hb.tr1 c41 ne_b_ga
       replace hw := hw.trF flat_flat c41 (by intro k hk hx; simp only [List.mem_singleton] at hx; subst hx; exact naw_ga hk)
       replace hmx := hmx.tr c41 q1
       replace hb14 := hb14.tr1 c41 (Ne.symm ne_ga_b6)
       replace HC := HC.trans c41 (fun x hx => .inl (by rw [List.mem_singleton.1 hx, hgA]; exact List.mem_cons_of_mem _ (by simp [ob])))
       refine wops_nil <| block_n <| then_n <| ⟨(acc ++ laV st (s.drop p), kf, (p + (Lib.cut (s.drop p) [10]).1.length)), ?_, ?_, rfl, ⟨rfl, trivial⟩, ?_⟩
       ·refine ⟨?_, HC, hb, hw, hmx, hb14, hb42⟩
        exact ⟨by rw [List.length_append]; omega, by omega, by omega, by omega, by rw [hbv, bodyL_go hrn hln, List.drop_drop, List.append_assoc, hlmq]; exact congrArg _ (by omega)⟩
       ·show s.length - (p + (Lib.cut (s.drop p) [10]).1.length) < s.length - p; omega
       exact q9
  ·try simp only [nm, ne_eq] at h1
   have hbq : bodyV (plainV z.text).1 st (s.drop i) = (acc, p - i) := by rw [hbv, bodyL_end (List.drop_eq_nil_of_le (by omega))]; simp
   refine x_exit <| then_x <| then_x <| block_x <| block_n <| then_n ?_
   have hoN : Own tok5E 51 w25 D A cap (l0 ++ withL z (z.here ++ acc) (plainV z.text).2 :: l1) := by rw [hgA]; exact Own.of_raw hA (by rw [← hlnA]; simp only [List.length_append, tokL, List.length_cons]) (by simpa using hleA) hcapA hgaD
   refine x_region rfl <| Wp rfl <| st_addn rfl rfl (by constructor <;> omega) <| mI rfl <| en <| ⟨(l0 ++ withL z (z.here ++ acc) (plainV z.text).2 :: l1, k + 1, p), ?_, ?_, rfl, ⟨rfl, rfl, trivial⟩, ?_⟩
   ·refine ⟨?_, HC, hb, hoN, hw, hmx⟩
    exact ⟨by rw [← hLl]; simp, hLg.set (by omega) (by rw [List.length_append]; omega), by omega, by omega, by omega, by rw [hlv, hwl, linesV_cons hbq, List.drop_drop, show i + (p - i) = p by omega]; exact congrArg _ (by omega)⟩
   ·show ws.length - (k + 1) < ws.length - k; omega
   exact q9
 ·try simp only [nm, ne_eq] at h0
  have hkw : k = ws.length := by omega
  have hfv : linesV out ws (s.drop i0) = (L, i - i0) := by rw [hlv, hkw, List.drop_length]; simp [linesV]
  refine x_exit <| then_x <| then_x <| block_x <| then_n <| sr rfl <| mP rfl <| nc rfl <| fa T.fld69_2 rfl <| Wp rfl <| st_st (v := .slice _ _ _) T.size67 rfl rfl rfl hb ?_
  intro w43 c44 hb45; simp only [setVs, setV] at hb45
  clear hb
  replace HC := HC.trans c44 q4
  replace ho := ho.trF flat_flat c44 (by intro k hk hx; simp only [List.mem_singleton] at hx; subst hx; exact nao_b hk)
  refine en <| sr rfl <| mI rfl <| aI rfl <| en <| x_ret <| ret_tmp (v := .int _ _) rfl rfl ?_
  rw [hfv]
  exact ⟨congrArg (Value.int .i64) (by show (i : Int) = ((i0 + (i - i0) : Nat) : Int); omega), hb45, ho, ⟨by show GoodO s.length (i0 + (i - i0)) L; rw [show i0 + (i - i0) = i by omega]; exact hLg, by show i0 + (i - i0) ≤ _; omega⟩, HC⟩

end Go.Proofs.YtghjmiggobpmoaaGreatDoor.K
set_option linter.unusedVariables false
set_option linter.unusedSimpArgs false
set_option autoImplicit false
namespace Go.Proofs.YtghjmiggobpmoaaGreatDoor.K
open Go Go.RowKit
variable {P : Program} {r : Option Nat} {n : Nat} {O : Array Oper} {Q : Post} {E : Env} {ds : List Deferred} {w : World} {l : List Oper}
end Go.Proofs.YtghjmiggobpmoaaGreatDoor.K
