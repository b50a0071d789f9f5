/- Walks: a blank more. -/
import Derived.Test.YtcgcbpknbjafcaaDoorBj
import Derived.Test.YtcgcbpknbjafcaaDoorKitM
set_option linter.unusedVariables false
set_option linter.unusedSimpArgs false
set_option autoImplicit false
set_option maxRecDepth 20000
namespace Go.Proofs.YtcgcbpknbjafcaaDoor.K
open Go Go.Proofs Go.RowKit

/-! ### a slice whose elements are written -/
def Row4 {α : Type} (f : α → List Value) (xs : List α) (cur : List Value) : Prop := xs.length * 4 ≤ cur.length ∧ ∀ (i : Nat) (x : α), xs[i]? = some x → ∀ (j : Nat) (v : Value), (f x)[j]? = some v → cur[i * 4 + j]? = some v
theorem Own.row4 {α : Type} {f : α → List Value} {h1 h2 h3} {e : TypeId} {w : World} {D : Nat → Prop} {A : Option Addr} {cap : Nat} {xs : List α} (h : Own (Enc.flat 4 f h1 h2 h3) e w D A cap xs) (hx : xs ≠ []) :
    ∃ g cur, A = some ⟨g, 0, none⟩ ∧ D g ∧ Blk w g cur e ∧ Row4 f xs cur := by
  obtain ⟨cs, k1, k2, k3⟩ := h
  rcases k1.2 with ⟨h4, h5⟩ | ⟨g, cp, cur, h4, h5, h6, h7, h8, h9, h10⟩
  · exact absurd (List.eq_nil_of_length_eq_zero h5) hx
  · simp only [Value.slice.injEq] at h4; obtain ⟨rfl, _, rfl⟩ := h4
    have hat : ∀ (i : Nat) (x : α), xs[i]? = some x → ∀ (j : Nat) (v : Value), (f x)[j]? = some v → cur.toList[i * 4 + j]? = some v := fun i x hx j v hj => by
      obtain ⟨vs, q1, q2⟩ := k3.2 i x hx
      obtain rfl : vs = f x := q1
      have hc : cs[i * 4 + j]? = some v := q2 j v hj
      rw [← h10, List.getElem?_take] at hc
      split at hc
      · exact hc
      · cases hc
    refine ⟨g, cur.toList, rfl, k2 g (by simp [ob]), h6, ?_, hat⟩
    by_cases hz : xs.length = 0
    · omega
    · obtain ⟨x, hx1⟩ : ∃ x, xs[xs.length - 1]? = some x := ⟨_, List.getElem?_eq_getElem (by omega)⟩
      have hl : (f x).length = 4 := h2 x
      have := hat _ x hx1 3 ((f x)[3]'(by omega)) (List.getElem?_eq_getElem _)
      have := (List.getElem?_eq_some_iff.1 this).1
      omega
theorem Row4.sl {α : Type} {f : α → List Value} {h1 h2 h3} {e : TypeId} {w : World} {D : Nat → Prop} {g : Nat} {cur : List Value} {xs : List α} (h : Row4 f xs cur) (hb : Blk w g cur e) (hD : D g) : Sl (Enc.flat 4 f h1 h2 h3) w D (some ⟨g, 0, none⟩) xs :=
  .inr ⟨g, 0, rfl, hb.lt, hD, fun i x hx => ⟨f x, rfl, fun j v hj => by
    have := h.2 i x hx j v hj
    refine hb.cell ?_
    rw [nthV_eq, Nat.zero_add]; exact this⟩⟩
theorem Row4.set {α : Type} {f : α → List Value} {cur : List Value} {xs : List α} {i k : Nat} {x x' : α} {v : Value} (h : Row4 f xs cur) (hx : xs[i]? = some x) (hk : k < 4) (hl : ∀ x, (f x).length = 4) (hf : f x' = (f x).set k v) : Row4 f (xs.set i x') (cur.set (i * 4 + k) v) := by
  have hi := (List.getElem?_eq_some_iff.1 hx).1
  refine ⟨by simpa using h.1, fun i2 x2 hx2 j u hj => ?_⟩
  rw [List.getElem?_set] at hx2
  by_cases e : i = i2
  · subst e
    rw [if_pos rfl, if_pos hi] at hx2
    obtain rfl := Option.some.inj hx2
    rw [hf, List.getElem?_set] at hj
    by_cases ej : k = j
    · subst ej
      rw [if_pos rfl, if_pos (by rw [hl]; exact hk)] at hj
      obtain rfl := Option.some.inj hj
      have := h.1
      rw [List.getElem?_set_self (by omega)]
    · rw [if_neg ej] at hj
      rw [List.getElem?_set_ne (by omega)]
      exact h.2 _ x hx j u hj
  · rw [if_neg e] at hx2
    have hj4 : j < 4 := by have := (List.getElem?_eq_some_iff.1 hj).1; rw [hl] at this; exact this
    rw [List.getElem?_set_ne (by omega)]
    exact h.2 _ x2 hx2 j u hj
def zTk (x : Tk) : Tk := (x.1, 0)
/-- The first i without their places. -/
def zer (i : Nat) (a : List Tk) : List Tk := (a.take i).map zTk ++ a.drop i
theorem zer_at {a : List Tk} {i : Nat} {x : Tk} (h : a[i]? = some x) : (zer i a)[i]? = some x := by
  obtain ⟨hi, he⟩ := List.getElem?_eq_some_iff.1 h
  unfold zer
  rw [List.getElem?_append_right (by simp; omega)]
  simp [List.length_take, Nat.min_eq_left (Nat.le_of_lt hi)]
  exact h
theorem zer_step {a : List Tk} {i : Nat} {x : Tk} (h : a[i]? = some x) : (zer i a).set i (zTk x) = zer (i + 1) a := by
  obtain ⟨hi, he⟩ := List.getElem?_eq_some_iff.1 h
  unfold zer
  rw [List.set_append_right _ _ (by simp; omega), List.take_add_one, h, List.drop_eq_getElem_cons hi]
  simp [List.length_take, Nat.min_eq_left (Nat.le_of_lt hi)]
  rw [List.drop_eq_getElem_cons hi]; rfl
theorem zer_end {a : List Tk} {i : Nat} (h : ¬ i < a.length) : zer i a = a.map zTk := by
  unfold zer; rw [List.take_of_length_le (by omega), List.drop_of_length_le (by omega), List.append_nil]
/-! ### the law -/
theorem toks_places {s : Bytes} : ∀ (k i : Nat), i ≤ s.length → s.length - i < k → (∀ y, y ∈ toksF k s i → (i : Int) ≤ y.2.1 ∧ y.2.1 ≤ s.length) ∧ (toksF k s i).Pairwise (fun a b => a.2.1 < b.2.1)
  | 0, i, _, h => absurd h (by omega)
  | k + 1, i, hi, hk => by
    have ha := atV_le hi
    have hn := nextV_len (s.drop (atV s i))
    rw [List.length_drop] at hn
    obtain ⟨hn1, hn2, hn3⟩ := hn
    rw [toksF_succ]
    split
    · refine ⟨fun y hy => ?_, List.pairwise_singleton _ _⟩
      rw [List.mem_singleton.1 hy]
      show (i : Int) ≤ ((atV s i : Nat) : Int) ∧ ((atV s i : Nat) : Int) ≤ s.length
      omega
    · rename_i hs
      have hp := hn3 (fun h => hs h)
      obtain ⟨ih1, ih2⟩   := toks_places (s := s) k (atV s i + (nextV (s.drop (atV s i))).2.1.toNat) (by omega) (by omega)
      refine ⟨fun y hy => ?_, List.pairwise_cons.2 ⟨fun y hy => ?_, ih2⟩⟩
      · rcases List.mem_cons.1 hy with rfl | hy
        · show (i : Int) ≤ ((atV s i : Nat) : Int) ∧ ((atV s i : Nat) : Int) ≤ s.length
          omega
        · have := ih1 y hy; omega
      · have := ih1 y hy
        show ((atV s i : Nat) : Int) < y.2.1
        omega
theorem toks_fuel {s : Bytes} : ∀ (k i : Nat), i ≤ s.length → s.length - i < k → toksF (k + 1) s i = toksF k s i
  | 0, i, _, h => absurd h (by omega)
  | k + 1, i, hi, hk => by
    have ha := atV_le hi
    have hn := nextV_len (s.drop (atV s i))
    rw [List.length_drop] at hn
    obtain ⟨hn1, hn2, hn3⟩ := hn
    rw [toksF_succ (k + 1) s i, toksF_succ k s i]
    split
    · rfl
    · rename_i hs
      have hp := hn3 (fun h => hs h)
      rw [toks_fuel (s := s) k _ (by omega) (by omega)]
def strip (y : Yd) : (Int × Int × Bytes) × Int := (y.1, y.2.2)
theorem stop_strip {a b : Yd} (h : strip a = strip b) : stopV a ↔ stopV b := by
  have h1 := congrArg Prod.fst h; have h2 := congrArg Prod.snd h
  simp only [strip] at h1 h2
  simp only [stopV, h1, h2]
theorem strip_step {s T : Bytes} {k i j : Nat} (h : s.drop (atV s i) = T.drop (atV T j)) (hr : (toksF k s (atV s i + (nextV (s.drop (atV s i))).2.1.toNat)).map strip = (toksF k T (atV T j + (nextV (T.drop (atV T j))).2.1.toNat)).map strip) :
    (toksF (k + 1) s i).map strip = (toksF (k + 1) T j).map strip := by
  have hy : strip (yV s (atV s i)) = strip (yV T (atV T j)) := by simp only [strip, yV, h]
  rw [toksF_succ, toksF_succ]
  by_cases hs : stopV (yV s (atV s i))
  · rw [if_pos hs, if_pos ((stop_strip hy).1 hs)]; simp [hy]
  · rw [if_neg hs, if_neg (fun h => hs ((stop_strip hy).2 h)), List.map_cons, List.map_cons, hy, hr]
theorem strip_drop {s T : Bytes} : ∀ (k i j : Nat), s.drop i = T.drop j → (toksF k s i).map strip = (toksF k T j).map strip
  | 0, _, _, _ => rfl
  | k + 1, i, j, h => by
    have ha : s.drop (atV s i) = T.drop (atV T j) := by
      unfold atV; rw [← List.drop_drop, ← List.drop_drop, h]
    refine strip_step ha (strip_drop k _ _ ?_)
    rw [← List.drop_drop, ← List.drop_drop, ha]
theorem runN_lt {p : UInt8 → Bool} {x v v' : Bytes} (h : runN p (x ++ v) < x.length) : runN p (x ++ v') = runN p (x ++ v) := by
  induction x with
  | nil => simp at h
  | cons c x ih =>
    simp only [List.cons_append, runN, List.length_cons] at h ⊢
    split
    · rename_i hc
      rw [if_pos hc] at h
      rw [ih (by omega)]
    · rfl
theorem runN_full {p : UInt8 → Bool} : ∀ {x : Bytes}, ∀ {v : Bytes}, x.length ≤ runN p (x ++ v) → x.all p = true
  | [], _, _ => rfl
  | c :: x, v, h => by
    simp only [List.cons_append, runN, List.length_cons] at h
    split at h
    · rename_i hc
      rw [List.all_cons, hc, runN_full (x := x) (v := v) (by omega)]; rfl
    · omega
/-- A run that ends within x, or just behind it ahead of a byte that stops it. -/
theorem runN_pre {p : UInt8 → Bool} {x v v' : Bytes} (h : runN p (x ++ v) ≤ x.length) (h0 : runN p v' = 0) : runN p (x ++ v') = runN p (x ++ v) := by
  by_cases e : runN p (x ++ v) < x.length
  · exact runN_lt e
  · have := runN_full (p := p) (x := x) (v := v) (by omega)
    rw [runN_app this, h0]; omega
theorem ops_no32 : ∀ o, o ∈ opsL → (32 : UInt8) ∉ o := by decide
theorem pre_iff {s o : Bytes} : Lib.hasPrefix s o = true ↔ ∃ t, s = o ++ t := by
  unfold Lib.hasPrefix; rw [List.isPrefixOf_iff_prefix]
  exact ⟨fun ⟨t, h⟩ => ⟨t, h.symm⟩, fun ⟨t, h⟩ => ⟨t, h.symm⟩⟩
theorem pre_app {x v o : Bytes} (h : Lib.hasPrefix (x ++ v) o = true) (hl : o.length ≤ x.length) (v' : Bytes) : Lib.hasPrefix (x ++ v') o = true := by
  obtain ⟨t, ht⟩ := pre_iff.1 h
  have h1 : x.take o.length = o := by
    have := congrArg (List.take o.length) ht
    rwa [List.take_append_of_le_length hl, List.take_left'  rfl] at this
  exact pre_iff.2 ⟨x.drop o.length ++ v', by rw [← List.append_assoc, ← h1, List.length_take, Nat.min_eq_left hl, List.take_append_drop]⟩
theorem pre_32 {x v o : Bytes} (h : Lib.hasPrefix (x ++ 32 :: v) o = true) (ho : (32 : UInt8) ∉ o) : o.length ≤ x.length := by
  obtain ⟨t, ht⟩ := pre_iff.1 h
  by_cases hl : o.length ≤ x.length
  · exact hl
  · exfalso
    apply ho
    have := congrArg (fun l => l[x.length]?) ht
    simp only [List.getElem?_append_right (Nat.le_refl _), Nat.sub_self, List.getElem?_cons_zero] at this
    rw [List.getElem?_append_left (by omega)] at this
    exact List.mem_of_getElem? this.symm
theorem opV_pre {x v : Bytes} (h : ¬ opV (x ++ v) = []) (hl : (opV (x ++ v)).length ≤ x.length) : opV (x ++ 32 :: v) = opV (x ++ v) := by
  cases hx : opsL.find? (Lib.hasPrefix (x ++ v)) with
  | none => exact absurd (by unfold opV; rw [hx]; rfl) h
  | some o =>
    have e : opV (x ++ v) = o := by unfold opV; rw [hx]; rfl
    rw [e] at hl ⊢
    obtain ⟨hp, a, b, hab, hall⟩ := List.find?_eq_some_iff_append.1 hx
    have : opsL.find? (Lib.hasPrefix (x ++ 32 :: v)) = some o := List.find?_eq_some_iff_append.2 ⟨pre_app hp hl _, a, b, hab, fun c hc => by
      have h1 := hall c hc
      cases h2 : Lib.hasPrefix (x ++ 32 :: v) c with
      | false => rfl
      | true =>
        have h3 := pre_32 h2 (ops_no32 c (by rw [hab]; simp [hc]))
        rw [pre_app h2 h3 v] at h1; cases h1⟩
    unfold opV; rw [this]; rfl
theorem next_pre {x v : Bytes} {t : Int × Int × Bytes} {n : Nat} (hx : x ≠ []) (h : nextV (x ++ v) = (t, (n : Int), 0)) (ht : ¬ t.1 = 0) (hn : n ≤ x.length) : nextV (x ++ 32 :: v) = (t, (n : Int), 0) := by
  have hp := List.length_pos_iff.2 hx
  have hb : byte (x ++ 32 :: v) 0 = byte (x ++ v) 0 := by
    cases x with
    | nil => exact absurd rfl hx
    | cons c x => rfl
  have l1 : 0 < (x ++ v).length := by simp; omega
  have l2 : 0 < (x ++ 32 :: v).length := by simp; omega
  have hr : runN wordB (x ++ v) ≤ x.length → runN wordB (x ++ 32 :: v) = runN wordB (x ++ v) := fun hle => runN_pre hle rfl
  have tk : ∀ r, r ≤ x.length → (x ++ 32 :: v).take r = (x ++ v).take r := fun r hr => by rw [List.take_append_of_le_length hr, List.take_append_of_le_length hr]
  by_cases hd : digB (byte (x ++ v) 0) = true
  · by_cases hc : (constV ((x ++ v).take (runN wordB (x ++ v)))).2 = true
    · have e := next_num (s := x ++ v) (i := 0) l1 hd rfl hc
      rw [List.drop_zero] at e
      rw [e] at h
      have h1 : runN wordB (x ++ v) = n := by
        have e3 : ((runN wordB (x ++ v) : Nat) : Int) = n := congrArg (fun z => z.2.1) h
        omega
      have e2 := next_num (s := x ++ 32 :: v) (i := 0) (W := (x ++ v).take (runN wordB (x ++ v))) l2 (by rw [hb]; exact hd) (by rw [List.drop_zero, hr (by omega), tk _ (by omega)]) hc
      rw [List.drop_zero, hr (by omega)] at e2
      rw [e2]; exact h
    · have e := next_bad (s := x ++ v) (i := 0) l1 hd rfl (by simpa using hc)
      rw [List.drop_zero] at e
      rw [e] at h
      have := congrArg (fun z => z.2.2) h; simp at this
  · by_cases hg : begB (byte (x ++ v) 0) = true
    · have e := next_name (s := x ++ v) (i := 0) l1 (by simpa using hd) hg rfl
      rw [List.drop_zero] at e
      rw [e] at h
      have h1 : runN wordB (x ++ v) = n := by
        have e3 : ((runN wordB (x ++ v) : Nat) : Int) = n := congrArg (fun z => z.2.1) h
        omega
      have e2 := next_name (s := x ++ 32 :: v) (i := 0) (W := (x ++ v).take (runN wordB (x ++ v))) l2 (by rw [hb]; simpa using hd) (by rw [hb]; exact hg) (by rw [List.drop_zero, hr (by omega), tk _ (by omega)])
      rw [List.drop_zero, hr (by omega)] at e2
      rw [e2]; exact h
    · by_cases ho : opV (x ++ v) = []
      · have e := next_none (s := x ++ v) (i := 0) l1 (by simpa using hd) (by simpa using hg) (by rw [List.drop_zero]; exact ho)
        rw [List.drop_zero] at e
        rw [e] at h
        have := congrArg (fun z => z.2.2) h; simp at this
      · have e := next_op (s := x ++ v) (i := 0) l1 (by simpa using hd) (by simpa using hg) (by rw [List.drop_zero]; exact ho)
        rw [List.drop_zero] at e
        rw [e] at h
        have h1 : (opV (x ++ v)).length = n := by
          have e3 : (((opV (x ++ v)).length : Nat) : Int) = n := congrArg (fun z => z.2.1) h
          omega
        have ho2 := opV_pre ho (by omega)
        have e2 := next_op (s := x ++ 32 :: v) (i := 0) l2 (by rw [hb]; simpa using hd) (by rw [hb]; simpa using hg) (by rw [List.drop_zero, ho2]; exact ho)
        rw [List.drop_zero, ho2] at e2
        rw [e2]; exact h
theorem blank_one {s : Bytes} {q : Nat} (hq : q ≤ s.length) : ∀ (k i : Nat), i ≤ q → s.length - i < k → (∃ y, y ∈ toksF k s i ∧ y.2.1 = (q : Int)) → (toksF k s i).map strip = (toksF k ((s.take q ++ [32]) ++ s.drop q) i).map strip
  | 0, i, _, h, _ => absurd h (by omega)
  | k + 1, i, hi, hk, hy => by
    obtain ⟨T, hT⟩ : ∃ T, T = (s.take q ++ [32]) ++ s.drop q := ⟨_, rfl⟩
    rw [← hT]
    have ha := atV_le (s := s) (i := i) (by omega)
    have hn := nextV_len (s.drop (atV s i))
    rw [List.length_drop] at hn
    obtain ⟨hn1, hn2, hn3⟩ := hn
    have hTd : ∀ j, j ≤ q → T.drop j = (s.take q).drop j ++ 32 :: s.drop q := fun j hj => by
      rw [hT, List.append_assoc, List.drop_append_of_le_length (by simp; omega)]; rfl
    have hsd : ∀ j, j ≤ q → s.drop j = (s.take q).drop j ++ s.drop q := fun j hj => by
      conv => lhs; rw [← List.take_append_drop q s]
      rw [List.drop_append_of_le_length (by simp; omega)]
    have hlen : ∀ j, ((s.take q).drop j).length = q - j := fun j => by simp [Nat.min_eq_left hq]
    have hTq : T.drop (q + 1) = s.drop q := by
      have e0 : (s.take q).drop q = [] := List.drop_of_length_le (by rw [List.length_take]; omega)
      rw [← List.drop_drop, hTd q (Nat.le_refl _), e0]; rfl
    obtain ⟨y, hy1, hy2⟩ := hy
    rw [toksF_succ] at hy1
    by_cases e : atV s i = q
    · -- the place itself
      have hrun : runN blankB (s.drop i) = q - i := by unfold atV at e; omega
      have hall : ((s.take q).drop i).all blankB = true := runN_full (v := s.drop q) (by rw [← hsd i hi, hlen, hrun]; exact Nat.le_refl _)
      have h0 : runN blankB (s.drop q) = 0 := by
        have := runN_app (t := s.drop q) hall
        rw [← hsd i hi, hrun, hlen] at this; omega
      have haT : atV T i = q + 1 := by
        unfold atV
        rw [hTd i hi, runN_app hall, hlen]
        show i + (q - i + (runN blankB (s.drop q) + 1)) = q + 1
        omega
      have hd : s.drop (atV s i) = T.drop (atV T i) := by rw [e, haT, hTq]
      refine strip_step hd (strip_drop k _ _ ?_)
      rw [← List.drop_drop, ← List.drop_drop, hd]
    · rcases List.mem_cons.1 hy1 with rfl | hy1
      · exact absurd (Int.ofNat.inj hy2) e
      · by_cases hs : stopV (yV s (atV s i))
        · rw [if_pos hs] at hy1; cases hy1
        · rw [if_neg hs] at hy1
          have hp := hn3 (fun h => hs h)
          have hpl := (toks_places (s := s) k (atV s i + (nextV (s.drop (atV s i))).2.1.toNat) (by omega) (by omega)).1 y hy1
          have hlt : atV s i + (nextV (s.drop (atV s i))).2.1.toNat ≤ q := by omega
          have haT : atV T i = atV s i := by
            unfold atV
            rw [hTd i hi, hsd i hi, runN_lt (v := s.drop q) (by rw [← hsd i hi, hlen]; have hr1 : atV s i = i + runN blankB (s.drop i) := rfl; omega)]
          have hst : ¬ (yV s (atV s i)).2.2 ≠ 0 ∧ ¬ (yV s (atV s i)).1.1 = 0 := ⟨fun h => hs (.inl h), fun h => hs (.inr h)⟩
          have hnx : nextV (s.drop (atV s i)) = ((nextV (s.drop (atV s i))).1, (((nextV (s.drop (atV s i))).2.1.toNat : Nat) : Int), 0) := by
            have e0 : (nextV (s.drop (atV s i))).2.2 = 0 := Decidable.not_not.1 hst.1
            show ((nextV (s.drop (atV s i))).1, (nextV (s.drop (atV s i))).2.1, (nextV (s.drop (atV s i))).2.2) = _
            rw [e0, Int.toNat_of_nonneg hn1]
          have hnT : nextV (T.drop (atV s i)) = nextV (s.drop (atV s i)) := by
            rw [hTd _ (by omega)]
            rw [hsd _ (by omega)] at hnx
            have := next_pre (x := (s.take q).drop (atV s i)) (v := s.drop q) (by intro e2; have := congrArg List.length e2; rw [hlen] at this; simp at this; omega) hnx (by rw [← hsd _ (by omega)]; exact hst.2) (by rw [← hsd _ (by omega), hlen]; omega)
            rw [this, ← hnx, ← hsd _ (by omega)]
          have ih := blank_one hq k _ hlt (by omega) ⟨y, hy1, hy2⟩
          rw [← hT] at ih
          have hyT : strip (yV T (atV T i)) = strip (yV s (atV s i)) := by simp only [strip, yV, haT, hnT]
          rw [toksF_succ, toksF_succ, if_neg hs, if_neg (fun h => hs ((stop_strip hyT).1 h)), List.map_cons, List.map_cons, hyT, haT, hnT, ih]
theorem tokV_ok {L : List Yd} (h : (tokV L).2.2 = 0) : tokV L = (L.map toTk, 0, 0) ∧ ∀ z, z ∈ L → z.2.2 = 0 := by
  unfold tokV at h ⊢
  cases e : L.find? errV with
  | none => exact ⟨rfl, fun z hz => by have := List.find?_eq_none.1 e z hz; simpa [errV] using this⟩
  | some y =>
    rw [e] at h
    have := List.find?_some e
    simp only [errV, Bool.not_eq_true', decide_eq_false_iff_not] at this
    exact absurd h this
theorem tokV_bad {L : List Yd} (h : ¬ (tokV L).2.2 = 0) : (tokV L).1 = [] := by
  unfold tokV at h ⊢
  cases e : L.find? errV with
  | none => rw [e] at h; exact absurd rfl h
  | some y => rfl
/-- A blank more ahead of a token. -/
theorem blank_law {s : Bytes} {L : List Yd} (hL : toksF (s.length + 1) s 0 = L) (h0 : (tokV L).2.2 = 0) {q : Nat} {x : Tk} (hx : x ∈ (tokV L).1) (hxq : x.2 = (q : Int)) :
    ∃ L2, toksF (((s.take q ++ [32]) ++ s.drop q).length + 1) ((s.take q ++ [32]) ++ s.drop q) 0 = L2 ∧ (tokV L2).2.2 = 0 ∧ (tokV L2).1.length = (tokV L).1.length ∧ (tokV L2).1.map zTk = (tokV L).1.map zTk := by
  obtain ⟨hv, hz⟩ := tokV_ok h0
  rw [hv] at hx
  obtain ⟨y, hy, rfl⟩ := List.mem_map.1 hx
  have hpl := (toks_places (s := s) (s.length + 1) 0 (Nat.zero_le _) (by omega)).1 y (by rw [hL]; exact hy)
  have hyq : y.2.1 = (q : Int) := hxq
  have hq : q ≤ s.length := by omega
  have hf := toks_fuel (s := s) (s.length + 1) 0 (Nat.zero_le _) (by omega)
  have hb := blank_one hq (s.length + 2) 0 (Nat.zero_le _) (by omega) ⟨y, by rw [hf, hL]; exact hy, hyq⟩
  rw [hf, hL] at hb
  have hTl : ((s.take q ++ [32]) ++ s.drop q).length = s.length + 1 := by simp [Nat.min_eq_left hq]; omega
  rw [hTl]
  refine ⟨_, rfl, ?_⟩
  generalize toksF (s.length + 1 + 1) ((s.take q ++ [32]) ++ s.drop q) 0 = L2 at hb
  have hz2 : ∀ z, z ∈ L2 → z.2.2 = 0 := fun z hz3 => by
    have : strip z ∈ L.map strip := by rw [hb]; exact List.mem_map_of_mem hz3
    obtain ⟨u, hu, he⟩ := List.mem_map.1 this
    have h2 := congrArg Prod.snd he
    simp only [strip] at h2
    rw [← h2]; exact hz u hu
  have hv2 : tokV L2 = (L2.map toTk, 0, 0) := by simp [tokV, find_none hz2]
  rw [hv, hv2]
  refine ⟨rfl, by simpa using (congrArg List.length hb).symm, ?_⟩
  have := congrArg (List.map fun (z : (Int × Int × Bytes) × Int) => ((z.1, 0) : Tk)) hb
  simp only [List.map_map] at this ⊢
  exact this.symm
theorem places_law {s : Bytes} {L : List Yd} (hL : toksF (s.length + 1) s 0 = L) (h0 : (tokV L).2.2 = 0) : (∀ (i : Nat) (x : Tk), (tokV L).1[i]? = some x → 0 ≤ x.2 ∧ x.2 ≤ s.length) ∧ ∀ (i : Nat) (x y : Tk), (tokV L).1[i]? = some x → (tokV L).1[i + 1]? = some y → x.2 < y.2 := by
  obtain ⟨hv, hz⟩ := tokV_ok h0
  obtain ⟨p1, p2⟩ := toks_places (s := s) (s.length + 1) 0 (Nat.zero_le _) (by omega)
  rw [hL] at p1 p2
  rw [hv]
  dsimp only
  refine ⟨fun i x hx => ?_, fun i x y hx hy => ?_⟩
  · rw [List.getElem?_map] at hx
    obtain ⟨z, hz1, rfl⟩ := Option.map_eq_some_iff.1 hx
    exact p1 z (List.mem_of_getElem? hz1)
  · rw [List.getElem?_map] at hx hy
    obtain ⟨z, hz1, rfl⟩ := Option.map_eq_some_iff.1 hx
    obtain ⟨u, hu1, rfl⟩ := Option.map_eq_some_iff.1 hy
    obtain ⟨hi, rfl⟩ := List.getElem?_eq_some_iff.1 hz1
    obtain ⟨hj, rfl⟩ := List.getElem?_eq_some_iff.1 hu1
    exact List.pairwise_iff_getElem.1 p2 i (i + 1) hi hj (by omega)
theorem wrapu_in (k : Int) : 0 ≤ IntKind.u64.wrap k ∧ IntKind.u64.wrap k ≤ 18446744073709551615 := by
  simp [IntKind.wrap, IntKind.signed, IntKind.bits]; omega

theorem AtokBlanks_spec (s : Bytes) (k : Int) (w : World) (hs : s.length ≤ 9223372036854775807) (ht : Tab w) : CallR Tryd.prog 4 #[S s, .int .i64 k] w fun v w' => v = .bool true ∧ Chg [] w w' := by
 refine callR_of_wp (args := [_, _]) Tryd.func4 rfl (Nat.le_of_ble_eq_true rfl) ?_
 have HC : Chg [] w w := .refl _
 have ht1 := ht.lt
 obtain ⟨L, hL1⟩ : ∃ L, toksF (s.length + 1) s 0 = L := ⟨_, rfl⟩
 refine x_seq ?_
 refine x_region rfl ?_
 refine w_plain rfl (st_assign (v := .bool _) rfl ?_)
 refine wops_nil ?_
 refine then_n ?_
 refine x_seq ?_
 refine x_seq ?_
 refine x_region rfl ?_
 refine w_plain rfl (st_move (v := S _) rfl ?_)
 refine w_plain rfl (st_slen (ct := #[9]) T.u9 rfl ?_)
 refine w_plain rfl (st_gtr rfl rfl ?_)
 refine wops_nil ?_
 refine then_n ?_
 refine x_cond rfl (fun h0 => ?_) (fun h0 => ?_)
 ·skip
  try simp only [nm, ne_eq] at h0
  refine x_seq ?_
  refine x_region rfl ?_
  refine w_plain rfl (st_call (ags := []) rfl rfl T.ent11 rfl (awake_spec _ ht) ?_)
  rintro _ w1 ⟨rfl, c2⟩
  replace HC := HC.then c2
  replace ht := ht.tr0 c2
  refine w_plain rfl (st_assign (v := .bool _) rfl ?_)
  refine wops_nil ?_
  refine then_n ?_
  refine x_ret ?_
  refine then_r ?_
  refine ret_tmp (v := .bool _) rfl rfl ?_
  exact ⟨rfl, HC⟩
 ·skip
  try simp only [nm, ne_eq] at h0
  refine x_skip ?_
  refine then_n ?_
  refine x_seq ?_
  refine x_region rfl ?_
  refine w_plain rfl (st_move (v := S _) rfl ?_)
  refine w_plain rfl (st_call (ags := [_]) rfl rfl T.ent12 rfl (Tokens_spec (L := L) s _ hL1 (by omega) ht) ?_)
  rintro _ w3 ⟨A1, cap1, rfl, ho1, c4⟩
  replace ho1 := ho1.mono (D' := fun k => w.heap.size ≤ k) (fun k _ h => by have := HC.size; omega)
  have hs1 := ho1.sl
  replace HC := HC.then c4
  replace ht := ht.tr0 c4
  refine w_plain rfl (st_move (v := .tuple ⟨[_, _, _]⟩) rfl ?_)
  refine w_plain rfl (st_extract (vs := [_, _, _]) (v := .slice _ _ _) rfl rfl ?_)
  refine w_plain rfl (st_extract (vs := [_, _, _]) (v := .int _ _) rfl rfl ?_)
  refine w_plain rfl (st_extract (vs := [_, _, _]) (v := .int _ _) rfl rfl ?_)
  refine w_plain rfl (st_assign (v := .slice _ _ _) rfl ?_)
  refine w_plain rfl (st_assign (v := .int _ _) rfl ?_)
  refine w_plain rfl (st_assign (v := .int _ _) rfl ?_)
  refine wops_nil ?_
  refine then_n ?_
  refine x_seq ?_
  refine x_seq ?_
  refine x_region rfl ?_
  refine w_plain rfl (st_move (v := .int _ _) rfl ?_)
  refine w_plain rfl (st_neq rfl rfl ?_)
  refine w_plain rfl (st_move (v := .bool _) rfl ?_)
  refine w_split (d := 26) rfl (fun g5 => ?_) (fun g5 => ?_)
  ·skip
   try simp only [nm, ne_eq] at g5
   refine w_no 2 26 false ?_
   refine w_no 2 26 false ?_
   refine w_no 2 26 false ?_
   refine w_plain rfl (st_pick (b := true) (v := .bool _) rfl rfl ?_)
   refine wops_nil ?_
   refine then_n ?_
   refine x_cond (t := true) rfl (fun h1 => ?_) (fun h1 => ?_)
   rotate_left
   · exact absurd h1 (by decide)
   have hl0 : (tokV L).1.length = 0 := by first | (rw [tokV_bad (by assumption)]; rfl) | omega
   refine x_seq ?_
   refine x_region rfl ?_
   refine w_plain rfl (st_move (v := .slice _ _ _) rfl ?_)
   refine w_plain rfl (st_len (ct := #[23]) (by rw [show ((#[23] : Array TypeId)[0]?).bind Tryd.prog.underlying = some (.slice 34) from T.u23]; rfl) rfl ?_)
   refine w_plain rfl (st_eql rfl rfl ?_)
   refine w_plain rfl (st_move (v := .bool _) rfl ?_)
   refine w_split (d := 34) rfl (fun g6 => ?_) (fun g6 => ?_)
   ·skip
    try simp only [nm, ne_eq] at g6
    refine w_yes 3 34 true (st_call (ags := []) rfl rfl T.ent11 rfl (awake_spec _ ht) ?_)
    rintro _ w7 ⟨rfl, c8⟩
    replace HC := HC.then c8
    replace ht := ht.tr0 c8
    replace ho1 := ho1.tr0 c8
    replace hs1 := hs1.tr0 c8
    refine w_plain rfl (st_pick (b := true) (v := .bool _) rfl rfl ?_)
    refine w_plain rfl (st_assign (v := .bool _) rfl ?_)
    refine wops_nil ?_
    refine then_n ?_
    refine x_ret ?_
    refine then_r ?_
    refine ret_tmp (v := .bool _) rfl rfl ?_
    exact ⟨rfl, HC⟩
   ·skip
    try simp only [nm, ne_eq] at g6
    omega
  ·skip
   try simp only [nm, ne_eq] at g5
   refine w_yes 2 26 false (st_move (v := .slice _ _ _) rfl ?_)
   refine w_yes 2 26 false (st_len (ct := #[23]) (by rw [show ((#[23] : Array TypeId)[0]?).bind Tryd.prog.underlying = some (.slice 34) from T.u23]; rfl) rfl ?_)
   refine w_yes 2 26 false (st_eql rfl rfl ?_)
   refine w_plain rfl (st_pick (b := false) (v := .bool _) rfl rfl ?_)
   refine wops_nil ?_
   refine then_n ?_
   refine x_cond rfl (fun h1 => ?_) (fun h1 => ?_)
   ·skip
    try simp only [nm, ne_eq] at h1
    have hl0 : (tokV L).1.length = 0 := by first | (rw [tokV_bad (by assumption)]; rfl) | omega
    refine x_seq ?_
    refine x_region rfl ?_
    refine w_plain rfl (st_move (v := .slice _ _ _) rfl ?_)
    refine w_plain rfl (st_len (ct := #[23]) (by rw [show ((#[23] : Array TypeId)[0]?).bind Tryd.prog.underlying = some (.slice 34) from T.u23]; rfl) rfl ?_)
    refine w_plain rfl (st_eql rfl rfl ?_)
    refine w_plain rfl (st_move (v := .bool _) rfl ?_)
    refine w_split (d := 34) rfl (fun g9 => ?_) (fun g9 => ?_)
    ·skip
     try simp only [nm, ne_eq] at g9
     refine w_yes 3 34 true (st_call (ags := []) rfl rfl T.ent11 rfl (awake_spec _ ht) ?_)
     rintro _ w10 ⟨rfl, c11⟩
     replace HC := HC.then c11
     replace ht := ht.tr0 c11
     replace ho1 := ho1.tr0 c11
     replace hs1 := hs1.tr0 c11
     refine w_plain rfl (st_pick (b := true) (v := .bool _) rfl rfl ?_)
     refine w_plain rfl (st_assign (v := .bool _) rfl ?_)
     refine wops_nil ?_
     refine then_n ?_
     refine x_ret ?_
     refine then_r ?_
     refine ret_tmp (v := .bool _) rfl rfl ?_
     exact ⟨rfl, HC⟩
    ·skip
     try simp only [nm, ne_eq] at g9
     omega
   ·skip
    try simp only [nm, ne_eq] at h1
    have he0 : (tokV L).2.2 = 0 := by assumption
    have hne : (tokV L).1 ≠ [] := fun e => h1 (by rw [e]; rfl)
    have hlp : 0 < (tokV L).1.length := List.length_pos_iff.2 hne
    have hpl := places_law hL1 he0
    have hll : (tokV L).1.length ≤ 9223372036854775807 := by have := ho1.le; omega
    obtain ⟨ga, cura, rfl, hga, hba, hra⟩ := ho1.row4 hne
    have ge_ga : w.heap.size ≤ ga := hga
    refine x_skip ?_
    refine then_n ?_
    refine x_seq ?_
    refine x_seq ?_
    refine x_region rfl ?_
    refine w_plain rfl (st_move (v := .slice _ _ _) rfl ?_)
    refine w_plain rfl (st_len (ct := #[23]) (by rw [show ((#[23] : Array TypeId)[0]?).bind Tryd.prog.underlying = some (.slice 34) from T.u23]; rfl) rfl ?_)
    refine w_plain rfl (st_move (v := .int _ _) rfl ?_)
    refine wops_nil ?_
    refine then_n ?_
    refine x_block ?_
    refine x_loop (ι := Nat) [4, 8, 39, 40, 41, 42, 43, 44, 45, 46, 47, 48, 49, 50, 51, 52, 53, 54, 55, 56, 57, 58, 59, 60, 61, 62, 63, 64, 65, 66, 67, 68, 69, 70, 71, 72, 73, 74, 75, 76] (fun i => [(39, .int .i64 (i : Int))]) (fun i W => (i ≤ (tokV L).1.length) ∧ (Chg [] w W) ∧ (Tab W) ∧ (Sl tkE W (fun k => w.heap.size ≤ k) (some ⟨ga, 0, none⟩) (tokV L).1) ∧ (Blk W ga cura 34)) (fun i => (tokV L).1.length - i) 0 ?_ ?_ ?_
    · exact ⟨rfl, trivial⟩
    ·skip
     refine ⟨?_, HC, ht, hs1, hba⟩
     exact Nat.zero_le _
    intro i G13 w12 ⟨hi, HC, ht, hs1, hba⟩
    change wp _ _ _ _ _ (upds (over _ _ G13) [(39, .int .i64 (i : Int))]) _ _
    refine x_seq ?_
    refine x_region rfl ?_
    refine w_plain rfl (st_lss rfl rfl ?_)
    refine wops_nil ?_
    refine then_n ?_
    refine x_seq ?_
    refine x_cond rfl (fun h2 => ?_) (fun h2 => ?_)
    ·skip
     try simp only [nm, ne_eq] at h2
     refine x_skip ?_
     refine then_n ?_
     refine x_seq ?_
     refine x_block ?_
     refine x_seq ?_
     refine x_region rfl ?_
     refine w_plain rfl (st_move (v := .int _ _) rfl ?_)
     refine w_plain rfl (st_assign (v := .int _ _) rfl ?_)
     refine wops_nil ?_
     refine then_n ?_
     refine x_seq ?_
     obtain ⟨x14, hx15⟩ : ∃ zz, (tokV L).1[i]? = some zz := ⟨_, List.getElem?_eq_getElem (by omega)⟩
     obtain ⟨lb20, _, vs19, hA16, hR18, hC17⟩ := hs1.at hx15
     obtain rfl : vs19 = tokC x14.1 x14.2 := hR18
     obtain ⟨x21, hx22⟩ : ∃ zz, (tokV L).1[i]? = some zz := ⟨_, List.getElem?_eq_getElem (by omega)⟩
     obtain ⟨lb27, _, vs26, hA23, hR25, hC24⟩ := hs1.at hx22
     obtain rfl : vs26 = tokC x21.1 x21.2 := hR25
     obtain ⟨x28, hx29⟩ : ∃ zz, (tokV L).1[(i - 1)]? = some zz := ⟨_, List.getElem?_eq_getElem (by omega)⟩
     obtain ⟨lb34, _, vs33, hA30, hR32, hC31⟩ := hs1.at hx29
     obtain rfl : vs33 = tokC x28.1 x28.2 := hR32
     obtain ⟨x35, hx36⟩ : ∃ zz, (tokV L).1[i]? = some zz := ⟨_, List.getElem?_eq_getElem (by omega)⟩
     obtain ⟨lb41, _, vs40, hA37, hR39, hC38⟩ := hs1.at hx36
     obtain rfl : vs40 = tokC x35.1 x35.2 := hR39
     refine x_draw [(0, 0), (1, 0), (2, 0), (3, 0), (4, 0), (5, 0), (6, 0), (7, 0), (8, 0), (9, 0), (10, 0), (11, 0), (12, 0), (13, 0), (14, 0), (15, 0), (16, 0), (17, 0), (18, 0), (19, 0), (20, 0), (21, 0), (22, 0), (23, 0), (24, 0), (25, 0), (26, 0), (27, 0), (28, 0), (29, 0), (30, 0), (31, 0), (32, 0), (33, 0)] T.mixed rfl rfl rfl (fun W => W.heap[ga]? = w12.heap[ga]? ∧ W.heap[lb20]? = w12.heap[lb20]? ∧ W.heap[lb27]? = w12.heap[lb27]? ∧ W.heap[lb34]? = w12.heap[lb34]? ∧ W.heap[lb41]? = w12.heap[lb41]? ∧ True) ⟨rfl, rfl, rfl, rfl, rfl, trivial⟩ ?_
     have o44 := hba
     have c43 := Chg.drew w12
     generalize World.drew w12 = w42 at c43 ⊢
     have ht_lb20 : lb20 < w42.heap.size ∧ w42.heap[lb20]? = w12.heap[lb20]? := ⟨Nat.lt_of_lt_of_le hC17.lt c43.size, c43.block lb20 hC17.lt (by simp)⟩
     have ht_lb27 : lb27 < w42.heap.size ∧ w42.heap[lb27]? = w12.heap[lb27]? := ⟨Nat.lt_of_lt_of_le hC24.lt c43.size, c43.block lb27 hC24.lt (by simp)⟩
     have ht_lb34 : lb34 < w42.heap.size ∧ w42.heap[lb34]? = w12.heap[lb34]? := ⟨Nat.lt_of_lt_of_le hC31.lt c43.size, c43.block lb34 hC31.lt (by simp)⟩
     have ht_lb41 : lb41 < w42.heap.size ∧ w42.heap[lb41]? = w12.heap[lb41]? := ⟨Nat.lt_of_lt_of_le hC38.lt c43.size, c43.block lb41 hC38.lt (by simp)⟩
     replace HC := HC.then c43
     replace ht := ht.tr0 c43
     replace hs1 := hs1.tr0 c43
     replace hba := hba.tr0 c43
     have hq2 := hpl.1 _ _ hx15
     have hq9 := hpl.1 _ _ hx22
     have hq28 := hpl.1 _ _ hx36
     have hm9 : x21 = x14 := Option.some.inj (hx22.symm.trans hx15)
     have hlt9 : 0 < i → x28.2 < x35.2 := fun h => hpl.2 (i - 1) _ _ hx29 (by rw [Nat.sub_add_cancel h]; exact hx36)
     refine sq_q rfl (fun W hT => r_move (v := .slice _ _ _) rfl) ?_
     refine sq_q rfl (fun W hT => r_move (v := .int _ _) rfl) ?_
     refine sq_q rfl (fun W hT => r_indexAddr T.u23 T.size34 (congrArg (fun z => Value.slice z _ _) hA16) rfl (by omega) (by omega)) ?_
     refine sq_q rfl (fun W hT => r_fieldAddr T.fld34_3 rfl) ?_
     refine sq_q rfl (fun W hT => r_load1 (v := .int _ _) T.one3 rfl (Cells.at (j := 3) (Cells.tr hC17 hT.2.1) rfl)) ?_
     refine sq_q rfl (fun W hT => r_lss rfl rfl) ?_
     refine sq_q rfl (fun W hT => r_move (v := .bool _) rfl) ?_
     refine sq_split (d := 48) rfl (fun g45 => ?_) (fun g45 => ?_)
     ·skip
      try simp only [nm, ne_eq] at g45
      exfalso; omega
     ·skip
      try simp only [nm, ne_eq] at g45
      refine sq_q rfl (fun W hT => r_move (v := .slice _ _ _) rfl) ?_
      refine sq_q rfl (fun W hT => r_move (v := .int _ _) rfl) ?_
      refine sq_q rfl (fun W hT => r_indexAddr T.u23 T.size34 (congrArg (fun z => Value.slice z _ _) hA23) rfl (by omega) (by omega)) ?_
      refine sq_q rfl (fun W hT => r_fieldAddr T.fld34_3 rfl) ?_
      refine sq_q rfl (fun W hT => r_load1 (v := .int _ _) T.one3 rfl (Cells.at (j := 3) (Cells.tr hC24 hT.2.2.1) rfl)) ?_
      refine sq_q rfl (fun W hT => r_move (v := S _) rfl) ?_
      refine sq_q rfl (fun W hT => r_slen (ct := #[9]) T.u9 rfl) ?_
      refine sq_q rfl (fun W hT => r_gtr rfl rfl) ?_
      refine sq_q rfl (fun W hT => r_pick (b := false) (v := .bool _) rfl rfl) ?_
      refine sq_q rfl (fun W hT => r_move (v := .bool _) rfl) ?_
      refine sq_split (d := 58) rfl (fun g46 => ?_) (fun g46 => ?_)
      ·skip
       try simp only [nm, ne_eq] at g46
       exfalso; (try rw [hm9] at g46); omega
      ·skip
       try simp only [nm, ne_eq] at g46
       refine sq_q rfl (fun W hT => r_move (v := .int _ _) rfl) ?_
       refine sq_q rfl (fun W hT => r_gtr rfl rfl) ?_
       refine sq_q rfl (fun W hT => r_move (v := .bool _) rfl) ?_
       refine sq_split (d := 61) rfl (fun g47 => ?_) (fun g47 => ?_)
       ·skip
        try simp only [nm, ne_eq] at g47
        have hsub : IntKind.i64.wrap ((i : Int) - 1) = ((i - 1 : Nat) : Int) := by rw [wrap64_id (by omega) (by omega)]; omega
        refine sq_q rfl (fun W hT => r_move (v := .slice _ _ _) rfl) ?_
        refine sq_q rfl (fun W hT => r_move (v := .int _ _) rfl) ?_
        refine sq_q rfl (fun W hT => r_subk rfl rfl (by exact hsub)) ?_
        refine sq_q rfl (fun W hT => r_indexAddr T.u23 T.size34 (congrArg (fun z => Value.slice z _ _) hA30) rfl (by omega) (by omega)) ?_
        refine sq_q rfl (fun W hT => r_fieldAddr T.fld34_3 rfl) ?_
        refine sq_q rfl (fun W hT => r_load1 (v := .int _ _) T.one3 rfl (Cells.at (j := 3) (Cells.tr hC31 hT.2.2.2.1) rfl)) ?_
        refine sq_q rfl (fun W hT => r_move (v := .slice _ _ _) rfl) ?_
        refine sq_q rfl (fun W hT => r_move (v := .int _ _) rfl) ?_
        refine sq_q rfl (fun W hT => r_indexAddr T.u23 T.size34 (congrArg (fun z => Value.slice z _ _) hA37) rfl (by omega) (by omega)) ?_
        refine sq_q rfl (fun W hT => r_fieldAddr T.fld34_3 rfl) ?_
        refine sq_q rfl (fun W hT => r_load1 (v := .int _ _) T.one3 rfl (Cells.at (j := 3) (Cells.tr hC38 hT.2.2.2.2.1) rfl)) ?_
        refine sq_q rfl (fun W hT => r_geq rfl rfl) ?_
        refine sq_q rfl (fun W hT => r_pick (b := true) (v := .bool _) rfl rfl) ?_
        refine sq_q rfl (fun W hT => r_pick (b := false) (v := .bool _) rfl rfl) ?_
        clear o44
        refine sq_nil ?_
        refine then_n ?_
        refine x_cond rfl (fun h3 => ?_) (fun h3 => ?_)
        ·skip
         try simp only [nm, ne_eq] at h3
         exfalso; have := hlt9 (by omega); omega
        ·skip
         try simp only [nm, ne_eq] at h3
         refine x_skip ?_
         refine block_n ?_
         refine then_n ?_
         refine x_region rfl ?_
         refine w_plain rfl (st_addn rfl rfl (by constructor <;> omega) ?_)
         refine w_plain rfl (st_move (v := .int _ _) rfl ?_)
         refine wops_nil ?_
         refine then_n ?_
         refine ⟨i + 1, ?_, ?_, rfl, ⟨rfl, trivial⟩, ?_⟩
         ·skip
          refine ⟨?_, HC, ht, hs1, hba⟩
          show i + 1 ≤ (tokV L).1.length; omega
         ·skip
          show (tokV L).1.length - (i + 1) < (tokV L).1.length - i; omega
         repeat (first | exact agree_upds agree_over rfl | refine agree_upd ?_ rfl | refine agree_upds ?_ rfl | refine agree_over_sub ?_ rfl)
       ·skip
        try simp only [nm, ne_eq] at g47
        refine sq_no rfl rfl ?_
        refine sq_no rfl rfl ?_
        refine sq_no rfl rfl ?_
        refine sq_no rfl rfl ?_
        refine sq_no rfl rfl ?_
        refine sq_no rfl rfl ?_
        refine sq_no rfl rfl ?_
        refine sq_no rfl rfl ?_
        refine sq_no rfl rfl ?_
        refine sq_no rfl rfl ?_
        refine sq_no rfl rfl ?_
        refine sq_no rfl rfl ?_
        refine sq_q rfl (fun W hT => r_pick (b := false) (v := .bool _) rfl rfl) ?_
        refine sq_q rfl (fun W hT => r_pick (b := false) (v := .bool _) rfl rfl) ?_
        clear o44
        refine sq_nil ?_
        refine then_n ?_
        refine x_cond (t := false) rfl (fun h3 => ?_) (fun h3 => ?_)
        · exact absurd h3 (by decide)
        refine x_skip ?_
        refine block_n ?_
        refine then_n ?_
        refine x_region rfl ?_
        refine w_plain rfl (st_addn rfl rfl (by constructor <;> omega) ?_)
        refine w_plain rfl (st_move (v := .int _ _) rfl ?_)
        refine wops_nil ?_
        refine then_n ?_
        refine ⟨i + 1, ?_, ?_, rfl, ⟨rfl, trivial⟩, ?_⟩
        ·skip
         refine ⟨?_, HC, ht, hs1, hba⟩
         show i + 1 ≤ (tokV L).1.length; omega
        ·skip
         show (tokV L).1.length - (i + 1) < (tokV L).1.length - i; omega
        repeat (first | exact agree_upds agree_over rfl | refine agree_upd ?_ rfl | refine agree_upds ?_ rfl | refine agree_over_sub ?_ rfl)
    ·skip
     try simp only [nm, ne_eq] at h2
     refine x_exit ?_
     refine then_x ?_
     refine then_x ?_
     refine block_x ?_
     refine then_n ?_
     refine x_seq ?_
     have hwk := wrapu_in k
     obtain ⟨pi, hpi, hpil⟩ : ∃ pi : Nat, (IntKind.u64.wrap k).tmod ((tokV L).1.length : Int) = (pi : Int) ∧ pi < (tokV L).1.length := by
                 have h1 := Int.tmod_eq_emod_of_nonneg (b := ((tokV L).1.length : Int)) hwk.1
                 have h2 := Int.emod_nonneg (IntKind.u64.wrap k) (show ((tokV L).1.length : Int) ≠ 0 by omega)
                 have h3 := Int.emod_lt_of_pos (IntKind.u64.wrap k) (show (0 : Int) < ((tokV L).1.length : Int) by omega)
                 exact ⟨((IntKind.u64.wrap k) % ((tokV L).1.length : Int)).toNat, by rw [h1]; omega, by omega⟩
     refine x_region rfl ?_
     refine w_plain rfl (st_move (v := .slice _ _ _) rfl ?_)
     refine w_plain rfl (st_move (v := .int _ _) rfl ?_)
     refine w_plain rfl (st_convInt T.u3 T.u35 rfl ?_)
     refine w_plain rfl (st_move (v := .slice _ _ _) rfl ?_)
     refine w_plain rfl (st_len (ct := #[23]) (by rw [show ((#[23] : Array TypeId)[0]?).bind Tryd.prog.underlying = some (.slice 34) from T.u23]; rfl) rfl ?_)
     refine w_plain rfl (st_convk T.u3 T.u35 rfl (by exact wrapu64_id (by first | omega | assumption) (by first | omega | assumption)) ?_)
     refine w_plain rfl (st_remk rfl rfl (by omega) (by exact hpi) ?_)
     refine w_plain rfl (st_convk T.u35 T.u3 rfl (by exact wrap64_id (by omega) (by omega)) ?_)
     obtain ⟨x48, hx49⟩ : ∃ zz, (tokV L).1[pi]? = some zz := ⟨_, List.getElem?_eq_getElem (by omega)⟩
     obtain ⟨lb54, _, vs53, hA50, hR52, hC51⟩ := hs1.at hx49
     obtain rfl : vs53 = tokC x48.1 x48.2 := hR52
     refine w_plain rfl (st_indexAddr T.u23 T.size34 (congrArg (fun z => Value.slice z _ _) hA50) rfl (by omega) (by omega) ?_)
     refine w_plain rfl (st_fieldAddr T.fld34_3 rfl ?_)
     refine w_plain rfl (st_load1 (v := .int _ _) T.one3 rfl (hC51.at (j := 3) rfl) ?_)
     refine w_plain rfl (st_assign (v := .int _ _) rfl ?_)
     refine wops_nil ?_
     refine then_n ?_
     refine x_seq ?_
     have hqx := hpl.1 _ _ hx49
     obtain ⟨q, hq⟩ : ∃ q : Nat, x48.2 = (q : Int) := ⟨x48.2.toNat, by omega⟩
     have hqs : q ≤ s.length := by omega
     obtain ⟨L2, hL2, hB1, hB2, hB3⟩ := blank_law hL1 he0 (List.mem_of_getElem? hx49) hq
     rw [hq]
     have hne2 : (tokV L2).1 ≠ [] := fun e => by rw [e] at hB2; simp at hB2; omega
     refine x_draw [(0, 0), (1, 0), (2, 0), (3, 0), (4, 0), (5, 0), (6, 0), (7, 0), (8, 1), (9, 0), (10, 0), (11, 0), (12, 0), (13, 0), (14, 0), (15, 0)] T.mixed rfl rfl rfl (fun W => W.heap[ga]? = w12.heap[ga]? ∧ True) ⟨rfl, trivial⟩ ?_
     have o57 := hba
     have c56 := Chg.drew w12
     generalize World.drew w12 = w55 at c56 ⊢
     replace HC := HC.then c56
     replace ht := ht.tr0 c56
     replace hs1 := hs1.tr0 c56
     replace hba := hba.tr0 c56
     refine sq_q rfl (fun W hT => r_move (v := S _) rfl) ?_
     refine sq_q rfl (fun W hT => r_move (v := .int _ _) rfl) ?_
     refine sq_q rfl (fun W hT => r_sshi (j := q) T.u9 rfl ⟨_, rfl⟩ (by omega)) ?_
     refine sq_q rfl (fun W hT => r_sadd rfl rfl (by simp only [List.length_take, List.length_cons, List.length_nil]; omega)) ?_
     refine sq_q rfl (fun W hT => r_move (v := S _) rfl) ?_
     refine sq_q rfl (fun W hT => r_move (v := .int _ _) rfl) ?_
     refine sq_q rfl (fun W hT => r_sslo (i := q) T.u9 rfl ⟨_, rfl⟩ (by omega)) ?_
     refine sq_q rfl (fun W hT => r_sadd rfl rfl (by simp only [List.length_append, List.length_take, List.length_drop, List.length_cons, List.length_nil]; omega)) ?_
     refine sq_call1 rfl (r_call (ags := [_]) rfl rfl T.ent12 rfl) (Tokens_spec (L := L2) ((s.take q ++ [32]) ++ s.drop q) _ hL2 (by simp only [List.length_append, List.length_take, List.length_drop, List.length_cons, List.length_nil]; omega) ht) ?_
     rintro _ w58 ⟨A2, cap2, rfl, ho2, c59⟩
     obtain ⟨gb, curb, rfl, hgb, hbb, hrb⟩ := ho2.row4 hne2
     have ge_gb : w.heap.size ≤ gb := Nat.le_trans HC.size hgb
     have ne_ga_gb : ga ≠ gb := by have := hba.lt; omega
     replace HC := HC.then c59
     replace ht := ht.tr0 c59
     replace hs1 := hs1.tr0 c59
     replace hba := hba.tr0 c59
     refine ⟨_, fun _ h => h, ⟨(Eq.trans hba o57.symm), trivial⟩, ?_⟩
     refine sq_q rfl (fun W hT => r_move (v := .tuple ⟨[_, _, _]⟩) rfl) ?_
     refine sq_q rfl (fun W hT => r_extract (vs := [_, _, _]) (v := .slice _ _ _) rfl rfl) ?_
     refine sq_q rfl (fun W hT => r_extract (vs := [_, _, _]) (v := .int _ _) rfl rfl) ?_
     refine sq_q rfl (fun W hT => r_extract (vs := [_, _, _]) (v := .int _ _) rfl rfl) ?_
     refine sq_q rfl (fun W hT => r_assign (v := .slice _ _ _) rfl) ?_
     refine sq_q rfl (fun W hT => r_assign (v := .int _ _) rfl) ?_
     refine sq_q rfl (fun W hT => r_assign (v := .int _ _) rfl) ?_
     clear o57
     refine sq_nil ?_
     refine then_n ?_
     refine x_seq ?_
     refine x_seq ?_
     refine x_region rfl ?_
     refine w_plain rfl (st_move (v := .int _ _) rfl ?_)
     refine w_plain rfl (st_neq rfl rfl ?_)
     refine w_plain rfl (st_move (v := .bool _) rfl ?_)
     refine w_split (d := 103) rfl (fun g60 => ?_) (fun g60 => ?_)
     ·skip
      try simp only [nm, ne_eq] at g60
      simp [hB1] at g60
     ·skip
      try simp only [nm, ne_eq] at g60
      refine w_yes 2 103 false (st_move (v := .slice _ _ _) rfl ?_)
      refine w_yes 2 103 false (st_len (ct := #[23]) (by rw [show ((#[23] : Array TypeId)[0]?).bind Tryd.prog.underlying = some (.slice 34) from T.u23]; rfl) rfl ?_)
      refine w_yes 2 103 false (st_move (v := .slice _ _ _) rfl ?_)
      refine w_yes 2 103 false (st_len (ct := #[23]) (by rw [show ((#[23] : Array TypeId)[0]?).bind Tryd.prog.underlying = some (.slice 34) from T.u23]; rfl) rfl ?_)
      refine w_yes 2 103 false (st_neq rfl rfl ?_)
      refine w_plain rfl (st_pick (b := false) (v := .bool _) rfl rfl ?_)
      refine wops_nil ?_
      refine then_n ?_
      refine x_cond rfl (fun h4 => ?_) (fun h4 => ?_)
      ·skip
       try simp only [nm, ne_eq] at h4
       exfalso; omega
      ·skip
       try simp only [nm, ne_eq] at h4
       refine x_skip ?_
       refine then_n ?_
       refine x_seq ?_
       refine x_seq ?_
       refine x_region rfl ?_
       refine w_plain rfl (st_move (v := .slice _ _ _) rfl ?_)
       refine w_plain rfl (st_len (ct := #[23]) (by rw [show ((#[23] : Array TypeId)[0]?).bind Tryd.prog.underlying = some (.slice 34) from T.u23]; rfl) rfl ?_)
       refine w_plain rfl (st_move (v := .int _ _) rfl ?_)
       refine wops_nil ?_
       refine then_n ?_
       refine x_block ?_
       refine x_loop (ι := Nat × List Value × List Value) [13, 112, 113, 114, 115, 116, 117, 118, 119, 120, 121, 122, 123] (fun ⟨i, cura, curb⟩ => [(112, .int .i64 (i : Int))]) (fun ⟨i, cura, curb⟩ W => (i ≤ (tokV L).1.length ∧ Row4 (fun (x : Tk) => tokC x.1 x.2) (zer i (tokV L).1) cura ∧ Row4 (fun (x : Tk) => tokC x.1 x.2) (zer i (tokV L2).1) curb) ∧ (Chg [] w W) ∧ (Tab W) ∧ (Blk W ga cura 34) ∧ (Blk W gb curb 34)) (fun ⟨i, cura, curb⟩ => (tokV L).1.length - i) (0, cura, curb) ?_ ?_ ?_
       · exact ⟨rfl, trivial⟩
       ·skip
        refine ⟨?_, HC, ht, hba, hbb⟩
        exact ⟨Nat.zero_le _, hra, hrb⟩
       intro ⟨i, cura, curb⟩ G62 w61 ⟨⟨hi, hra, hrb⟩, HC, ht, hba, hbb⟩
       change wp _ _ _ _ _ (upds (over _ _ G62) [(112, .int .i64 (i : Int))]) _ _
       have hza : (zer i (tokV L).1).length = (tokV L).1.length := by simp [zer]; omega
       have hzb : (zer i (tokV L2).1).length = (tokV L2).1.length := by simp [zer]; omega
       refine x_seq ?_
       refine x_region rfl ?_
       refine w_plain rfl (st_lss rfl rfl ?_)
       refine wops_nil ?_
       refine then_n ?_
       refine x_seq ?_
       refine x_cond rfl (fun h5 => ?_) (fun h5 => ?_)
       ·skip
        try simp only [nm, ne_eq] at h5
        refine x_skip ?_
        refine then_n ?_
        refine x_seq ?_
        refine x_block ?_
        refine x_seq ?_
        obtain ⟨xa, hxa⟩ : ∃ x, (tokV L).1[i]? = some x := ⟨_, List.getElem?_eq_getElem (by omega)⟩
        obtain ⟨xb, hxb⟩ : ∃ x, (tokV L2).1[i]? = some x := ⟨_, List.getElem?_eq_getElem (by omega)⟩
        refine x_region rfl ?_
        refine w_plain rfl (st_move (v := .int _ _) rfl ?_)
        refine w_plain rfl (st_assign (v := .int _ _) rfl ?_)
        refine wops_nil ?_
        refine then_n ?_
        refine x_region rfl ?_
        refine w_plain rfl (st_move (v := .slice _ _ _) rfl ?_)
        refine w_plain rfl (st_move (v := .int _ _) rfl ?_)
        refine w_plain rfl (st_move (v := .slice _ _ _) rfl ?_)
        refine w_plain rfl (st_move (v := .int _ _) rfl ?_)
        refine w_plain rfl (st_indexAddr T.u23 T.size34 rfl rfl (by omega) (by omega) ?_)
        refine w_plain rfl (st_fieldAddr T.fld34_3 rfl ?_)
        refine w_plain rfl (st_store (v := .int _ _) T.size3 rfl rfl rfl hba rfl (by have := hra.1; have := hza; simp only [List.length_singleton, Int.toNat_natCast]; omega) (by simp [Value.oneCell', S]) rfl ?_)
        intro w63 c64 hb65
        replace hb65 : Blk w63 ga (cura.set (i * 4 + 3) (.int .i64 0)) 34 := by have := hb65; simpa [setVs, setV_eq, Int.toNat_natCast, Nat.zero_add] using this
        clear hba
        replace HC := HC.then1 c64 ge_ga
        replace ht := ht.tr c64 (by intro hx; have := ht.lt; have := ht1; simp only [List.mem_cons, List.mem_nil_iff, or_false] at hx; omega)
        replace hbb := hbb.tr1 c64 (by omega)
        refine w_plain rfl (st_indexAddr T.u23 T.size34 rfl rfl (by omega) (by omega) ?_)
        refine w_plain rfl (st_fieldAddr T.fld34_3 rfl ?_)
        refine w_plain rfl (st_store (v := .int _ _) T.size3 rfl rfl rfl hbb rfl (by have := hrb.1; have := hzb; simp only [List.length_singleton, Int.toNat_natCast]; omega) (by simp [Value.oneCell', S]) rfl ?_)
        intro w66 c67 hb68
        replace hb68 : Blk w66 gb (curb.set (i * 4 + 3) (.int .i64 0)) 34 := by have := hb68; simpa [setVs, setV_eq, Int.toNat_natCast, Nat.zero_add] using this
        clear hbb
        replace HC := HC.then1 c67 ge_gb
        replace ht := ht.tr c67 (by intro hx; have := ht.lt; have := ht1; simp only [List.mem_cons, List.mem_nil_iff, or_false] at hx; omega)
        replace hb65 := hb65.tr1 c67 (by omega)
        refine wops_nil ?_
        refine block_n ?_
        refine then_n ?_
        refine x_region rfl ?_
        refine w_plain rfl (st_addn rfl rfl (by constructor <;> omega) ?_)
        refine w_plain rfl (st_move (v := .int _ _) rfl ?_)
        refine wops_nil ?_
        refine then_n ?_
        refine ⟨(i + 1, cura.set (i * 4 + 3) (.int .i64 0), curb.set (i * 4 + 3) (.int .i64 0)), ?_, ?_, rfl, ⟨rfl, trivial⟩, ?_⟩
        ·skip
         refine ⟨?_, HC, ht, hb65, hb68⟩
         exact ⟨by omega, by rw [← zer_step hxa]; exact hra.set (zer_at hxa) (by omega) (fun _ => rfl) rfl, by rw [← zer_step hxb]; exact hrb.set (zer_at hxb) (by omega) (fun _ => rfl) rfl⟩
        ·skip
         show (tokV L).1.length - (i + 1) < (tokV L).1.length - i; omega
        repeat (first | exact agree_upds agree_over rfl | refine agree_upd ?_ rfl | refine agree_upds ?_ rfl | refine agree_over_sub ?_ rfl)
       ·skip
        try simp only [nm, ne_eq] at h5
        rw [zer_end (by omega)] at hra hrb
        rw [hB3] at hrb
        have hsame := RSame_spec (a := (tokV L).1.map zTk) (b := (tokV L).1.map zTk) (capa := cap1) (capb := cap2) (Row4.sl (D := fun _ => True) hra hba trivial) (Row4.sl (D := fun _ => True) hrb hbb trivial) (by rw [List.length_map]; exact hll)
        rw [List.length_map] at hsame
        rw [hB2]
        refine x_exit ?_
        refine then_x ?_
        refine then_x ?_
        refine block_x ?_
        refine then_n ?_
        refine x_seq ?_
        refine x_region rfl ?_
        refine w_plain rfl (st_move (v := .slice _ _ _) rfl ?_)
        refine w_plain rfl (st_move (v := .slice _ _ _) rfl ?_)
        refine w_plain rfl (st_call (ags := [_, _]) rfl rfl T.ent16 rfl (hsame) ?_)
        rintro _ w69 ⟨rfl, c70⟩
        replace HC := HC.then c70
        replace ht := ht.tr0 c70
        replace hba := hba.tr0 c70
        replace hbb := hbb.tr0 c70
        refine w_plain rfl (st_move (v := .bool _) rfl ?_)
        refine w_split (d := 127) rfl (fun g71 => ?_) (fun g71 => ?_)
        ·skip
         try simp only [nm, ne_eq] at g71
         refine w_yes 3 127 true (st_call (ags := []) rfl rfl T.ent11 rfl (awake_spec _ ht) ?_)
         rintro _ w72 ⟨rfl, c73⟩
         replace HC := HC.then c73
         replace ht := ht.tr0 c73
         replace hba := hba.tr0 c73
         replace hbb := hbb.tr0 c73
         refine w_plain rfl (st_pick (b := true) (v := .bool _) rfl rfl ?_)
         refine w_plain rfl (st_assign (v := .bool _) rfl ?_)
         refine wops_nil ?_
         refine then_n ?_
         refine x_ret ?_
         refine ret_tmp (v := .bool _) rfl rfl ?_
         exact ⟨rfl, HC⟩
        ·skip
         try simp only [nm, ne_eq] at g71
         simp at g71

end Go.Proofs.YtcgcbpknbjafcaaDoor.K
