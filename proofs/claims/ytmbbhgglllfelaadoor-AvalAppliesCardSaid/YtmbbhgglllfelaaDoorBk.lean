/- Walks: a blank more. -/
import Derived.Test.YtmbbhgglllfelaaDoorBj
import Derived.Test.YtmbbhgglllfelaaDoorKitM
set_option linter.unusedVariables false
set_option linter.unusedSimpArgs false
set_option autoImplicit false
set_option maxRecDepth 20000
namespace Go.Proofs.YtmbbhgglllfelaaDoor.K
open Go Go.Proofs Go.RowKit

/-! ### a slice whose elements are written -/
def Row4 {α : Type} (f : α → List Value) (xs : List α) (cur : List Value) : Prop := xs.length * 4 ≤ cur.length ∧ ∀ (i : Nat) (x : α), xs[i]? = some x → ∀ (j : Nat) (v : Value), (f x)[j]? = some v → cur[i * 4 + j]? = some v
theorem Own.row4 {α : Type} {f : α → List Value} {h1 h2 h3} {e : TypeId} {w : World} {D : Nat → Prop} {A : Option Addr} {cap : Nat} {xs : List α} (h : Own (Enc.flat 4 f h1 h2 h3) e w D A cap xs) (hx : xs ≠ []) :
    ∃ g cur, A = some ⟨g, 0, none⟩ ∧ D g ∧ Blk w g cur e ∧ Row4 f xs cur := by
  obtain ⟨cs, k1, k2, k3⟩ := h
  rcases k1.2 with ⟨h4, h5⟩ | ⟨g, cp, cur, h4, h5, h6, h7, h8, h9, h10⟩
  · exact absurd (List.eq_nil_of_length_eq_zero h5) hx
  · simp only [Value.slice.injEq] at h4; obtain ⟨rfl, _, rfl⟩ := h4
    have hat : ∀ (i : Nat) (x : α), xs[i]? = some x → ∀ (j : Nat) (v : Value), (f x)[j]? = some v → cur.toList[i * 4 + j]? = some v := fun i x hx j v hj => by
      obtain ⟨vs, q1, q2⟩ := k3.2 i x hx
      obtain rfl : vs = f x := q1
      have hc : cs[i * 4 + j]? = some v := q2 j v hj
      rw [← h10, List.getElem?_take] at hc
      split at hc
      · exact hc
      · cases hc
    refine ⟨g, cur.toList, rfl, k2 g (by simp [ob]), h6, ?_, hat⟩
    by_cases hz : xs.length = 0
    · omega
    · obtain ⟨x, hx1⟩ : ∃ x, xs[xs.length - 1]? = some x := ⟨_, List.getElem?_eq_getElem (by omega)⟩
      have hl : (f x).length = 4 := h2 x
      have := hat _ x hx1 3 ((f x)[3]'(by omega)) (List.getElem?_eq_getElem _)
      have := (List.getElem?_eq_some_iff.1 this).1
      omega
theorem Row4.sl {α : Type} {f : α → List Value} {h1 h2 h3} {e : TypeId} {w : World} {D : Nat → Prop} {g : Nat} {cur : List Value} {xs : List α} (h : Row4 f xs cur) (hb : Blk w g cur e) (hD : D g) : Sl (Enc.flat 4 f h1 h2 h3) w D (some ⟨g, 0, none⟩) xs :=
  .inr ⟨g, 0, rfl, hb.lt, hD, fun i x hx => ⟨f x, rfl, fun j v hj => by
    have := h.2 i x hx j v hj
    refine hb.cell ?_
    rw [nthV_eq, Nat.zero_add]; exact this⟩⟩
theorem Row4.set {α : Type} {f : α → List Value} {cur : List Value} {xs : List α} {i k : Nat} {x x' : α} {v : Value} (h : Row4 f xs cur) (hx : xs[i]? = some x) (hk : k < 4) (hl : ∀ x, (f x).length = 4) (hf : f x' = (f x).set k v) : Row4 f (xs.set i x') (cur.set (i * 4 + k) v) := by
  have hi := (List.getElem?_eq_some_iff.1 hx).1
  refine ⟨by simpa using h.1, fun i2 x2 hx2 j u hj => ?_⟩
  rw [List.getElem?_set] at hx2
  by_cases e : i = i2
  · subst e
    rw [if_pos rfl, if_pos hi] at hx2
    obtain rfl := Option.some.inj hx2
    rw [hf, List.getElem?_set] at hj
    by_cases ej : k = j
    · subst ej
      rw [if_pos rfl, if_pos (by rw [hl]; exact hk)] at hj
      obtain rfl := Option.some.inj hj
      have := h.1
      rw [List.getElem?_set_self (by omega)]
    · rw [if_neg ej] at hj
      rw [List.getElem?_set_ne (by omega)]
      exact h.2 _ x hx j u hj
  · rw [if_neg e] at hx2
    have hj4 : j < 4 := by have := (List.getElem?_eq_some_iff.1 hj).1; rw [hl] at this; exact this
    rw [List.getElem?_set_ne (by omega)]
    exact h.2 _ x2 hx2 j u hj
def zTk (x : Tk) : Tk := (x.1, 0)
/-- The first i without their places. -/
def zer (i : Nat) (a : List Tk) : List Tk := (a.take i).map zTk ++ a.drop i
theorem zer_at {a : List Tk} {i : Nat} {x : Tk} (h : a[i]? = some x) : (zer i a)[i]? = some x := by
  obtain ⟨hi, he⟩ := List.getElem?_eq_some_iff.1 h
  unfold zer
  rw [List.getElem?_append_right (by simp; omega)]
  simp [List.length_take, Nat.min_eq_left (Nat.le_of_lt hi)]
  exact h
theorem zer_step {a : List Tk} {i : Nat} {x : Tk} (h : a[i]? = some x) : (zer i a).set i (zTk x) = zer (i + 1) a := by
  obtain ⟨hi, he⟩ := List.getElem?_eq_some_iff.1 h
  unfold zer
  rw [List.set_append_right _ _ (by simp; omega), List.take_add_one, h, List.drop_eq_getElem_cons hi]
  simp [List.length_take, Nat.min_eq_left (Nat.le_of_lt hi)]
  rw [List.drop_eq_getElem_cons hi]; rfl
theorem zer_end {a : List Tk} {i : Nat} (h : ¬ i < a.length) : zer i a = a.map zTk := by
  unfold zer; rw [List.take_of_length_le (by omega), List.drop_of_length_le (by omega), List.append_nil]
/-! ### the law -/
theorem toks_places {s : Bytes} : ∀ (k i : Nat), i ≤ s.length → s.length - i < k → (∀ y, y ∈ toksF k s i → (i : Int) ≤ y.2.1 ∧ y.2.1 ≤ s.length) ∧ (toksF k s i).Pairwise (fun a b => a.2.1 < b.2.1)
  | 0, i, _, h => absurd h (by omega)
  | k + 1, i, hi, hk => by
    have ha := atV_le hi
    have hn := nextV_len (s.drop (atV s i))
    rw [List.length_drop] at hn
    obtain ⟨hn1, hn2, hn3⟩ := hn
    rw [toksF_succ]
    split
    · refine ⟨fun y hy => ?_, List.pairwise_singleton _ _⟩
      rw [List.mem_singleton.1 hy]
      show (i : Int) ≤ ((atV s i : Nat) : Int) ∧ ((atV s i : Nat) : Int) ≤ s.length
      omega
    · rename_i hs
      have hp := hn3 (fun h => hs h)
      obtain ⟨ih1, ih2⟩   := toks_places (s := s) k (atV s i + (nextV (s.drop (atV s i))).2.1.toNat) (by omega) (by omega)
      refine ⟨fun y hy => ?_, List.pairwise_cons.2 ⟨fun y hy => ?_, ih2⟩⟩
      · rcases List.mem_cons.1 hy with rfl | hy
        · show (i : Int) ≤ ((atV s i : Nat) : Int) ∧ ((atV s i : Nat) : Int) ≤ s.length
          omega
        · have := ih1 y hy; omega
      · have := ih1 y hy
        show ((atV s i : Nat) : Int) < y.2.1
        omega
theorem toks_fuel {s : Bytes} : ∀ (k i : Nat), i ≤ s.length → s.length - i < k → toksF (k + 1) s i = toksF k s i
  | 0, i, _, h => absurd h (by omega)
  | k + 1, i, hi, hk => by
    have ha := atV_le hi
    have hn := nextV_len (s.drop (atV s i))
    rw [List.length_drop] at hn
    obtain ⟨hn1, hn2, hn3⟩ := hn
    rw [toksF_succ (k + 1) s i, toksF_succ k s i]
    split
    · rfl
    · rename_i hs
      have hp := hn3 (fun h => hs h)
      rw [toks_fuel (s := s) k _ (by omega) (by omega)]
def strip (y : Yd) : (Int × Int × Bytes) × Int := (y.1, y.2.2)
theorem stop_strip {a b : Yd} (h : strip a = strip b) : stopV a ↔ stopV b := by
  have h1 := congrArg Prod.fst h; have h2 := congrArg Prod.snd h
  simp only [strip] at h1 h2
  simp only [stopV, h1, h2]
theorem strip_step {s T : Bytes} {k i j : Nat} (h : s.drop (atV s i) = T.drop (atV T j)) (hr : (toksF k s (atV s i + (nextV (s.drop (atV s i))).2.1.toNat)).map strip = (toksF k T (atV T j + (nextV (T.drop (atV T j))).2.1.toNat)).map strip) :
    (toksF (k + 1) s i).map strip = (toksF (k + 1) T j).map strip := by
  have hy : strip (yV s (atV s i)) = strip (yV T (atV T j)) := by simp only [strip, yV, h]
  rw [toksF_succ, toksF_succ]
  by_cases hs : stopV (yV s (atV s i))
  · rw [if_pos hs, if_pos ((stop_strip hy).1 hs)]; simp [hy]
  · rw [if_neg hs, if_neg (fun h => hs ((stop_strip hy).2 h)), List.map_cons, List.map_cons, hy, hr]
theorem strip_drop {s T : Bytes} : ∀ (k i j : Nat), s.drop i = T.drop j → (toksF k s i).map strip = (toksF k T j).map strip
  | 0, _, _, _ => rfl
  | k + 1, i, j, h => by
    have ha : s.drop (atV s i) = T.drop (atV T j) := by
      unfold atV; rw [← List.drop_drop, ← List.drop_drop, h]
    refine strip_step ha <| strip_drop k _ _ ?_
    rw [← List.drop_drop, ← List.drop_drop, ha]
theorem runN_lt {p : UInt8 → Bool} {x v v' : Bytes} (h : runN p (x ++ v) < x.length) : runN p (x ++ v') = runN p (x ++ v) := by
  induction x with
  | nil => simp at h
  | cons c x ih =>
    simp only [List.cons_append, runN, List.length_cons] at h ⊢
    split
    · rename_i hc
      rw [if_pos hc] at h
      rw [ih (by omega)]
    · rfl
theorem runN_full {p : UInt8 → Bool} : ∀ {x : Bytes}, ∀ {v : Bytes}, x.length ≤ runN p (x ++ v) → x.all p = true
  | [], _, _ => rfl
  | c :: x, v, h => by
    simp only [List.cons_append, runN, List.length_cons] at h
    split at h
    · rename_i hc
      rw [List.all_cons, hc, runN_full (x := x) (v := v) (by omega)]; rfl
    · omega
/-- A run that ends within x, or just behind it ahead of a byte that stops it. -/
theorem runN_pre {p : UInt8 → Bool} {x v v' : Bytes} (h : runN p (x ++ v) ≤ x.length) (h0 : runN p v' = 0) : runN p (x ++ v') = runN p (x ++ v) := by
  by_cases e : runN p (x ++ v) < x.length
  · exact runN_lt e
  · have := runN_full (p := p) (x := x) (v := v) (by omega)
    rw [runN_app this, h0]; omega
theorem ops_no32 : ∀ o, o ∈ opsL → (32 : UInt8) ∉ o := by decide
theorem pre_iff {s o : Bytes} : Lib.hasPrefix s o = true ↔ ∃ t, s = o ++ t := by
  unfold Lib.hasPrefix; rw [List.isPrefixOf_iff_prefix]
  exact ⟨fun ⟨t, h⟩ => ⟨t, h.symm⟩, fun ⟨t, h⟩ => ⟨t, h.symm⟩⟩
theorem pre_app {x v o : Bytes} (h : Lib.hasPrefix (x ++ v) o = true) (hl : o.length ≤ x.length) (v' : Bytes) : Lib.hasPrefix (x ++ v') o = true := by
  obtain ⟨t, ht⟩ := pre_iff.1 h
  have h1 : x.take o.length = o := by
    have := congrArg (List.take o.length) ht
    rwa [List.take_append_of_le_length hl, List.take_left'  rfl] at this
  exact pre_iff.2 ⟨x.drop o.length ++ v', by rw [← List.append_assoc, ← h1, List.length_take, Nat.min_eq_left hl, List.take_append_drop]⟩
theorem pre_32 {x v o : Bytes} (h : Lib.hasPrefix (x ++ 32 :: v) o = true) (ho : (32 : UInt8) ∉ o) : o.length ≤ x.length := by
  obtain ⟨t, ht⟩ := pre_iff.1 h
  by_cases hl : o.length ≤ x.length
  · exact hl
  · exfalso
    apply ho
    have := congrArg (fun l => l[x.length]?) ht
    simp only [List.getElem?_append_right (Nat.le_refl _), Nat.sub_self, List.getElem?_cons_zero] at this
    rw [List.getElem?_append_left (by omega)] at this
    exact List.mem_of_getElem? this.symm
theorem opV_pre {x v : Bytes} (h : ¬ opV (x ++ v) = []) (hl : (opV (x ++ v)).length ≤ x.length) : opV (x ++ 32 :: v) = opV (x ++ v) := by
  cases hx : opsL.find? (Lib.hasPrefix (x ++ v)) with
  | none => exact absurd (by unfold opV; rw [hx]; rfl) h
  | some o =>
    have e : opV (x ++ v) = o := by unfold opV; rw [hx]; rfl
    rw [e] at hl ⊢
    obtain ⟨hp, a, b, hab, hall⟩ := List.find?_eq_some_iff_append.1 hx
    have : opsL.find? (Lib.hasPrefix (x ++ 32 :: v)) = some o := List.find?_eq_some_iff_append.2 ⟨pre_app hp hl _, a, b, hab, fun c hc => by
      have h1 := hall c hc
      cases h2 : Lib.hasPrefix (x ++ 32 :: v) c with
      | false => rfl
      | true =>
        have h3 := pre_32 h2 (ops_no32 c (by rw [hab]; simp [hc]))
        rw [pre_app h2 h3 v] at h1; cases h1⟩
    unfold opV; rw [this]; rfl
theorem next_pre {x v : Bytes} {t : Int × Int × Bytes} {n : Nat} (hx : x ≠ []) (h : nextV (x ++ v) = (t, (n : Int), 0)) (ht : ¬ t.1 = 0) (hn : n ≤ x.length) : nextV (x ++ 32 :: v) = (t, (n : Int), 0) := by
  have hp := List.length_pos_iff.2 hx
  have hb : byte (x ++ 32 :: v) 0 = byte (x ++ v) 0 := by
    cases x with
    | nil => exact absurd rfl hx
    | cons c x => rfl
  have l1 : 0 < (x ++ v).length := by simp; omega
  have l2 : 0 < (x ++ 32 :: v).length := by simp; omega
  have hr : runN wordB (x ++ v) ≤ x.length → runN wordB (x ++ 32 :: v) = runN wordB (x ++ v) := fun hle => runN_pre hle rfl
  have tk : ∀ r, r ≤ x.length → (x ++ 32 :: v).take r = (x ++ v).take r := fun r hr => by rw [List.take_append_of_le_length hr, List.take_append_of_le_length hr]
  by_cases hd : digB (byte (x ++ v) 0) = true
  · by_cases hc : (constV ((x ++ v).take (runN wordB (x ++ v)))).2 = true
    · have e := next_num (s := x ++ v) (i := 0) l1 hd rfl hc
      rw [List.drop_zero] at e
      rw [e] at h
      have h1 : runN wordB (x ++ v) = n := by
        have e3 : ((runN wordB (x ++ v) : Nat) : Int) = n := congrArg (fun z => z.2.1) h
        omega
      have e2 := next_num (s := x ++ 32 :: v) (i := 0) (W := (x ++ v).take (runN wordB (x ++ v))) l2 (by rw [hb]; exact hd) (by rw [List.drop_zero, hr (by omega), tk _ (by omega)]) hc
      rw [List.drop_zero, hr (by omega)] at e2
      rw [e2]; exact h
    · have e := next_bad (s := x ++ v) (i := 0) l1 hd rfl (by simpa using hc)
      rw [List.drop_zero] at e
      rw [e] at h
      have := congrArg (fun z => z.2.2) h; simp at this
  · by_cases hg : begB (byte (x ++ v) 0) = true
    · have e := next_name (s := x ++ v) (i := 0) l1 (by simpa using hd) hg rfl
      rw [List.drop_zero] at e
      rw [e] at h
      have h1 : runN wordB (x ++ v) = n := by
        have e3 : ((runN wordB (x ++ v) : Nat) : Int) = n := congrArg (fun z => z.2.1) h
        omega
      have e2 := next_name (s := x ++ 32 :: v) (i := 0) (W := (x ++ v).take (runN wordB (x ++ v))) l2 (by rw [hb]; simpa using hd) (by rw [hb]; exact hg) (by rw [List.drop_zero, hr (by omega), tk _ (by omega)])
      rw [List.drop_zero, hr (by omega)] at e2
      rw [e2]; exact h
    · by_cases ho : opV (x ++ v) = []
      · have e := next_none (s := x ++ v) (i := 0) l1 (by simpa using hd) (by simpa using hg) (by rw [List.drop_zero]; exact ho)
        rw [List.drop_zero] at e
        rw [e] at h
        have := congrArg (fun z => z.2.2) h; simp at this
      · have e := next_op (s := x ++ v) (i := 0) l1 (by simpa using hd) (by simpa using hg) (by rw [List.drop_zero]; exact ho)
        rw [List.drop_zero] at e
        rw [e] at h
        have h1 : (opV (x ++ v)).length = n := by
          have e3 : (((opV (x ++ v)).length : Nat) : Int) = n := congrArg (fun z => z.2.1) h
          omega
        have ho2 := opV_pre ho (by omega)
        have e2 := next_op (s := x ++ 32 :: v) (i := 0) l2 (by rw [hb]; simpa using hd) (by rw [hb]; simpa using hg) (by rw [List.drop_zero, ho2]; exact ho)
        rw [List.drop_zero, ho2] at e2
        rw [e2]; exact h
theorem blank_one {s : Bytes} {q : Nat} (hq : q ≤ s.length) : ∀ (k i : Nat), i ≤ q → s.length - i < k → (∃ y, y ∈ toksF k s i ∧ y.2.1 = (q : Int)) → (toksF k s i).map strip = (toksF k ((s.take q ++ [32]) ++ s.drop q) i).map strip
  | 0, i, _, h, _ => absurd h (by omega)
  | k + 1, i, hi, hk, hy => by
    obtain ⟨T, hT⟩ : ∃ T, T = (s.take q ++ [32]) ++ s.drop q := ⟨_, rfl⟩
    rw [← hT]
    have ha := atV_le (s := s) (i := i) (by omega)
    have hn := nextV_len (s.drop (atV s i))
    rw [List.length_drop] at hn
    obtain ⟨hn1, hn2, hn3⟩ := hn
    have hTd : ∀ j, j ≤ q → T.drop j = (s.take q).drop j ++ 32 :: s.drop q := fun j hj => by
      rw [hT, List.append_assoc, List.drop_append_of_le_length (by simp; omega)]; rfl
    have hsd : ∀ j, j ≤ q → s.drop j = (s.take q).drop j ++ s.drop q := fun j hj => by
      conv => lhs; rw [← List.take_append_drop q s]
      rw [List.drop_append_of_le_length (by simp; omega)]
    have hlen : ∀ j, ((s.take q).drop j).length = q - j := fun j => by simp [Nat.min_eq_left hq]
    have hTq : T.drop (q + 1) = s.drop q := by
      have e0 : (s.take q).drop q = [] := List.drop_of_length_le (by rw [List.length_take]; omega)
      rw [← List.drop_drop, hTd q (Nat.le_refl _), e0]; rfl
    obtain ⟨y, hy1, hy2⟩ := hy
    rw [toksF_succ] at hy1
    by_cases e : atV s i = q
    · -- the place itself
      have hrun : runN blankB (s.drop i) = q - i := by unfold atV at e; omega
      have hall : ((s.take q).drop i).all blankB = true := runN_full (v := s.drop q) (by rw [← hsd i hi, hlen, hrun]; exact Nat.le_refl _)
      have h0 : runN blankB (s.drop q) = 0 := by
        have := runN_app (t := s.drop q) hall
        rw [← hsd i hi, hrun, hlen] at this; omega
      have haT : atV T i = q + 1 := by
        unfold atV
        rw [hTd i hi, runN_app hall, hlen]
        show i + (q - i + (runN blankB (s.drop q) + 1)) = q + 1
        omega
      have hd : s.drop (atV s i) = T.drop (atV T i) := by rw [e, haT, hTq]
      refine strip_step hd <| strip_drop k _ _ ?_
      rw [← List.drop_drop, ← List.drop_drop, hd]
    · rcases List.mem_cons.1 hy1 with rfl | hy1
      · exact absurd (Int.ofNat.inj hy2) e
      · by_cases hs : stopV (yV s (atV s i))
        · rw [if_pos hs] at hy1; cases hy1
        · rw [if_neg hs] at hy1
          have hp := hn3 (fun h => hs h)
          have hpl := (toks_places (s := s) k (atV s i + (nextV (s.drop (atV s i))).2.1.toNat) (by omega) (by omega)).1 y hy1
          have hlt : atV s i + (nextV (s.drop (atV s i))).2.1.toNat ≤ q := by omega
          have haT : atV T i = atV s i := by
            unfold atV
            rw [hTd i hi, hsd i hi, runN_lt (v := s.drop q) (by rw [← hsd i hi, hlen]; have hr1 : atV s i = i + runN blankB (s.drop i) := rfl; omega)]
          have hst : ¬ (yV s (atV s i)).2.2 ≠ 0 ∧ ¬ (yV s (atV s i)).1.1 = 0 := ⟨fun h => hs (.inl h), fun h => hs (.inr h)⟩
          have hnx : nextV (s.drop (atV s i)) = ((nextV (s.drop (atV s i))).1, (((nextV (s.drop (atV s i))).2.1.toNat : Nat) : Int), 0) := by
            have e0 : (nextV (s.drop (atV s i))).2.2 = 0 := Decidable.not_not.1 hst.1
            show ((nextV (s.drop (atV s i))).1, (nextV (s.drop (atV s i))).2.1, (nextV (s.drop (atV s i))).2.2) = _
            rw [e0, Int.toNat_of_nonneg hn1]
          have hnT : nextV (T.drop (atV s i)) = nextV (s.drop (atV s i)) := by
            rw [hTd _ (by omega)]
            rw [hsd _ (by omega)] at hnx
            have := next_pre (x := (s.take q).drop (atV s i)) (v := s.drop q) (by intro e2; have := congrArg List.length e2; rw [hlen] at this; simp at this; omega) hnx (by rw [← hsd _ (by omega)]; exact hst.2) (by rw [← hsd _ (by omega), hlen]; omega)
            rw [this, ← hnx, ← hsd _ (by omega)]
          have ih := blank_one hq k _ hlt (by omega) ⟨y, hy1, hy2⟩
          rw [← hT] at ih
          have hyT : strip (yV T (atV T i)) = strip (yV s (atV s i)) := by simp only [strip, yV, haT, hnT]
          rw [toksF_succ, toksF_succ, if_neg hs, if_neg (fun h => hs ((stop_strip hyT).1 h)), List.map_cons, List.map_cons, hyT, haT, hnT, ih]
theorem tokV_ok {L : List Yd} (h : (tokV L).2.2 = 0) : tokV L = (L.map toTk, 0, 0) ∧ ∀ z, z ∈ L → z.2.2 = 0 := by
  unfold tokV at h ⊢
  cases e : L.find? errV with
  | none => exact ⟨rfl, fun z hz => by have := List.find?_eq_none.1 e z hz; simpa [errV] using this⟩
  | some y =>
    rw [e] at h
    have := List.find?_some e
    simp only [errV, Bool.not_eq_true', decide_eq_false_iff_not] at this
    exact absurd h this
theorem tokV_bad {L : List Yd} (h : ¬ (tokV L).2.2 = 0) : (tokV L).1 = [] := by
  unfold tokV at h ⊢
  cases e : L.find? errV with
  | none => rw [e] at h; exact absurd rfl h
  | some y => rfl
/-- A blank more ahead of a token. -/
theorem blank_law {s : Bytes} {L : List Yd} (hL : toksF (s.length + 1) s 0 = L) (h0 : (tokV L).2.2 = 0) {q : Nat} {x : Tk} (hx : x ∈ (tokV L).1) (hxq : x.2 = (q : Int)) :
    ∃ L2, toksF (((s.take q ++ [32]) ++ s.drop q).length + 1) ((s.take q ++ [32]) ++ s.drop q) 0 = L2 ∧ (tokV L2).2.2 = 0 ∧ (tokV L2).1.length = (tokV L).1.length ∧ (tokV L2).1.map zTk = (tokV L).1.map zTk := by
  obtain ⟨hv, hz⟩ := tokV_ok h0
  rw [hv] at hx
  obtain ⟨y, hy, rfl⟩ := List.mem_map.1 hx
  have hpl := (toks_places (s := s) (s.length + 1) 0 (Nat.zero_le _) (by omega)).1 y (by rw [hL]; exact hy)
  have hyq : y.2.1 = (q : Int) := hxq
  have hq : q ≤ s.length := by omega
  have hf := toks_fuel (s := s) (s.length + 1) 0 (Nat.zero_le _) (by omega)
  have hb := blank_one hq (s.length + 2) 0 (Nat.zero_le _) (by omega) ⟨y, by rw [hf, hL]; exact hy, hyq⟩
  rw [hf, hL] at hb
  have hTl : ((s.take q ++ [32]) ++ s.drop q).length = s.length + 1 := by simp [Nat.min_eq_left hq]; omega
  rw [hTl]
  refine ⟨_, rfl, ?_⟩
  generalize toksF (s.length + 1 + 1) ((s.take q ++ [32]) ++ s.drop q) 0 = L2 at hb
  have hz2 : ∀ z, z ∈ L2 → z.2.2 = 0 := fun z hz3 => by
    have : strip z ∈ L.map strip := by rw [hb]; exact List.mem_map_of_mem hz3
    obtain ⟨u, hu, he⟩ := List.mem_map.1 this
    have h2 := congrArg Prod.snd he
    simp only [strip] at h2
    rw [← h2]; exact hz u hu
  have hv2 : tokV L2 = (L2.map toTk, 0, 0) := by simp [tokV, find_none hz2]
  rw [hv, hv2]
  refine ⟨rfl, by simpa using (congrArg List.length hb).symm, ?_⟩
  have := congrArg (List.map fun (z : (Int × Int × Bytes) × Int) => ((z.1, 0) : Tk)) hb
  simp only [List.map_map] at this ⊢
  exact this.symm
theorem places_law {s : Bytes} {L : List Yd} (hL : toksF (s.length + 1) s 0 = L) (h0 : (tokV L).2.2 = 0) : (∀ (i : Nat) (x : Tk), (tokV L).1[i]? = some x → 0 ≤ x.2 ∧ x.2 ≤ s.length) ∧ ∀ (i : Nat) (x y : Tk), (tokV L).1[i]? = some x → (tokV L).1[i + 1]? = some y → x.2 < y.2 := by
  obtain ⟨hv, hz⟩ := tokV_ok h0
  obtain ⟨p1, p2⟩ := toks_places (s := s) (s.length + 1) 0 (Nat.zero_le _) (by omega)
  rw [hL] at p1 p2
  rw [hv]
  dsimp only
  refine ⟨fun i x hx => ?_, fun i x y hx hy => ?_⟩
  · rw [List.getElem?_map] at hx
    obtain ⟨z, hz1, rfl⟩ := Option.map_eq_some_iff.1 hx
    exact p1 z (List.mem_of_getElem? hz1)
  · rw [List.getElem?_map] at hx hy
    obtain ⟨z, hz1, rfl⟩ := Option.map_eq_some_iff.1 hx
    obtain ⟨u, hu1, rfl⟩ := Option.map_eq_some_iff.1 hy
    obtain ⟨hi, rfl⟩ := List.getElem?_eq_some_iff.1 hz1
    obtain ⟨hj, rfl⟩ := List.getElem?_eq_some_iff.1 hu1
    exact List.pairwise_iff_getElem.1 p2 i (i + 1) hi hj (by omega)
theorem wrapu_in (k : Int) : 0 ≤ IntKind.u64.wrap k ∧ IntKind.u64.wrap k ≤ 18446744073709551615 := by
  simp [IntKind.wrap, IntKind.signed, IntKind.bits]; omega


end Go.Proofs.YtmbbhgglllfelaaDoor.K
