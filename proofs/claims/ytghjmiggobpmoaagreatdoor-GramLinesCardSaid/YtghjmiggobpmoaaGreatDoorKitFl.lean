import Derived.Test.YtghjmiggobpmoaaGreatDoorTok
import Derived.Test.YtghjmiggobpmoaaGreatDoorShelf
import Derived.Lib.IndexAny
import Derived.Lib.IndexLaws
import Derived.Lib.LaidTab
import Derived.Lib.Space
set_option linter.unusedVariables false
set_option linter.unusedSimpArgs false
set_option autoImplicit false
namespace Go.Proofs.YtghjmiggobpmoaaGreatDoor.K
open Go Go.Proofs Go.RowKit
def idx (s : Bytes) (c : UInt8) : Int := Lib.indexByte s c
theorem IndexByte_spec (s : Bytes) (c : UInt8) (w : World) : CallR Tryz.prog 46 #[S s, .int .u8 (c.toNat : Int)] w fun v w' => v = .int .i64 (idx s c) ∧ Chg [] w w' :=
  CallR.of (Tryz.strings_IndexByte ⟨⟨s⟩⟩ (c.toNat : Int) w) fun e w' ⟨h1, h2⟩ => ⟨_, h1, by simp [idx], .refl' h2⟩
theorem wrap_u8 (x : Int) : IntKind.u8.wrap x = x % 256 := by simp [IntKind.wrap, IntKind.signed, IntKind.bits]
def digB (c : UInt8) : Bool := decide (48 ≤ c.toNat ∧ c.toNat ≤ 57)
def upB (c : UInt8) : Bool := decide (65 ≤ c.toNat ∧ c.toNat ≤ 90)
def loB (c : UInt8) : Bool := decide (97 ≤ c.toNat ∧ c.toNat ≤ 122)
def alphaB (c : UInt8) : Bool := upB c || loB c
def begB (c : UInt8) : Bool := alphaB c || decide (c.toNat = 95)
def wordB (c : UInt8) : Bool := begB c || digB c
theorem drop_byte {t : Bytes} {i : Nat} (h : i < t.length) : t.drop i = byte t i :: t.drop (i + 1) := by
  rw [List.drop_eq_getElem_cons h]; simp [byte, h]
theorem idx_le (s : Bytes) (c : UInt8) : idx s c < s.length ∨ idx s c = -1 := by
  by_cases h : 0 ≤ idx s c
  · have h1 := Lib.indexByte_some (l := s) (c := c) (o := (idx s c).toNat) (by show idx s c = _; omega)
    have := (List.getElem?_eq_some_iff.1 h1.1).1;exact .inl (by omega)
  have := Lib.indexByte_ge s c;exact .inr (by unfold idx at *; omega)
theorem HasPrefix_spec (s p : Bytes) (w : World) : CallR Tryz.prog 27 #[S s, S p] w fun v w' => v = .bool (Lib.hasPrefix s p) ∧ Chg [] w w' :=
  CallR.of (Tryz.strings_HasPrefix ⟨⟨s⟩⟩ ⟨⟨p⟩⟩ w) fun e w' ⟨h1, h2⟩ => ⟨_, h1, rfl, .refl' h2⟩
theorem pre_len {s p : Bytes} (h : Lib.hasPrefix s p = true) : p.length ≤ s.length := by
  rw [← Lib.hasPrefix_of_take, Bool.and_eq_true, decide_eq_true_eq] at h; exact h.1
theorem all128 (s : Bytes) (h : (s.all fun b => Nat.blt b.toNat 128) = true) : ∀ (j : Nat) (b : UInt8), s[j]? = some b → b.toNat < 128 := fun j b hj => by
  have := List.all_eq_true.1 h b (List.mem_of_getElem? hj)
  simpa [Nat.blt_eq] using this
def findN (q : Bytes → Bool) : Nat → List Bytes → Int
  | _, [] => -1
  | i, x :: l => if q x = true then (i : Int) else findN q (i + 1) l
theorem drop_at {l : List Bytes} {i : Nat} {x : Bytes} (h : l[i]? = some x) : l.drop i = x :: l.drop (i + 1) := by
  obtain ⟨hi, he⟩ := List.getElem?_eq_some_iff.1 h;rw [List.drop_eq_getElem_cons hi, he]
theorem findN_on {q : Bytes → Bool} {l : List Bytes} {i : Nat} {x : Bytes} (h : l[i]? = some x) (hq : q x = false) : findN q i (l.drop i) = findN q (i + 1) (l.drop (i + 1)) := by
  rw [drop_at h, findN, if_neg (by simp [hq])]
theorem findN_off {q : Bytes → Bool} {l : List Bytes} {i : Nat} {x : Bytes} (h : l[i]? = some x) (hq : q x = true) : findN q i (l.drop i) = i := by
  rw [drop_at h, findN, if_pos hq]
theorem findN_end {q : Bytes → Bool} {l : List Bytes} {i : Nat} (h : ¬ i < l.length) : findN q i (l.drop i) = -1 := by
  rw [List.drop_of_length_le (by omega)]; rfl
def Tab (w : World) : Prop := Lib.TabIs Tryz.prog w "strings.asciiSpace" .u8 Lib.asciiSpaceTab
theorem gTab : Tryz.prog.globalNamed "strings.asciiSpace" = some 0 := by kernel_rfl
theorem Tab.lt {w : World} (h : Tab w) : 0 < w.heap.size := by
  have := Lib.TabIs.cell h gTab 0 (by simp [Lib.asciiSpaceTab])
  unfold World.cell? at this
  split at this
  · rename_i hh; exact (Array.getElem?_eq_some_iff.1 hh).1
  cases this
theorem Tab.tr {w w' : World} {bs : List Nat} (h : Tab w) (hc : Chg bs w w') (hb : 0 ∉ bs) : Tab w' := by
  have he := hc.block 0 h.lt hb
  unfold Tab Lib.TabIs World.var? at *
  simp only [gTab, Option.bind_some] at *
  rw [he]; exact h
theorem Tab.tr0 {w w' : World} (h : Tab w) (hc : Chg [] w w') : Tab w' := h.tr hc (by simp)
theorem sl_of_map {w : World} {b : Nat} {xs : List Bytes} {T : TypeId} (h : Blk w b (xs.map S) T) : Sl sE w (fun k => k = b) (some ⟨b, 0, none⟩) xs :=
  .inr ⟨b, 0, rfl, h.lt, rfl, fun i x hx => ⟨_, rfl, fun j v hj => by
    cases j with
    | succ j => simp at hj
    | zero =>
      simp at hj; subst hj
      refine h.cell ?_;rw [nthV_eq];simp [sE, Enc.flat, hx]⟩⟩
theorem Fields_spec (s : Bytes) (w : World) (hs : s.length < 4294967281) (ha : ∀ (j : Nat) (b : UInt8), s[j]? = some b → b.toNat < 128) (ht : Tab w) :
    CallR Tryz.prog 62 #[S s] w fun v w' => ∃ b, v = .slice (some ⟨b, 0, none⟩) (Lib.fields s).length (Lib.fields s).length ∧ w.heap.size ≤ b ∧ Sl sE w' (fun k => k = b) (some ⟨b, 0, none⟩) (Lib.fields s) ∧ Chg [] w w' :=
  CallR.of (Tryz.strings_Fields ⟨⟨s⟩⟩ w hs ha ht) fun e w' ⟨h1, h2⟩ => ⟨_, h1, w.heap.size, rfl, Nat.le_refl _, by
    subst h2
    exact sl_of_map (T := 9) (Blk.new w _ _), by subst h2; exact Chg.alloc w _⟩
end Go.Proofs.YtghjmiggobpmoaaGreatDoor.K
set_option maxRecDepth 20000
namespace Go.Proofs.YtghjmiggobpmoaaGreatDoor.K
open Go Go.RowKit
theorem idx_neg {s : Bytes} {c : UInt8} (h : Lib.indexByte s c < 0) : Lib.indexByte s c = -1 := by
  induction s with
  | nil => rfl
  | cons d s ih =>
    simp only [Lib.indexByte] at h ⊢
    split at h
    · omega
    rename_i hd
    rw [if_neg hd]
    split at h
    · rename_i h2; rw [if_pos h2]
    rename_i h2; rw [if_neg h2]
    have : Lib.indexByte s c < 0 := by omega
    exact absurd (by simpa using ih this) (by simpa using h2)
theorem idx_mem {c : UInt8} : ∀ {s : Bytes}, 0 ≤ idx s c ↔ c ∈ s
  | [] => by simp [idx, Lib.indexByte]
  | d :: s => by
    have ih := @idx_mem c s;simp only [idx] at ih ⊢;simp only [Lib.indexByte, List.mem_cons]
    by_cases h : d = c
    · simp [h]
    rw [if_neg (by simpa using h)]
    have h2 : c ≠ d := fun e => h e.symm
    by_cases h3 : Lib.indexByte s c = -1
    · rw [if_pos (by simp [h3])]
      have h4 : c ∉ s := fun hm => by have := ih.2 hm; omega
      simp [h2, h4]
    rw [if_neg (by simpa using h3)]
    have h5 : 0 ≤ Lib.indexByte s c := by
      have := idx_le s c; simp only [idx] at this
      rcases this with h6 | h6
      · rcases Int.lt_or_le (Lib.indexByte s c) 0 with h7 | h7
        · exact absurd (idx_neg h7) h3
        exact h7
      exact absurd h6 h3
    simp [h2, ih.1 h5]; omega
theorem except_map_err {e : Except Nat Nat} {j x : Nat} (h : e.map (· + j) = .error x) : e = .error x := by
  cases e with
  | error y => cases h; rfl
  | ok i => cases h
theorem untilN_err {σ : Type} {sk : Bytes → Except Nat Nat} {beg : UInt8 → Bool} {fin : σ → UInt8 → Bool × σ} (hsk : ∀ s e, sk s = .error e → e ≠ 0) : ∀ (n : Nat) (st : σ) (s : Bytes) (e : Nat), untilN sk beg fin n st s = .error e → e ≠ 0
  | 0, _, _, e, h => by cases h; simp
  | _ + 1, _, [], e, h => by cases h; simp
  | n + 1, st, c :: t, e, h => by
    simp only [untilN] at h
    split at h
    · cases h
    split at h
    · split at h
      · rename_i e2 he; cases h; exact hsk _ _ he
      exact untilN_err hsk n _ _ _ (except_map_err h)
    exact untilN_err hsk n _ _ _ (except_map_err h)
theorem skipL_err : ∀ (f : Nat) (s : Bytes) (e : Nat), skipL f s = .error e → e ≠ 0
  | 0, s, e, h => by cases h; simp
  | _ + 1, [], _, h => by cases h
  | f + 1, c :: t, e, h => by
    have run : ∀ {m : UInt8} {esc : Bool} {u : Bytes}, orSyn (runL m esc u) = .error e → e ≠ 0 := fun {m esc u} h => by
      cases h1 : runL m esc u with
      | none => rw [h1] at h; cases h; simp
      | some j => rw [h1] at h; cases h
    simp only [skipL] at h
    split at h
    · cases h
    split at h
    · exact run (except_map_err h)
    split at h
    · exact run (except_map_err h)
    split at h
    · exact untilN_err (skipL_err f) _ _ _ _ (except_map_err h)
    split at h
    · split at h
      · cases h
      split at h
      · exact untilN_err (skipL_err f) _ _ _ _ (except_map_err h)
      split at h
      · exact untilN_err (skipL_err f) _ _ _ _ (except_map_err h)
      cases h
    cases h
def runA (m : UInt8) (esc : Bool) (s : Bytes) (j : Nat) : Option Nat := (runL m esc (s.drop j)).map (· + j)
theorem runA_at {m : UInt8} {esc : Bool} {s : Bytes} {j : Nat} (hj : j < s.length) (h : byte s j = m) : runA m esc s j = some (j + 1) := by
  rw [runA, run_at hj h]; simp [Nat.add_comm]
theorem runA_esc {m : UInt8} {s : Bytes} {j : Nat} (hj : j < s.length) (h : byte s j ≠ m) (h2 : byte s j = 92) : runA m true s j = runA m true s (j + 2) := by
  rw [runA, run_esc hj h h2, runA, Option.map_map]; congr 1; funext x; simp only [Function.comp]; omega
theorem runA_on {m : UInt8} {esc : Bool} {s : Bytes} {j : Nat} (hj : j < s.length) (h : byte s j ≠ m) (h2 : esc = true → byte s j ≠ 92) : runA m esc s j = runA m esc s (j + 1) := by
  rw [runA, run_on hj h h2, runA, Option.map_map]; congr 1; funext x; simp only [Function.comp]; omega
theorem runA_end {m : UInt8} {esc : Bool} {s : Bytes} {j : Nat} (hj : s.length ≤ j) : runA m esc s j = none := by rw [runA, run_end hj]; rfl
theorem runA_le {m : UInt8} {esc : Bool} {s : Bytes} {j k : Nat} (h : runA m esc s j = some k) : j < k ∧ k ≤ s.length := by
  rw [runA] at h
  cases h1 : runL m esc (s.drop j) with
  | none => rw [h1] at h; cases h
  | some i => rw [h1] at h; simp only [Option.map_some, Option.some.injEq] at h; subst h; have := runL_le _ _ h1; simp only [List.length_drop] at this; omega
theorem skipL_cons (f : Nat) (c : UInt8) (t : Bytes) : skipL (f + 1) (c :: t) = if c = 92 then .ok (min 2 (t.length + 1))
    else if c = 39 then (orSyn (runL 39 false t)).map (· + 1)
    else if c = 96 then (orSyn (runL 96 true t)).map (· + 1)
    else if c = 34 then (untilN (skipL f) begQ (finM 34) t.length () t).map (· + 1)
    else if c = 36 then
      match t with
      | [] => .ok 1
      | d :: u => if d = 40 then (untilN (skipL f) (fun _ => true) finC u.length 0 u).map (· + 2)
        else if d = 123 then (untilN (skipL f) (fun _ => true) (finM 125) u.length () u).map (· + 2)
        else .ok 1
    else .ok 1 := by cases t <;> rfl
def skipA (f : Nat) (s : Bytes) (j : Nat) : Except Nat Nat := (skipL f (s.drop j)).map (· + j)
theorem skipA_le {f : Nat} {s : Bytes} {j k : Nat} (hj : j < s.length) (h : skipA f s j = .ok k) : j < k ∧ k ≤ s.length := by
  obtain ⟨i, h1, rfl⟩ := map_ok h;have := skipL_le _ _ _ (by intro e; have := List.drop_eq_nil_iff.1 e; omega) h1
  simp only [List.length_drop] at this; omega
def untilA {σ : Type} (f : Nat) (beg : UInt8 → Bool) (fin : σ → UInt8 → Bool × σ) (n : Nat) (st : σ) (s : Bytes) (j : Nat) : Except Nat Nat := (untilN (skipL f) beg fin n st (s.drop j)).map (· + j)
section
variable {σ : Type} {f : Nat} {beg : UInt8 → Bool} {fin : σ → UInt8 → Bool × σ} {n : Nat} {st : σ} {s : Bytes} {j : Nat}
theorem untilA_fin (hj : j < s.length) (h : (fin st (byte s j)).1 = true) : untilA f beg fin (n + 1) st s j = .ok (j + 1) := by
  rw [untilA, dropB hj, untilN, if_pos h]; show Except.ok (1 + j) = _; rw [Nat.add_comm]
theorem untilA_err (hj : j < s.length) (h : (fin st (byte s j)).1 = false) (hb : beg (byte s j) = true) {e : Nat} (hs : skipA f s j = .error e) : untilA f beg fin (n + 1) st s j = .error e := by
  have h1 : skipL f (s.drop j) = .error e := by
    rw [skipA] at hs; cases h2 : skipL f (s.drop j) with
    | error x => rw [h2] at hs; cases hs; rfl
    | ok x => rw [h2] at hs; cases hs
  rw [dropB hj] at h1
  rw [untilA, dropB hj, untilN, if_neg (by simp [h]), if_pos hb, h1]; rfl
theorem untilA_sk (hj : j < s.length) (h : (fin st (byte s j)).1 = false) (hb : beg (byte s j) = true) {k : Nat} (hs : skipA f s j = .ok k) : untilA f beg fin (n + 1) st s j = untilA f beg fin n (fin st (byte s j)).2 s k := by
  obtain ⟨i, h1, rfl⟩ := map_ok hs;rw [untilA, dropB hj] at *;rw [untilN, if_neg (by simp [h]), if_pos hb, h1]
  simp only []
  rw [← dropB hj, List.drop_drop, untilA, show i + j = j + i from Nat.add_comm _ _]
  cases untilN (skipL f) beg fin n (fin st (byte s j)).2 (s.drop (j + i)) with
  | error x => rfl
  | ok x => show Except.ok (x + i + j) = Except.ok (x + (j + i)); congr 1; omega
theorem untilA_on (hj : j < s.length) (h : (fin st (byte s j)).1 = false) (hb : beg (byte s j) = false) : untilA f beg fin (n + 1) st s j = untilA f beg fin n (fin st (byte s j)).2 s (j + 1) := by
  rw [untilA, dropB hj, untilN, if_neg (by simp [h]), if_neg (by simp [hb]), untilA]
  cases untilN (skipL f) beg fin n (fin st (byte s j)).2 (s.drop (j + 1)) with
  | error x => rfl
  | ok x => show Except.ok (x + 1 + j) = Except.ok (x + (j + 1)); congr 1; omega
theorem untilA_end (hj : s.length ≤ j) : untilA f beg fin n st s j = .error 101 := by
  rw [untilA, List.drop_eq_nil_of_le hj]; cases n <;> rfl
end
theorem map_syn (o : Option Nat) (a : Nat) : (orSyn o).map (· + a) = orSyn (o.map (· + a)) := by cases o <;> rfl
theorem map_map_e (x : Except Nat Nat) (a b : Nat) : (x.map (· + a)).map (· + b) = x.map (· + (b + a)) := by
  cases x with
  | error e => rfl
  | ok k => show Except.ok (k + a + b) = Except.ok (k + (b + a)); congr 1; omega
section
variable {f : Nat} {s : Bytes} {j : Nat}
theorem byte_drop0 (s : Bytes) (j : Nat) : byte (s.drop j) 0 = byte s j := by simp [byte, List.getD_eq_getElem?_getD]
theorem skipA_zero : skipA 0 s j = .error 104 := by rw [skipA, skipL]; rfl
theorem skipA_back (hj : j < s.length) (h : byte s j = 92) : skipA (f + 1) s j = .ok (min (j + 2) s.length) := by
  rw [skipA, dropB hj, skipL_cons, if_pos h]
  show Except.ok (min 2 ((s.drop (j + 1)).length + 1) + j) = _
  congr 1; simp only [List.length_drop]; omega
theorem skipA_quote (hj : j < s.length) (h : byte s j = 39) : skipA (f + 1) s j = orSyn (runA 39 false s (j + 1)) := by
  rw [skipA, dropB hj, skipL_cons, if_neg (by rw [h]; decide), if_pos h, map_map_e, map_syn, runA]
theorem skipA_tick (hj : j < s.length) (h : byte s j = 96) : skipA (f + 1) s j = orSyn (runA 96 true s (j + 1)) := by
  rw [skipA, dropB hj, skipL_cons, if_neg (by rw [h]; decide), if_neg (by rw [h]; decide), if_pos h, map_map_e, map_syn, runA]
theorem skipA_double (hj : j < s.length) (h : byte s j = 34) : skipA (f + 1) s j = untilA f begQ (finM 34) (s.length - (j + 1)) () s (j + 1) := by
  rw [skipA, dropB hj, skipL_cons, if_neg (by rw [h]; decide), if_neg (by rw [h]; decide), if_neg (by rw [h]; decide), if_pos h, map_map_e, untilA, List.length_drop]
theorem two_of {c d : UInt8} (h : Lib.hasPrefix (s.drop j) [c, d] = true) : j + 1 < s.length ∧ byte s j = c ∧ byte s (j + 1) = d := by
  have h1 := pre_len h;simp only [List.length_drop, List.length_cons, List.length_nil] at h1;rw [dropB (by omega : j < s.length), dropB (by omega : j + 1 < s.length)] at h
  simp [Lib.hasPrefix] at h
  exact ⟨by omega, h.1.symm, h.2.symm⟩
theorem two_no {c d : UInt8} (h : Lib.hasPrefix (s.drop j) [c, d] = false) (hj : j + 1 < s.length) : ¬ (byte s j = c ∧ byte s (j + 1) = d) := by
  rintro ⟨h1, h2⟩;rw [dropB (by omega : j < s.length), dropB hj, h1, h2] at h
  simp [Lib.hasPrefix] at h
theorem skipA_bracket (h : Lib.hasPrefix (s.drop j) [36, 40] = true) : skipA (f + 1) s j = untilA f (fun _ => true) finC (s.length - (j + 2)) 0 s (j + 2) := by
  obtain ⟨hj, h1, h2⟩ := two_of h;rw [skipA, dropB (by omega : j < s.length), skipL_cons, h1, if_neg (by decide), if_neg (by decide), if_neg (by decide), if_neg (by decide), if_pos rfl, dropB hj]
  simp only [h2, if_true]
  rw [map_map_e, untilA, List.length_drop]
theorem skipA_brace (h : Lib.hasPrefix (s.drop j) [36, 123] = true) : skipA (f + 1) s j = untilA f (fun _ => true) (finM 125) (s.length - (j + 2)) () s (j + 2) := by
  obtain ⟨hj, h1, h2⟩ := two_of h;rw [skipA, dropB (by omega : j < s.length), skipL_cons, h1, if_neg (by decide), if_neg (by decide), if_neg (by decide), if_neg (by decide), if_pos rfl, dropB hj]
  simp only [h2]
  rw [if_neg (by decide), if_pos trivial, map_map_e, untilA, List.length_drop]
theorem skipA_one (hj : j < s.length) (h1 : byte s j ≠ 92) (h2 : byte s j ≠ 39) (h3 : byte s j ≠ 96) (h4 : byte s j ≠ 34) (h5 : Lib.hasPrefix (s.drop j) [36, 40] = false) (h6 : Lib.hasPrefix (s.drop j) [36, 123] = false) : skipA (f + 1) s j = .ok (j + 1) := by
  rw [skipA, dropB hj, skipL_cons, if_neg h1, if_neg h2, if_neg h3, if_neg h4]
  by_cases h : byte s j = 36
  · rw [if_pos h]
    rcases Nat.lt_or_ge (j + 1) s.length with hl | hl
    · rw [dropB hl]
      simp only []
      rw [if_neg (fun e => two_no h5 hl ⟨h, e⟩), if_neg (fun e => two_no h6 hl ⟨h, e⟩)]
      show Except.ok (1 + j) = _; rw [Nat.add_comm]
    rw [List.drop_eq_nil_of_le hl]
    show Except.ok (1 + j) = _; rw [Nat.add_comm]
  rw [if_neg h]; show Except.ok (1 + j) = _; rw [Nat.add_comm]
end
theorem skipV_out {s : Bytes} {i : Int} (h : i < 0 ∨ (s.length : Int) ≤ i) : skipV s i = (i, 101) := by rw [skipV, if_pos h]
theorem skipV_ok {s : Bytes} {j k : Nat} (hj : j < s.length) (h : skipA 64 s j = .ok k) : skipV s j = ((k : Int), 0) := by
  unfold skipV; rw [if_neg (by omega), Int.toNat_natCast]
  obtain ⟨i, h1, rfl⟩ := map_ok h;rw [h1]; simp; omega
theorem skipV_err {s : Bytes} {j e : Nat} (hj : j < s.length) (h : skipA 64 s j = .error e) : skipV s j = ((j : Int), (e : Int)) := by
  unfold skipV; rw [if_neg (by omega), Int.toNat_natCast]
  have h1 : skipL 64 (s.drop j) = .error e := by
    rw [skipA] at h; cases h2 : skipL 64 (s.drop j) with
    | error x => rw [h2] at h; cases h; rfl
    | ok x => rw [h2] at h; cases h
  rw [h1]
end Go.Proofs.YtghjmiggobpmoaaGreatDoor.K
namespace Go.Proofs.YtghjmiggobpmoaaGreatDoor.K
open Go Go.RowKit
variable {P : Program} {r : Option Nat} {n : Nat} {O : Array Oper} {Q : Post} {E : Env} {ds : List Deferred} {w : World} {l : List Oper}
variable {dst : Option Nat} {ty : TypeId} {pos : String} {af : Array Edge} {g : Option (Nat × Bool)}
def foneB (P : Program) (t : TypeId) (f off : Nat) : Bool :=
  match P.underlying t with
  | some (.struct fs) => match fs[f]? with
    | some x => Nat.beq x.offset off && oneB P x.type
    | none => false
  | _ => false
theorem r_field {t : TypeId} {x : Operand} {f off : Nat} {vs : List Value} {v : Value} (ht : foneB P t f off = true) (hx : ev E x = .agg ⟨vs⟩) (hv : nthV vs off = some v) :
    (execOp (ev E) ⟨dst, .field t x f, ty, pos, af, g⟩).run P w = .ok (.value v) w := by
  unfold foneB at ht
  split at ht
  · rename_i fs hu
    split at ht
    · rename_i fl hfl
      simp only [Bool.and_eq_true] at ht
      obtain ⟨h1, h2⟩ := ht;have h1 := Nat.eq_of_beq_eq_true h1;subst h1;rw [nthV_eq] at hv;simp [execOp, hx, Instr.field, go_sem, underlying, hu, hfl, part, asAgg, Sem.run_bind, run_isAgg_one h2, hv, Result.andThen]
    cases ht
  cases ht
theorem st_field {t : TypeId} {x : Operand} {f off : Nat} {vs : List Value} {v : Value} (ht : foneB P t f off = true) (hx : ev E x = .agg ⟨vs⟩) (hv : nthV vs off = some v)
    (h : wops P r n O Q l (updo E dst v) ds w) : wop P r n O Q ⟨dst, .field t x f, ty, pos, af, g⟩ l E ds w := wop_run (fun _ => by simp) (r_field ht hx hv) h
end Go.Proofs.YtghjmiggobpmoaaGreatDoor.K
