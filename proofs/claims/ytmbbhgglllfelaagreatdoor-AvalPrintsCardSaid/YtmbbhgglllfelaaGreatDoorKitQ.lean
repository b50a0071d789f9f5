import Derived.Test.YtmbbhgglllfelaaGreatDoorKitK
import Derived.Test.YtmbbhgglllfelaaGreatDoorShelf
import Derived.Lib.IndexAny
import Derived.Lib.IndexLaws
import Derived.Lib.LaidTab
import Derived.Lib.Space
import Derived.Laws.Runes
import Derived.MapKept
set_option linter.unusedVariables false
set_option linter.unusedSimpArgs false
set_option autoImplicit false
namespace Go.Proofs.YtmbbhgglllfelaaGreatDoor.K
open Go Go.Proofs Go.RowKit
/-- The first place of a byte, or -1. -/
def idx (s : Bytes) (c : UInt8) : Int := Lib.indexByte s c
theorem IndexByte_spec (s : Bytes) (c : UInt8) (w : World) : CallR Tryz.prog 92 #[S s, .int .u8 (c.toNat : Int)] w fun v w' => v = .int .i64 (idx s c) ∧ Chg [] w w' :=
  CallR.of (Tryz.strings_IndexByte ⟨⟨s⟩⟩ (c.toNat : Int) w) fun e w' ⟨h1, h2⟩ => ⟨_, h1, by simp [idx], .refl' h2⟩
theorem wrap_u8 (x : Int) : IntKind.u8.wrap x = x % 256 := by simp [IntKind.wrap, IntKind.signed, IntKind.bits]
def digB (c : UInt8) : Bool := decide (48 ≤ c.toNat ∧ c.toNat ≤ 57)
def upB (c : UInt8) : Bool := decide (65 ≤ c.toNat ∧ c.toNat ≤ 90)
def loB (c : UInt8) : Bool := decide (97 ≤ c.toNat ∧ c.toNat ≤ 122)
def alphaB (c : UInt8) : Bool := upB c || loB c
def begB (c : UInt8) : Bool := alphaB c || decide (c.toNat = 95)
def wordB (c : UInt8) : Bool := begB c || digB c
def blankB (c : UInt8) : Bool := decide (c.toNat = 32) || decide (c.toNat = 9) || decide (c.toNat = 10)
def lowB (c : UInt8) : UInt8 := if 65 ≤ c.toNat ∧ c.toNat ≤ 90 then c + 32 else c
/-- How many first bytes are as told. -/
def runN (p : UInt8 → Bool) : Bytes → Nat
  | [] => 0
  | c :: s => if p c = true then runN p s + 1 else 0
theorem drop_byte {t : Bytes} {i : Nat} (h : i < t.length) : t.drop i = byte t i :: t.drop (i + 1) := by
  rw [List.drop_eq_getElem_cons h]; simp [byte, h]
theorem runN_on {p : UInt8 → Bool} {s : Bytes} {n : Nat} (h : n < s.length) (hp : p (byte s n) = true) : runN p (s.drop n) = runN p (s.drop (n + 1)) + 1 := by
  rw [drop_byte h, runN, if_pos hp]
theorem runN_off {p : UInt8 → Bool} {s : Bytes} {n : Nat} (h : n < s.length) (hp : p (byte s n) = false) : runN p (s.drop n) = 0 := by
  rw [drop_byte h, runN, if_neg (by simp [hp])]
theorem runN_end {p : UInt8 → Bool} {s : Bytes} {n : Nat} (h : ¬ n < s.length) : runN p (s.drop n) = 0 := by
  rw [List.drop_of_length_le (by omega)]; rfl
theorem runN_le (p : UInt8 → Bool) : ∀ s : Bytes, runN p s ≤ s.length
  | [] => Nat.le_refl _
  | c :: s => by
    have := runN_le p s
    simp only [runN, List.length_cons]; split <;> omega
theorem byte_at {t : Bytes} {i : Nat} {x : UInt8} (h : t[i]? = some x) : x = byte t i := by simp [byte, List.getD_eq_getElem?_getD, h]
theorem idx_le (s : Bytes) (c : UInt8) : idx s c < s.length ∨ idx s c = -1 := by
  by_cases h : 0 ≤ idx s c
  · have h1 := Lib.indexByte_some (l := s) (c := c) (o := (idx s c).toNat) (by show idx s c = _; omega)
    have := (List.getElem?_eq_some_iff.1 h1.1).1
    exact .inl (by omega)
  · have := Lib.indexByte_ge s c
    exact .inr (by unfold idx at *; omega)
theorem HasPrefix_spec (s p : Bytes) (w : World) : CallR Tryz.prog 84 #[S s, S p] w fun v w' => v = .bool (Lib.hasPrefix s p) ∧ Chg [] w w' :=
  CallR.of (Tryz.strings_HasPrefix ⟨⟨s⟩⟩ ⟨⟨p⟩⟩ w) fun e w' ⟨h1, h2⟩ => ⟨_, h1, rfl, .refl' h2⟩
/-- A number's digits, read: none: a byte is no digit, or it is too great. -/
def digV (c : UInt8) : Int := idx [48, 49, 50, 51, 52, 53, 54, 55, 56, 57, 97, 98, 99, 100, 101, 102] (lowB c)
def readN (base : Int) : Int → Bytes → Option Int
  | n, [] => some n
  | n, c :: s => if digV c < 0 ∨ base ≤ digV c ∨ (9223372036854775807 - digV c).tdiv base < n then none else readN base (n * base + digV c) s
theorem digV_lt (c : UInt8) : -1 ≤ digV c ∧ digV c < 16 := by
  have h1 := Lib.indexByte_ge [48, 49, 50, 51, 52, 53, 54, 55, 56, 57, 97, 98, 99, 100, 101, 102] (lowB c)
  have h2 := idx_le [48, 49, 50, 51, 52, 53, 54, 55, 56, 57, 97, 98, 99, 100, 101, 102] (lowB c)
  simp only [List.length_cons, List.length_nil] at h2
  unfold digV
  unfold idx at *
  omega
theorem pre_len {s p : Bytes} (h : Lib.hasPrefix s p = true) : p.length ≤ s.length := by
  rw [← Lib.hasPrefix_of_take, Bool.and_eq_true, decide_eq_true_eq] at h; exact h.1
def constB (s : Bytes) : Int × Bytes :=
  if (Lib.hasPrefix s [48, 120] || Lib.hasPrefix s [48, 88]) = true then (16, s.drop 2)
  else if (Lib.hasPrefix s [48] && decide (1 < s.length)) = true then (8, s.drop 1) else (10, s)
def constV (s : Bytes) : Int × Bool := match readN (constB s).1 0 (constB s).2 with
  | none => (0, false)
  | some n => (n, !decide ((constB s).2 = []))
theorem constV_none {s t : Bytes} {b : Int} (h : constB s = (b, t)) (hr : readN b 0 t = none) : constV s = (0, false) := by simp [constV, h, hr]
theorem constV_some {s t : Bytes} {b n : Int} (h : constB s = (b, t)) (hr : readN b 0 t = some n) : constV s = (n, !decide (t = [])) := by simp [constV, h, hr]
theorem readN_at {b n : Int} {t : Bytes} {i : Nat} (h : i < t.length) (h1 : ¬ (digV (byte t i) < 0 ∨ b ≤ digV (byte t i) ∨ (9223372036854775807 - digV (byte t i)).tdiv b < n)) : readN b n (t.drop i) = readN b (n * b + digV (byte t i)) (t.drop (i + 1)) := by
  rw [drop_byte h, readN, if_neg h1]
theorem readN_no {b n : Int} {t : Bytes} {i : Nat} (h : i < t.length) (h1 : digV (byte t i) < 0 ∨ b ≤ digV (byte t i) ∨ (9223372036854775807 - digV (byte t i)).tdiv b < n) : readN b n (t.drop i) = none := by
  rw [drop_byte h, readN, if_pos h1]
theorem readN_end {b n : Int} {t : Bytes} {i : Nat} (h : ¬ i < t.length) : readN b n (t.drop i) = some n := by
  rw [List.drop_of_length_le (by omega)]; rfl
theorem all128 (s : Bytes) (h : (s.all fun b => Nat.blt b.toNat 128) = true) : ∀ (j : Nat) (b : UInt8), s[j]? = some b → b.toNat < 128 := fun j b hj => by
  have := List.all_eq_true.1 h b (List.mem_of_getElem? hj)
  simpa [Nat.blt_eq] using this
/-- The first place at which q holds, counted from i; or -1. -/
def findN (q : Bytes → Bool) : Nat → List Bytes → Int
  | _, [] => -1
  | i, x :: l => if q x = true then (i : Int) else findN q (i + 1) l
theorem drop_at {l : List Bytes} {i : Nat} {x : Bytes} (h : l[i]? = some x) : l.drop i = x :: l.drop (i + 1) := by
  obtain ⟨hi, he⟩ := List.getElem?_eq_some_iff.1 h
  rw [List.drop_eq_getElem_cons hi, he]
theorem findN_on {q : Bytes → Bool} {l : List Bytes} {i : Nat} {x : Bytes} (h : l[i]? = some x) (hq : q x = false) : findN q i (l.drop i) = findN q (i + 1) (l.drop (i + 1)) := by
  rw [drop_at h, findN, if_neg (by simp [hq])]
theorem findN_off {q : Bytes → Bool} {l : List Bytes} {i : Nat} {x : Bytes} (h : l[i]? = some x) (hq : q x = true) : findN q i (l.drop i) = i := by
  rw [drop_at h, findN, if_pos hq]
theorem findN_end {q : Bytes → Bool} {l : List Bytes} {i : Nat} (h : ¬ i < l.length) : findN q i (l.drop i) = -1 := by
  rw [List.drop_of_length_le (by omega)]; rfl
/-- The library's table of blanks. -/
def Tab (w : World) : Prop := Lib.TabIs Tryz.prog w "strings.asciiSpace" .u8 Lib.asciiSpaceTab
theorem gTab : Tryz.prog.globalNamed "strings.asciiSpace" = some 0 := by kernel_rfl
theorem Tab.lt {w : World} (h : Tab w) : 0 < w.heap.size := by
  have := Lib.TabIs.cell h gTab 0 (by simp [Lib.asciiSpaceTab])
  unfold World.cell? at this
  split at this
  · rename_i hh; exact (Array.getElem?_eq_some_iff.1 hh).1
  · cases this
theorem Tab.tr {w w' : World} {bs : List Nat} (h : Tab w) (hc : Chg bs w w') (hb : 0 ∉ bs) : Tab w' := by
  have he := hc.block 0 h.lt hb
  unfold Tab Lib.TabIs World.var? at *
  simp only [gTab, Option.bind_some] at *
  rw [he]; exact h
theorem Tab.tr0 {w w' : World} (h : Tab w) (hc : Chg [] w w') : Tab w' := h.tr hc (by simp)
theorem sl_of_map {w : World} {b : Nat} {xs : List Bytes} {T : TypeId} (h : Blk w b (xs.map S) T) : Sl sE w (fun k => k = b) (some ⟨b, 0, none⟩) xs :=
  .inr ⟨b, 0, rfl, h.lt, rfl, fun i x hx => ⟨_, rfl, fun j v hj => by
    cases j with
    | succ j => simp at hj
    | zero =>
      simp at hj; subst hj
      refine h.cell ?_
      rw [nthV_eq]
      simp [sE, Enc.flat, hx]⟩⟩
theorem Fields_spec (s : Bytes) (w : World) (hs : s.length < 4294967281) (ha : ∀ (j : Nat) (b : UInt8), s[j]? = some b → b.toNat < 128) (ht : Tab w) :
    CallR Tryz.prog 63 #[S s] w fun v w' => ∃ b, v = .slice (some ⟨b, 0, none⟩) (Lib.fields s).length (Lib.fields s).length ∧ w.heap.size ≤ b ∧ Sl sE w' (fun k => k = b) (some ⟨b, 0, none⟩) (Lib.fields s) ∧ Chg [] w w' :=
  CallR.of (Tryz.strings_Fields ⟨⟨s⟩⟩ w hs ha ht) fun e w' ⟨h1, h2⟩ => ⟨_, h1, w.heap.size, rfl, Nat.le_refl _, by
    subst h2
    exact sl_of_map (T := 9) (Blk.new w _ _), by subst h2; exact Chg.alloc w _⟩
end Go.Proofs.YtmbbhgglllfelaaGreatDoor.K
set_option linter.unusedVariables false
set_option linter.unusedSimpArgs false
set_option autoImplicit false
namespace Go.Proofs.YtmbbhgglllfelaaGreatDoor.K
open Go Go.RowKit
variable {P : Program} {r : Option Nat} {n : Nat} {O : Array Oper} {Q : Post} {E : Env} {ds : List Deferred} {w : World} {l : List Oper}
/-- What a round keeps: K's blocks, and what the iterator has made since the last round. -/
def NK (K : Nat → Prop) (A0 : World) (k : Nat) : Prop := K k ∨ A0.heap.size ≤ k
def Iter2 (P : Program) (gf : FuncId) (caps : List Value) (bs : List Nat) (K : Nat → Prop) {α : Type} (encs : α → List Value) (xs : List α) (w : World) : Prop :=
  ∀ (lp : Nat) (J Jx : List α → World → Prop) (W : World), w.heap.size ≤ W.heap.size → (∀ k, k < w.heap.size → K k → W.heap[k]? = w.heap[k]?) →
    (∀ pre A B, J pre A → Chg bs A B → J pre B) → (∀ pre A B, Jx pre A → Chg bs A B → Jx pre B) →
    (∀ pre x rest A0 A, xs = pre ++ x :: rest → J pre A0 → Chg bs A0 A → RoundR P lp (encs x) A fun b B => Kept (NK K A0) A B ∧ ((b = true ∧ J (pre ++ [x]) B) ∨ (b = false ∧ Jx (pre ++ [x]) B))) →
    J [] W → CallR P gf ⟨.func (.yield lp) #[] #[] :: caps⟩ W fun _ W' => J xs W' ∨ ∃ pre, Jx pre W'
theorem range_core2 {α : Type} {f : Operand} {ps : List Nat} {assign body : Code} {gf : FuncId} {caps : Array Value} {bs : List Nat} {K : Nat → Prop} {encs : α → List Value} {xs : List α}
    (hf : ev E f = .func (.func gf) #[] caps) (hent : ∀ args (w : World), (callFunc gf args).run P w = .ok (.enter gf args) w) (hps : (ps.all fun p => Nat.blt p n) = true) (henc : ∀ x, (encs x).length = ps.length)
    (lp dd : Nat) (mark : List Deferred) (w1 : World) (hD : World → Prop) (fn : FuncId) (a : Act) (ha1 : a.tmps.size = n) (ha2 : env a = E) (ha3 : a.defers = ds)
    (he : (Instr.enterLoop fn a.tmps ps.toArray assign body r).run P w = .ok (lp, mark) w1) (hL1 : w1.heap[lp]? = some (.loop { state := .ready, pending := none, fn, tmps := a.tmps, params := ps.toArray, assign, body, defers := dd }))
    (hD1 : hD w1) (hDl : ∀ A B, hD A → Chg (lp :: bs) A B → hD B) (hDK : ∀ (A B : World) (K' : Nat → Prop), hD A → Kept (fun k => k = lp ∨ (mark ≠ [] ∧ k = dd) ∨ K' k) A B → hD B)
    (hlb : lp ∉ bs)
    (I : List α → World → Prop) (Ix : Code → List α → World → Prop) (hit : Iter2 P gf caps.toList bs K encs xs w1) (h0 : I [] w1)
    (hI : ∀ pre A B, I pre A → Chg (lp :: bs) A B → I pre B) (hIx : ∀ c pre A B, Ix c pre A → Chg (lp :: bs) A B → Ix c pre B)
    (hbody : ∀ pre x rest A0 A, xs = pre ++ x :: rest → I pre A0 → Chg bs A0 A → lp < A0.heap.size → I pre A → (∃ rec, A.heap[lp]? = some (.loop rec)) →
      wp P (some lp) n assign (thenP (fun E1 _ A1 => Kept (fun k => k = lp ∨ (mark ≠ [] ∧ k = dd) ∨ NK K A0 k) A A1 ∧ ∀ ds1 A2, Chg [lp] A1 A2 → (∃ rec, A2.heap[lp]? = some (.loop rec)) →
        wp P (some lp) n body (roundP (fun k => k = lp ∨ (mark ≠ [] ∧ k = dd) ∨ NK K A0 k) A2 (I (pre ++ [x])) (fun c B => Ix c (pre ++ [x]) B)) E1 ds1 A2) (fun _ _ _ _ => False)) (upds E (zipV ps (encs x))) [] A)
    (hKl : ¬ K lp)
    (hdone : ∀ W, I xs W → hD W → Q .normal E (mark ++ ds) W) (hstop : ∀ c pre W, Ix c pre W → hD W → wp P r n c Q E (mark ++ ds) W) :
    ∃ (l : Nat) (mark : List Deferred) (w₁ : World) (d : Deferred) (w₁' : World) (f' : FuncId) (args : Array Value) (w₂ : World),
      (Instr.enterLoop fn a.tmps ps.toArray assign body (WF r).round).run P w = .ok (l, mark) w₁ ∧
      (resolve a.eval (rangeCall f l) 0).run P w₁ = .ok d w₁' ∧
      (∀ f', Target.leads P w₁' d.target d.args = some f' → (WF r).fn f') ∧
      (invoke d.target d.args).run P w₁' = .ok (.enter f' args) w₂ ∧
      ((WF r).depth.isSome = true → 1 ≤ 0) ∧
      CallsIn (WF r) (0 - 1) P f' args w₂ (rangePost (WF r) 0 P l (toQ n Q) { a with defers := mark ++ a.defers }) := by
  let rec0 : LoopState → Option Code → Loop := fun st pe => { state := st, pending := pe, fn, tmps := a.tmps, params := ps.toArray, assign, body, defers := dd }
  have hL1 : w1.heap[lp]? = some (.loop (rec0 .ready none)) := hL1
  refine ⟨lp, mark, w1, { target := .fn (.func gf) caps, args := #[.func (.yield lp) #[] #[]] }, w1, gf, #[.func (.yield lp) #[] #[]] ++ caps, w1, by cases r <;> exact he, ?_, fun _ _ => trivial, ?_, fun hh => by simp [WF, Fence.wide] at hh, ?_⟩
  · rw [ev_env, ha2]
    simp only [resolve, hf]
    simp [Deferred.ofValue, go_sem, ev]
  · simp [invoke, go_sem, hent]
  · have hcall := hit lp (fun pre W => I pre W ∧ W.heap[lp]? = some (.loop (rec0 .ready none)) ∧ hD W) (fun pre W => ∃ c, Ix c pre W ∧ W.heap[lp]? = some (.loop (rec0 .done (some c))) ∧ hD W) w1 (Nat.le_refl _) (fun _ _ _ => rfl)
      (fun pre A B ⟨q1, q2, q3⟩ hc => ⟨hI pre A B q1 (hc.mono fun x hx => by simp [hx]), (hc.block lp (Array.getElem?_eq_some_iff.1 q2).1 hlb).trans q2, hDl A B q3 (hc.mono fun x hx => by simp [hx])⟩)
      (fun pre A B ⟨c, q1, q2, q3⟩ hc => ⟨c, hIx c pre A B q1 (hc.mono fun x hx => by simp [hx]), (hc.block lp (Array.getElem?_eq_some_iff.1 q2).1 hlb).trans q2, hDl A B q3 (hc.mono fun x hx => by simp [hx])⟩)
      (fun pre x rest A0 A hx ⟨p1, p2, p3⟩ hc0 => by
        have hlt0 : lp < A0.heap.size := (Array.getElem?_eq_some_iff.1 p2).1
        have q1 : I pre A := hI pre A0 A p1 (hc0.mono fun x hx => by simp [hx])
        have q2 := (hc0.block lp hlt0 hlb).trans p2
        have q3 : hD A := hDl _ _ p3 (hc0.mono fun x hx => by simp [hx])
        have hKl : ¬ NK K A0 lp := fun h => h.elim hKl (fun h => by omega)
        have hlt : lp < A.heap.size := (Array.getElem?_eq_some_iff.1 q2).1
        have hy := run_yield (P := P) (args := ⟨encs x⟩) q2 (by simp [rec0, henc])
        have htm : ((rec0 .ready none).params.zip ⟨encs x⟩).foldl (fun tmps (t, a) => tmps.setIfInBounds t a) (rec0 .ready none).tmps = (ps.zip (encs x)).foldl (fun t (p : Nat × Value) => t.setIfInBounds p.1 p.2) a.tmps := by
          simp only [rec0]; rw [← Array.foldl_toList]; simp [Array.toList_zip]
        refine ⟨_, _, _, _, hy, roundIn_of_wpIn trivial ?_⟩
        have hE : env { tmps := (ps.zip (encs x)).foldl (fun t (p : Nat × Value) => t.setIfInBounds p.1 p.2) a.tmps, defers := [] } = upds E (zipV ps (encs x)) := by
          rw [env_zip ps (encs x) a (by rw [ha1]; exact hps), ha2]
        have hw := hbody pre x rest A0 A hx p1 hc0 hlt0 q1 ⟨_, q2⟩ { tmps := (ps.zip (encs x)).foldl (fun t (p : Nat × Value) => t.setIfInBounds p.1 p.2) a.tmps, defers := [] } (by rw [zip_size]; exact ha1) hE rfl
        have hw' : assign.wpIn (Fence.wide.inRound lp) 0 P (toQ n (thenP (fun E1 _ A1 => Kept (fun k => k = lp ∨ (mark ≠ [] ∧ k = dd) ∨ NK K A0 k) A A1 ∧ ∀ ds1 A2, Chg [lp] A1 A2 → (∃ rec, A2.heap[lp]? = some (.loop rec)) →
            wp P (some lp) n body (roundP (fun k => k = lp ∨ (mark ≠ [] ∧ k = dd) ∨ NK K A0 k) A2 (I (pre ++ [x])) (fun c B => Ix c (pre ++ [x]) B)) E1 ds1 A2) (fun _ _ _ _ => False)))
            { tmps := (ps.zip (encs x)).foldl (fun t (p : Nat × Value) => t.setIfInBounds p.1 p.2) a.tmps, defers := [] } A := hw
        rw [htm]
        refine wpIn_mono hw' ?_
        rintro e a1 A1 ⟨s1, s2⟩
        cases e with
        | normal =>
          obtain ⟨hk, hb⟩ := s2
          have hl1 : A1.heap[lp]? = some (.loop (rec0 .ready none)) := (hk.2 lp (.inl rfl) hlt).trans q2
          have hlt1 : lp < A1.heap.size := (Array.getElem?_eq_some_iff.1 hl1).1
          refine ⟨_, run_beginRound hl1 rfl, ?_⟩
          have hl2 : (A1.putObj lp (.loop { rec0 .ready none with state := .busy })).heap[lp]? = some (.loop { rec0 .ready none with state := .busy }) := World.putObj_heap_same hlt1
          have hD2 : hD (A1.putObj lp (.loop { rec0 .ready none with state := .busy })) := hDl _ _ (hDK A A1 (NK K A0) q3 hk) ((Chg.putObj A1 lp _).mono fun x hx => by simp at hx; simp [hx])
          have hb2 := hb a1.defers _ (Chg.putObj A1 lp (.loop { rec0 .ready none with state := .busy })) ⟨_, hl2⟩ a1 s1 rfl rfl
          have hb3 : body.wpIn (Fence.wide.inRound lp) 0 P (toQ n (roundP (fun k => k = lp ∨ (mark ≠ [] ∧ k = dd) ∨ NK K A0 k) (A1.putObj lp (.loop { rec0 .ready none with state := .busy })) (I (pre ++ [x])) (fun c B => Ix c (pre ++ [x]) B))) a1 (A1.putObj lp (.loop { rec0 .ready none with state := .busy })) := hb2
          refine wpIn_mono hb3 ?_
          have fin : ∀ (jump : Option Code) (B : World), Kept (fun k => k = lp ∨ (mark ≠ [] ∧ k = dd) ∨ NK K A0 k) (A1.putObj lp (.loop { rec0 .ready none with state := .busy })) B →
              (Instr.endRound lp jump).run P B = .ok (.bool jump.isNone) (B.putObj lp (.loop (rec0 (if jump.isNone then .ready else .done) jump))) ∧
              (B.putObj lp (.loop (rec0 (if jump.isNone then .ready else .done) jump))).heap[lp]? = some (.loop (rec0 (if jump.isNone then .ready else .done) jump)) ∧
              hD (B.putObj lp (.loop (rec0 (if jump.isNone then .ready else .done) jump))) ∧ Chg [lp] B (B.putObj lp (.loop (rec0 (if jump.isNone then .ready else .done) jump))) ∧
              Kept (NK K A0) A (B.putObj lp (.loop (rec0 (if jump.isNone then .ready else .done) jump))) := fun jump B hk2 => by
            have hs2 : lp < (A1.putObj lp (.loop { rec0 .ready none with state := .busy })).heap.size := by simpa using hlt1
            have hl3 := (hk2.2 lp (.inl rfl) hs2).trans hl2
            have hr := run_endRound (P := P) jump hl3
            have hc : Chg [lp] B (B.putObj lp (.loop (rec0 (if jump.isNone then .ready else .done) jump))) := Chg.putObj _ _ _
            refine ⟨hr, World.putObj_heap_same (Array.getElem?_eq_some_iff.1 hl3).1, hDl _ _ (hDK _ B (NK K A0) hD2 hk2) (hc.mono fun x hx => by simp at hx; simp [hx]), hc, ?_, fun k hk3 hk4 => ?_⟩
            · have h1 := hk.1; have h2 := hk2.1; simp at h2 ⊢; omega
            · have hne : k ≠ lp := fun e => hKl (by rw [← e]; exact hk3)
              rw [World.putObj_heap_other hne, hk2.2 k (.inr (.inr hk3)) (by have := hk.1; simp; omega), World.putObj_heap_other hne, hk.2 k (.inr (.inr hk3)) hk4]
          have mono1 : ∀ {A B : World}, Chg [lp] A B → Chg (lp :: bs) A B := fun h => h.mono fun x hx => by simp at hx; simp [hx]
          rintro e a3 B ⟨t1, t2⟩
          cases e with
          | normal =>
            obtain ⟨hr, hl4, hD4, hc4, hk4⟩ := fin none B t2.1
            exact ⟨_, _, hr, true, rfl, hk4, .inl ⟨rfl, hI _ _ _ t2.2 (mono1 hc4), hl4, hD4⟩⟩
          | ret =>
            obtain ⟨hr, hl4, hD4, hc4, hk4⟩ := fin (some .ret) B t2.1
            exact ⟨_, _, hr, false, rfl, hk4, .inr ⟨rfl, .ret, hIx _ _ _ _ t2.2 (mono1 hc4), hl4, hD4⟩⟩
          | exit i =>
            obtain ⟨hr, hl4, hD4, hc4, hk4⟩ := fin (some (.exit i)) B t2.1
            exact ⟨_, _, hr, false, rfl, hk4, .inr ⟨rfl, .exit i, hIx _ _ _ _ t2.2 (mono1 hc4), hl4, hD4⟩⟩
          | goto t =>
            obtain ⟨hr, hl4, hD4, hc4, hk4⟩ := fin (some (.goto t)) B t2.1
            exact ⟨_, _, hr, false, rfl, hk4, .inr ⟨rfl, .goto t, hIx _ _ _ _ t2.2 (mono1 hc4), hl4, hD4⟩⟩
          | panic c => exact t2.elim
          | outgrown => exact t2.elim
        | exit i => exact s2.elim
        | goto t => exact s2.elim
        | ret => exact s2.elim
        | panic c => exact s2.elim
        | outgrown => exact s2.elim)
      ⟨h0, hL1, hD1⟩
    have hargs : (#[.func (.yield lp) #[] #[]] ++ caps : Array Value) = ⟨.func (.yield lp) #[] #[] :: caps.toList⟩ := by
      apply Array.ext'; simp
    rw [hargs]
    refine CallsIn.mono (callsIn_of_calls hcall) ?_
    have mono1 : ∀ {A B : World}, Chg [lp] A B → Chg (lp :: bs) A B := fun h => h.mono fun x hx => by simp at hx; simp [hx]
    rintro e W2 ⟨v, rfl, (⟨q1, q2, q3⟩ | ⟨pre, c, q1, q2, q3⟩)⟩
    · refine ⟨none, _, run_endLoop q2 (by simp [rec0]), ?_⟩
      have hc := Chg.putObj W2 lp (.loop { rec0 .ready none with state := .exhausted })
      refine ⟨ha1, ?_⟩
      have := hdone _ (hI _ _ _ q1 (mono1 hc)) (hDl _ _ q3 (mono1 hc))
      rw [← ha2, ← ha3] at this
      exact this
    · refine ⟨some c, _, run_endLoop q2 (by simp [rec0]), ?_⟩
      have hc := Chg.putObj W2 lp (.loop { rec0 .done (some c) with state := .exhausted })
      exact hstop c pre _ (hIx _ _ _ _ q1 (mono1 hc)) (hDl _ _ q3 (mono1 hc)) _ ha1 ha2 (by rw [ha3])
theorem x_range2 {α : Type} {f : Operand} {ps : List Nat} {assign body : Code} {gf : FuncId} {caps : Array Value} {bs : List Nat} {K : Nat → Prop} {encs : α → List Value} {xs : List α}
    (hf : ev E f = .func (.func gf) #[] caps) (hent : ∀ args (w : World), (callFunc gf args).run P w = .ok (.enter gf args) w) (hps : (ps.all fun p => Nat.blt p n) = true) (henc : ∀ x, (encs x).length = ps.length) (hbs : ∀ b, b ∈ bs → b < w.heap.size) (hK : ∀ k, K k → k < w.heap.size)
    (hit : Iter2 P gf caps.toList bs K encs xs w)
    (h : ∀ (D lp : Nat) (w1 : World), w.heap.size ≤ D → w.heap.size ≤ lp → D ≠ lp → D < w1.heap.size → lp < w1.heap.size → Chg [] w w1 → ∃ (I : List α → World → Prop) (Ix : Code → List α → World → Prop), I [] w1 ∧
      (∀ pre A B, I pre A → Chg (lp :: bs) A B → I pre B) ∧ (∀ c pre A B, Ix c pre A → Chg (lp :: bs) A B → Ix c pre B) ∧
      (∀ pre x rest A0 A, xs = pre ++ x :: rest → I pre A0 → Chg bs A0 A → lp < A0.heap.size → I pre A → (∃ rec, A.heap[lp]? = some (.loop rec)) →
        wp P (some lp) n assign (thenP (fun E1 _ A1 => Kept (fun k => k = lp ∨ k = D ∨ NK K A0 k) A A1 ∧ ∀ ds1 A2, Chg [lp] A1 A2 → (∃ rec, A2.heap[lp]? = some (.loop rec)) →
          wp P (some lp) n body (roundP (fun k => k = lp ∨ k = D ∨ NK K A0 k) A2 (I (pre ++ [x])) (fun c B => Ix c (pre ++ [x]) B)) E1 ds1 A2) (fun _ _ _ _ => False)) (upds E (zipV ps (encs x))) [] A) ∧
      (∀ W, I xs W → DefD D W → Q .normal E (mk D :: ds) W) ∧ (∀ c pre W, Ix c pre W → DefD D W → wp P none n c Q E (mk D :: ds) W)) :
    wp P none n (.rangeFunc f ps.toArray assign body) Q E ds w := by
  intro a ha1 ha2 ha3
  refine wpIn_rangeFunc ?_
  intro fn hfn
  obtain ⟨W1, hW1⟩ : ∃ W1, (w.alloc (.deferred (some []))).alloc (.loop { state := .ready, pending := none, fn, tmps := a.tmps, params := ps.toArray, assign, body, defers := w.heap.size }) = W1 := ⟨_, rfl⟩
  have hc1 : Chg [] w W1 := by rw [← hW1]; exact (Chg.alloc w _).then (Chg.alloc _ _)
  have hL1 : W1.heap[w.heap.size + 1]? = some (.loop { state := .ready, pending := none, fn, tmps := a.tmps, params := ps.toArray, assign, body, defers := w.heap.size }) := by
    rw [← hW1]; have := World.alloc_heap_new (w.alloc (.deferred (some []))) (.loop { state := .ready, pending := none, fn, tmps := a.tmps, params := ps.toArray, assign, body, defers := w.heap.size }); rwa [World.size_alloc] at this
  have hD1 : DefD w.heap.size W1 := by
    rw [← hW1]; exact (Below.heap_alloc _ _ _ (by simp)).trans (World.alloc_heap_new w _)
  obtain ⟨I, Ix, h0, hI, hIx, hb, hd, hs⟩ := h w.heap.size (w.heap.size + 1) W1 (Nat.le_refl _) (Nat.le_succ _) (by omega) (Array.getElem?_eq_some_iff.1 hD1).1 (Array.getElem?_eq_some_iff.1 hL1).1 hc1
  have hDn : w.heap.size ∉ (w.heap.size + 1) :: bs := fun hx => by
    rcases List.mem_cons.1 hx with h | h
    · omega
    · have := hbs _ h; omega
  refine range_core2 (r := none) hf hent hps henc (w.heap.size + 1) w.heap.size [mk w.heap.size] W1 (DefD w.heap.size) fn a ha1 ha2 ha3 ?_ hL1 hD1
    (fun A B hA hc => (hc.block _ (Array.getElem?_eq_some_iff.1 hA).1 hDn).trans hA) (fun A B K' hA hk => (hk.2 _ (.inr (.inl ⟨by simp, rfl⟩)) (Array.getElem?_eq_some_iff.1 hA).1).trans hA)
    (fun hx => by have := hbs _ hx; omega) I Ix ?_ h0 hI hIx ?_ (fun hx => by have := hK _ hx; omega) hd hs
  · rw [← hW1]; exact run_enterLoop_outer _ _ _ _ _
  · intro lp J Jx W hs' hk' h1 h2 h3 h4
    exact hit lp J Jx W (Nat.le_trans hc1.size hs') (fun k hk hK' => (hk' k (Nat.lt_of_lt_of_le hk hc1.size) hK').trans (hc1.block k hk (by simp))) h1 h2 h3 h4
  · intro pre x rest A0 A hx hi0 hc0 hl0 hi hr
    refine x_mono (hb pre x rest A0 A hx hi0 hc0 hl0 hi hr) ?_
    have hkk : ∀ {A B : World}, Kept (fun k => k = w.heap.size + 1 ∨ k = w.heap.size ∨ NK K A0 k) A B → Kept (fun k => k = w.heap.size + 1 ∨ ([mk w.heap.size] ≠ [] ∧ k = w.heap.size) ∨ NK K A0 k) A B := fun h => ⟨h.1, fun k hk hl => h.2 k (hk.elim .inl (fun h => h.elim (fun h => .inr (.inl h.2)) (fun h => .inr (.inr h)))) hl⟩
    intro e E1 ds1 A1 hq
    cases e with
    | normal =>
      obtain ⟨k1, k2⟩ := hq
      refine ⟨hkk k1, fun ds2 A2 hc hr2 => x_mono (k2 ds2 A2 hc hr2) ?_⟩
      intro e E3 ds3 A3 hq3
      cases e with
      | normal => exact ⟨hkk hq3.1, hq3.2⟩
      | ret => exact ⟨hkk hq3.1, hq3.2⟩
      | exit i => exact ⟨hkk hq3.1, hq3.2⟩
      | goto i => exact ⟨hkk hq3.1, hq3.2⟩
      | panic c => exact hq3
      | outgrown => exact hq3
    | _ => exact hq
end Go.Proofs.YtmbbhgglllfelaaGreatDoor.K
set_option linter.unusedVariables false
set_option linter.unusedSimpArgs false
set_option autoImplicit false
namespace Go.Proofs.YtmbbhgglllfelaaGreatDoor.K
open Go Go.RowKit
variable {P : Program} {r : Option Nat} {n : Nat} {O : Array Oper} {Q : Post} {E : Env} {ds : List Deferred} {w : World} {l : List Oper}
variable {dst : Option Nat} {ty : TypeId} {pos : String} {af : Array Edge} {g : Option (Nat × Bool)}
theorem wrapu64_id {x : Int} (h1 : 0 ≤ x) (h2 : x ≤ 18446744073709551615) : IntKind.u64.wrap x = x := by
  simp [IntKind.wrap, IntKind.signed, IntKind.bits]; omega
theorem wrapu8_id {x : Int} (h1 : 0 ≤ x) (h2 : x ≤ 255) : IntKind.u8.wrap x = x := by
  simp [IntKind.wrap, IntKind.signed, IntKind.bits]; omega
theorem quou64 {a b : Int} (h1 : 0 ≤ a) (h2 : 0 < b) (h3 : a ≤ 18446744073709551615) : IntKind.u64.wrap (a.tdiv b) = a / b := by
  rw [Int.tdiv_eq_ediv_of_nonneg h1]
  have h4 : 0 ≤ a / b := Int.ediv_nonneg h1 (by omega)
  have h5 : a / b ≤ a := Int.ediv_le_self b h1
  exact wrapu64_id h4 (by omega)
theorem r_addk {t t' : TypeId} {x y : Operand} {a b c : Int} {k : IntKind} (hx : ev E x = .int k a) (hy : ev E y = .int k b) (hc : k.wrap (a + b) = c) :
    (execOp (ev E) ⟨dst, .binOp .add t x y t', ty, pos, af, g⟩).run P w = .ok (.value (.int k c)) w := by rw [← hc]; exact r_add hx hy
theorem st_addk {t t' : TypeId} {x y : Operand} {a b c : Int} {k : IntKind} (hx : ev E x = .int k a) (hy : ev E y = .int k b) (hc : k.wrap (a + b) = c) (h : wops P r n O Q l (updo E dst (.int k c)) ds w) : wop P r n O Q ⟨dst, .binOp .add t x y t', ty, pos, af, g⟩ l E ds w := st_add hx hy (by rw [hc]; exact h)
theorem r_subk {t t' : TypeId} {x y : Operand} {a b c : Int} {k : IntKind} (hx : ev E x = .int k a) (hy : ev E y = .int k b) (hc : k.wrap (a - b) = c) :
    (execOp (ev E) ⟨dst, .binOp .sub t x y t', ty, pos, af, g⟩).run P w = .ok (.value (.int k c)) w := by rw [← hc]; exact r_sub hx hy
theorem st_subk {t t' : TypeId} {x y : Operand} {a b c : Int} {k : IntKind} (hx : ev E x = .int k a) (hy : ev E y = .int k b) (hc : k.wrap (a - b) = c) (h : wops P r n O Q l (updo E dst (.int k c)) ds w) : wop P r n O Q ⟨dst, .binOp .sub t x y t', ty, pos, af, g⟩ l E ds w := st_sub hx hy (by rw [hc]; exact h)
theorem st_mulk {t t' : TypeId} {x y : Operand} {a b c : Int} {k : IntKind} (hx : ev E x = .int k a) (hy : ev E y = .int k b) (hc : k.wrap (a * b) = c) (h : wops P r n O Q l (updo E dst (.int k c)) ds w) : wop P r n O Q ⟨dst, .binOp .mul t x y t', ty, pos, af, g⟩ l E ds w := st_mul hx hy (by rw [hc]; exact h)
theorem st_quok {t t' : TypeId} {x y : Operand} {a b c : Int} {k : IntKind} (hx : ev E x = .int k a) (hy : ev E y = .int k b) (hb : b ≠ 0) (hc : k.wrap (a.tdiv b) = c) (h : wops P r n O Q l (updo E dst (.int k c)) ds w) : wop P r n O Q ⟨dst, .binOp .quo t x y t', ty, pos, af, g⟩ l E ds w := st_quo hx hy hb (by rw [hc]; exact h)
theorem st_remk {t t' : TypeId} {x y : Operand} {a b c : Int} {k : IntKind} (hx : ev E x = .int k a) (hy : ev E y = .int k b) (hb : b ≠ 0) (hc : a.tmod b = c) (h : wops P r n O Q l (updo E dst (.int k c)) ds w) : wop P r n O Q ⟨dst, .binOp .rem t x y t', ty, pos, af, g⟩ l E ds w := st_rem hx hy hb (by rw [hc]; exact h)
theorem st_convk {src t : TypeId} {x : Operand} {a c : Int} {k k' : IntKind} {u : TypeDesc} (hs : P.underlying src = some u) (ht : P.underlying t = some (.int k')) (hx : ev E x = .int k a) (hc : k'.wrap a = c) (h : wops P r n O Q l (updo E dst (.int k' c)) ds w) : wop P r n O Q ⟨dst, .convert src t x, ty, pos, af, g⟩ l E ds w := st_convInt hs ht hx (by rw [hc]; exact h)
theorem r_sslo {t : TypeId} {x y : Operand} {a : Bytes} {i : Nat} (ht : P.underlying t = some .string) (hx : ev E x = S a) (hlo : ∃ k, ev E y = .int k (i : Int)) (h1 : i ≤ a.length) :
    (execOp (ev E) ⟨dst, .slice t x (some y) none none, ty, pos, af, g⟩).run P w = .ok (.value (S (a.drop i))) w := by
  have := r_sslice (P := P) (w := w) (dst := dst) (ty := ty) (pos := pos) (af := af) (g := g) (lo := some y) (hi := none) (i := i) (j := a.length) ht hx hlo rfl h1 (Nat.le_refl _)
  rwa [List.take_length] at this
theorem st_sslo {t : TypeId} {x y : Operand} {a : Bytes} {i : Nat} (ht : P.underlying t = some .string) (hx : ev E x = S a) (hlo : ∃ k, ev E y = .int k (i : Int)) (h1 : i ≤ a.length) (h : wops P r n O Q l (updo E dst (S (a.drop i))) ds w) : wop P r n O Q ⟨dst, .slice t x (some y) none none, ty, pos, af, g⟩ l E ds w :=
  wop_run (fun _ => by simp) (r_sslo ht hx hlo h1) h
/-- A fact that omega passes over. -/
def Hid (p : Prop) : Prop := p
theorem Kept.refl' {K : Nat → Prop} {A : World} : Kept K A A := ⟨Nat.le_refl _, fun _ _ _ => rfl⟩
theorem Kept.chg {K : Nat → Prop} {A B C : World} {bs : List Nat} (h : Kept K A B) (c : Chg bs B C) (hb : ∀ k, k ∈ bs → K k → A.heap.size ≤ k) : Kept K A C :=
  ⟨Nat.le_trans h.1 c.size, fun k hk hl => (c.block k (Nat.lt_of_lt_of_le hl h.1) fun hx => by have := hb k hx hk; omega).trans (h.2 k hk hl)⟩
/-! ### a scope with a label to which nothing jumps -/
theorem stepR_scope {P : Program} {b : Frame} {a : Act} {k : List Item} {cs : List Frame} {w : World} {c : Code} : step P (lone (b.atR a (.code (.scope c) :: k)) cs w) = .next (lone (b.atR a (.code c :: .inScope c :: k)) cs w) :=
  step_lone_go (by simp [stepG, stepG.exec, Frame.atR])
theorem stepR_inScope {P : Program} {b : Frame} {a : Act} {k : List Item} {cs : List Frame} {w : World} {c : Code} : step P (lone (b.atR a (.inScope c :: k)) cs w) = .next (lone (b.atR a k) cs w) :=
  step_lone_go (by simp [stepG, stepG.exec, Frame.atR])
def noGo (Q : Exit → Act → World → Prop) : Exit → Act → World → Prop
  | .goto _, _, _ => False
  | e, a, w => Q e a w
theorem wpIn_scope {F : Fence} {n : Nat} {P : Program} {Q : Exit → Act → World → Prop} {a : Act} {w : World} {c : Code} (h : c.wpIn F n P (noGo Q) a w) : (Code.scope c).wpIn F n P Q a w := by
  intro b k cs hro hb hr
  have h0 : (lone (b.atR a (.code (.scope c) :: k)) cs w).fenced P F := fenced_calm hb hr rfl
  obtain ⟨e, a₁, w₁, hq, harr⟩ := h b (.inScope c :: k) cs hro hb hr
  cases e with
  | normal => exact ⟨.normal, a₁, w₁, hq, .head h0 stepR_scope (StepsIn.trans harr (.one (fenced_calm hb hr rfl) stepR_inScope))⟩
  | exit id =>
    have hx : exitTo id (.inScope c :: k) = exitTo id k := by simp [exitTo]
    exact ⟨.exit id, a₁, w₁, hq, fun k' hk => .head h0 stepR_scope (harr.1 k' (by rw [hx]; exact hk)),
      fun hr' hk => let ⟨k₁, h1, h2⟩ := harr.2 hr' (by rw [hx]; exact hk); ⟨k₁, h1, .head h0 stepR_scope h2⟩⟩
  | goto l => exact hq.elim
  | ret => exact ⟨_, a₁, w₁, hq, .of_steps (.one h0 stepR_scope) harr⟩
  | panic ch => exact ⟨_, a₁, w₁, hq, .of_steps (.one h0 stepR_scope) harr⟩
  | outgrown => exact ⟨_, a₁, w₁, hq, .of_steps (.one h0 stepR_scope) harr⟩
def scopeP (Q : Post) : Post
  | .goto _, _, _, _ => False
  | e, E, ds, w => Q e E ds w
theorem scope_r {Q : Post} {E : Env} {ds : List Deferred} {w : World} (h : Q .ret E ds w) : scopeP Q .ret E ds w := h
theorem x_scope {P : Program} {r : Option Nat} {n : Nat} {Q : Post} {E : Env} {ds : List Deferred} {w : World} {c : Code} (h : wp P r n c (scopeP Q) E ds w) : wp P r n (.scope c) Q E ds w := by
  intro a h1 h2 h3
  refine wpIn_scope (wpIn_mono (h a h1 h2 h3) ?_)
  rintro e a' w' ⟨q1, q2⟩
  cases e with
  | goto l => exact q2.elim
  | normal => exact ⟨q1, q2⟩
  | exit i => exact ⟨q1, q2⟩
  | ret => exact ⟨q1, q2⟩
  | panic c => exact ⟨q1, q2⟩
  | outgrown => exact ⟨q1, q2⟩
end Go.Proofs.YtmbbhgglllfelaaGreatDoor.K
set_option linter.unusedVariables false
set_option linter.unusedSimpArgs false
set_option autoImplicit false
namespace Go.Proofs.YtmbbhgglllfelaaGreatDoor.K
open Go Go.RowKit
/-- Only blocks of which M holds have changed; others may be new. -/
structure ChgP (M : Nat → Prop) (w w' : World) : Prop where
  os : w'.os = w.os
  tape : w'.tape = w.tape
  output : w'.output = w.output
  size : w.heap.size ≤ w'.heap.size
  block : ∀ k, k < w.heap.size → ¬ M k → w'.heap[k]? = w.heap[k]?
theorem ChgP.refl {M : Nat → Prop} (w : World) : ChgP M w w := ⟨rfl, rfl, rfl, Nat.le_refl _, fun _ _ _ => rfl⟩
theorem ChgP.chg {M : Nat → Prop} {bs : List Nat} {a b c : World} (h : ChgP M a b) (k : Chg bs b c) (hc : ∀ x, x ∈ bs → M x ∨ a.heap.size ≤ x) : ChgP M a c :=
  ⟨k.os.trans h.os, k.tape.trans h.tape, k.output.trans h.output, Nat.le_trans h.size k.size, fun i hi hb => by
    refine (k.block i (Nat.lt_of_lt_of_le hi h.size) fun hx => ?_).trans (h.block i hi hb)
    rcases hc i hx with h1 | h1
    · exact hb h1
    · omega⟩
theorem ChgP.chg0 {M : Nat → Prop} {a b c : World} (h : ChgP M a b) (k : Chg [] b c) : ChgP M a c := h.chg k (fun x hx => by cases hx)
theorem ChgP.trans {M M1 : Nat → Prop} {a b c : World} (h : ChgP M a b) (k : ChgP M1 b c) (hc : ∀ x, M1 x → M x ∨ a.heap.size ≤ x) : ChgP M a c :=
  ⟨k.os.trans h.os, k.tape.trans h.tape, k.output.trans h.output, Nat.le_trans h.size k.size, fun i hi hb => by
    refine (k.block i (Nat.lt_of_lt_of_le hi h.size) fun hx => ?_).trans (h.block i hi hb)
    rcases hc i hx with h1 | h1
    · exact hb h1
    · omega⟩
theorem ChgP.mono {M M1 : Nat → Prop} {a b : World} (h : ChgP M a b) (hm : ∀ x, M x → M1 x) : ChgP M1 a b := ⟨h.os, h.tape, h.output, h.size, fun i hi hb => h.block i hi fun hx => hb (hm i hx)⟩
theorem ChgP.toChg {M : Nat → Prop} {bs : List Nat} {a b : World} (h : ChgP M a b) (hm : ∀ x, M x → x ∈ bs ∨ a.heap.size ≤ x) : Chg bs a b := ⟨h.os, h.tape, h.output, h.size, fun i hi hb => h.block i hi fun hx => by rcases hm i hx with h1 | h1; exact hb h1; omega⟩
theorem Chg.toP {M : Nat → Prop} {bs : List Nat} {a b : World} (h : Chg bs a b) (hm : ∀ x, x ∈ bs → M x) : ChgP M a b := ⟨h.os, h.tape, h.output, h.size, fun i hi hb => h.block i hi fun hx => hb (hm i hx)⟩
theorem Blk.trP {M : Nat → Prop} {w w' : World} {b : Nat} {cs : List Value} {T : TypeId} (h : Blk w b cs T) (c : ChgP M w w') (hb : ¬ M b) : Blk w' b cs T := h.of_eq (c.block b h.lt hb)
theorem Sl.trP {M : Nat → Prop} {α : Type} {c : Enc α} {w w' : World} {D : Nat → Prop} {A : Option Addr} {xs : List α} (h : Sl c w D A xs) (k : ChgP M w w') (hb : ∀ x, D x → ¬ M x) : Sl c w' D A xs :=
  h.keep (fun i hi hD => k.block i hi (hb i hD)) k.size
theorem Own.trP {M : Nat → Prop} {α : Type} {c : Enc α} {e : TypeId} {w w' : World} {D : Nat → Prop} {A : Option Addr} {cap : Nat} {xs : List α} (h : Own c e w D A cap xs) (k : ChgP M w w') (hb : ∀ x, D x → ¬ M x) : Own c e w' D A cap xs :=
  h.keep (fun i hi hD => k.block i hi (hb i hD)) k.size
/-- A domain without one block. -/
theorem dom_new (D : Nat → Prop) (b : Nat) : ∃ D1 : Nat → Prop, (∀ k, D1 k → D k) ∧ ¬ D1 b ∧ ∀ k, D k → k ≠ b → D1 k := ⟨fun k => D k ∧ k ≠ b, fun _ h => h.1, fun h => h.2 rfl, fun _ h1 h2 => ⟨h1, h2⟩⟩
theorem Own.take {α : Type} {c : Enc α} {e : TypeId} {w : World} {D : Nat → Prop} {A : Option Addr} {cap : Nat} {xs : List α} {k : Nat} (h : Own c e w D A cap xs) (hk : k ≤ xs.length) : Own c e w D A cap (xs.take k) := by
  obtain ⟨cs, h1, h2, h3⟩ := h
  have hkm : k * c.sz ≤ xs.length * c.sz := Nat.mul_le_mul_right _ hk
  have hl : (xs.take k).length = k := by rw [List.length_take]; omega
  have hcl : (cs.take (k * c.sz)).length = k * c.sz := by rw [List.length_take, h3.1]; omega
  refine ⟨cs.take (k * c.sz), ⟨by rw [hl, hcl], ?_⟩, h2, ⟨by rw [hl, hcl], fun i x hx => ?_⟩⟩
  · rw [hl]
    rcases h1.2 with ⟨h4, h5⟩ | ⟨g, cp, cur, h4, h5, h6, h7, h8, h9, h10⟩
    · simp only [Value.slice.injEq] at h4; obtain ⟨rfl, _, rfl⟩ := h4
      obtain rfl : k = 0 := by omega
      exact .inl ⟨rfl, rfl⟩
    · simp only [Value.slice.injEq] at h4; obtain ⟨rfl, _, rfl⟩ := h4
      refine .inr ⟨g, _, cur, rfl, h5, h6, by omega, h8, h9, ?_⟩
      rw [← h10, List.take_take, Nat.min_eq_left hkm]
  · rw [List.getElem?_take] at hx
    split at hx
    · rename_i hik
      obtain ⟨vs, q1, q2⟩ := h3.2 i x hx
      refine ⟨vs, q1, fun j v hj => ?_⟩
      have hjs : j < c.sz := by rw [← c.len q1]; exact (List.getElem?_eq_some_iff.1 hj).1
      have hlt : i * c.sz + j < k * c.sz := by
        have := Nat.mul_le_mul_right c.sz (show i + 1 ≤ k from hik)
        rw [Nat.add_mul] at this; omega
      rw [List.getElem?_take, if_pos hlt]; exact q2 j v hj
    · cases hx
/-! ### methods as values -/
section
variable {P : Program} {r : Option Nat} {n : Nat} {O : Array Oper} {Q : Post} {E : Env} {ds : List Deferred} {w : World} {l : List Oper}
variable {dst : Option Nat} {ty : TypeId} {pos : String} {af : Array Edge} {g : Option (Nat × Bool)}
theorem r_callB {c : Call} {f : FuncId} {ags : List Value} {x : Operand} {rv : Array Value} (hcal : c.callee = .value x) (hf : ev E x = .func (.func f) rv #[]) (hent : ∀ args (w : World), (callFunc f args).run P w = .ok (.enter f args) w)
    (has : rv.toList ++ c.args.toList.map (ev E) = ags) : (execOp (ev E) ⟨dst, .call c, ty, pos, af, g⟩).run P w = .ok (.enter f ⟨ags⟩) w := by
  replace has : rv ++ (c.args.map (ev E)) = ⟨ags⟩ := Array.ext' (by simpa using has)
  simp [execOp, resolve, hcal, hf, Deferred.ofValue, invoke, go_sem, has, hent, Result.andThen]
theorem st_callB {c : Call} {f : FuncId} {ags : List Value} {Φ : Value → World → Prop} {x : Operand} {rv : Array Value} (hcal : c.callee = .value x) (hf : ev E x = .func (.func f) rv #[]) (hent : ∀ args (w : World), (callFunc f args).run P w = .ok (.enter f args) w)
    (has : rv.toList ++ c.args.toList.map (ev E) = ags) (hc : CallR P f ⟨ags⟩ w Φ) (h : ∀ v w', Φ v w' → wops P r n O Q l (updo E dst v) ds w') : wop P r n O Q ⟨dst, .call c, ty, pos, af, g⟩ l E ds w := by
  exact wop_enter (fun _ => by simp) (r_callB hcal hf hent has) hc h
theorem r_bldA {t e : TypeId} {m sz : Nat} {ps : List (Nat × Operand)} {zs vs : List Value} (hu : P.underlying t = some (.array m e)) (hs : sizeB P e sz = true) (h3 : (P.info? t).bind (·.zero) = some (.agg ⟨zs⟩)) (hv : fillV (fun i => some (i * sz, sz)) zs (ps.map fun p => (p.1, cellsOf (ev E p.2))) = some vs) :
    (execOp (ev E) ⟨dst, .build t ps.toArray, ty, pos, af, g⟩).run P w = .ok (.value (.agg ⟨vs⟩)) w := by
  have key : ∀ w : World, (Instr.build t (ps.toArray.map fun (i, x) => (i, ev E x))).run P w = .ok (.agg ⟨vs⟩) w := ?_
  · simp only [execOp, Sem.run_bind, key, Result.andThen, Sem.run_pure]
  intro w
  have hf := fill_eq (pl := fun i => some (i * sz, sz)) (ps.map fun p => (p.1, ev E p.2)) zs vs (by rw [List.map_map]; exact hv)
  cases hi : P.info? t with
  | none => simp [hi] at h3
  | some i =>
    simp only [hi, Option.bind_some] at h3
    have hz : (zeroValue t).run P w = .ok (.agg ⟨zs⟩) w := by simp [zeroValue, typeInfo, go_sem, hi, h3]
    have hu : (underlying t).run P w = .ok (.array m e) w := by simp [underlying, go_sem, hu]
    have hs2 := run_sizeOf (w := w) hs
    have e2 : (ps.toArray.map fun p => (p.1, ev E p.2)).toList = ps.map fun p => (p.1, ev E p.2) := by simp
    unfold Instr.build
    simp only [Sem.run_bind, hz, Result.andThen, hu, hs2, Value.cells, e2]
    rw [hf]
    rfl
theorem st_bldA {t e : TypeId} {m sz : Nat} {ps : List (Nat × Operand)} {zs vs : List Value} (hu : P.underlying t = some (.array m e)) (hs : sizeB P e sz = true) (h3 : (P.info? t).bind (·.zero) = some (.agg ⟨zs⟩)) (hv : fillV (fun i => some (i * sz, sz)) zs (ps.map fun p => (p.1, cellsOf (ev E p.2))) = some vs) (h : wops P r n O Q l (updo E dst (.agg ⟨vs⟩)) ds w) :
    wop P r n O Q ⟨dst, .build t ps.toArray, ty, pos, af, g⟩ l E ds w := wop_run (fun _ => by simp) (r_bldA hu hs h3 hv) h
theorem r_cut {α : Type} {xs : List α} {t e : TypeId} {x y : Operand} {A : Option Addr} {m c sz j : Nat} (ht : P.underlying t = some (.slice e)) (hs : sizeB P e sz = true) (hx : ev E x = .slice A m c) (hhi : ∃ k, ev E y = .int k (j : Int)) (hj : j ≤ xs.length) (h1 : j ≤ c):
    (execOp (ev E) ⟨dst, .slice t x none (some y) none, ty, pos, af, g⟩).run P w = .ok (.value (.slice A (xs.take j).length c)) w := by
  have h := r_slice (P := P) (w := w) (dst := dst) (ty := ty) (pos := pos) (af := af) (g := g) (lo := none) (hi := some y) (i := 0) (j := j) ht hs hx rfl hhi (Nat.zero_le _) h1
  have e1 : (if c = 0 then A else A.map (·.add (0 * sz))) = A := by
    split
    · rfl
    · cases A <;> simp [Addr.add]
  rw [e1] at h
  rw [List.length_take, Nat.min_eq_left hj]
  exact h
theorem st_cut {α : Type} {xs : List α} {t e : TypeId} {x y : Operand} {A : Option Addr} {m c sz j : Nat} (ht : P.underlying t = some (.slice e)) (hs : sizeB P e sz = true) (hx : ev E x = .slice A m c) (hhi : ∃ k, ev E y = .int k (j : Int)) (hj : j ≤ xs.length) (h1 : j ≤ c)
    (h : wops P r n O Q l (updo E dst (.slice A (xs.take j).length c)) ds w) : wop P r n O Q ⟨dst, .slice t x none (some y) none, ty, pos, af, g⟩ l E ds w := wop_run (fun _ => by simp) (r_cut ht hs hx hhi hj h1) h
/-- An array from a place on, as a slice. -/
theorem r_arrCut {t e : TypeId} {x y : Operand} {b o m sz i k : Nat} (ht : P.underlying t = some (.array m e)) (hs : sizeB P e sz = true) (hx : ev E x = .pointer (some ⟨b, o, none⟩)) (hlo : ∃ k, ev E y = .int k (i : Int)) (hi : i < m) (hk : m - i = k) :
    (execOp (ev E) ⟨dst, .slice t x (some y) none none, ty, pos, af, g⟩).run P w = .ok (.value (.slice (some ⟨b, o + i * sz, none⟩) k k)) w := by
  have h2 := run_sizeOf (w := w) hs
  obtain ⟨kk, hy⟩ := hlo
  subst hk
  simp [execOp, hx, hy, Instr.sliceAt, Instr.sureAddr, Instr.sliceBounds, Instr.sliceBound, go_sem, asIntOf, underlying, ht, Sem.run_bind, h2, Result.andThen, Addr.add_lit, Nat.le_of_lt hi, Nat.ne_of_gt hi]
theorem st_arrCut {t e : TypeId} {x y : Operand} {b o m sz i k : Nat} (ht : P.underlying t = some (.array m e)) (hs : sizeB P e sz = true) (hx : ev E x = .pointer (some ⟨b, o, none⟩)) (hlo : ∃ k, ev E y = .int k (i : Int)) (hi : i < m) (hk : m - i = k)
    (h : wops P r n O Q l (updo E dst (.slice (some ⟨b, o + i * sz, none⟩) k k)) ds w) : wop P r n O Q ⟨dst, .slice t x (some y) none none, ty, pos, af, g⟩ l E ds w := wop_run (fun _ => by simp) (r_arrCut ht hs hx hlo hi hk) h
end
end Go.Proofs.YtmbbhgglllfelaaGreatDoor.K
set_option linter.unusedVariables false
set_option linter.unusedSimpArgs false
set_option autoImplicit false
namespace Go.Proofs.YtmbbhgglllfelaaGreatDoor.K
open Go Go.RowKit
section
variable {P : Program} {r : Option Nat} {n : Nat} {O : Array Oper} {Q : Post} {E : Env} {ds : List Deferred} {w : World} {l : List Oper}
variable {dst : Option Nat} {ty : TypeId} {pos : String} {af : Array Edge} {g : Option (Nat × Bool)}
end
end Go.Proofs.YtmbbhgglllfelaaGreatDoor.K
set_option linter.unusedVariables false
set_option linter.unusedSimpArgs false
set_option autoImplicit false
namespace Go.Proofs.YtmbbhgglllfelaaGreatDoor.K
open Go Go.MapKept
/-- A map in block b: its entries, in the order in which they were put. -/
def MapAt (w : World) (b : Nat) (es : List (Bytes × Value)) : Prop := ∃ ar clock, w.heap[b]? = some (.map ar clock) ∧ ar.toList.map (fun e => (e.key, e.val)) = es.map (fun x => (S x.1, x.2))
theorem MapAt.lt {w : World} {b : Nat} {es : List (Bytes × Value)} (h : MapAt w b es) : b < w.heap.size := by obtain ⟨_, _, h, _⟩ := h; exact (Array.getElem?_eq_some_iff.1 h).1
theorem MapAt.tr {w w' : World} {b : Nat} {es : List (Bytes × Value)} {bs : List Nat} (h : MapAt w b es) (hc : Chg bs w w') (hb : b ∉ bs) : MapAt w' b es := by
  have hl := h.lt; obtain ⟨ar, c, h1, h2⟩ := h; exact ⟨ar, c, (hc.block b hl hb).trans h1, h2⟩
theorem MapAt.tr0 {w w' : World} {b : Nat} {es : List (Bytes × Value)} (h : MapAt w b es) (hc : Chg [] w w') : MapAt w' b es := h.tr hc (by simp)
theorem MapAt.fresh {w : World} {b k : Nat} {es : List (Bytes × Value)} (h : MapAt w b es) (hk : w.heap.size ≤ k) : b ≠ k := by have := h.lt; omega
/-- What a map has for a key. -/
def mget : List (Bytes × Value) → Bytes → Option Value
  | [], _ => none
  | (a, v) :: r, s => if a = s then some v else mget r s
def mput : List (Bytes × Value) → Bytes → Value → List (Bytes × Value)
  | [], s, x => [(s, x)]
  | (a, v) :: r, s, x => if a = s then (a, x) :: r else (a, v) :: mput r s x
theorem findNow_mget : ∀ (l : List MapEntry) (es : List (Bytes × Value)) (i : Nat) (s : Bytes), l.map (fun e => (e.key, e.val)) = es.map (fun x => (S x.1, x.2)) →
    (mget es s = none ∧ Instr.findNow .string (S s) l i = some none ∧ ∀ v, (es ++ [(s, v)]) = mput es s v) ∨
    ∃ j e, Instr.findNow .string (S s) l i = some (some (i + j, e.val)) ∧ mget es s = some e.val ∧ l[j]? = some e ∧ e.key = S s ∧ ∀ f : MapEntry → MapEntry, (f e).key = S s → (l.modify j f).map (fun e => (e.key, e.val)) = (mput es s (f e).val).map (fun x => (S x.1, x.2))
  | [], [], _, _, _ => .inl ⟨rfl, rfl, fun _ => rfl⟩
  | [], _ :: _, _, _, h => by simp at h
  | _ :: _, [], _, _, h => by simp at h
  | e :: l, (a, v) :: es, i, s, h => by
    simp only [List.map_cons, List.cons.injEq, Prod.mk.injEq] at h
    obtain ⟨⟨h1, h2⟩, h3⟩ := h
    have hs : Instr.sameNow .string (S s) e.key = some (decide (a = s)) := by
      rw [h1]; simp only [S, Instr.sameNow]
      by_cases hq : a = s
      · subst hq; simp only [decide_true]; exact congrArg some ((bytes_beq _ _).2 rfl)
      · rw [decide_eq_false hq]
        cases hb : ((⟨⟨s⟩⟩ : ByteArray) == ⟨⟨a⟩⟩) with
        | false => rfl
        | true => have := (bytes_beq _ _).1 hb; simp at this; exact absurd this.symm hq
    by_cases hq : a = s
    · subst hq
      refine .inr ⟨0, e, ?_, ?_, rfl, h1, fun f hf => ?_⟩
      · simp [Instr.findNow, hs]
      · simp [mget, h2]
      · rw [show (e :: l).modify 0 f = f e :: l from rfl]; simp [mput, hf, h3]
    · rw [decide_eq_false hq] at hs
      rcases findNow_mget l es (i + 1) s h3 with ⟨q1, q2, q3⟩ | ⟨j, e', q1, q2, q3, q4, q5⟩
      · exact .inl ⟨by simp [mget, hq, q1], by simp [Instr.findNow, hs, q2], fun w => by simp [mput, hq, ← q3 w]⟩
      · refine .inr ⟨j + 1, e', ?_, by simp [mget, hq, q2], by simpa using q3, q4, fun f hf => ?_⟩
        · simp [Instr.findNow, hs, q1]; omega
        · simp only [List.modify_succ_cons, List.map_cons, q5 f hf, mput, if_neg hq, h1, h2]
def mapB (P : Program) (t e : TypeId) : Prop := ∃ k, P.underlying t = some (.map k e) ∧ P.underlying k = some .string
section rules
variable {P : Program} {r : Option Nat} {n : Nat} {O : Array Oper} {Q : Post} {l : List Oper} {E : Env} {ds : List Deferred} {w : World} {dst : Option Nat} {ty : TypeId} {pos : String} {af : Array Edge} {g : Option (Nat × Bool)}
theorem keyLaw (s : Bytes) : IsKey .string (S s) := trivial
theorem r_makeMap {t : TypeId} : (execOp (ev E) ⟨dst, .makeMap t none, ty, pos, af, g⟩).run P w = .ok (.value (.map (some w.heap.size))) (w.alloc (.map #[] 0)) := by
  simp [execOp, Instr.makeMap, go_sem, Result.andThen]
theorem st_makeMap {t : TypeId} (h : ∀ b w', b = w.heap.size → Chg [] w w' → MapAt w' b [] → wops P r n O Q l (updo E dst (.map (some b))) ds w') :
    wop P r n O Q ⟨dst, .makeMap t none, ty, pos, af, g⟩ l E ds w :=
  wop_run (fun _ => by simp) r_makeMap (h _ _ rfl (Chg.alloc w _) ⟨#[], 0, World.alloc_heap_new w _, rfl⟩)
theorem run_mapUpdate {t e : TypeId} {b : Nat} {s : Bytes} {v : Value} {es : List (Bytes × Value)} (hB : mapB P t e) (hm : MapAt w b es) : ∃ w', (Instr.mapUpdate t (.map (some b)) (S s) v).run P w = .ok () w' ∧ Chg [b] w w' ∧ MapAt w' b (mput es s v) := by
  obtain ⟨kt, hu, hk⟩ := hB
  obtain ⟨ar, clock, hb, he⟩ := hm
  have hC : ∀ o : Obj, Chg [b] w { w with heap := w.heap.setIfInBounds b o } := fun o => ⟨rfl, rfl, rfl, by simp, fun j _ hj => by simp at hj; simp [Ne.symm hj]⟩
  rcases findNow_mget ar.toList es 0 s he with ⟨q1, q2, q3⟩ | ⟨j, e0, q1, q2, q3, q4, q5⟩
  · refine ⟨_, by simp [Instr.mapUpdate, Go.run_underlying hu, MapKept.run_getObj_map hb, MapKept.run_checkKey hk (keyLaw s), MapKept.run_findKey hk q2, MapKept.run_setObj_map _ hb, Result.andThen]; rfl, hC _, ⟨_, _, (heap_set hb).1, ?_⟩⟩
    rw [← q3 v]; simp [he]
  · have hj : ar[j]? = some e0 := by simpa using q3
    rw [Nat.zero_add] at q1
    refine ⟨_, by simp [Instr.mapUpdate, Go.run_underlying hu, MapKept.run_getObj_map hb, MapKept.run_checkKey hk (keyLaw s), MapKept.run_findKey hk q1, hj, q4, MapKept.run_keyThatStays (keyLaw s), MapKept.run_setObj_map _ hb, Result.andThen]; rfl, hC _, ⟨_, _, (heap_set hb).1, ?_⟩⟩
    have := q5 (fun e => { e with key := S s, val := v }) rfl
    simp only [Array.toList_modify] at this ⊢
    exact this
theorem st_mapIns {t e : TypeId} {x y z : Operand} {b : Nat} {s : Bytes} {v : Value} {es : List (Bytes × Value)} (hB : mapB P t e) (hx : ev E x = .map (some b)) (hy : ev E y = S s) (hz : ev E z = v) (hm : MapAt w b es) (h : ∀ w', Chg [b] w w' → MapAt w' b (mput es s v) → wops P r n O Q l (updo E dst undef) ds w') :
    wop P r n O Q ⟨dst, .insert t x y z, ty, pos, af, g⟩ l E ds w := by
  obtain ⟨w', h1, h2, h3⟩ := run_mapUpdate (v := v) (s := s) hB hm
  exact wop_skip (w' := w') (fun _ => by simp) (by simp only [execOp, hx, hy, hz, Sem.run_bind, h1, Result.andThen, Sem.run_pure]) (h w' h2 h3)
def zvB (P : Program) (e : TypeId) (z : Value) : Prop := ∃ i, P.info? e = some i ∧ i.zero = some z
theorem run_look {t e : TypeId} {b : Nat} {s : Bytes} {z : Value} {es : List (Bytes × Value)} {ok : Bool} (hB : mapB P t e) (hz : zvB P e z) (hm : MapAt w b es) :
    (Instr.lookup t (.map (some b)) (S s) ok).run P w = .ok (if ok then .tuple ⟨[(mget es s).getD z, .bool (mget es s).isSome]⟩ else (mget es s).getD z) w := by
  obtain ⟨kt, hu, hk⟩ := hB
  obtain ⟨ar, clock, hb, he⟩ := hm
  obtain ⟨i, hi, hzz⟩ := hz
  have hzv : (zeroValue e).run P w = .ok z w := by simp [zeroValue, typeInfo, go_sem, hi, hzz, Result.andThen]
  rcases findNow_mget ar.toList es 0 s he with ⟨q1, q2, _⟩ | ⟨j, e0, q1, q2, q3, q4, _⟩
  · cases ok <;> simp [Instr.lookup, Go.run_underlying hu, MapKept.run_getObj_map hb, MapKept.run_checkKey hk (keyLaw s), MapKept.run_findKey hk q2, hzv, q1, Result.andThen]
  · cases ok <;> simp [Instr.lookup, Go.run_underlying hu, MapKept.run_getObj_map hb, MapKept.run_checkKey hk (keyLaw s), MapKept.run_findKey hk q1, q2, Result.andThen]
theorem r_lookOk {t e : TypeId} {x y : Operand} {b : Nat} {s : Bytes} {z : Value} {es : List (Bytes × Value)} (hB : mapB P t e) (hz : zvB P e z) (hx : ev E x = .map (some b)) (hy : ev E y = S s) (hm : MapAt w b es) :
    (execOp (ev E) ⟨dst, .lookup t x y true, ty, pos, af, g⟩).run P w = .ok (.value (.tuple ⟨[(mget es s).getD z, .bool (mget es s).isSome]⟩)) w := by
  simp only [execOp, hx, hy, Sem.run_bind, run_look hB hz hm, Result.andThen, Sem.run_pure]; rfl
theorem st_lookOk {t e : TypeId} {x y : Operand} {b : Nat} {s : Bytes} {z v : Value} {q : Bool} {es : List (Bytes × Value)} (hB : mapB P t e) (hz : zvB P e z) (hx : ev E x = .map (some b)) (hy : ev E y = S s) (hm : MapAt w b es) (hv : (mget es s).getD z = v) (hq : (mget es s).isSome = q) (h : wops P r n O Q l (updo E dst (.tuple ⟨[v, .bool q]⟩)) ds w) :
    wop P r n O Q ⟨dst, .lookup t x y true, ty, pos, af, g⟩ l E ds w := wop_run (fun _ => by simp) (r_lookOk hB hz hx hy hm) (by rw [hv, hq]; exact h)
end rules
end Go.Proofs.YtmbbhgglllfelaaGreatDoor.K
set_option linter.unusedVariables false
set_option linter.unusedSimpArgs false
set_option autoImplicit false
namespace Go.Proofs.YtmbbhgglllfelaaGreatDoor.K
open Go
def andV (k : IntKind) (a b : Int) : Int := k.wrap (((BitVec.ofInt k.bits a &&& BitVec.ofInt k.bits b).toNat : Nat) : Int)
def orV (k : IntKind) (a b : Int) : Int := k.wrap (((BitVec.ofInt k.bits a ||| BitVec.ofInt k.bits b).toNat : Nat) : Int)
def xorV (k : IntKind) (a b : Int) : Int := k.wrap (((BitVec.ofInt k.bits a ^^^ BitVec.ofInt k.bits b).toNat : Nat) : Int)
def shlV (k : IntKind) (a n : Int) : Int := k.wrap (a * 2 ^ (min n.toNat k.bits))
def shrV (k : IntKind) (a n : Int) : Int := a.fdiv (2 ^ (min n.toNat k.bits))
def notV (k : IntKind) (a : Int) : Int := xorV k (if k.signed then -1 else k.max) a
section rules
variable {P : Program} {r : Option Nat} {n : Nat} {O : Array Oper} {Q : Post} {l : List Oper} {E : Env} {ds : List Deferred} {w : World} {dst : Option Nat} {ty : TypeId} {pos : String} {af : Array Edge} {g : Option (Nat × Bool)}
variable {t t' : TypeId} {x y : Operand} {a b : Int} {k k' : IntKind}
theorem r_and (hx : ev E x = .int k a) (hy : ev E y = .int k b) : (execOp (ev E) ⟨dst, .binOp .and t x y t', ty, pos, af, g⟩).run P w = .ok (.value (.int k (andV k a b))) w := by simp [execOp, hx, hy, go_sem, eqGuard, binOp, Op.intBits, andV]
theorem st_and (hx : ev E x = .int k a) (hy : ev E y = .int k b) (h : wops P r n O Q l (updo E dst (.int k (andV k a b))) ds w) : wop P r n O Q ⟨dst, .binOp .and t x y t', ty, pos, af, g⟩ l E ds w := wop_run (fun _ => by simp) (r_and hx hy) h
theorem r_or (hx : ev E x = .int k a) (hy : ev E y = .int k b) : (execOp (ev E) ⟨dst, .binOp .or t x y t', ty, pos, af, g⟩).run P w = .ok (.value (.int k (orV k a b))) w := by simp [execOp, hx, hy, go_sem, eqGuard, binOp, Op.intBits, orV]
theorem st_or (hx : ev E x = .int k a) (hy : ev E y = .int k b) (h : wops P r n O Q l (updo E dst (.int k (orV k a b))) ds w) : wop P r n O Q ⟨dst, .binOp .or t x y t', ty, pos, af, g⟩ l E ds w := wop_run (fun _ => by simp) (r_or hx hy) h
theorem r_xor (hx : ev E x = .int k a) (hy : ev E y = .int k b) : (execOp (ev E) ⟨dst, .binOp .xor t x y t', ty, pos, af, g⟩).run P w = .ok (.value (.int k (xorV k a b))) w := by simp [execOp, hx, hy, go_sem, eqGuard, binOp, Op.intBits, xorV]
theorem st_xor (hx : ev E x = .int k a) (hy : ev E y = .int k b) (h : wops P r n O Q l (updo E dst (.int k (xorV k a b))) ds w) : wop P r n O Q ⟨dst, .binOp .xor t x y t', ty, pos, af, g⟩ l E ds w := wop_run (fun _ => by simp) (r_xor hx hy) h
theorem r_shl (hx : ev E x = .int k a) (hy : ev E y = .int k' b) (hb : 0 ≤ b) : (execOp (ev E) ⟨dst, .binOp .shl t x y t', ty, pos, af, g⟩).run P w = .ok (.value (.int k (shlV k a b))) w := by simp [execOp, hx, hy, go_sem, eqGuard, binOp, Op.shift, shlV, Int.not_lt.2 hb]
theorem st_shl (hx : ev E x = .int k a) (hy : ev E y = .int k' b) (hb : 0 ≤ b) (h : wops P r n O Q l (updo E dst (.int k (shlV k a b))) ds w) : wop P r n O Q ⟨dst, .binOp .shl t x y t', ty, pos, af, g⟩ l E ds w := wop_run (fun _ => by simp) (r_shl hx hy hb) h
theorem r_shr (hx : ev E x = .int k a) (hy : ev E y = .int k' b) (hb : 0 ≤ b) : (execOp (ev E) ⟨dst, .binOp .shr t x y t', ty, pos, af, g⟩).run P w = .ok (.value (.int k (shrV k a b))) w := by simp [execOp, hx, hy, go_sem, eqGuard, binOp, Op.shift, shrV, Int.not_lt.2 hb]
theorem st_shr (hx : ev E x = .int k a) (hy : ev E y = .int k' b) (hb : 0 ≤ b) (h : wops P r n O Q l (updo E dst (.int k (shrV k a b))) ds w) : wop P r n O Q ⟨dst, .binOp .shr t x y t', ty, pos, af, g⟩ l E ds w := wop_run (fun _ => by simp) (r_shr hx hy hb) h
theorem r_neg (hx : ev E x = .int k a) : (execOp (ev E) ⟨dst, .unOp .neg t x, ty, pos, af, g⟩).run P w = .ok (.value (.int k (k.wrap (0 - a)))) w := by simp [execOp, hx, go_sem, Op.unary, Op.intArith]
theorem st_neg (hx : ev E x = .int k a) (h : wops P r n O Q l (updo E dst (.int k (k.wrap (0 - a)))) ds w) : wop P r n O Q ⟨dst, .unOp .neg t x, ty, pos, af, g⟩ l E ds w := wop_run (fun _ => by simp) (r_neg hx) h
theorem r_bnot (hx : ev E x = .int k a) : (execOp (ev E) ⟨dst, .unOp .xor t x, ty, pos, af, g⟩).run P w = .ok (.value (.int k (notV k a))) w := by simp [execOp, hx, go_sem, Op.unary, Op.intBits, notV, xorV]
theorem st_bnot (hx : ev E x = .int k a) (h : wops P r n O Q l (updo E dst (.int k (notV k a))) ds w) : wop P r n O Q ⟨dst, .unOp .xor t x, ty, pos, af, g⟩ l E ds w := wop_run (fun _ => by simp) (r_bnot hx) h
variable {s u : Bytes}
theorem r_sgeq (hx : ev E x = S s) (hy : ev E y = S u) : (execOp (ev E) ⟨dst, .binOp .geq t x y t', ty, pos, af, g⟩).run P w = .ok (.value (.bool (!Op.bytesLess s u))) w := by
  simp only [S] at hx hy; simp [execOp, hx, hy, go_sem, eqGuard, binOp, Op.stringOp, toList_mk]
end rules
/-! ### what they come to -/
end Go.Proofs.YtmbbhgglllfelaaGreatDoor.K
