import Derived.Test.YtpelmhoocepenaaGreatDoorKitL
import Derived.Test.YtpelmhoocepenaaGreatDoorShelf
import Derived.Lib.IndexAny
import Derived.Lib.IndexLaws
import Derived.Lib.LaidTab
import Derived.Lib.Space
import Derived.Test.YtpelmhoocepenaaGreatDoorKitS
import Derived.Lib.AppendZerosOnto
import Derived.Lib.Overlaps
set_option linter.unusedVariables false
set_option linter.unusedSimpArgs false
set_option autoImplicit false
namespace Go.Proofs.YtpelmhoocepenaaGreatDoor.K
open Go Go.Proofs Go.RowKit
theorem wrap_u8 (x : Int) : IntKind.u8.wrap x = x % 256 := by simp [IntKind.wrap, IntKind.signed, IntKind.bits]
def digB (c : UInt8) : Bool := decide (48 ≤ c.toNat ∧ c.toNat ≤ 57)
theorem drop_byte {t : Bytes} {i : Nat} (h : i < t.length) : t.drop i = byte t i :: t.drop (i + 1) := by
  rw [List.drop_eq_getElem_cons h]; simp [byte, h]
theorem take_byte {t : Bytes} {i j : Nat} (h : i < t.length) (hj : j ≤ i) : (t.take (i + 1)).drop j = (t.take i).drop j ++ [byte t i] := by
  rw [List.take_add_one, List.drop_append_of_le_length (by simp; omega)]; simp [byte, h]
theorem byte_at {t : Bytes} {i : Nat} {x : UInt8} (h : t[i]? = some x) : x = byte t i := by simp [byte, List.getD_eq_getElem?_getD, h]
theorem HasPrefix_spec (s p : Bytes) (w : World) : CallR Tryz.prog 81 #[S s, S p] w fun v w' => v = .bool (Lib.hasPrefix s p) ∧ Chg [] w w' :=
  CallR.of (Tryz.strings_HasPrefix ⟨⟨s⟩⟩ ⟨⟨p⟩⟩ w) fun e w' ⟨h1, h2⟩ => ⟨_, h1, rfl, .refl' h2⟩
theorem all128 (s : Bytes) (h : (s.all fun b => Nat.blt b.toNat 128) = true) : ∀ (j : Nat) (b : UInt8), s[j]? = some b → b.toNat < 128 := fun j b hj => by
  have := List.all_eq_true.1 h b (List.mem_of_getElem? hj)
  simpa [Nat.blt_eq] using this
/-- The library's table of blanks. -/
def Tab (w : World) : Prop := Lib.TabIs Tryz.prog w "strings.asciiSpace" .u8 Lib.asciiSpaceTab
theorem gTab : Tryz.prog.globalNamed "strings.asciiSpace" = some 0 := by kernel_rfl
theorem Tab.lt {w : World} (h : Tab w) : 0 < w.heap.size := by
  have := Lib.TabIs.cell h gTab 0 (by simp [Lib.asciiSpaceTab])
  unfold World.cell? at this
  split at this
  · rename_i hh; exact (Array.getElem?_eq_some_iff.1 hh).1
  · cases this
theorem Tab.tr {w w' : World} {bs : List Nat} (h : Tab w) (hc : Chg bs w w') (hb : 0 ∉ bs) : Tab w' := by
  have he := hc.block 0 h.lt hb
  unfold Tab Lib.TabIs World.var? at *
  simp only [gTab, Option.bind_some] at *
  rw [he]; exact h
theorem Tab.tr0 {w w' : World} (h : Tab w) (hc : Chg [] w w') : Tab w' := h.tr hc (by simp)
theorem sl_of_map {w : World} {b : Nat} {xs : List Bytes} {T : TypeId} (h : Blk w b (xs.map S) T) : Sl sE w (fun k => k = b) (some ⟨b, 0, none⟩) xs :=
  .inr ⟨b, 0, rfl, h.lt, rfl, fun i x hx => ⟨_, rfl, fun j v hj => by
    cases j with
    | succ j => simp at hj
    | zero =>
      simp at hj; subst hj
      refine h.cell ?_
      rw [nthV_eq]
      simp [sE, Enc.flat, hx]⟩⟩
theorem Fields_spec (s : Bytes) (w : World) (hs : s.length < 4294967281) (ha : ∀ (j : Nat) (b : UInt8), s[j]? = some b → b.toNat < 128) (ht : Tab w) :
    CallR Tryz.prog 42 #[S s] w fun v w' => ∃ b, v = .slice (some ⟨b, 0, none⟩) (Lib.fields s).length (Lib.fields s).length ∧ w.heap.size ≤ b ∧ Sl sE w' (fun k => k = b) (some ⟨b, 0, none⟩) (Lib.fields s) ∧ Chg [] w w' :=
  CallR.of (Tryz.strings_Fields ⟨⟨s⟩⟩ w hs ha ht) fun e w' ⟨h1, h2⟩ => ⟨_, h1, w.heap.size, rfl, Nat.le_refl _, by
    subst h2
    exact sl_of_map (T := 9) (Blk.new w _ _), by subst h2; exact Chg.alloc w _⟩
end Go.Proofs.YtpelmhoocepenaaGreatDoor.K
set_option linter.unusedVariables false
set_option linter.unusedSimpArgs false
set_option autoImplicit false
namespace Go.Proofs.YtpelmhoocepenaaGreatDoor.K
open Go Go.Proofs Go.RowKit
theorem TrimPrefix_spec (s p : Bytes) (w : World) : CallR Tryz.prog 59 #[S s, S p] w fun v w' => v = S (Lib.trimPrefix s p) ∧ Chg [] w w' :=
  CallR.of (Tryz.strings_TrimPrefix ⟨⟨s⟩⟩ ⟨⟨p⟩⟩ w) fun e w' ⟨h1, h2⟩ => ⟨_, h1, rfl, .refl' h2⟩
theorem Compare_spec (s p : Bytes) (w : World) : CallR Tryz.prog 92 #[S s, S p] w fun v w' => v = .int .i64 (Lib.compareBytes s p) ∧ Chg [] w w' :=
  CallR.of (Tryz.strings_Compare ⟨⟨s⟩⟩ ⟨⟨p⟩⟩ w) fun e w' ⟨h1, h2⟩ => ⟨_, h1, rfl, .refl' h2⟩
/-! ### the order of texts -/
theorem cmp_lt : ∀ a b : Bytes, (Lib.compareBytes a b < 0 ↔ Op.bytesLess a b = true) ∧ (Lib.compareBytes a b = 0 ↔ a = b)
  | [], [] => by simp [Lib.compareBytes, Op.bytesLess]
  | [], _ :: _ => by simp [Lib.compareBytes, Op.bytesLess]
  | _ :: _, [] => by simp [Lib.compareBytes, Op.bytesLess]
  | a :: x, b :: y => by
    obtain ⟨h1, h2⟩ := cmp_lt x y
    simp only [Lib.compareBytes, Op.bytesLess]
    by_cases e : a = b
    · subst e; simp [h1, h2]
    · by_cases l : a < b
      · simp [l, e]
      · have hb : b < a := by
          rcases UInt8.lt_or_le b a with h | h
          · exact h
          · exact absurd (UInt8.lt_of_le_of_ne h e) l
        simp [l, e, hb]
theorem less_irrefl : ∀ a : Bytes, Op.bytesLess a a = false
  | [] => rfl
  | a :: x => by simp [Op.bytesLess, less_irrefl x]
theorem less_trans : ∀ a b c : Bytes, Op.bytesLess a b = true → Op.bytesLess b c = true → Op.bytesLess a c = true
  | _, [], _, h, _ => by cases ‹Bytes› <;> simp [Op.bytesLess] at h
  | _, _ :: _, [], _, h => by simp [Op.bytesLess] at h
  | [], _ :: _, _ :: _, _, _ => rfl
  | a :: x, b :: y, c :: z, h1, h2 => by
    simp only [Op.bytesLess, Bool.or_eq_true, decide_eq_true_eq, Bool.and_eq_true, beq_iff_eq] at h1 h2 ⊢
    rcases h1 with h1 | ⟨h1, h3⟩ <;> rcases h2 with h2 | ⟨h2, h4⟩
    · exact .inl (UInt8.lt_trans h1 h2)
    · subst h2; exact .inl h1
    · subst h1; exact .inl h2
    · subst h1; subst h2; exact .inr ⟨rfl, less_trans x y z h3 h4⟩
end Go.Proofs.YtpelmhoocepenaaGreatDoor.K
set_option linter.unusedVariables false
set_option linter.unusedSimpArgs false
set_option autoImplicit false
namespace Go.Proofs.YtpelmhoocepenaaGreatDoor.K
open Go
theorem setVs_eq : ∀ (vs cs : List Value) (o : Nat), o + vs.length ≤ cs.length → setVs cs o vs = cs.take o ++ vs ++ cs.drop (o + vs.length)
  | [], cs, o, _ => by simp [setVs]
  | v :: vs, cs, o, h => by
    simp only [List.length_cons] at h
    rw [setVs, setV_eq, setVs_eq vs _ (o + 1) (by rw [List.length_set]; omega)]
    have h1 : (cs.set o v).take (o + 1) = cs.take o ++ [v] := by
      rw [List.take_add_one, List.take_set_of_le (by omega)]; simp [show o < cs.length by omega]
    rw [h1, List.drop_set_of_lt (by omega), List.length_cons, show o + 1 + vs.length = o + (vs.length + 1) by omega]
    simp
section rules
variable {P : Program} {r : Option Nat} {n : Nat} {O : Array Oper} {Q : Post} {l : List Oper} {E : Env} {ds : List Deferred} {w : World} {dst : Option Nat} {ty : TypeId} {pos : String} {af : Array Edge} {g : Option (Nat × Bool)}
end rules
/-! ### the call's own row, as a block -/
def flatC {α : Type} (f : α → List Value) (xs : List α) : List Value := xs.flatMap f
section flat
variable {α : Type} {sz : Nat} {f : α → List Value} {hp : 0 < sz} {hl : ∀ x, (f x).length = sz} {ho : ∀ x, ∀ u ∈ f x, u.oneCell' = true} {w : World} {D : Nat → Prop}
theorem flatC_len (hl : ∀ x, (f x).length = sz) (xs : List α) : (flatC f xs).length = xs.length * sz := by
  induction xs with
  | nil => simp [flatC]
  | cons x xs ih => simp only [flatC, List.flatMap_cons, List.length_append, List.length_cons, hl] at *; rw [ih, Nat.add_mul]; omega
theorem flatC_chunks (hl : ∀ x, (f x).length = sz) (xs : List α) : Chunks (Enc.flat sz f hp hl ho) w D xs (flatC f xs) := by
  induction xs with
  | nil => exact .nil
  | cons x xs ih => exact Chunks.cons (rfl : (Enc.flat sz f hp hl ho).R w D x (f x)) ih
theorem chunks_flatC {xs : List α} {cs : List Value} (h : Chunks (Enc.flat sz f hp hl ho) w D xs cs) : cs = flatC f xs := by
  have h2 := flatC_chunks (w := w) (D := D) (hp := hp) (ho := ho) hl xs
  apply List.ext_getElem?
  intro j
  by_cases hj : j < cs.length
  · have hjx : j / sz < xs.length := by rw [h.1] at hj; exact Nat.div_lt_of_lt_mul (by rw [Nat.mul_comm]; exact hj)
    obtain ⟨x, hx⟩ : ∃ x, xs[j / sz]? = some x := ⟨_, List.getElem?_eq_getElem hjx⟩
    obtain ⟨vs, rfl, h3⟩ := h.2 _ x hx
    obtain ⟨us, rfl, h4⟩ := h2.2 _ x hx
    have hm : j % sz < (f x).length := by rw [hl]; exact Nat.mod_lt _ hp
    have e : j / sz * sz + j % sz = j := Nat.div_add_mod' j sz
    have h5 := h3 (j % sz) _ (List.getElem?_eq_getElem hm)
    have h6 := h4 (j % sz) _ (List.getElem?_eq_getElem hm)
    rw [show j / sz * (Enc.flat sz f hp hl ho).sz + j % sz = j from e] at h5 h6
    rw [h5, h6]
  · rw [List.getElem?_eq_none (by omega), List.getElem?_eq_none (by rw [flatC_len hl]; have := h.1; show xs.length * sz ≤ j; rw [show cs.length = xs.length * sz from this] at hj; omega)]
theorem Own.raw {e : TypeId} {a : Addr} {cap : Nat} {xs : List α} (h : Own (Enc.flat sz f hp hl ho) e w D (some a) cap xs) : ∃ g rest, a = ⟨g, 0, none⟩ ∧ Blk w g (flatC f xs ++ rest) e ∧ (flatC f xs ++ rest).length = cap * sz ∧ xs.length ≤ cap ∧ cap ≤ 9223372036854775807 ∧ D g := by
  obtain ⟨cs, h1, h2, h3⟩ := h
  rcases h1.2 with ⟨h4, _⟩ | ⟨g, cp, cur, h4, h5, h6, h7, h8, h9, h10⟩
  · simp at h4
  · simp only [Value.slice.injEq, Option.some.injEq] at h4
    obtain ⟨rfl, _, rfl⟩ := h4
    have hcs := chunks_flatC h3
    subst hcs
    replace h10 : List.take (xs.length * sz) cur.toList = flatC f xs := h10
    replace h9 : cur.size = cap * sz := h9
    refine ⟨g, cur.toList.drop (xs.length * sz), rfl, ?_, ?_, h7, by simpa [maxLen] using h8, h2 g (by simp [ob])⟩
    · rw [← h10, List.take_append_drop]; exact h6
    · rw [← h10, List.take_append_drop]; simpa using h9
theorem Own.of_raw {e : TypeId} {g cap : Nat} {xs : List α} {rest : List Value} (hb : Blk w g (flatC f xs ++ rest) e) (hlen : (flatC f xs ++ rest).length = cap * sz) (hle : xs.length ≤ cap) (hcap : cap ≤ 9223372036854775807) (hD : D g) : Own (Enc.flat sz f hp hl ho) e w D (some ⟨g, 0, none⟩) cap xs := by
  refine ⟨flatC f xs, ⟨flatC_len hl xs, .inr ⟨g, cap, _, rfl, Nat.zero_le _, hb, hle, by simpa [maxLen] using hcap, (show Array.size ⟨flatC f xs ++ rest⟩ = cap * sz from by simpa using hlen), ?_⟩⟩, fun k hk => by simp [ob] at hk; subst hk; exact hD, flatC_chunks hl xs⟩
  show (flatC f xs ++ rest).take (xs.length * sz) = flatC f xs
  rw [← flatC_len hl xs, List.take_left]
end flat
end Go.Proofs.YtpelmhoocepenaaGreatDoor.K
set_option linter.unusedVariables false
set_option linter.unusedSimpArgs false
set_option autoImplicit false
namespace Go.Proofs.YtpelmhoocepenaaGreatDoor.K
open Go
section rules
variable {P : Program} {r : Option Nat} {n : Nat} {O : Array Oper} {Q : Post} {l : List Oper} {E : Env} {ds : List Deferred} {w : World} {dst : Option Nat} {ty : TypeId} {pos : String} {af : Array Edge} {g : Option (Nat × Bool)}
theorem r_part {t e : TypeId} {x : Operand} {lo hi : Option Operand} {b o m c sz i j : Nat} (ht : P.underlying t = some (.slice e)) (hs : sizeB P e sz = true) (hx : ev E x = .slice (some ⟨b, o, none⟩) m c)
    (hlo : match lo with | some y => ∃ k, ev E y = .int k (i : Int) | none => i = 0) (hhi : match hi with | some y => ∃ k, ev E y = .int k (j : Int) | none => j = m) (h0 : i ≤ j) (h1 : j ≤ c) (h2 : i < c) :
    (execOp (ev E) ⟨dst, .slice t x lo hi none, ty, pos, af, g⟩).run P w = .ok (.value (.slice (some ⟨b, o + i * sz, none⟩) (j - i) (c - i))) w := by
  rw [r_slice (i := i) (j := j) ht hs hx hlo hhi h0 h1, if_neg (by omega), Option.map_some, Addr.add_lit]
theorem st_append0 {t e : TypeId} {x y : Operand} {m cap c sz bytes : Nat} {A B : Option Addr} (hS : sliceB P t e sz bytes) (hx : ev E x = .slice B m cap) (hy : ev E y = .slice A 0 c) (hm : m ≤ cap)
    (h : wops P r n O Q l (updo E dst (.slice B m cap)) ds w) : wop P r n O Q ⟨dst, .call ⟨.builtin .append, #[x, y], #[t, t]⟩, ty, pos, af, g⟩ l E ds w := by
  refine wop_run (fun _ => by simp) ?_ h
  obtain ⟨ht, hi0, i0, z, hi, hzz, hzs⟩ := hS
  have ha : (Builtin.append_ #[t, t] ty #[.slice B m cap, .slice A 0 c]).run P w = .ok (.slice B m cap) w := by
    cases A <;> cases B <;> simp [Builtin.append_, run_underlying ht, sizeOf, typeInfo, hi, Builtin.lenOf, Builtin.firstCells, hm, storeCells, loadCells, loadCellsFrom, go_sem]
  simp only [execOp, resolve, invoke, builtin, List.map_toArray, List.map_cons, List.map_nil, hx, hy, Sem.run_bind, Sem.run_pure, ha, Result.andThen]
end rules
end Go.Proofs.YtpelmhoocepenaaGreatDoor.K
set_option linter.unusedVariables false
set_option linter.unusedSimpArgs false
set_option autoImplicit false
namespace Go.Proofs.YtpelmhoocepenaaGreatDoor.K
open Go Go.RowKit
variable {P : Program} {r : Option Nat} {n : Nat} {O : Array Oper} {Q : Post} {E : Env} {ds : List Deferred} {w : World} {l : List Oper}
/-- **An iterator's contract, where rounds change what it reads**: what it needs to know ahead of a round (St: pre is what it has handed out); what it does to hand out the next one (Pop). -/
def IterG (P : Program) (gf : FuncId) (caps : List Value) {α : Type} (encs : α → List Value) (xs : List α) (St : List α → World → Prop) (Pop : List α → α → World → World → Prop) : Prop :=
  ∀ (lp : Nat) (J Jx : List α → World → Prop) (W : World), (∀ pre A, J pre A → St pre A) →
    (∀ pre x rest A0 A, xs = pre ++ x :: rest → J pre A0 → Pop pre x A0 A → RoundR P lp (encs x) A fun b B => (b = true ∧ J (pre ++ [x]) B) ∨ (b = false ∧ Jx (pre ++ [x]) B)) →
    J [] W → CallR P gf ⟨.func (.yield lp) #[] #[] :: caps⟩ W fun _ W' => J xs W' ∨ ∃ pre, Jx pre W'
/-- The statement 'for .. := range g { .. }', where rounds change what the iterator reads. D: the block for the rounds' deferred calls (at an outermost loop); lp: the loop's record. -/
theorem rangeG_core {α : Type} {f : Operand} {ps : List Nat} {assign body : Code} {gf : FuncId} {caps : Array Value} {bs : List Nat} {K : Nat → Prop} {encs : α → List Value} {xs : List α} {St : List α → World → Prop} {Pop : List α → α → World → World → Prop}
    (hf : ev E f = .func (.func gf) #[] caps) (hent : ∀ args (w : World), (callFunc gf args).run P w = .ok (.enter gf args) w) (hps : (ps.all fun p => Nat.blt p n) = true) (henc : ∀ x, (encs x).length = ps.length)
    (lp dd : Nat) (mark : List Deferred) (w1 : World) (hD : World → Prop) (fn : FuncId) (a : Act) (ha1 : a.tmps.size = n) (ha2 : env a = E) (ha3 : a.defers = ds)
    (he : (Instr.enterLoop fn a.tmps ps.toArray assign body r).run P w = .ok (lp, mark) w1) (hL1 : w1.heap[lp]? = some (.loop { state := .ready, pending := none, fn, tmps := a.tmps, params := ps.toArray, assign, body, defers := dd }))
    (hD1 : hD w1) (hDl : ∀ A B, hD A → Chg (lp :: bs) A B → hD B) (hDK : ∀ (A B : World) (K' : Nat → Prop), hD A → Kept (fun k => k = lp ∨ (mark ≠ [] ∧ k = dd) ∨ K' k) A B → hD B)
    (hlb : lp ∉ bs)
    (I : List α → World → Prop) (Ix : Code → List α → World → Prop) (hit : IterG P gf caps.toList encs xs St Pop) (hSt : ∀ pre A, I pre A → St pre A) (hPop : ∀ pre x A B, Pop pre x A B → Chg bs A B) (h0 : I [] w1)
    (hI : ∀ pre A B, I pre A → Chg [lp] A B → I pre B) (hIx : ∀ c pre A B, Ix c pre A → Chg [lp] A B → Ix c pre B)
    (hbody : ∀ pre x rest A0 A, xs = pre ++ x :: rest → I pre A0 → Pop pre x A0 A → (∃ rec, A.heap[lp]? = some (.loop rec)) →
      wp P (some lp) n assign (thenP (fun E1 _ A1 => Kept (fun k => k = lp ∨ (mark ≠ [] ∧ k = dd) ∨ K k) A A1 ∧ ∀ ds1 A2, Chg [lp] A1 A2 → (∃ rec, A2.heap[lp]? = some (.loop rec)) →
        wp P (some lp) n body (roundP (fun k => k = lp ∨ (mark ≠ [] ∧ k = dd) ∨ K k) A2 (I (pre ++ [x])) (fun c B => Ix c (pre ++ [x]) B)) E1 ds1 A2) (fun _ _ _ _ => False)) (upds E (zipV ps (encs x))) [] A)
    (hKl : ¬ K lp)
    (hdone : ∀ W, I xs W → hD W → Q .normal E (mark ++ ds) W) (hstop : ∀ c pre W, Ix c pre W → hD W → wp P r n c Q E (mark ++ ds) W) :
    ∃ (l : Nat) (mark : List Deferred) (w₁ : World) (d : Deferred) (w₁' : World) (f' : FuncId) (args : Array Value) (w₂ : World),
      (Instr.enterLoop fn a.tmps ps.toArray assign body (WF r).round).run P w = .ok (l, mark) w₁ ∧
      (resolve a.eval (rangeCall f l) 0).run P w₁ = .ok d w₁' ∧
      (∀ f', Target.leads P w₁' d.target d.args = some f' → (WF r).fn f') ∧
      (invoke d.target d.args).run P w₁' = .ok (.enter f' args) w₂ ∧
      ((WF r).depth.isSome = true → 1 ≤ 0) ∧
      CallsIn (WF r) (0 - 1) P f' args w₂ (rangePost (WF r) 0 P l (toQ n Q) { a with defers := mark ++ a.defers }) := by
  let rec0 : LoopState → Option Code → Loop := fun st pe => { state := st, pending := pe, fn, tmps := a.tmps, params := ps.toArray, assign, body, defers := dd }
  have hL1 : w1.heap[lp]? = some (.loop (rec0 .ready none)) := hL1
  refine ⟨lp, mark, w1, { target := .fn (.func gf) caps, args := #[.func (.yield lp) #[] #[]] }, w1, gf, #[.func (.yield lp) #[] #[]] ++ caps, w1, by cases r <;> exact he, ?_, fun _ _ => trivial, ?_, fun hh => by simp [WF, Fence.wide] at hh, ?_⟩
  · rw [ev_env, ha2]
    simp only [resolve, hf]
    simp [Deferred.ofValue, go_sem, ev]
  · simp [invoke, go_sem, hent]
  · have hcall := hit lp (fun pre W => I pre W ∧ W.heap[lp]? = some (.loop (rec0 .ready none)) ∧ hD W) (fun pre W => ∃ c, Ix c pre W ∧ W.heap[lp]? = some (.loop (rec0 .done (some c))) ∧ hD W) w1
      (fun pre A hJ => hSt pre A hJ.1)
      (fun pre x rest A0 A hx ⟨q1, q02, q03⟩ hpop => by
        have hcp := hPop _ _ _ _ hpop
        have q2 : A.heap[lp]? = some (.loop (rec0 .ready none)) := (hcp.block lp (Array.getElem?_eq_some_iff.1 q02).1 hlb).trans q02
        have q3 : hD A := hDl _ _ q03 (hcp.mono fun x hx => by simp [hx])
        have hlt : lp < A.heap.size := (Array.getElem?_eq_some_iff.1 q2).1
        have hy := run_yield (P := P) (args := ⟨encs x⟩) q2 (by simp [rec0, henc])
        have htm : ((rec0 .ready none).params.zip ⟨encs x⟩).foldl (fun tmps (t, a) => tmps.setIfInBounds t a) (rec0 .ready none).tmps = (ps.zip (encs x)).foldl (fun t (p : Nat × Value) => t.setIfInBounds p.1 p.2) a.tmps := by
          simp only [rec0]; rw [← Array.foldl_toList]; simp [Array.toList_zip]
        refine ⟨_, _, _, _, hy, roundIn_of_wpIn trivial ?_⟩
        have hE : env { tmps := (ps.zip (encs x)).foldl (fun t (p : Nat × Value) => t.setIfInBounds p.1 p.2) a.tmps, defers := [] } = upds E (zipV ps (encs x)) := by
          rw [env_zip ps (encs x) a (by rw [ha1]; exact hps), ha2]
        have hw := hbody pre x rest A0 A hx q1 hpop ⟨_, q2⟩ { tmps := (ps.zip (encs x)).foldl (fun t (p : Nat × Value) => t.setIfInBounds p.1 p.2) a.tmps, defers := [] } (by rw [zip_size]; exact ha1) hE rfl
        have hw' : assign.wpIn (Fence.wide.inRound lp) 0 P (toQ n (thenP (fun E1 _ A1 => Kept (fun k => k = lp ∨ (mark ≠ [] ∧ k = dd) ∨ K k) A A1 ∧ ∀ ds1 A2, Chg [lp] A1 A2 → (∃ rec, A2.heap[lp]? = some (.loop rec)) →
            wp P (some lp) n body (roundP (fun k => k = lp ∨ (mark ≠ [] ∧ k = dd) ∨ K k) A2 (I (pre ++ [x])) (fun c B => Ix c (pre ++ [x]) B)) E1 ds1 A2) (fun _ _ _ _ => False)))
            { tmps := (ps.zip (encs x)).foldl (fun t (p : Nat × Value) => t.setIfInBounds p.1 p.2) a.tmps, defers := [] } A := hw
        rw [htm]
        refine wpIn_mono hw' ?_
        rintro e a1 A1 ⟨s1, s2⟩
        cases e with
        | normal =>
          obtain ⟨hk, hb⟩ := s2
          have hl1 : A1.heap[lp]? = some (.loop (rec0 .ready none)) := (hk.2 lp (.inl rfl) hlt).trans q2
          have hlt1 : lp < A1.heap.size := (Array.getElem?_eq_some_iff.1 hl1).1
          refine ⟨_, run_beginRound hl1 rfl, ?_⟩
          have hl2 : (A1.putObj lp (.loop { rec0 .ready none with state := .busy })).heap[lp]? = some (.loop { rec0 .ready none with state := .busy }) := World.putObj_heap_same hlt1
          have hD2 : hD (A1.putObj lp (.loop { rec0 .ready none with state := .busy })) := hDl _ _ (hDK A A1 K q3 hk) ((Chg.putObj A1 lp _).mono fun x hx => by simp at hx; simp [hx])
          have hb2 := hb a1.defers _ (Chg.putObj A1 lp (.loop { rec0 .ready none with state := .busy })) ⟨_, hl2⟩ a1 s1 rfl rfl
          have hb3 : body.wpIn (Fence.wide.inRound lp) 0 P (toQ n (roundP (fun k => k = lp ∨ (mark ≠ [] ∧ k = dd) ∨ K k) (A1.putObj lp (.loop { rec0 .ready none with state := .busy })) (I (pre ++ [x])) (fun c B => Ix c (pre ++ [x]) B))) a1 (A1.putObj lp (.loop { rec0 .ready none with state := .busy })) := hb2
          refine wpIn_mono hb3 ?_
          have fin : ∀ (jump : Option Code) (B : World), Kept (fun k => k = lp ∨ (mark ≠ [] ∧ k = dd) ∨ K k) (A1.putObj lp (.loop { rec0 .ready none with state := .busy })) B →
              (Instr.endRound lp jump).run P B = .ok (.bool jump.isNone) (B.putObj lp (.loop (rec0 (if jump.isNone then .ready else .done) jump))) ∧
              (B.putObj lp (.loop (rec0 (if jump.isNone then .ready else .done) jump))).heap[lp]? = some (.loop (rec0 (if jump.isNone then .ready else .done) jump)) ∧
              hD (B.putObj lp (.loop (rec0 (if jump.isNone then .ready else .done) jump))) ∧ Chg [lp] B (B.putObj lp (.loop (rec0 (if jump.isNone then .ready else .done) jump))) ∧
              Kept K A (B.putObj lp (.loop (rec0 (if jump.isNone then .ready else .done) jump))) := fun jump B hk2 => by
            have hs2 : lp < (A1.putObj lp (.loop { rec0 .ready none with state := .busy })).heap.size := by simpa using hlt1
            have hl3 := (hk2.2 lp (.inl rfl) hs2).trans hl2
            have hr := run_endRound (P := P) jump hl3
            have hc : Chg [lp] B (B.putObj lp (.loop (rec0 (if jump.isNone then .ready else .done) jump))) := Chg.putObj _ _ _
            refine ⟨hr, World.putObj_heap_same (Array.getElem?_eq_some_iff.1 hl3).1, hDl _ _ (hDK _ B K hD2 hk2) (hc.mono fun x hx => by simp at hx; simp [hx]), hc, ?_, fun k hk3 hk4 => ?_⟩
            · have h1 := hk.1; have h2 := hk2.1; simp at h2 ⊢; omega
            · have hne : k ≠ lp := fun e => hKl (by rw [← e]; exact hk3)
              rw [World.putObj_heap_other hne, hk2.2 k (.inr (.inr hk3)) (by have := hk.1; simp; omega), World.putObj_heap_other hne, hk.2 k (.inr (.inr hk3)) hk4]
          have mono1 : ∀ {A B : World}, Chg [lp] A B → Chg (lp :: bs) A B := fun h => h.mono fun x hx => by simp at hx; simp [hx]
          rintro e a3 B ⟨t1, t2⟩
          cases e with
          | normal =>
            obtain ⟨hr, hl4, hD4, hc4, hk4⟩ := fin none B t2.1
            exact ⟨_, _, hr, true, rfl, .inl ⟨rfl, hI _ _ _ t2.2 hc4, hl4, hD4⟩⟩
          | ret =>
            obtain ⟨hr, hl4, hD4, hc4, hk4⟩ := fin (some .ret) B t2.1
            exact ⟨_, _, hr, false, rfl, .inr ⟨rfl, .ret, hIx _ _ _ _ t2.2 hc4, hl4, hD4⟩⟩
          | exit i =>
            obtain ⟨hr, hl4, hD4, hc4, hk4⟩ := fin (some (.exit i)) B t2.1
            exact ⟨_, _, hr, false, rfl, .inr ⟨rfl, .exit i, hIx _ _ _ _ t2.2 hc4, hl4, hD4⟩⟩
          | goto t =>
            obtain ⟨hr, hl4, hD4, hc4, hk4⟩ := fin (some (.goto t)) B t2.1
            exact ⟨_, _, hr, false, rfl, .inr ⟨rfl, .goto t, hIx _ _ _ _ t2.2 hc4, hl4, hD4⟩⟩
          | panic c => exact t2.elim
          | outgrown => exact t2.elim
        | exit i => exact s2.elim
        | goto t => exact s2.elim
        | ret => exact s2.elim
        | panic c => exact s2.elim
        | outgrown => exact s2.elim)
      ⟨h0, hL1, hD1⟩
    have hargs : (#[.func (.yield lp) #[] #[]] ++ caps : Array Value) = ⟨.func (.yield lp) #[] #[] :: caps.toList⟩ := by
      apply Array.ext'; simp
    rw [hargs]
    refine CallsIn.mono (callsIn_of_calls hcall) ?_
    have mono1 : ∀ {A B : World}, Chg [lp] A B → Chg (lp :: bs) A B := fun h => h.mono fun x hx => by simp at hx; simp [hx]
    rintro e W2 ⟨v, rfl, (⟨q1, q2, q3⟩ | ⟨pre, c, q1, q2, q3⟩)⟩
    · refine ⟨none, _, run_endLoop q2 (by simp [rec0]), ?_⟩
      have hc := Chg.putObj W2 lp (.loop { rec0 .ready none with state := .exhausted })
      refine ⟨ha1, ?_⟩
      have := hdone _ (hI _ _ _ q1 hc) (hDl _ _ q3 (mono1 hc))
      rw [← ha2, ← ha3] at this
      exact this
    · refine ⟨some c, _, run_endLoop q2 (by simp [rec0]), ?_⟩
      have hc := Chg.putObj W2 lp (.loop { rec0 .done (some c) with state := .exhausted })
      exact hstop c pre _ (hIx _ _ _ _ q1 hc) (hDl _ _ q3 (mono1 hc)) _ ha1 ha2 (by rw [ha3])
/-- At an outermost loop. -/
theorem x_rangeG {α : Type} {f : Operand} {ps : List Nat} {assign body : Code} {gf : FuncId} {caps : Array Value} {bs : List Nat} {K : Nat → Prop} {encs : α → List Value} {xs : List α} {St : List α → World → Prop} {Pop : List α → α → World → World → Prop}
    (hf : ev E f = .func (.func gf) #[] caps) (hent : ∀ args (w : World), (callFunc gf args).run P w = .ok (.enter gf args) w) (hps : (ps.all fun p => Nat.blt p n) = true) (henc : ∀ x, (encs x).length = ps.length) (hbs : ∀ b, b ∈ bs → b < w.heap.size) (hK : ∀ k, K k → k < w.heap.size)
    (hit : IterG P gf caps.toList encs xs St Pop) (hPop : ∀ pre x A B, Pop pre x A B → Chg bs A B)
    (h : ∀ (D lp : Nat) (w1 : World), w.heap.size ≤ D → w.heap.size ≤ lp → D ≠ lp → D < w1.heap.size → lp < w1.heap.size → Chg [] w w1 → ∃ (I : List α → World → Prop) (Ix : Code → List α → World → Prop), I [] w1 ∧
      (∀ pre A, I pre A → St pre A) ∧ (∀ pre A B, I pre A → Chg [lp] A B → I pre B) ∧ (∀ c pre A B, Ix c pre A → Chg [lp] A B → Ix c pre B) ∧
      (∀ pre x rest A0 A, xs = pre ++ x :: rest → I pre A0 → Pop pre x A0 A → (∃ rec, A.heap[lp]? = some (.loop rec)) →
        wp P (some lp) n assign (thenP (fun E1 _ A1 => Kept (fun k => k = lp ∨ k = D ∨ K k) A A1 ∧ ∀ ds1 A2, Chg [lp] A1 A2 → (∃ rec, A2.heap[lp]? = some (.loop rec)) →
          wp P (some lp) n body (roundP (fun k => k = lp ∨ k = D ∨ K k) A2 (I (pre ++ [x])) (fun c B => Ix c (pre ++ [x]) B)) E1 ds1 A2) (fun _ _ _ _ => False)) (upds E (zipV ps (encs x))) [] A) ∧
      (∀ W, I xs W → DefD D W → Q .normal E (mk D :: ds) W) ∧ (∀ c pre W, Ix c pre W → DefD D W → wp P none n c Q E (mk D :: ds) W)) :
    wp P none n (.rangeFunc f ps.toArray assign body) Q E ds w := by
  intro a ha1 ha2 ha3
  refine wpIn_rangeFunc ?_
  intro fn hfn
  obtain ⟨W1, hW1⟩ : ∃ W1, (w.alloc (.deferred (some []))).alloc (.loop { state := .ready, pending := none, fn, tmps := a.tmps, params := ps.toArray, assign, body, defers := w.heap.size }) = W1 := ⟨_, rfl⟩
  have hc1 : Chg [] w W1 := by rw [← hW1]; exact (Chg.alloc w _).then (Chg.alloc _ _)
  have hL1 : W1.heap[w.heap.size + 1]? = some (.loop { state := .ready, pending := none, fn, tmps := a.tmps, params := ps.toArray, assign, body, defers := w.heap.size }) := by
    rw [← hW1]; have := World.alloc_heap_new (w.alloc (.deferred (some []))) (.loop { state := .ready, pending := none, fn, tmps := a.tmps, params := ps.toArray, assign, body, defers := w.heap.size }); rwa [World.size_alloc] at this
  have hD1 : DefD w.heap.size W1 := by
    rw [← hW1]; exact (Below.heap_alloc _ _ _ (by simp)).trans (World.alloc_heap_new w _)
  obtain ⟨I, Ix, h0, hSt, hI, hIx, hb, hd, hs⟩ := h w.heap.size (w.heap.size + 1) W1 (Nat.le_refl _) (Nat.le_succ _) (by omega) (Array.getElem?_eq_some_iff.1 hD1).1 (Array.getElem?_eq_some_iff.1 hL1).1 hc1
  have hDn : w.heap.size ∉ (w.heap.size + 1) :: bs := fun hx => by
    rcases List.mem_cons.1 hx with h | h
    · omega
    · have := hbs _ h; omega
  refine rangeG_core (K := K) (r := none) hf hent hps henc (w.heap.size + 1) w.heap.size [mk w.heap.size] W1 (DefD w.heap.size) fn a ha1 ha2 ha3 ?_ hL1 hD1
    (fun A B hA hc => (hc.block _ (Array.getElem?_eq_some_iff.1 hA).1 hDn).trans hA) (fun A B K' hA hk => (hk.2 _ (.inr (.inl ⟨by simp, rfl⟩)) (Array.getElem?_eq_some_iff.1 hA).1).trans hA)
    (fun hx => by have := hbs _ hx; omega) I Ix hit hSt hPop h0 hI hIx ?_ (fun hx => by have := hK _ hx; omega) hd hs
  · rw [← hW1]; exact run_enterLoop_outer _ _ _ _ _
  · intro pre x rest A0 A hx hi hp hr
    refine x_mono (hb pre x rest A0 A hx hi hp hr) ?_
    have hkk : ∀ {A B : World}, Kept (fun k => k = w.heap.size + 1 ∨ k = w.heap.size ∨ K k) A B → Kept (fun k => k = w.heap.size + 1 ∨ ([mk w.heap.size] ≠ [] ∧ k = w.heap.size) ∨ K k) A B := fun h => ⟨h.1, fun k hk hl => h.2 k (hk.elim .inl (fun h => h.elim (fun h => .inr (.inl h.2)) (fun h => .inr (.inr h)))) hl⟩
    intro e E1 ds1 A1 hq
    cases e with
    | normal =>
      obtain ⟨k1, k2⟩ := hq
      refine ⟨hkk k1, fun ds2 A2 hc hr2 => x_mono (k2 ds2 A2 hc hr2) ?_⟩
      intro e E3 ds3 A3 hq3
      cases e with
      | normal => exact ⟨hkk hq3.1, hq3.2⟩
      | ret => exact ⟨hkk hq3.1, hq3.2⟩
      | exit i => exact ⟨hkk hq3.1, hq3.2⟩
      | goto i => exact ⟨hkk hq3.1, hq3.2⟩
      | panic c => exact hq3
      | outgrown => exact hq3
    | _ => exact hq
end Go.Proofs.YtpelmhoocepenaaGreatDoor.K
