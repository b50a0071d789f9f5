import Derived.Test.YtncnalboiljgiaaGreatKitE
import Derived.Laws.BytesString
import Derived.Lib.ConvBytes
import Derived.Deep.Slices
import Derived.ChangeMaps5
import Derived.SizedLaws
import Derived.WideShapes
import Derived.Carry
import Derived.Laws.StructEq
import Derived.Laws.Cover3
import Derived.Laws.Pointers
import Derived.Lib.FrozenHead
import Derived.Lib.UnsafeStr
set_option linter.unusedVariables false
set_option linter.unusedSimpArgs false
set_option autoImplicit false
namespace Go.Proofs.YtncnalboiljgiaaGreat.K
open Go Go.RowKit
variable {P : Program} {r : Option Nat} {n : Nat} {O : Array Oper} {Q : Post} {E : Env} {ds : List Deferred} {w : World} {l : List Oper}
def Kept (K : Nat → Prop) (A B : World) : Prop := A.heap.size ≤ B.heap.size ∧ ∀ k, K k → k < A.heap.size → B.heap[k]? = A.heap[k]?
theorem Chg.putObj (w : World) (k : Nat) (o : Obj) : Chg [k] w (w.putObj k o) := ⟨rfl, rfl, rfl, by simp, fun j _ hj => World.putObj_heap_other (by simpa using hj)⟩
def RoundR (P : Program) (lp : Nat) (vs : List Value) (A : World) (Ψ : Bool → World → Prop) : Prop :=
  ∃ fn tmps assign body, (Instr.yield lp ⟨vs⟩).run P A = .ok (.round lp fn tmps assign body) A ∧ RoundIn Fence.wide 0 P lp fn tmps assign body A fun e B => ∃ b, e = .returned (.bool b) ∧ Ψ b B
theorem okd_lt {o : Oper} {k : Nat} (h : okd n o = true) (hk : o.dst = some k) : k < n := by simp only [okd, hk] at h; simpa [Nat.blt_eq] using h
section
variable {dst : Option Nat} {ty : TypeId} {pos : String} {af : Array Edge} {g : Option (Nat × Bool)}
theorem roundIn_WF {lp : Nat} {f : FuncId} {tmps : Array Value} {assign body : Code} {R : Ending → World → Prop} (h : RoundIn Fence.wide 0 P lp f tmps assign body w R) : RoundIn (WF r) 0 P lp f tmps assign body w R := by
  cases r with
  | none => exact h
  | some k => exact h
theorem st_yield {c : Call} {lp : Nat} {vs : List Value} {x : Operand} {Ψ : Bool → World → Prop} {aa bb : Array Value} (hcal : c.callee = .value x) (hf : ev E x = .func (.yield lp) aa bb) (haa : aa = #[]) (has : c.args.toList.map (ev E) = vs) (hR : RoundR P lp vs w Ψ)
    (h : ∀ b w', Ψ b w' → wops P r n O Q l (updo E dst (.bool b)) ds w') : wop P r n O Q ⟨dst, .call c, ty, pos, af, g⟩ l E ds w := by
  obtain ⟨fn, tmps, assign, body, h1, h2⟩ := hR
  intro hok hl a ha1 ha2 ha3
  refine ⟨fun _ _ => trivial, ?_⟩
  have hrun : (execOp (ev E) ⟨dst, .call c, ty, pos, af, g⟩).run P w = .ok (.round lp fn tmps assign body) w := by
    subst haa
    replace has : c.args.map (ev E) = ⟨vs⟩ := Array.ext' (by simpa using has)
    simp only [execOp, resolve, hcal, hf, Deferred.ofValue, invoke, has, Sem.run_bind, Sem.run_pure, Result.andThen]
    simp only [Array.empty_append, List.append_toArray, List.nil_append, h1]
  rw [ev_env, ha2, Oper.semAt_eq _ _ _ (fun _ => by simp), hrun]
  refine ⟨fun hh => by simp [WF, Fence.wide] at hh, RoundIn.mono (roundIn_WF h2) ?_⟩
  rintro e w' ⟨b, rfl, hb⟩
  refine h b w' hb hl _ (by rw [put_size]; exact ha1) ?_ (by rw [put_defers]; exact ha3)
  rw [env_puto _ _ _ (fun k hk' => by rw [ha1]; exact okd_lt hok hk'), ha2]
end
def Iter (P : Program) (gf : FuncId) (caps : List Value) (bs : List Nat) (K : Nat → Prop) {α : Type} (encs : α → List Value) (xs : List α) (w : World) : Prop :=
  ∀ (lp : Nat) (J Jx : List α → World → Prop) (W : World), w.heap.size ≤ W.heap.size → (∀ k, k < w.heap.size → K k → W.heap[k]? = w.heap[k]?) →
    (∀ pre A B, J pre A → Chg bs A B → J pre B) → (∀ pre A B, Jx pre A → Chg bs A B → Jx pre B) →
    (∀ pre x rest A, xs = pre ++ x :: rest → J pre A → RoundR P lp (encs x) A fun b B => Kept K A B ∧ ((b = true ∧ J (pre ++ [x]) B) ∨ (b = false ∧ Jx (pre ++ [x]) B))) →
    J [] W → CallR P gf ⟨.func (.yield lp) #[] #[] :: caps⟩ W fun _ W' => J xs W' ∨ ∃ pre, Jx pre W'
def roundP (K : Nat → Prop) (A : World) (I : World → Prop) (Ix : Code → World → Prop) : Post
  | .normal, _, _, B => Kept K A B ∧ I B
  | .ret, _, _, B => Kept K A B ∧ Ix .ret B
  | .exit i, _, _, B => Kept K A B ∧ Ix (.exit i) B
  | .goto t, _, _, B => Kept K A B ∧ Ix (.goto t) B
  | .panic _, _, _, _ => False
  | .outgrown, _, _, _ => False
def zipV : List Nat → List Value → List (Nat × Value)
  | p :: ps, v :: vs => (p, v) :: zipV ps vs
  | _, _ => []
theorem env_zip : ∀ (ps : List Nat) (vs : List Value) (a : Act), (ps.all fun p => Nat.blt p a.tmps.size) = true → env { tmps := (ps.zip vs).foldl (fun t (p : Nat × Value) => t.setIfInBounds p.1 p.2) a.tmps, defers := [] } = upds (env a) (zipV ps vs)
  | [], vs, a, h => by cases vs <;> rfl
  | p :: ps, [], a, h => rfl
  | p :: ps, v :: vs, a, h => by
    simp only [List.all_cons, Bool.and_eq_true] at h
    have hp : p < a.tmps.size := by simpa [Nat.blt_eq] using h.1
    have := env_zip ps vs (a.put (some p) v) (by rw [put_size]; exact h.2)
    rw [env_put a p v hp] at this
    exact this
theorem zip_size : ∀ (ps : List Nat) (vs : List Value) (t : Array Value), ((ps.zip vs).foldl (fun t (p : Nat × Value) => t.setIfInBounds p.1 p.2) t).size = t.size
  | [], vs, t => by cases vs <;> rfl
  | p :: ps, [], t => rfl
  | p :: ps, v :: vs, t => by simp only [List.zip_cons_cons, List.foldl_cons]; rw [zip_size ps vs]; simp
theorem range_core {α : Type} {f : Operand} {ps : List Nat} {assign body : Code} {gf : FuncId} {caps : Array Value} {bs : List Nat} {K : Nat → Prop} {encs : α → List Value} {xs : List α}
    (hf : ev E f = .func (.func gf) #[] caps) (hent : ∀ args (w : World), (callFunc gf args).run P w = .ok (.enter gf args) w) (hps : (ps.all fun p => Nat.blt p n) = true) (henc : ∀ x, (encs x).length = ps.length)
    (lp dd : Nat) (mark : List Deferred) (w1 : World) (hD : World → Prop) (fn : FuncId) (a : Act) (ha1 : a.tmps.size = n) (ha2 : env a = E) (ha3 : a.defers = ds)
    (he : (Instr.enterLoop fn a.tmps ps.toArray assign body r).run P w = .ok (lp, mark) w1) (hL1 : w1.heap[lp]? = some (.loop { state := .ready, pending := none, fn, tmps := a.tmps, params := ps.toArray, assign, body, defers := dd }))
    (hD1 : hD w1) (hDl : ∀ A B, hD A → Chg (lp :: bs) A B → hD B) (hDK : ∀ (A B : World) (K' : Nat → Prop), hD A → Kept (fun k => k = lp ∨ (mark ≠ [] ∧ k = dd) ∨ K' k) A B → hD B)
    (hlb : lp ∉ bs)
    (I : List α → World → Prop) (Ix : Code → List α → World → Prop) (hit : Iter P gf caps.toList bs K encs xs w1) (h0 : I [] w1)
    (hI : ∀ pre A B, I pre A → Chg (lp :: bs) A B → I pre B) (hIx : ∀ c pre A B, Ix c pre A → Chg (lp :: bs) A B → Ix c pre B)
    (hbody : ∀ pre x rest A, xs = pre ++ x :: rest → I pre A → (∃ rec, A.heap[lp]? = some (.loop rec)) →
      wp P (some lp) n assign (thenP (fun E1 _ A1 => Kept (fun k => k = lp ∨ (mark ≠ [] ∧ k = dd) ∨ K k) A A1 ∧ ∀ ds1 A2, Chg [lp] A1 A2 → (∃ rec, A2.heap[lp]? = some (.loop rec)) →
        wp P (some lp) n body (roundP (fun k => k = lp ∨ (mark ≠ [] ∧ k = dd) ∨ K k) A2 (I (pre ++ [x])) (fun c B => Ix c (pre ++ [x]) B)) E1 ds1 A2) (fun _ _ _ _ => False)) (upds E (zipV ps (encs x))) [] A)
    (hKl : ¬ K lp)
    (hdone : ∀ W, I xs W → hD W → Q .normal E (mark ++ ds) W) (hstop : ∀ c pre W, Ix c pre W → hD W → wp P r n c Q E (mark ++ ds) W) :
    ∃ (l : Nat) (mark : List Deferred) (w₁ : World) (d : Deferred) (w₁' : World) (f' : FuncId) (args : Array Value) (w₂ : World),
      (Instr.enterLoop fn a.tmps ps.toArray assign body (WF r).round).run P w = .ok (l, mark) w₁ ∧
      (resolve a.eval (rangeCall f l) 0).run P w₁ = .ok d w₁' ∧
      (∀ f', Target.leads P w₁' d.target d.args = some f' → (WF r).fn f') ∧
      (invoke d.target d.args).run P w₁' = .ok (.enter f' args) w₂ ∧
      ((WF r).depth.isSome = true → 1 ≤ 0) ∧
      CallsIn (WF r) (0 - 1) P f' args w₂ (rangePost (WF r) 0 P l (toQ n Q) { a with defers := mark ++ a.defers }) := by
  let rec0 : LoopState → Option Code → Loop := fun st pe => { state := st, pending := pe, fn, tmps := a.tmps, params := ps.toArray, assign, body, defers := dd }
  have hL1 : w1.heap[lp]? = some (.loop (rec0 .ready none)) := hL1
  refine ⟨lp, mark, w1, { target := .fn (.func gf) caps, args := #[.func (.yield lp) #[] #[]] }, w1, gf, #[.func (.yield lp) #[] #[]] ++ caps, w1, by cases r <;> exact he, ?_, fun _ _ => trivial, ?_, fun hh => by simp [WF, Fence.wide] at hh, ?_⟩
  · rw [ev_env, ha2]
    simp only [resolve, hf]
    simp [Deferred.ofValue, go_sem, ev]
  · simp [invoke, go_sem, hent]
  · have hcall := hit lp (fun pre W => I pre W ∧ W.heap[lp]? = some (.loop (rec0 .ready none)) ∧ hD W) (fun pre W => ∃ c, Ix c pre W ∧ W.heap[lp]? = some (.loop (rec0 .done (some c))) ∧ hD W) w1 (Nat.le_refl _) (fun _ _ _ => rfl)
      (fun pre A B ⟨q1, q2, q3⟩ hc => ⟨hI pre A B q1 (hc.mono fun x hx => by simp [hx]), (hc.block lp (Array.getElem?_eq_some_iff.1 q2).1 hlb).trans q2, hDl A B q3 (hc.mono fun x hx => by simp [hx])⟩)
      (fun pre A B ⟨c, q1, q2, q3⟩ hc => ⟨c, hIx c pre A B q1 (hc.mono fun x hx => by simp [hx]), (hc.block lp (Array.getElem?_eq_some_iff.1 q2).1 hlb).trans q2, hDl A B q3 (hc.mono fun x hx => by simp [hx])⟩)
      (fun pre x rest A hx ⟨q1, q2, q3⟩ => by
        have hlt : lp < A.heap.size := (Array.getElem?_eq_some_iff.1 q2).1
        have hy := run_yield (P := P) (args := ⟨encs x⟩) q2 (by simp [rec0, henc])
        have htm : ((rec0 .ready none).params.zip ⟨encs x⟩).foldl (fun tmps (t, a) => tmps.setIfInBounds t a) (rec0 .ready none).tmps = (ps.zip (encs x)).foldl (fun t (p : Nat × Value) => t.setIfInBounds p.1 p.2) a.tmps := by
          simp only [rec0]; rw [← Array.foldl_toList]; simp [Array.toList_zip]
        refine ⟨_, _, _, _, hy, roundIn_of_wpIn trivial ?_⟩
        have hE : env { tmps := (ps.zip (encs x)).foldl (fun t (p : Nat × Value) => t.setIfInBounds p.1 p.2) a.tmps, defers := [] } = upds E (zipV ps (encs x)) := by
          rw [env_zip ps (encs x) a (by rw [ha1]; exact hps), ha2]
        have hw := hbody pre x rest A hx q1 ⟨_, q2⟩ { tmps := (ps.zip (encs x)).foldl (fun t (p : Nat × Value) => t.setIfInBounds p.1 p.2) a.tmps, defers := [] } (by rw [zip_size]; exact ha1) hE rfl
        have hw' : assign.wpIn (Fence.wide.inRound lp) 0 P (toQ n (thenP (fun E1 _ A1 => Kept (fun k => k = lp ∨ (mark ≠ [] ∧ k = dd) ∨ K k) A A1 ∧ ∀ ds1 A2, Chg [lp] A1 A2 → (∃ rec, A2.heap[lp]? = some (.loop rec)) →
            wp P (some lp) n body (roundP (fun k => k = lp ∨ (mark ≠ [] ∧ k = dd) ∨ K k) A2 (I (pre ++ [x])) (fun c B => Ix c (pre ++ [x]) B)) E1 ds1 A2) (fun _ _ _ _ => False)))
            { tmps := (ps.zip (encs x)).foldl (fun t (p : Nat × Value) => t.setIfInBounds p.1 p.2) a.tmps, defers := [] } A := hw
        rw [htm]
        refine wpIn_mono hw' ?_
        rintro e a1 A1 ⟨s1, s2⟩
        cases e with
        | normal =>
          obtain ⟨hk, hb⟩ := s2
          have hl1 : A1.heap[lp]? = some (.loop (rec0 .ready none)) := (hk.2 lp (.inl rfl) hlt).trans q2
          have hlt1 : lp < A1.heap.size := (Array.getElem?_eq_some_iff.1 hl1).1
          refine ⟨_, run_beginRound hl1 rfl, ?_⟩
          have hl2 : (A1.putObj lp (.loop { rec0 .ready none with state := .busy })).heap[lp]? = some (.loop { rec0 .ready none with state := .busy }) := World.putObj_heap_same hlt1
          have hD2 : hD (A1.putObj lp (.loop { rec0 .ready none with state := .busy })) := hDl _ _ (hDK A A1 K q3 hk) ((Chg.putObj A1 lp _).mono fun x hx => by simp at hx; simp [hx])
          have hb2 := hb a1.defers _ (Chg.putObj A1 lp (.loop { rec0 .ready none with state := .busy })) ⟨_, hl2⟩ a1 s1 rfl rfl
          have hb3 : body.wpIn (Fence.wide.inRound lp) 0 P (toQ n (roundP (fun k => k = lp ∨ (mark ≠ [] ∧ k = dd) ∨ K k) (A1.putObj lp (.loop { rec0 .ready none with state := .busy })) (I (pre ++ [x])) (fun c B => Ix c (pre ++ [x]) B))) a1 (A1.putObj lp (.loop { rec0 .ready none with state := .busy })) := hb2
          refine wpIn_mono hb3 ?_
          have fin : ∀ (jump : Option Code) (B : World), Kept (fun k => k = lp ∨ (mark ≠ [] ∧ k = dd) ∨ K k) (A1.putObj lp (.loop { rec0 .ready none with state := .busy })) B →
              (Instr.endRound lp jump).run P B = .ok (.bool jump.isNone) (B.putObj lp (.loop (rec0 (if jump.isNone then .ready else .done) jump))) ∧
              (B.putObj lp (.loop (rec0 (if jump.isNone then .ready else .done) jump))).heap[lp]? = some (.loop (rec0 (if jump.isNone then .ready else .done) jump)) ∧
              hD (B.putObj lp (.loop (rec0 (if jump.isNone then .ready else .done) jump))) ∧ Chg [lp] B (B.putObj lp (.loop (rec0 (if jump.isNone then .ready else .done) jump))) ∧
              Kept K A (B.putObj lp (.loop (rec0 (if jump.isNone then .ready else .done) jump))) := fun jump B hk2 => by
            have hs2 : lp < (A1.putObj lp (.loop { rec0 .ready none with state := .busy })).heap.size := by simpa using hlt1
            have hl3 := (hk2.2 lp (.inl rfl) hs2).trans hl2
            have hr := run_endRound (P := P) jump hl3
            have hc : Chg [lp] B (B.putObj lp (.loop (rec0 (if jump.isNone then .ready else .done) jump))) := Chg.putObj _ _ _
            refine ⟨hr, World.putObj_heap_same (Array.getElem?_eq_some_iff.1 hl3).1, hDl _ _ (hDK _ B K hD2 hk2) (hc.mono fun x hx => by simp at hx; simp [hx]), hc, ?_, fun k hk3 hk4 => ?_⟩
            · have h1 := hk.1; have h2 := hk2.1; simp at h2 ⊢; omega
            · have hne : k ≠ lp := fun e => hKl (by rw [← e]; exact hk3)
              rw [World.putObj_heap_other hne, hk2.2 k (.inr (.inr hk3)) (by have := hk.1; simp; omega), World.putObj_heap_other hne, hk.2 k (.inr (.inr hk3)) hk4]
          have mono1 : ∀ {A B : World}, Chg [lp] A B → Chg (lp :: bs) A B := fun h => h.mono fun x hx => by simp at hx; simp [hx]
          rintro e a3 B ⟨t1, t2⟩
          cases e with
          | normal =>
            obtain ⟨hr, hl4, hD4, hc4, hk4⟩ := fin none B t2.1
            exact ⟨_, _, hr, true, rfl, hk4, .inl ⟨rfl, hI _ _ _ t2.2 (mono1 hc4), hl4, hD4⟩⟩
          | ret =>
            obtain ⟨hr, hl4, hD4, hc4, hk4⟩ := fin (some .ret) B t2.1
            exact ⟨_, _, hr, false, rfl, hk4, .inr ⟨rfl, .ret, hIx _ _ _ _ t2.2 (mono1 hc4), hl4, hD4⟩⟩
          | exit i =>
            obtain ⟨hr, hl4, hD4, hc4, hk4⟩ := fin (some (.exit i)) B t2.1
            exact ⟨_, _, hr, false, rfl, hk4, .inr ⟨rfl, .exit i, hIx _ _ _ _ t2.2 (mono1 hc4), hl4, hD4⟩⟩
          | goto t =>
            obtain ⟨hr, hl4, hD4, hc4, hk4⟩ := fin (some (.goto t)) B t2.1
            exact ⟨_, _, hr, false, rfl, hk4, .inr ⟨rfl, .goto t, hIx _ _ _ _ t2.2 (mono1 hc4), hl4, hD4⟩⟩
          | panic c => exact t2.elim
          | outgrown => exact t2.elim
        | exit i => exact s2.elim
        | goto t => exact s2.elim
        | ret => exact s2.elim
        | panic c => exact s2.elim
        | outgrown => exact s2.elim)
      ⟨h0, hL1, hD1⟩
    have hargs : (#[.func (.yield lp) #[] #[]] ++ caps : Array Value) = ⟨.func (.yield lp) #[] #[] :: caps.toList⟩ := by
      apply Array.ext'; simp
    rw [hargs]
    refine CallsIn.mono (callsIn_of_calls hcall) ?_
    have mono1 : ∀ {A B : World}, Chg [lp] A B → Chg (lp :: bs) A B := fun h => h.mono fun x hx => by simp at hx; simp [hx]
    rintro e W2 ⟨v, rfl, (⟨q1, q2, q3⟩ | ⟨pre, c, q1, q2, q3⟩)⟩
    · refine ⟨none, _, run_endLoop q2 (by simp [rec0]), ?_⟩
      have hc := Chg.putObj W2 lp (.loop { rec0 .ready none with state := .exhausted })
      refine ⟨ha1, ?_⟩
      have := hdone _ (hI _ _ _ q1 (mono1 hc)) (hDl _ _ q3 (mono1 hc))
      rw [← ha2, ← ha3] at this
      exact this
    · refine ⟨some c, _, run_endLoop q2 (by simp [rec0]), ?_⟩
      have hc := Chg.putObj W2 lp (.loop { rec0 .done (some c) with state := .exhausted })
      exact hstop c pre _ (hIx _ _ _ _ q1 (mono1 hc)) (hDl _ _ q3 (mono1 hc)) _ ha1 ha2 (by rw [ha3])
def mk (D : Nat) : Deferred := { target := .collected D, args := #[] }
def DefD (D : Nat) (W : World) : Prop := W.heap[D]? = some (.deferred (some []))
theorem x_range {α : Type} {f : Operand} {ps : List Nat} {assign body : Code} {gf : FuncId} {caps : Array Value} {bs : List Nat} {K : Nat → Prop} {encs : α → List Value} {xs : List α}
    (hf : ev E f = .func (.func gf) #[] caps) (hent : ∀ args (w : World), (callFunc gf args).run P w = .ok (.enter gf args) w) (hps : (ps.all fun p => Nat.blt p n) = true) (henc : ∀ x, (encs x).length = ps.length) (hbs : ∀ b, b ∈ bs → b < w.heap.size) (hK : ∀ k, K k → k < w.heap.size)
    (hit : Iter P gf caps.toList bs K encs xs w)
    (h : ∀ (D lp : Nat) (w1 : World), w.heap.size ≤ D → w.heap.size ≤ lp → D ≠ lp → D < w1.heap.size → lp < w1.heap.size → Chg [] w w1 → ∃ (I : List α → World → Prop) (Ix : Code → List α → World → Prop), I [] w1 ∧
      (∀ pre A B, I pre A → Chg (lp :: bs) A B → I pre B) ∧ (∀ c pre A B, Ix c pre A → Chg (lp :: bs) A B → Ix c pre B) ∧
      (∀ pre x rest A, xs = pre ++ x :: rest → I pre A → (∃ rec, A.heap[lp]? = some (.loop rec)) →
        wp P (some lp) n assign (thenP (fun E1 _ A1 => Kept (fun k => k = lp ∨ k = D ∨ K k) A A1 ∧ ∀ ds1 A2, Chg [lp] A1 A2 → (∃ rec, A2.heap[lp]? = some (.loop rec)) →
          wp P (some lp) n body (roundP (fun k => k = lp ∨ k = D ∨ K k) A2 (I (pre ++ [x])) (fun c B => Ix c (pre ++ [x]) B)) E1 ds1 A2) (fun _ _ _ _ => False)) (upds E (zipV ps (encs x))) [] A) ∧
      (∀ W, I xs W → DefD D W → Q .normal E (mk D :: ds) W) ∧ (∀ c pre W, Ix c pre W → DefD D W → wp P none n c Q E (mk D :: ds) W)) :
    wp P none n (.rangeFunc f ps.toArray assign body) Q E ds w := by
  intro a ha1 ha2 ha3
  refine wpIn_rangeFunc ?_
  intro fn hfn
  obtain ⟨W1, hW1⟩ : ∃ W1, (w.alloc (.deferred (some []))).alloc (.loop { state := .ready, pending := none, fn, tmps := a.tmps, params := ps.toArray, assign, body, defers := w.heap.size }) = W1 := ⟨_, rfl⟩
  have hc1 : Chg [] w W1 := by rw [← hW1]; exact (Chg.alloc w _).then (Chg.alloc _ _)
  have hL1 : W1.heap[w.heap.size + 1]? = some (.loop { state := .ready, pending := none, fn, tmps := a.tmps, params := ps.toArray, assign, body, defers := w.heap.size }) := by
    rw [← hW1]; have := World.alloc_heap_new (w.alloc (.deferred (some []))) (.loop { state := .ready, pending := none, fn, tmps := a.tmps, params := ps.toArray, assign, body, defers := w.heap.size }); rwa [World.size_alloc] at this
  have hD1 : DefD w.heap.size W1 := by
    rw [← hW1]; exact (Below.heap_alloc _ _ _ (by simp)).trans (World.alloc_heap_new w _)
  obtain ⟨I, Ix, h0, hI, hIx, hb, hd, hs⟩ := h w.heap.size (w.heap.size + 1) W1 (Nat.le_refl _) (Nat.le_succ _) (by omega) (Array.getElem?_eq_some_iff.1 hD1).1 (Array.getElem?_eq_some_iff.1 hL1).1 hc1
  have hDn : w.heap.size ∉ (w.heap.size + 1) :: bs := fun hx => by
    rcases List.mem_cons.1 hx with h | h
    · omega
    · have := hbs _ h; omega
  refine range_core (r := none) hf hent hps henc (w.heap.size + 1) w.heap.size [mk w.heap.size] W1 (DefD w.heap.size) fn a ha1 ha2 ha3 ?_ hL1 hD1
    (fun A B hA hc => (hc.block _ (Array.getElem?_eq_some_iff.1 hA).1 hDn).trans hA) (fun A B K' hA hk => (hk.2 _ (.inr (.inl ⟨by simp, rfl⟩)) (Array.getElem?_eq_some_iff.1 hA).1).trans hA)
    (fun hx => by have := hbs _ hx; omega) I Ix ?_ h0 hI hIx ?_ (fun hx => by have := hK _ hx; omega) hd hs
  · rw [← hW1]; exact run_enterLoop_outer _ _ _ _ _
  · intro lp J Jx W hs' hk' h1 h2 h3 h4
    exact hit lp J Jx W (Nat.le_trans hc1.size hs') (fun k hk hK' => (hk' k (Nat.lt_of_lt_of_le hk hc1.size) hK').trans (hc1.block k hk (by simp))) h1 h2 h3 h4
  · intro pre x rest A hx hi hr
    refine x_mono (hb pre x rest A hx hi hr) ?_
    have hkk : ∀ {A B : World}, Kept (fun k => k = w.heap.size + 1 ∨ k = w.heap.size ∨ K k) A B → Kept (fun k => k = w.heap.size + 1 ∨ ([mk w.heap.size] ≠ [] ∧ k = w.heap.size) ∨ K k) A B := fun h => ⟨h.1, fun k hk hl => h.2 k (hk.elim .inl (fun h => h.elim (fun h => .inr (.inl h.2)) (fun h => .inr (.inr h)))) hl⟩
    intro e E1 ds1 A1 hq
    cases e with
    | normal =>
      obtain ⟨k1, k2⟩ := hq
      refine ⟨hkk k1, fun ds2 A2 hc hr2 => x_mono (k2 ds2 A2 hc hr2) ?_⟩
      intro e E3 ds3 A3 hq3
      cases e with
      | normal => exact ⟨hkk hq3.1, hq3.2⟩
      | ret => exact ⟨hkk hq3.1, hq3.2⟩
      | exit i => exact ⟨hkk hq3.1, hq3.2⟩
      | goto i => exact ⟨hkk hq3.1, hq3.2⟩
      | panic c => exact hq3
      | outgrown => exact hq3
    | _ => exact hq
def retM (P : Program) (fn : Func) (Φ : Value → World → Prop) (E : Env) : List Deferred → World → Prop
  | [], w => ∀ a : Act, env a = E → ∃ v, (results fn a.tmps).run P w = .ok v w ∧ Φ v w
  | d :: ds, w => ∃ D, d = mk D ∧ DefD D w ∧ retM P fn Φ E ds (w.putObj D (.deferred none))
def retPM (P : Program) (fn : Func) (Φ : Value → World → Prop) : Post
  | .normal, E, ds, w => retM P fn Φ E ds w
  | .ret, E, ds, w => retM P fn Φ E ds w
  | .exit _, _, _, _ => False
  | .goto _, _, _, _ => False
  | .panic _, _, _, _ => False
  | .outgrown, _, _, _ => False
theorem leaves_of_retM {fn : Func} {Φ : Value → World → Prop} {a : Act} : ∀ (ds : List Deferred) (w : World), retM P fn Φ (env a) ds w → LeavesInM Fence.wide 0 P fn a.tmps (fun e w' => ∃ v, e = .returned v ∧ Φ v w') ds .returning w
  | [], w, h => by
    obtain ⟨v, h1, h2⟩ := h a rfl
    exact ⟨v, h1, v, rfl, h2⟩
  | d :: ds, w, h => by
    obtain ⟨D, rfl, h1, h2⟩ := h
    exact ⟨by simp, .inl ⟨D, _, rfl, run_takeDeferred h1, leaves_of_retM ds _ h2⟩⟩
theorem callR_of_wpM {f : FuncId} {fn : Func} {c : Code} {args : List Value} {Φ : Value → World → Prop} (hf : P.funcs[f]? = some fn) (hb : fn.body = some c) (hn : args.length ≤ fn.ntmps)
    (h : wp P none fn.ntmps c (retPM P fn Φ) (argEnv args) [] w) : CallR P f args.toArray w Φ := by
  refine callsIn_wide.1 (callsIn_of_wp_marks (n := 0) hf hb trivial ?_)
  refine wpIn_mono (h _ ?_ ?_ rfl) ?_
  · simp; omega
  · funext i
    simp only [env, argEnv, Array.getD_eq_getD_getElem?, List.getD_eq_getElem?_getD, List.size_toArray]
    by_cases hi : i < args.length
    · rw [Array.getElem?_append_left (by simpa using hi)]; simp
    · rw [Array.getElem?_append_right (by simpa using hi)]
      rw [List.getElem?_eq_none (by omega)]
      simp only [Array.getElem?_replicate, List.size_toArray]
      split <;> rfl
  · rintro e a' w' ⟨q1, q2⟩
    cases e with
    | normal => exact leaves_of_retM _ _ q2
    | ret => exact leaves_of_retM _ _ q2
    | exit i => exact q2.elim
    | goto i => exact q2.elim
    | panic c => exact q2.elim
    | outgrown => exact q2.elim
theorem retM_none {fn : Func} {Φ : Value → World → Prop} (h : retP P fn Φ .ret E [] w) : retM P fn Φ E [] w := h.2
end Go.Proofs.YtncnalboiljgiaaGreat.K
namespace Go.Proofs.YtncnalboiljgiaaGreat.K
open Go Go.RowKit
variable {P : Program} {X : Value → World → Prop} {E : Env} {w : World} {l : List Oper} {K : (World → Prop) → Env → World → Prop} {T : World → Prop} {rest : List (Nat × Nat)} {i : Nat}
variable {dst : Option Nat} {ty : TypeId} {pos : String} {af : Array Edge} {g : Option (Nat × Bool)}
theorem sq_store2 {t T' : TypeId} {x y : Operand} {b off k : Nat} {v : Value} {vs cs cs' : List Value} (ho : l[i]? = some ⟨dst, .store t x y, ty, pos, af, g⟩) (ht : sizeB P t k = true) (hx : ev E x = .pointer (some ⟨b, off, none⟩)) (hy : ev E y = v) (hv : v.cells = ⟨vs⟩) (hb : Blk w b cs T') (hk : vs.length = k)
    (hl : off + vs.length ≤ cs.length) (h1 : ∀ u ∈ vs, u.oneCell' = true) (hcs : setVs cs off vs = cs') (h : ∀ w', Chg [b] w w' → Blk w' b cs' T' → seqP P X l K rest T (updo E dst undef) w') (hw : wantE l ⟨dst, .store t x y, ty, pos, af, g⟩ E = true := by rfl) : seqP P X l K ((i, 2) :: rest) T E w := by
  obtain ⟨w', h2, h3, h4⟩ := r_store (P := P) (dst := dst) (ty := ty) (pos := pos) (af := af) (g := g) ht hx hy hv hb hk hl h1 hcs
  exact sq_skip2 ho h2 (h w' h3 h4) hw
theorem sq_store1 {t T' : TypeId} {x y : Operand} {b off k : Nat} {v : Value} {vs cs cs' : List Value} (ho : l[i]? = some ⟨dst, .store t x y, ty, pos, af, g⟩) (ht : sizeB P t k = true) (hx : ev E x = .pointer (some ⟨b, off, none⟩)) (hy : ev E y = v) (hv : v.cells = ⟨vs⟩) (hb : Blk w b cs T') (hk : vs.length = k)
    (hl : off + vs.length ≤ cs.length) (h1 : ∀ u ∈ vs, u.oneCell' = true) (hcs : setVs cs off vs = cs') (h : ∀ w', Chg [b] w w' → Blk w' b cs' T' → ∃ T2 : World → Prop, (∀ x, T2 x → T x) ∧ T2 w' ∧ seqP P X l K rest T2 (updo E dst undef) w') (hw : wantE l ⟨dst, .store t x y, ty, pos, af, g⟩ E = true := by rfl) : seqP P X l K ((i, 1) :: rest) T E w := by
  obtain ⟨w', h2, h3, h4⟩ := r_store (P := P) (dst := dst) (ty := ty) (pos := pos) (af := af) (g := g) ht hx hy hv hb hk hl h1 hcs
  obtain ⟨T2, q1, q2, q3⟩ := h w' h3 h4
  exact sq_skip1 ho h2 T2 q1 q2 q3 hw
theorem sq_lit1 {t e : TypeId} {m size : Nat} {ps : List (Nat × Operand)} {vs : List Value} (ho : l[i]? = some ⟨dst, .buildSlice t m ps.toArray, ty, pos, af, g⟩) (hb : litB P t e size) (hm : m * size ≤ 16777216) (hi : ps.map (·.1) = List.range' 0 m) (hs : ∀ p ∈ ps, (cellsOf (ev E p.2)).length = size)
    (hv : flatV (ps.map fun p => cellsOf (ev E p.2)) = vs) (h : ∀ b w', b = w.heap.size → Chg [] w w' → Blk w' b vs e → ∃ T' : World → Prop, (∀ x, T' x → T x) ∧ T' w' ∧ seqP P X l K rest T' (updo E dst (.slice (some ⟨b, 0, none⟩) m m)) w') (hw : wantE l ⟨dst, .buildSlice t m ps.toArray, ty, pos, af, g⟩ E = true := by rfl) :
    seqP P X l K ((i, 1) :: rest) T E w := by
  obtain ⟨T', q1, q2, q3⟩ := h w.heap.size _ rfl (Chg.alloc w _) (Blk.new w vs e)
  exact sq_run1 ho (r_lit hb hm hi hs hv) T' q1 q2 q3 hw
theorem sq_alloc1 {t : TypeId} {zs : List Value} (ho : l[i]? = some ⟨dst, .alloc t, ty, pos, af, g⟩) (hz : zeroB P t zs) (h : ∀ b w', b = w.heap.size → Chg [] w w' → Blk w' b zs t → ∃ T' : World → Prop, (∀ x, T' x → T x) ∧ T' w' ∧ seqP P X l K rest T' (updo E dst (.pointer (some ⟨b, 0, none⟩))) w') (hw : wantE l ⟨dst, .alloc t, ty, pos, af, g⟩ E = true := by rfl) :
    seqP P X l K ((i, 1) :: rest) T E w := by
  obtain ⟨j, z, h1, h2, h3⟩ := hz
  obtain ⟨T', q1, q2, q3⟩ := h w.heap.size _ rfl (Chg.alloc w _) (Blk.new w zs t)
  refine sq_run1 (w' := w.alloc (.cells ⟨zs⟩ t)) ho ?_ T' q1 q2 q3 hw
  simp [execOp, Instr.alloc, go_sem, zeroValue, typeInfo, h1, h2, run_newVar h3, Result.andThen]
  exact congrArg (fun c => w.alloc (Obj.cells c t)) h3
theorem sq_append1 {α : Type} {c : Enc α} {D D2 : Nat → Prop} {A : Option Addr} {cap b o m m2 k : Nat} {xs ys : List α} {t e : TypeId} {bytes : Nat} {x y : Operand} (ho' : l[i]? = some ⟨dst, .call ⟨.builtin .append, #[x, y], #[t, t]⟩, ty, pos, af, g⟩) (hS : sliceB P t e c.sz bytes)
    (hx : ev E x = .slice A m cap) (hm : m = xs.length) (ho : Own c e w D A cap xs) (hyv : ev E y = .slice (some ⟨b, o, none⟩) k m2) (hk : k = ys.length) (hy : ∀ (i : Nat) (y : α), ys[i]? = some y → ∃ vs, c.R w D2 y vs ∧ Cells w b (o + i * c.sz) vs)
    (hD2 : ∀ k, k < w.heap.size → D2 k → D k ∧ k ∉ ob A) (hfr : ∀ k, w.heap.size ≤ k → D k) (h63 : xs.length + ys.length ≤ 9223372036854775807) (hby : (xs.length + ys.length) * bytes ≤ 140737488355328)
    (h : ∀ A' cap' w', Own c e w' D A' cap' (xs ++ ys) → Chg (ob A) w w' → (∀ g, g ∈ ob A' → g ∈ ob A ∨ w.heap.size ≤ g) → ∃ T' : World → Prop, (∀ x, T' x → T x) ∧ T' w' ∧ seqP P X l K rest T' (updo E dst (.slice A' (xs.length + ys.length) cap')) w') (hw : wantE l ⟨dst, .call ⟨.builtin .append, #[x, y], #[t, t]⟩, ty, pos, af, g⟩ E = true := by rfl) :
    seqP P X l K ((i, 1) :: rest) T E w := by
  obtain ⟨A', cap', w', h1, h2, h3, h4⟩ := r_append (dst := dst) (ty := ty) (pos := pos) (af := af) (g := g) hS hx hm ho hyv hk hy hD2 hfr h63 hby
  obtain ⟨T', q1, q2, q3⟩ := h A' cap' w' h2 h3 h4
  exact sq_run1 ho' h1 T' q1 q2 q3 hw
theorem one_elem {α : Type} {c : Enc α} {D : Nat → Prop} {x : α} {vs : List Value} {b : Nat} (h : c.R w D x vs) (hc : Cells w b 0 vs) : ∀ (i : Nat) (y : α), [x][i]? = some y → ∃ vs, c.R w D y vs ∧ Cells w b (0 + i * c.sz) vs := fun i y hy => by
  cases i with
  | zero => simp at hy; subst hy; exact ⟨vs, h, by simpa using hc⟩
  | succ i => simp at hy
theorem CallR.of {f : FuncId} {as : Array Value} {R : Ending → World → Prop} {Φ : Value → World → Prop} (h : Calls P f as w R) (hm : ∀ e w', R e w' → ∃ v, e = .returned v ∧ Φ v w') : CallR P f as w Φ := h.mono hm
theorem Blk.of_eq {b : Nat} {cs : List Value} {T : TypeId} {w' : World} (h : Blk w b cs T) (e : w'.heap[b]? = w.heap[b]?) : Blk w' b cs T := Eq.trans e h
theorem Blk.kept {b : Nat} {cs : List Value} {T : TypeId} {w' : World} {K : Nat → Prop} (h : Blk w b cs T) (hk : Kept K w w') (hb : K b) : Blk w' b cs T := h.of_eq (hk.2 b hb h.lt)
theorem Chg.refl' {w' : World} (h : w' = w) : Chg [] w w' := by subst h; exact .refl _
end Go.Proofs.YtncnalboiljgiaaGreat.K
namespace Go.Proofs.YtncnalboiljgiaaGreat.K
open Go Go.RowKit
variable {P : Program} {r : Option Nat} {n : Nat} {O : Array Oper} {Q : Post} {E : Env} {w : World} {l : List Oper}
theorem x_loopD {c : Code} {ι : Type} {ds : List Deferred} (S : List Nat) (L : ι → List (Nat × Value)) (I : ι → List Deferred → World → Prop) (μ : ι → Nat) (x0 : ι) (h0 : Holds E (L x0)) (hI : I x0 ds w)
    (round : ∀ x G ds w, I x ds w → wp P r n c (thenP (fun E' ds' w' => ∃ x', I x' ds' w' ∧ μ x' < μ x ∧ Holds E' (L x') ∧ Agree S E' E) Q) (upds (over E S G) (L x)) ds w) :
    wp P r n (.loop c) Q E ds w := by
  intro a h1 h2 h3
  let J : Nat → Act → World → Prop := fun m a w => ∃ x, μ x = m ∧ I x a.defers w ∧ a.tmps.size = n ∧ Holds (env a) (L x) ∧ Agree S (env a) E
  refine wpIn_loop (fun a w => ∃ m, J m a w) (fun a w => leastOf (fun m => J m a w)) ⟨μ x0, x0, rfl, by rw [h3]; exact hI, h1, by rw [h2]; exact h0, by rw [h2]; exact agree_refl⟩ ?_
  intro a w hm
  obtain ⟨⟨x, hx, hi, h1, hh, ha⟩, _⟩ := leastOf_spec hm
  refine wpIn_mono (round x (env a) a.defers w hi a h1 (env_of_agree ha hh).symm rfl) ?_
  rintro e a' w' ⟨q1, q2⟩
  cases e with
  | normal =>
    obtain ⟨x', hi', hlt, hh', ha'⟩ := q2
    have hJ : J (μ x') a' w' := ⟨x', rfl, hi', q1, hh', ha'⟩
    refine ⟨⟨_, hJ⟩, ?_⟩
    show leastOf (fun m => J m a' w') < leastOf (fun m => J m a w)
    have := (leastOf_spec (p := fun m => J m a' w') ⟨_, hJ⟩).2 _ hJ
    omega
  | _ => exact ⟨q1, q2⟩
def mb : List Deferred → List Nat
  | [] => []
  | d :: ds => (match d.target with | .collected D => D | _ => 0) :: mb ds
def Marks (N : Nat) : List Deferred → World → Prop
  | [], _ => True
  | d :: ds, w => ∃ D, d = mk D ∧ N ≤ D ∧ D ∉ mb ds ∧ DefD D w ∧ Marks N ds w
theorem Marks.tr {N : Nat} {bs : List Nat} {w' : World} : ∀ {ds : List Deferred}, Marks N ds w → Chg bs w w' → (∀ k, k ∈ mb ds → k ∉ bs) → Marks N ds w'
  | [], _, _, _ => trivial
  | d :: ds, ⟨D, h1, h2, h3, h4, h5⟩, hc, hb => ⟨D, h1, h2, h3, (hc.block D (Array.getElem?_eq_some_iff.1 h4).1 (hb D (by subst h1; simp [mb, mk]))).trans h4, Marks.tr h5 hc fun k hk => hb k (by simp [mb, hk])⟩
theorem Marks.lt {N : Nat} : ∀ {ds : List Deferred}, Marks N ds w → ∀ k, k ∈ mb ds → N ≤ k ∧ k < w.heap.size
  | [], _, k, hk => by simp [mb] at hk
  | d :: ds, ⟨D, h1, h2, h3, h4, h5⟩, k, hk => by
    subst h1
    simp only [mb, mk, List.mem_cons] at hk
    rcases hk with rfl | hk
    · exact ⟨h2, (Array.getElem?_eq_some_iff.1 h4).1⟩
    · exact Marks.lt h5 k hk
theorem Marks.cons {N D : Nat} {ds : List Deferred} (h : Marks N ds w) (hN : N ≤ D) (hD : DefD D w) (hn : D ∉ mb ds) : Marks N (mk D :: ds) w := ⟨D, rfl, hN, hn, hD, h⟩
theorem mb_cons (D : Nat) (ds : List Deferred) : mb (mk D :: ds) = D :: mb ds := rfl
theorem retM_marks {fn : Func} {Φ : Value → World → Prop} {N : Nat} : ∀ {ds : List Deferred} {w : World}, Marks N ds w → (∀ w', Chg (mb ds) w w' → retP P fn Φ .ret E [] w') → retM P fn Φ E ds w
  | [], w, _, h => retM_none (h w (.refl w))
  | d :: ds, w, ⟨D, h1, h2, h3, h4, h5⟩, h => by
    refine ⟨D, h1, h4, retM_marks (N := N) (h5.tr (Chg.putObj w D _) (fun k hk hx => by simp at hx; subst hx; exact h3 hk)) fun w' hc => h w' ?_⟩
    subst h1
    refine ((Chg.putObj w D (.deferred none)).mono (fun x hx => ?_)).trans hc (fun x hx => ?_)
    · simp at hx; subst hx; simp [mb, mk]
    · exact .inl (by simp [mb, hx])
section
variable {α : Type} {c : Enc α} {e : TypeId} {D D' : Nat → Prop} {A : Option Addr} {cap : Nat} {xs : List α}
def Flat (c : Enc α) : Prop := ∀ {w w' : World} {D D' : Nat → Prop} {x : α} {vs : List Value}, c.R w D x vs → c.R w' D' x vs
theorem flat_flat {sz : Nat} {f : α → List Value} {h1 h2 h3} : Flat (Enc.flat sz f h1 h2 h3) := fun h => h
theorem Own.flat (h : Own c e w D A cap xs) (hf : Flat c) (hD : ∀ k, k ∈ ob A → D k → D' k) : Own c e w D' A cap xs := by
  obtain ⟨cs, h1, h2, h3⟩ := h
  exact ⟨cs, h1, fun g hg => hD g hg (h2 g hg), ⟨h3.1, fun i x hx => let ⟨vs, q1, q2⟩ := h3.2 i x hx; ⟨vs, hf q1, q2⟩⟩⟩
theorem Own.trF {w' : World} {bs : List Nat} (h : Own c e w D A cap xs) (hf : Flat c) (hc : Chg bs w w') (hb : ∀ k, k ∈ ob A → k ∉ bs) : Own c e w' D A cap xs :=
  ((h.flat (D' := fun k => k ∈ ob A) hf fun k hk _ => hk).tr hc fun b hb1 hb2 => hb b hb2 hb1).flat hf fun k hk _ => h.inD k hk
def Av (F : List Nat) (A : Option Addr) : Prop := ∀ k, k ∈ ob A → k ∉ F
theorem Av.step {F : List Nat} {A' : Option Addr} {m : Nat} (h : Av F A) (hg : ∀ g, g ∈ ob A' → g ∈ ob A ∨ m ≤ g) (hF : ∀ k, k ∈ F → k < m) : Av F A' := fun k hk hx => by
  rcases hg k hk with h1 | h1
  · exact h k h1 hx
  · have := hF k hx; omega
theorem Av.sub {F F' : List Nat} (h : Av F A) (hs : ∀ k, k ∈ F' → k ∈ F) : Av F' A := fun k hk hx => h k hk (hs k hx)
theorem Av.cons {F : List Nat} {b : Nat} (h : Av F A) (hb : b ∉ ob A) : Av (b :: F) A := fun k hk hx => by
  rcases List.mem_cons.1 hx with rfl | hx
  · exact hb hk
  · exact h k hk hx
theorem Sl.at {i : Nat} {x : α} (h : Sl c w D A xs) (hx : xs[i]? = some x) : ∃ b o vs, A = some ⟨b, o, none⟩ ∧ c.R w D x vs ∧ Cells w b (o + i * c.sz) vs := by
  rcases h with h | ⟨b, o, h1, h2, h3, h4⟩
  · subst h; simp at hx
  · obtain ⟨vs, h5, h6⟩ := h4 i x hx
    exact ⟨b, o, vs, h1, h5, h6⟩
theorem Cells.at {b off j : Nat} {v : Value} {vs : List Value} (h : Cells w b off vs) (hv : nthV vs j = some v) : w.cell? ⟨b, off + j, none⟩ = some v := h j v (by rw [← nthV_eq]; exact hv)
theorem Own.fresh (h : Own c e w D A cap xs) {b : Nat} (hb : w.heap.size ≤ b) : b ∉ ob A := fun hx => by have := h.lt b hx; omega
end
end Go.Proofs.YtncnalboiljgiaaGreat.K
namespace Go.Proofs.YtncnalboiljgiaaGreat.K
open Go Go.RowKit
variable {P : Program} {r : Option Nat} {n : Nat} {O : Array Oper} {Q : Post} {E : Env} {ds : List Deferred} {w : World} {l : List Oper}
section
variable {dst : Option Nat} {ty : TypeId} {pos : String} {af : Array Edge} {g : Option (Nat × Bool)}
theorem st_append2 {α : Type} {c : Enc α} {D D2 : Nat → Prop} {A : Option Addr} {cap b o m m2 k : Nat} {xs ys : List α} {t e : TypeId} {bytes : Nat} {x y : Operand} (hS : sliceB P t e c.sz bytes)
    (hx : ev E x = .slice A m cap) (hm : m = xs.length) (ho : Own c e w D A cap xs) (hyv : ev E y = .slice (some ⟨b, o, none⟩) k m2) (hk : k = ys.length) (hy : ∀ (i : Nat) (y : α), ys[i]? = some y → ∃ vs, c.R w D2 y vs ∧ Cells w b (o + i * c.sz) vs)
    (hD2 : ∀ k, k < w.heap.size → D2 k → D k ∧ k ∉ ob A) (hfr : ∀ k, w.heap.size ≤ k → D k) (h63 : xs.length + ys.length ≤ 9223372036854775807) (hby : (xs.length + ys.length) * bytes ≤ 140737488355328)
    (h : ∀ A' cap' w', Own c e w' D A' cap' (xs ++ ys) → Chg (ob A) w w' → (∀ g, g ∈ ob A' → g ∈ ob A ∨ w.heap.size ≤ g) → wops P r n O Q l (updo E dst (.slice A' (xs ++ ys).length cap')) ds w') :
    wop P r n O Q ⟨dst, .call ⟨.builtin .append, #[x, y], #[t, t]⟩, ty, pos, af, g⟩ l E ds w :=
  st_append hS hx hm ho hyv hk hy hD2 hfr h63 hby fun A' cap' w' h1 h2 h3 => by rw [← List.length_append]; exact h A' cap' w' h1 h2 h3
end
section
variable {α : Type} {c : Enc α} {D D' : Nat → Prop} {A : Option Addr} {xs : List α}
theorem Sl.trF {w' : World} {bs : List Nat} (h : Sl c w D A xs) (hf : Flat c) (hc : Chg bs w w') (hb : ∀ b, b ∈ bs → xs = [] ∨ b ∉ ob A) : Sl c w' D A xs := by
  rcases h with h | ⟨b, o, h1, h2, h3, h4⟩
  · exact .inl h
  · by_cases hx : b ∈ bs
    · rcases hb b hx with h | h
      · exact .inl h
      · exact absurd (by rw [h1]; simp [ob]) h
    · exact .inr ⟨b, o, h1, Nat.lt_of_lt_of_le h2 hc.size, h3, fun i x hi => let ⟨vs, q1, q2⟩ := h4 i x hi; ⟨vs, hf q1, q2.tr (hc.block b h2 hx)⟩⟩
theorem Sl.fresh (h : Sl c w D A xs) {b : Nat} (hb : w.heap.size ≤ b) : xs = [] ∨ b ∉ ob A := by
  rcases h with h | ⟨k, o, h1, h2, _⟩
  · exact .inl h
  · refine .inr fun hx => ?_
    rw [h1] at hx; simp [ob] at hx; omega
end
theorem agree_over_sub {S S' : List Nat} {E1 E G : Env} (h : Agree S E1 E) (hs : (S'.all fun d => S.contains d) = true) : Agree S (over E1 S' G) E := fun i hi => by
  have hn : S'.contains i = false := by
    cases hc : S'.contains i with
    | false => rfl
    | true => rw [List.all_eq_true] at hs; have := hs i (by simpa using hc); rw [this] at hi; cases hi
  simp only [over, hn]; exact h i hi
end Go.Proofs.YtncnalboiljgiaaGreat.K
namespace Go.Proofs.YtncnalboiljgiaaGreat.K
open Go Go.RowKit Go.ChangeShapes Go.WideShapes
variable {H : Type} {enc : TypeId × Value → H} {P : Program}
def allLe (l : List Nat) : Prop := ∀ n, n ∈ l → n ≤ reachBytes
def Fits (enc : TypeId × Value → H) (P : Program) {α : Type} (c : Enc α) (t : TypeId) (ok : α → Prop) : Prop :=
  ∀ (w : World) (fuel : Nat) (cs : List Value) (d : DataW H) (ps : List MemPlace), DataW.trod enc P w 0 (fun _ => true) true fuel t cs = some (d, ps) → allLe (d.weights P t) → ∃ a, c.R w (fun k => k < w.heap.size) a cs ∧ ok a
theorem fits_string {t : TypeId} (ht : P.underlying t = some .string) : Fits enc P sE t (fun s => s.length ≤ 140737488351232) := by
  intro w fuel cs d ps h hw
  obtain ⟨s, h1, h2, h3⟩ := DataW.trod_string ht h
  simp only [Prod.mk.injEq] at h2
  obtain ⟨rfl, rfl⟩ := h2
  refine ⟨s.data.toList, ?_, ?_⟩
  · rw [h1]; exact congrArg (fun v => [v]) (S_eta s)
  · have := hw s.data.toList.length (by simp [DataW.weights])
    simpa [reachBytes] using this
theorem fits_int {t : TypeId} {k : IntKind} (ht : P.underlying t = some (.int k)) : Fits enc P (iE k) t (fun n => (Lit.int k n).wf = true) := by
  intro w fuel cs d ps h hw
  obtain ⟨n, h1, h2, h3⟩ := DataW.trod_int ht h
  exact ⟨n, by rw [h1]; rfl, h3⟩
theorem Fits.imp {α β : Type} {c : Enc α} {c' : Enc β} {t : TypeId} {ok : α → Prop} {ok' : β → Prop} (h : Fits enc P c t ok) (hi : ∀ w D a vs, c.R w D a vs → ok a → ∃ b, c'.R w D b vs ∧ ok' b) : Fits enc P c' t ok' := by
  intro w fuel cs d ps h1 h2
  obtain ⟨a, h3, h4⟩ := h w fuel cs d ps h1 h2
  exact hi _ _ _ _ h3 h4
theorem lt_of_cell {w : World} {a : Addr} {v : Value} (h : w.cell? a = some v) : a.block < w.heap.size ∧ a.spot = none := by
  unfold World.cell? at h
  split at h
  · rename_i hh
    refine ⟨(Array.getElem?_eq_some_iff.1 hh).1, ?_⟩
    split at h
    · cases h
    · rename_i hs; cases hz : a.spot with
      | none => rfl
      | some _ => simp [hz] at hs
  · cases h
theorem weightsAll_mem {e : TypeId} : ∀ {l : List (DataW H)} {d : DataW H}, d ∈ l → ∀ n, n ∈ d.weights P e → n ∈ DataW.weightsAll P e l
  | x :: l, d, h, n, hn => by
    simp only [DataW.weightsAll, List.mem_append]
    rcases List.mem_cons.1 h with rfl | h
    · exact .inl hn
    · exact .inr (weightsAll_mem h n hn)
theorem fits_slice {α : Type} {c : Enc α} {t e : TypeId} {ok : α → Prop} {bytes : Nat} (ht : P.underlying t = some (.slice e)) (hc : P.cellsOf e = c.sz) (hb : P.bytesOf e = bytes) (hE : Fits enc P c e ok) :
    Fits enc P c.slice t (fun xs => (∀ x, x ∈ xs → ok x) ∧ xs.length * bytes ≤ 140737488351232) := by
  intro w fuel cs d ps h hw
  rcases Deep.open_slice ht h with ⟨rfl, hx⟩ | ⟨a, len, cap, m, n, D, Pl, rfl, hb0, hl, hm, hmm, hx, hall⟩
  · exact ⟨[], ⟨none, 0, rfl, Nat.le_refl _, by simp, .inl rfl⟩, by simp, by simp⟩
  · simp only [if_true] at hmm
    subst hmm
    simp only [Prod.mk.injEq] at hx
    obtain ⟨rfl, rfl⟩ := hx
    rw [hc] at hall
    have hwt : ∀ i, i < len → allLe ((D i).weights P e) := fun i hi n hn => hw n (by
      simp only [DataW.weights, ht, List.mem_cons, List.mem_append]
      exact .inr (.inl (weightsAll_mem (List.mem_map.2 ⟨i, List.mem_range.2 hi, rfl⟩) n hn)))
    have key : ∀ i, i < len → ∃ x : α, ∃ vs, c.R w (fun k => k < w.heap.size) x vs ∧ w.cells? 0 (a.add (i * c.sz)) c.sz = some vs ∧ ok x := fun i hi => by
      obtain ⟨cs', h1, h2⟩ := hall i (by omega)
      obtain ⟨x, h3, h4⟩ := hE w n cs' _ _ h2 (hwt i hi)
      exact ⟨x, cs', h3, h1, h4⟩
    have hlist : ∀ m, m ≤ len → ∃ xs : List α, xs.length = m ∧ ∀ i x, xs[i]? = some x → ∃ vs, c.R w (fun k => k < w.heap.size) x vs ∧ w.cells? 0 (a.add (i * c.sz)) c.sz = some vs ∧ ok x := by
      intro m
      induction m with
      | zero => exact fun _ => ⟨[], rfl, fun i x hx => by simp at hx⟩
      | succ m ih =>
        intro hm
        obtain ⟨xs, h1, h2⟩ := ih (by omega)
        obtain ⟨x, vs, h3, h4, h5⟩ := key m (by omega)
        refine ⟨xs ++ [x], by simp [h1], fun i y hy => ?_⟩
        by_cases hi : i < xs.length
        · rw [List.getElem?_append_left hi] at hy; exact h2 i y hy
        · have hlt := (List.getElem?_eq_some_iff.1 hy).1
          simp at hlt
          have hi' : i = xs.length := by omega
          subst hi'
          simp at hy; subst hy
          rw [h1]; exact ⟨vs, h3, h4, h5⟩
    obtain ⟨xs, h1, h2⟩ := hlist len (Nat.le_refl _)
    refine ⟨xs, ⟨some a, m, by rw [h1], by rw [h1]; exact hl, by simpa [maxLen] using hm, ?_⟩, fun x hx => ?_, ?_⟩
    · by_cases h0 : xs = []
      · exact .inl h0
      · have hpos : 0 < xs.length := List.length_pos_iff.2 h0
        obtain ⟨vs, q1, q2, q3⟩ := h2 0 xs[0] (by simp [hpos])
        obtain ⟨_, hlen, hcell⟩ := World.cells?_some q2
        have hp := c.pos
        have q4 := c.len q1
        have hc0 : w.cell? ((a.add (0 * c.sz)).add 0) = some (vs[0]'(by omega)) := by rw [hcell 0 hp]; simp
        obtain ⟨hlt, hspot⟩ := lt_of_cell hc0
        have e0 : (a.add (0 * c.sz)).add 0 = a := by simp [Addr.add]
        rw [e0] at hlt hspot
        obtain ⟨ab, ao, asp⟩ := a
        simp only at hlt hspot
        subst hspot
        refine .inr ⟨ab, ao, rfl, hlt, hlt, fun i x hx => ?_⟩
        obtain ⟨vs, r1, r2, r3⟩ := h2 i x hx
        obtain ⟨_, _, hcl⟩ := World.cells?_some r2
        refine ⟨vs, r1, fun j v hj => ?_⟩
        have hjl := (List.getElem?_eq_some_iff.1 hj).1
        rw [c.len r1] at hjl
        have := hcl j hjl
        rw [Addr.add_lit, Addr.add_lit, hj] at this
        exact this
    · obtain ⟨i, hi, rfl⟩ := List.mem_iff_getElem.1 hx
      obtain ⟨vs, r1, r2, r3⟩ := h2 i xs[i] (by simp [hi])
      exact r3
    · have := hw _ (by simp only [DataW.weights, ht]; exact List.mem_cons_self)
      simp only [List.length_map, List.length_range, hb, reachBytes] at this
      rw [h1]
      refine Nat.le_trans (Nat.mul_le_mul_right _ ?_) this
      omega
def Enc.seq {α β : Type} (c1 : Enc α) (c2 : Enc β) : Enc (α × β) where
  sz := c1.sz + c2.sz
  pos := by have := c1.pos; omega
  R := fun w D x vs => ∃ v1 v2, vs = v1 ++ v2 ∧ c1.R w D x.1 v1 ∧ c2.R w D x.2 v2
  len := fun ⟨v1, v2, h1, h2, h3⟩ => by rw [h1, List.length_append, c1.len h2, c2.len h3]
  one := fun ⟨v1, v2, h1, h2, h3⟩ u hu => by
    rw [h1] at hu
    rcases List.mem_append.1 hu with h | h
    · exact c1.one h2 u h
    · exact c2.one h3 u h
  tr := fun ⟨v1, v2, h1, h2, h3⟩ he hs => ⟨v1, v2, h1, c1.tr h2 he hs, c2.tr h3 he hs⟩
  mono := fun ⟨v1, v2, h1, h2, h3⟩ hm => ⟨v1, v2, h1, c1.mono h2 hm, c2.mono h3 hm⟩
def FitsF (enc : TypeId × Value → H) (P : Program) {α : Type} (c : Enc α) (fs : List Field) (off : Nat) (ok : α → Prop) : Prop :=
  ∀ (w : World) (fuel : Nat) (cs : List Value) (xs : List (DataW H × List MemPlace)), xs.length = fs.length → (∀ (i : Nat) (f : Field), fs[i]? = some f → DataW.trod enc P w 0 (fun _ => true) true fuel f.type ((cs.drop f.offset).take (P.cellsOf f.type)) = xs[i]?) →
    allLe (DataW.weightsEach P (fs.map (·.type)) (xs.map (·.1))) → ∃ a, c.R w (fun k => k < w.heap.size) a ((cs.drop off).take c.sz) ∧ ok a
theorem fits_last {α : Type} {c : Enc α} {f : Field} {off : Nat} {ok : α → Prop} (ho : f.offset = off) (hc : P.cellsOf f.type = c.sz) (h : Fits enc P c f.type ok) : FitsF enc P c [f] off ok := by
  intro w fuel cs xs hl hx hw
  subst ho
  match xs, hl with
  | [x], _ =>
    have h1 := hx 0 f rfl
    simp only [List.getElem?_cons_zero] at h1
    obtain ⟨a, h2, h3⟩ := h w fuel _ x.1 x.2 h1 (fun n hn => hw n (by simp [DataW.weightsEach, hn]))
    rw [hc] at h2; exact ⟨a, h2, h3⟩
theorem fits_cons {α β : Type} {c1 : Enc α} {c2 : Enc β} {f : Field} {fs : List Field} {off : Nat} {ok1 : α → Prop} {ok2 : β → Prop} (ho : f.offset = off) (hc : P.cellsOf f.type = c1.sz) (h : Fits enc P c1 f.type ok1) (hF : FitsF enc P c2 fs (off + c1.sz) ok2) :
    FitsF enc P (c1.seq c2) (f :: fs) off (fun x => ok1 x.1 ∧ ok2 x.2) := by
  intro w fuel cs xs hl hx hw
  subst ho
  match xs, hl with
  | x :: ys, hl =>
    have h1 := hx 0 f rfl
    simp only [List.getElem?_cons_zero] at h1
    obtain ⟨a, h3, h4⟩ := h w fuel _ x.1 x.2 h1 (fun n hn => hw n (by simp [DataW.weightsEach, hn]))
    obtain ⟨b, h5, h6⟩ := hF w fuel cs ys (by simpa using hl) (fun i g hg => by have := hx (i + 1) g (by simpa using hg); simpa using this) (fun n hn => hw n (by simp [DataW.weightsEach, hn]))
    rw [hc] at h3
    refine ⟨(a, b), ⟨_, _, ?_, h3, h5⟩, h4, h6⟩
    show List.take (c1.sz + c2.sz) _ = _
    rw [List.take_add, List.drop_drop]
theorem fits_struct {α : Type} {c : Enc α} {t : TypeId} {fs : List Field} {ok : α → Prop} (ht : P.underlying t = some (.struct fs.toArray)) (hc : P.cellsOf t = c.sz) (hF : FitsF enc P c fs 0 ok) : Fits enc P c t ok := by
  intro w fuel cs d ps h hw
  obtain ⟨xs, n, rfl, hx, hl, hl2, hall⟩ := DataW.trod_struct ht h
  simp only [Prod.mk.injEq] at hx
  obtain ⟨rfl, rfl⟩ := hx
  obtain ⟨a, h1, h2⟩ := hF w n cs xs (by simpa using hl2) (fun i f hf => hall i f (by simpa using hf)) (fun n hn => hw n (by simpa [DataW.weights, ht] using hn))
  rw [List.drop_zero, List.take_of_length_le (by omega)] at h1
  exact ⟨a, h1, h2⟩
theorem fits_arg {α : Type} {c : Enc α} {t : TypeId} {ok : α → Prop} (hf : Fits enc P c t ok) {W : World} {v : Value} {d : DataW H} {ps : List MemPlace} (h : DataW.Trod enc P W 0 (fun _ => true) true t v d ps) {ts : List TypeId} {ds : List (DataW H)} {j : Nat}
    (hsz : (DataW.weightsEach P ts ds).all (· ≤ reachBytes) = true) (ht : ts[j]? = some t) (hd : ds[j]? = some d) : ∃ a, c.R W (fun k => k < W.heap.size) a v.cells.toList ∧ ok a := by
  obtain ⟨fuel, hfu⟩ := h
  exact hf W fuel _ d ps hfu (fun n hn => by simpa using List.all_eq_true.1 hsz n (DataW.weights_mem_each ht hd n hn))
theorem lt_of_trod {W : World} {t : TypeId} {v : Value} {d : DataW H} {ps : List MemPlace} (h : DataW.Trod enc P W 0 (fun _ => true) true t v d ps) : ∀ x ∈ ps, x.block < W.heap.size := by
  obtain ⟨m, hm⟩ := h; exact DataW.trod_lt m _ _ _ hm
end Go.Proofs.YtncnalboiljgiaaGreat.K
namespace Go.Proofs.YtncnalboiljgiaaGreat.K
open Go Go.RowKit
variable {P : Program} {r : Option Nat} {n : Nat} {O : Array Oper} {Q : Post} {E : Env} {ds : List Deferred} {w : World} {l : List Oper}
theorem ext_T {T0 : World → Prop} {b : Nat} {w' : World} {F : (World → Prop) → Prop} (hT : T0 w') (h : F (fun W => W.heap[b]? = w'.heap[b]? ∧ T0 W)) : ∃ T' : World → Prop, (∀ x, T' x → T0 x) ∧ T' w' ∧ F T' := ⟨_, fun _ h => h.2, ⟨rfl, hT⟩, h⟩
theorem Cells.lt {b off : Nat} {v : Value} {vs : List Value} (h : Cells w b off (v :: vs)) : b < w.heap.size := by
  have := h 0 v rfl
  unfold World.cell? at this
  split at this
  · rename_i hh; exact (Array.getElem?_eq_some_iff.1 hh).1
  · cases this
section
variable {dst : Option Nat} {ty : TypeId} {pos : String} {af : Array Edge} {g : Option (Nat × Bool)}
end
def ResAll (P : Program) (E : Env) (w : World) : List ResultVar → List Value → Prop
  | [], [] => True
  | .tmp t :: rs, v :: vs => E t = v ∧ ResAll P E w rs vs
  | .cell d t :: rs, v :: vs => (∃ b off, E d = .pointer (some ⟨b, off, none⟩) ∧ (loadVar t ⟨b, off, none⟩).run P w = .ok v w) ∧ ResAll P E w rs vs
  | _, _ => False
theorem run_resAll {a : Act} : ∀ (rs : List ResultVar) (vs : List Value), ResAll P (env a) w rs vs → (rs.mapM (m := Sem) (fun (r : ResultVar) => match r with | .tmp t => pure (a.tmps.getD t undef) | .cell d t => do loadVar t (← asAddr (a.tmps.getD d undef)))).run P w = Result.ok vs w
  | [], [], _ => rfl
  | .tmp t :: rs, v :: vs, h => by
    obtain ⟨h1, h2⟩ := h
    have ih := run_resAll rs vs h2
    have h1 : a.tmps.getD t undef = v := h1
    simp only [List.mapM_cons, Sem.run_bind, Sem.run_pure, Result.andThen, h1]
    rw [ih]
  | .cell d t :: rs, v :: vs, h => by
    obtain ⟨⟨b, off, h1, h3⟩, h2⟩ := h
    have ih := run_resAll rs vs h2
    have h1 : asAddr (a.tmps.getD d undef) = (pure ⟨b, off, none⟩ : Sem Addr) := by
      have h1 : a.tmps.getD d undef = .pointer (some ⟨b, off, none⟩) := h1
      rw [h1]
      rfl
    simp only [List.mapM_cons, Sem.run_bind, h1, Sem.run_pure, Result.andThen, h3]
    rw [ih]
  | [], _ :: _, h => h.elim
  | .tmp _ :: _, [], h => h.elim
  | .cell _ _ :: _, [], h => h.elim
theorem ret_many {fn : Func} {Φ : Value → World → Prop} {rs : List ResultVar} {vs : List Value} (hr : fn.results = ⟨rs⟩) (h : ResAll P E w rs vs) (h2 : 2 ≤ vs.length) (hΦ : Φ (.tuple ⟨vs⟩) w) : retP P fn Φ .ret E [] w :=
  ⟨rfl, fun a ha => ⟨_, by
    subst ha
    have := run_resAll rs vs h
    unfold results
    rw [hr, Array.mapM_eq_mapM_toList]
    simp only [Sem.run_bind, Sem.run_map, Result.andThen, Sem.run_pure]
    erw [this]
    match vs, h2 with
    | _ :: _ :: _, _ => rfl, hΦ⟩⟩
end Go.Proofs.YtncnalboiljgiaaGreat.K
namespace Go.Proofs.YtncnalboiljgiaaGreat.K
open Go Go.RowKit
def OwnB (e : TypeId) (w : World) (A : Option Addr) (cap : Nat) (s : Bytes) : Prop := w.ownsRowF 0 e 1 (.slice A s.length cap) s.length (Lib.byteCells s)
structure BldAt (T e : TypeId) (w : World) (b : Nat) (A : Option Addr) (cap : Nat) (s : Bytes) : Prop where
  blk : Blk w b [.pointer none, .slice A s.length cap] T ∨ Blk w b [.pointer (some ⟨b, 0, none⟩), .slice A s.length cap] T
  own : OwnB e w A cap s
  nil : s = [] → A = none
variable {T e : TypeId} {w w' : World} {b : Nat} {A : Option Addr} {cap : Nat} {s : Bytes}
theorem OwnB.form (h : OwnB e w A cap s) : (A = none ∧ cap = 0 ∧ s = []) ∨ ∃ g cur fz, A = some ⟨g, 0, none⟩ ∧ w.heap[g]? = some (.cells cur e fz) ∧ s.length ≤ cap ∧ cap ≤ 9223372036854775807 := by
  rcases h.2 with ⟨h1, h2⟩ | ⟨g, cp, cur, fz, h1, h2, h3, h4, h5, h6, _⟩
  · simp only [Value.slice.injEq] at h1; exact .inl ⟨h1.1, h1.2.2, List.eq_nil_of_length_eq_zero h2⟩
  · simp only [Value.slice.injEq] at h1; obtain ⟨rfl, _, rfl⟩ := h1
    exact .inr ⟨g, cur, fz, rfl, h3, h5, by simpa [maxLen] using h6⟩
theorem OwnB.lt (h : OwnB e w A cap s) : ∀ g, g ∈ ob A → g < w.heap.size := by
  rcases h.form with ⟨rfl, _⟩ | ⟨g, cur, fz, rfl, h1, _⟩
  · simp [ob]
  · intro k hk; simp [ob] at hk; subst hk; exact (Array.getElem?_eq_some_iff.1 h1).1
theorem OwnB.tr {bs : List Nat} (h : OwnB e w A cap s) (hc : Chg bs w w') (hb : ∀ k, k ∈ ob A → k ∉ bs) : OwnB e w' A cap s := by
  have hl := h.lt
  refine ⟨h.1, ?_⟩
  rcases h.2 with h1 | ⟨g, cp, cur, fz, h1, h2, h3, h4⟩
  · exact .inl h1
  · have h1' := h1
    simp only [Value.slice.injEq] at h1'; obtain ⟨rfl, _, rfl⟩ := h1'
    exact .inr ⟨g, _, cur, fz, rfl, h2, (hc.block g (hl g (by simp [ob])) (hb g (by simp [ob]))).trans h3, h4⟩
theorem OwnB.ne {cs : List Value} (h : OwnB e w A cap s) (hb : Blk w b cs T) (hT : T ≠ e) : b ∉ ob A := by
  rcases h.form with ⟨rfl, _⟩ | ⟨g, cur, fz, rfl, h1, _⟩
  · simp [ob]
  · intro hx; simp [ob] at hx; subst hx
    rw [show w.heap[b]? = _ from hb] at h1
    simp only [Option.some.injEq, Obj.cells.injEq] at h1
    exact hT h1.2.1
theorem BldAt.ne (h : BldAt T e w b A cap s) (hT : T ≠ e) : b ∉ ob A := by
  rcases h.blk with hb | hb <;> exact h.own.ne hb hT
theorem BldAt.tr {bs : List Nat} (h : BldAt T e w b A cap s) (hc : Chg bs w w') (h1 : b ∉ bs) (h2 : ∀ k, k ∈ ob A → k ∉ bs) : BldAt T e w' b A cap s :=
  ⟨h.blk.imp (fun x => x.tr hc h1) (fun x => x.tr hc h1), h.own.tr hc h2, h.nil⟩
theorem BldAt.tr0 (h : BldAt T e w b A cap s) (hc : Chg [] w w') : BldAt T e w' b A cap s := h.tr hc (by simp) (by simp)
theorem BldAt.new (h : Blk w b [.pointer none, .slice none 0 0] T) : BldAt T e w b none 0 [] :=
  ⟨.inl h, ⟨by simp [Lib.byteCells], .inl ⟨rfl, rfl⟩⟩, fun _ => rfl⟩
theorem BldAt.fresh (h : BldAt T e w b A cap s) {k : Nat} (hk : w.heap.size ≤ k) : k ∉ ob A := fun hx => by have := h.own.lt k hx; omega
variable {P : Program} {X : Value → World → Prop} {r : Option Nat} {n : Nat} {O : Array Oper} {Q : Post} {E : Env} {ds : List Deferred} {l : List Oper}
section
variable {dst : Option Nat} {ty : TypeId} {pos : String} {af : Array Edge} {g : Option (Nat × Bool)}
end
theorem CallR.imp {f : FuncId} {as : Array Value} {Φ Ψ : Value → World → Prop} (h : CallR P f as w Φ) (hi : ∀ v w', Φ v w' → Ψ v w') : CallR P f as w Ψ := Calls.mono h fun e w' ⟨v, h1, h2⟩ => ⟨v, h1, hi v w' h2⟩
theorem nm : (∀ (p : Prop) [Decidable p], (decide p = true) = p) ∧ (∀ (p : Prop) [Decidable p], (decide p = false) = ¬ p) ∧ (∀ b : Bool, ((!b) = true) = (b = false)) ∧ (∀ b : Bool, ((!b) = false) = (b = true)) ∧ ((!true) = false) ∧ ((!false) = true) ∧
    (∀ n : Nat, ((n : Int)).toNat = n) ∧ ((0 : Int).toNat = 0) ∧ ((1 : Int).toNat = 1) ∧ (∀ b : Bool, (¬ (b = true)) = (b = false)) ∧ (∀ b : Bool, (¬ (b = false)) = (b = true)) :=
  ⟨fun p _ => by simp, fun p _ => by simp, fun b => by cases b <;> simp, fun b => by cases b <;> simp, rfl, rfl, fun _ => rfl, rfl, rfl, fun b => by cases b <;> simp, fun b => by cases b <;> simp⟩
end Go.Proofs.YtncnalboiljgiaaGreat.K
namespace Go.Proofs.YtncnalboiljgiaaGreat.K
open Go Go.RowKit
variable {P : Program} {r : Option Nat} {n : Nat} {O : Array Oper} {Q : Post} {E : Env} {ds : List Deferred} {w : World} {l : List Oper}
def NK (K : Nat → Prop) (A0 : World) (k : Nat) : Prop := K k ∨ A0.heap.size ≤ k
end Go.Proofs.YtncnalboiljgiaaGreat.K
