import Derived.Test.YtghjmiggobpmoaaGreatDoorKitV
import Derived.Test.YtghjmiggobpmoaaGreatDoorTok
import Derived.Shelf.Strings.FuncGrows
import Derived.Ground.GgwProg
import Derived.Test.YtghjmiggobpmoaaGreatDoorProg
import Derived.Test.YtghjmiggobpmoaaGreatDoorKitFl
import Derived.Lib.DecodeN
set_option linter.unusedVariables false
set_option linter.unusedSimpArgs false
set_option autoImplicit false
namespace Go.Proofs.YtghjmiggobpmoaaGreatDoor.K
open Go Go.RowKit
variable {P : Program} {r : Option Nat} {n : Nat} {O : Array Oper} {Q : Post} {E : Env} {ds : List Deferred} {w : World} {l : List Oper}
def IterH (P : Program) (gf : FuncId) (caps : List Value) (K : Nat → Prop) {α : Type} (encs : α → List Value) (xs : List α) (St : List α → World → Prop) (Pop : List α → α → World → World → Prop) : Prop :=
  ∀ (lp : Nat) (J Jx : List α → World → Prop) (W : World), (∀ pre A, J pre A → St pre A) →
    (∀ pre x rest A0 A, xs = pre ++ x :: rest → J pre A0 → Pop pre x A0 A → RoundR P lp (encs x) A fun b B => Kept (NK K A0) A B ∧ ((b = true ∧ J (pre ++ [x]) B) ∨ (b = false ∧ Jx (pre ++ [x]) B))) →
    J [] W → CallR P gf ⟨.func (.yield lp) #[] #[] :: caps⟩ W fun _ W' => J xs W' ∨ ∃ pre, Jx pre W'
theorem rangeH_core {α : Type} {f : Operand} {ps : List Nat} {assign body : Code} {gf : FuncId} {caps : Array Value} {bs : List Nat} {K : Nat → Prop} {encs : α → List Value} {xs : List α} {St : List α → World → Prop} {Pop : List α → α → World → World → Prop}
    (hf : ev E f = .func (.func gf) #[] caps) (hent : ∀ args (w : World), (callFunc gf args).run P w = .ok (.enter gf args) w) (hps : (ps.all fun p => Nat.blt p n) = true) (henc : ∀ x, (encs x).length = ps.length)
    (lp dd : Nat) (mark : List Deferred) (w1 : World) (hD : World → Prop) (fn : FuncId) (a : Act) (ha1 : a.tmps.size = n) (ha2 : env a = E) (ha3 : a.defers = ds)
    (he : (Instr.enterLoop fn a.tmps ps.toArray assign body r).run P w = .ok (lp, mark) w1) (hL1 : w1.heap[lp]? = some (.loop { state := .ready, pending := none, fn, tmps := a.tmps, params := ps.toArray, assign, body, defers := dd }))
    (hD1 : hD w1) (hDl : ∀ A B, hD A → Chg (lp :: bs) A B → hD B) (hDK : ∀ (A B : World) (K' : Nat → Prop), hD A → Kept (fun k => k = lp ∨ (mark ≠ [] ∧ k = dd) ∨ K' k) A B → hD B)
    (hlb : lp ∉ bs)
    (I : List α → World → Prop) (Ix : Code → List α → World → Prop) (hit : IterH P gf caps.toList K encs xs St Pop) (hSt : ∀ pre A, I pre A → St pre A) (hPop : ∀ pre x A B, I pre A → Pop pre x A B → Kept (fun k => k = lp ∨ (mark ≠ [] ∧ k = dd) ∨ False) A B) (h0 : I [] w1)
    (hI : ∀ pre A B, I pre A → Chg [lp] A B → I pre B) (hIx : ∀ c pre A B, Ix c pre A → Chg [lp] A B → Ix c pre B)
    (hbody : ∀ pre x rest A0 A, xs = pre ++ x :: rest → I pre A0 → Pop pre x A0 A → (∃ rec, A.heap[lp]? = some (.loop rec)) →
      wp P (some lp) n assign (thenP (fun E1 _ A1 => Kept (fun k => k = lp ∨ (mark ≠ [] ∧ k = dd) ∨ NK K A0 k) A A1 ∧ ∀ ds1 A2, Chg [lp] A1 A2 → (∃ rec, A2.heap[lp]? = some (.loop rec)) →
        wp P (some lp) n body (roundP (fun k => k = lp ∨ (mark ≠ [] ∧ k = dd) ∨ NK K A0 k) A2 (I (pre ++ [x])) (fun c B => Ix c (pre ++ [x]) B)) E1 ds1 A2) (fun _ _ _ _ => False)) (upds E (zipV ps (encs x))) [] A)
    (hKl : ¬ K lp)
    (hdone : ∀ W, I xs W → hD W → Q .normal E (mark ++ ds) W) (hstop : ∀ c pre W, Ix c pre W → hD W → wp P r n c Q E (mark ++ ds) W) :
    ∃ (l : Nat) (mark : List Deferred) (w₁ : World) (d : Deferred) (w₁' : World) (f' : FuncId) (args : Array Value) (w₂ : World),
      (Instr.enterLoop fn a.tmps ps.toArray assign body (WF r).round).run P w = .ok (l, mark) w₁ ∧
      (resolve a.eval (rangeCall f l) 0).run P w₁ = .ok d w₁' ∧
      (∀ f', Target.leads P w₁' d.target d.args = some f' → (WF r).fn f') ∧
      (invoke d.target d.args).run P w₁' = .ok (.enter f' args) w₂ ∧
      ((WF r).depth.isSome = true → 1 ≤ 0) ∧
      CallsIn (WF r) (0 - 1) P f' args w₂ (rangePost (WF r) 0 P l (toQ n Q) { a with defers := mark ++ a.defers }) := by
  let rec0 : LoopState → Option Code → Loop := fun st pe => { state := st, pending := pe, fn, tmps := a.tmps, params := ps.toArray, assign, body, defers := dd }
  have hL1 : w1.heap[lp]? = some (.loop (rec0 .ready none)) := hL1;refine ⟨lp, mark, w1, { target := .fn (.func gf) caps, args := #[.func (.yield lp) #[] #[]] }, w1, gf, #[.func (.yield lp) #[] #[]] ++ caps, w1, by cases r <;> exact he, ?_, fun _ _ => trivial, ?_, fun hh => by simp [WF, Fence.wide] at hh, ?_⟩
  · rw [ev_env, ha2]
    simp only [resolve, hf]
    simp [Deferred.ofValue, go_sem, ev]
  · simp [invoke, go_sem, hent]
  have hcall := hit lp (fun pre W => I pre W ∧ W.heap[lp]? = some (.loop (rec0 .ready none)) ∧ hD W) (fun pre W => ∃ c, Ix c pre W ∧ W.heap[lp]? = some (.loop (rec0 .done (some c))) ∧ hD W) w1
    (fun pre A hJ => hSt pre A hJ.1)
    (fun pre x rest A0 A hx ⟨q1, q02, q03⟩ hpop => by
      have hcp := hPop _ _ _ _ q1 hpop;have q2 : A.heap[lp]? = some (.loop (rec0 .ready none)) := (hcp.2 lp (.inl rfl) (Array.getElem?_eq_some_iff.1 q02).1).trans q02;have q3 : hD A := hDK _ _ (fun _ => False) q03 hcp
      have hlt : lp < A.heap.size := (Array.getElem?_eq_some_iff.1 q2).1;have hy := run_yield (P := P) (args := ⟨encs x⟩) q2 (by simp [rec0, henc])
      have htm : ((rec0 .ready none).params.zip ⟨encs x⟩).foldl (fun tmps (t, a) => tmps.setIfInBounds t a) (rec0 .ready none).tmps = (ps.zip (encs x)).foldl (fun t (p : Nat × Value) => t.setIfInBounds p.1 p.2) a.tmps := by
        simp only [rec0]; rw [← Array.foldl_toList]; simp [Array.toList_zip]
      refine ⟨_, _, _, _, hy, roundIn_of_wpIn trivial ?_⟩
      have hE : env { tmps := (ps.zip (encs x)).foldl (fun t (p : Nat × Value) => t.setIfInBounds p.1 p.2) a.tmps, defers := [] } = upds E (zipV ps (encs x)) := by
        rw [env_zip ps (encs x) a (by rw [ha1]; exact hps), ha2]
      have hw := hbody pre x rest A0 A hx q1 hpop ⟨_, q2⟩ { tmps := (ps.zip (encs x)).foldl (fun t (p : Nat × Value) => t.setIfInBounds p.1 p.2) a.tmps, defers := [] } (by rw [zip_size]; exact ha1) hE rfl
      have hw' : assign.wpIn (Fence.wide.inRound lp) 0 P (toQ n (thenP (fun E1 _ A1 => Kept (fun k => k = lp ∨ (mark ≠ [] ∧ k = dd) ∨ NK K A0 k) A A1 ∧ ∀ ds1 A2, Chg [lp] A1 A2 → (∃ rec, A2.heap[lp]? = some (.loop rec)) →
          wp P (some lp) n body (roundP (fun k => k = lp ∨ (mark ≠ [] ∧ k = dd) ∨ NK K A0 k) A2 (I (pre ++ [x])) (fun c B => Ix c (pre ++ [x]) B)) E1 ds1 A2) (fun _ _ _ _ => False)))
          { tmps := (ps.zip (encs x)).foldl (fun t (p : Nat × Value) => t.setIfInBounds p.1 p.2) a.tmps, defers := [] } A := hw
      rw [htm]
      refine wpIn_mono hw' ?_;rintro e a1 A1 ⟨s1, s2⟩
      cases e with
      | normal =>
        obtain ⟨hk, hb⟩ := s2;have hl1 : A1.heap[lp]? = some (.loop (rec0 .ready none)) := (hk.2 lp (.inl rfl) hlt).trans q2;have hlt1 : lp < A1.heap.size := (Array.getElem?_eq_some_iff.1 hl1).1;refine ⟨_, run_beginRound hl1 rfl, ?_⟩;have hl2 : (A1.putObj lp (.loop { rec0 .ready none with state := .busy })).heap[lp]? = some (.loop { rec0 .ready none with state := .busy }) := World.putObj_heap_same hlt1;have hD2 : hD (A1.putObj lp (.loop { rec0 .ready none with state := .busy })) := hDl _ _ (hDK A A1 (NK K A0) q3 hk) ((Chg.putObj A1 lp _).mono fun x hx => by simp at hx; simp [hx])
        have hb2 := hb a1.defers _ (Chg.putObj A1 lp (.loop { rec0 .ready none with state := .busy })) ⟨_, hl2⟩ a1 s1 rfl rfl;have hb3 : body.wpIn (Fence.wide.inRound lp) 0 P (toQ n (roundP (fun k => k = lp ∨ (mark ≠ [] ∧ k = dd) ∨ NK K A0 k) (A1.putObj lp (.loop { rec0 .ready none with state := .busy })) (I (pre ++ [x])) (fun c B => Ix c (pre ++ [x]) B))) a1 (A1.putObj lp (.loop { rec0 .ready none with state := .busy })) := hb2
        refine wpIn_mono hb3 ?_;have fin : ∀ (jump : Option Code) (B : World), Kept (fun k => k = lp ∨ (mark ≠ [] ∧ k = dd) ∨ NK K A0 k) (A1.putObj lp (.loop { rec0 .ready none with state := .busy })) B →
            (Instr.endRound lp jump).run P B = .ok (.bool jump.isNone) (B.putObj lp (.loop (rec0 (if jump.isNone then .ready else .done) jump))) ∧
            (B.putObj lp (.loop (rec0 (if jump.isNone then .ready else .done) jump))).heap[lp]? = some (.loop (rec0 (if jump.isNone then .ready else .done) jump)) ∧
            hD (B.putObj lp (.loop (rec0 (if jump.isNone then .ready else .done) jump))) ∧ Chg [lp] B (B.putObj lp (.loop (rec0 (if jump.isNone then .ready else .done) jump))) ∧
            Kept (NK K A0) A (B.putObj lp (.loop (rec0 (if jump.isNone then .ready else .done) jump))) := fun jump B hk2 => by
          have hs2 : lp < (A1.putObj lp (.loop { rec0 .ready none with state := .busy })).heap.size := by simpa using hlt1
          have hl3 := (hk2.2 lp (.inl rfl) hs2).trans hl2;have hr := run_endRound (P := P) jump hl3;have hc : Chg [lp] B (B.putObj lp (.loop (rec0 (if jump.isNone then .ready else .done) jump))) := Chg.putObj _ _ _
          refine ⟨hr, World.putObj_heap_same (Array.getElem?_eq_some_iff.1 hl3).1, hDl _ _ (hDK _ B (NK K A0) hD2 hk2) (hc.mono fun x hx => by simp at hx; simp [hx]), hc, ?_, fun k hk3 hk4 => ?_⟩
          · have h1 := hk.1; have h2 := hk2.1; simp at h2 ⊢; omega
          have hne : k ≠ lp := fun e => by rw [e] at hk3; rcases hk3 with h | h; exact hKl h; exact Nat.not_le.2 (Array.getElem?_eq_some_iff.1 q02).1 h
          rw [World.putObj_heap_other hne, hk2.2 k (.inr (.inr hk3)) (by have := hk.1; simp; omega), World.putObj_heap_other hne, hk.2 k (.inr (.inr hk3)) hk4]
        have mono1 : ∀ {A B : World}, Chg [lp] A B → Chg (lp :: bs) A B := fun h => h.mono fun x hx => by simp at hx; simp [hx]
        rintro e a3 B ⟨t1, t2⟩
        cases e with
        | normal =>
          obtain ⟨hr, hl4, hD4, hc4, hk4⟩ := fin none B t2.1;exact ⟨_, _, hr, true, rfl, hk4, .inl ⟨rfl, hI _ _ _ t2.2 hc4, hl4, hD4⟩⟩
        | ret =>
          obtain ⟨hr, hl4, hD4, hc4, hk4⟩ := fin (some .ret) B t2.1;exact ⟨_, _, hr, false, rfl, hk4, .inr ⟨rfl, .ret, hIx _ _ _ _ t2.2 hc4, hl4, hD4⟩⟩
        | exit i =>
          obtain ⟨hr, hl4, hD4, hc4, hk4⟩ := fin (some (.exit i)) B t2.1;exact ⟨_, _, hr, false, rfl, hk4, .inr ⟨rfl, .exit i, hIx _ _ _ _ t2.2 hc4, hl4, hD4⟩⟩
        | goto t =>
          obtain ⟨hr, hl4, hD4, hc4, hk4⟩ := fin (some (.goto t)) B t2.1;exact ⟨_, _, hr, false, rfl, hk4, .inr ⟨rfl, .goto t, hIx _ _ _ _ t2.2 hc4, hl4, hD4⟩⟩
        | panic c => exact t2.elim
        | outgrown => exact t2.elim
      | exit i => exact s2.elim
      | goto t => exact s2.elim
      | ret => exact s2.elim
      | panic c => exact s2.elim
      | outgrown => exact s2.elim)
    ⟨h0, hL1, hD1⟩
  have hargs : (#[.func (.yield lp) #[] #[]] ++ caps : Array Value) = ⟨.func (.yield lp) #[] #[] :: caps.toList⟩ := by
    apply Array.ext'; simp
  rw [hargs]
  refine CallsIn.mono (callsIn_of_calls hcall) ?_;have mono1 : ∀ {A B : World}, Chg [lp] A B → Chg (lp :: bs) A B := fun h => h.mono fun x hx => by simp at hx; simp [hx]
  rintro e W2 ⟨v, rfl, (⟨q1, q2, q3⟩ | ⟨pre, c, q1, q2, q3⟩)⟩
  · refine ⟨none, _, run_endLoop q2 (by simp [rec0]), ?_⟩
    have hc := Chg.putObj W2 lp (.loop { rec0 .ready none with state := .exhausted });refine ⟨ha1, ?_⟩;have := hdone _ (hI _ _ _ q1 hc) (hDl _ _ q3 (mono1 hc));rw [← ha2, ← ha3] at this;exact this
  refine ⟨some c, _, run_endLoop q2 (by simp [rec0]), ?_⟩
  have hc := Chg.putObj W2 lp (.loop { rec0 .done (some c) with state := .exhausted });exact hstop c pre _ (hIx _ _ _ _ q1 hc) (hDl _ _ q3 (mono1 hc)) _ ha1 ha2 (by rw [ha3])
theorem x_rangeH {α : Type} {f : Operand} {ps : List Nat} {assign body : Code} {gf : FuncId} {caps : Array Value} {bs : List Nat} {K : Nat → Prop} {encs : α → List Value} {xs : List α} {St : List α → World → Prop} {Pop : List α → α → World → World → Prop}
    (hf : ev E f = .func (.func gf) #[] caps) (hent : ∀ args (w : World), (callFunc gf args).run P w = .ok (.enter gf args) w) (hps : (ps.all fun p => Nat.blt p n) = true) (henc : ∀ x, (encs x).length = ps.length) (hbs : ∀ b, b ∈ bs → b < w.heap.size) (hK : ∀ k, K k → k < w.heap.size)
    (hit : IterH P gf caps.toList K encs xs St Pop)
    (h : ∀ (D lp : Nat) (w1 : World), w.heap.size ≤ D → w.heap.size ≤ lp → D ≠ lp → D < w1.heap.size → lp < w1.heap.size → Chg [] w w1 → ∃ (I : List α → World → Prop) (Ix : Code → List α → World → Prop), I [] w1 ∧
      (∀ pre A, I pre A → St pre A) ∧ (∀ pre x A B, I pre A → Pop pre x A B → Kept (fun k => k = lp ∨ k = D) A B) ∧ (∀ pre A B, I pre A → Chg [lp] A B → I pre B) ∧ (∀ c pre A B, Ix c pre A → Chg [lp] A B → Ix c pre B) ∧
      (∀ pre x rest A0 A, xs = pre ++ x :: rest → I pre A0 → Pop pre x A0 A → (∃ rec, A.heap[lp]? = some (.loop rec)) →
        wp P (some lp) n assign (thenP (fun E1 _ A1 => Kept (fun k => k = lp ∨ k = D ∨ NK K A0 k) A A1 ∧ ∀ ds1 A2, Chg [lp] A1 A2 → (∃ rec, A2.heap[lp]? = some (.loop rec)) →
          wp P (some lp) n body (roundP (fun k => k = lp ∨ k = D ∨ NK K A0 k) A2 (I (pre ++ [x])) (fun c B => Ix c (pre ++ [x]) B)) E1 ds1 A2) (fun _ _ _ _ => False)) (upds E (zipV ps (encs x))) [] A) ∧
      (∀ W, I xs W → DefD D W → Q .normal E (mk D :: ds) W) ∧ (∀ c pre W, Ix c pre W → DefD D W → wp P none n c Q E (mk D :: ds) W)) :
    wp P none n (.rangeFunc f ps.toArray assign body) Q E ds w := by
  intro a ha1 ha2 ha3;refine wpIn_rangeFunc ?_;intro fn hfn;obtain ⟨W1, hW1⟩ : ∃ W1, (w.alloc (.deferred (some []))).alloc (.loop { state := .ready, pending := none, fn, tmps := a.tmps, params := ps.toArray, assign, body, defers := w.heap.size }) = W1 := ⟨_, rfl⟩;have hc1 : Chg [] w W1 := by rw [← hW1]; exact (Chg.alloc w _).then (Chg.alloc _ _)
  have hL1 : W1.heap[w.heap.size + 1]? = some (.loop { state := .ready, pending := none, fn, tmps := a.tmps, params := ps.toArray, assign, body, defers := w.heap.size }) := by
    rw [← hW1]; have := World.alloc_heap_new (w.alloc (.deferred (some []))) (.loop { state := .ready, pending := none, fn, tmps := a.tmps, params := ps.toArray, assign, body, defers := w.heap.size }); rwa [World.size_alloc] at this
  have hD1 : DefD w.heap.size W1 := by
    rw [← hW1]; exact (Below.heap_alloc _ _ _ (by simp)).trans (World.alloc_heap_new w _)
  obtain ⟨I, Ix, h0, hSt, hPp, hI, hIx, hb, hd, hs⟩ := h w.heap.size (w.heap.size + 1) W1 (Nat.le_refl _) (Nat.le_succ _) (by omega) (Array.getElem?_eq_some_iff.1 hD1).1 (Array.getElem?_eq_some_iff.1 hL1).1 hc1
  have hDn : w.heap.size ∉ (w.heap.size + 1) :: bs := fun hx => by
    rcases List.mem_cons.1 hx with h | h
    · omega
    have := hbs _ h; omega
  refine rangeH_core (K := K) (r := none) hf hent hps henc (w.heap.size + 1) w.heap.size [mk w.heap.size] W1 (DefD w.heap.size) fn a ha1 ha2 ha3 ?_ hL1 hD1
    (fun A B hA hc => (hc.block _ (Array.getElem?_eq_some_iff.1 hA).1 hDn).trans hA) (fun A B K' hA hk => (hk.2 _ (.inr (.inl ⟨by simp, rfl⟩)) (Array.getElem?_eq_some_iff.1 hA).1).trans hA)
    (fun hx => by have := hbs _ hx; omega) I Ix hit hSt (fun pre x A B hi hp => have k := hPp pre x A B hi hp; ⟨k.1, fun z hz hl => k.2 z (hz.elim .inl fun h => h.elim (fun h => .inr h.2) False.elim) hl⟩) h0 hI hIx ?_ (fun hx => by have := hK _ hx; omega) hd hs
  · rw [← hW1]; exact run_enterLoop_outer _ _ _ _ _
  intro pre x rest A0 A hx hi hp hr;refine x_mono (hb pre x rest A0 A hx hi hp hr) ?_;have hkk : ∀ {A B : World}, Kept (fun k => k = w.heap.size + 1 ∨ k = w.heap.size ∨ NK K A0 k) A B → Kept (fun k => k = w.heap.size + 1 ∨ ([mk w.heap.size] ≠ [] ∧ k = w.heap.size) ∨ NK K A0 k) A B := fun h => ⟨h.1, fun k hk hl => h.2 k (hk.elim .inl (fun h => h.elim (fun h => .inr (.inl h.2)) (fun h => .inr (.inr h)))) hl⟩
  intro e E1 ds1 A1 hq
  cases e with
  | normal =>
    obtain ⟨k1, k2⟩ := hq;refine ⟨hkk k1, fun ds2 A2 hc hr2 => x_mono (k2 ds2 A2 hc hr2) ?_⟩
    intro e E3 ds3 A3 hq3
    cases e with
    | normal => exact ⟨hkk hq3.1, hq3.2⟩
    | ret => exact ⟨hkk hq3.1, hq3.2⟩
    | exit i => exact ⟨hkk hq3.1, hq3.2⟩
    | goto i => exact ⟨hkk hq3.1, hq3.2⟩
    | panic c => exact hq3
    | outgrown => exact hq3
  | _ => exact hq
end Go.Proofs.YtghjmiggobpmoaaGreatDoor.K
set_option maxRecDepth 20000
namespace Go.Proofs.YtghjmiggobpmoaaGreatDoor.K
open Go Go.Proofs Go.RowKit
def yE (y : Tok × Int) : List Value := [.agg ⟨[.int .i64 y.1.kind, S y.1.text, .int .i64 y.1.at_, S y.1.here, .bool y.1.raw]⟩, .int .i64 y.2]
section mem
variable (s : Bytes) (b bx : Nat) (D : Nat → Prop)
def MemL (O : List Tok) (U : List (Nat × Bool)) (A : Option Addr) (cap : Nat) (Aw : Option Addr) (capw : Nat) (W : World) : Prop := Blk W b [S s, .slice A O.length cap, .slice Aw U.length capw] 69 ∧ Own tok5E 51 W D A cap O ∧ Own wtE 75 W D Aw capw U
def StL (pre : List (Tok × Int)) (W : World) : Prop := (Blk W bx [.pointer (some ⟨b, 0, none⟩)] 66 ∧ MaxT W ∧ Tab W) ∧ ∃ A cap Aw capw, MemL s b D (mO s pre.length) (mW s pre.length) A cap Aw capw W
def PopL (pre : List (Tok × Int)) (x : Tok × Int) (A0 A1 : World) : Prop := ∀ A cap Aw capw, MemL s b D (mO s pre.length) (mW s pre.length) A cap Aw capw A0 → ∃ Aw' capw', (∀ k, k ∈ ob Aw' → k ∈ ob Aw) ∧ MemL s b D (itZ s pre.length ⟨blankV s, [], []⟩).out (itZ s pre.length ⟨blankV s, [], []⟩).ws A cap Aw' capw' A1 ∧ Chg (b :: ob A) A0 A1
end mem
theorem Blk.inj {w : World} {b : Nat} {cs ds : List Value} {T' : TypeId} (h : Blk w b cs T') (k : Blk w b ds T') : cs = ds := by
  have e := (show w.heap[b]? = _ from h).symm.trans (show w.heap[b]? = _ from k)
  simpa using e
theorem take_at {α : Type} {l : List α} {n : Nat} {x : α} (h : l[n]? = some x) : l = l.take n ++ x :: l.drop (n + 1) := by rw [← drop_cons_at h, List.take_append_drop]
theorem ltokens_spec {b : Nat} {w : World} : CallR Tryz.prog 26 #[.pointer (some ⟨b, 0, none⟩)] w fun v w' => ∃ bx, v = .func (.func 33) #[] #[.pointer (some ⟨bx, 0, none⟩)] ∧ w.heap.size ≤ bx ∧ Blk w' bx [.pointer (some ⟨b, 0, none⟩)] 66 ∧ Chg [] w w' := by
 refine callR_of_wp (args := [_]) Tryz.func26 rfl (Nat.le_of_ble_eq_true rfl) ?_;have HC : Chg [] w w := .refl _;refine sr rfl <| Wp rfl <| st_box (v := .pointer _) (vs := [_]) rfl rfl ?_;intro bx w1 e2 c3 hb4;have ge_bx := gB e2 HC.size;replace HC := HC.then c3;clear e2;refine av (v := .nilFunc) rfl <| en <| sr rfl <| Wp rfl <| st_makeFunc <| av (v := .func _ _ _) rfl <| en <| x_ret <| ret_tmp (v := .func _ _ _) rfl rfl ?_;exact ⟨bx, rfl, ge_bx, hb4, HC⟩
theorem ltokens_iter {s : Bytes} {b bx : Nat} {D K : Nat → Prop} {xs : List (Tok × Int)} (hD : ∀ k, D k → k ≠ b ∧ k ≠ bx ∧ k ≠ 1 ∧ k ≠ 0) (hbb : bx ≠ b) (hb0 : b ≠ 1) (hbz : b ≠ 0) (hs : s.length ≤ 16384) (hX : yldF s (s.length + 1) ⟨blankV s, [], []⟩ = xs) :
    IterH Tryz.prog 33 [.pointer (some ⟨bx, 0, none⟩)] K yE xs (StL s b bx D) (PopL s b D) := by
 intro lp J Jx W hSt hR hJ;obtain ⟨⟨hbx, hmx, ht⟩, A, cap, Aw, capw, hb, ho, hw⟩ := id (hSt _ _ hJ);have hmA : MemL s b D (mO s 0) (mW s 0) A cap Aw capw W := ⟨hb, ho, hw⟩;have hz0 := And.intro hmx.lt ht.lt;refine callR_of_wp (args := [_, _]) Tryz.func33 rfl (Nat.le_of_ble_eq_true rfl) ?_;have HA : Chg (b :: ob A) W W := .refl _;have hyz := yld_at s (s.length + 1) ⟨blankV s, [], []⟩ (inv_first s) (by show s.length - blankV s < _; omega)
 rw [hX] at hyz
 obtain ⟨hxp, hyat⟩ := hyz;refine sr rfl <| Wp rfl <| st_load1 (v := .pointer _) T.one66 rfl (hbx.cell rfl) <| nc rfl <| fa T.fld69_0 rfl <| lS T.one9 rfl (hb.cell rfl) <| Wp rfl <| st_call (ags := [_, _]) rfl rfl T.ent34 rfl (blank_spec s 0 _ q0 (Nat.zero_le _)) ?_;rintro _ w1 ⟨rfl, c2⟩;replace hbx := hbx.tr0 c2;replace hb := hb.tr0 c2;replace ho := ho.tr0 c2;replace hw := hw.tr0 c2;replace hmx := hmx.tr0 c2;replace ht := ht.tr0 c2;replace HA := HA.then c2;rw [show (0 + blankV (s.drop 0) : Nat) = blankV s from Nat.zero_add _];refine aI rfl <| en <| x_block <| x_loop (ι := Nat × Zst × World × Option Addr × Nat × Option Addr × Nat) [3, 4, 5, 6, 12, 13, 14, 15, 16, 17, 18, 19, 20, 21, 22, 23, 24, 25, 26, 27, 28, 29, 30, 31, 32, 33, 34, 35, 36, 37, 38, 39, 40, 41, 42, 43, 44, 45, 46, 47, 48] (fun ⟨n, Z, W0, A, cap, Aw, capw⟩ => [(3, .int .i64 (Z.i : Int))]) (fun ⟨n, Z, W0, A, cap, Aw, capw⟩ W => (Z = itZ s n (⟨blankV s, [], []⟩ : Zst) ∧ n < xs.length ∧ (1 < W0.heap.size ∧ 0 < W0.heap.size) ∧ ∃ Aw0 capw0, MemL s b D (mO s n) (mW s n) A cap Aw0 capw0 W0 ∧ ∀ k, k ∈ ob Aw → k ∈ ob Aw0) ∧ (Blk W bx [.pointer (some ⟨b, 0, none⟩)] 66) ∧ (Blk W b [S s, .slice A Z.out.length cap, .slice Aw Z.ws.length capw] 69) ∧ (Own tok5E 51 W D A cap Z.out) ∧ (Own wtE 75 W D Aw capw Z.ws) ∧ (MaxT W) ∧ (Tab W) ∧ (J (xs.take n) W0) ∧ (Chg (b :: ob A) W0 W)) (fun ⟨n, Z, W0, A, cap, Aw, capw⟩ => xs.length - n) (0, (⟨blankV s, [], []⟩ : Zst), W, A, cap, Aw, capw) ?_ ?_ ?_
 · exact ⟨rfl, trivial⟩
 ·refine ⟨?_, hbx, hb, ho, hw, hmx, ht, hJ, HA⟩;exact ⟨rfl, hxp, hz0, Aw, capw, hmA, fun _ h => h⟩
 intro ⟨n, Z, W0, A, cap, Aw, capw⟩ G4 w3 ⟨⟨hZ, hn, hz0, hp0⟩, hbx, hb, ho, hw, hmx, ht, hJ, HA⟩
 change wp _ _ _ _ _ (upds (over _ _ G4) [(3, .int .i64 (Z.i : Int))]) _ _
 obtain ⟨hxn, hinv, hend⟩ := hyat n hn;rw [← hZ] at hxn hinv hend;obtain ⟨hZi, hbl, hwj, hgd⟩ := hinv;have hinv : InvZ s Z := ⟨hZi, hbl, hwj, hgd⟩;have hlt : (xs.take n).length = n := by rw [List.length_take]; omega
 have hlt1 : (xs.take n ++ [yZ s Z]).length = n + 1 := by rw [List.length_append, hlt]; rfl
 have hxs := take_at hxn;have ht1 := hz0.2;have hm1 := hz0.1;refine x_seq <| x_block <| sr rfl <| Wp rfl <| st_load1 (v := .pointer _) T.one66 rfl (hbx.cell rfl) <| nc rfl <| fa T.fld69_0 rfl <| lS T.one9 rfl (hb.cell rfl) <| mI rfl <| Wp rfl <| st_call (ags := [_, _]) rfl rfl T.ent35 rfl (tnext_spec s Z.i _ q0 hZi (fun h => ⟨(hbl.resolve_left h).1, (hbl.resolve_left h).2.1⟩) ht) ?_
 rintro _ w5 ⟨z, rfl, hz, c6⟩;replace hbx := hbx.tr0 c6;replace hb := hb.tr0 c6;replace ho := ho.tr0 c6;replace hw := hw.tr0 c6;replace HA := HA.then c6;refine mv (v := .tuple ⟨[_, _, _]⟩) rfl <| Wp rfl <| st_extract (vs := [_, _, _]) (v := .agg ⟨[.int _ _, S _, .int _ _, S _, .bool _]⟩) rfl rfl <| Wp rfl <| st_extract (vs := [_, _, _]) (v := .int _ _) rfl rfl <| Wp rfl <| st_extract (vs := [_, _, _]) (v := .int _ _) rfl rfl <| Wp rfl <| st_alloc T.zero51 ?_;intro b4 w7 e8 c9 hb10;have ge_b4 : W0.heap.size ≤ b4 := by rw [e8]; exact HA.size
 have ne_bx_b4 := nF e8 hbx.ne_size;have ne_b_b4 := nF e8 hb.ne_size;have nho_b4 : b4 ∉ ob A := ho.fresh (by rw [e8]; exact Nat.le_refl _)
 have nhw_b4 : b4 ∉ ob Aw := hw.fresh (by rw [e8]; exact Nat.le_refl _)
 replace hb := hb.tr0 c9;replace ho := ho.tr0 c9;replace hw := hw.tr0 c9;replace HA := HA.then c9;clear e8;refine Wp rfl <| st_st (v := .agg ⟨[_, _, _, _, _]⟩) T.size51 rfl rfl rfl hb10 ?_;intro w11 c12 hb13; simp only [setVs, setV] at hb13;clear hb10;replace hb := hb.tr1 c12 ne_b_b4;replace ho := ho.trF flat_flat c12 (by intro k hk hx; exact nho_b4 (List.mem_singleton.1 hx ▸ hk))
 replace hw := hw.trF flat_flat c12 (by intro k hk hx; exact nhw_b4 (List.mem_singleton.1 hx ▸ hk))
 replace HA := HA.then1 c12 ge_b4;refine aI rfl <| aI rfl <| en <| x_seq <| sr rfl <| mv (v := .func _ _ _) rfl <| Wp rfl <| st_loadA (vs := [_, _, _, _, _]) T.agg51 rfl (hb13.cells (n := 5) (vs := [_, _, _, _, _]) rfl) rfl <| mI rfl ?_
 have hpop : PopL s b D (xs.take n) (yZ s Z) W0 w11 := by
   intro A2 cap2 Aw2 capw2 hm;obtain ⟨Aw0, capw0, hm0, hsub⟩ := hp0;have he := hm0.1.inj (by rw [hlt] at hm; exact hm.1)
   simp only [List.cons.injEq, Value.slice.injEq, true_and, and_true] at he
   obtain ⟨⟨rfl, rfl⟩, rfl, _⟩ := he;rw [hlt, ← hZ]; exact ⟨Aw, capw, hsub, ⟨hb, ho, hw⟩, HA⟩
 refine Wp rfl <| st_yield (vs := [.agg _, .int _ _]) rfl rfl rfl rfl (hR (xs.take n) (yZ s Z) (xs.drop (n + 1)) _ _ hxs hJ hpop) ?_;rintro _ w14 ⟨hk2, ⟨rfl, hJ2⟩ | ⟨rfl, hJ2⟩⟩
 ·have hb4k := hb13.kept hk2 (.inr ge_b4);have hst2 := hSt _ _ hJ2
  unfold StL at hst2
  rw [hlt1] at hst2
  obtain ⟨⟨hbx2, hmx2, ht2⟩, A2, cap2, Aw2, capw2, hmS⟩ := hst2;replace hmS : MemL s b D (nxO s Z) (nxW s Z) A2 cap2 Aw2 capw2 w14 := by rw [hZ]; exact hmS
  obtain ⟨hb2, ho2, hw2⟩ := id hmS;have HA2 : Chg (b :: ob A2) w14 w14 := .refl _;have htq := ht2.lt;have hmq := hmx2.lt;refine Wp rfl <| st_not rfl <| mB rfl <| w_yes 5 33 false <| st_move (v := .int _ _) rfl <| w_yes 5 33 false <| st_neq rfl rfl <| pF rfl rfl <| mB rfl <| w_split (d := 37) rfl (fun g15 => ?_) (fun g15 => ?_)
  ·try simp only [nm, ne_eq] at g15
   have hee : endZ s Z = true := endZ_iff.2 (.inl (by first | assumption | simp_all))
   iterate 3 refine w_no 9 37 false ?_
   refine pT rfl rfl <| en <| x_cond (t := true) rfl (fun h0 => ?_) (fun h0 => ?_)
   rotate_left
   · exact absurd h0 (by decide)
   refine x_ret <| then_r <| block_r <| then_r <| then_r <| block_r <| ret_none rfl ?_;have hfin : xs.take n ++ [yZ s Z] = xs := by have h9 := hend.1 hee; have h8 := hxs; rw [List.drop_eq_nil_of_le q0] at h8; exact h8.symm
   have hJ9 := hJ2;rw [hfin] at hJ9;exact .inl hJ9
  try simp only [nm, ne_eq] at g15
  refine w_yes 9 37 false <| st_fieldAddr T.fld51_0 rfl <| w_yes 9 37 false <| st_load1 (v := .int _ _) T.one3 rfl (hb4k.cell rfl) <| w_yes 9 37 false <| st_eql rfl rfl <| pF rfl rfl <| en <| x_cond rfl (fun h0 => ?_) (fun h0 => ?_)
  ·try simp only [nm, ne_eq] at h0
   have hee : endZ s Z = true := endZ_iff.2 (.inr (by first | assumption | simp_all))
   refine x_ret <| then_r <| block_r <| then_r <| then_r <| block_r <| ret_none rfl ?_;have hfin : xs.take n ++ [yZ s Z] = xs := by have h9 := hend.1 hee; have h8 := hxs; rw [List.drop_eq_nil_of_le q0] at h8; exact h8.symm
   have hJ9 := hJ2;rw [hfin] at hJ9;exact .inl hJ9
  try simp only [nm, ne_eq] at h0
  have hkn : (tZ s Z).1.kind ≠ 0 := by first | assumption | simp_all
  have he0 : (tZ s Z).2.2 = 0 := by first | assumption | simp_all
  have hne : endZ s Z = false := endZ_no.2 ⟨he0, hkn⟩;obtain rfl := hz he0;have htk : xs.take (n + 1) = xs.take n ++ [yZ s Z] := by rw [List.take_add_one, hxn]; rfl
  rw [← htk] at hJ2
  obtain ⟨m1, m2, m3, m4⟩ := inv_mid hinv hne;refine x_skip <| then_n <| sr rfl <| mI rfl <| aI rfl <| en <| sr rfl <| fa T.fld51_0 rfl <| lI T.one3 rfl (hb4k.cell rfl) <| Wp rfl <| st_eql rfl rfl <| en <| x_cond rfl (fun h1 => ?_) (fun h1 => ?_)
  ·try simp only [nm, ne_eq] at h1
   have hk3 : (tZ s Z).1.kind = 3 := by first | assumption | simpa using h1
   refine x_region rfl <| Wp rfl <| st_load1 (v := .pointer _) T.one66 rfl (hbx2.cell rfl) <| mI rfl <| Wp rfl <| st_call (ags := [_, _]) rfl rfl T.ent28 rfl (lines_spec s (nxI s Z) _ hb2 ho2 hw2 (fun k h => ⟨(hD k h).1, (hD k h).2.2.1⟩) hb0 m3 m2 hs m4 hmx2) ?_
   rintro _ w16 ⟨rfl, hb3, ho3, ⟨hg3, hl3⟩, c17⟩;rw [show (nxO s Z).length = (linesV (nxO s Z) (nxW s Z) (s.drop (nxI s Z))).1.length from (linesV_len _ _ _).symm] at hb3;have hbx3 := hbx2.tr c17 (fun h => (List.mem_cons.1 h).elim hbb (fun h => (hD _ (ho2.inD _ h)).2.1 rfl))
   have hmx3 := hmx2.tr c17 (fun h => (List.mem_cons.1 h).elim (fun e => hb0 e.symm) (fun h => (hD _ (ho2.inD _ h)).2.2.1 rfl))
   have ht3 := ht2.tr c17 (fun h => (List.mem_cons.1 h).elim (fun e => hbz e.symm) (fun h => (hD _ (ho2.inD _ h)).2.2.2 rfl))
   have HA3 := HA2.trans c17 (fun x hx => .inl hx)
   have hw3 : Own wtE 75 w16 D none 0 ([] : List (Nat × Bool)) := .nil;refine aI rfl <| wops_nil <| block_n <| then_n <| x_region rfl <| Wp rfl <| st_load1 (v := .pointer _) T.one66 rfl (hbx3.cell rfl) <| nc rfl <| fa T.fld69_0 rfl <| lS T.one9 rfl (hb3.cell rfl) <| mI rfl <| Wp rfl <| st_call (ags := [_, _]) rfl rfl T.ent34 rfl (blank_spec s (nxI s Z + (linesV (nxO s Z) (nxW s Z) (s.drop (nxI s Z))).2) _ q0 hl3) ?_;rintro _ w18 ⟨rfl, c19⟩;replace hbx3 := hbx3.tr0 c19;replace hb3 := hb3.tr0 c19;replace ho3 := ho3.tr0 c19;replace hw3 := hw3.tr0 c19;replace hmx3 := hmx3.tr0 c19;replace ht3 := ht3.tr0 c19;replace HA3 := HA3.then c19;refine aI rfl <| en <| ⟨(n + 1, ⟨nxI s Z + (linesV (nxO s Z) (nxW s Z) (s.drop (nxI s Z))).2 + blankV (s.drop (nxI s Z + (linesV (nxO s Z) (nxW s Z) (s.drop (nxI s Z))).2)), (linesV (nxO s Z) (nxW s Z) (s.drop (nxI s Z))).1, []⟩, w14, A2, cap2, none, 0), ?_, ?_, rfl, ⟨rfl, trivial⟩, ?_⟩
   ·refine ⟨?_, hbx3, hb3, ho3, hw3, hmx3, ht3, hJ2, HA3⟩;exact ⟨by rw [itZ_succ, ← hZ]; unfold nxZ; rw [if_pos hk3], by have := mt hend.2 (by rw [hne]; simp); omega, ⟨hmq, htq⟩, Aw2, capw2, by show MemL s b D (nxO s (itZ s n ⟨blankV s, [], []⟩)) (nxW s (itZ s n ⟨blankV s, [], []⟩)) A2 cap2 Aw2 capw2 _; rw [← hZ]; exact hmS, (fun k h => by cases h)⟩
   ·show xs.length - (n + 1) < xs.length - n; omega
   exact q9
  try simp only [nm, ne_eq] at h1
  have hk3 : ¬ (tZ s Z).1.kind = 3 := by first | assumption | simpa using h1
  refine x_skip <| block_n <| then_n <| x_region rfl <| Wp rfl <| st_load1 (v := .pointer _) T.one66 rfl (hbx2.cell rfl) <| nc rfl <| fa T.fld69_0 rfl <| lS T.one9 rfl (hb2.cell rfl) <| mI rfl <| Wp rfl <| st_call (ags := [_, _]) rfl rfl T.ent34 rfl (blank_spec s (nxI s Z) _ q0 m2) ?_;rintro _ w20 ⟨rfl, c21⟩;replace hbx2 := hbx2.tr0 c21;replace hb2 := hb2.tr0 c21;replace ho2 := ho2.tr0 c21;replace hw2 := hw2.tr0 c21;replace hmx2 := hmx2.tr0 c21;replace ht2 := ht2.tr0 c21;replace HA2 := HA2.then c21;refine aI rfl <| en <| ⟨(n + 1, ⟨nxI s Z + blankV (s.drop (nxI s Z)), nxO s Z, nxW s Z⟩, w14, A2, cap2, Aw2, capw2), ?_, ?_, rfl, ⟨rfl, trivial⟩, ?_⟩
  ·refine ⟨?_, hbx2, hb2, ho2, hw2, hmx2, ht2, hJ2, HA2⟩;exact ⟨by rw [itZ_succ, ← hZ]; unfold nxZ; rw [if_neg hk3], by have := mt hend.2 (by rw [hne]; simp); omega, ⟨hmq, htq⟩, Aw2, capw2, by show MemL s b D (nxO s (itZ s n ⟨blankV s, [], []⟩)) (nxW s (itZ s n ⟨blankV s, [], []⟩)) A2 cap2 Aw2 capw2 _; rw [← hZ]; exact hmS, (fun k h => h)⟩
  ·show xs.length - (n + 1) < xs.length - n; omega
  exact q9
 have hb4k := hb13.kept hk2 (.inr ge_b4);refine Wp rfl <| st_not rfl <| mB rfl <| w_no 5 33 false <| w_no 5 33 false <| pT rfl rfl <| mB rfl ?_;iterate 3 refine w_no 9 37 false ?_
 refine pT rfl rfl <| en <| x_cond (t := true) rfl (fun h0 => ?_) (fun h0 => ?_)
 rotate_left
 · exact absurd h0 (by decide)
 refine x_ret <| then_r <| block_r <| then_r <| then_r <| block_r <| ret_none rfl ?_;exact .inr ⟨_, hJ2⟩
end Go.Proofs.YtghjmiggobpmoaaGreatDoor.K
namespace Go.Proofs.YtghjmiggobpmoaaGreatDoor.K
open Go Go.Proofs Go.RowKit
theorem inv_last {s : Bytes} {Z : Zst} (h : InvZ s Z) (he : endZ s Z = true) (h0 : (tZ s Z).2.2 = 0) : (∀ x, x ∈ nxW s Z → x.1 < (nxO s Z).length) ∧ GoodO s.length s.length (nxO s Z) := by
  have hk := (endZ_iff.1 he).resolve_left (by rw [h0]; simp)
  refine ⟨pushW_lt h.ws, fun u hu => ?_⟩
  rcases List.mem_append.1 hu with hu | hu
  · have h1 := h.good u hu; have h2 := h.le; exact ⟨h1.1, by omega⟩
  rw [List.mem_singleton.1 hu]
  have hr : s.drop Z.i = [] := by
    rcases Decidable.em (s.drop Z.i = []) with h9 | h9
    · exact h9
    rcases nextT_ok h9 (h.bl.resolve_left h9) (Z.i : Int) with ⟨h3, _⟩ | ⟨_, h3, _⟩
    · exact absurd h0 h3
    exact absurd hk h3
  unfold tZ nextT; rw [if_pos hr]; exact ⟨Nat.zero_le _, Nat.zero_le _⟩
theorem push_yes {l0 : List Tok} {z y : Tok} {ws : List (Nat × Bool)} (h1 : y.kind = 1) (h2 : z.kind = 2) (h3 : Lib.hasPrefix z.text [60, 60] = true) : pushW (l0 ++ [z]) ws y = ws ++ [((l0 ++ [z]).length, decide (z.text = [60, 60, 45]))] := by
  simp [pushW, hereV, h1, h2, h3]
theorem push_no {l0 : List Tok} {z y : Tok} {ws : List (Nat × Bool)} (h : ¬ (y.kind = 1 ∧ z.kind = 2 ∧ Lib.hasPrefix z.text [60, 60] = true)) : pushW (l0 ++ [z]) ws y = ws := by
  simp [pushW, hereV, h]
theorem own_disj {w : World} {D D' : Nat → Prop} {A B : Option Addr} {cap capw : Nat} {O : List Tok} {U : List (Nat × Bool)} (ho : Own tok5E 51 w D A cap O) (hw : Own wtE 75 w D' B capw U) : ∀ k, k ∈ ob A → k ∉ ob B := by
  intro k hk
  cases A with
  | none => cases hk
  | some a =>
    obtain ⟨g, rest, rfl, hb, _⟩ := Own.raw (h := ho);simp only [ob, List.mem_singleton] at hk; subst hk;exact hw.ne_blk hb (by decide)
theorem push_le {out : List Tok} {ws : List (Nat × Bool)} {y : Tok} : (pushW out ws y).length ≤ ws.length + 1 := by unfold pushW; split <;> simp
theorem it_len (s : Bytes) : ∀ (n : Nat), (itZ s n ⟨blankV s, [], []⟩).out.length = n ∧ (itZ s n ⟨blankV s, [], []⟩).ws.length ≤ n
  | 0 => ⟨rfl, Nat.le_refl _⟩
  | n + 1 => by
    have h := it_len s n;have hp := push_le (out := (itZ s n ⟨blankV s, [], []⟩).out) (ws := (itZ s n ⟨blankV s, [], []⟩).ws) (y := (tZ s (itZ s n ⟨blankV s, [], []⟩)).1);rw [itZ_succ];generalize itZ s n ⟨blankV s, [], []⟩ = Z at h hp ⊢
    unfold nxZ
    split
    · exact ⟨by show (linesV _ _ _).1.length = _; rw [linesV_len]; unfold nxO; simp [h.1], Nat.zero_le _⟩
    exact ⟨by show (nxO s Z).length = _; unfold nxO; simp [h.1], by show (nxW s Z).length ≤ _; unfold nxW; omega⟩
theorem yld_len (s : Bytes) : ∀ (k : Nat) (Z : Zst), (yldF s k Z).length ≤ k
  | 0, _ => Nat.le_refl _
  | k + 1, Z => by rw [yldF]; have := yld_len s k (nxZ s Z); split <;> simp; exact this
def TokensT (w w' : World) (r : List Tok × Int × Int) (v : Value) : Prop := ∃ A cap, v = .tuple ⟨[.slice A r.1.length cap, .int .i64 r.2.1, .int .i64 r.2.2]⟩ ∧ r.1.length ≤ cap ∧ Sl tok5E w' (fun k => w.heap.size ≤ k) A r.1 ∧ Chg [] w w'
set_option maxHeartbeats 1600000 in
theorem Tokens_spec (s : Bytes) (w : World) (hs : s.length < 4294967281) (hmx : MaxT w) (ht : Tab w) : CallR Tryz.prog 12 #[S s] w fun v w' => TokensT w w' (tokensV s) v := by
 refine callR_of_wpM (args := [_]) Tryz.func12 rfl (Nat.le_of_ble_eq_true rfl) ?_;have HC : Chg [] w w := .refl _;have hM : Marks w.heap.size [] w := trivial;have ht1 := ht.lt;have hm1 := hmx.lt;refine sr rfl <| aL rfl <| aI rfl <| aI rfl <| en <| x_scope <| x_seq <| sr rfl <| mS rfl <| Wp rfl <| st_slen (ct := #[9]) T.u9 rfl <| Wp rfl <| st_gtr rfl rfl <| en <| x_cond rfl (fun h0 => ?_) (fun h0 => ?_)
 ·try simp only [nm, ne_eq] at h0
  refine sr rfl <| aL rfl <| aI rfl <| aI rfl <| en <| x_ret <| then_r <| scope_r <| retM_marks hM ?_;intro w99 c99;have hlm := hM.lt;replace HC := HC.trans c99 (fun k hk => .inr (by have := (hlm k hk).1; omega))
  refine ret_tmp3 (v := .slice _ _ _) (v2 := .int _ _) (v3 := .int _ _) rfl rfl rfl rfl ?_;rw [show tokensV s = ([], 0, 108) by unfold tokensV; rw [if_pos q0]]
  exact ⟨none, 0, rfl, Nat.le_refl _, .nil, HC⟩
 try simp only [nm, ne_eq] at h0
 have hs2 : s.length ≤ 16384 := by omega
 obtain ⟨xs, hX⟩ : ∃ xs, yldF s (s.length + 1) ⟨blankV s, [], []⟩ = xs := ⟨_, rfl⟩;have hyz := yld_at s (s.length + 1) ⟨blankV s, [], []⟩ (inv_first s) (by show s.length - blankV s < _; omega)
 have hyl := yld_len s (s.length + 1) ⟨blankV s, [], []⟩;rw [hX] at hyz hyl;obtain ⟨hxp, hyat⟩ := hyz;refine x_skip <| then_n <| sr rfl <| mS rfl <| Wp rfl <| st_bld (ps := [(0, .tmp 14)]) (vs := [S _, .slice _ _ _, .slice _ _ _]) T.bld69 rfl <| Wp rfl <| st_box (v := .agg ⟨[S _, .slice _ _ _, .slice _ _ _]⟩) (vs := [_, _, _]) rfl rfl ?_;intro b w1 e2 c3 hb4;have ge_b := gB e2 HC.size;have nm_b : b ∉ mb [] := fun hx => by have := (hM.lt _ hx).2; omega
 replace HC := HC.then c3;replace hmx := hmx.tr0 c3;replace ht := ht.tr0 c3;replace hM := hM.tr c3 (by simp)
 clear e2;refine Wp rfl <| st_alloc T.zero66 ?_;intro b5 w5 e6 c7 hb8;have ge_b5 := gB e6 HC.size;have ne_b_b5 := nF e6 hb4.ne_size;have nm_b5 : b5 ∉ mb [] := fun hx => by have := (hM.lt _ hx).2; omega
 replace HC := HC.then c7;replace hmx := hmx.tr0 c7;replace ht := ht.tr0 c7;replace hM := hM.tr c7 (by simp)
 replace hb4 := hb4.tr0 c7;clear e6;refine Wp rfl <| st_st (v := .pointer _) T.size66 rfl rfl rfl hb8 ?_;intro w9 c10 hb11; simp only [setVs, setV] at hb11;clear hb8;replace HC := HC.then1 c10 ge_b5;replace hmx := hmx.tr c10 q1;replace ht := ht.tr c10 q1;replace hM := hM.tr c10 (by intro k hk hx; have hlo := (hM.lt k hk).1; simp only [List.mem_singleton] at hx; subst hx; first | exact nm_b5 hk | omega | (cases hk; done))
 replace hb4 := hb4.tr1 c10 ne_b_b5;refine en <| sr rfl <| Wp rfl <| st_alloc T.zero3 ?_;intro b6 w12 e13 c14 hb15;have ge_b6 := gB e13 HC.size;have ne_b_b6 := nF e13 hb4.ne_size;have ne_b5_b6 := nF e13 hb11.ne_size;have nm_b6 : b6 ∉ mb [] := fun hx => by have := (hM.lt _ hx).2; omega
 replace HC := HC.then c14;replace hmx := hmx.tr0 c14;replace ht := ht.tr0 c14;replace hM := hM.tr c14 (by simp)
 replace hb4 := hb4.tr0 c14;replace hb11 := hb11.tr0 c14;clear e13;refine Wp rfl <| st_alloc T.zero31 ?_;intro b7 w16 e17 c18 hb19;have ge_b7 := gB e17 HC.size;have ne_b_b7 := nF e17 hb4.ne_size;have ne_b5_b7 := nF e17 hb11.ne_size;have ne_b6_b7 := nF e17 hb15.ne_size;have nm_b7 : b7 ∉ mb [] := fun hx => by have := (hM.lt _ hx).2; omega
 replace HC := HC.then c18;replace hmx := hmx.tr0 c18;replace ht := ht.tr0 c18;replace hM := hM.tr c18 (by simp)
 replace hb4 := hb4.tr0 c18;replace hb11 := hb11.tr0 c18;replace hb15 := hb15.tr0 c18;clear e17;refine Wp rfl <| st_st (v := .int _ _) T.size3 rfl rfl rfl hb15 ?_;intro w20 c21 hb22; simp only [setVs, setV] at hb22;clear hb15;replace HC := HC.then1 c21 ge_b6;replace hmx := hmx.tr c21 q1;replace ht := ht.tr c21 q1;replace hM := hM.tr c21 (by intro k hk hx; have hlo := (hM.lt k hk).1; simp only [List.mem_singleton] at hx; subst hx; first | exact nm_b6 hk | omega | (cases hk; done))
 replace hb4 := hb4.tr1 c21 ne_b_b6;replace hb11 := hb11.tr1 c21 ne_b5_b6;replace hb19 := hb19.tr1 c21 (Ne.symm ne_b6_b7);refine Wp rfl <| st_st (v := .int _ _) T.size31 rfl rfl rfl hb19 ?_;intro w23 c24 hb25; simp only [setVs, setV] at hb25;clear hb19;replace HC := HC.then1 c24 ge_b7;replace hmx := hmx.tr c24 q1;replace ht := ht.tr c24 q1;replace hM := hM.tr c24 (by intro k hk hx; have hlo := (hM.lt k hk).1; simp only [List.mem_singleton] at hx; subst hx; first | exact nm_b7 hk | omega | (cases hk; done))
 replace hb4 := hb4.tr1 c24 ne_b_b7;replace hb11 := hb11.tr1 c24 ne_b5_b7;replace hb22 := hb22.tr1 c24 ne_b6_b7;refine en <| x_seq <| x_label <| then_n <| x_seq <| sr rfl <| Wp rfl <| st_load1 (v := .pointer _) T.one66 rfl (hb11.cell rfl) <| Wp rfl <| st_call (ags := [_]) rfl rfl T.ent26 rfl (ltokens_spec) ?_;rintro _ w26 ⟨bx, rfl, hgx, hbx, c27⟩;have ge_bx : w.heap.size ≤ bx := Nat.le_trans HC.size hgx;have ne_b_bx : b ≠ bx := Nat.ne_of_lt (Nat.lt_of_lt_of_le hb4.lt hgx);have ne_b5_bx : b5 ≠ bx := Nat.ne_of_lt (Nat.lt_of_lt_of_le hb11.lt hgx);have ne_b6_bx : b6 ≠ bx := Nat.ne_of_lt (Nat.lt_of_lt_of_le hb22.lt hgx);have ne_b7_bx : b7 ≠ bx := Nat.ne_of_lt (Nat.lt_of_lt_of_le hb25.lt hgx);have nm_bx : bx ∉ mb [] := fun hx => by have := (hM.lt _ hx).2; omega
 replace HC := HC.then c27;replace hmx := hmx.tr0 c27;replace ht := ht.tr0 c27;replace hM := hM.tr c27 (by simp)
 replace hb4 := hb4.tr0 c27;replace hb11 := hb11.tr0 c27;replace hb22 := hb22.tr0 c27;replace hb25 := hb25.tr0 c27;refine en <| x_block <| x_rangeH (bs := []) (K := (fun k => k = bx)) (ps := [19, 20]) (encs := yE) (xs := xs) rfl T.ent33 rfl (fun _ => rfl) (by simp) (by intro k hk; rw [show k = bx from hk]; first | exact hbx.lt) (ltokens_iter (s := s) (b := b) (bx := bx) (D := (fun k => w.heap.size ≤ k ∧ k ≠ b ∧ k ≠ bx)) (K := fun k => k = bx) (xs := xs) (fun k h => ⟨h.2.1, h.2.2, by omega, by omega⟩) (Ne.symm ne_b_bx) q0 q0 hs2 hX) ?_
 intro DD lp w28 hD1 hD2 hD3 hD4 hD5 c29;have hszlp := HC.size;have ge_DD : w.heap.size ≤ DD := by omega
 have ne_b_DD : b ≠ DD := by have := hb4.lt; omega
 have ne_b5_DD : b5 ≠ DD := by have := hb11.lt; omega
 have ne_b6_DD : b6 ≠ DD := by have := hb22.lt; omega
 have ne_b7_DD : b7 ≠ DD := by have := hb25.lt; omega
 have ne_bx_DD : bx ≠ DD := by have := hbx.lt; omega
 have nm_DD : DD ∉ mb [] := fun hx => by have := (hM.lt _ hx).2; omega
 have ge_lp : w.heap.size ≤ lp := by omega
 have ne_b_lp : b ≠ lp := by have := hb4.lt; omega
 have ne_b5_lp : b5 ≠ lp := by have := hb11.lt; omega
 have ne_b6_lp : b6 ≠ lp := by have := hb22.lt; omega
 have ne_b7_lp : b7 ≠ lp := by have := hb25.lt; omega
 have ne_bx_lp : bx ≠ lp := by have := hbx.lt; omega
 have nm_lp : lp ∉ mb [] := fun hx => by have := (hM.lt _ hx).2; omega
 replace HC := HC.then c29;replace hmx := hmx.tr0 c29;replace ht := ht.tr0 c29;replace hM := hM.tr c29 (by simp)
 replace hb4 := hb4.tr0 c29;replace hb11 := hb11.tr0 c29;replace hb22 := hb22.tr0 c29;replace hb25 := hb25.tr0 c29;replace hbx := hbx.tr0 c29;refine ⟨fun pre W => ∃ (A : Option Addr), ∃ (cap : Nat), ∃ (Aw : Option Addr), ∃ (capw : Nat), (∀ u, u ∈ pre → u.2 = 0) ∧ (Chg [] w W) ∧ (MaxT W) ∧ (Tab W) ∧ (Marks w.heap.size [] W) ∧ (Blk W b5 [.pointer (some ⟨b, 0, none⟩)] 66) ∧ (Blk W bx [.pointer (some ⟨b, 0, none⟩)] 66) ∧ (DD < W.heap.size) ∧ (lp < W.heap.size) ∧ (Blk W b [S s, .slice A (mO s pre.length).length cap, .slice Aw (mW s pre.length).length capw] 69) ∧ (Own tok5E 51 W (fun k => w.heap.size ≤ k ∧ k ≠ b ∧ k ≠ bx ∧ k ≠ b5 ∧ k ≠ b6 ∧ k ≠ b7 ∧ k ≠ lp ∧ k ≠ DD) A cap (mO s pre.length)) ∧ (Own wtE 75 W (fun k => w.heap.size ≤ k ∧ k ≠ b ∧ k ≠ bx ∧ k ≠ b5 ∧ k ≠ b6 ∧ k ≠ b7 ∧ k ≠ lp ∧ k ≠ DD) Aw capw (mW s pre.length)) ∧ (Blk W b6 [.int .i64 0] 3) ∧ (Blk W b7 [.int .i64 0] 31), fun c pre W => (c = Code.exit 0 ∧ ∃ (zz : Tok × Int), (tokensV s = ([], zz.1.at_, zz.2) ∧ zz.2 ≠ 0) ∧ (Chg [] w W) ∧ (MaxT W) ∧ (Tab W) ∧ (Marks w.heap.size [] W) ∧ (Blk W b5 [.pointer (some ⟨b, 0, none⟩)] 66) ∧ (Blk W bx [.pointer (some ⟨b, 0, none⟩)] 66) ∧ (DD < W.heap.size) ∧ (lp < W.heap.size) ∧ (Blk W b6 [.int .i64 zz.1.at_] 3) ∧ (Blk W b7 [.int .i64 zz.2] 31)), ⟨none, 0, none, 0, (fun _ h => by cases h), HC, hmx, ht, hM, hb11, hbx, hD4, hD5, hb4, Own.nil, Own.nil, hb22, hb25⟩, ?_, ?_, ?_, ?_, ?_, ?_, ?_⟩
 ·rintro pre Wa ⟨A, cap, Aw, capw, hz, HC, hmx, ht, hM, hb11, hbx, hD4, hD5, hb, ho, hw, hb6, hb7⟩;have hoD := ho.flat (D' := (fun k => w.heap.size ≤ k ∧ k ≠ b ∧ k ≠ bx)) flat_flat (fun k hk h => ⟨h.1, h.2.1, h.2.2.1⟩)
  have hwD := hw.flat (D' := (fun k => w.heap.size ≤ k ∧ k ≠ b ∧ k ≠ bx)) flat_flat (fun k hk h => ⟨h.1, h.2.1, h.2.2.1⟩)
  exact ⟨⟨hbx, hmx, ht⟩, A, cap, Aw, capw, hb, hoD, hwD⟩
 ·rintro pre y Wa Wb ⟨A, cap, Aw, capw, hz, HC, hmx, ht, hM, hb11, hbx, hD4, hD5, hb, ho, hw, hb6, hb7⟩ hpop;have hoD := ho.flat (D' := (fun k => w.heap.size ≤ k ∧ k ≠ b ∧ k ≠ bx)) flat_flat (fun k hk h => ⟨h.1, h.2.1, h.2.2.1⟩)
  have hwD := hw.flat (D' := (fun k => w.heap.size ≤ k ∧ k ≠ b ∧ k ≠ bx)) flat_flat (fun k hk h => ⟨h.1, h.2.1, h.2.2.1⟩)
  obtain ⟨Aw2, capw2, hsub, hm, cA⟩ := hpop A cap Aw capw ⟨hb, hoD, hwD⟩;refine ⟨cA.size, fun k hk hl => cA.block k hl fun hx => ?_⟩
  rcases List.mem_cons.1 hx with h | h
  · rcases hk with h8 | h8; exact ne_b_lp (h.symm.trans h8); exact ne_b_DD (h.symm.trans h8)
  have h9 := ho.inD _ h; rcases hk with h8 | h8; exact h9.2.2.2.2.2.2.1 h8; exact h9.2.2.2.2.2.2.2 h8
 ·rintro pre Wa Wb ⟨A, cap, Aw, capw, hU, HC, hmx, ht, hM, hb11, hbx, hD4, hD5, hb, ho, hw, hb6, hb7⟩ cL;replace HC := HC.then1 cL ge_lp;replace hmx := hmx.tr cL q1;replace ht := ht.tr cL q1;replace hM := hM.tr cL (by intro k hk hx; have hlo := (hM.lt k hk).1; simp only [List.mem_singleton] at hx; subst hx; first | exact nm_lp hk | omega | (cases hk; done))
  replace hb11 := hb11.tr1 cL ne_b5_lp;replace hbx := hbx.tr1 cL ne_bx_lp;replace hD4 := Nat.lt_of_lt_of_le hD4 cL.size;replace hD5 := Nat.lt_of_lt_of_le hD5 cL.size;replace hb := hb.tr1 cL ne_b_lp;replace ho := ho.trF flat_flat cL (by intro k hk hx; simp only [List.mem_cons, List.mem_nil_iff, or_false] at hx; obtain rfl := hx; first | exact na_olp hk | exact absurd (ho.inD _ hk) (by simp))
  replace hw := hw.trF flat_flat cL (by intro k hk hx; simp only [List.mem_cons, List.mem_nil_iff, or_false] at hx; obtain rfl := hx; first | exact na_wlp hk | exact absurd (hw.inD _ hk) (by simp))
  replace hb6 := hb6.tr1 cL ne_b6_lp;replace hb7 := hb7.tr1 cL ne_b7_lp;exact ⟨A, cap, Aw, capw, hU, HC, hmx, ht, hM, hb11, hbx, hD4, hD5, hb, ho, hw, hb6, hb7⟩
 ·intro c pre Wa Wb hX cL;obtain ⟨rfl, ⟨zz, hU, HC, hmx, ht, hM, hb11, hbx, hD4, hD5, hq6, hq7⟩⟩ := hX;replace HC := HC.then1 cL ge_lp;replace hmx := hmx.tr cL q1;replace ht := ht.tr cL q1;replace hM := hM.tr cL (by intro k hk hx; have hlo := (hM.lt k hk).1; simp only [List.mem_singleton] at hx; subst hx; first | exact nm_lp hk | omega | (cases hk; done))
  replace hb11 := hb11.tr1 cL ne_b5_lp;replace hbx := hbx.tr1 cL ne_bx_lp;replace hD4 := Nat.lt_of_lt_of_le hD4 cL.size;replace hD5 := Nat.lt_of_lt_of_le hD5 cL.size;replace hq6 := hq6.tr1 cL ne_b6_lp;replace hq7 := hq7.tr1 cL ne_b7_lp;exact ⟨rfl, ⟨zz, hU, HC, hmx, ht, hM, hb11, hbx, hD4, hD5, hq6, hq7⟩⟩
 ·rintro pre y rest A0 Wa hxs ⟨A, cap, Aw, capw, hz, HC, hmx, ht, hM, hb11, hbx, hD4, hD5, hb, ho, hw, hb6, hb7⟩ hpop ⟨rec, hrec⟩;have lt0_b5 := hb11.lt;have lt0_bx := hbx.lt;have lt0_b := hb.lt;have lo0_ho := ho.lt;have li0_ho := ho.inD;have lo0_hw := hw.lt;have li0_hw := hw.inD;have lt0_b6 := hb6.lt;have lt0_b7 := hb7.lt;have hoD := ho.flat (D' := (fun k => w.heap.size ≤ k ∧ k ≠ b ∧ k ≠ bx)) flat_flat (fun k hk h => ⟨h.1, h.2.1, h.2.2.1⟩)
  have hwD := hw.flat (D' := (fun k => w.heap.size ≤ k ∧ k ≠ b ∧ k ≠ bx)) flat_flat (fun k hk h => ⟨h.1, h.2.1, h.2.2.1⟩)
  obtain ⟨Aw2, capw2, hsub, ⟨hbP, hoP, hwP⟩, cA⟩ := hpop A cap Aw capw ⟨hb, hoD, hwD⟩;have hiD := ho.inD;have hiW := hw.inD;have hoQ := hoP.flat (D' := (fun k => w.heap.size ≤ k ∧ k ≠ b ∧ k ≠ bx ∧ k ≠ b5 ∧ k ≠ b6 ∧ k ≠ b7 ∧ k ≠ lp ∧ k ≠ DD)) flat_flat (fun k hk h => hiD k hk)
  have hwQ := hwP.flat (D' := (fun k => w.heap.size ≤ k ∧ k ≠ b ∧ k ≠ bx ∧ k ≠ b5 ∧ k ≠ b6 ∧ k ≠ b7 ∧ k ≠ lp ∧ k ≠ DD)) flat_flat (fun k hk h => hiW k (hsub k hk))
  replace HC := HC.trans cA (fun k hk => .inr ((List.mem_cons.1 hk).elim (fun h => by rw [h]; exact ge_b) (fun h => (hiD _ h).1)))
  replace hmx := hmx.tr cA (fun hx => (List.mem_cons.1 hx).elim (fun h => by omega) (fun h => by have := (hiD _ h).1; omega))
  replace ht := ht.tr cA (fun hx => (List.mem_cons.1 hx).elim (fun h => by omega) (fun h => by have := (hiD _ h).1; omega))
  replace hM := hM.tr cA (fun k hk => by cases hk)
  replace hb11 := hb11.tr cA (fun hx => (List.mem_cons.1 hx).elim (fun h => absurd h (Ne.symm ne_b_b5)) (fun h => (hiD _ h).2.2.2.1 rfl))
  replace hbx := hbx.tr cA (fun hx => (List.mem_cons.1 hx).elim (fun h => absurd h (Ne.symm ne_b_bx)) (fun h => (hiD _ h).2.2.1 rfl))
  replace hD4 := Nat.lt_of_lt_of_le hD4 cA.size;replace hD5 := Nat.lt_of_lt_of_le hD5 cA.size;replace hb6 := hb6.tr cA (fun hx => (List.mem_cons.1 hx).elim (fun h => absurd h (Ne.symm ne_b_b6)) (fun h => (hiD _ h).2.2.2.2.1 rfl))
  replace hb7 := hb7.tr cA (fun hx => (List.mem_cons.1 hx).elim (fun h => absurd h (Ne.symm ne_b_b7)) (fun h => (hiD _ h).2.2.2.2.2.1 rfl))
  obtain rfl : y = yZ s (itZ s pre.length ⟨blankV s, [], []⟩) := by have h8 : xs[pre.length]? = some y := (by rw [hxs]; simp); rw [(hyat pre.length (by have := congrArg List.length hxs; simp only [List.length_append, List.length_cons] at this; omega)).1] at h8; exact (Option.some.inj h8).symm
  obtain ⟨Z, hZ⟩ : ∃ Z, Z = (itZ s pre.length ⟨blankV s, [], []⟩) := ⟨_, rfl⟩;have hnx := hyat pre.length (by have := congrArg List.length hxs; simp only [List.length_append, List.length_cons] at this; omega)
  rw [← hZ] at hbP hoQ hwQ hnx hxs ⊢
  obtain ⟨hxn, hinv, hend⟩ := hnx;have hln := it_len s pre.length;rw [← hZ] at hln;have hpl := congrArg List.length hxs;simp only [List.length_append, List.length_cons] at hpl;have hdj := own_disj hoQ hwQ;have nAo_b : b ∉ ob A := fun h => (hiD _ h).2.1 rfl
  replace lo0_hw := fun k hk => lo0_hw k (hsub k hk)
  have hlpW := hD5;have HK : Kept (fun k => k = lp ∨ k = DD ∨ NK (fun k => k = bx) A0 k) Wa Wa := .refl'
  refine sr rfl <| Wp rfl <| st_alloc T.zero51 ?_;intro b8 w30 e31 c32 hb33;have ge_b8 := gB e31 HC.size;have geK_b8 : Wa.heap.size ≤ b8 := by rw [e31]; exact HK.1
  have ne_b5_b8 := nF e31 hb11.ne_size;have ne_bx_b8 := nF e31 hbx.ne_size;have ne_b6_b8 := nF e31 hb6.ne_size;have ne_b7_b8 := nF e31 hb7.ne_size;have ne_b_b8 := nF e31 hbP.ne_size;have nm_b8 : b8 ∉ mb [] := fun hx => by have := (hM.lt _ hx).2; omega
  have na_ob8 : b8 ∉ ob A := hoQ.fresh (by rw [e31]; exact Nat.le_refl _)
  have na_wb8 : b8 ∉ ob Aw2 := hwQ.fresh (by rw [e31]; exact Nat.le_refl _)
  replace HC := HC.then c32;replace hmx := hmx.tr0 c32;replace ht := ht.tr0 c32;replace hM := hM.tr c32 (by simp)
  replace hb11 := hb11.tr0 c32;replace hbx := hbx.tr0 c32;replace hD4 := Nat.lt_of_lt_of_le hD4 c32.size;replace hD5 := Nat.lt_of_lt_of_le hD5 c32.size;replace hb6 := hb6.tr0 c32;replace hb7 := hb7.tr0 c32;replace hbP := hbP.tr0 c32;replace hoQ := hoQ.tr0 c32;replace hwQ := hwQ.tr0 c32;replace HK := HK.chg c32 (fun k hx => absurd hx (by simp))
  clear e31;refine Wp rfl <| st_st (v := .agg ⟨[_, _, _, _, _]⟩) T.size51 rfl rfl rfl hb33 ?_;intro w34 c35 hb36; simp only [setVs, setV] at hb36;clear hb33;replace HC := HC.then1 c35 ge_b8;replace hmx := hmx.tr c35 q1;replace ht := ht.tr c35 q1;replace hM := hM.tr c35 (by intro k hk hx; have hlo := (hM.lt k hk).1; simp only [List.mem_singleton] at hx; subst hx; first | exact nm_b8 hk | omega | (cases hk; done))
  replace hb11 := hb11.tr1 c35 ne_b5_b8;replace hbx := hbx.tr1 c35 ne_bx_b8;replace hD4 := Nat.lt_of_lt_of_le hD4 c35.size;replace hD5 := Nat.lt_of_lt_of_le hD5 c35.size;replace hb6 := hb6.tr1 c35 ne_b6_b8;replace hb7 := hb7.tr1 c35 ne_b7_b8;replace hbP := hbP.tr1 c35 ne_b_b8;replace hoQ := hoQ.trF flat_flat c35 (by intro k hk hx; simp only [List.mem_cons, List.mem_nil_iff, or_false] at hx; obtain rfl := hx; first | exact na_ob8 hk | exact absurd (hoQ.inD _ hk) (by simp))
  replace hwQ := hwQ.trF flat_flat c35 (by intro k hk hx; simp only [List.mem_cons, List.mem_nil_iff, or_false] at hx; obtain rfl := hx; first | exact na_wb8 hk | exact absurd (hwQ.inD _ hk) (by simp))
  replace HK := HK.chg c35 (by intro k hx hK; rw [List.mem_singleton.1 hx]; exact geK_b8)
  refine en <| x_region rfl <| aI rfl <| en <| ⟨HK, ?_⟩;intro ds1 Wc cL hrec2;replace HC := HC.then1 cL ge_lp;replace hmx := hmx.tr cL q1;replace ht := ht.tr cL q1;replace hM := hM.tr cL (by intro k hk hx; have hlo := (hM.lt k hk).1; simp only [List.mem_singleton] at hx; subst hx; first | exact nm_lp hk | omega | (cases hk; done))
  replace hb11 := hb11.tr1 cL ne_b5_lp;replace hbx := hbx.tr1 cL ne_bx_lp;replace hD4 := Nat.lt_of_lt_of_le hD4 cL.size;replace hD5 := Nat.lt_of_lt_of_le hD5 cL.size;replace hb6 := hb6.tr1 cL ne_b6_lp;replace hb7 := hb7.tr1 cL ne_b7_lp;replace hbP := hbP.tr1 cL ne_b_lp;replace hoQ := hoQ.trF flat_flat cL (by intro k hk hx; simp only [List.mem_cons, List.mem_nil_iff, or_false] at hx; obtain rfl := hx; first | exact na_olp hk | exact absurd (hoQ.inD _ hk) (by simp))
  replace hwQ := hwQ.trF flat_flat cL (by intro k hk hx; simp only [List.mem_cons, List.mem_nil_iff, or_false] at hx; obtain rfl := hx; first | exact na_wlp hk | exact absurd (hwQ.inD _ hk) (by simp))
  replace hb36 := hb36.tr1 cL q0;have HK : Kept (fun k => k = lp ∨ k = DD ∨ NK (fun k => k = bx) A0 k) Wc Wc := .refl'
  refine x_block <| x_seq <| sr rfl <| mI rfl <| Wp rfl <| st_neq rfl rfl <| en <| x_cond rfl (fun h1 => ?_) (fun h1 => ?_)
  ·try simp only [nm, ne_eq] at h1
   have he1 : (yZ s Z).2 ≠ 0 := by first | assumption | simpa using h1
   refine sr rfl <| fa T.fld51_2 rfl <| lI T.one3 rfl (hb36.cell rfl) <| mI rfl <| Wp rfl <| st_st (v := .int _ _) T.size3 rfl rfl rfl hb6 ?_;intro w37 c38 hb39; simp only [setVs, setV] at hb39;clear hb6;replace HC := HC.then1 c38 ge_b6;replace hmx := hmx.tr c38 q1;replace ht := ht.tr c38 q1;replace hM := hM.tr c38 (by intro k hk hx; have hlo := (hM.lt k hk).1; simp only [List.mem_singleton] at hx; subst hx; first | exact nm_b6 hk | omega | (cases hk; done))
   replace hb11 := hb11.tr1 c38 ne_b5_b6;replace hbx := hbx.tr1 c38 (Ne.symm ne_b6_bx);replace hD4 := Nat.lt_of_lt_of_le hD4 c38.size;replace hD5 := Nat.lt_of_lt_of_le hD5 c38.size;replace hb7 := hb7.tr1 c38 (Ne.symm ne_b6_b7)
   replace HK := HK.chg c38 (by
    intro k hx hK;obtain rfl := List.mem_singleton.1 hx
    rcases hK with h | h | (h) | h
    · exact absurd h ne_b6_lp
    · exact absurd h ne_b6_DD
    · exact absurd h ne_b6_bx
    exact absurd h (Nat.not_le.2 lt0_b6))
   refine Wp rfl <| st_st (v := .int _ _) T.size31 rfl rfl rfl hb7 ?_;intro w40 c41 hb42; simp only [setVs, setV] at hb42;clear hb7;replace HC := HC.then1 c41 ge_b7;replace hmx := hmx.tr c41 q1;replace ht := ht.tr c41 q1;replace hM := hM.tr c41 (by intro k hk hx; have hlo := (hM.lt k hk).1; simp only [List.mem_singleton] at hx; subst hx; first | exact nm_b7 hk | omega | (cases hk; done))
   replace hb11 := hb11.tr1 c41 ne_b5_b7;replace hbx := hbx.tr1 c41 (Ne.symm ne_b7_bx);replace hD4 := Nat.lt_of_lt_of_le hD4 c41.size;replace hD5 := Nat.lt_of_lt_of_le hD5 c41.size
   replace HK := HK.chg c41 (by
    intro k hx hK;obtain rfl := List.mem_singleton.1 hx
    rcases hK with h | h | (h) | h
    · exact absurd h ne_b7_lp
    · exact absurd h ne_b7_DD
    · exact absurd h ne_b7_bx
    exact absurd h (Nat.not_le.2 lt0_b7))
   replace hb39 := hb39.tr1 c41 ne_b6_b7;refine en <| x_exit <| then_x <| block_o rfl <| ⟨HK, ?_⟩;exact ⟨rfl, ⟨(yZ s Z), (⟨by rw [tokensV_end hs2 (n := pre.length) (by rw [hX]; exact hend.1 (endZ_iff.2 (.inl he1))), ← hZ]; exact if_pos he1, he1⟩), HC, hmx, ht, hM, hb11, hbx, hD4, hD5, hb39, hb42⟩⟩
  try simp only [nm, ne_eq] at h1
  have he0 : (yZ s Z).2 = 0 := by first | assumption | simpa using h1
  refine x_skip <| then_n <| x_seq <| sr rfl <| Wp rfl <| st_load1 (v := .pointer _) T.one66 rfl (hb11.cell rfl) <| nc rfl <| fa T.fld69_1 rfl <| lL T.one41 rfl (hbP.cell rfl) <| Wp rfl <| st_len (ct := #[41]) (by rw [show ((#[41] : Array TypeId)[0]?).bind Tryz.prog.underlying = some (.slice 51) from T.u41]; rfl) rfl <| aI rfl <| en <| x_seq ?_
  rcases List.eq_nil_or_concat Z.out with hlz | ⟨l0, z, hlz⟩
  ·have hpush : pushW Z.out Z.ws (yZ s Z).1 = Z.ws := by rw [hlz]; rfl
   refine x_region rfl <| fa T.fld51_0 rfl <| lI T.one3 rfl (hb36.cell rfl) <| Wp rfl <| st_eql rfl rfl <| mB rfl <| w_split (d := 34) rfl (fun g43 => ?_) (fun g43 => ?_)
   ·try simp only [nm, ne_eq] at g43
    refine w_yes 3 34 true <| st_move (v := .int _ _) rfl <| w_yes 3 34 true <| st_gtr rfl rfl <| pT rfl rfl <| mB rfl <| w_split (d := 38) rfl (fun g44 => ?_) (fun g44 => ?_)
    ·try simp only [nm, ne_eq] at g44
     exfalso; rw [hlz] at *; simp_all
    try simp only [nm, ne_eq] at g44
    iterate 10 refine w_no 7 38 true ?_
    refine pF rfl rfl <| mB rfl ?_;iterate 10 refine w_no 19 50 true ?_
    refine pF rfl rfl <| en <| x_cond (t := false) rfl (fun h2 => ?_) (fun h2 => ?_)
    · exact absurd h2 (by decide)
    refine x_skip <| then_n <| x_draw [(0, 0), (1, 0), (2, 0), (3, 0), (4, 0), (5, 0), (6, 1), (7, 1), (8, 0), (9, 0), (10, 2)] T.mixed rfl rfl rfl (fun W => W.heap[b5]? = Wc.heap[b5]? ∧ W.heap[bx]? = Wc.heap[bx]? ∧ W.heap[b6]? = Wc.heap[b6]? ∧ W.heap[b7]? = Wc.heap[b7]? ∧ W.heap[b]? = Wc.heap[b]? ∧ W.heap[b8]? = Wc.heap[b8]? ∧ True) ⟨rfl, rfl, rfl, rfl, rfl, rfl, trivial⟩ ?_
    have o47 := hb11;have o48 := hbx;have o49 := hb6;have o50 := hb7;have o51 := hbP;have o52 := hb36;have c46 := Chg.drew Wc;generalize World.drew Wc = w45 at c46 ⊢;replace HC := HC.then c46;replace hmx := hmx.tr0 c46;replace ht := ht.tr0 c46;replace hM := hM.tr c46 (by simp)
    replace hb11 := hb11.tr0 c46;replace hbx := hbx.tr0 c46;replace hD4 := Nat.lt_of_lt_of_le hD4 c46.size;replace hD5 := Nat.lt_of_lt_of_le hD5 c46.size;replace hb6 := hb6.tr0 c46;replace hb7 := hb7.tr0 c46;replace hbP := hbP.tr0 c46;replace hoQ := hoQ.tr0 c46;replace hwQ := hwQ.tr0 c46;replace hb36 := hb36.tr0 c46;replace HK := HK.chg c46 (fun k hx => absurd hx (by simp))
    refine sq_q rfl (fun W hT => r_load1 (v := .pointer _) T.one66 rfl (Blk.cell (show Blk W b5 _ _ from hT.1.trans o47) rfl)) <| sq_q rfl (fun W hT => r_load1 (v := .pointer _) T.one66 rfl (Blk.cell (show Blk W b5 _ _ from hT.1.trans o47) rfl)) <| sq_q rfl (fun W hT => r_nilCheck rfl) <| sq_q rfl (fun W hT => r_fieldAddr T.fld69_1 rfl) <| sq_q rfl (fun W hT => r_load1 (v := .slice _ _ _) T.one41 rfl (Blk.cell (show Blk W b _ _ from hT.2.2.2.2.1.trans o51) rfl)) <| sq_q rfl (fun W hT => r_loadA (vs := [_, _, _, _, _]) T.agg51 rfl (Blk.cells (n := 5) (vs := [_, _, _, _, _]) (show Blk W b8 _ _ from hT.2.2.2.2.2.1.trans o52) rfl) rfl) <| sq_lit1 (ps := [(0, .tmp 88)]) (vs := [.int _ _, S _, .int _ _, S _, .bool _]) rfl T.lit41 (by decide) rfl q6 rfl ?_
    intro b53 w54 e55 c56 hb57;have ge_b53 := gB e55 HC.size;have geK_b53 : Wc.heap.size ≤ b53 := by rw [e55]; exact HK.1
    have ne_b5_b53 := nF e55 hb11.ne_size;have ne_bx_b53 := nF e55 hbx.ne_size;have ne_b6_b53 := nF e55 hb6.ne_size;have ne_b7_b53 := nF e55 hb7.ne_size;have ne_b_b53 := nF e55 hbP.ne_size;have ne_b8_b53 := nF e55 hb36.ne_size;have nm_b53 : b53 ∉ mb [] := fun hx => by have := (hM.lt _ hx).2; omega
    have na_ob53 : b53 ∉ ob A := hoQ.fresh (by rw [e55]; exact Nat.le_refl _)
    have na_wb53 : b53 ∉ ob Aw2 := hwQ.fresh (by rw [e55]; exact Nat.le_refl _)
    replace HC := HC.then c56;replace hmx := hmx.tr0 c56;replace ht := ht.tr0 c56;replace hM := hM.tr c56 (by simp)
    replace hb11 := hb11.tr0 c56;replace hbx := hbx.tr0 c56;replace hD4 := Nat.lt_of_lt_of_le hD4 c56.size;replace hD5 := Nat.lt_of_lt_of_le hD5 c56.size;replace hb6 := hb6.tr0 c56;replace hb7 := hb7.tr0 c56;replace hbP := hbP.tr0 c56;replace hoQ := hoQ.tr0 c56;replace hwQ := hwQ.tr0 c56;replace hb36 := hb36.tr0 c56;replace HK := HK.chg c56 (fun k hx => absurd hx (by simp))
    clear e55;refine ext_T (b := b53) ⟨(Eq.trans hb11 o47.symm), (Eq.trans hbx o48.symm), (Eq.trans hb6 o49.symm), (Eq.trans hb7 o50.symm), (Eq.trans hbP o51.symm), (Eq.trans hb36 o52.symm), trivial⟩ ?_;have o58 := hb57;have hszA := HC.size;refine sq_append1 (c := tok5E) (D2 := fun _ => False) (xs := Z.out) (ys := [(yZ s Z).1]) rfl T.slice41 rfl rfl hoQ rfl rfl (one_elem rfl (hb57.cells (n := 5) rfl)) (fun _ _ h => h.elim) (fun k hk => (have h9 := HK.1; have hk9 := hk; ⟨by have := HC.size; omega, by have := hbP.lt; omega, by have := hbx.lt; omega, by have := hb11.lt; omega, by have := hb6.lt; omega, by have := hb7.lt; omega, by have := hD5; omega, by have := hD4; omega⟩)) q7 q7 ?_
    intro A59 cap60 w61 ho62 c63 hg64;replace HC := HC.trans c63 (fun k hk => .inr ((hoQ.inD k hk).1))
    replace hmx := hmx.tr c63 (by intro hx; have h1 := (hoQ.inD _ hx).1; omega)
    replace ht := ht.tr c63 (fun hx => by first | (have h1 := (hoQ.inD _ hx).1; omega) | (have h1 : w.heap.size ≤ 0 := hoQ.inD _ hx; omega))
    replace hM := hM.tr c63 (fun k hk => by cases hk)
    replace hb11 := hb11.tr c63 (fun hx => by first | (have h1 := hoQ.inD _ hx; omega) | exact na_ob5 hx | exact hav _ hx (by simp))
    replace hbx := hbx.tr c63 (fun hx => by first | (have h1 := hoQ.inD _ hx; omega) | exact na_obx hx | exact hav _ hx (by simp))
    replace hD4 := Nat.lt_of_lt_of_le hD4 c63.size;replace hD5 := Nat.lt_of_lt_of_le hD5 c63.size;replace hb6 := hb6.tr c63 (fun hx => by first | (have h1 := hoQ.inD _ hx; omega) | exact na_ob6 hx | exact hav _ hx (by simp))
    replace hb7 := hb7.tr c63 (fun hx => by first | (have h1 := hoQ.inD _ hx; omega) | exact na_ob7 hx | exact hav _ hx (by simp))
    replace hbP := hbP.tr c63 (fun hx => by first | (have h1 := hoQ.inD _ hx; omega) | exact na_ob hx | exact hav _ hx (by simp))
    replace hwQ := hwQ.trF flat_flat c63 (fun k hk hx => own_disj hoQ hwQ k hx hk)
    replace hb36 := hb36.tr c63 (fun hx => by first | (have h1 := hoQ.inD _ hx; omega) | exact na_ob8 hx | exact hav _ hx (by simp))
    replace HK := HK.chg c63 (by intro k hk hK; have h1 := hoQ.inD k hk; have h2 := lo0_ho k hk; simp only [NK] at hK; omega)
    replace hb57 := hb57.tr c63 (fun hx => by first | (have h1 := hoQ.inD _ hx; omega) | exact na_ob53 hx | exact hav _ hx (by simp))
    refine ⟨_, fun _ h => h, ⟨(Eq.trans hb57 o58.symm), ⟨(Eq.trans hb11 o47.symm), (Eq.trans hbx o48.symm), (Eq.trans hb6 o49.symm), (Eq.trans hb7 o50.symm), (Eq.trans hbP o51.symm), (Eq.trans hb36 o52.symm), trivial⟩⟩, ?_⟩
    refine sq_q rfl (fun W hT => r_nilCheck rfl) <| sq_q rfl (fun W hT => r_fieldAddr T.fld69_1 rfl) <| sq_store2 rfl T.size41 (v := .slice _ _ _) rfl rfl rfl hbP rfl (Nat.le_of_ble_eq_true rfl) q5 rfl ?_
    intro w65 c66 hb67; simp only [setVs, setV] at hb67;clear hbP;replace HC := HC.then1 c66 ge_b;replace hmx := hmx.tr c66 q1;replace ht := ht.tr c66 q1;replace hM := hM.tr c66 (by intro k hk hx; have hlo := (hM.lt k hk).1; simp only [List.mem_singleton] at hx; subst hx; first | exact nm_b hk | omega | (cases hk; done))
    replace hb11 := hb11.tr1 c66 (Ne.symm ne_b_b5);replace hbx := hbx.tr1 c66 (Ne.symm ne_b_bx);replace hD4 := Nat.lt_of_lt_of_le hD4 c66.size;replace hD5 := Nat.lt_of_lt_of_le hD5 c66.size;replace hb6 := hb6.tr1 c66 (Ne.symm ne_b_b6);replace hb7 := hb7.tr1 c66 (Ne.symm ne_b_b7);replace ho62 := ho62.trF flat_flat c66 (by intro k hk hx; simp only [List.mem_cons, List.mem_nil_iff, or_false] at hx; obtain rfl := hx; first | exact na_ob hk | exact absurd (ho62.inD _ hk) (by simp))
    replace hwQ := hwQ.trF flat_flat c66 (by intro k hk hx; simp only [List.mem_cons, List.mem_nil_iff, or_false] at hx; obtain rfl := hx; first | exact na_wb hk | exact absurd (hwQ.inD _ hk) (by simp))
    replace HK := HK.chg c66 (by
     intro k hx hK;obtain rfl := List.mem_singleton.1 hx
     rcases hK with h | h | (h) | h
     · exact absurd h ne_b_lp
     · exact absurd h ne_b_DD
     · exact absurd h ne_b_bx
     exact absurd h (Nat.not_le.2 lt0_b))
    clear o47;clear o48;clear o49;clear o50;clear o51;clear o52;clear o58;refine sq_nil <| block_n <| ⟨HK, ?_⟩;have hzn : ∀ u, u ∈ pre ++ [yZ s Z] → u.2 = 0 := fun u hu => (List.mem_append.1 hu).elim (hz u) (fun h => by rw [List.mem_singleton.1 h]; exact he0)
    have hmo : mO s (pre ++ [yZ s Z]).length = Z.out ++ [(yZ s Z).1] := by rw [List.length_append]; show nxO s (itZ s pre.length _) = _; rw [← hZ]; rfl
    have hmw : mW s (pre ++ [yZ s Z]).length = Z.ws := by rw [List.length_append]; show nxW s (itZ s pre.length _) = _; rw [← hZ]; exact hpush
    have hmol : Z.out.length + [(yZ s Z).1].length = (mO s (pre ++ [yZ s Z]).length).length := by rw [hmo, List.length_append]
    rw [hmol] at hb67
    rw [← hmo] at ho62
    rw [← hmw] at hb67 hwQ
    exact ⟨A59, cap60, Aw2, capw2, hzn, HC, hmx, ht, hM, hb11, hbx, hD4, hD5, hb67, ho62, hwQ, hb6, hb7⟩
   try simp only [nm, ne_eq] at g43
   refine w_no 3 34 true <| w_no 3 34 true <| pF rfl rfl <| mB rfl ?_;iterate 10 refine w_no 7 38 true ?_
   refine pF rfl rfl <| mB rfl ?_;iterate 10 refine w_no 19 50 true ?_
   refine pF rfl rfl <| en <| x_cond (t := false) rfl (fun h2 => ?_) (fun h2 => ?_)
   · exact absurd h2 (by decide)
   refine x_skip <| then_n <| x_draw [(0, 0), (1, 0), (2, 0), (3, 0), (4, 0), (5, 0), (6, 1), (7, 1), (8, 0), (9, 0), (10, 2)] T.mixed rfl rfl rfl (fun W => W.heap[b5]? = Wc.heap[b5]? ∧ W.heap[bx]? = Wc.heap[bx]? ∧ W.heap[b6]? = Wc.heap[b6]? ∧ W.heap[b7]? = Wc.heap[b7]? ∧ W.heap[b]? = Wc.heap[b]? ∧ W.heap[b8]? = Wc.heap[b8]? ∧ True) ⟨rfl, rfl, rfl, rfl, rfl, rfl, trivial⟩ ?_
   have o70 := hb11;have o71 := hbx;have o72 := hb6;have o73 := hb7;have o74 := hbP;have o75 := hb36;have c69 := Chg.drew Wc;generalize World.drew Wc = w68 at c69 ⊢;replace HC := HC.then c69;replace hmx := hmx.tr0 c69;replace ht := ht.tr0 c69;replace hM := hM.tr c69 (by simp)
   replace hb11 := hb11.tr0 c69;replace hbx := hbx.tr0 c69;replace hD4 := Nat.lt_of_lt_of_le hD4 c69.size;replace hD5 := Nat.lt_of_lt_of_le hD5 c69.size;replace hb6 := hb6.tr0 c69;replace hb7 := hb7.tr0 c69;replace hbP := hbP.tr0 c69;replace hoQ := hoQ.tr0 c69;replace hwQ := hwQ.tr0 c69;replace hb36 := hb36.tr0 c69;replace HK := HK.chg c69 (fun k hx => absurd hx (by simp))
   refine sq_q rfl (fun W hT => r_load1 (v := .pointer _) T.one66 rfl (Blk.cell (show Blk W b5 _ _ from hT.1.trans o70) rfl)) <| sq_q rfl (fun W hT => r_load1 (v := .pointer _) T.one66 rfl (Blk.cell (show Blk W b5 _ _ from hT.1.trans o70) rfl)) <| sq_q rfl (fun W hT => r_nilCheck rfl) <| sq_q rfl (fun W hT => r_fieldAddr T.fld69_1 rfl) <| sq_q rfl (fun W hT => r_load1 (v := .slice _ _ _) T.one41 rfl (Blk.cell (show Blk W b _ _ from hT.2.2.2.2.1.trans o74) rfl)) <| sq_q rfl (fun W hT => r_loadA (vs := [_, _, _, _, _]) T.agg51 rfl (Blk.cells (n := 5) (vs := [_, _, _, _, _]) (show Blk W b8 _ _ from hT.2.2.2.2.2.1.trans o75) rfl) rfl) <| sq_lit1 (ps := [(0, .tmp 88)]) (vs := [.int _ _, S _, .int _ _, S _, .bool _]) rfl T.lit41 (by decide) rfl q6 rfl ?_
   intro b76 w77 e78 c79 hb80;have ge_b76 := gB e78 HC.size;have geK_b76 : Wc.heap.size ≤ b76 := by rw [e78]; exact HK.1
   have ne_b5_b76 := nF e78 hb11.ne_size;have ne_bx_b76 := nF e78 hbx.ne_size;have ne_b6_b76 := nF e78 hb6.ne_size;have ne_b7_b76 := nF e78 hb7.ne_size;have ne_b_b76 := nF e78 hbP.ne_size;have ne_b8_b76 := nF e78 hb36.ne_size;have nm_b76 : b76 ∉ mb [] := fun hx => by have := (hM.lt _ hx).2; omega
   have na_ob76 : b76 ∉ ob A := hoQ.fresh (by rw [e78]; exact Nat.le_refl _)
   have na_wb76 : b76 ∉ ob Aw2 := hwQ.fresh (by rw [e78]; exact Nat.le_refl _)
   replace HC := HC.then c79;replace hmx := hmx.tr0 c79;replace ht := ht.tr0 c79;replace hM := hM.tr c79 (by simp)
   replace hb11 := hb11.tr0 c79;replace hbx := hbx.tr0 c79;replace hD4 := Nat.lt_of_lt_of_le hD4 c79.size;replace hD5 := Nat.lt_of_lt_of_le hD5 c79.size;replace hb6 := hb6.tr0 c79;replace hb7 := hb7.tr0 c79;replace hbP := hbP.tr0 c79;replace hoQ := hoQ.tr0 c79;replace hwQ := hwQ.tr0 c79;replace hb36 := hb36.tr0 c79;replace HK := HK.chg c79 (fun k hx => absurd hx (by simp))
   clear e78;refine ext_T (b := b76) ⟨(Eq.trans hb11 o70.symm), (Eq.trans hbx o71.symm), (Eq.trans hb6 o72.symm), (Eq.trans hb7 o73.symm), (Eq.trans hbP o74.symm), (Eq.trans hb36 o75.symm), trivial⟩ ?_;have o81 := hb80;have hszA := HC.size;refine sq_append1 (c := tok5E) (D2 := fun _ => False) (xs := Z.out) (ys := [(yZ s Z).1]) rfl T.slice41 rfl rfl hoQ rfl rfl (one_elem rfl (hb80.cells (n := 5) rfl)) (fun _ _ h => h.elim) (fun k hk => (have h9 := HK.1; have hk9 := hk; ⟨by have := HC.size; omega, by have := hbP.lt; omega, by have := hbx.lt; omega, by have := hb11.lt; omega, by have := hb6.lt; omega, by have := hb7.lt; omega, by have := hD5; omega, by have := hD4; omega⟩)) q7 q7 ?_
   intro A82 cap83 w84 ho85 c86 hg87;replace HC := HC.trans c86 (fun k hk => .inr ((hoQ.inD k hk).1))
   replace hmx := hmx.tr c86 (by intro hx; have h1 := (hoQ.inD _ hx).1; omega)
   replace ht := ht.tr c86 (fun hx => by first | (have h1 := (hoQ.inD _ hx).1; omega) | (have h1 : w.heap.size ≤ 0 := hoQ.inD _ hx; omega))
   replace hM := hM.tr c86 (fun k hk => by cases hk)
   replace hb11 := hb11.tr c86 (fun hx => by first | (have h1 := hoQ.inD _ hx; omega) | exact na_ob5 hx | exact hav _ hx (by simp))
   replace hbx := hbx.tr c86 (fun hx => by first | (have h1 := hoQ.inD _ hx; omega) | exact na_obx hx | exact hav _ hx (by simp))
   replace hD4 := Nat.lt_of_lt_of_le hD4 c86.size;replace hD5 := Nat.lt_of_lt_of_le hD5 c86.size;replace hb6 := hb6.tr c86 (fun hx => by first | (have h1 := hoQ.inD _ hx; omega) | exact na_ob6 hx | exact hav _ hx (by simp))
   replace hb7 := hb7.tr c86 (fun hx => by first | (have h1 := hoQ.inD _ hx; omega) | exact na_ob7 hx | exact hav _ hx (by simp))
   replace hbP := hbP.tr c86 (fun hx => by first | (have h1 := hoQ.inD _ hx; omega) | exact na_ob hx | exact hav _ hx (by simp))
   replace hwQ := hwQ.trF flat_flat c86 (fun k hk hx => own_disj hoQ hwQ k hx hk)
   replace hb36 := hb36.tr c86 (fun hx => by first | (have h1 := hoQ.inD _ hx; omega) | exact na_ob8 hx | exact hav _ hx (by simp))
   replace HK := HK.chg c86 (by intro k hk hK; have h1 := hoQ.inD k hk; have h2 := lo0_ho k hk; simp only [NK] at hK; omega)
   replace hb80 := hb80.tr c86 (fun hx => by first | (have h1 := hoQ.inD _ hx; omega) | exact na_ob76 hx | exact hav _ hx (by simp))
   refine ⟨_, fun _ h => h, ⟨(Eq.trans hb80 o81.symm), ⟨(Eq.trans hb11 o70.symm), (Eq.trans hbx o71.symm), (Eq.trans hb6 o72.symm), (Eq.trans hb7 o73.symm), (Eq.trans hbP o74.symm), (Eq.trans hb36 o75.symm), trivial⟩⟩, ?_⟩
   refine sq_q rfl (fun W hT => r_nilCheck rfl) <| sq_q rfl (fun W hT => r_fieldAddr T.fld69_1 rfl) <| sq_store2 rfl T.size41 (v := .slice _ _ _) rfl rfl rfl hbP rfl (Nat.le_of_ble_eq_true rfl) q5 rfl ?_
   intro w88 c89 hb90; simp only [setVs, setV] at hb90;clear hbP;replace HC := HC.then1 c89 ge_b;replace hmx := hmx.tr c89 q1;replace ht := ht.tr c89 q1;replace hM := hM.tr c89 (by intro k hk hx; have hlo := (hM.lt k hk).1; simp only [List.mem_singleton] at hx; subst hx; first | exact nm_b hk | omega | (cases hk; done))
   replace hb11 := hb11.tr1 c89 (Ne.symm ne_b_b5);replace hbx := hbx.tr1 c89 (Ne.symm ne_b_bx);replace hD4 := Nat.lt_of_lt_of_le hD4 c89.size;replace hD5 := Nat.lt_of_lt_of_le hD5 c89.size;replace hb6 := hb6.tr1 c89 (Ne.symm ne_b_b6);replace hb7 := hb7.tr1 c89 (Ne.symm ne_b_b7);replace ho85 := ho85.trF flat_flat c89 (by intro k hk hx; simp only [List.mem_cons, List.mem_nil_iff, or_false] at hx; obtain rfl := hx; first | exact na_ob hk | exact absurd (ho85.inD _ hk) (by simp))
   replace hwQ := hwQ.trF flat_flat c89 (by intro k hk hx; simp only [List.mem_cons, List.mem_nil_iff, or_false] at hx; obtain rfl := hx; first | exact na_wb hk | exact absurd (hwQ.inD _ hk) (by simp))
   replace HK := HK.chg c89 (by
    intro k hx hK;obtain rfl := List.mem_singleton.1 hx
    rcases hK with h | h | (h) | h
    · exact absurd h ne_b_lp
    · exact absurd h ne_b_DD
    · exact absurd h ne_b_bx
    exact absurd h (Nat.not_le.2 lt0_b))
   clear o70;clear o71;clear o72;clear o73;clear o74;clear o75;clear o81;refine sq_nil <| block_n <| ⟨HK, ?_⟩;have hzn : ∀ u, u ∈ pre ++ [yZ s Z] → u.2 = 0 := fun u hu => (List.mem_append.1 hu).elim (hz u) (fun h => by rw [List.mem_singleton.1 h]; exact he0)
   have hmo : mO s (pre ++ [yZ s Z]).length = Z.out ++ [(yZ s Z).1] := by rw [List.length_append]; show nxO s (itZ s pre.length _) = _; rw [← hZ]; rfl
   have hmw : mW s (pre ++ [yZ s Z]).length = Z.ws := by rw [List.length_append]; show nxW s (itZ s pre.length _) = _; rw [← hZ]; exact hpush
   have hmol : Z.out.length + [(yZ s Z).1].length = (mO s (pre ++ [yZ s Z]).length).length := by rw [hmo, List.length_append]
   rw [hmol] at hb90
   rw [← hmo] at ho85
   rw [← hmw] at hb90 hwQ
   exact ⟨A82, cap83, Aw2, capw2, hzn, HC, hmx, ht, hM, hb11, hbx, hD4, hD5, hb90, ho85, hwQ, hb6, hb7⟩
  rw [List.concat_eq_append] at hlz
  have hll : Z.out.length = l0.length + 1 := by rw [hlz]; simp
  have hsub1 : IntKind.i64.wrap ((Z.out.length : Int) - 1) = ((l0.length : Nat) : Int) := by rw [wrap64_id q0 q0]; omega
  have hslo := (hoQ.flat (D' := fun k => k ∈ ob A) flat_flat (fun k hk _ => hk)).sl
  refine x_region rfl <| fa T.fld51_0 rfl <| lI T.one3 rfl (hb36.cell rfl) <| Wp rfl <| st_eql rfl rfl <| mB rfl <| w_split (d := 34) rfl (fun g91 => ?_) (fun g91 => ?_)
  ·try simp only [nm, ne_eq] at g91
   refine w_yes 3 34 true <| st_move (v := .int _ _) rfl <| w_yes 3 34 true <| st_gtr rfl rfl <| pT rfl rfl <| mB rfl <| w_split (d := 38) rfl (fun g92 => ?_) (fun g92 => ?_)
   ·try simp only [nm, ne_eq] at g92
    refine w_yes 7 38 true <| st_load1 (v := .pointer _) T.one66 rfl (hb11.cell rfl) <| w_yes 7 38 true <| st_nilCheck rfl <| w_yes 7 38 true <| st_fieldAddr T.fld69_1 rfl <| w_yes 7 38 true <| st_load1 (v := .slice _ _ _) T.one41 rfl (hbP.cell rfl) <| w_yes 7 38 true <| st_move (v := .int _ _) rfl <| w_yes 7 38 true <| st_subk rfl rfl (by exact hsub1) ?_
    obtain ⟨lb97, _, vs96, hA93, hR95, hC94⟩ := hslo.at (i := l0.length) (x := z) (by rw [hlz]; simp)
    obtain rfl : vs96 = [.int .i64 z.kind, S z.text, .int .i64 z.at_, S z.here, .bool z.raw] := hR95;refine w_yes 7 38 true <| st_indexAddr T.u41 T.size51 (congrArg (fun z => Value.slice z _ _) hA93) rfl q0 q0 <| w_yes 7 38 true <| st_fieldAddr T.fld51_0 rfl <| w_yes 7 38 true <| st_load1 (v := .int _ _) T.one3 rfl (hC94.at (j := 0) rfl) <| w_yes 7 38 true <| st_eql rfl rfl <| pT rfl rfl <| mB rfl <| w_split (d := 50) rfl (fun g98 => ?_) (fun g98 => ?_)
    ·try simp only [nm, ne_eq] at g98
     refine w_yes 19 50 true <| st_load1 (v := .pointer _) T.one66 rfl (hb11.cell rfl) <| w_yes 19 50 true <| st_nilCheck rfl <| w_yes 19 50 true <| st_fieldAddr T.fld69_1 rfl <| w_yes 19 50 true <| st_load1 (v := .slice _ _ _) T.one41 rfl (hbP.cell rfl) <| w_yes 19 50 true <| st_move (v := .int _ _) rfl <| w_yes 19 50 true <| st_subk rfl rfl (by exact hsub1) ?_
     obtain ⟨lb103, _, vs102, hA99, hR101, hC100⟩ := hslo.at (i := l0.length) (x := z) (by rw [hlz]; simp)
     obtain rfl : vs102 = [.int .i64 z.kind, S z.text, .int .i64 z.at_, S z.here, .bool z.raw] := hR101;refine w_yes 19 50 true <| st_indexAddr T.u41 T.size51 (congrArg (fun z => Value.slice z _ _) hA99) rfl q0 q0 <| w_yes 19 50 true <| st_fieldAddr T.fld51_1 rfl <| w_yes 19 50 true <| st_load1 (v := S _) T.one9 rfl (hC100.at (j := 1) rfl) <| w_yes 19 50 true <| st_call (ags := [_, _]) rfl rfl T.ent27 rfl (HasPrefix_spec z.text [60, 60] _) ?_
     rintro _ w104 ⟨rfl, c105⟩;replace HC := HC.then c105;replace hmx := hmx.tr0 c105;replace ht := ht.tr0 c105;replace hM := hM.tr c105 (by simp)
     replace hb11 := hb11.tr0 c105;replace hbx := hbx.tr0 c105;replace hD4 := Nat.lt_of_lt_of_le hD4 c105.size;replace hD5 := Nat.lt_of_lt_of_le hD5 c105.size;replace hb6 := hb6.tr0 c105;replace hb7 := hb7.tr0 c105;replace hbP := hbP.tr0 c105;replace hoQ := hoQ.tr0 c105;replace hwQ := hwQ.tr0 c105;replace hb36 := hb36.tr0 c105;replace HK := HK.chg c105 (fun k hx => absurd hx (by simp))
     replace hslo := hslo.tr0 c105;refine pT rfl rfl <| en <| x_cond rfl (fun h2 => ?_) (fun h2 => ?_)
     ·try simp only [nm, ne_eq] at h2
      have hpush : pushW Z.out Z.ws (yZ s Z).1 = Z.ws ++ [(Z.out.length, decide (z.text = [60, 60, 45]))] := by rw [hlz]; exact push_yes (by first | assumption | simp_all) (by first | assumption | simp_all) (by first | assumption | simp_all)
      obtain ⟨lb110, _, vs109, hA106, hR108, hC107⟩ := hslo.at (i := l0.length) (x := z) (by rw [hlz]; simp)
      obtain rfl : vs109 = [.int .i64 z.kind, S z.text, .int .i64 z.at_, S z.here, .bool z.raw] := hR108;refine x_draw [(0, 0), (1, 0), (2, 0), (3, 0), (4, 0), (5, 0), (6, 0), (7, 0), (8, 0), (9, 0), (10, 0), (11, 0), (12, 0), (13, 0), (14, 0), (15, 0), (16, 0), (17, 1), (18, 1), (19, 0), (20, 0), (21, 2)] T.mixed rfl rfl rfl (fun W => W.heap[b5]? = w104.heap[b5]? ∧ W.heap[bx]? = w104.heap[bx]? ∧ W.heap[b6]? = w104.heap[b6]? ∧ W.heap[b7]? = w104.heap[b7]? ∧ W.heap[b]? = w104.heap[b]? ∧ W.heap[b8]? = w104.heap[b8]? ∧ W.heap[lb110]? = w104.heap[lb110]? ∧ True) ⟨rfl, rfl, rfl, rfl, rfl, rfl, rfl, trivial⟩ ?_
      have o113 := hb11;have o114 := hbx;have o115 := hb6;have o116 := hb7;have o117 := hbP;have o118 := hb36;have c112 := Chg.drew w104;generalize World.drew w104 = w111 at c112 ⊢;have ht_lb110 : lb110 < w111.heap.size ∧ w111.heap[lb110]? = w104.heap[lb110]? := ⟨Nat.lt_of_lt_of_le hC107.lt c112.size, c112.block lb110 hC107.lt (by simp)⟩
      replace HC := HC.then c112;replace hmx := hmx.tr0 c112;replace ht := ht.tr0 c112;replace hM := hM.tr c112 (by simp)
      replace hb11 := hb11.tr0 c112;replace hbx := hbx.tr0 c112;replace hD4 := Nat.lt_of_lt_of_le hD4 c112.size;replace hD5 := Nat.lt_of_lt_of_le hD5 c112.size;replace hb6 := hb6.tr0 c112;replace hb7 := hb7.tr0 c112;replace hbP := hbP.tr0 c112;replace hoQ := hoQ.tr0 c112;replace hwQ := hwQ.tr0 c112;replace hb36 := hb36.tr0 c112;replace HK := HK.chg c112 (fun k hx => absurd hx (by simp))
      have hlbA_lb110 : lb110 ∈ ob A := by rw [hA106]; simp [ob]
      refine sq_q rfl (fun W hT => r_load1 (v := .pointer _) T.one66 rfl (Blk.cell (show Blk W b5 _ _ from hT.1.trans o113) rfl)) <| sq_q rfl (fun W hT => r_load1 (v := .pointer _) T.one66 rfl (Blk.cell (show Blk W b5 _ _ from hT.1.trans o113) rfl)) <| sq_q rfl (fun W hT => r_nilCheck rfl) <| sq_q rfl (fun W hT => r_fieldAddr T.fld69_2 rfl) <| sq_q rfl (fun W hT => r_load1 (v := .slice _ _ _) T.one67 rfl (Blk.cell (show Blk W b _ _ from hT.2.2.2.2.1.trans o117) rfl)) <| sq_q rfl (fun W hT => r_move (v := .int _ _) rfl) <| sq_q rfl (fun W hT => r_load1 (v := .pointer _) T.one66 rfl (Blk.cell (show Blk W b5 _ _ from hT.1.trans o113) rfl)) <| sq_q rfl (fun W hT => r_nilCheck rfl) <| sq_q rfl (fun W hT => r_fieldAddr T.fld69_1 rfl) <| sq_q rfl (fun W hT => r_load1 (v := .slice _ _ _) T.one41 rfl (Blk.cell (show Blk W b _ _ from hT.2.2.2.2.1.trans o117) rfl)) <| sq_q rfl (fun W hT => r_move (v := .int _ _) rfl) <| sq_q rfl (fun W hT => r_subk rfl rfl (by exact hsub1)) <| sq_q rfl (fun W hT => r_indexAddr T.u41 T.size51 (congrArg (fun z => Value.slice z _ _) hA106) rfl q0 q0) <| sq_q rfl (fun W hT => r_fieldAddr T.fld51_1 rfl) <| sq_q rfl (fun W hT => r_load1 (v := S _) T.one9 rfl (Cells.at (j := 1) (Cells.tr hC107 hT.2.2.2.2.2.2.1) rfl)) <| sq_q rfl (fun W hT => r_seql rfl rfl) <| sq_q rfl (fun W hT => r_bld (ps := [(0, .tmp 67), (1, .tmp 77)]) (vs := [.int _ _, .bool _]) T.bld75 rfl) <| sq_lit1 (ps := [(0, .tmp 78)]) (vs := [.int _ _, .bool _]) rfl T.lit67 (by decide) rfl q6 rfl ?_
      intro b119 w120 e121 c122 hb123;have ge_b119 := gB e121 HC.size;have geK_b119 : Wc.heap.size ≤ b119 := by rw [e121]; exact HK.1
      have ne_b5_b119 := nF e121 hb11.ne_size;have ne_bx_b119 := nF e121 hbx.ne_size;have ne_b6_b119 := nF e121 hb6.ne_size;have ne_b7_b119 := nF e121 hb7.ne_size;have ne_b_b119 := nF e121 hbP.ne_size;have ne_b8_b119 := nF e121 hb36.ne_size;have nm_b119 : b119 ∉ mb [] := fun hx => by have := (hM.lt _ hx).2; omega
      have na_ob119 : b119 ∉ ob A := hoQ.fresh (by rw [e121]; exact Nat.le_refl _)
      have na_wb119 : b119 ∉ ob Aw2 := hwQ.fresh (by rw [e121]; exact Nat.le_refl _)
      have nh_lb110_b119 : lb110 ≠ b119 := by have h1 := ht_lb110.1; have h2 := e121; omega
      replace HC := HC.then c122;replace hmx := hmx.tr0 c122;replace ht := ht.tr0 c122;replace hM := hM.tr c122 (by simp)
      replace hb11 := hb11.tr0 c122;replace hbx := hbx.tr0 c122;replace hD4 := Nat.lt_of_lt_of_le hD4 c122.size;replace hD5 := Nat.lt_of_lt_of_le hD5 c122.size;replace hb6 := hb6.tr0 c122;replace hb7 := hb7.tr0 c122;replace hbP := hbP.tr0 c122;replace hoQ := hoQ.tr0 c122;replace hwQ := hwQ.tr0 c122;replace hb36 := hb36.tr0 c122;replace HK := HK.chg c122 (fun k hx => absurd hx (by simp))
      replace ht_lb110 := And.intro (Nat.lt_of_lt_of_le ht_lb110.1 c122.size) ((c122.block lb110 ht_lb110.1 (by simp)).trans ht_lb110.2)
      clear e121;refine ext_T (b := b119) ⟨(Eq.trans hb11 o113.symm), (Eq.trans hbx o114.symm), (Eq.trans hb6 o115.symm), (Eq.trans hb7 o116.symm), (Eq.trans hbP o117.symm), (Eq.trans hb36 o118.symm), (by first | assumption | exact ht_lb110.2), trivial⟩ ?_
      have o124 := hb123;have hszA := HC.size;refine sq_append1 (c := wtE) (D2 := fun _ => False) (xs := Z.ws) (ys := [(Z.out.length, decide (z.text = [60, 60, 45]))]) rfl T.slice67 rfl rfl hwQ rfl rfl (one_elem rfl (hb123.cells (n := 2) rfl)) (fun _ _ h => h.elim) (fun k hk => (have h9 := HK.1; have hk9 := hk; ⟨by have := HC.size; omega, by have := hbP.lt; omega, by have := hbx.lt; omega, by have := hb11.lt; omega, by have := hb6.lt; omega, by have := hb7.lt; omega, by have := hD5; omega, by have := hD4; omega⟩)) q7 q7 ?_
      intro A125 cap126 w127 ho128 c129 hg130;replace HC := HC.trans c129 (fun k hk => .inr ((hwQ.inD k hk).1))
      replace hmx := hmx.tr c129 (by intro hx; have h1 := (hwQ.inD _ hx).1; omega)
      replace ht := ht.tr c129 (fun hx => by first | (have h1 := (hwQ.inD _ hx).1; omega) | (have h1 : w.heap.size ≤ 0 := hwQ.inD _ hx; omega))
      replace hM := hM.tr c129 (fun k hk => by cases hk)
      replace hb11 := hb11.tr c129 (fun hx => by first | (have h1 := hwQ.inD _ hx; omega) | exact na_wb5 hx | exact hav _ hx (by simp))
      replace hbx := hbx.tr c129 (fun hx => by first | (have h1 := hwQ.inD _ hx; omega) | exact na_wbx hx | exact hav _ hx (by simp))
      replace hD4 := Nat.lt_of_lt_of_le hD4 c129.size;replace hD5 := Nat.lt_of_lt_of_le hD5 c129.size;replace hb6 := hb6.tr c129 (fun hx => by first | (have h1 := hwQ.inD _ hx; omega) | exact na_wb6 hx | exact hav _ hx (by simp))
      replace hb7 := hb7.tr c129 (fun hx => by first | (have h1 := hwQ.inD _ hx; omega) | exact na_wb7 hx | exact hav _ hx (by simp))
      replace hbP := hbP.tr c129 (fun hx => by first | (have h1 := hwQ.inD _ hx; omega) | exact na_wb hx | exact hav _ hx (by simp))
      replace hoQ := hoQ.trF flat_flat c129 (fun k hk hx => own_disj hoQ hwQ k hk hx)
      replace hb36 := hb36.tr c129 (fun hx => by first | (have h1 := hwQ.inD _ hx; omega) | exact na_wb8 hx | exact hav _ hx (by simp))
      replace HK := HK.chg c129 (by intro k hk hK; have h1 := hwQ.inD k hk; have h2 := lo0_hw k hk; simp only [NK] at hK; omega)
      replace ht_lb110 := And.intro (Nat.lt_of_lt_of_le ht_lb110.1 c129.size) ((c129.block lb110 ht_lb110.1 (hdj _ hlbA_lb110)).trans ht_lb110.2);replace hb123 := hb123.tr c129 (fun hx => by first | (have h1 := hwQ.inD _ hx; omega) | exact na_wb119 hx | exact hav _ hx (by simp))
      refine ⟨_, fun _ h => h, ⟨(Eq.trans hb123 o124.symm), ⟨(Eq.trans hb11 o113.symm), (Eq.trans hbx o114.symm), (Eq.trans hb6 o115.symm), (Eq.trans hb7 o116.symm), (Eq.trans hbP o117.symm), (Eq.trans hb36 o118.symm), (by first | assumption | exact ht_lb110.2), trivial⟩⟩, ?_⟩
      refine sq_q rfl (fun W hT => r_nilCheck rfl) <| sq_q rfl (fun W hT => r_fieldAddr T.fld69_2 rfl) <| sq_store2 rfl T.size67 (v := .slice _ _ _) rfl rfl rfl hbP rfl (Nat.le_of_ble_eq_true rfl) q5 rfl ?_
      intro w131 c132 hb133; simp only [setVs, setV] at hb133;clear hbP;replace HC := HC.then1 c132 ge_b;replace hmx := hmx.tr c132 q1;replace ht := ht.tr c132 q1;replace hM := hM.tr c132 (by intro k hk hx; have hlo := (hM.lt k hk).1; simp only [List.mem_singleton] at hx; subst hx; first | exact nm_b hk | omega | (cases hk; done))
      replace hb11 := hb11.tr1 c132 (Ne.symm ne_b_b5);replace hbx := hbx.tr1 c132 (Ne.symm ne_b_bx);replace hD4 := Nat.lt_of_lt_of_le hD4 c132.size;replace hD5 := Nat.lt_of_lt_of_le hD5 c132.size;replace hb6 := hb6.tr1 c132 (Ne.symm ne_b_b6);replace hb7 := hb7.tr1 c132 (Ne.symm ne_b_b7);replace hoQ := hoQ.trF flat_flat c132 (by intro k hk hx; simp only [List.mem_cons, List.mem_nil_iff, or_false] at hx; obtain rfl := hx; first | exact na_ob hk | exact absurd (hoQ.inD _ hk) (by simp))
      replace ho128 := ho128.trF flat_flat c132 (by intro k hk hx; simp only [List.mem_cons, List.mem_nil_iff, or_false] at hx; obtain rfl := hx; first | exact na_wb hk | exact absurd (ho128.inD _ hk) (by simp))
      replace hb36 := hb36.tr1 c132 (Ne.symm ne_b_b8)
      replace HK := HK.chg c132 (by
       intro k hx hK;obtain rfl := List.mem_singleton.1 hx
       rcases hK with h | h | (h) | h
       · exact absurd h ne_b_lp
       · exact absurd h ne_b_DD
       · exact absurd h ne_b_bx
       exact absurd h (Nat.not_le.2 lt0_b))
      replace ht_lb110 := And.intro (Nat.lt_of_lt_of_le ht_lb110.1 c132.size) ((c132.block lb110 ht_lb110.1 (fun hx => nAo_b (List.mem_singleton.1 hx ▸ hlbA_lb110))).trans ht_lb110.2)
      replace hb123 := hb123.tr1 c132 (Ne.symm ne_b_b119);clear o113;clear o114;clear o115;clear o116;clear o117;clear o118;clear o124;refine sq_nil <| then_n <| x_draw [(0, 0), (1, 0), (2, 0), (3, 0), (4, 0), (5, 0), (6, 1), (7, 1), (8, 0), (9, 0), (10, 2)] T.mixed rfl rfl rfl (fun W => W.heap[b5]? = w131.heap[b5]? ∧ W.heap[bx]? = w131.heap[bx]? ∧ W.heap[b6]? = w131.heap[b6]? ∧ W.heap[b7]? = w131.heap[b7]? ∧ W.heap[b8]? = w131.heap[b8]? ∧ W.heap[b119]? = w131.heap[b119]? ∧ W.heap[b]? = w131.heap[b]? ∧ True) ⟨rfl, rfl, rfl, rfl, rfl, rfl, rfl, trivial⟩ ?_
      have o136 := hb11;have o137 := hbx;have o138 := hb6;have o139 := hb7;have o140 := hb36;have o141 := hb123;have o142 := hb133;have c135 := Chg.drew w131;generalize World.drew w131 = w134 at c135 ⊢;replace HC := HC.then c135;replace hmx := hmx.tr0 c135;replace ht := ht.tr0 c135;replace hM := hM.tr c135 (by simp)
      replace hb11 := hb11.tr0 c135;replace hbx := hbx.tr0 c135;replace hD4 := Nat.lt_of_lt_of_le hD4 c135.size;replace hD5 := Nat.lt_of_lt_of_le hD5 c135.size;replace hb6 := hb6.tr0 c135;replace hb7 := hb7.tr0 c135;replace hoQ := hoQ.tr0 c135;replace ho128 := ho128.tr0 c135;replace hb36 := hb36.tr0 c135;replace HK := HK.chg c135 (fun k hx => absurd hx (by simp))
      replace hb123 := hb123.tr0 c135;replace hb133 := hb133.tr0 c135;refine sq_q rfl (fun W hT => r_load1 (v := .pointer _) T.one66 rfl (Blk.cell (show Blk W b5 _ _ from hT.1.trans o136) rfl)) <| sq_q rfl (fun W hT => r_load1 (v := .pointer _) T.one66 rfl (Blk.cell (show Blk W b5 _ _ from hT.1.trans o136) rfl)) <| sq_q rfl (fun W hT => r_nilCheck rfl) <| sq_q rfl (fun W hT => r_fieldAddr T.fld69_1 rfl) <| sq_q rfl (fun W hT => r_load1 (v := .slice _ _ _) T.one41 rfl (Blk.cell (show Blk W b _ _ from hT.2.2.2.2.2.2.1.trans o142) rfl)) <| sq_q rfl (fun W hT => r_loadA (vs := [_, _, _, _, _]) T.agg51 rfl (Blk.cells (n := 5) (vs := [_, _, _, _, _]) (show Blk W b8 _ _ from hT.2.2.2.2.1.trans o140) rfl) rfl) <| sq_lit1 (ps := [(0, .tmp 88)]) (vs := [.int _ _, S _, .int _ _, S _, .bool _]) rfl T.lit41 (by decide) rfl q6 rfl ?_
      intro b143 w144 e145 c146 hb147;have ge_b143 := gB e145 HC.size;have geK_b143 : Wc.heap.size ≤ b143 := by rw [e145]; exact HK.1
      have ne_b5_b143 := nF e145 hb11.ne_size;have ne_bx_b143 := nF e145 hbx.ne_size;have ne_b6_b143 := nF e145 hb6.ne_size;have ne_b7_b143 := nF e145 hb7.ne_size;have ne_b8_b143 := nF e145 hb36.ne_size;have ne_b119_b143 := nF e145 hb123.ne_size;have ne_b_b143 := nF e145 hb133.ne_size;have nm_b143 : b143 ∉ mb [] := fun hx => by have := (hM.lt _ hx).2; omega
      have na_ob143 : b143 ∉ ob A := hoQ.fresh (by rw [e145]; exact Nat.le_refl _)
      have na_wb143 : b143 ∉ ob A125 := ho128.fresh (by rw [e145]; exact Nat.le_refl _)
      replace HC := HC.then c146;replace hmx := hmx.tr0 c146;replace ht := ht.tr0 c146;replace hM := hM.tr c146 (by simp)
      replace hb11 := hb11.tr0 c146;replace hbx := hbx.tr0 c146;replace hD4 := Nat.lt_of_lt_of_le hD4 c146.size;replace hD5 := Nat.lt_of_lt_of_le hD5 c146.size;replace hb6 := hb6.tr0 c146;replace hb7 := hb7.tr0 c146;replace hoQ := hoQ.tr0 c146;replace ho128 := ho128.tr0 c146;replace hb36 := hb36.tr0 c146;replace HK := HK.chg c146 (fun k hx => absurd hx (by simp))
      replace hb123 := hb123.tr0 c146;replace hb133 := hb133.tr0 c146;clear e145;refine ext_T (b := b143) ⟨(Eq.trans hb11 o136.symm), (Eq.trans hbx o137.symm), (Eq.trans hb6 o138.symm), (Eq.trans hb7 o139.symm), (Eq.trans hb36 o140.symm), (Eq.trans hb123 o141.symm), (Eq.trans hb133 o142.symm), trivial⟩ ?_;have o148 := hb147;have hszA := HC.size;refine sq_append1 (c := tok5E) (D2 := fun _ => False) (xs := Z.out) (ys := [(yZ s Z).1]) rfl T.slice41 rfl rfl hoQ rfl rfl (one_elem rfl (hb147.cells (n := 5) rfl)) (fun _ _ h => h.elim) (fun k hk => (have h9 := HK.1; have hk9 := hk; ⟨by have := HC.size; omega, by have := hb133.lt; omega, by have := hbx.lt; omega, by have := hb11.lt; omega, by have := hb6.lt; omega, by have := hb7.lt; omega, by have := hD5; omega, by have := hD4; omega⟩)) q7 q7 ?_
      intro A149 cap150 w151 ho152 c153 hg154;replace HC := HC.trans c153 (fun k hk => .inr ((hoQ.inD k hk).1))
      replace hmx := hmx.tr c153 (by intro hx; have h1 := (hoQ.inD _ hx).1; omega)
      replace ht := ht.tr c153 (fun hx => by first | (have h1 := (hoQ.inD _ hx).1; omega) | (have h1 : w.heap.size ≤ 0 := hoQ.inD _ hx; omega))
      replace hM := hM.tr c153 (fun k hk => by cases hk)
      replace hb11 := hb11.tr c153 (fun hx => by first | (have h1 := hoQ.inD _ hx; omega) | exact na_ob5 hx | exact hav _ hx (by simp))
      replace hbx := hbx.tr c153 (fun hx => by first | (have h1 := hoQ.inD _ hx; omega) | exact na_obx hx | exact hav _ hx (by simp))
      replace hD4 := Nat.lt_of_lt_of_le hD4 c153.size;replace hD5 := Nat.lt_of_lt_of_le hD5 c153.size;replace hb6 := hb6.tr c153 (fun hx => by first | (have h1 := hoQ.inD _ hx; omega) | exact na_ob6 hx | exact hav _ hx (by simp))
      replace hb7 := hb7.tr c153 (fun hx => by first | (have h1 := hoQ.inD _ hx; omega) | exact na_ob7 hx | exact hav _ hx (by simp))
      replace ho128 := ho128.trF flat_flat c153 (fun k hk hx => own_disj hoQ ho128 k hx hk)
      replace hb36 := hb36.tr c153 (fun hx => by first | (have h1 := hoQ.inD _ hx; omega) | exact na_ob8 hx | exact hav _ hx (by simp))
      replace HK := HK.chg c153 (by intro k hk hK; have h1 := hoQ.inD k hk; have h2 := lo0_ho k hk; simp only [NK] at hK; omega)
      replace hb123 := hb123.tr c153 (fun hx => by first | (have h1 := hoQ.inD _ hx; omega) | exact na_ob119 hx | exact hav _ hx (by simp))
      replace hb133 := hb133.tr c153 (fun hx => by first | (have h1 := hoQ.inD _ hx; omega) | exact na_ob hx | exact hav _ hx (by simp))
      replace hb147 := hb147.tr c153 (fun hx => by first | (have h1 := hoQ.inD _ hx; omega) | exact na_ob143 hx | exact hav _ hx (by simp))
      refine ⟨_, fun _ h => h, ⟨(Eq.trans hb147 o148.symm), ⟨(Eq.trans hb11 o136.symm), (Eq.trans hbx o137.symm), (Eq.trans hb6 o138.symm), (Eq.trans hb7 o139.symm), (Eq.trans hb36 o140.symm), (Eq.trans hb123 o141.symm), (Eq.trans hb133 o142.symm), trivial⟩⟩, ?_⟩
      refine sq_q rfl (fun W hT => r_nilCheck rfl) <| sq_q rfl (fun W hT => r_fieldAddr T.fld69_1 rfl) <| sq_store2 rfl T.size41 (v := .slice _ _ _) rfl rfl rfl hb133 rfl (Nat.le_of_ble_eq_true rfl) q5 rfl ?_
      intro w155 c156 hb157; simp only [setVs, setV] at hb157;clear hb133;replace HC := HC.then1 c156 ge_b;replace hmx := hmx.tr c156 q1;replace ht := ht.tr c156 q1;replace hM := hM.tr c156 (by intro k hk hx; have hlo := (hM.lt k hk).1; simp only [List.mem_singleton] at hx; subst hx; first | exact nm_b hk | omega | (cases hk; done))
      replace hb11 := hb11.tr1 c156 (Ne.symm ne_b_b5);replace hbx := hbx.tr1 c156 (Ne.symm ne_b_bx);replace hD4 := Nat.lt_of_lt_of_le hD4 c156.size;replace hD5 := Nat.lt_of_lt_of_le hD5 c156.size;replace hb6 := hb6.tr1 c156 (Ne.symm ne_b_b6);replace hb7 := hb7.tr1 c156 (Ne.symm ne_b_b7);replace ho152 := ho152.trF flat_flat c156 (by intro k hk hx; simp only [List.mem_cons, List.mem_nil_iff, or_false] at hx; obtain rfl := hx; first | exact na_ob hk | exact absurd (ho152.inD _ hk) (by simp))
      replace ho128 := ho128.trF flat_flat c156 (by intro k hk hx; simp only [List.mem_cons, List.mem_nil_iff, or_false] at hx; obtain rfl := hx; first | exact na_wb hk | exact absurd (ho128.inD _ hk) (by simp))
      replace HK := HK.chg c156 (by
       intro k hx hK;obtain rfl := List.mem_singleton.1 hx
       rcases hK with h | h | (h) | h
       · exact absurd h ne_b_lp
       · exact absurd h ne_b_DD
       · exact absurd h ne_b_bx
       exact absurd h (Nat.not_le.2 lt0_b))
      clear o136;clear o137;clear o138;clear o139;clear o140;clear o141;clear o142;clear o148;refine sq_nil <| block_n <| ⟨HK, ?_⟩;have hzn : ∀ u, u ∈ pre ++ [yZ s Z] → u.2 = 0 := fun u hu => (List.mem_append.1 hu).elim (hz u) (fun h => by rw [List.mem_singleton.1 h]; exact he0)
      have hmo : mO s (pre ++ [yZ s Z]).length = Z.out ++ [(yZ s Z).1] := by rw [List.length_append]; show nxO s (itZ s pre.length _) = _; rw [← hZ]; rfl
      have hmw : mW s (pre ++ [yZ s Z]).length = (Z.ws ++ [(Z.out.length, decide (z.text = [60, 60, 45]))]) := by rw [List.length_append]; show nxW s (itZ s pre.length _) = _; rw [← hZ]; exact hpush
      have hmol : Z.out.length + [(yZ s Z).1].length = (mO s (pre ++ [yZ s Z]).length).length := by rw [hmo, List.length_append]
      rw [hmol] at hb157
      rw [← hmo] at ho152
      have hmwl : Z.ws.length + [(Z.out.length, decide (z.text = [60, 60, 45]))].length = (mW s (pre ++ [yZ s Z]).length).length := by rw [hmw, List.length_append]
      rw [hmwl] at hb157
      rw [← hmw] at ho128
      exact ⟨A149, cap150, A125, cap126, hzn, HC, hmx, ht, hM, hb11, hbx, hD4, hD5, hb157, ho152, ho128, hb6, hb7⟩
     try simp only [nm, ne_eq] at h2
     have hpush : pushW Z.out Z.ws (yZ s Z).1 = Z.ws := by rw [hlz]; exact push_no (by rintro ⟨h7, h8, h9⟩; simp_all)
     refine x_skip <| then_n <| x_draw [(0, 0), (1, 0), (2, 0), (3, 0), (4, 0), (5, 0), (6, 1), (7, 1), (8, 0), (9, 0), (10, 2)] T.mixed rfl rfl rfl (fun W => W.heap[b5]? = w104.heap[b5]? ∧ W.heap[bx]? = w104.heap[bx]? ∧ W.heap[b6]? = w104.heap[b6]? ∧ W.heap[b7]? = w104.heap[b7]? ∧ W.heap[b]? = w104.heap[b]? ∧ W.heap[b8]? = w104.heap[b8]? ∧ True) ⟨rfl, rfl, rfl, rfl, rfl, rfl, trivial⟩ ?_
     have o160 := hb11;have o161 := hbx;have o162 := hb6;have o163 := hb7;have o164 := hbP;have o165 := hb36;have c159 := Chg.drew w104;generalize World.drew w104 = w158 at c159 ⊢;replace HC := HC.then c159;replace hmx := hmx.tr0 c159;replace ht := ht.tr0 c159;replace hM := hM.tr c159 (by simp)
     replace hb11 := hb11.tr0 c159;replace hbx := hbx.tr0 c159;replace hD4 := Nat.lt_of_lt_of_le hD4 c159.size;replace hD5 := Nat.lt_of_lt_of_le hD5 c159.size;replace hb6 := hb6.tr0 c159;replace hb7 := hb7.tr0 c159;replace hbP := hbP.tr0 c159;replace hoQ := hoQ.tr0 c159;replace hwQ := hwQ.tr0 c159;replace hb36 := hb36.tr0 c159;replace HK := HK.chg c159 (fun k hx => absurd hx (by simp))
     refine sq_q rfl (fun W hT => r_load1 (v := .pointer _) T.one66 rfl (Blk.cell (show Blk W b5 _ _ from hT.1.trans o160) rfl)) <| sq_q rfl (fun W hT => r_load1 (v := .pointer _) T.one66 rfl (Blk.cell (show Blk W b5 _ _ from hT.1.trans o160) rfl)) <| sq_q rfl (fun W hT => r_nilCheck rfl) <| sq_q rfl (fun W hT => r_fieldAddr T.fld69_1 rfl) <| sq_q rfl (fun W hT => r_load1 (v := .slice _ _ _) T.one41 rfl (Blk.cell (show Blk W b _ _ from hT.2.2.2.2.1.trans o164) rfl)) <| sq_q rfl (fun W hT => r_loadA (vs := [_, _, _, _, _]) T.agg51 rfl (Blk.cells (n := 5) (vs := [_, _, _, _, _]) (show Blk W b8 _ _ from hT.2.2.2.2.2.1.trans o165) rfl) rfl) <| sq_lit1 (ps := [(0, .tmp 88)]) (vs := [.int _ _, S _, .int _ _, S _, .bool _]) rfl T.lit41 (by decide) rfl q6 rfl ?_
     intro b166 w167 e168 c169 hb170;have ge_b166 := gB e168 HC.size;have geK_b166 : Wc.heap.size ≤ b166 := by rw [e168]; exact HK.1
     have ne_b5_b166 := nF e168 hb11.ne_size;have ne_bx_b166 := nF e168 hbx.ne_size;have ne_b6_b166 := nF e168 hb6.ne_size;have ne_b7_b166 := nF e168 hb7.ne_size;have ne_b_b166 := nF e168 hbP.ne_size;have ne_b8_b166 := nF e168 hb36.ne_size;have nm_b166 : b166 ∉ mb [] := fun hx => by have := (hM.lt _ hx).2; omega
     have na_ob166 : b166 ∉ ob A := hoQ.fresh (by rw [e168]; exact Nat.le_refl _)
     have na_wb166 : b166 ∉ ob Aw2 := hwQ.fresh (by rw [e168]; exact Nat.le_refl _)
     replace HC := HC.then c169;replace hmx := hmx.tr0 c169;replace ht := ht.tr0 c169;replace hM := hM.tr c169 (by simp)
     replace hb11 := hb11.tr0 c169;replace hbx := hbx.tr0 c169;replace hD4 := Nat.lt_of_lt_of_le hD4 c169.size;replace hD5 := Nat.lt_of_lt_of_le hD5 c169.size;replace hb6 := hb6.tr0 c169;replace hb7 := hb7.tr0 c169;replace hbP := hbP.tr0 c169;replace hoQ := hoQ.tr0 c169;replace hwQ := hwQ.tr0 c169;replace hb36 := hb36.tr0 c169;replace HK := HK.chg c169 (fun k hx => absurd hx (by simp))
     clear e168;refine ext_T (b := b166) ⟨(Eq.trans hb11 o160.symm), (Eq.trans hbx o161.symm), (Eq.trans hb6 o162.symm), (Eq.trans hb7 o163.symm), (Eq.trans hbP o164.symm), (Eq.trans hb36 o165.symm), trivial⟩ ?_;have o171 := hb170;have hszA := HC.size;refine sq_append1 (c := tok5E) (D2 := fun _ => False) (xs := Z.out) (ys := [(yZ s Z).1]) rfl T.slice41 rfl rfl hoQ rfl rfl (one_elem rfl (hb170.cells (n := 5) rfl)) (fun _ _ h => h.elim) (fun k hk => (have h9 := HK.1; have hk9 := hk; ⟨by have := HC.size; omega, by have := hbP.lt; omega, by have := hbx.lt; omega, by have := hb11.lt; omega, by have := hb6.lt; omega, by have := hb7.lt; omega, by have := hD5; omega, by have := hD4; omega⟩)) q7 q7 ?_
     intro A172 cap173 w174 ho175 c176 hg177;replace HC := HC.trans c176 (fun k hk => .inr ((hoQ.inD k hk).1))
     replace hmx := hmx.tr c176 (by intro hx; have h1 := (hoQ.inD _ hx).1; omega)
     replace ht := ht.tr c176 (fun hx => by first | (have h1 := (hoQ.inD _ hx).1; omega) | (have h1 : w.heap.size ≤ 0 := hoQ.inD _ hx; omega))
     replace hM := hM.tr c176 (fun k hk => by cases hk)
     replace hb11 := hb11.tr c176 (fun hx => by first | (have h1 := hoQ.inD _ hx; omega) | exact na_ob5 hx | exact hav _ hx (by simp))
     replace hbx := hbx.tr c176 (fun hx => by first | (have h1 := hoQ.inD _ hx; omega) | exact na_obx hx | exact hav _ hx (by simp))
     replace hD4 := Nat.lt_of_lt_of_le hD4 c176.size;replace hD5 := Nat.lt_of_lt_of_le hD5 c176.size;replace hb6 := hb6.tr c176 (fun hx => by first | (have h1 := hoQ.inD _ hx; omega) | exact na_ob6 hx | exact hav _ hx (by simp))
     replace hb7 := hb7.tr c176 (fun hx => by first | (have h1 := hoQ.inD _ hx; omega) | exact na_ob7 hx | exact hav _ hx (by simp))
     replace hbP := hbP.tr c176 (fun hx => by first | (have h1 := hoQ.inD _ hx; omega) | exact na_ob hx | exact hav _ hx (by simp))
     replace hwQ := hwQ.trF flat_flat c176 (fun k hk hx => own_disj hoQ hwQ k hx hk)
     replace hb36 := hb36.tr c176 (fun hx => by first | (have h1 := hoQ.inD _ hx; omega) | exact na_ob8 hx | exact hav _ hx (by simp))
     replace HK := HK.chg c176 (by intro k hk hK; have h1 := hoQ.inD k hk; have h2 := lo0_ho k hk; simp only [NK] at hK; omega)
     replace hb170 := hb170.tr c176 (fun hx => by first | (have h1 := hoQ.inD _ hx; omega) | exact na_ob166 hx | exact hav _ hx (by simp))
     refine ⟨_, fun _ h => h, ⟨(Eq.trans hb170 o171.symm), ⟨(Eq.trans hb11 o160.symm), (Eq.trans hbx o161.symm), (Eq.trans hb6 o162.symm), (Eq.trans hb7 o163.symm), (Eq.trans hbP o164.symm), (Eq.trans hb36 o165.symm), trivial⟩⟩, ?_⟩
     refine sq_q rfl (fun W hT => r_nilCheck rfl) <| sq_q rfl (fun W hT => r_fieldAddr T.fld69_1 rfl) <| sq_store2 rfl T.size41 (v := .slice _ _ _) rfl rfl rfl hbP rfl (Nat.le_of_ble_eq_true rfl) q5 rfl ?_
     intro w178 c179 hb180; simp only [setVs, setV] at hb180;clear hbP;replace HC := HC.then1 c179 ge_b;replace hmx := hmx.tr c179 q1;replace ht := ht.tr c179 q1;replace hM := hM.tr c179 (by intro k hk hx; have hlo := (hM.lt k hk).1; simp only [List.mem_singleton] at hx; subst hx; first | exact nm_b hk | omega | (cases hk; done))
     replace hb11 := hb11.tr1 c179 (Ne.symm ne_b_b5);replace hbx := hbx.tr1 c179 (Ne.symm ne_b_bx);replace hD4 := Nat.lt_of_lt_of_le hD4 c179.size;replace hD5 := Nat.lt_of_lt_of_le hD5 c179.size;replace hb6 := hb6.tr1 c179 (Ne.symm ne_b_b6);replace hb7 := hb7.tr1 c179 (Ne.symm ne_b_b7);replace ho175 := ho175.trF flat_flat c179 (by intro k hk hx; simp only [List.mem_cons, List.mem_nil_iff, or_false] at hx; obtain rfl := hx; first | exact na_ob hk | exact absurd (ho175.inD _ hk) (by simp))
     replace hwQ := hwQ.trF flat_flat c179 (by intro k hk hx; simp only [List.mem_cons, List.mem_nil_iff, or_false] at hx; obtain rfl := hx; first | exact na_wb hk | exact absurd (hwQ.inD _ hk) (by simp))
     replace HK := HK.chg c179 (by
      intro k hx hK;obtain rfl := List.mem_singleton.1 hx
      rcases hK with h | h | (h) | h
      · exact absurd h ne_b_lp
      · exact absurd h ne_b_DD
      · exact absurd h ne_b_bx
      exact absurd h (Nat.not_le.2 lt0_b))
     clear o160;clear o161;clear o162;clear o163;clear o164;clear o165;clear o171;refine sq_nil <| block_n <| ⟨HK, ?_⟩;have hzn : ∀ u, u ∈ pre ++ [yZ s Z] → u.2 = 0 := fun u hu => (List.mem_append.1 hu).elim (hz u) (fun h => by rw [List.mem_singleton.1 h]; exact he0)
     have hmo : mO s (pre ++ [yZ s Z]).length = Z.out ++ [(yZ s Z).1] := by rw [List.length_append]; show nxO s (itZ s pre.length _) = _; rw [← hZ]; rfl
     have hmw : mW s (pre ++ [yZ s Z]).length = Z.ws := by rw [List.length_append]; show nxW s (itZ s pre.length _) = _; rw [← hZ]; exact hpush
     have hmol : Z.out.length + [(yZ s Z).1].length = (mO s (pre ++ [yZ s Z]).length).length := by rw [hmo, List.length_append]
     rw [hmol] at hb180
     rw [← hmo] at ho175
     rw [← hmw] at hb180 hwQ
     exact ⟨A172, cap173, Aw2, capw2, hzn, HC, hmx, ht, hM, hb11, hbx, hD4, hD5, hb180, ho175, hwQ, hb6, hb7⟩
    try simp only [nm, ne_eq] at g98
    iterate 10 refine w_no 19 50 true ?_
    refine pF rfl rfl <| en <| x_cond (t := false) rfl (fun h2 => ?_) (fun h2 => ?_)
    · exact absurd h2 (by decide)
    have hpush : pushW Z.out Z.ws (yZ s Z).1 = Z.ws := by rw [hlz]; exact push_no (by rintro ⟨h7, h8, h9⟩; simp_all)
    refine x_skip <| then_n <| x_draw [(0, 0), (1, 0), (2, 0), (3, 0), (4, 0), (5, 0), (6, 1), (7, 1), (8, 0), (9, 0), (10, 2)] T.mixed rfl rfl rfl (fun W => W.heap[b5]? = Wc.heap[b5]? ∧ W.heap[bx]? = Wc.heap[bx]? ∧ W.heap[b6]? = Wc.heap[b6]? ∧ W.heap[b7]? = Wc.heap[b7]? ∧ W.heap[b]? = Wc.heap[b]? ∧ W.heap[b8]? = Wc.heap[b8]? ∧ True) ⟨rfl, rfl, rfl, rfl, rfl, rfl, trivial⟩ ?_
    have o183 := hb11;have o184 := hbx;have o185 := hb6;have o186 := hb7;have o187 := hbP;have o188 := hb36;have c182 := Chg.drew Wc;generalize World.drew Wc = w181 at c182 ⊢;replace HC := HC.then c182;replace hmx := hmx.tr0 c182;replace ht := ht.tr0 c182;replace hM := hM.tr c182 (by simp)
    replace hb11 := hb11.tr0 c182;replace hbx := hbx.tr0 c182;replace hD4 := Nat.lt_of_lt_of_le hD4 c182.size;replace hD5 := Nat.lt_of_lt_of_le hD5 c182.size;replace hb6 := hb6.tr0 c182;replace hb7 := hb7.tr0 c182;replace hbP := hbP.tr0 c182;replace hoQ := hoQ.tr0 c182;replace hwQ := hwQ.tr0 c182;replace hb36 := hb36.tr0 c182;replace HK := HK.chg c182 (fun k hx => absurd hx (by simp))
    refine sq_q rfl (fun W hT => r_load1 (v := .pointer _) T.one66 rfl (Blk.cell (show Blk W b5 _ _ from hT.1.trans o183) rfl)) <| sq_q rfl (fun W hT => r_load1 (v := .pointer _) T.one66 rfl (Blk.cell (show Blk W b5 _ _ from hT.1.trans o183) rfl)) <| sq_q rfl (fun W hT => r_nilCheck rfl) <| sq_q rfl (fun W hT => r_fieldAddr T.fld69_1 rfl) <| sq_q rfl (fun W hT => r_load1 (v := .slice _ _ _) T.one41 rfl (Blk.cell (show Blk W b _ _ from hT.2.2.2.2.1.trans o187) rfl)) <| sq_q rfl (fun W hT => r_loadA (vs := [_, _, _, _, _]) T.agg51 rfl (Blk.cells (n := 5) (vs := [_, _, _, _, _]) (show Blk W b8 _ _ from hT.2.2.2.2.2.1.trans o188) rfl) rfl) <| sq_lit1 (ps := [(0, .tmp 88)]) (vs := [.int _ _, S _, .int _ _, S _, .bool _]) rfl T.lit41 (by decide) rfl q6 rfl ?_
    intro b189 w190 e191 c192 hb193;have ge_b189 := gB e191 HC.size;have geK_b189 : Wc.heap.size ≤ b189 := by rw [e191]; exact HK.1
    have ne_b5_b189 := nF e191 hb11.ne_size;have ne_bx_b189 := nF e191 hbx.ne_size;have ne_b6_b189 := nF e191 hb6.ne_size;have ne_b7_b189 := nF e191 hb7.ne_size;have ne_b_b189 := nF e191 hbP.ne_size;have ne_b8_b189 := nF e191 hb36.ne_size;have nm_b189 : b189 ∉ mb [] := fun hx => by have := (hM.lt _ hx).2; omega
    have na_ob189 : b189 ∉ ob A := hoQ.fresh (by rw [e191]; exact Nat.le_refl _)
    have na_wb189 : b189 ∉ ob Aw2 := hwQ.fresh (by rw [e191]; exact Nat.le_refl _)
    replace HC := HC.then c192;replace hmx := hmx.tr0 c192;replace ht := ht.tr0 c192;replace hM := hM.tr c192 (by simp)
    replace hb11 := hb11.tr0 c192;replace hbx := hbx.tr0 c192;replace hD4 := Nat.lt_of_lt_of_le hD4 c192.size;replace hD5 := Nat.lt_of_lt_of_le hD5 c192.size;replace hb6 := hb6.tr0 c192;replace hb7 := hb7.tr0 c192;replace hbP := hbP.tr0 c192;replace hoQ := hoQ.tr0 c192;replace hwQ := hwQ.tr0 c192;replace hb36 := hb36.tr0 c192;replace HK := HK.chg c192 (fun k hx => absurd hx (by simp))
    clear e191;refine ext_T (b := b189) ⟨(Eq.trans hb11 o183.symm), (Eq.trans hbx o184.symm), (Eq.trans hb6 o185.symm), (Eq.trans hb7 o186.symm), (Eq.trans hbP o187.symm), (Eq.trans hb36 o188.symm), trivial⟩ ?_;have o194 := hb193;have hszA := HC.size;refine sq_append1 (c := tok5E) (D2 := fun _ => False) (xs := Z.out) (ys := [(yZ s Z).1]) rfl T.slice41 rfl rfl hoQ rfl rfl (one_elem rfl (hb193.cells (n := 5) rfl)) (fun _ _ h => h.elim) (fun k hk => (have h9 := HK.1; have hk9 := hk; ⟨by have := HC.size; omega, by have := hbP.lt; omega, by have := hbx.lt; omega, by have := hb11.lt; omega, by have := hb6.lt; omega, by have := hb7.lt; omega, by have := hD5; omega, by have := hD4; omega⟩)) q7 q7 ?_
    intro A195 cap196 w197 ho198 c199 hg200;replace HC := HC.trans c199 (fun k hk => .inr ((hoQ.inD k hk).1))
    replace hmx := hmx.tr c199 (by intro hx; have h1 := (hoQ.inD _ hx).1; omega)
    replace ht := ht.tr c199 (fun hx => by first | (have h1 := (hoQ.inD _ hx).1; omega) | (have h1 : w.heap.size ≤ 0 := hoQ.inD _ hx; omega))
    replace hM := hM.tr c199 (fun k hk => by cases hk)
    replace hb11 := hb11.tr c199 (fun hx => by first | (have h1 := hoQ.inD _ hx; omega) | exact na_ob5 hx | exact hav _ hx (by simp))
    replace hbx := hbx.tr c199 (fun hx => by first | (have h1 := hoQ.inD _ hx; omega) | exact na_obx hx | exact hav _ hx (by simp))
    replace hD4 := Nat.lt_of_lt_of_le hD4 c199.size;replace hD5 := Nat.lt_of_lt_of_le hD5 c199.size;replace hb6 := hb6.tr c199 (fun hx => by first | (have h1 := hoQ.inD _ hx; omega) | exact na_ob6 hx | exact hav _ hx (by simp))
    replace hb7 := hb7.tr c199 (fun hx => by first | (have h1 := hoQ.inD _ hx; omega) | exact na_ob7 hx | exact hav _ hx (by simp))
    replace hbP := hbP.tr c199 (fun hx => by first | (have h1 := hoQ.inD _ hx; omega) | exact na_ob hx | exact hav _ hx (by simp))
    replace hwQ := hwQ.trF flat_flat c199 (fun k hk hx => own_disj hoQ hwQ k hx hk)
    replace hb36 := hb36.tr c199 (fun hx => by first | (have h1 := hoQ.inD _ hx; omega) | exact na_ob8 hx | exact hav _ hx (by simp))
    replace HK := HK.chg c199 (by intro k hk hK; have h1 := hoQ.inD k hk; have h2 := lo0_ho k hk; simp only [NK] at hK; omega)
    replace hb193 := hb193.tr c199 (fun hx => by first | (have h1 := hoQ.inD _ hx; omega) | exact na_ob189 hx | exact hav _ hx (by simp))
    refine ⟨_, fun _ h => h, ⟨(Eq.trans hb193 o194.symm), ⟨(Eq.trans hb11 o183.symm), (Eq.trans hbx o184.symm), (Eq.trans hb6 o185.symm), (Eq.trans hb7 o186.symm), (Eq.trans hbP o187.symm), (Eq.trans hb36 o188.symm), trivial⟩⟩, ?_⟩
    refine sq_q rfl (fun W hT => r_nilCheck rfl) <| sq_q rfl (fun W hT => r_fieldAddr T.fld69_1 rfl) <| sq_store2 rfl T.size41 (v := .slice _ _ _) rfl rfl rfl hbP rfl (Nat.le_of_ble_eq_true rfl) q5 rfl ?_
    intro w201 c202 hb203; simp only [setVs, setV] at hb203;clear hbP;replace HC := HC.then1 c202 ge_b;replace hmx := hmx.tr c202 q1;replace ht := ht.tr c202 q1;replace hM := hM.tr c202 (by intro k hk hx; have hlo := (hM.lt k hk).1; simp only [List.mem_singleton] at hx; subst hx; first | exact nm_b hk | omega | (cases hk; done))
    replace hb11 := hb11.tr1 c202 (Ne.symm ne_b_b5);replace hbx := hbx.tr1 c202 (Ne.symm ne_b_bx);replace hD4 := Nat.lt_of_lt_of_le hD4 c202.size;replace hD5 := Nat.lt_of_lt_of_le hD5 c202.size;replace hb6 := hb6.tr1 c202 (Ne.symm ne_b_b6);replace hb7 := hb7.tr1 c202 (Ne.symm ne_b_b7);replace ho198 := ho198.trF flat_flat c202 (by intro k hk hx; simp only [List.mem_cons, List.mem_nil_iff, or_false] at hx; obtain rfl := hx; first | exact na_ob hk | exact absurd (ho198.inD _ hk) (by simp))
    replace hwQ := hwQ.trF flat_flat c202 (by intro k hk hx; simp only [List.mem_cons, List.mem_nil_iff, or_false] at hx; obtain rfl := hx; first | exact na_wb hk | exact absurd (hwQ.inD _ hk) (by simp))
    replace HK := HK.chg c202 (by
     intro k hx hK;obtain rfl := List.mem_singleton.1 hx
     rcases hK with h | h | (h) | h
     · exact absurd h ne_b_lp
     · exact absurd h ne_b_DD
     · exact absurd h ne_b_bx
     exact absurd h (Nat.not_le.2 lt0_b))
    clear o183;clear o184;clear o185;clear o186;clear o187;clear o188;clear o194;refine sq_nil <| block_n <| ⟨HK, ?_⟩;have hzn : ∀ u, u ∈ pre ++ [yZ s Z] → u.2 = 0 := fun u hu => (List.mem_append.1 hu).elim (hz u) (fun h => by rw [List.mem_singleton.1 h]; exact he0)
    have hmo : mO s (pre ++ [yZ s Z]).length = Z.out ++ [(yZ s Z).1] := by rw [List.length_append]; show nxO s (itZ s pre.length _) = _; rw [← hZ]; rfl
    have hmw : mW s (pre ++ [yZ s Z]).length = Z.ws := by rw [List.length_append]; show nxW s (itZ s pre.length _) = _; rw [← hZ]; exact hpush
    have hmol : Z.out.length + [(yZ s Z).1].length = (mO s (pre ++ [yZ s Z]).length).length := by rw [hmo, List.length_append]
    rw [hmol] at hb203
    rw [← hmo] at ho198
    rw [← hmw] at hb203 hwQ
    exact ⟨A195, cap196, Aw2, capw2, hzn, HC, hmx, ht, hM, hb11, hbx, hD4, hD5, hb203, ho198, hwQ, hb6, hb7⟩
   try simp only [nm, ne_eq] at g92
   exfalso; omega
  try simp only [nm, ne_eq] at g91
  refine w_no 3 34 true <| w_no 3 34 true <| pF rfl rfl <| mB rfl ?_;iterate 10 refine w_no 7 38 true ?_
  refine pF rfl rfl <| mB rfl ?_;iterate 10 refine w_no 19 50 true ?_
  refine pF rfl rfl <| en <| x_cond (t := false) rfl (fun h2 => ?_) (fun h2 => ?_)
  · exact absurd h2 (by decide)
  have hpush : pushW Z.out Z.ws (yZ s Z).1 = Z.ws := by rw [hlz]; exact push_no (by rintro ⟨h7, h8, h9⟩; simp_all)
  refine x_skip <| then_n <| x_draw [(0, 0), (1, 0), (2, 0), (3, 0), (4, 0), (5, 0), (6, 1), (7, 1), (8, 0), (9, 0), (10, 2)] T.mixed rfl rfl rfl (fun W => W.heap[b5]? = Wc.heap[b5]? ∧ W.heap[bx]? = Wc.heap[bx]? ∧ W.heap[b6]? = Wc.heap[b6]? ∧ W.heap[b7]? = Wc.heap[b7]? ∧ W.heap[b]? = Wc.heap[b]? ∧ W.heap[b8]? = Wc.heap[b8]? ∧ True) ⟨rfl, rfl, rfl, rfl, rfl, rfl, trivial⟩ ?_
  have o206 := hb11;have o207 := hbx;have o208 := hb6;have o209 := hb7;have o210 := hbP;have o211 := hb36;have c205 := Chg.drew Wc;generalize World.drew Wc = w204 at c205 ⊢;replace HC := HC.then c205;replace hmx := hmx.tr0 c205;replace ht := ht.tr0 c205;replace hM := hM.tr c205 (by simp)
  replace hb11 := hb11.tr0 c205;replace hbx := hbx.tr0 c205;replace hD4 := Nat.lt_of_lt_of_le hD4 c205.size;replace hD5 := Nat.lt_of_lt_of_le hD5 c205.size;replace hb6 := hb6.tr0 c205;replace hb7 := hb7.tr0 c205;replace hbP := hbP.tr0 c205;replace hoQ := hoQ.tr0 c205;replace hwQ := hwQ.tr0 c205;replace hb36 := hb36.tr0 c205;replace HK := HK.chg c205 (fun k hx => absurd hx (by simp))
  refine sq_q rfl (fun W hT => r_load1 (v := .pointer _) T.one66 rfl (Blk.cell (show Blk W b5 _ _ from hT.1.trans o206) rfl)) <| sq_q rfl (fun W hT => r_load1 (v := .pointer _) T.one66 rfl (Blk.cell (show Blk W b5 _ _ from hT.1.trans o206) rfl)) <| sq_q rfl (fun W hT => r_nilCheck rfl) <| sq_q rfl (fun W hT => r_fieldAddr T.fld69_1 rfl) <| sq_q rfl (fun W hT => r_load1 (v := .slice _ _ _) T.one41 rfl (Blk.cell (show Blk W b _ _ from hT.2.2.2.2.1.trans o210) rfl)) <| sq_q rfl (fun W hT => r_loadA (vs := [_, _, _, _, _]) T.agg51 rfl (Blk.cells (n := 5) (vs := [_, _, _, _, _]) (show Blk W b8 _ _ from hT.2.2.2.2.2.1.trans o211) rfl) rfl) <| sq_lit1 (ps := [(0, .tmp 88)]) (vs := [.int _ _, S _, .int _ _, S _, .bool _]) rfl T.lit41 (by decide) rfl q6 rfl ?_
  intro b212 w213 e214 c215 hb216;have ge_b212 := gB e214 HC.size;have geK_b212 : Wc.heap.size ≤ b212 := by rw [e214]; exact HK.1
  have ne_b5_b212 := nF e214 hb11.ne_size;have ne_bx_b212 := nF e214 hbx.ne_size;have ne_b6_b212 := nF e214 hb6.ne_size;have ne_b7_b212 := nF e214 hb7.ne_size;have ne_b_b212 := nF e214 hbP.ne_size;have ne_b8_b212 := nF e214 hb36.ne_size;have nm_b212 : b212 ∉ mb [] := fun hx => by have := (hM.lt _ hx).2; omega
  have na_ob212 : b212 ∉ ob A := hoQ.fresh (by rw [e214]; exact Nat.le_refl _)
  have na_wb212 : b212 ∉ ob Aw2 := hwQ.fresh (by rw [e214]; exact Nat.le_refl _)
  replace HC := HC.then c215;replace hmx := hmx.tr0 c215;replace ht := ht.tr0 c215;replace hM := hM.tr c215 (by simp)
  replace hb11 := hb11.tr0 c215;replace hbx := hbx.tr0 c215;replace hD4 := Nat.lt_of_lt_of_le hD4 c215.size;replace hD5 := Nat.lt_of_lt_of_le hD5 c215.size;replace hb6 := hb6.tr0 c215;replace hb7 := hb7.tr0 c215;replace hbP := hbP.tr0 c215;replace hoQ := hoQ.tr0 c215;replace hwQ := hwQ.tr0 c215;replace hb36 := hb36.tr0 c215;replace HK := HK.chg c215 (fun k hx => absurd hx (by simp))
  clear e214;refine ext_T (b := b212) ⟨(Eq.trans hb11 o206.symm), (Eq.trans hbx o207.symm), (Eq.trans hb6 o208.symm), (Eq.trans hb7 o209.symm), (Eq.trans hbP o210.symm), (Eq.trans hb36 o211.symm), trivial⟩ ?_;have o217 := hb216;have hszA := HC.size;refine sq_append1 (c := tok5E) (D2 := fun _ => False) (xs := Z.out) (ys := [(yZ s Z).1]) rfl T.slice41 rfl rfl hoQ rfl rfl (one_elem rfl (hb216.cells (n := 5) rfl)) (fun _ _ h => h.elim) (fun k hk => (have h9 := HK.1; have hk9 := hk; ⟨by have := HC.size; omega, by have := hbP.lt; omega, by have := hbx.lt; omega, by have := hb11.lt; omega, by have := hb6.lt; omega, by have := hb7.lt; omega, by have := hD5; omega, by have := hD4; omega⟩)) q7 q7 ?_
  intro A218 cap219 w220 ho221 c222 hg223;replace HC := HC.trans c222 (fun k hk => .inr ((hoQ.inD k hk).1))
  replace hmx := hmx.tr c222 (by intro hx; have h1 := (hoQ.inD _ hx).1; omega)
  replace ht := ht.tr c222 (fun hx => by first | (have h1 := (hoQ.inD _ hx).1; omega) | (have h1 : w.heap.size ≤ 0 := hoQ.inD _ hx; omega))
  replace hM := hM.tr c222 (fun k hk => by cases hk)
  replace hb11 := hb11.tr c222 (fun hx => by first | (have h1 := hoQ.inD _ hx; omega) | exact na_ob5 hx | exact hav _ hx (by simp))
  replace hbx := hbx.tr c222 (fun hx => by first | (have h1 := hoQ.inD _ hx; omega) | exact na_obx hx | exact hav _ hx (by simp))
  replace hD4 := Nat.lt_of_lt_of_le hD4 c222.size;replace hD5 := Nat.lt_of_lt_of_le hD5 c222.size;replace hb6 := hb6.tr c222 (fun hx => by first | (have h1 := hoQ.inD _ hx; omega) | exact na_ob6 hx | exact hav _ hx (by simp))
  replace hb7 := hb7.tr c222 (fun hx => by first | (have h1 := hoQ.inD _ hx; omega) | exact na_ob7 hx | exact hav _ hx (by simp))
  replace hbP := hbP.tr c222 (fun hx => by first | (have h1 := hoQ.inD _ hx; omega) | exact na_ob hx | exact hav _ hx (by simp))
  replace hwQ := hwQ.trF flat_flat c222 (fun k hk hx => own_disj hoQ hwQ k hx hk)
  replace hb36 := hb36.tr c222 (fun hx => by first | (have h1 := hoQ.inD _ hx; omega) | exact na_ob8 hx | exact hav _ hx (by simp))
  replace HK := HK.chg c222 (by intro k hk hK; have h1 := hoQ.inD k hk; have h2 := lo0_ho k hk; simp only [NK] at hK; omega)
  replace hb216 := hb216.tr c222 (fun hx => by first | (have h1 := hoQ.inD _ hx; omega) | exact na_ob212 hx | exact hav _ hx (by simp))
  refine ⟨_, fun _ h => h, ⟨(Eq.trans hb216 o217.symm), ⟨(Eq.trans hb11 o206.symm), (Eq.trans hbx o207.symm), (Eq.trans hb6 o208.symm), (Eq.trans hb7 o209.symm), (Eq.trans hbP o210.symm), (Eq.trans hb36 o211.symm), trivial⟩⟩, ?_⟩
  refine sq_q rfl (fun W hT => r_nilCheck rfl) <| sq_q rfl (fun W hT => r_fieldAddr T.fld69_1 rfl) <| sq_store2 rfl T.size41 (v := .slice _ _ _) rfl rfl rfl hbP rfl (Nat.le_of_ble_eq_true rfl) q5 rfl ?_
  intro w224 c225 hb226; simp only [setVs, setV] at hb226;clear hbP;replace HC := HC.then1 c225 ge_b;replace hmx := hmx.tr c225 q1;replace ht := ht.tr c225 q1;replace hM := hM.tr c225 (by intro k hk hx; have hlo := (hM.lt k hk).1; simp only [List.mem_singleton] at hx; subst hx; first | exact nm_b hk | omega | (cases hk; done))
  replace hb11 := hb11.tr1 c225 (Ne.symm ne_b_b5);replace hbx := hbx.tr1 c225 (Ne.symm ne_b_bx);replace hD4 := Nat.lt_of_lt_of_le hD4 c225.size;replace hD5 := Nat.lt_of_lt_of_le hD5 c225.size;replace hb6 := hb6.tr1 c225 (Ne.symm ne_b_b6);replace hb7 := hb7.tr1 c225 (Ne.symm ne_b_b7);replace ho221 := ho221.trF flat_flat c225 (by intro k hk hx; simp only [List.mem_cons, List.mem_nil_iff, or_false] at hx; obtain rfl := hx; first | exact na_ob hk | exact absurd (ho221.inD _ hk) (by simp))
  replace hwQ := hwQ.trF flat_flat c225 (by intro k hk hx; simp only [List.mem_cons, List.mem_nil_iff, or_false] at hx; obtain rfl := hx; first | exact na_wb hk | exact absurd (hwQ.inD _ hk) (by simp))
  replace HK := HK.chg c225 (by
   intro k hx hK;obtain rfl := List.mem_singleton.1 hx
   rcases hK with h | h | (h) | h
   · exact absurd h ne_b_lp
   · exact absurd h ne_b_DD
   · exact absurd h ne_b_bx
   exact absurd h (Nat.not_le.2 lt0_b))
  clear o206;clear o207;clear o208;clear o209;clear o210;clear o211;clear o217;refine sq_nil <| block_n <| ⟨HK, ?_⟩;have hzn : ∀ u, u ∈ pre ++ [yZ s Z] → u.2 = 0 := fun u hu => (List.mem_append.1 hu).elim (hz u) (fun h => by rw [List.mem_singleton.1 h]; exact he0)
  have hmo : mO s (pre ++ [yZ s Z]).length = Z.out ++ [(yZ s Z).1] := by rw [List.length_append]; show nxO s (itZ s pre.length _) = _; rw [← hZ]; rfl
  have hmw : mW s (pre ++ [yZ s Z]).length = Z.ws := by rw [List.length_append]; show nxW s (itZ s pre.length _) = _; rw [← hZ]; exact hpush
  have hmol : Z.out.length + [(yZ s Z).1].length = (mO s (pre ++ [yZ s Z]).length).length := by rw [hmo, List.length_append]
  rw [hmol] at hb226
  rw [← hmo] at ho221
  rw [← hmw] at hb226 hwQ
  exact ⟨A218, cap219, Aw2, capw2, hzn, HC, hmx, ht, hM, hb11, hbx, hD4, hD5, hb226, ho221, hwQ, hb6, hb7⟩
 ·rintro W9 ⟨A, cap, Aw, capw, hz, HC, hmx, ht, hM, hb11, hbx, hD4, hD5, hb, ho, hw, hb6, hb7⟩ hDef;replace hM := hM.cons q0 hDef nm_DD;have nm_b5 : b5 ∉ mb (mk DD :: []) := fun hx => (List.mem_cons.1 (show b5 ∈ DD :: mb [] from hx)).elim (fun h => ne_b5_DD h) (fun h => by cases h)
  have nm_bx : bx ∉ mb (mk DD :: []) := fun hx => (List.mem_cons.1 (show bx ∈ DD :: mb [] from hx)).elim (fun h => ne_bx_DD h) (fun h => by cases h)
  have nm_b : b ∉ mb (mk DD :: []) := fun hx => (List.mem_cons.1 (show b ∈ DD :: mb [] from hx)).elim (fun h => ne_b_DD h) (fun h => by cases h)
  have nm_b6 : b6 ∉ mb (mk DD :: []) := fun hx => (List.mem_cons.1 (show b6 ∈ DD :: mb [] from hx)).elim (fun h => ne_b6_DD h) (fun h => by cases h)
  have nm_b7 : b7 ∉ mb (mk DD :: []) := fun hx => (List.mem_cons.1 (show b7 ∈ DD :: mb [] from hx)).elim (fun h => ne_b7_DD h) (fun h => by cases h)
  obtain ⟨n, hn⟩ : ∃ n, xs.length = n + 1 := ⟨xs.length - 1, by omega⟩
  rw [hn] at hb ho hw
  obtain ⟨hxn, hinv, hend⟩ := hyat n q0;have hee := hend.2 hn.symm;obtain ⟨Z, hZ⟩ : ∃ Z, Z = itZ s n ⟨blankV s, [], []⟩ := ⟨_, rfl⟩;replace hb : Blk W9 b [S s, .slice A (nxO s Z).length cap, .slice Aw (nxW s Z).length capw] 69 := by rw [hZ]; exact hb
  replace ho : Own tok5E 51 W9 (fun k => w.heap.size ≤ k ∧ k ≠ b ∧ k ≠ bx ∧ k ≠ b5 ∧ k ≠ b6 ∧ k ≠ b7 ∧ k ≠ lp ∧ k ≠ DD) A cap (nxO s Z) := by rw [hZ]; exact ho
  replace hw : Own wtE 75 W9 (fun k => w.heap.size ≤ k ∧ k ≠ b ∧ k ≠ bx ∧ k ≠ b5 ∧ k ≠ b6 ∧ k ≠ b7 ∧ k ≠ lp ∧ k ≠ DD) Aw capw (nxW s Z) := by rw [hZ]; exact hw
  rw [← hZ] at hxn hinv hee
  have he0 : (tZ s Z).2.2 = 0 := hz _ (List.mem_of_getElem? hxn);obtain ⟨m3, m4⟩ := inv_last hinv hee he0;have htv : tokensV s = ((linesV (nxO s Z) (nxW s Z) (s.drop s.length)).1, 0, 0) := by rw [tokensV_end hs2 (n := n) (by rw [hX]; exact hn.symm), ← hZ, List.drop_length]; exact if_neg (by rw [he0]; simp)
  refine block_n <| then_n <| x_seq <| sr rfl <| lI T.one31 rfl (hb7.cell rfl) <| Wp rfl <| st_neq rfl rfl <| en <| x_cond rfl (fun h3 => ?_) (fun h3 => ?_)
  ·try simp only [nm, ne_eq] at h3
   first | exact absurd rfl h3 | exact absurd trivial h3 | (simp at h3; done)
  try simp only [nm, ne_eq] at h3
  refine x_skip <| then_n <| sr rfl <| Wp rfl <| st_load1 (v := .pointer _) T.one66 rfl (hb11.cell rfl) <| mS rfl <| Wp rfl <| st_slen (ct := #[9]) T.u9 rfl <| Wp rfl <| st_call (ags := [_, _]) rfl rfl T.ent28 rfl (lines_spec s s.length _ hb ho hw (fun k h => ⟨h.2.1, by have := h.1; omega⟩) q0 m3 (Nat.le_refl _) hs2 m4 hmx) ?_
  rintro _ w227 ⟨rfl, hb3, ho3, _, c228⟩;have hiZ := ho.inD;replace HC := HC.trans c228 (fun k hk => .inr ((List.mem_cons.1 hk).elim (fun h => by rw [h]; exact ge_b) (fun h => (hiZ _ h).1)))
  replace hM := hM.tr c228 (fun k hk => fun hx => by first | (rcases List.mem_cons.1 hx with h | h; (exact nm_b (h ▸ hk)); (have h9 := hiZ _ h; simp only [mb_cons, mb, List.mem_cons, List.mem_nil_iff, or_false] at hk; exact h9.2.2.2.2.2.2.2 hk)) | cases hk)
  replace hb11 := hb11.tr c228 (fun hx => (List.mem_cons.1 hx).elim (fun h => absurd h (Ne.symm ne_b_b5)) (fun h => (hiZ _ h).2.2.2.1 rfl))
  refine en <| sr rfl <| Wp rfl <| st_load1 (v := .pointer _) T.one66 rfl (hb11.cell rfl) <| nc rfl <| fa T.fld69_1 rfl <| lL T.one41 rfl (hb3.cell rfl) <| aL rfl <| aI rfl <| aI rfl <| en <| x_ret <| scope_r <| retM_marks hM ?_;intro w99 c99;have hlm := hM.lt;replace HC := HC.trans c99 (fun k hk => .inr (by have := (hlm k hk).1; omega))
  replace ho3 := ho3.trF flat_flat c99 (by intro k hk hx; have hD := ho3.inD k hk; simp only [mb_cons, mb, List.mem_cons, List.mem_nil_iff, or_false] at hx; first | (obtain rfl := hx; exact absurd hD (by simp)) | (rcases hx with hx | hx <;> (obtain rfl := hx; exact absurd hD (by simp))))
  refine ret_tmp3 (v := .slice _ _ _) (v2 := .int _ _) (v3 := .int _ _) rfl rfl rfl rfl ?_;rw [htv];exact ⟨A, cap, by rw [linesV_len], ho3.le.1, (ho3.sl).mono (fun k _ h => h.1), HC⟩
 intro c pre W9 hX hDef;obtain ⟨rfl, ⟨zz, ⟨hzz, hzn⟩, HC, hmx, ht, hM, hb11, hbx, hD4, hD5, hq6, hq7⟩⟩ := hX;replace hM := hM.cons q0 hDef nm_DD;have nm_b5 : b5 ∉ mb (mk DD :: []) := fun hx => (List.mem_cons.1 (show b5 ∈ DD :: mb [] from hx)).elim (fun h => ne_b5_DD h) (fun h => by cases h)
 have nm_bx : bx ∉ mb (mk DD :: []) := fun hx => (List.mem_cons.1 (show bx ∈ DD :: mb [] from hx)).elim (fun h => ne_bx_DD h) (fun h => by cases h)
 have nm_b6 : b6 ∉ mb (mk DD :: []) := fun hx => (List.mem_cons.1 (show b6 ∈ DD :: mb [] from hx)).elim (fun h => ne_b6_DD h) (fun h => by cases h)
 have nm_b7 : b7 ∉ mb (mk DD :: []) := fun hx => (List.mem_cons.1 (show b7 ∈ DD :: mb [] from hx)).elim (fun h => ne_b7_DD h) (fun h => by cases h)
 refine x_exit <| block_x <| then_n <| x_seq <| sr rfl <| lI T.one31 rfl (hq7.cell rfl) <| Wp rfl <| st_neq rfl rfl <| en <| x_cond rfl (fun h3 => ?_) (fun h3 => ?_)
 ·try simp only [nm, ne_eq] at h3
  refine x_seq <| x_draw [(0, 0), (1, 0), (2, 0), (3, 0), (4, 0)] T.mixed rfl rfl rfl (fun W => W.heap[b5]? = W9.heap[b5]? ∧ W.heap[bx]? = W9.heap[bx]? ∧ W.heap[b6]? = W9.heap[b6]? ∧ W.heap[b7]? = W9.heap[b7]? ∧ True) ⟨rfl, rfl, rfl, rfl, trivial⟩ ?_
  have o231 := hb11;have o232 := hbx;have o233 := hq6;have o234 := hq7;have c230 := Chg.drew W9;generalize World.drew W9 = w229 at c230 ⊢;replace HC := HC.then c230;replace hM := hM.tr c230 (by simp)
  refine sq_q rfl (fun W hT => r_load1 (v := .int _ _) T.one3 rfl (Blk.cell (show Blk W b6 _ _ from hT.2.2.1.trans o233) rfl)) <| sq_q rfl (fun W hT => r_load1 (v := .int _ _) T.one31 rfl (Blk.cell (show Blk W b7 _ _ from hT.2.2.2.1.trans o234) rfl)) <| sq_q rfl (fun W hT => r_assign (v := .slice _ _ _) rfl) <| sq_q rfl (fun W hT => r_assign (v := .int _ _) rfl) <| sq_q rfl (fun W hT => r_assign (v := .int _ _) rfl) ?_
  clear o231;clear o232;clear o233;clear o234;refine sq_nil <| then_n <| x_ret <| then_r <| scope_r <| retM_marks hM ?_;intro w99 c99;have hlm := hM.lt;replace HC := HC.trans c99 (fun k hk => .inr (by have := (hlm k hk).1; omega))
  refine ret_tmp3 (v := .slice _ _ _) (v2 := .int _ _) (v3 := .int _ _) rfl rfl rfl rfl ?_;rw [hzz];exact ⟨none, 0, rfl, Nat.le_refl _, .nil, HC⟩
 try simp only [nm, ne_eq] at h3
 exact absurd (by first | exact h3 | simpa using h3) hzn
end Go.Proofs.YtghjmiggobpmoaaGreatDoor.K
namespace Go.Proofs
open Go.Shelf
def Tryz.lx15_ren : Go.Shelf.Ren := ⟨fun | 15 => 105 | 20 => 117 | n => n, fun | 9 => 9 | 23 => 125 | 3 => 3 | 4 => 4 | 0 => 0 | 21 => 21 | n => n, fun | n => n⟩
theorem Tryz.lx15 : Go.Proofs.LaysGw.n15 Tryz.prog Tryz.lx15_ren := {
  mixed := by kernel_rfl
  f15 := Tryz.func105.trans (congrArg some (by kernel_rfl))
  f20 := Tryz.func117.trans (congrArg some (by kernel_rfl))
  t0 := Tryz.underlying0
  a0 := Tryz.isAgg0
  z0 := Tryz.sizeOf0
  v0 := Tryz.zeroValue0
  i0 := by kernel_rfl
  t3 := Tryz.underlying3
  a3 := Tryz.isAgg3
  z3 := Tryz.sizeOf3
  v3 := Tryz.zeroValue3
  i3 := by kernel_rfl
  t4 := Tryz.underlying4
  a4 := Tryz.isAgg4
  z4 := Tryz.sizeOf4
  v4 := Tryz.zeroValue4
  i4 := by kernel_rfl
  t9 := Tryz.underlying9
  a9 := Tryz.isAgg9
  z9 := Tryz.sizeOf9
  v9 := Tryz.zeroValue9
  i9 := by kernel_rfl
  t21 := Tryz.underlying21
  a21 := Tryz.isAgg21
  z21 := Tryz.sizeOf21
  v21 := Tryz.zeroValue21
  i21 := by kernel_rfl
  t23 := Tryz.underlying125
  a23 := Tryz.isAgg125
  z23 := Tryz.sizeOf125
  v23 := Tryz.zeroValue125
  i23 := by kernel_rfl }
end Go.Proofs
namespace Go.Proofs.YtghjmiggobpmoaaGreatDoor.K
open Go Go.RowKit
def nameV (s : Bytes) : Bool := match s with
  | [] => false
  | c :: s => begB c && s.all wordB
theorem all_off {s : Bytes} {i : Nat} (h : i < s.length) (hb : wordB (byte s i) = false) : (s.drop i).all wordB = false := by
  rw [drop_byte h, List.all_cons, hb, Bool.false_and]
theorem all_on {s : Bytes} {i : Nat} (h : i < s.length) (hb : wordB (byte s i) = true) : (s.drop i).all wordB = (s.drop (i + 1)).all wordB := by
  rw [drop_byte h, List.all_cons, hb, Bool.true_and]
theorem nameV_eq {s : Bytes} (h : ¬ s = []) : nameV s = (begB (byte s 0) && (s.drop 1).all wordB) := by
  cases s with
  | nil => exact absurd rfl h
  | cons c s => rfl
end Go.Proofs.YtghjmiggobpmoaaGreatDoor.K
namespace Go.Proofs.YtghjmiggobpmoaaGreatDoor.K
open Go Go.Proofs Go.RowKit
theorem chg_below {w w' : World} (h : Below w.heap.size w w') : Chg [] w w' := ⟨h.os, h.tape, h.output, h.size, fun k hk _ => h.block k hk⟩
theorem below_chg {w w' : World} (h : Chg [] w w') : Below w.heap.size w w' := ⟨h.os, h.tape, h.output, h.size, fun k hk => h.block k hk (by simp)⟩
theorem get_byte {s : Bytes} {i : Nat} (h : i < s.length) : (ByteArray.mk (Array.mk s)).get! i = byte s i := by
  show (Array.mk s)[i]! = _
  simp [byte, h]
theorem decode_lo {s : Bytes} {i : Nat} (h : i < s.length) (hb : (byte s i).toNat < 128) : Utf8.decode ⟨⟨s⟩⟩ i = ((byte s i).toNat, 1) := by
  rw [Lib.decode_at, get_byte h, Lib.decodeN, if_pos hb]
theorem decode_hi {s : Bytes} {i : Nat} (h : i < s.length) (hb : ¬ (byte s i).toNat < 128) : 128 ≤ (Utf8.decode ⟨⟨s⟩⟩ i).1 := by
  rw [Lib.decode_at, get_byte h]
  have h2 := (byte s i).toNat_lt
  unfold Lib.decodeN
  rw [if_neg hb]
  repeat' split
  all_goals first | omega | (simp only; omega) | decide
def notWord (x : Nat) : Bool := decide (126 < x) || !(wordB (UInt8.ofNat x))
theorem wrap_ofNat {x : Nat} (h : x ≤ 126) : IntKind.u8.wrap (x : Int) = ((UInt8.ofNat x).toNat : Int) := by
  have h1 : (UInt8.ofNat x).toNat = x := by simp; omega
  rw [wrap_u8, h1]; omega
theorem word_lo {c : UInt8} (h : wordB c = true) : c.toNat ≤ 126 := by
  simp only [wordB, begB, alphaB, upB, loB, digB, Bool.or_eq_true, decide_eq_true_eq] at h; omega
theorem notWord_byte (c : UInt8) : notWord c.toNat = !(wordB c) := by
  unfold notWord
  rw [UInt8.ofNat_toNat]
  cases h : wordB c with
  | false => simp
  | true => have := word_lo h; simp; omega
theorem idx_all (s : Bytes) : ∀ (f i : Nat), s.length ≤ i + f → decide (Lib.idxFuncFrom notWord true ⟨⟨s⟩⟩ f i < 0) = (s.drop i).all wordB
  | 0, i, h => by rw [List.drop_of_length_le (by omega)]; rfl
  | f + 1, i, h => by
    unfold Lib.idxFuncFrom
    by_cases hi : i < s.length
    · rw [if_pos (show i < (ByteArray.mk (Array.mk s)).size from hi)]
      by_cases hb : (byte s i).toNat < 128
      · rw [decode_lo hi hb]
        simp only []
        rw [notWord_byte]
        cases hw : wordB (byte s i) with
        | false => rw [if_pos (by rfl), all_off hi hw, decide_eq_false (by omega)]
        | true => rw [if_neg (by simp), all_on hi hw]; exact idx_all s f (i + 1) (by omega)
      have h2 := decode_hi hi hb
      have hw : wordB (byte s i) = false := by
        cases hw : wordB (byte s i) with
        | false => rfl
        | true => have := word_lo hw; omega
      rw [if_pos (by unfold notWord; simp; omega), all_off hi hw, decide_eq_false (by omega)]
    rw [if_neg (show ¬ i < (ByteArray.mk (Array.mk s)).size from hi), List.drop_of_length_le (by omega)]; rfl
theorem c_begins_n {x : Nat} (h : x ≤ 126) (w : World) : CallR Tryz.prog 104 #[.int .u8 (IntKind.u8.wrap (x : Int))] w fun v w' => v = .bool (begB (UInt8.ofNat x)) ∧ Chg [] w w' := by
  rw [wrap_ofNat h]; exact c_begins _ _
theorem c_digit_n {x : Nat} (h : x ≤ 126) (w : World) : CallR Tryz.prog 52 #[.int .u8 (IntKind.u8.wrap (x : Int))] w fun v w' => v = .bool (digB (UInt8.ofNat x)) ∧ Chg [] w w' := by
  rw [wrap_ofNat h]; exact c_digit _ _
theorem Name1_spec (x : Nat) (w : World) : CallR Tryz.prog 106 #[.int .i32 (x : Int)] w fun v w' => v = .bool (notWord x) ∧ Chg [] w w' := by
 refine callR_of_wp (args := [_]) Tryz.func106 rfl (Nat.le_of_ble_eq_true rfl) ?_;have HC : Chg [] w w := .refl _;refine sr rfl <| aB rfl <| en <| sr rfl <| mI rfl <| Wp rfl <| st_gtr rfl rfl <| mB rfl <| w_split (d := 5) rfl (fun g1 => ?_) (fun g1 => ?_)
 ·try simp only [nm, ne_eq] at g1
  iterate 5 refine w_no 2 5 false ?_
  iterate 4 refine w_no 7 10 true ?_
  refine w_no 2 5 false <| pT rfl rfl <| aB rfl <| en <| x_ret <| ret_tmp (v := .bool _) rfl rfl <| ⟨congrArg Value.bool ?_, HC⟩
  unfold notWord
  first | (rw [decide_eq_true (by omega)]; rfl) | (rw [decide_eq_false (by omega)]; simp [wordB, *])
 try simp only [nm, ne_eq] at g1
 refine w_yes 2 5 false <| st_move (v := .int _ _) rfl <| w_yes 2 5 false <| st_convInt T.u21 T.u5 rfl <| w_yes 2 5 false <| st_call (ags := [_]) rfl rfl T.ent104 rfl (c_begins_n (by omega) _) ?_
 rintro _ w2 ⟨rfl, c3⟩;replace HC := HC.then c3;refine w_yes 2 5 false <| st_not rfl <| w_yes 2 5 false <| st_move (v := .bool _) rfl <| w_split (d := 10) rfl (fun g4 => ?_) (fun g4 => ?_)
 ·try simp only [nm, ne_eq] at g4
  refine w_yes 7 10 true <| st_move (v := .int _ _) rfl <| w_yes 7 10 true <| st_convInt T.u21 T.u5 rfl <| w_yes 7 10 true <| st_call (ags := [_]) rfl rfl T.ent52 rfl (c_digit_n (by omega) _) ?_
  rintro _ w5 ⟨rfl, c6⟩;replace HC := HC.then c6;refine w_yes 7 10 true <| st_not rfl <| w_yes 2 5 false <| st_pick (b := true) (v := .bool _) rfl rfl <| pF rfl rfl <| aB rfl <| en <| x_ret <| ret_tmp (v := .bool _) rfl rfl <| ⟨congrArg Value.bool ?_, HC⟩
  unfold notWord
  first | (rw [decide_eq_true (by omega)]; rfl) | (rw [decide_eq_false (by omega)]; simp [wordB, *])
 try simp only [nm, ne_eq] at g4
 iterate 4 refine w_no 7 10 true ?_
 refine w_yes 2 5 false <| st_pick (b := false) (v := .bool _) rfl rfl <| pF rfl rfl <| aB rfl <| en <| x_ret <| ret_tmp (v := .bool _) rfl rfl <| ⟨congrArg Value.bool ?_, HC⟩
 unfold notWord
 first | (rw [decide_eq_true (by omega)]; rfl) | (rw [decide_eq_false (by omega)]; simp [wordB, *])
theorem SIndexFunc_spec (s : Bytes) (w : World) : CallR Tryz.prog 105 #[S s, .func (.func 106) #[] #[]] w fun v w' => v = .int .i64 (Lib.idxFunc notWord true ⟨⟨s⟩⟩) ∧ Chg [] w w' :=
  CallR.of (Any.strings_IndexFunc_grows Tryz.lx15 106 #[] T.ent106 notWord ⟨⟨s⟩⟩ w (fun W x _ _ => Calls.mono (Name1_spec x W) (by rintro e W2 ⟨v, e1, rfl, hc⟩; exact ⟨e1, below_chg hc⟩))) fun e w' ⟨h1, h2⟩ => ⟨_, h1, rfl, chg_below h2⟩
theorem Lib_idx_all (s : Bytes) : decide (Lib.idxFunc notWord true ⟨⟨s⟩⟩ < 0) = s.all wordB := idx_all s s.length 0 (by omega)
theorem nameV_begs {s : Bytes} (h : ¬ s = []) : nameV s = (begB (byte s 0) && s.all wordB) := by
  rw [nameV_eq h]
  cases s with
  | nil => exact absurd rfl h
  | cons c s =>
    show (begB c && s.all wordB) = (begB c && (wordB c && s.all wordB))
    cases hb : begB c with
    | false => rfl
    | true => rw [show wordB c = true by rw [wordB, hb]; rfl]; rfl
theorem CName_spec (s : Bytes) (w : World) : CallR Tryz.prog 80 #[S s] w fun v w' => v = .bool (nameV s) ∧ Chg [] w w' := by
 refine callR_of_wp (args := [_]) Tryz.func80 rfl (Nat.le_of_ble_eq_true rfl) ?_;have HC : Chg [] w w := .refl _;refine sr rfl <| aB rfl <| en <| sr rfl <| mS rfl <| Wp rfl <| st_sneq rfl rfl <| mB rfl <| w_split (d := 5) rfl (fun g1 => ?_) (fun g1 => ?_)
 ·try simp only [nm, ne_eq] at g1
  have hs0 : 0 < s.length := List.length_pos_iff.2 (by assumption)
  refine w_yes 2 5 true <| st_move (v := S _) rfl <| w_yes 2 5 true <| st_sidx T.u9 rfl rfl (by omega) (by omega) <| w_yes 2 5 true <| st_call (ags := [_]) rfl rfl T.ent104 rfl (c_begins _ _) ?_
  rintro _ w2 ⟨rfl, c3⟩;replace HC := HC.then c3;refine pT rfl rfl <| mB rfl <| w_split (d := 10) rfl (fun g4 => ?_) (fun g4 => ?_)
  ·try simp only [nm, ne_eq] at g4
   refine w_yes 7 10 true <| st_move (v := S _) rfl <| w_yes 7 10 true <| st_call (ags := [_, _]) rfl rfl T.ent105 rfl (SIndexFunc_spec _ _) ?_;rintro _ w5 ⟨rfl, c6⟩;replace HC := HC.then c6;refine w_yes 7 10 true <| st_lss rfl rfl <| pT rfl rfl <| aB rfl <| en <| x_ret <| ret_tmp (v := .bool _) rfl rfl <| ⟨congrArg Value.bool ?_, HC⟩
   first | (rw [show s = [] by assumption]; rfl) | (rw [nameV_begs (by assumption), ← Lib_idx_all, show begB (byte s 0) = false by assumption]; rfl) | (rw [nameV_begs (by assumption), ← Lib_idx_all, show begB (byte s 0) = true by assumption]; rfl)
  try simp only [nm, ne_eq] at g4
  iterate 3 refine w_no 7 10 true ?_
  refine pF rfl rfl <| aB rfl <| en <| x_ret <| ret_tmp (v := .bool _) rfl rfl <| ⟨congrArg Value.bool ?_, HC⟩
  first | (rw [show s = [] by assumption]; rfl) | (rw [nameV_begs (by assumption), ← Lib_idx_all, show begB (byte s 0) = false by assumption]; rfl) | (rw [nameV_begs (by assumption), ← Lib_idx_all, show begB (byte s 0) = true by assumption]; rfl)
 try simp only [nm, ne_eq] at g1
 iterate 3 refine w_no 2 5 true ?_
 refine pF rfl rfl <| mB rfl ?_;iterate 3 refine w_no 7 10 true ?_
 refine pF rfl rfl <| aB rfl <| en <| x_ret <| ret_tmp (v := .bool _) rfl rfl <| ⟨congrArg Value.bool ?_, HC⟩
 first | (rw [show s = [] by assumption]; rfl) | (rw [nameV_begs (by assumption), ← Lib_idx_all, show begB (byte s 0) = false by assumption]; rfl) | (rw [nameV_begs (by assumption), ← Lib_idx_all, show begB (byte s 0) = true by assumption]; rfl)
open Go Go.RowKit
structure Rdr where
  fd : Int
  op : Bytes
  word : Bytes
  here : Bytes
  raw : Bool
deriving DecidableEq
def rdrC (r : Rdr) : List Value := [.int .i64 r.fd, S r.op, S r.word, S r.here, .bool r.raw]
def rdrE : Enc Rdr := .flat 5 rdrC (by omega) (fun _ => rfl) (fun _ u hu => by simp [rdrC] at hu; rcases hu with rfl | rfl | rfl | rfl | rfl <;> rfl)
def pairC (p : Bytes × Bytes) : List Value := [S p.1, S p.2]
def pairE2 : Enc (Bytes × Bytes) := .flat 2 pairC (by omega) (fun _ => rfl) (fun _ u hu => by simp [pairC] at hu; rcases hu with rfl | rfl <;> rfl)
inductive Cm where
  | mk (kind : Int) (name : Bytes) (bang inn : Bool) (asg : List (Bytes × Bytes)) (words : List Bytes) (rds : List Rdr) (kids : List Cm) (items : List (List Bytes × List Cm))
namespace Cm
def kind : Cm → Int | mk k .. => k
def name : Cm → Bytes | mk _ n .. => n
def bang : Cm → Bool | mk _ _ b .. => b
def inn : Cm → Bool | mk _ _ _ b .. => b
def asg : Cm → List (Bytes × Bytes) | mk _ _ _ _ l .. => l
def words : Cm → List Bytes | mk _ _ _ _ _ l .. => l
def rds : Cm → List Rdr | mk _ _ _ _ _ _ l .. => l
def kids : Cm → List Cm | mk _ _ _ _ _ _ _ l _ => l
def items : Cm → List (List Bytes × List Cm) | mk _ _ _ _ _ _ _ _ l => l
end Cm
def zCm : Cm := .mk 0 [] false false [] [] [] [] []
def cmT (c : Cm) : Int × Bytes × Bool × Bool × List (Bytes × Bytes) × List Bytes × List Rdr × List Cm × List (List Bytes × List Cm) := (c.kind, c.name, c.bang, c.inn, c.asg, c.words, c.rds, c.kids, c.items)
def Enc.iso {α β : Type} (c : Enc α) (g : β → α) : Enc β where
  sz := c.sz
  pos := c.pos
  R := fun w D x vs => c.R w D (g x) vs
  len := c.len
  one := c.one
  tr := c.tr
  mono := c.mono
def Enc.none (α : Type) (n : Nat) (h : 0 < n) : Enc α where
  sz := n
  pos := h
  R := fun _ _ _ _ => False
  len := fun h => h.elim
  one := fun h => h.elim
  tr := fun h _ _ => h.elim
  mono := fun h _ => h.elim
def itF (c : Enc Cm) : Enc (List Bytes × List Cm) := (Enc.slice sE).seq (Enc.slice c)
def cmL (c : Enc Cm) : Enc Cm := ((iE .i64).seq <| sE.seq <| bE.seq <| bE.seq <| (Enc.slice pairE2).seq <| (Enc.slice sE).seq <| (Enc.slice rdrE).seq <| (Enc.slice c).seq (Enc.slice (itF c))).iso cmT
def cmF : Nat → Enc Cm
  | 0 => .none Cm 9 (by omega)
  | n + 1 => cmL (cmF n)
theorem cmF_sz : ∀ n, (cmF n).sz = 9
  | 0 => rfl
  | _ + 1 => rfl
theorem sl_imp {α : Type} {c c' : Enc α} {w : World} {D : Nat → Prop} {A : Option Addr} {xs : List α} (hz : c.sz = c'.sz) (h : Sl c w D A xs) (hi : ∀ x, x ∈ xs → ∀ vs, c.R w D x vs → c'.R w D x vs) : Sl c' w D A xs := by
  rcases h with h | ⟨b, o, h1, h2, h3, h4⟩
  · exact .inl h
  exact .inr ⟨b, o, h1, h2, h3, fun i x hx => by
    obtain ⟨vs, h5, h6⟩ := h4 i x hx;exact ⟨vs, hi x (List.mem_of_getElem? hx) vs h5, by rw [← hz]; exact h6⟩⟩
theorem slice_imp {α : Type} {c c' : Enc α} {w : World} {D : Nat → Prop} {xs : List α} {vs : List Value} (hz : c.sz = c'.sz) (h : (Enc.slice c).R w D xs vs) (hi : ∀ x, x ∈ xs → ∀ vs, c.R w D x vs → c'.R w D x vs) : (Enc.slice c').R w D xs vs := by
  obtain ⟨A, cap, h1, h2, h3, h4⟩ := h;exact ⟨A, cap, h1, h2, h3, sl_imp hz h4 hi⟩
theorem itF_imp {c c' : Enc Cm} {w : World} {D : Nat → Prop} {x : List Bytes × List Cm} {vs : List Value} (hz : c.sz = c'.sz) (h : (itF c).R w D x vs) (hi : ∀ k, k ∈ x.2 → ∀ vs, c.R w D k vs → c'.R w D k vs) : (itF c').R w D x vs := by
  obtain ⟨v1, v2, h1, h2, h3⟩ := h;exact ⟨v1, v2, h1, h2, slice_imp hz h3 hi⟩
theorem cmL_imp {c c' : Enc Cm} {w : World} {D : Nat → Prop} {x : Cm} {vs : List Value} (hz : c.sz = c'.sz) (h : (cmL c).R w D x vs) (hk : ∀ k, k ∈ x.kids → ∀ vs, c.R w D k vs → c'.R w D k vs) (hi : ∀ y, y ∈ x.items → ∀ k, k ∈ y.2 → ∀ vs, c.R w D k vs → c'.R w D k vs) : (cmL c').R w D x vs := by
  obtain ⟨a1, b1, e1, f1, a2, b2, e2, f2, a3, b3, e3, f3, a4, b4, e4, f4, a5, b5, e5, f5, a6, b6, e6, f6, a7, b7, e7, f7, a8, b8, e8, f8, g8⟩ := h;exact ⟨a1, b1, e1, f1, a2, b2, e2, f2, a3, b3, e3, f3, a4, b4, e4, f4, a5, b5, e5, f5, a6, b6, e6, f6, a7, b7, e7, f7, a8, b8, e8, slice_imp hz f8 hk, slice_imp (c := itF c) (c' := itF c') rfl g8 fun y hy vs h => itF_imp hz h (hi y hy)⟩
theorem cmF_up {w : World} {D : Nat → Prop} : ∀ (n : Nat) {x : Cm} {vs : List Value}, (cmF n).R w D x vs → (cmF (n + 1)).R w D x vs
  | 0, _, _, h => h.elim
  | n + 1, x, vs, h => cmL_imp (c := cmF n) (c' := cmF (n + 1)) (by rw [cmF_sz, cmF_sz]) h (fun k _ vs h => cmF_up n h) (fun y _ k _ vs h => cmF_up n h)
theorem cmF_le {w : World} {D : Nat → Prop} {n m : Nat} (hnm : n ≤ m) {x : Cm} {vs : List Value} (h : (cmF n).R w D x vs) : (cmF m).R w D x vs := by
  induction hnm with
  | refl => exact h
  | step _ ih => exact cmF_up _ ih
def cmE : Enc Cm where
  sz := 9
  pos := by omega
  R := fun w D x vs => ∃ n, (cmF n).R w D x vs
  len := fun ⟨n, h⟩ => by rw [(cmF n).len h, cmF_sz]
  one := fun ⟨n, h⟩ => (cmF n).one h
  tr := fun ⟨n, h⟩ h1 h2 => ⟨n, (cmF n).tr h h1 h2⟩
  mono := fun ⟨n, h⟩ h1 => ⟨n, (cmF n).mono h h1⟩
def itE : Enc (List Bytes × List Cm) := itF cmE
theorem sl_bound {w : World} {D : Nat → Prop} {A : Option Addr} {xs : List Cm} (h : Sl cmE w D A xs) : ∃ n, Sl (cmF n) w D A xs := by
  rcases h with h | ⟨b, o, h1, h2, h3, h4⟩
  · exact ⟨0, .inl h⟩
  have h5 : ∀ k, ∃ n, ∀ i, i < k → ∀ x, xs[i]? = some x → ∃ vs, (cmF n).R w D x vs ∧ Cells w b (o + i * 9) vs := by
    intro k
    induction k with
    | zero => exact ⟨0, fun i hi => absurd hi (Nat.not_lt_zero _)⟩
    | succ k ih =>
      obtain ⟨n, hn⟩ := ih
      by_cases hk : k < xs.length
      · obtain ⟨vs, ⟨m, hm⟩, hc⟩ := h4 k xs[k] (by simp [hk])
        refine ⟨max n m, fun i hi x hx => ?_⟩
        rcases Nat.lt_or_ge i k with hik | hik
        · obtain ⟨vs, q1, q2⟩ := hn i hik x hx; exact ⟨vs, cmF_le (Nat.le_max_left _ _) q1, q2⟩
        obtain rfl : i = k := by omega
        obtain rfl : xs[i] = x := by rw [List.getElem?_eq_getElem hk] at hx; exact Option.some.inj hx
        exact ⟨vs, cmF_le (Nat.le_max_right _ _) hm, hc⟩
      exact ⟨n, fun i hi x hx => hn i (by have := (List.getElem?_eq_some_iff.1 hx).1; omega) x hx⟩
  obtain ⟨n, hn⟩ := h5 xs.length;exact ⟨n, .inr ⟨b, o, h1, h2, h3, fun i x hx => by rw [cmF_sz]; exact hn i (List.getElem?_eq_some_iff.1 hx).1 x hx⟩⟩
theorem slit_bound {w : World} {D : Nat → Prop} {A : Option Addr} {xs : List (List Bytes × List Cm)} (h : Sl itE w D A xs) : ∃ n, Sl (itF (cmF n)) w D A xs := by
  rcases h with h | ⟨b, o, h1, h2, h3, h4⟩
  · exact ⟨0, .inl h⟩
  have h5 : ∀ k, ∃ n, ∀ i, i < k → ∀ x, xs[i]? = some x → ∃ vs, (itF (cmF n)).R w D x vs ∧ Cells w b (o + i * 2) vs := by
    intro k
    induction k with
    | zero => exact ⟨0, fun i hi => absurd hi (Nat.not_lt_zero _)⟩
    | succ k ih =>
      obtain ⟨n, hn⟩ := ih
      by_cases hk : k < xs.length
      · obtain ⟨vs, ⟨v1, v2, e1, e2, A2, cap2, e3, e4, e5, e6⟩, hc⟩ := h4 k xs[k] (by simp [hk])
        obtain ⟨m, hm⟩ := sl_bound e6;refine ⟨max n m, fun i hi x hx => ?_⟩
        rcases Nat.lt_or_ge i k with hik | hik
        · obtain ⟨vs, q1, q2⟩ := hn i hik x hx; exact ⟨vs, itF_imp (by rw [cmF_sz, cmF_sz]) q1 fun _ _ _ h => cmF_le (Nat.le_max_left _ _) h, q2⟩
        obtain rfl : i = k := by omega
        obtain rfl : xs[i] = x := by rw [List.getElem?_eq_getElem hk] at hx; exact Option.some.inj hx
        exact ⟨vs, ⟨v1, v2, e1, e2, A2, cap2, e3, e4, e5, sl_imp (by rw [cmF_sz, cmF_sz]) hm fun _ _ _ h => cmF_le (Nat.le_max_right _ _) h⟩, hc⟩
      exact ⟨n, fun i hi x hx => hn i (by have := (List.getElem?_eq_some_iff.1 hx).1; omega) x hx⟩
  obtain ⟨n, hn⟩ := h5 xs.length;exact ⟨n, .inr ⟨b, o, h1, h2, h3, fun i x hx => hn i (List.getElem?_eq_some_iff.1 hx).1 x hx⟩⟩
structure CmAt (w : World) (D : Nat → Prop) (c : Cm) (A1 A2 A3 A4 A5 : Option Addr) : Prop where
  asg : Sl pairE2 w D A1 c.asg
  words : Sl sE w D A2 c.words
  rds : Sl rdrE w D A3 c.rds
  kids : Sl cmE w D A4 c.kids
  items : Sl itE w D A5 c.items
def cmC (c : Cm) (A1 : Option Addr) (c1 : Nat) (A2 : Option Addr) (c2 : Nat) (A3 : Option Addr) (c3 : Nat) (A4 : Option Addr) (c4 : Nat) (A5 : Option Addr) (c5 : Nat) : List Value :=
  [.int .i64 c.kind, S c.name, .bool c.bang, .bool c.inn, .slice A1 c.asg.length c1, .slice A2 c.words.length c2, .slice A3 c.rds.length c3, .slice A4 c.kids.length c4, .slice A5 c.items.length c5]
def capOk (n c : Nat) : Prop := n ≤ c ∧ c ≤ 9223372036854775807
theorem cm_open {w : World} {D : Nat → Prop} {c : Cm} {vs : List Value} (h : cmE.R w D c vs) : ∃ A1 c1 A2 c2 A3 c3 A4 c4 A5 c5, vs = cmC c A1 c1 A2 c2 A3 c3 A4 c4 A5 c5 ∧ CmAt w D c A1 A2 A3 A4 A5 ∧
    capOk c.asg.length c1 ∧ capOk c.words.length c2 ∧ capOk c.rds.length c3 ∧ capOk c.kids.length c4 ∧ capOk c.items.length c5 := by
  obtain ⟨n, h⟩ := h
  cases n with
  | zero => exact h.elim
  | succ n =>
    obtain ⟨_, _, e1, rfl, _, _, e2, rfl, _, _, e3, rfl, _, _, e4, rfl, _, _, e5, ⟨A1, c1, rfl, p1, q1, s1⟩, _, _, e6, ⟨A2, c2, rfl, p2, q2, s2⟩, _, _, e7, ⟨A3, c3, rfl, p3, q3, s3⟩, _, _, e8, ⟨A4, c4, rfl, p4, q4, s4⟩, ⟨A5, c5, rfl, p5, q5, s5⟩⟩ := h;subst e8 e7 e6 e5 e4 e3 e2 e1;exact ⟨A1, c1, A2, c2, A3, c3, A4, c4, A5, c5, rfl, ⟨s1, s2, s3, sl_imp (cmF_sz n) s4 fun _ _ _ h => ⟨n, h⟩, sl_imp (c := itF (cmF n)) (c' := itE) rfl s5 fun _ _ _ h => itF_imp (cmF_sz n) h fun _ _ _ h => ⟨n, h⟩⟩, ⟨p1, q1⟩, ⟨p2, q2⟩, ⟨p3, q3⟩, ⟨p4, q4⟩, ⟨p5, q5⟩⟩
theorem cm_shut {w : World} {D : Nat → Prop} {c : Cm} {A1 A2 A3 A4 A5 : Option Addr} {c1 c2 c3 c4 c5 : Nat} (h : CmAt w D c A1 A2 A3 A4 A5)
    (h1 : capOk c.asg.length c1) (h2 : capOk c.words.length c2) (h3 : capOk c.rds.length c3) (h4 : capOk c.kids.length c4) (h5 : capOk c.items.length c5) : cmE.R w D c (cmC c A1 c1 A2 c2 A3 c3 A4 c4 A5 c5) := by
  obtain ⟨n, hn⟩ := sl_bound h.kids;obtain ⟨m, hm⟩ := slit_bound h.items
  refine ⟨max n m + 1, [.int .i64 c.kind], _, rfl, rfl, [S c.name], _, rfl, rfl, [.bool c.bang], _, rfl, rfl, [.bool c.inn], _, rfl, rfl, [.slice A1 c.asg.length c1], _, rfl, ⟨A1, c1, rfl, h1.1, h1.2, h.asg⟩, [.slice A2 c.words.length c2], _, rfl, ⟨A2, c2, rfl, h2.1, h2.2, h.words⟩,
    [.slice A3 c.rds.length c3], _, rfl, ⟨A3, c3, rfl, h3.1, h3.2, h.rds⟩, [.slice A4 c.kids.length c4], [.slice A5 c.items.length c5], rfl, ⟨A4, c4, rfl, h4.1, h4.2, ?_⟩, ⟨A5, c5, rfl, h5.1, h5.2, ?_⟩⟩
  · exact sl_imp (by rw [cmF_sz, cmF_sz]) hn fun _ _ _ h => cmF_le (Nat.le_max_left _ _) h
  exact sl_imp (c := itF (cmF m)) (c' := itF (cmF (max n m))) rfl hm fun _ _ _ h => itF_imp (by rw [cmF_sz, cmF_sz]) h fun _ _ _ h => cmF_le (Nat.le_max_right _ _) h
open Go Go.RowKit
def hd : List Tok → Tok
  | t :: _ => t
  | [] => ⟨0, [], 0, [], false⟩
inductive Rs (α : Type) where
  | ok (x : α) (r : List Tok)
  | er (r : List Tok) (e : Int)
def Rs.bind {α β : Type} : Rs α → (α → List Tok → Rs β) → Rs β
  | .ok x r, f => f x r
  | .er r e, _ => .er r e
def begW : List Bytes := [[33], [123], [99, 97, 115, 101], [102, 111, 114], [105, 102], [117, 110, 116, 105, 108], [119, 104, 105, 108, 101]]
def endW : List Bytes := [[125], [100, 111], [100, 111, 110, 101], [101, 108, 105, 102], [101, 108, 115, 101], [101, 115, 97, 99], [102, 105], [105, 110], [116, 104, 101, 110]]
def redW : List Bytes := [[60], [62], [62, 62], [60, 38], [62, 38], [60, 62], [62, 124], [60, 60], [60, 60, 45]]
def begsB (w : Bytes) : Bool := begW.contains w
def resB (w : Bytes) : Bool := begsB w || endW.contains w
def redB (w : Bytes) : Bool := redW.contains w
def isT (k : Int) (l : List Bytes) (T : List Tok) : Bool := decide ((hd T).kind = k) && l.contains (hd T).text
def linesG : List Tok → List Tok
  | [] => []
  | t :: r => if t.kind = 3 then linesG r else t :: r
def startsB (T : List Tok) : Bool :=
  if (hd T).kind = 1 then !resB (hd T).text || begsB (hd T).text
  else if (hd T).kind = 2 then decide ((hd T).text = [40]) || redB (hd T).text
  else decide ((hd T).kind = 4)
def wantG (k : Int) (s : Bytes) (T : List Tok) : Rs Unit := if isT k [s] T = true then .ok () T.tail else .er T 101
def anyG (T : List Tok) : Rs Tok := if (hd T).kind = 1 then .ok (hd T) T.tail else .er T 101
def redirG (T : List Tok) : Rs (Option Rdr) :=
  if (hd T).kind ≠ 4 ∧ ((hd T).kind ≠ 2 ∨ redB (hd T).text = false) then .ok none T
  else if (hd T).kind = 4 then (anyG T.tail.tail).bind fun w r => .ok (some ⟨((byte (hd T).text 0 - 48).toNat : Int), (hd T.tail).text, w.text, w.here, w.raw⟩) r
  else (anyG T.tail).bind fun w r => .ok (some ⟨if byte (hd T).text 0 = 62 then 1 else 0, (hd T).text, w.text, w.here, w.raw⟩) r
def redirsG : Nat → List Rdr → List Tok → Rs (List Rdr)
  | 0, l, T => .ok l T
  | n + 1, l, T => (redirG T).bind fun x r => match x with
    | none => .ok l r
    | some x => redirsG n (l ++ [x]) r
def assignG (w : Bytes) : (Bytes × Bytes) × Bool := (((Lib.cut w [61]).1, (Lib.cut w [61]).2.1), (Lib.cut w [61]).2.2 && nameV (Lib.cut w [61]).1)
def simpleG : Nat → List (Bytes × Bytes) → List Bytes → List Rdr → List Tok → Rs Cm
  | 0, a, ws, rs, T => .ok (.mk 1 [] false false a ws rs [] []) T
  | n + 1, a, ws, rs, T => (redirG T).bind fun x r => match x with
    | some x => simpleG n a ws (rs ++ [x]) r
    | none => if (hd T).kind ≠ 1 then (if rs.length + a.length + ws.length = 0 then .er T 101 else .ok (.mk 1 [] false false a ws rs [] []) T)
      else if (assignG (hd T).text).2 = true ∧ ws = [] then simpleG n (a ++ [(assignG (hd T).text).1]) ws rs T.tail
      else simpleG n a (ws ++ [(hd T).text]) rs T.tail
def kidsC (k : Int) (l : List Cm) : Cm := .mk k [] false false [] [] [] l []
section
variable (com : List Tok → Rs Cm)
def pipeL : Nat → List Cm → List Tok → Rs (List Cm)
  | 0, l, T => .ok l T
  | n + 1, l, T => if isT 2 [[124]] T = true then (com (linesG T.tail)).bind fun c r => pipeL n (l ++ [c]) r else .ok l T
def pipeC (bang : Bool) (l : List Cm) : Cm := if l.length = 1 ∧ bang = false then l.headD zCm else .mk 2 [] bang false [] [] [] l []
def pipeG (T : List Tok) : Rs Cm :=
  (com (if isT 1 [[33]] T = true then T.tail else T)).bind fun c r => (pipeL com r.length [c] r).bind fun l r => .ok (pipeC (isT 1 [[33]] T) l) r
def andL : Nat → Cm → List Tok → Rs Cm
  | 0, c, T => .ok c T
  | n + 1, c, T => if isT 2 [[38, 38], [124, 124]] T = true then (pipeG com (linesG T.tail)).bind fun d r => andL n (kidsC (if (hd T).text = [124, 124] then 4 else 3) [c, d]) r else .ok c T
def andG (T : List Tok) : Rs Cm := (pipeG com T).bind fun c r => andL com r.length c r
def listC (l : List Cm) : Cm := if l.length = 1 then l.headD zCm else kidsC 5 l
def moreB (T : List Tok) : Bool := isT 2 [[59], [38]] T || decide ((hd T).kind = 3)
def listL : Nat → List Cm → List Tok → Rs (List Cm)
  | 0, l, T => .ok l T
  | n + 1, l, T => (andG com T).bind fun c r =>
    let l2 := l ++ [if isT 2 [[38]] r = true then kidsC 6 [c] else c]
    if moreB r = true then (if startsB (linesG r.tail) = true then listL n l2 (linesG r.tail) else .ok l2 (linesG r.tail)) else .ok l2 r
def listG (T : List Tok) : Rs Cm := (listL com T.length [] T).bind fun l r => .ok (listC l) r
def bodyG (T : List Tok) : Rs Cm := listG com (linesG T)
def branchG : Nat → List Tok → Rs Cm
  | 0, T => .er T 101
  | n + 1, T => (bodyG com T).bind fun a r => (wantG 1 [116, 104, 101, 110] r).bind fun _ r => (bodyG com r).bind fun b r =>
    if isT 1 [[101, 108, 105, 102]] r = true then (branchG n r.tail).bind fun c r => .ok (kidsC 9 [a, b, c]) r
    else if isT 1 [[101, 108, 115, 101]] r = true then (bodyG com r.tail).bind fun c r => (wantG 1 [102, 105] r).bind fun _ r => .ok (kidsC 9 [a, b, c]) r
    else (wantG 1 [102, 105] r).bind fun _ r => .ok (kidsC 9 [a, b]) r
def doG (T : List Tok) : Rs Cm := (wantG 1 [100, 111] T).bind fun _ r => (bodyG com r).bind fun c r => (wantG 1 [100, 111, 110, 101] r).bind fun _ r => .ok c r
def wordsG : List Bytes → List Tok → List Bytes × List Tok
  | l, [] => (l, [])
  | l, t :: r => if t.kind = 1 then wordsG (l ++ [t.text]) r else (l, t :: r)
def eachG (T : List Tok) : Rs Cm :=
  if nameV (hd T).text = false then .er T 101
  else (anyG T).bind fun x r =>
    if isT 1 [[105, 110]] (linesG r) = true then
      let q := wordsG [] (linesG r).tail
      if isT 2 [[59]] q.2 = false ∧ (hd q.2).kind ≠ 3 then .er q.2 101
      else (doG com (linesG q.2.tail)).bind fun d r => .ok (.mk 12 x.text false true [] q.1 [] [d] []) r
    else (doG com (linesG (if isT 2 [[59]] (linesG r) = true then (linesG r).tail else linesG r))).bind fun d r => .ok (.mk 12 x.text false false [] [] [] [d] []) r
def patsG : Nat → List Bytes → List Tok → Rs (List Bytes)
  | 0, l, T => .ok l T
  | n + 1, l, T => if isT 2 [[124]] T = true then (anyG T.tail).bind fun x r => patsG n (l ++ [x.text]) r else .ok l T
def itemG (T : List Tok) : Rs (List Bytes × List Cm) :=
  (anyG (if isT 2 [[40]] T = true then T.tail else T)).bind fun x r => (patsG r.length [x.text] r).bind fun l r => (wantG 2 [41] r).bind fun _ r =>
    if startsB (linesG r) = true then (listG com (linesG r)).bind fun c r => .ok (l, [c]) r else .ok (l, []) (linesG r)
def itemsG : Nat → List (List Bytes × List Cm) → List Tok → Rs (List (List Bytes × List Cm))
  | 0, l, T => .ok l T
  | n + 1, l, T => if isT 1 [[101, 115, 97, 99]] T = true then .ok l T else (itemG com T).bind fun x r =>
    if isT 2 [[59, 59]] r = true then itemsG n (l ++ [x]) (linesG r.tail) else .ok (l ++ [x]) r
def chooseG (T : List Tok) : Rs Cm :=
  (anyG T).bind fun x r => (wantG 1 [105, 110] (linesG r)).bind fun _ r => (itemsG com (linesG r).length [] (linesG r)).bind fun l r => (wantG 1 [101, 115, 97, 99] r).bind fun _ r => .ok (.mk 13 [] false false [] [x.text] [] [] l) r
def innerG (T : List Tok) : Rs Cm :=
  if (hd T).text = [40] then (bodyG com T.tail).bind fun c r => (wantG 2 [41] r).bind fun _ r => .ok (kidsC 8 [c]) r
  else if (hd T).text = [123] then (bodyG com T.tail).bind fun c r => (wantG 1 [125] r).bind fun _ r => .ok (kidsC 7 [c]) r
  else if (hd T).text = [105, 102] then branchG com T.length T.tail
  else if (hd T).text = [119, 104, 105, 108, 101] ∨ (hd T).text = [117, 110, 116, 105, 108] then (bodyG com T.tail).bind fun a r => (doG com r).bind fun c r => .ok (kidsC (if (hd T).text = [117, 110, 116, 105, 108] then 11 else 10) [a, c]) r
  else if (hd T).text = [102, 111, 114] then eachG com T.tail
  else chooseG com T.tail
def addR (c : Cm) (l : List Rdr) : Cm := .mk c.kind c.name c.bang c.inn c.asg c.words l c.kids c.items
def compG (T : List Tok) : Rs Cm := (innerG com T).bind fun c r => (redirsG r.length c.rds r).bind fun l r => .ok (addR c l) r
end
def opensB (T : List Tok) : Bool := isT 2 [[40]] T || (decide ((hd T).kind = 1) && (begsB (hd T).text && !decide ((hd T).text = [33])))
def funcG (cw : List Tok → Rs Cm) (T : List Tok) : Rs Cm :=
  (wantG 2 [41] T.tail.tail).bind fun _ r => if opensB (linesG r) = false then .er (linesG r) 101 else (cw (linesG r)).bind fun c r => .ok (.mk 14 (hd T).text false false [] [] [] [c] []) r
def commandG (cw fw : List Tok → Rs Cm) (T : List Tok) : Rs Cm :=
  if opensB T = true then cw T
  else if (hd T).kind = 1 ∧ resB (hd T).text = true then .er T 101
  else if (hd T).kind = 1 ∧ nameV (hd T).text = true ∧ (hd T.tail).kind = 2 ∧ (hd T.tail).text = [40] then fw T
  else simpleG T.length [] [] [] T
def gramF : Nat → (List Tok → Rs Cm) × (List Tok → Rs Cm)
  | 0 => (fun T => .er T 104, fun T => .er T 104)
  | m + 1 => (compG (commandG (gramF m).1 (gramF m).2), funcG (gramF m).1)
def comG (m : Nat) : List Tok → Rs Cm := commandG (gramF m).1 (gramF m).2
def gramG (T : List Tok) : Rs Cm :=
  (if (hd (linesG T)).kind = 0 then Rs.ok zCm (linesG T) else listG (comG 64) (linesG T)).bind fun c r => if (hd r).kind = 0 then .ok c r else .er r 101
def gramV (s : Bytes) : Cm × Int × Int :=
  if (tokensV s).2.2 ≠ 0 then (zCm, (tokensV s).2.1, (tokensV s).2.2)
  else match gramG (tokensV s).1 with
    | .ok c _ => (c, 0, 0)
    | .er r e => (zCm, (hd r).at_, e)
end Go.Proofs.YtghjmiggobpmoaaGreatDoor.K
