import Derived.Test.YtghjmiggobpmoaaGreatDoorKitV
import Derived.Test.YtghjmiggobpmoaaGreatDoorTok
set_option linter.unusedVariables false
set_option linter.unusedSimpArgs false
set_option autoImplicit false
namespace Go.Proofs.YtghjmiggobpmoaaGreatDoor.K
open Go Go.RowKit
variable {P : Program} {r : Option Nat} {n : Nat} {O : Array Oper} {Q : Post} {E : Env} {ds : List Deferred} {w : World} {l : List Oper}
def IterH (P : Program) (gf : FuncId) (caps : List Value) (K : Nat → Prop) {α : Type} (encs : α → List Value) (xs : List α) (St : List α → World → Prop) (Pop : List α → α → World → World → Prop) : Prop :=
  ∀ (lp : Nat) (J Jx : List α → World → Prop) (W : World), (∀ pre A, J pre A → St pre A) →
    (∀ pre x rest A0 A, xs = pre ++ x :: rest → J pre A0 → Pop pre x A0 A → RoundR P lp (encs x) A fun b B => Kept (NK K A0) A B ∧ ((b = true ∧ J (pre ++ [x]) B) ∨ (b = false ∧ Jx (pre ++ [x]) B))) →
    J [] W → CallR P gf ⟨.func (.yield lp) #[] #[] :: caps⟩ W fun _ W' => J xs W' ∨ ∃ pre, Jx pre W'
theorem rangeH_core {α : Type} {f : Operand} {ps : List Nat} {assign body : Code} {gf : FuncId} {caps : Array Value} {bs : List Nat} {K : Nat → Prop} {encs : α → List Value} {xs : List α} {St : List α → World → Prop} {Pop : List α → α → World → World → Prop}
    (hf : ev E f = .func (.func gf) #[] caps) (hent : ∀ args (w : World), (callFunc gf args).run P w = .ok (.enter gf args) w) (hps : (ps.all fun p => Nat.blt p n) = true) (henc : ∀ x, (encs x).length = ps.length)
    (lp dd : Nat) (mark : List Deferred) (w1 : World) (hD : World → Prop) (fn : FuncId) (a : Act) (ha1 : a.tmps.size = n) (ha2 : env a = E) (ha3 : a.defers = ds)
    (he : (Instr.enterLoop fn a.tmps ps.toArray assign body r).run P w = .ok (lp, mark) w1) (hL1 : w1.heap[lp]? = some (.loop { state := .ready, pending := none, fn, tmps := a.tmps, params := ps.toArray, assign, body, defers := dd }))
    (hD1 : hD w1) (hDl : ∀ A B, hD A → Chg (lp :: bs) A B → hD B) (hDK : ∀ (A B : World) (K' : Nat → Prop), hD A → Kept (fun k => k = lp ∨ (mark ≠ [] ∧ k = dd) ∨ K' k) A B → hD B)
    (hlb : lp ∉ bs)
    (I : List α → World → Prop) (Ix : Code → List α → World → Prop) (hit : IterH P gf caps.toList K encs xs St Pop) (hSt : ∀ pre A, I pre A → St pre A) (hPop : ∀ pre x A B, I pre A → Pop pre x A B → Kept (fun k => k = lp ∨ (mark ≠ [] ∧ k = dd) ∨ False) A B) (h0 : I [] w1)
    (hI : ∀ pre A B, I pre A → Chg [lp] A B → I pre B) (hIx : ∀ c pre A B, Ix c pre A → Chg [lp] A B → Ix c pre B)
    (hbody : ∀ pre x rest A0 A, xs = pre ++ x :: rest → I pre A0 → Pop pre x A0 A → (∃ rec, A.heap[lp]? = some (.loop rec)) →
      wp P (some lp) n assign (thenP (fun E1 _ A1 => Kept (fun k => k = lp ∨ (mark ≠ [] ∧ k = dd) ∨ NK K A0 k) A A1 ∧ ∀ ds1 A2, Chg [lp] A1 A2 → (∃ rec, A2.heap[lp]? = some (.loop rec)) →
        wp P (some lp) n body (roundP (fun k => k = lp ∨ (mark ≠ [] ∧ k = dd) ∨ NK K A0 k) A2 (I (pre ++ [x])) (fun c B => Ix c (pre ++ [x]) B)) E1 ds1 A2) (fun _ _ _ _ => False)) (upds E (zipV ps (encs x))) [] A)
    (hKl : ¬ K lp)
    (hdone : ∀ W, I xs W → hD W → Q .normal E (mark ++ ds) W) (hstop : ∀ c pre W, Ix c pre W → hD W → wp P r n c Q E (mark ++ ds) W) :
    ∃ (l : Nat) (mark : List Deferred) (w₁ : World) (d : Deferred) (w₁' : World) (f' : FuncId) (args : Array Value) (w₂ : World),
      (Instr.enterLoop fn a.tmps ps.toArray assign body (WF r).round).run P w = .ok (l, mark) w₁ ∧
      (resolve a.eval (rangeCall f l) 0).run P w₁ = .ok d w₁' ∧
      (∀ f', Target.leads P w₁' d.target d.args = some f' → (WF r).fn f') ∧
      (invoke d.target d.args).run P w₁' = .ok (.enter f' args) w₂ ∧
      ((WF r).depth.isSome = true → 1 ≤ 0) ∧
      CallsIn (WF r) (0 - 1) P f' args w₂ (rangePost (WF r) 0 P l (toQ n Q) { a with defers := mark ++ a.defers }) := by
  let rec0 : LoopState → Option Code → Loop := fun st pe => { state := st, pending := pe, fn, tmps := a.tmps, params := ps.toArray, assign, body, defers := dd }
  have hL1 : w1.heap[lp]? = some (.loop (rec0 .ready none)) := hL1
  refine ⟨lp, mark, w1, { target := .fn (.func gf) caps, args := #[.func (.yield lp) #[] #[]] }, w1, gf, #[.func (.yield lp) #[] #[]] ++ caps, w1, by cases r <;> exact he, ?_, fun _ _ => trivial, ?_, fun hh => by simp [WF, Fence.wide] at hh, ?_⟩
  · rw [ev_env, ha2]
    simp only [resolve, hf]
    simp [Deferred.ofValue, go_sem, ev]
  · simp [invoke, go_sem, hent]
  · have hcall := hit lp (fun pre W => I pre W ∧ W.heap[lp]? = some (.loop (rec0 .ready none)) ∧ hD W) (fun pre W => ∃ c, Ix c pre W ∧ W.heap[lp]? = some (.loop (rec0 .done (some c))) ∧ hD W) w1
      (fun pre A hJ => hSt pre A hJ.1)
      (fun pre x rest A0 A hx ⟨q1, q02, q03⟩ hpop => by
        have hcp := hPop _ _ _ _ q1 hpop
        have q2 : A.heap[lp]? = some (.loop (rec0 .ready none)) := (hcp.2 lp (.inl rfl) (Array.getElem?_eq_some_iff.1 q02).1).trans q02
        have q3 : hD A := hDK _ _ (fun _ => False) q03 hcp
        have hlt : lp < A.heap.size := (Array.getElem?_eq_some_iff.1 q2).1
        have hy := run_yield (P := P) (args := ⟨encs x⟩) q2 (by simp [rec0, henc])
        have htm : ((rec0 .ready none).params.zip ⟨encs x⟩).foldl (fun tmps (t, a) => tmps.setIfInBounds t a) (rec0 .ready none).tmps = (ps.zip (encs x)).foldl (fun t (p : Nat × Value) => t.setIfInBounds p.1 p.2) a.tmps := by
          simp only [rec0]; rw [← Array.foldl_toList]; simp [Array.toList_zip]
        refine ⟨_, _, _, _, hy, roundIn_of_wpIn trivial ?_⟩
        have hE : env { tmps := (ps.zip (encs x)).foldl (fun t (p : Nat × Value) => t.setIfInBounds p.1 p.2) a.tmps, defers := [] } = upds E (zipV ps (encs x)) := by
          rw [env_zip ps (encs x) a (by rw [ha1]; exact hps), ha2]
        have hw := hbody pre x rest A0 A hx q1 hpop ⟨_, q2⟩ { tmps := (ps.zip (encs x)).foldl (fun t (p : Nat × Value) => t.setIfInBounds p.1 p.2) a.tmps, defers := [] } (by rw [zip_size]; exact ha1) hE rfl
        have hw' : assign.wpIn (Fence.wide.inRound lp) 0 P (toQ n (thenP (fun E1 _ A1 => Kept (fun k => k = lp ∨ (mark ≠ [] ∧ k = dd) ∨ NK K A0 k) A A1 ∧ ∀ ds1 A2, Chg [lp] A1 A2 → (∃ rec, A2.heap[lp]? = some (.loop rec)) →
            wp P (some lp) n body (roundP (fun k => k = lp ∨ (mark ≠ [] ∧ k = dd) ∨ NK K A0 k) A2 (I (pre ++ [x])) (fun c B => Ix c (pre ++ [x]) B)) E1 ds1 A2) (fun _ _ _ _ => False)))
            { tmps := (ps.zip (encs x)).foldl (fun t (p : Nat × Value) => t.setIfInBounds p.1 p.2) a.tmps, defers := [] } A := hw
        rw [htm]
        refine wpIn_mono hw' ?_
        rintro e a1 A1 ⟨s1, s2⟩
        cases e with
        | normal =>
          obtain ⟨hk, hb⟩ := s2
          have hl1 : A1.heap[lp]? = some (.loop (rec0 .ready none)) := (hk.2 lp (.inl rfl) hlt).trans q2
          have hlt1 : lp < A1.heap.size := (Array.getElem?_eq_some_iff.1 hl1).1
          refine ⟨_, run_beginRound hl1 rfl, ?_⟩
          have hl2 : (A1.putObj lp (.loop { rec0 .ready none with state := .busy })).heap[lp]? = some (.loop { rec0 .ready none with state := .busy }) := World.putObj_heap_same hlt1
          have hD2 : hD (A1.putObj lp (.loop { rec0 .ready none with state := .busy })) := hDl _ _ (hDK A A1 (NK K A0) q3 hk) ((Chg.putObj A1 lp _).mono fun x hx => by simp at hx; simp [hx])
          have hb2 := hb a1.defers _ (Chg.putObj A1 lp (.loop { rec0 .ready none with state := .busy })) ⟨_, hl2⟩ a1 s1 rfl rfl
          have hb3 : body.wpIn (Fence.wide.inRound lp) 0 P (toQ n (roundP (fun k => k = lp ∨ (mark ≠ [] ∧ k = dd) ∨ NK K A0 k) (A1.putObj lp (.loop { rec0 .ready none with state := .busy })) (I (pre ++ [x])) (fun c B => Ix c (pre ++ [x]) B))) a1 (A1.putObj lp (.loop { rec0 .ready none with state := .busy })) := hb2
          refine wpIn_mono hb3 ?_
          have fin : ∀ (jump : Option Code) (B : World), Kept (fun k => k = lp ∨ (mark ≠ [] ∧ k = dd) ∨ NK K A0 k) (A1.putObj lp (.loop { rec0 .ready none with state := .busy })) B →
              (Instr.endRound lp jump).run P B = .ok (.bool jump.isNone) (B.putObj lp (.loop (rec0 (if jump.isNone then .ready else .done) jump))) ∧
              (B.putObj lp (.loop (rec0 (if jump.isNone then .ready else .done) jump))).heap[lp]? = some (.loop (rec0 (if jump.isNone then .ready else .done) jump)) ∧
              hD (B.putObj lp (.loop (rec0 (if jump.isNone then .ready else .done) jump))) ∧ Chg [lp] B (B.putObj lp (.loop (rec0 (if jump.isNone then .ready else .done) jump))) ∧
              Kept (NK K A0) A (B.putObj lp (.loop (rec0 (if jump.isNone then .ready else .done) jump))) := fun jump B hk2 => by
            have hs2 : lp < (A1.putObj lp (.loop { rec0 .ready none with state := .busy })).heap.size := by simpa using hlt1
            have hl3 := (hk2.2 lp (.inl rfl) hs2).trans hl2
            have hr := run_endRound (P := P) jump hl3
            have hc : Chg [lp] B (B.putObj lp (.loop (rec0 (if jump.isNone then .ready else .done) jump))) := Chg.putObj _ _ _
            refine ⟨hr, World.putObj_heap_same (Array.getElem?_eq_some_iff.1 hl3).1, hDl _ _ (hDK _ B (NK K A0) hD2 hk2) (hc.mono fun x hx => by simp at hx; simp [hx]), hc, ?_, fun k hk3 hk4 => ?_⟩
            · have h1 := hk.1; have h2 := hk2.1; simp at h2 ⊢; omega
            · have hne : k ≠ lp := fun e => by rw [e] at hk3; rcases hk3 with h | h; exact hKl h; exact Nat.not_le.2 (Array.getElem?_eq_some_iff.1 q02).1 h
              rw [World.putObj_heap_other hne, hk2.2 k (.inr (.inr hk3)) (by have := hk.1; simp; omega), World.putObj_heap_other hne, hk.2 k (.inr (.inr hk3)) hk4]
          have mono1 : ∀ {A B : World}, Chg [lp] A B → Chg (lp :: bs) A B := fun h => h.mono fun x hx => by simp at hx; simp [hx]
          rintro e a3 B ⟨t1, t2⟩
          cases e with
          | normal =>
            obtain ⟨hr, hl4, hD4, hc4, hk4⟩ := fin none B t2.1
            exact ⟨_, _, hr, true, rfl, hk4, .inl ⟨rfl, hI _ _ _ t2.2 hc4, hl4, hD4⟩⟩
          | ret =>
            obtain ⟨hr, hl4, hD4, hc4, hk4⟩ := fin (some .ret) B t2.1
            exact ⟨_, _, hr, false, rfl, hk4, .inr ⟨rfl, .ret, hIx _ _ _ _ t2.2 hc4, hl4, hD4⟩⟩
          | exit i =>
            obtain ⟨hr, hl4, hD4, hc4, hk4⟩ := fin (some (.exit i)) B t2.1
            exact ⟨_, _, hr, false, rfl, hk4, .inr ⟨rfl, .exit i, hIx _ _ _ _ t2.2 hc4, hl4, hD4⟩⟩
          | goto t =>
            obtain ⟨hr, hl4, hD4, hc4, hk4⟩ := fin (some (.goto t)) B t2.1
            exact ⟨_, _, hr, false, rfl, hk4, .inr ⟨rfl, .goto t, hIx _ _ _ _ t2.2 hc4, hl4, hD4⟩⟩
          | panic c => exact t2.elim
          | outgrown => exact t2.elim
        | exit i => exact s2.elim
        | goto t => exact s2.elim
        | ret => exact s2.elim
        | panic c => exact s2.elim
        | outgrown => exact s2.elim)
      ⟨h0, hL1, hD1⟩
    have hargs : (#[.func (.yield lp) #[] #[]] ++ caps : Array Value) = ⟨.func (.yield lp) #[] #[] :: caps.toList⟩ := by
      apply Array.ext'; simp
    rw [hargs]
    refine CallsIn.mono (callsIn_of_calls hcall) ?_
    have mono1 : ∀ {A B : World}, Chg [lp] A B → Chg (lp :: bs) A B := fun h => h.mono fun x hx => by simp at hx; simp [hx]
    rintro e W2 ⟨v, rfl, (⟨q1, q2, q3⟩ | ⟨pre, c, q1, q2, q3⟩)⟩
    · refine ⟨none, _, run_endLoop q2 (by simp [rec0]), ?_⟩
      have hc := Chg.putObj W2 lp (.loop { rec0 .ready none with state := .exhausted })
      refine ⟨ha1, ?_⟩
      have := hdone _ (hI _ _ _ q1 hc) (hDl _ _ q3 (mono1 hc))
      rw [← ha2, ← ha3] at this
      exact this
    · refine ⟨some c, _, run_endLoop q2 (by simp [rec0]), ?_⟩
      have hc := Chg.putObj W2 lp (.loop { rec0 .done (some c) with state := .exhausted })
      exact hstop c pre _ (hIx _ _ _ _ q1 hc) (hDl _ _ q3 (mono1 hc)) _ ha1 ha2 (by rw [ha3])
theorem x_rangeH {α : Type} {f : Operand} {ps : List Nat} {assign body : Code} {gf : FuncId} {caps : Array Value} {bs : List Nat} {K : Nat → Prop} {encs : α → List Value} {xs : List α} {St : List α → World → Prop} {Pop : List α → α → World → World → Prop}
    (hf : ev E f = .func (.func gf) #[] caps) (hent : ∀ args (w : World), (callFunc gf args).run P w = .ok (.enter gf args) w) (hps : (ps.all fun p => Nat.blt p n) = true) (henc : ∀ x, (encs x).length = ps.length) (hbs : ∀ b, b ∈ bs → b < w.heap.size) (hK : ∀ k, K k → k < w.heap.size)
    (hit : IterH P gf caps.toList K encs xs St Pop)
    (h : ∀ (D lp : Nat) (w1 : World), w.heap.size ≤ D → w.heap.size ≤ lp → D ≠ lp → D < w1.heap.size → lp < w1.heap.size → Chg [] w w1 → ∃ (I : List α → World → Prop) (Ix : Code → List α → World → Prop), I [] w1 ∧
      (∀ pre A, I pre A → St pre A) ∧ (∀ pre x A B, I pre A → Pop pre x A B → Kept (fun k => k = lp ∨ k = D) A B) ∧ (∀ pre A B, I pre A → Chg [lp] A B → I pre B) ∧ (∀ c pre A B, Ix c pre A → Chg [lp] A B → Ix c pre B) ∧
      (∀ pre x rest A0 A, xs = pre ++ x :: rest → I pre A0 → Pop pre x A0 A → (∃ rec, A.heap[lp]? = some (.loop rec)) →
        wp P (some lp) n assign (thenP (fun E1 _ A1 => Kept (fun k => k = lp ∨ k = D ∨ NK K A0 k) A A1 ∧ ∀ ds1 A2, Chg [lp] A1 A2 → (∃ rec, A2.heap[lp]? = some (.loop rec)) →
          wp P (some lp) n body (roundP (fun k => k = lp ∨ k = D ∨ NK K A0 k) A2 (I (pre ++ [x])) (fun c B => Ix c (pre ++ [x]) B)) E1 ds1 A2) (fun _ _ _ _ => False)) (upds E (zipV ps (encs x))) [] A) ∧
      (∀ W, I xs W → DefD D W → Q .normal E (mk D :: ds) W) ∧ (∀ c pre W, Ix c pre W → DefD D W → wp P none n c Q E (mk D :: ds) W)) :
    wp P none n (.rangeFunc f ps.toArray assign body) Q E ds w := by
  intro a ha1 ha2 ha3
  refine wpIn_rangeFunc ?_
  intro fn hfn
  obtain ⟨W1, hW1⟩ : ∃ W1, (w.alloc (.deferred (some []))).alloc (.loop { state := .ready, pending := none, fn, tmps := a.tmps, params := ps.toArray, assign, body, defers := w.heap.size }) = W1 := ⟨_, rfl⟩
  have hc1 : Chg [] w W1 := by rw [← hW1]; exact (Chg.alloc w _).then (Chg.alloc _ _)
  have hL1 : W1.heap[w.heap.size + 1]? = some (.loop { state := .ready, pending := none, fn, tmps := a.tmps, params := ps.toArray, assign, body, defers := w.heap.size }) := by
    rw [← hW1]; have := World.alloc_heap_new (w.alloc (.deferred (some []))) (.loop { state := .ready, pending := none, fn, tmps := a.tmps, params := ps.toArray, assign, body, defers := w.heap.size }); rwa [World.size_alloc] at this
  have hD1 : DefD w.heap.size W1 := by
    rw [← hW1]; exact (Below.heap_alloc _ _ _ (by simp)).trans (World.alloc_heap_new w _)
  obtain ⟨I, Ix, h0, hSt, hPp, hI, hIx, hb, hd, hs⟩ := h w.heap.size (w.heap.size + 1) W1 (Nat.le_refl _) (Nat.le_succ _) (by omega) (Array.getElem?_eq_some_iff.1 hD1).1 (Array.getElem?_eq_some_iff.1 hL1).1 hc1
  have hDn : w.heap.size ∉ (w.heap.size + 1) :: bs := fun hx => by
    rcases List.mem_cons.1 hx with h | h
    · omega
    · have := hbs _ h; omega
  refine rangeH_core (K := K) (r := none) hf hent hps henc (w.heap.size + 1) w.heap.size [mk w.heap.size] W1 (DefD w.heap.size) fn a ha1 ha2 ha3 ?_ hL1 hD1
    (fun A B hA hc => (hc.block _ (Array.getElem?_eq_some_iff.1 hA).1 hDn).trans hA) (fun A B K' hA hk => (hk.2 _ (.inr (.inl ⟨by simp, rfl⟩)) (Array.getElem?_eq_some_iff.1 hA).1).trans hA)
    (fun hx => by have := hbs _ hx; omega) I Ix hit hSt (fun pre x A B hi hp => have k := hPp pre x A B hi hp; ⟨k.1, fun z hz hl => k.2 z (hz.elim .inl fun h => h.elim (fun h => .inr h.2) False.elim) hl⟩) h0 hI hIx ?_ (fun hx => by have := hK _ hx; omega) hd hs
  · rw [← hW1]; exact run_enterLoop_outer _ _ _ _ _
  · intro pre x rest A0 A hx hi hp hr
    refine x_mono (hb pre x rest A0 A hx hi hp hr) ?_
    have hkk : ∀ {A B : World}, Kept (fun k => k = w.heap.size + 1 ∨ k = w.heap.size ∨ NK K A0 k) A B → Kept (fun k => k = w.heap.size + 1 ∨ ([mk w.heap.size] ≠ [] ∧ k = w.heap.size) ∨ NK K A0 k) A B := fun h => ⟨h.1, fun k hk hl => h.2 k (hk.elim .inl (fun h => h.elim (fun h => .inr (.inl h.2)) (fun h => .inr (.inr h)))) hl⟩
    intro e E1 ds1 A1 hq
    cases e with
    | normal =>
      obtain ⟨k1, k2⟩ := hq
      refine ⟨hkk k1, fun ds2 A2 hc hr2 => x_mono (k2 ds2 A2 hc hr2) ?_⟩
      intro e E3 ds3 A3 hq3
      cases e with
      | normal => exact ⟨hkk hq3.1, hq3.2⟩
      | ret => exact ⟨hkk hq3.1, hq3.2⟩
      | exit i => exact ⟨hkk hq3.1, hq3.2⟩
      | goto i => exact ⟨hkk hq3.1, hq3.2⟩
      | panic c => exact hq3
      | outgrown => exact hq3
    | _ => exact hq
end Go.Proofs.YtghjmiggobpmoaaGreatDoor.K
set_option linter.unusedVariables false
set_option linter.unusedSimpArgs false
set_option autoImplicit false
set_option maxRecDepth 20000
namespace Go.Proofs.YtghjmiggobpmoaaGreatDoor.K
open Go Go.Proofs Go.RowKit

def yE (y : Tok × Int) : List Value := [.agg ⟨[.int .i64 y.1.kind, S y.1.text, .int .i64 y.1.at_, S y.1.here, .bool y.1.raw]⟩, .int .i64 y.2]
section mem
variable (s : Bytes) (b bx : Nat) (D : Nat → Prop)
def MemL (O : List Tok) (U : List (Nat × Bool)) (A : Option Addr) (cap : Nat) (Aw : Option Addr) (capw : Nat) (W : World) : Prop := Blk W b [S s, .slice A O.length cap, .slice Aw U.length capw] 69 ∧ Own tok5E 51 W D A cap O ∧ Own wtE 75 W D Aw capw U
def StL (pre : List (Tok × Int)) (W : World) : Prop := (Blk W bx [.pointer (some ⟨b, 0, none⟩)] 66 ∧ MaxT W ∧ Tab W) ∧ ∃ A cap Aw capw, MemL s b D (mO s pre.length) (mW s pre.length) A cap Aw capw W
def PopL (pre : List (Tok × Int)) (x : Tok × Int) (A0 A1 : World) : Prop := ∀ A cap Aw capw, MemL s b D (mO s pre.length) (mW s pre.length) A cap Aw capw A0 → ∃ Aw' capw', (∀ k, k ∈ ob Aw' → k ∈ ob Aw) ∧ MemL s b D (itZ s pre.length ⟨blankV s, [], []⟩).out (itZ s pre.length ⟨blankV s, [], []⟩).ws A cap Aw' capw' A1 ∧ Chg (b :: ob A) A0 A1
end mem
theorem Blk.inj {w : World} {b : Nat} {cs ds : List Value} {T' : TypeId} (h : Blk w b cs T') (k : Blk w b ds T') : cs = ds := by
  have e := (show w.heap[b]? = _ from h).symm.trans (show w.heap[b]? = _ from k)
  simpa using e
theorem take_at {α : Type} {l : List α} {n : Nat} {x : α} (h : l[n]? = some x) : l = l.take n ++ x :: l.drop (n + 1) := by rw [← drop_cons_at h, List.take_append_drop]

theorem ltokens_spec {b : Nat} {w : World} : CallR Tryz.prog 26 #[.pointer (some ⟨b, 0, none⟩)] w fun v w' => ∃ bx, v = .func (.func 33) #[] #[.pointer (some ⟨bx, 0, none⟩)] ∧ w.heap.size ≤ bx ∧ Blk w' bx [.pointer (some ⟨b, 0, none⟩)] 66 ∧ Chg [] w w' := by
 refine callR_of_wp (args := [_]) Tryz.func26 rfl (Nat.le_of_ble_eq_true rfl) ?_
 have HC : Chg [] w w := .refl _
 refine sr rfl <| Wp rfl <| st_box (v := .pointer _) (vs := [_]) rfl rfl ?_
 intro bx w1 e2 c3 hb4
 have ge_bx := gB e2 HC.size
 replace HC := HC.then c3
 clear e2
 refine av (v := .nilFunc) rfl <| en <| sr rfl <| Wp rfl <| st_makeFunc <| av (v := .func _ _ _) rfl <| en <| x_ret <| ret_tmp (v := .func _ _ _) rfl rfl ?_
 exact ⟨bx, rfl, ge_bx, hb4, HC⟩

theorem ltokens_iter {s : Bytes} {b bx : Nat} {D K : Nat → Prop} {xs : List (Tok × Int)} (hD : ∀ k, D k → k ≠ b ∧ k ≠ bx ∧ k ≠ 1 ∧ k ≠ 0) (hbb : bx ≠ b) (hb0 : b ≠ 1) (hbz : b ≠ 0) (hs : s.length ≤ 16384) (hX : yldF s (s.length + 1) ⟨blankV s, [], []⟩ = xs) :
    IterH Tryz.prog 33 [.pointer (some ⟨bx, 0, none⟩)] K yE xs (StL s b bx D) (PopL s b D) := by
 intro lp J Jx W hSt hR hJ
 obtain ⟨⟨hbx, hmx, ht⟩, A, cap, Aw, capw, hb, ho, hw⟩ := id (hSt _ _ hJ)
 have hmA : MemL s b D (mO s 0) (mW s 0) A cap Aw capw W := ⟨hb, ho, hw⟩
 have hz0 := And.intro hmx.lt ht.lt
 refine callR_of_wp (args := [_, _]) Tryz.func33 rfl (Nat.le_of_ble_eq_true rfl) ?_
 have HA : Chg (b :: ob A) W W := .refl _
 have hyz := yld_at s (s.length + 1) ⟨blankV s, [], []⟩ (inv_first s) (by show s.length - blankV s < _; omega)
 rw [hX] at hyz
 obtain ⟨hxp, hyat⟩ := hyz
 refine sr rfl <| Wp rfl <| st_load1 (v := .pointer _) T.one66 rfl (hbx.cell rfl) <| nc rfl <| fa T.fld69_0 rfl <| lS T.one9 rfl (hb.cell rfl) <| Wp rfl <| st_call (ags := [_, _]) rfl rfl T.ent34 rfl (blank_spec s 0 _ (by omega) (Nat.zero_le _)) ?_
 rintro _ w1 ⟨rfl, c2⟩
 replace hbx := hbx.tr0 c2
 replace hb := hb.tr0 c2
 replace ho := ho.tr0 c2
 replace hw := hw.tr0 c2
 replace hmx := hmx.tr0 c2
 replace ht := ht.tr0 c2
 replace HA := HA.then c2
 rw [show (0 + blankV (s.drop 0) : Nat) = blankV s from Nat.zero_add _]
 refine aI rfl <| en <| x_block <| x_loop (ι := Nat × Zst × World × Option Addr × Nat × Option Addr × Nat) [3, 4, 5, 6, 12, 13, 14, 15, 16, 17, 18, 19, 20, 21, 22, 23, 24, 25, 26, 27, 28, 29, 30, 31, 32, 33, 34, 35, 36, 37, 38, 39, 40, 41, 42, 43, 44, 45, 46, 47, 48] (fun ⟨n, Z, W0, A, cap, Aw, capw⟩ => [(3, .int .i64 (Z.i : Int))]) (fun ⟨n, Z, W0, A, cap, Aw, capw⟩ W => (Z = itZ s n (⟨blankV s, [], []⟩ : Zst) ∧ n < xs.length ∧ (1 < W0.heap.size ∧ 0 < W0.heap.size) ∧ ∃ Aw0 capw0, MemL s b D (mO s n) (mW s n) A cap Aw0 capw0 W0 ∧ ∀ k, k ∈ ob Aw → k ∈ ob Aw0) ∧ (Blk W bx [.pointer (some ⟨b, 0, none⟩)] 66) ∧ (Blk W b [S s, .slice A Z.out.length cap, .slice Aw Z.ws.length capw] 69) ∧ (Own tok5E 51 W D A cap Z.out) ∧ (Own wtE 75 W D Aw capw Z.ws) ∧ (MaxT W) ∧ (Tab W) ∧ (J (xs.take n) W0) ∧ (Chg (b :: ob A) W0 W)) (fun ⟨n, Z, W0, A, cap, Aw, capw⟩ => xs.length - n) (0, (⟨blankV s, [], []⟩ : Zst), W, A, cap, Aw, capw) ?_ ?_ ?_
 · exact ⟨rfl, trivial⟩
 ·refine ⟨?_, hbx, hb, ho, hw, hmx, ht, hJ, HA⟩
  exact ⟨rfl, hxp, hz0, Aw, capw, hmA, fun _ h => h⟩
 intro ⟨n, Z, W0, A, cap, Aw, capw⟩ G4 w3 ⟨⟨hZ, hn, hz0, hp0⟩, hbx, hb, ho, hw, hmx, ht, hJ, HA⟩
 change wp _ _ _ _ _ (upds (over _ _ G4) [(3, .int .i64 (Z.i : Int))]) _ _
 obtain ⟨hxn, hinv, hend⟩ := hyat n hn
 rw [← hZ] at hxn hinv hend
 obtain ⟨hZi, hbl, hwj, hgd⟩ := hinv
 have hinv : InvZ s Z := ⟨hZi, hbl, hwj, hgd⟩
 have hlt : (xs.take n).length = n := by rw [List.length_take]; omega
 have hlt1 : (xs.take n ++ [yZ s Z]).length = n + 1 := by rw [List.length_append, hlt]; rfl
 have hxs := take_at hxn
 have ht1 := hz0.2
 have hm1 := hz0.1
 refine x_seq <| x_block <| sr rfl <| Wp rfl <| st_load1 (v := .pointer _) T.one66 rfl (hbx.cell rfl) <| nc rfl <| fa T.fld69_0 rfl <| lS T.one9 rfl (hb.cell rfl) <| mI rfl <| Wp rfl <| st_call (ags := [_, _]) rfl rfl T.ent35 rfl (tnext_spec s Z.i _ (by omega) hZi (fun h => ⟨(hbl.resolve_left h).1, (hbl.resolve_left h).2.1⟩) ht) ?_
 rintro _ w5 ⟨z, rfl, hz, c6⟩
 replace hbx := hbx.tr0 c6
 replace hb := hb.tr0 c6
 replace ho := ho.tr0 c6
 replace hw := hw.tr0 c6
 replace HA := HA.then c6
 refine mv (v := .tuple ⟨[_, _, _]⟩) rfl <| Wp rfl <| st_extract (vs := [_, _, _]) (v := .agg ⟨[.int _ _, S _, .int _ _, S _, .bool _]⟩) rfl rfl <| Wp rfl <| st_extract (vs := [_, _, _]) (v := .int _ _) rfl rfl <| Wp rfl <| st_extract (vs := [_, _, _]) (v := .int _ _) rfl rfl <| Wp rfl <| st_alloc T.zero51 ?_
 intro b4 w7 e8 c9 hb10
 have ge_b4 : W0.heap.size ≤ b4 := by rw [e8]; exact HA.size
 have ne_bx_b4 := nF e8 hbx.ne_size
 have ne_b_b4 := nF e8 hb.ne_size
 have nho_b4 : b4 ∉ ob A := ho.fresh (by rw [e8]; exact Nat.le_refl _)
 have nhw_b4 : b4 ∉ ob Aw := hw.fresh (by rw [e8]; exact Nat.le_refl _)
 replace hb := hb.tr0 c9
 replace ho := ho.tr0 c9
 replace hw := hw.tr0 c9
 replace HA := HA.then c9
 clear e8
 refine Wp rfl <| st_st (v := .agg ⟨[_, _, _, _, _]⟩) T.size51 rfl rfl rfl hb10 ?_
 intro w11 c12 hb13; simp only [setVs, setV] at hb13
 clear hb10
 replace hb := hb.tr1 c12 ne_b_b4
 replace ho := ho.trF flat_flat c12 (by intro k hk hx; exact nho_b4 (List.mem_singleton.1 hx ▸ hk))
 replace hw := hw.trF flat_flat c12 (by intro k hk hx; exact nhw_b4 (List.mem_singleton.1 hx ▸ hk))
 replace HA := HA.then1 c12 ge_b4
 refine aI rfl <| aI rfl <| en <| x_seq <| sr rfl <| mv (v := .func _ _ _) rfl <| Wp rfl <| st_loadA (vs := [_, _, _, _, _]) T.agg51 rfl (hb13.cells (n := 5) (vs := [_, _, _, _, _]) rfl) rfl <| mI rfl ?_
 have hpop : PopL s b D (xs.take n) (yZ s Z) W0 w11 := by
   intro A2 cap2 Aw2 capw2 hm
   obtain ⟨Aw0, capw0, hm0, hsub⟩ := hp0
   have he := hm0.1.inj (by rw [hlt] at hm; exact hm.1)
   simp only [List.cons.injEq, Value.slice.injEq, true_and, and_true] at he
   obtain ⟨⟨rfl, rfl⟩, rfl, _⟩ := he
   rw [hlt, ← hZ]; exact ⟨Aw, capw, hsub, ⟨hb, ho, hw⟩, HA⟩
 refine Wp rfl <| st_yield (vs := [.agg _, .int _ _]) rfl rfl rfl rfl (hR (xs.take n) (yZ s Z) (xs.drop (n + 1)) _ _ hxs hJ hpop) ?_
 rintro _ w14 ⟨hk2, ⟨rfl, hJ2⟩ | ⟨rfl, hJ2⟩⟩
 ·have hb4k := hb13.kept hk2 (.inr ge_b4)
  have hst2 := hSt _ _ hJ2
  unfold StL at hst2
  rw [hlt1] at hst2
  obtain ⟨⟨hbx2, hmx2, ht2⟩, A2, cap2, Aw2, capw2, hmS⟩ := hst2
  replace hmS : MemL s b D (nxO s Z) (nxW s Z) A2 cap2 Aw2 capw2 w14 := by rw [hZ]; exact hmS
  obtain ⟨hb2, ho2, hw2⟩ := id hmS
  have HA2 : Chg (b :: ob A2) w14 w14 := .refl _
  have htq := ht2.lt
  have hmq := hmx2.lt
  refine Wp rfl <| st_not rfl <| mB rfl <| w_yes 5 33 false <| st_move (v := .int _ _) rfl <| w_yes 5 33 false <| st_neq rfl rfl <| pF rfl rfl <| mB rfl <| w_split (d := 37) rfl (fun g15 => ?_) (fun g15 => ?_)
  ·try simp only [nm, ne_eq] at g15
   have hee : endZ s Z = true := endZ_iff.2 (.inl (by first | assumption | simp_all))
   iterate 3 refine w_no 9 37 false ?_
   refine pT rfl rfl <| en <| x_cond (t := true) rfl (fun h0 => ?_) (fun h0 => ?_)
   rotate_left
   · exact absurd h0 (by decide)
   refine x_ret <| then_r <| block_r <| then_r <| then_r <| block_r <| ret_none rfl ?_
   have hfin : xs.take n ++ [yZ s Z] = xs := by have h9 := hend.1 hee; have h8 := hxs; rw [List.drop_eq_nil_of_le (by omega)] at h8; exact h8.symm
   have hJ9 := hJ2
   rw [hfin] at hJ9
   exact .inl hJ9
  ·try simp only [nm, ne_eq] at g15
   refine w_yes 9 37 false <| st_fieldAddr T.fld51_0 rfl <| w_yes 9 37 false <| st_load1 (v := .int _ _) T.one3 rfl (hb4k.cell rfl) <| w_yes 9 37 false <| st_eql rfl rfl <| pF rfl rfl <| en <| x_cond rfl (fun h0 => ?_) (fun h0 => ?_)
   ·try simp only [nm, ne_eq] at h0
    have hee : endZ s Z = true := endZ_iff.2 (.inr (by first | assumption | simp_all))
    refine x_ret <| then_r <| block_r <| then_r <| then_r <| block_r <| ret_none rfl ?_
    have hfin : xs.take n ++ [yZ s Z] = xs := by have h9 := hend.1 hee; have h8 := hxs; rw [List.drop_eq_nil_of_le (by omega)] at h8; exact h8.symm
    have hJ9 := hJ2
    rw [hfin] at hJ9
    exact .inl hJ9
   ·try simp only [nm, ne_eq] at h0
    have hkn : (tZ s Z).1.kind ≠ 0 := by first | assumption | simp_all
    have he0 : (tZ s Z).2.2 = 0 := by first | assumption | simp_all
    have hne : endZ s Z = false := endZ_no.2 ⟨he0, hkn⟩
    obtain rfl := hz he0
    have htk : xs.take (n + 1) = xs.take n ++ [yZ s Z] := by rw [List.take_add_one, hxn]; rfl
    rw [← htk] at hJ2
    obtain ⟨m1, m2, m3, m4⟩ := inv_mid hinv hne
    refine x_skip <| then_n <| sr rfl <| mI rfl <| aI rfl <| en <| sr rfl <| fa T.fld51_0 rfl <| lI T.one3 rfl (hb4k.cell rfl) <| Wp rfl <| st_eql rfl rfl <| en <| x_cond rfl (fun h1 => ?_) (fun h1 => ?_)
    ·try simp only [nm, ne_eq] at h1
     have hk3 : (tZ s Z).1.kind = 3 := by first | assumption | simpa using h1
     refine x_region rfl <| Wp rfl <| st_load1 (v := .pointer _) T.one66 rfl (hbx2.cell rfl) <| mI rfl <| Wp rfl <| st_call (ags := [_, _]) rfl rfl T.ent28 rfl (lines_spec s (nxI s Z) _ hb2 ho2 hw2 (fun k h => ⟨(hD k h).1, (hD k h).2.2.1⟩) hb0 m3 m2 hs m4 hmx2) ?_
     rintro _ w16 ⟨rfl, hb3, ho3, ⟨hg3, hl3⟩, c17⟩
     rw [show (nxO s Z).length = (linesV (nxO s Z) (nxW s Z) (s.drop (nxI s Z))).1.length from (linesV_len _ _ _).symm] at hb3
     have hbx3 := hbx2.tr c17 (fun h => (List.mem_cons.1 h).elim hbb (fun h => (hD _ (ho2.inD _ h)).2.1 rfl))
     have hmx3 := hmx2.tr c17 (fun h => (List.mem_cons.1 h).elim (fun e => hb0 e.symm) (fun h => (hD _ (ho2.inD _ h)).2.2.1 rfl))
     have ht3 := ht2.tr c17 (fun h => (List.mem_cons.1 h).elim (fun e => hbz e.symm) (fun h => (hD _ (ho2.inD _ h)).2.2.2 rfl))
     have HA3 := HA2.trans c17 (fun x hx => .inl hx)
     have hw3 : Own wtE 75 w16 D none 0 ([] : List (Nat × Bool)) := .nil
     refine aI rfl <| wops_nil <| block_n <| then_n <| x_region rfl <| Wp rfl <| st_load1 (v := .pointer _) T.one66 rfl (hbx3.cell rfl) <| nc rfl <| fa T.fld69_0 rfl <| lS T.one9 rfl (hb3.cell rfl) <| mI rfl <| Wp rfl <| st_call (ags := [_, _]) rfl rfl T.ent34 rfl (blank_spec s (nxI s Z + (linesV (nxO s Z) (nxW s Z) (s.drop (nxI s Z))).2) _ (by omega) hl3) ?_
     rintro _ w18 ⟨rfl, c19⟩
     replace hbx3 := hbx3.tr0 c19
     replace hb3 := hb3.tr0 c19
     replace ho3 := ho3.tr0 c19
     replace hw3 := hw3.tr0 c19
     replace hmx3 := hmx3.tr0 c19
     replace ht3 := ht3.tr0 c19
     replace HA3 := HA3.then c19
     refine aI rfl <| en <| ⟨(n + 1, ⟨nxI s Z + (linesV (nxO s Z) (nxW s Z) (s.drop (nxI s Z))).2 + blankV (s.drop (nxI s Z + (linesV (nxO s Z) (nxW s Z) (s.drop (nxI s Z))).2)), (linesV (nxO s Z) (nxW s Z) (s.drop (nxI s Z))).1, []⟩, w14, A2, cap2, none, 0), ?_, ?_, rfl, ⟨rfl, trivial⟩, ?_⟩
     ·refine ⟨?_, hbx3, hb3, ho3, hw3, hmx3, ht3, hJ2, HA3⟩
      exact ⟨by rw [itZ_succ, ← hZ]; unfold nxZ; rw [if_pos hk3], by have := mt hend.2 (by rw [hne]; simp); omega, ⟨hmq, htq⟩, Aw2, capw2, by show MemL s b D (nxO s (itZ s n ⟨blankV s, [], []⟩)) (nxW s (itZ s n ⟨blankV s, [], []⟩)) A2 cap2 Aw2 capw2 _; rw [← hZ]; exact hmS, (fun k h => by cases h)⟩
     ·show xs.length - (n + 1) < xs.length - n; omega
     exact q9
    ·try simp only [nm, ne_eq] at h1
     have hk3 : ¬ (tZ s Z).1.kind = 3 := by first | assumption | simpa using h1
     refine x_skip <| block_n <| then_n <| x_region rfl <| Wp rfl <| st_load1 (v := .pointer _) T.one66 rfl (hbx2.cell rfl) <| nc rfl <| fa T.fld69_0 rfl <| lS T.one9 rfl (hb2.cell rfl) <| mI rfl <| Wp rfl <| st_call (ags := [_, _]) rfl rfl T.ent34 rfl (blank_spec s (nxI s Z) _ (by omega) m2) ?_
     rintro _ w20 ⟨rfl, c21⟩
     replace hbx2 := hbx2.tr0 c21
     replace hb2 := hb2.tr0 c21
     replace ho2 := ho2.tr0 c21
     replace hw2 := hw2.tr0 c21
     replace hmx2 := hmx2.tr0 c21
     replace ht2 := ht2.tr0 c21
     replace HA2 := HA2.then c21
     refine aI rfl <| en <| ⟨(n + 1, ⟨nxI s Z + blankV (s.drop (nxI s Z)), nxO s Z, nxW s Z⟩, w14, A2, cap2, Aw2, capw2), ?_, ?_, rfl, ⟨rfl, trivial⟩, ?_⟩
     ·refine ⟨?_, hbx2, hb2, ho2, hw2, hmx2, ht2, hJ2, HA2⟩
      exact ⟨by rw [itZ_succ, ← hZ]; unfold nxZ; rw [if_neg hk3], by have := mt hend.2 (by rw [hne]; simp); omega, ⟨hmq, htq⟩, Aw2, capw2, by show MemL s b D (nxO s (itZ s n ⟨blankV s, [], []⟩)) (nxW s (itZ s n ⟨blankV s, [], []⟩)) A2 cap2 Aw2 capw2 _; rw [← hZ]; exact hmS, (fun k h => h)⟩
     ·show xs.length - (n + 1) < xs.length - n; omega
     exact q9
 ·have hb4k := hb13.kept hk2 (.inr ge_b4)
  refine Wp rfl <| st_not rfl <| mB rfl <| w_no 5 33 false <| w_no 5 33 false <| pT rfl rfl <| mB rfl ?_
  iterate 3 refine w_no 9 37 false ?_
  refine pT rfl rfl <| en <| x_cond (t := true) rfl (fun h0 => ?_) (fun h0 => ?_)
  rotate_left
  · exact absurd h0 (by decide)
  refine x_ret <| then_r <| block_r <| then_r <| then_r <| block_r <| ret_none rfl ?_
  exact .inr ⟨_, hJ2⟩

end Go.Proofs.YtghjmiggobpmoaaGreatDoor.K
