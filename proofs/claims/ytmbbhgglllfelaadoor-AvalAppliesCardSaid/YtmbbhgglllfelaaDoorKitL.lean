/- The walk's own rules: iterators that make blocks of their own between the rounds. Printed by kitl.py out of KitF. -/
import Derived.Test.YtmbbhgglllfelaaDoorKitK
set_option linter.unusedVariables false
set_option linter.unusedSimpArgs false
set_option autoImplicit false
namespace Go.Proofs.YtmbbhgglllfelaaDoor.K
open Go Go.RowKit
variable {P : Program} {r : Option Nat} {n : Nat} {O : Array Oper} {Q : Post} {E : Env} {ds : List Deferred} {w : World} {l : List Oper}
/-- What a round keeps: K's blocks, and what the iterator has made since the last round. -/
def NK (K : Nat → Prop) (A0 : World) (k : Nat) : Prop := K k ∨ A0.heap.size ≤ k
def Iter2 (P : Program) (gf : FuncId) (caps : List Value) (bs : List Nat) (K : Nat → Prop) {α : Type} (encs : α → List Value) (xs : List α) (w : World) : Prop :=
  ∀ (lp : Nat) (J Jx : List α → World → Prop) (W : World), w.heap.size ≤ W.heap.size → (∀ k, k < w.heap.size → K k → W.heap[k]? = w.heap[k]?) →
    (∀ pre A B, J pre A → Chg bs A B → J pre B) → (∀ pre A B, Jx pre A → Chg bs A B → Jx pre B) →
    (∀ pre x rest A0 A, xs = pre ++ x :: rest → J pre A0 → Chg bs A0 A → RoundR P lp (encs x) A fun b B => Kept (NK K A0) A B ∧ ((b = true ∧ J (pre ++ [x]) B) ∨ (b = false ∧ Jx (pre ++ [x]) B))) →
    J [] W → CallR P gf ⟨.func (.yield lp) #[] #[] :: caps⟩ W fun _ W' => J xs W' ∨ ∃ pre, Jx pre W'
theorem range_core2 {α : Type} {f : Operand} {ps : List Nat} {assign body : Code} {gf : FuncId} {caps : Array Value} {bs : List Nat} {K : Nat → Prop} {encs : α → List Value} {xs : List α}
    (hf : ev E f = .func (.func gf) #[] caps) (hent : ∀ args (w : World), (callFunc gf args).run P w = .ok (.enter gf args) w) (hps : (ps.all fun p => Nat.blt p n) = true) (henc : ∀ x, (encs x).length = ps.length)
    (lp dd : Nat) (mark : List Deferred) (w1 : World) (hD : World → Prop) (fn : FuncId) (a : Act) (ha1 : a.tmps.size = n) (ha2 : env a = E) (ha3 : a.defers = ds)
    (he : (Instr.enterLoop fn a.tmps ps.toArray assign body r).run P w = .ok (lp, mark) w1) (hL1 : w1.heap[lp]? = some (.loop { state := .ready, pending := none, fn, tmps := a.tmps, params := ps.toArray, assign, body, defers := dd }))
    (hD1 : hD w1) (hDl : ∀ A B, hD A → Chg (lp :: bs) A B → hD B) (hDK : ∀ (A B : World) (K' : Nat → Prop), hD A → Kept (fun k => k = lp ∨ (mark ≠ [] ∧ k = dd) ∨ K' k) A B → hD B)
    (hlb : lp ∉ bs)
    (I : List α → World → Prop) (Ix : Code → List α → World → Prop) (hit : Iter2 P gf caps.toList bs K encs xs w1) (h0 : I [] w1)
    (hI : ∀ pre A B, I pre A → Chg (lp :: bs) A B → I pre B) (hIx : ∀ c pre A B, Ix c pre A → Chg (lp :: bs) A B → Ix c pre B)
    (hbody : ∀ pre x rest A0 A, xs = pre ++ x :: rest → I pre A0 → Chg bs A0 A → lp < A0.heap.size → I pre A → (∃ rec, A.heap[lp]? = some (.loop rec)) →
      wp P (some lp) n assign (thenP (fun E1 _ A1 => Kept (fun k => k = lp ∨ (mark ≠ [] ∧ k = dd) ∨ NK K A0 k) A A1 ∧ ∀ ds1 A2, Chg [lp] A1 A2 → (∃ rec, A2.heap[lp]? = some (.loop rec)) →
        wp P (some lp) n body (roundP (fun k => k = lp ∨ (mark ≠ [] ∧ k = dd) ∨ NK K A0 k) A2 (I (pre ++ [x])) (fun c B => Ix c (pre ++ [x]) B)) E1 ds1 A2) (fun _ _ _ _ => False)) (upds E (zipV ps (encs x))) [] A)
    (hKl : ¬ K lp)
    (hdone : ∀ W, I xs W → hD W → Q .normal E (mark ++ ds) W) (hstop : ∀ c pre W, Ix c pre W → hD W → wp P r n c Q E (mark ++ ds) W) :
    ∃ (l : Nat) (mark : List Deferred) (w₁ : World) (d : Deferred) (w₁' : World) (f' : FuncId) (args : Array Value) (w₂ : World),
      (Instr.enterLoop fn a.tmps ps.toArray assign body (WF r).round).run P w = .ok (l, mark) w₁ ∧
      (resolve a.eval (rangeCall f l) 0).run P w₁ = .ok d w₁' ∧
      (∀ f', Target.leads P w₁' d.target d.args = some f' → (WF r).fn f') ∧
      (invoke d.target d.args).run P w₁' = .ok (.enter f' args) w₂ ∧
      ((WF r).depth.isSome = true → 1 ≤ 0) ∧
      CallsIn (WF r) (0 - 1) P f' args w₂ (rangePost (WF r) 0 P l (toQ n Q) { a with defers := mark ++ a.defers }) := by
  let rec0 : LoopState → Option Code → Loop := fun st pe => { state := st, pending := pe, fn, tmps := a.tmps, params := ps.toArray, assign, body, defers := dd }
  have hL1 : w1.heap[lp]? = some (.loop (rec0 .ready none)) := hL1
  refine ⟨lp, mark, w1, { target := .fn (.func gf) caps, args := #[.func (.yield lp) #[] #[]] }, w1, gf, #[.func (.yield lp) #[] #[]] ++ caps, w1, by cases r <;> exact he, ?_, fun _ _ => trivial, ?_, fun hh => by simp [WF, Fence.wide] at hh, ?_⟩
  · rw [ev_env, ha2]
    simp only [resolve, hf]
    simp [Deferred.ofValue, go_sem, ev]
  · simp [invoke, go_sem, hent]
  · have hcall := hit lp (fun pre W => I pre W ∧ W.heap[lp]? = some (.loop (rec0 .ready none)) ∧ hD W) (fun pre W => ∃ c, Ix c pre W ∧ W.heap[lp]? = some (.loop (rec0 .done (some c))) ∧ hD W) w1 (Nat.le_refl _) (fun _ _ _ => rfl)
      (fun pre A B ⟨q1, q2, q3⟩ hc => ⟨hI pre A B q1 (hc.mono fun x hx => by simp [hx]), (hc.block lp (Array.getElem?_eq_some_iff.1 q2).1 hlb).trans q2, hDl A B q3 (hc.mono fun x hx => by simp [hx])⟩)
      (fun pre A B ⟨c, q1, q2, q3⟩ hc => ⟨c, hIx c pre A B q1 (hc.mono fun x hx => by simp [hx]), (hc.block lp (Array.getElem?_eq_some_iff.1 q2).1 hlb).trans q2, hDl A B q3 (hc.mono fun x hx => by simp [hx])⟩)
      (fun pre x rest A0 A hx ⟨p1, p2, p3⟩ hc0 => by
        have hlt0 : lp < A0.heap.size := (Array.getElem?_eq_some_iff.1 p2).1
        have q1 : I pre A := hI pre A0 A p1 (hc0.mono fun x hx => by simp [hx])
        have q2 := (hc0.block lp hlt0 hlb).trans p2
        have q3 : hD A := hDl _ _ p3 (hc0.mono fun x hx => by simp [hx])
        have hKl : ¬ NK K A0 lp := fun h => h.elim hKl (fun h => by omega)
        have hlt : lp < A.heap.size := (Array.getElem?_eq_some_iff.1 q2).1
        have hy := run_yield (P := P) (args := ⟨encs x⟩) q2 (by simp [rec0, henc])
        have htm : ((rec0 .ready none).params.zip ⟨encs x⟩).foldl (fun tmps (t, a) => tmps.setIfInBounds t a) (rec0 .ready none).tmps = (ps.zip (encs x)).foldl (fun t (p : Nat × Value) => t.setIfInBounds p.1 p.2) a.tmps := by
          simp only [rec0]; rw [← Array.foldl_toList]; simp [Array.toList_zip]
        refine ⟨_, _, _, _, hy, roundIn_of_wpIn trivial ?_⟩
        have hE : env { tmps := (ps.zip (encs x)).foldl (fun t (p : Nat × Value) => t.setIfInBounds p.1 p.2) a.tmps, defers := [] } = upds E (zipV ps (encs x)) := by
          rw [env_zip ps (encs x) a (by rw [ha1]; exact hps), ha2]
        have hw := hbody pre x rest A0 A hx p1 hc0 hlt0 q1 ⟨_, q2⟩ { tmps := (ps.zip (encs x)).foldl (fun t (p : Nat × Value) => t.setIfInBounds p.1 p.2) a.tmps, defers := [] } (by rw [zip_size]; exact ha1) hE rfl
        have hw' : assign.wpIn (Fence.wide.inRound lp) 0 P (toQ n (thenP (fun E1 _ A1 => Kept (fun k => k = lp ∨ (mark ≠ [] ∧ k = dd) ∨ NK K A0 k) A A1 ∧ ∀ ds1 A2, Chg [lp] A1 A2 → (∃ rec, A2.heap[lp]? = some (.loop rec)) →
            wp P (some lp) n body (roundP (fun k => k = lp ∨ (mark ≠ [] ∧ k = dd) ∨ NK K A0 k) A2 (I (pre ++ [x])) (fun c B => Ix c (pre ++ [x]) B)) E1 ds1 A2) (fun _ _ _ _ => False)))
            { tmps := (ps.zip (encs x)).foldl (fun t (p : Nat × Value) => t.setIfInBounds p.1 p.2) a.tmps, defers := [] } A := hw
        rw [htm]
        refine wpIn_mono hw' ?_
        rintro e a1 A1 ⟨s1, s2⟩
        cases e with
        | normal =>
          obtain ⟨hk, hb⟩ := s2
          have hl1 : A1.heap[lp]? = some (.loop (rec0 .ready none)) := (hk.2 lp (.inl rfl) hlt).trans q2
          have hlt1 : lp < A1.heap.size := (Array.getElem?_eq_some_iff.1 hl1).1
          refine ⟨_, run_beginRound hl1 rfl, ?_⟩
          have hl2 : (A1.putObj lp (.loop { rec0 .ready none with state := .busy })).heap[lp]? = some (.loop { rec0 .ready none with state := .busy }) := World.putObj_heap_same hlt1
          have hD2 : hD (A1.putObj lp (.loop { rec0 .ready none with state := .busy })) := hDl _ _ (hDK A A1 (NK K A0) q3 hk) ((Chg.putObj A1 lp _).mono fun x hx => by simp at hx; simp [hx])
          have hb2 := hb a1.defers _ (Chg.putObj A1 lp (.loop { rec0 .ready none with state := .busy })) ⟨_, hl2⟩ a1 s1 rfl rfl
          have hb3 : body.wpIn (Fence.wide.inRound lp) 0 P (toQ n (roundP (fun k => k = lp ∨ (mark ≠ [] ∧ k = dd) ∨ NK K A0 k) (A1.putObj lp (.loop { rec0 .ready none with state := .busy })) (I (pre ++ [x])) (fun c B => Ix c (pre ++ [x]) B))) a1 (A1.putObj lp (.loop { rec0 .ready none with state := .busy })) := hb2
          refine wpIn_mono hb3 ?_
          have fin : ∀ (jump : Option Code) (B : World), Kept (fun k => k = lp ∨ (mark ≠ [] ∧ k = dd) ∨ NK K A0 k) (A1.putObj lp (.loop { rec0 .ready none with state := .busy })) B →
              (Instr.endRound lp jump).run P B = .ok (.bool jump.isNone) (B.putObj lp (.loop (rec0 (if jump.isNone then .ready else .done) jump))) ∧
              (B.putObj lp (.loop (rec0 (if jump.isNone then .ready else .done) jump))).heap[lp]? = some (.loop (rec0 (if jump.isNone then .ready else .done) jump)) ∧
              hD (B.putObj lp (.loop (rec0 (if jump.isNone then .ready else .done) jump))) ∧ Chg [lp] B (B.putObj lp (.loop (rec0 (if jump.isNone then .ready else .done) jump))) ∧
              Kept (NK K A0) A (B.putObj lp (.loop (rec0 (if jump.isNone then .ready else .done) jump))) := fun jump B hk2 => by
            have hs2 : lp < (A1.putObj lp (.loop { rec0 .ready none with state := .busy })).heap.size := by simpa using hlt1
            have hl3 := (hk2.2 lp (.inl rfl) hs2).trans hl2
            have hr := run_endRound (P := P) jump hl3
            have hc : Chg [lp] B (B.putObj lp (.loop (rec0 (if jump.isNone then .ready else .done) jump))) := Chg.putObj _ _ _
            refine ⟨hr, World.putObj_heap_same (Array.getElem?_eq_some_iff.1 hl3).1, hDl _ _ (hDK _ B (NK K A0) hD2 hk2) (hc.mono fun x hx => by simp at hx; simp [hx]), hc, ?_, fun k hk3 hk4 => ?_⟩
            · have h1 := hk.1; have h2 := hk2.1; simp at h2 ⊢; omega
            · have hne : k ≠ lp := fun e => hKl (by rw [← e]; exact hk3)
              rw [World.putObj_heap_other hne, hk2.2 k (.inr (.inr hk3)) (by have := hk.1; simp; omega), World.putObj_heap_other hne, hk.2 k (.inr (.inr hk3)) hk4]
          have mono1 : ∀ {A B : World}, Chg [lp] A B → Chg (lp :: bs) A B := fun h => h.mono fun x hx => by simp at hx; simp [hx]
          rintro e a3 B ⟨t1, t2⟩
          cases e with
          | normal =>
            obtain ⟨hr, hl4, hD4, hc4, hk4⟩ := fin none B t2.1
            exact ⟨_, _, hr, true, rfl, hk4, .inl ⟨rfl, hI _ _ _ t2.2 (mono1 hc4), hl4, hD4⟩⟩
          | ret =>
            obtain ⟨hr, hl4, hD4, hc4, hk4⟩ := fin (some .ret) B t2.1
            exact ⟨_, _, hr, false, rfl, hk4, .inr ⟨rfl, .ret, hIx _ _ _ _ t2.2 (mono1 hc4), hl4, hD4⟩⟩
          | exit i =>
            obtain ⟨hr, hl4, hD4, hc4, hk4⟩ := fin (some (.exit i)) B t2.1
            exact ⟨_, _, hr, false, rfl, hk4, .inr ⟨rfl, .exit i, hIx _ _ _ _ t2.2 (mono1 hc4), hl4, hD4⟩⟩
          | goto t =>
            obtain ⟨hr, hl4, hD4, hc4, hk4⟩ := fin (some (.goto t)) B t2.1
            exact ⟨_, _, hr, false, rfl, hk4, .inr ⟨rfl, .goto t, hIx _ _ _ _ t2.2 (mono1 hc4), hl4, hD4⟩⟩
          | panic c => exact t2.elim
          | outgrown => exact t2.elim
        | exit i => exact s2.elim
        | goto t => exact s2.elim
        | ret => exact s2.elim
        | panic c => exact s2.elim
        | outgrown => exact s2.elim)
      ⟨h0, hL1, hD1⟩
    have hargs : (#[.func (.yield lp) #[] #[]] ++ caps : Array Value) = ⟨.func (.yield lp) #[] #[] :: caps.toList⟩ := by
      apply Array.ext'; simp
    rw [hargs]
    refine CallsIn.mono (callsIn_of_calls hcall) ?_
    have mono1 : ∀ {A B : World}, Chg [lp] A B → Chg (lp :: bs) A B := fun h => h.mono fun x hx => by simp at hx; simp [hx]
    rintro e W2 ⟨v, rfl, (⟨q1, q2, q3⟩ | ⟨pre, c, q1, q2, q3⟩)⟩
    · refine ⟨none, _, run_endLoop q2 (by simp [rec0]), ?_⟩
      have hc := Chg.putObj W2 lp (.loop { rec0 .ready none with state := .exhausted })
      refine ⟨ha1, ?_⟩
      have := hdone _ (hI _ _ _ q1 (mono1 hc)) (hDl _ _ q3 (mono1 hc))
      rw [← ha2, ← ha3] at this
      exact this
    · refine ⟨some c, _, run_endLoop q2 (by simp [rec0]), ?_⟩
      have hc := Chg.putObj W2 lp (.loop { rec0 .done (some c) with state := .exhausted })
      exact hstop c pre _ (hIx _ _ _ _ q1 (mono1 hc)) (hDl _ _ q3 (mono1 hc)) _ ha1 ha2 (by rw [ha3])
theorem x_range2 {α : Type} {f : Operand} {ps : List Nat} {assign body : Code} {gf : FuncId} {caps : Array Value} {bs : List Nat} {K : Nat → Prop} {encs : α → List Value} {xs : List α}
    (hf : ev E f = .func (.func gf) #[] caps) (hent : ∀ args (w : World), (callFunc gf args).run P w = .ok (.enter gf args) w) (hps : (ps.all fun p => Nat.blt p n) = true) (henc : ∀ x, (encs x).length = ps.length) (hbs : ∀ b, b ∈ bs → b < w.heap.size) (hK : ∀ k, K k → k < w.heap.size)
    (hit : Iter2 P gf caps.toList bs K encs xs w)
    (h : ∀ (D lp : Nat) (w1 : World), w.heap.size ≤ D → w.heap.size ≤ lp → D ≠ lp → D < w1.heap.size → lp < w1.heap.size → Chg [] w w1 → ∃ (I : List α → World → Prop) (Ix : Code → List α → World → Prop), I [] w1 ∧
      (∀ pre A B, I pre A → Chg (lp :: bs) A B → I pre B) ∧ (∀ c pre A B, Ix c pre A → Chg (lp :: bs) A B → Ix c pre B) ∧
      (∀ pre x rest A0 A, xs = pre ++ x :: rest → I pre A0 → Chg bs A0 A → lp < A0.heap.size → I pre A → (∃ rec, A.heap[lp]? = some (.loop rec)) →
        wp P (some lp) n assign (thenP (fun E1 _ A1 => Kept (fun k => k = lp ∨ k = D ∨ NK K A0 k) A A1 ∧ ∀ ds1 A2, Chg [lp] A1 A2 → (∃ rec, A2.heap[lp]? = some (.loop rec)) →
          wp P (some lp) n body (roundP (fun k => k = lp ∨ k = D ∨ NK K A0 k) A2 (I (pre ++ [x])) (fun c B => Ix c (pre ++ [x]) B)) E1 ds1 A2) (fun _ _ _ _ => False)) (upds E (zipV ps (encs x))) [] A) ∧
      (∀ W, I xs W → DefD D W → Q .normal E (mk D :: ds) W) ∧ (∀ c pre W, Ix c pre W → DefD D W → wp P none n c Q E (mk D :: ds) W)) :
    wp P none n (.rangeFunc f ps.toArray assign body) Q E ds w := by
  intro a ha1 ha2 ha3
  refine wpIn_rangeFunc ?_
  intro fn hfn
  obtain ⟨W1, hW1⟩ : ∃ W1, (w.alloc (.deferred (some []))).alloc (.loop { state := .ready, pending := none, fn, tmps := a.tmps, params := ps.toArray, assign, body, defers := w.heap.size }) = W1 := ⟨_, rfl⟩
  have hc1 : Chg [] w W1 := by rw [← hW1]; exact (Chg.alloc w _).then (Chg.alloc _ _)
  have hL1 : W1.heap[w.heap.size + 1]? = some (.loop { state := .ready, pending := none, fn, tmps := a.tmps, params := ps.toArray, assign, body, defers := w.heap.size }) := by
    rw [← hW1]; have := World.alloc_heap_new (w.alloc (.deferred (some []))) (.loop { state := .ready, pending := none, fn, tmps := a.tmps, params := ps.toArray, assign, body, defers := w.heap.size }); rwa [World.size_alloc] at this
  have hD1 : DefD w.heap.size W1 := by
    rw [← hW1]; exact (Below.heap_alloc _ _ _ (by simp)).trans (World.alloc_heap_new w _)
  obtain ⟨I, Ix, h0, hI, hIx, hb, hd, hs⟩ := h w.heap.size (w.heap.size + 1) W1 (Nat.le_refl _) (Nat.le_succ _) (by omega) (Array.getElem?_eq_some_iff.1 hD1).1 (Array.getElem?_eq_some_iff.1 hL1).1 hc1
  have hDn : w.heap.size ∉ (w.heap.size + 1) :: bs := fun hx => by
    rcases List.mem_cons.1 hx with h | h
    · omega
    · have := hbs _ h; omega
  refine range_core2 (r := none) hf hent hps henc (w.heap.size + 1) w.heap.size [mk w.heap.size] W1 (DefD w.heap.size) fn a ha1 ha2 ha3 ?_ hL1 hD1
    (fun A B hA hc => (hc.block _ (Array.getElem?_eq_some_iff.1 hA).1 hDn).trans hA) (fun A B K' hA hk => (hk.2 _ (.inr (.inl ⟨by simp, rfl⟩)) (Array.getElem?_eq_some_iff.1 hA).1).trans hA)
    (fun hx => by have := hbs _ hx; omega) I Ix ?_ h0 hI hIx ?_ (fun hx => by have := hK _ hx; omega) hd hs
  · rw [← hW1]; exact run_enterLoop_outer _ _ _ _ _
  · intro lp J Jx W hs' hk' h1 h2 h3 h4
    exact hit lp J Jx W (Nat.le_trans hc1.size hs') (fun k hk hK' => (hk' k (Nat.lt_of_lt_of_le hk hc1.size) hK').trans (hc1.block k hk (by simp))) h1 h2 h3 h4
  · intro pre x rest A0 A hx hi0 hc0 hl0 hi hr
    refine x_mono (hb pre x rest A0 A hx hi0 hc0 hl0 hi hr) ?_
    have hkk : ∀ {A B : World}, Kept (fun k => k = w.heap.size + 1 ∨ k = w.heap.size ∨ NK K A0 k) A B → Kept (fun k => k = w.heap.size + 1 ∨ ([mk w.heap.size] ≠ [] ∧ k = w.heap.size) ∨ NK K A0 k) A B := fun h => ⟨h.1, fun k hk hl => h.2 k (hk.elim .inl (fun h => h.elim (fun h => .inr (.inl h.2)) (fun h => .inr (.inr h)))) hl⟩
    intro e E1 ds1 A1 hq
    cases e with
    | normal =>
      obtain ⟨k1, k2⟩ := hq
      refine ⟨hkk k1, fun ds2 A2 hc hr2 => x_mono (k2 ds2 A2 hc hr2) ?_⟩
      intro e E3 ds3 A3 hq3
      cases e with
      | normal => exact ⟨hkk hq3.1, hq3.2⟩
      | ret => exact ⟨hkk hq3.1, hq3.2⟩
      | exit i => exact ⟨hkk hq3.1, hq3.2⟩
      | goto i => exact ⟨hkk hq3.1, hq3.2⟩
      | panic c => exact hq3
      | outgrown => exact hq3
    | _ => exact hq
/-- At a loop within a round. -/
theorem x_range_in2 {α : Type} {l0 : Nat} {f : Operand} {ps : List Nat} {assign body : Code} {gf : FuncId} {caps : Array Value} {bs : List Nat} {K : Nat → Prop} {encs : α → List Value} {xs : List α}
    (hf : ev E f = .func (.func gf) #[] caps) (hent : ∀ args (w : World), (callFunc gf args).run P w = .ok (.enter gf args) w) (hps : (ps.all fun p => Nat.blt p n) = true) (henc : ∀ x, (encs x).length = ps.length) (hbs : ∀ b, b ∈ bs → b < w.heap.size) (hK : ∀ k, K k → k < w.heap.size)
    (hit : Iter2 P gf caps.toList bs K encs xs w) (hl0 : ∃ rec, w.heap[l0]? = some (.loop rec))
    (h : ∀ (lp : Nat) (w1 : World), w.heap.size ≤ lp → lp < w1.heap.size → Chg [] w w1 → ∃ (I : List α → World → Prop) (Ix : Code → List α → World → Prop), I [] w1 ∧
      (∀ pre A B, I pre A → Chg (lp :: bs) A B → I pre B) ∧ (∀ c pre A B, Ix c pre A → Chg (lp :: bs) A B → Ix c pre B) ∧
      (∀ pre x rest A0 A, xs = pre ++ x :: rest → I pre A0 → Chg bs A0 A → lp < A0.heap.size → I pre A → (∃ rec, A.heap[lp]? = some (.loop rec)) →
        wp P (some lp) n assign (thenP (fun E1 _ A1 => Kept (fun k => k = lp ∨ NK K A0 k) A A1 ∧ ∀ ds1 A2, Chg [lp] A1 A2 → (∃ rec, A2.heap[lp]? = some (.loop rec)) →
          wp P (some lp) n body (roundP (fun k => k = lp ∨ NK K A0 k) A2 (I (pre ++ [x])) (fun c B => Ix c (pre ++ [x]) B)) E1 ds1 A2) (fun _ _ _ _ => False)) (upds E (zipV ps (encs x))) [] A) ∧
      (∀ W, I xs W → Q .normal E ds W) ∧ (∀ c pre W, Ix c pre W → wp P (some l0) n c Q E ds W)) :
    wp P (some l0) n (.rangeFunc f ps.toArray assign body) Q E ds w := by
  intro a ha1 ha2 ha3
  refine wpIn_rangeFunc ?_
  intro fn hfn
  obtain ⟨r0, hr0⟩ := hl0
  obtain ⟨W1, hW1⟩ : ∃ W1, w.alloc (.loop { state := .ready, pending := none, fn, tmps := a.tmps, params := ps.toArray, assign, body, defers := r0.defers }) = W1 := ⟨_, rfl⟩
  have hc1 : Chg [] w W1 := by rw [← hW1]; exact Chg.alloc w _
  have hL1 : W1.heap[w.heap.size]? = some (.loop { state := .ready, pending := none, fn, tmps := a.tmps, params := ps.toArray, assign, body, defers := r0.defers }) := by
    rw [← hW1]; exact World.alloc_heap_new w _
  obtain ⟨I, Ix, h0, hI, hIx, hb, hd, hs⟩ := h w.heap.size W1 (Nat.le_refl _) (Array.getElem?_eq_some_iff.1 hL1).1 hc1
  refine range_core2 (r := some l0) hf hent hps henc w.heap.size r0.defers [] W1 (fun _ => True) fn a ha1 ha2 ha3 ?_ hL1 trivial (fun A B hA hc => trivial) (fun A B K' hA hk => trivial)
    (fun hx => by have := hbs _ hx; omega) I Ix ?_ h0 hI hIx ?_ (fun hx => by have := hK _ hx; omega) (fun W h1 _ => hd W h1) (fun c pre W h1 _ => hs c pre W h1)
  · rw [← hW1]; exact run_enterLoop_inner hr0 _ _ _ _ _
  · intro lp J Jx W hs' hk' h1 h2 h3 h4
    exact hit lp J Jx W (Nat.le_trans hc1.size hs') (fun k hk hK' => (hk' k (Nat.lt_of_lt_of_le hk hc1.size) hK').trans (hc1.block k hk (by simp))) h1 h2 h3 h4
  · intro pre x rest A0 A hx hi0 hc0 hl0 hi hr
    refine x_mono (hb pre x rest A0 A hx hi0 hc0 hl0 hi hr) ?_
    have hkk : ∀ {A B : World}, Kept (fun k => k = w.heap.size ∨ NK K A0 k) A B → Kept (fun k => k = w.heap.size ∨ (([] : List Deferred) ≠ [] ∧ k = r0.defers) ∨ NK K A0 k) A B := fun h => ⟨h.1, fun k hk hl => h.2 k (hk.elim .inl (fun h => h.elim (fun h => absurd rfl h.1) .inr)) hl⟩
    intro e E1 ds1 A1 hq
    cases e with
    | normal =>
      obtain ⟨k1, k2⟩ := hq
      refine ⟨hkk k1, fun ds2 A2 hc hr2 => x_mono (k2 ds2 A2 hc hr2) ?_⟩
      intro e E3 ds3 A3 hq3
      cases e with
      | normal => exact ⟨hkk hq3.1, hq3.2⟩
      | ret => exact ⟨hkk hq3.1, hq3.2⟩
      | exit i => exact ⟨hkk hq3.1, hq3.2⟩
      | goto i => exact ⟨hkk hq3.1, hq3.2⟩
      | panic c => exact hq3
      | outgrown => exact hq3
    | _ => exact hq

end Go.Proofs.YtmbbhgglllfelaaDoor.K
