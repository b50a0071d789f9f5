import Derived.Test.YtiiahnpgomdfmaaDoorKitM
import Derived.Test.YtiiahnpgomdfmaaDoorPe
import Derived.Test.YtiiahnpgomdfmaaDoorKitS
import Derived.Lib.AppendZerosOnto
import Derived.Lib.Overlaps
set_option linter.unusedVariables false
set_option linter.unusedSimpArgs false
set_option autoImplicit false
namespace Go.Proofs.YtiiahnpgomdfmaaDoor.K
open Go Go.RowKit
variable {P : Program} {r : Option Nat} {n : Nat} {O : Array Oper} {Q : Post} {E : Env} {ds : List Deferred} {w : World} {l : List Oper}
/-- As Iter; M: blocks of the iterator's own, made since the loop's beginning, that a round must keep, too. -/
def Iter3 (P : Program) (gf : FuncId) (caps : List Value) (bs : List Nat) (K : Nat → Prop) {α : Type} (encs : α → List Value) (xs : List α) (w : World) : Prop :=
  ∀ (lp : Nat) (J : (Nat → Prop) → List α → World → Prop) (Jx : List α → World → Prop) (W : World), w.heap.size ≤ W.heap.size → (∀ k, k < w.heap.size → K k → W.heap[k]? = w.heap[k]?) →
    (∀ M M' pre A B, J M pre A → Chg bs A B → (∀ k, M' k → M k ∨ (A.heap.size ≤ k ∧ k < B.heap.size)) → J M' pre B) → (∀ pre A B, Jx pre A → Chg bs A B → Jx pre B) →
    (∀ M pre x rest A, xs = pre ++ x :: rest → J M pre A → RoundR P lp (encs x) A fun b B => Kept (fun k => K k ∨ M k) A B ∧ ((b = true ∧ J M (pre ++ [x]) B) ∨ (b = false ∧ Jx (pre ++ [x]) B))) →
    J (fun _ => False) [] W → CallR P gf ⟨.func (.yield lp) #[] #[] :: caps⟩ W fun _ W' => (∃ M, J M xs W') ∨ ∃ pre, Jx pre W'
theorem range_core3 {α : Type} {f : Operand} {ps : List Nat} {assign body : Code} {gf : FuncId} {caps : Array Value} {bs : List Nat} {K : Nat → Prop} {encs : α → List Value} {xs : List α}
    (hf : ev E f = .func (.func gf) #[] caps) (hent : ∀ args (w : World), (callFunc gf args).run P w = .ok (.enter gf args) w) (hps : (ps.all fun p => Nat.blt p n) = true) (henc : ∀ x, (encs x).length = ps.length)
    (lp dd : Nat) (mark : List Deferred) (w1 : World) (hD : World → Prop) (fn : FuncId) (a : Act) (ha1 : a.tmps.size = n) (ha2 : env a = E) (ha3 : a.defers = ds)
    (he : (Instr.enterLoop fn a.tmps ps.toArray assign body r).run P w = .ok (lp, mark) w1) (hL1 : w1.heap[lp]? = some (.loop { state := .ready, pending := none, fn, tmps := a.tmps, params := ps.toArray, assign, body, defers := dd }))
    (hD1 : hD w1) (hDl : ∀ A B, hD A → Chg (lp :: bs) A B → hD B) (hDK : ∀ (A B : World) (K' : Nat → Prop), hD A → Kept (fun k => k = lp ∨ (mark ≠ [] ∧ k = dd) ∨ K' k) A B → hD B)
    (hlb : lp ∉ bs)
    (I : (Nat → Prop) → List α → World → Prop) (Ix : Code → List α → World → Prop) (hit : Iter3 P gf caps.toList bs K encs xs w1) (h0 : I (fun _ => False) [] w1)
    (hI : ∀ M M' pre A B, I M pre A → Chg (lp :: bs) A B → (∀ k, M' k → M k ∨ (A.heap.size ≤ k ∧ k < B.heap.size)) → I M' pre B) (hMl : ∀ M pre A, I M pre A → ¬ M lp) (hIx : ∀ c pre A B, Ix c pre A → Chg (lp :: bs) A B → Ix c pre B)
    (hbody : ∀ M pre x rest A, xs = pre ++ x :: rest → I M pre A → (∃ rec, A.heap[lp]? = some (.loop rec)) →
      wp P (some lp) n assign (thenP (fun E1 _ A1 => Kept (fun k => k = lp ∨ (mark ≠ [] ∧ k = dd) ∨ (K k ∨ M k)) A A1 ∧ ∀ ds1 A2, Chg [lp] A1 A2 → (∃ rec, A2.heap[lp]? = some (.loop rec)) →
        wp P (some lp) n body (roundP (fun k => k = lp ∨ (mark ≠ [] ∧ k = dd) ∨ (K k ∨ M k)) A2 (I M (pre ++ [x])) (fun c B => Ix c (pre ++ [x]) B)) E1 ds1 A2) (fun _ _ _ _ => False)) (upds E (zipV ps (encs x))) [] A)
    (hKl : ¬ K lp)
    (hdone : ∀ M W, I M xs W → hD W → Q .normal E (mark ++ ds) W) (hstop : ∀ c pre W, Ix c pre W → hD W → wp P r n c Q E (mark ++ ds) W) :
    ∃ (l : Nat) (mark : List Deferred) (w₁ : World) (d : Deferred) (w₁' : World) (f' : FuncId) (args : Array Value) (w₂ : World),
      (Instr.enterLoop fn a.tmps ps.toArray assign body (WF r).round).run P w = .ok (l, mark) w₁ ∧
      (resolve a.eval (rangeCall f l) 0).run P w₁ = .ok d w₁' ∧
      (∀ f', Target.leads P w₁' d.target d.args = some f' → (WF r).fn f') ∧
      (invoke d.target d.args).run P w₁' = .ok (.enter f' args) w₂ ∧
      ((WF r).depth.isSome = true → 1 ≤ 0) ∧
      CallsIn (WF r) (0 - 1) P f' args w₂ (rangePost (WF r) 0 P l (toQ n Q) { a with defers := mark ++ a.defers }) := by
  let rec0 : LoopState → Option Code → Loop := fun st pe => { state := st, pending := pe, fn, tmps := a.tmps, params := ps.toArray, assign, body, defers := dd }
  have hL1 : w1.heap[lp]? = some (.loop (rec0 .ready none)) := hL1
  refine ⟨lp, mark, w1, { target := .fn (.func gf) caps, args := #[.func (.yield lp) #[] #[]] }, w1, gf, #[.func (.yield lp) #[] #[]] ++ caps, w1, by cases r <;> exact he, ?_, fun _ _ => trivial, ?_, fun hh => by simp [WF, Fence.wide] at hh, ?_⟩
  · rw [ev_env, ha2]
    simp only [resolve, hf]
    simp [Deferred.ofValue, go_sem, ev]
  · simp [invoke, go_sem, hent]
  · have hcall := hit lp (fun M pre W => I M pre W ∧ W.heap[lp]? = some (.loop (rec0 .ready none)) ∧ hD W) (fun pre W => ∃ c, Ix c pre W ∧ W.heap[lp]? = some (.loop (rec0 .done (some c))) ∧ hD W) w1 (Nat.le_refl _) (fun _ _ _ => rfl)
      (fun M M' pre A B ⟨q1, q2, q3⟩ hc hm => ⟨hI M M' pre A B q1 (hc.mono fun x hx => by simp [hx]) hm, (hc.block lp (Array.getElem?_eq_some_iff.1 q2).1 hlb).trans q2, hDl A B q3 (hc.mono fun x hx => by simp [hx])⟩)
      (fun pre A B ⟨c, q1, q2, q3⟩ hc => ⟨c, hIx c pre A B q1 (hc.mono fun x hx => by simp [hx]), (hc.block lp (Array.getElem?_eq_some_iff.1 q2).1 hlb).trans q2, hDl A B q3 (hc.mono fun x hx => by simp [hx])⟩)
      (fun M pre x rest A hx ⟨q1, q2, q3⟩ => by
        have hKl : ¬ (K lp ∨ M lp) := fun h => h.elim hKl (hMl M pre A q1)
        have hlt : lp < A.heap.size := (Array.getElem?_eq_some_iff.1 q2).1
        have hy := run_yield (P := P) (args := ⟨encs x⟩) q2 (by simp [rec0, henc])
        have htm : ((rec0 .ready none).params.zip ⟨encs x⟩).foldl (fun tmps (t, a) => tmps.setIfInBounds t a) (rec0 .ready none).tmps = (ps.zip (encs x)).foldl (fun t (p : Nat × Value) => t.setIfInBounds p.1 p.2) a.tmps := by
          simp only [rec0]; rw [← Array.foldl_toList]; simp [Array.toList_zip]
        refine ⟨_, _, _, _, hy, roundIn_of_wpIn trivial ?_⟩
        have hE : env { tmps := (ps.zip (encs x)).foldl (fun t (p : Nat × Value) => t.setIfInBounds p.1 p.2) a.tmps, defers := [] } = upds E (zipV ps (encs x)) := by
          rw [env_zip ps (encs x) a (by rw [ha1]; exact hps), ha2]
        have hw := hbody M pre x rest A hx q1 ⟨_, q2⟩ { tmps := (ps.zip (encs x)).foldl (fun t (p : Nat × Value) => t.setIfInBounds p.1 p.2) a.tmps, defers := [] } (by rw [zip_size]; exact ha1) hE rfl
        have hw' : assign.wpIn (Fence.wide.inRound lp) 0 P (toQ n (thenP (fun E1 _ A1 => Kept (fun k => k = lp ∨ (mark ≠ [] ∧ k = dd) ∨ (K k ∨ M k)) A A1 ∧ ∀ ds1 A2, Chg [lp] A1 A2 → (∃ rec, A2.heap[lp]? = some (.loop rec)) →
            wp P (some lp) n body (roundP (fun k => k = lp ∨ (mark ≠ [] ∧ k = dd) ∨ (K k ∨ M k)) A2 (I M (pre ++ [x])) (fun c B => Ix c (pre ++ [x]) B)) E1 ds1 A2) (fun _ _ _ _ => False)))
            { tmps := (ps.zip (encs x)).foldl (fun t (p : Nat × Value) => t.setIfInBounds p.1 p.2) a.tmps, defers := [] } A := hw
        rw [htm]
        refine wpIn_mono hw' ?_
        rintro e a1 A1 ⟨s1, s2⟩
        cases e with
        | normal =>
          obtain ⟨hk, hb⟩ := s2
          have hl1 : A1.heap[lp]? = some (.loop (rec0 .ready none)) := (hk.2 lp (.inl rfl) hlt).trans q2
          have hlt1 : lp < A1.heap.size := (Array.getElem?_eq_some_iff.1 hl1).1
          refine ⟨_, run_beginRound hl1 rfl, ?_⟩
          have hl2 : (A1.putObj lp (.loop { rec0 .ready none with state := .busy })).heap[lp]? = some (.loop { rec0 .ready none with state := .busy }) := World.putObj_heap_same hlt1
          have hD2 : hD (A1.putObj lp (.loop { rec0 .ready none with state := .busy })) := hDl _ _ (hDK A A1 (fun k => K k ∨ M k) q3 hk) ((Chg.putObj A1 lp _).mono fun x hx => by simp at hx; simp [hx])
          have hb2 := hb a1.defers _ (Chg.putObj A1 lp (.loop { rec0 .ready none with state := .busy })) ⟨_, hl2⟩ a1 s1 rfl rfl
          have hb3 : body.wpIn (Fence.wide.inRound lp) 0 P (toQ n (roundP (fun k => k = lp ∨ (mark ≠ [] ∧ k = dd) ∨ (K k ∨ M k)) (A1.putObj lp (.loop { rec0 .ready none with state := .busy })) (I M (pre ++ [x])) (fun c B => Ix c (pre ++ [x]) B))) a1 (A1.putObj lp (.loop { rec0 .ready none with state := .busy })) := hb2
          refine wpIn_mono hb3 ?_
          have fin : ∀ (jump : Option Code) (B : World), Kept (fun k => k = lp ∨ (mark ≠ [] ∧ k = dd) ∨ (K k ∨ M k)) (A1.putObj lp (.loop { rec0 .ready none with state := .busy })) B →
              (Instr.endRound lp jump).run P B = .ok (.bool jump.isNone) (B.putObj lp (.loop (rec0 (if jump.isNone then .ready else .done) jump))) ∧
              (B.putObj lp (.loop (rec0 (if jump.isNone then .ready else .done) jump))).heap[lp]? = some (.loop (rec0 (if jump.isNone then .ready else .done) jump)) ∧
              hD (B.putObj lp (.loop (rec0 (if jump.isNone then .ready else .done) jump))) ∧ Chg [lp] B (B.putObj lp (.loop (rec0 (if jump.isNone then .ready else .done) jump))) ∧
              Kept (fun k => K k ∨ M k) A (B.putObj lp (.loop (rec0 (if jump.isNone then .ready else .done) jump))) := fun jump B hk2 => by
            have hs2 : lp < (A1.putObj lp (.loop { rec0 .ready none with state := .busy })).heap.size := by simpa using hlt1
            have hl3 := (hk2.2 lp (.inl rfl) hs2).trans hl2
            have hr := run_endRound (P := P) jump hl3
            have hc : Chg [lp] B (B.putObj lp (.loop (rec0 (if jump.isNone then .ready else .done) jump))) := Chg.putObj _ _ _
            refine ⟨hr, World.putObj_heap_same (Array.getElem?_eq_some_iff.1 hl3).1, hDl _ _ (hDK _ B (fun k => K k ∨ M k) hD2 hk2) (hc.mono fun x hx => by simp at hx; simp [hx]), hc, ?_, fun k hk3 hk4 => ?_⟩
            · have h1 := hk.1; have h2 := hk2.1; simp at h2 ⊢; omega
            · have hne : k ≠ lp := fun e => hKl (by rw [← e]; exact hk3)
              rw [World.putObj_heap_other hne, hk2.2 k (.inr (.inr hk3)) (by have := hk.1; simp; omega), World.putObj_heap_other hne, hk.2 k (.inr (.inr hk3)) hk4]
          have mono1 : ∀ {A B : World}, Chg [lp] A B → Chg (lp :: bs) A B := fun h => h.mono fun x hx => by simp at hx; simp [hx]
          rintro e a3 B ⟨t1, t2⟩
          cases e with
          | normal =>
            obtain ⟨hr, hl4, hD4, hc4, hk4⟩ := fin none B t2.1
            exact ⟨_, _, hr, true, rfl, hk4, .inl ⟨rfl, hI M M _ _ _ t2.2 (mono1 hc4) (fun k h => .inl h), hl4, hD4⟩⟩
          | ret =>
            obtain ⟨hr, hl4, hD4, hc4, hk4⟩ := fin (some .ret) B t2.1
            exact ⟨_, _, hr, false, rfl, hk4, .inr ⟨rfl, .ret, hIx _ _ _ _ t2.2 (mono1 hc4), hl4, hD4⟩⟩
          | exit i =>
            obtain ⟨hr, hl4, hD4, hc4, hk4⟩ := fin (some (.exit i)) B t2.1
            exact ⟨_, _, hr, false, rfl, hk4, .inr ⟨rfl, .exit i, hIx _ _ _ _ t2.2 (mono1 hc4), hl4, hD4⟩⟩
          | goto t =>
            obtain ⟨hr, hl4, hD4, hc4, hk4⟩ := fin (some (.goto t)) B t2.1
            exact ⟨_, _, hr, false, rfl, hk4, .inr ⟨rfl, .goto t, hIx _ _ _ _ t2.2 (mono1 hc4), hl4, hD4⟩⟩
          | panic c => exact t2.elim
          | outgrown => exact t2.elim
        | exit i => exact s2.elim
        | goto t => exact s2.elim
        | ret => exact s2.elim
        | panic c => exact s2.elim
        | outgrown => exact s2.elim)
      ⟨h0, hL1, hD1⟩
    have hargs : (#[.func (.yield lp) #[] #[]] ++ caps : Array Value) = ⟨.func (.yield lp) #[] #[] :: caps.toList⟩ := by
      apply Array.ext'; simp
    rw [hargs]
    refine CallsIn.mono (callsIn_of_calls hcall) ?_
    have mono1 : ∀ {A B : World}, Chg [lp] A B → Chg (lp :: bs) A B := fun h => h.mono fun x hx => by simp at hx; simp [hx]
    rintro e W2 ⟨v, rfl, (⟨M, q1, q2, q3⟩ | ⟨pre, c, q1, q2, q3⟩)⟩
    · refine ⟨none, _, run_endLoop q2 (by simp [rec0]), ?_⟩
      have hc := Chg.putObj W2 lp (.loop { rec0 .ready none with state := .exhausted })
      refine ⟨ha1, ?_⟩
      have := hdone M _ (hI M M _ _ _ q1 (mono1 hc) (fun k h => .inl h)) (hDl _ _ q3 (mono1 hc))
      rw [← ha2, ← ha3] at this
      exact this
    · refine ⟨some c, _, run_endLoop q2 (by simp [rec0]), ?_⟩
      have hc := Chg.putObj W2 lp (.loop { rec0 .done (some c) with state := .exhausted })
      exact hstop c pre _ (hIx _ _ _ _ q1 (mono1 hc)) (hDl _ _ q3 (mono1 hc)) _ ha1 ha2 (by rw [ha3])
theorem x_range3 {α : Type} {f : Operand} {ps : List Nat} {assign body : Code} {gf : FuncId} {caps : Array Value} {bs : List Nat} {K : Nat → Prop} {encs : α → List Value} {xs : List α}
    (hf : ev E f = .func (.func gf) #[] caps) (hent : ∀ args (w : World), (callFunc gf args).run P w = .ok (.enter gf args) w) (hps : (ps.all fun p => Nat.blt p n) = true) (henc : ∀ x, (encs x).length = ps.length) (hbs : ∀ b, b ∈ bs → b < w.heap.size) (hK : ∀ k, K k → k < w.heap.size)
    (hit : Iter3 P gf caps.toList bs K encs xs w)
    (h : ∀ (D lp : Nat) (w1 : World), w.heap.size ≤ D → w.heap.size ≤ lp → D ≠ lp → D < w1.heap.size → lp < w1.heap.size → Chg [] w w1 → ∃ (I : (Nat → Prop) → List α → World → Prop) (Ix : Code → List α → World → Prop), I (fun _ => False) [] w1 ∧
      (∀ M M' pre A B, I M pre A → Chg (lp :: bs) A B → (∀ k, M' k → M k ∨ (A.heap.size ≤ k ∧ k < B.heap.size)) → I M' pre B) ∧ (∀ M pre A, I M pre A → ¬ M lp) ∧ (∀ c pre A B, Ix c pre A → Chg (lp :: bs) A B → Ix c pre B) ∧
      (∀ M pre x rest A, xs = pre ++ x :: rest → I M pre A → (∃ rec, A.heap[lp]? = some (.loop rec)) →
        wp P (some lp) n assign (thenP (fun E1 _ A1 => Kept (fun k => k = lp ∨ k = D ∨ (K k ∨ M k)) A A1 ∧ ∀ ds1 A2, Chg [lp] A1 A2 → (∃ rec, A2.heap[lp]? = some (.loop rec)) →
          wp P (some lp) n body (roundP (fun k => k = lp ∨ k = D ∨ (K k ∨ M k)) A2 (I M (pre ++ [x])) (fun c B => Ix c (pre ++ [x]) B)) E1 ds1 A2) (fun _ _ _ _ => False)) (upds E (zipV ps (encs x))) [] A) ∧
      (∀ M W, I M xs W → DefD D W → Q .normal E (mk D :: ds) W) ∧ (∀ c pre W, Ix c pre W → DefD D W → wp P none n c Q E (mk D :: ds) W)) :
    wp P none n (.rangeFunc f ps.toArray assign body) Q E ds w := by
  intro a ha1 ha2 ha3
  refine wpIn_rangeFunc ?_
  intro fn hfn
  obtain ⟨W1, hW1⟩ : ∃ W1, (w.alloc (.deferred (some []))).alloc (.loop { state := .ready, pending := none, fn, tmps := a.tmps, params := ps.toArray, assign, body, defers := w.heap.size }) = W1 := ⟨_, rfl⟩
  have hc1 : Chg [] w W1 := by rw [← hW1]; exact (Chg.alloc w _).then (Chg.alloc _ _)
  have hL1 : W1.heap[w.heap.size + 1]? = some (.loop { state := .ready, pending := none, fn, tmps := a.tmps, params := ps.toArray, assign, body, defers := w.heap.size }) := by
    rw [← hW1]; have := World.alloc_heap_new (w.alloc (.deferred (some []))) (.loop { state := .ready, pending := none, fn, tmps := a.tmps, params := ps.toArray, assign, body, defers := w.heap.size }); rwa [World.size_alloc] at this
  have hD1 : DefD w.heap.size W1 := by
    rw [← hW1]; exact (Below.heap_alloc _ _ _ (by simp)).trans (World.alloc_heap_new w _)
  obtain ⟨I, Ix, h0, hI, hMl, hIx, hb, hd, hs⟩ := h w.heap.size (w.heap.size + 1) W1 (Nat.le_refl _) (Nat.le_succ _) (by omega) (Array.getElem?_eq_some_iff.1 hD1).1 (Array.getElem?_eq_some_iff.1 hL1).1 hc1
  have hDn : w.heap.size ∉ (w.heap.size + 1) :: bs := fun hx => by
    rcases List.mem_cons.1 hx with h | h
    · omega
    · have := hbs _ h; omega
  refine range_core3 (r := none) hf hent hps henc (w.heap.size + 1) w.heap.size [mk w.heap.size] W1 (DefD w.heap.size) fn a ha1 ha2 ha3 ?_ hL1 hD1
    (fun A B hA hc => (hc.block _ (Array.getElem?_eq_some_iff.1 hA).1 hDn).trans hA) (fun A B K' hA hk => (hk.2 _ (.inr (.inl ⟨by simp, rfl⟩)) (Array.getElem?_eq_some_iff.1 hA).1).trans hA)
    (fun hx => by have := hbs _ hx; omega) I Ix ?_ h0 hI hMl hIx ?_ (fun hx => by have := hK _ hx; omega) hd hs
  · rw [← hW1]; exact run_enterLoop_outer _ _ _ _ _
  · intro lp J Jx W hs' hk' h1 h2 h3 h4
    exact hit lp J Jx W (Nat.le_trans hc1.size hs') (fun k hk hK' => (hk' k (Nat.lt_of_lt_of_le hk hc1.size) hK').trans (hc1.block k hk (by simp))) h1 h2 h3 h4
  · intro M pre x rest A hx hi hr
    refine x_mono (hb M pre x rest A hx hi hr) ?_
    have hkk : ∀ {A B : World}, Kept (fun k => k = w.heap.size + 1 ∨ k = w.heap.size ∨ (K k ∨ M k)) A B → Kept (fun k => k = w.heap.size + 1 ∨ ([mk w.heap.size] ≠ [] ∧ k = w.heap.size) ∨ (K k ∨ M k)) A B := fun h => ⟨h.1, fun k hk hl => h.2 k (hk.elim .inl (fun h => h.elim (fun h => .inr (.inl h.2)) (fun h => .inr (.inr h)))) hl⟩
    intro e E1 ds1 A1 hq
    cases e with
    | normal =>
      obtain ⟨k1, k2⟩ := hq
      refine ⟨hkk k1, fun ds2 A2 hc hr2 => x_mono (k2 ds2 A2 hc hr2) ?_⟩
      intro e E3 ds3 A3 hq3
      cases e with
      | normal => exact ⟨hkk hq3.1, hq3.2⟩
      | ret => exact ⟨hkk hq3.1, hq3.2⟩
      | exit i => exact ⟨hkk hq3.1, hq3.2⟩
      | goto i => exact ⟨hkk hq3.1, hq3.2⟩
      | panic c => exact hq3
      | outgrown => exact hq3
    | _ => exact hq
end Go.Proofs.YtiiahnpgomdfmaaDoor.K
set_option linter.unusedVariables false
set_option linter.unusedSimpArgs false
set_option autoImplicit false
set_option maxRecDepth 20000
namespace Go.Proofs.YtiiahnpgomdfmaaDoor.K
open Go Go.Proofs Go.RowKit

theorem Tab.kept {K : Nat → Prop} {A B : World} (h : Tab A) (hk : Kept K A B) (h1 : K 1) : Tab B := by
  have he := hk.2 1 h1 h.lt
  unfold Tab Lib.TabIs at h ⊢
  unfold World.var? at h ⊢
  rw [gTab] at h ⊢
  simp only [Option.bind_some] at h ⊢
  rw [he]; exact h
def yP (y : Prt × Int) : List Value := [.agg ⟨prtC y.1⟩, .int .i64 y.2]
theorem backV_le {m : Int} {w : Bytes} (hw : w ≠ []) (hc : byte w 0 = 92) : 1 ≤ (backV m w).2 ∧ (backV m w).2 ≤ w.length := by
  have h1 := List.length_pos_iff.2 hw
  unfold backV
  split
  · rename_i h; have := pre_len h; simp only [List.length_cons, List.length_nil] at this; exact ⟨by simp, by simpa using this⟩
  · split
    · rename_i h; exact ⟨by simp, by show 2 ≤ _; omega⟩
    · exact ⟨by simp, h1⟩
theorem dollarV_le {q : Bool} {w : Bytes} {n : Nat} (hw : w ≠ []) (h1 : 1 ≤ n) (h2 : n ≤ w.length) : 1 ≤ (dollarV q w n).2.1 ∧ (dollarV q w n).2.1 ≤ w.length := by
  have h0 := List.length_pos_iff.2 hw
  have h3 := namedV_le (w.drop 1)
  simp only [List.length_drop] at h3
  unfold dollarV
  split
  · exact ⟨h1, h2⟩
  · split
    · exact ⟨h1, h2⟩
    · split
      · exact ⟨h1, h2⟩
      · split
        · exact ⟨Nat.le_refl _, h0⟩
        · split
          · exact ⟨by show 1 ≤ 2; omega, by show 2 ≤ _; omega⟩
          · exact ⟨by show 1 ≤ 1 + _; omega, by show 1 + _ ≤ _; omega⟩
theorem nextP_le {pq : Bytes → List Prt × Int} {m : Int} {w : Bytes} (hw : w ≠ []) (he : (nextP pq m w).2.2 = 0) : 1 ≤ (nextP pq m w).2.1 ∧ (nextP pq m w).2.1 ≤ w.length := by
  have h0 := List.length_pos_iff.2 hw
  by_cases hA : byte w 0 = 92 ∧ (!decide (m = 0)) = true
  · rw [nextP_back hA]; exact backV_le hw hA.1
  by_cases hB : byte w 0 ≠ 36 ∧ byte w 0 ≠ 96 ∧ ((!decide (m = 0)) = true ∨ (byte w 0 ≠ 39 ∧ byte w 0 ≠ 34 ∧ byte w 0 ≠ 92))
  · rw [nextP_one hA hB]; exact ⟨Nat.le_refl _, h0⟩
  rcases skip_cases w hw with ⟨n, hn, h1, h2⟩ | ⟨e, h1, h2⟩
  · rw [nextP_ok hA hB hn]
    split
    · exact dollarV_le hw h1 h2
    · split
      · exact ⟨h1, h2⟩
      · split
        · split <;> exact ⟨h1, h2⟩
        · split
          · split <;> exact ⟨h1, h2⟩
          · exact ⟨h1, h2⟩
  · rw [nextP_err hA hB h1] at he; simp only at he; omega
theorem nextP_cnt {pq : Bytes → List Prt × Int} {m : Int} {w : Bytes} (hw : w ≠ []) (hp : ∀ s', (pq s').1.length ≤ s'.length) : (nextP pq m w).1.length ≤ w.length + 1 := by
  by_cases hA : byte w 0 = 92 ∧ (!decide (m = 0)) = true
  · rw [nextP_back hA]; show (backV m w).1.length ≤ _
    unfold backV; split
    · simp
    · split <;> simp
  by_cases hB : byte w 0 ≠ 36 ∧ byte w 0 ≠ 96 ∧ ((!decide (m = 0)) = true ∨ (byte w 0 ≠ 39 ∧ byte w 0 ≠ 34 ∧ byte w 0 ≠ 92))
  · rw [nextP_one hA hB]; simp
  rcases skip_cases w hw with ⟨n, hn, h1, h2⟩ | ⟨e, h1, h2⟩
  · rw [nextP_ok hA hB hn]
    split
    · simp
    · split
      · simp
      · split
        · split
          · simp
          · have := hp ((w.take (n - 1)).drop 1)
            simp only [List.length_drop, List.length_take] at this
            show (pq ((w.take (n - 1)).drop 1)).1.length ≤ _; omega
        · split
          · split <;> simp
          · simp
  · rw [nextP_err hA hB h1]; simp
theorem partsY_succ {pq : Bytes → List Prt × Int} {m : Int} {k : Nat} {r : Bytes} (hr : r ≠ []) : partsY pq m (k + 1) r = if (nextP pq m r).2.2 ≠ 0 then [(nilP, (nextP pq m r).2.2)] else (nextP pq m r).1.map (·, 0) ++ partsY pq m k (r.drop (nextP pq m r).2.1) := by
  rw [partsY, if_neg hr]
theorem take_map_succ {l : List Prt} {i : Nat} {x : Prt} (h : l[i]? = some x) : (l.take (i + 1)).map (fun p => (p, (0 : Int))) = (l.take i).map (fun p => (p, (0 : Int))) ++ [(x, 0)] := by
  rw [List.take_add_one, h]; simp
theorem split_at {l : List Prt} {i : Nat} {x : Prt} (h : l[i]? = some x) : l.map (fun p => (p, (0 : Int))) = (l.take i).map (fun p => (p, (0 : Int))) ++ (x, 0) :: (l.drop (i + 1)).map (fun p => (p, (0 : Int))) := by
  obtain ⟨hi, he⟩ := List.getElem?_eq_some_iff.1 h
  rw [← List.map_cons (f := fun p => (p, (0 : Int))), ← he, ← List.drop_eq_getElem_cons hi, ← List.map_append, List.take_append_drop]

theorem parts_spec (m : Int) (s : Bytes) (w : World) : CallR Tryd.prog 18 #[.agg ⟨[.int .i64 m]⟩, S s] w fun v w' => ∃ bw br, v = .func (.func 33) #[] #[.pointer (some ⟨bw, 0, none⟩), .pointer (some ⟨br, 0, none⟩)] ∧ w.heap.size ≤ bw ∧ w.heap.size ≤ br ∧ br ≠ bw ∧ Blk w' bw [S s] 9 ∧ Blk w' br [.int .i64 m] 46 ∧ Chg [] w w' := by
 refine callR_of_wp (args := [_, _]) Tryd.func18 rfl (Nat.le_of_ble_eq_true rfl) ?_
 have HC : Chg [] w w := .refl _
 refine sr rfl <| Wp rfl <| st_box (v := .agg ⟨[.int _ _]⟩) (vs := [_]) rfl rfl ?_
 intro br w1 e2 c3 hb4
 have ge_br : w.heap.size ≤ br := by rw [e2]; exact HC.size
 replace HC := HC.then c3
 clear e2
 refine Wp rfl <| st_box (v := S _) (vs := [_]) rfl rfl ?_
 intro bw w5 e6 c7 hb8
 have ge_bw : w.heap.size ≤ bw := by rw [e6]; exact HC.size
 have ne_br_bw : br ≠ bw := by rw [e6]; exact hb4.ne_size
 replace HC := HC.then c7
 replace hb4 := hb4.tr0 c7
 clear e6
 refine av (v := .nilFunc) rfl <| en <| sr rfl <| Wp rfl <| st_makeFunc <| av (v := .func _ _ _) rfl <| en <| x_ret <| ret_tmp (v := .func _ _ _) rfl rfl ?_
 exact ⟨bw, br, rfl, ge_bw, ge_br, ne_br_bw, hb8, hb4, HC⟩

theorem parts_iter {bw br : Nat} {m : Int} {s : Bytes} {pq : Bytes → List Prt × Int} {L : List (Prt × Int)} {K : Nat → Prop} {w : World} (hL : partsY pq m s.length s = L) (q1 : Blk w bw [S s] 9) (q2 : Blk w br [.int .i64 m] 46) (hne : br ≠ bw) (ht : Tab w) (hzb : 1 ≠ bw) (hK1 : K bw) (hK2 : K br) (hKt : K 1) (hs : s.length < 4294967281) (hPl : ∀ s', (pq s').1.length ≤ s'.length)
    (hP : m = 0 → ∀ (s' : Bytes) (W : World), s'.length < s.length → Tab W → CallR Tryd.prog 9 #[S s', .int .i64 1] W fun v W' => ∃ A cap, v = .tuple ⟨[.slice A (pq s').1.length cap, .int .i64 (pq s').2]⟩ ∧ Sl prtE W' (fun k => W.heap.size ≤ k) A (pq s').1 ∧ Chg [] W W') :
    Iter3 Tryd.prog 33 [.pointer (some ⟨bw, 0, none⟩), .pointer (some ⟨br, 0, none⟩)] [bw] K yP L w := by
 intro lp J Jx W hws hk hJm hJxm hR hJ
 replace ht := ht.kept ⟨hws, fun k hK hl => hk k hl hK⟩ hKt
 replace q1 := q1.of_eq (hk _ q1.lt hK1)
 replace q2 := q2.of_eq (hk _ q2.lt hK2)
 refine callR_of_wp (args := [_, _, _]) Tryd.func33 rfl (Nat.le_of_ble_eq_true rfl) ?_
 have HC : Chg [] W W := .refl _
 have ht1 := ht.lt
 refine x_block <| x_loop (ι := Bytes × Nat × List (Prt × Int) × (Nat → Prop)) [4, 5, 7, 8, 9, 10, 11, 12, 13, 14, 15, 16, 17, 18, 19, 20, 21, 22, 23, 24, 25, 26, 27, 28, 29, 30, 31, 32, 33, 34, 35, 36, 37] (fun ⟨r, k, pre, M⟩ => []) (fun ⟨r, k, pre, M⟩ W => (r.length ≤ k ∧ r.length ≤ s.length ∧ pre ++ partsY pq m k r = L) ∧ (Blk W bw [S r] 9) ∧ (Blk W br [.int .i64 m] 46) ∧ (Tab W) ∧ (J M pre W)) (fun ⟨r, k, pre, M⟩ => r.length) (s, s.length, [], fun _ => False) ?_ ?_ ?_
 · exact trivial
 ·refine ⟨?_, q1, q2, ht, hJ⟩
  exact ⟨Nat.le_refl _, Nat.le_refl _, hL⟩
 intro ⟨r, k, pre, M⟩ G2 w1 ⟨⟨hrk, hrs, hq⟩, q1, q2, ht, hJ⟩
 change wp _ _ _ _ _ (upds (over _ _ G2) []) _ _
 have HC : Chg [bw] w1 w1 := .refl _
 have ht1 := ht.lt
 refine x_seq <| sr rfl <| lS T.one9 rfl (q1.cell rfl) <| Wp rfl <| st_sneq rfl rfl <| en <| x_cond rfl (fun h0 => ?_) (fun h0 => ?_)
 ·try simp only [nm, ne_eq] at h0
  obtain ⟨k, rfl⟩ : ∃ k', k = k' + 1 := ⟨k - 1, by have := List.length_pos_iff.2 h0; omega⟩
  rw [partsY_succ h0] at hq
  refine x_skip <| then_n <| x_block <| sr rfl <| Wp rfl <| st_loadA (vs := [_]) T.agg46 rfl (q2.cells (n := 1) (vs := [_]) rfl) rfl <| lS T.one9 rfl (q1.cell rfl) <| Wp rfl <| st_call (ags := [_, _]) rfl rfl T.ent34 rfl (next_spec m pq r _ (by omega) h0 ht (fun hm s' W hl hT => hP hm s' W (by omega) hT)) ?_
  have lt1_bw := q1.lt
  have lt1_br := q2.lt
  have sz1_hsl := HC.size
  rintro _ w3 ⟨A, cap, rfl, hslA, c4⟩
  have hsl := hslA.mono (D' := fun k => w1.heap.size ≤ k ∧ k < w3.heap.size) (fun k hk hD => ⟨hD, hk⟩)
  clear hslA
  have sz2 : w3.heap.size ≤ w3.heap.size := Nat.le_refl _
  replace q1 := q1.tr0 c4
  replace q2 := q2.tr0 c4
  replace ht := ht.tr0 c4
  replace HC := HC.then c4
  refine mv (v := .tuple ⟨[_, _]⟩) rfl <| Wp rfl <| st_extract (vs := [_, _]) (v := .agg ⟨[.slice _ _ _, .int _ _]⟩) rfl rfl <| Wp rfl <| st_extract (vs := [_, _]) (v := .int _ _) rfl rfl <| Wp rfl <| st_alloc T.zero78 ?_
  intro b4 w5 e6 c7 hb8
  have ge_b4 : w1.heap.size ≤ b4 := by rw [e6]; exact HC.size
  have ne_bw_b4 : bw ≠ b4 := by rw [e6]; exact q1.ne_size
  have ne_br_b4 : br ≠ b4 := by rw [e6]; exact q2.ne_size
  have gq_b4 : w3.heap.size ≤ b4 := by rw [e6]; exact sz2
  replace q1 := q1.tr0 c7
  replace q2 := q2.tr0 c7
  replace ht := ht.tr0 c7
  replace HC := HC.then c7
  replace hsl := hsl.tr0 c7
  replace sz2 := Nat.le_trans sz2 c7.size
  clear e6
  refine Wp rfl <| st_store (v := .agg ⟨[.slice _ _ _, .int _ _]⟩) T.size78 rfl rfl rfl hb8 rfl (Nat.le_of_ble_eq_true rfl) (by simp [Value.oneCell', S]) rfl ?_
  intro w9 c10 hb11; simp only [setVs, setV] at hb11
  clear hb8
  replace q1 := q1.tr1 c10 ne_bw_b4
  replace q2 := q2.tr1 c10 ne_br_b4
  replace ht := ht.tr c10 (by intro hx; first | exact hzb (List.mem_singleton.1 hx) | (have := ht.lt; have := ht1; simp only [List.mem_cons, List.mem_nil_iff, or_false] at hx; omega))
  replace HC := HC.then1 c10 ge_b4
  replace hsl := hsl.tr c10 (by intro k hx hD; simp only [List.mem_singleton] at hx; subst hx; omega)
  replace sz2 := Nat.le_trans sz2 c10.size
  refine aI rfl <| en <| x_seq <| sr rfl <| mI rfl <| Wp rfl <| st_neq rfl rfl <| en <| x_cond rfl (fun h1 => ?_) (fun h1 => ?_)
  ·try simp only [nm, ne_eq] at h1
   rw [if_pos h1] at hq
   have lt4 := hb11.lt
   obtain ⟨M2, hM2⟩ : ∃ M2 : Nat → Prop, M2 = M := ⟨_, rfl⟩
   have hJ2 := hJm M M2 pre _ _ hJ HC (by intro k h; rw [hM2] at h; exact .inl h)
   have HCx : Chg [bw] w9 w9 := .refl _
   refine sr rfl <| mv (v := .func _ _ _) rfl <| Wp rfl <| st_bld (ps := []) (vs := [.int _ _, S _, S _, S _, S _, .bool _]) T.bld33 rfl <| mI rfl <| Wp rfl <| st_yield (vs := [_, _]) rfl rfl rfl rfl (hR M2 (pre) (nilP, (nextP pq m r).2.2) _ _ (hq.symm) (hJm _ _ _ _ _ hJ2 HCx (fun k h => .inl h))) ?_
   rintro _ w12 ⟨hk2, ⟨rfl, hJ3⟩ | ⟨rfl, hJ3⟩⟩
   ·have HCn : Chg [bw] w12 w12 := .refl _
    refine en <| x_ret <| then_r <| block_r <| then_r <| block_r <| ret_none rfl ?_
    exact .inl ⟨M2, by rw [← hq]; exact hJ3⟩
   ·have HCn : Chg [bw] w12 w12 := .refl _
    refine en <| x_ret <| then_r <| block_r <| then_r <| block_r <| ret_none rfl ?_
    exact .inr ⟨_, hJ3⟩
  ·try simp only [nm, ne_eq] at h1
   have h1e : (nextP pq m r).2.2 = 0 := by first | assumption | simpa using h1
   rw [if_neg (by rw [h1e]; simp)] at hq
   have hnl := nextP_le h0 h1e
   have hcl := nextP_cnt (m := m) h0 hPl
   have lt4 := hb11.lt
   obtain ⟨M2, hM2⟩ : ∃ M2 : Nat → Prop, M2 = fun k => k = b4 ∨ (w1.heap.size ≤ k ∧ k < w3.heap.size) := ⟨_, rfl⟩
   have hJ2 := hJm M M2 pre _ _ hJ HC (by intro k h; rw [hM2] at h; have := ge_b4; have := sz1_hsl; have := sz2; right; rcases h with h | h <;> omega)
   have HCx : Chg [bw] w9 w9 := .refl _
   refine x_skip <| then_n <| x_seq <| sr rfl <| fa T.fld78_0 rfl <| lL T.one23 rfl (hb11.cell rfl) <| Wp rfl <| st_len (ct := #[23]) (by rw [show ((#[23] : Array TypeId)[0]?).bind Tryd.prog.underlying = some (.slice 33) from T.u23]; rfl) rfl <| mI rfl <| en <| x_block <| x_loop (ι := Nat) [7, 25, 26, 27, 28, 29, 30, 31, 32, 33] (fun i => [(25, .int .i64 (i : Int))]) (fun i W => (i ≤ (nextP pq m r).1.length) ∧ (Blk W bw [S r] 9) ∧ (Blk W br [.int .i64 m] 46) ∧ (Tab W) ∧ (J M2 (pre ++ ((nextP pq m r).1.take i).map (fun p => (p, (0 : Int)))) W) ∧ (Sl prtE W (fun k => w1.heap.size ≤ k ∧ k < w3.heap.size) A (nextP pq m r).1) ∧ (w3.heap.size ≤ W.heap.size) ∧ (Blk W b4 [.slice A (nextP pq m r).1.length cap, .int .i64 ((nextP pq m r).2.1 : Int)] 78)) (fun i => (nextP pq m r).1.length - i) 0 ?_ ?_ ?_
   · exact ⟨rfl, trivial⟩
   ·refine ⟨?_, q1, q2, ht, (by first | (rw [List.take_zero, List.map_nil, List.append_nil]; exact (hJm _ _ _ _ _ hJ2 HCx (fun k h => .inl h))) | (rw [take_map_succ rfl, ← List.append_assoc]; exact (hJm _ _ _ _ _ hJ2 HCx (fun k h => .inl h)))), hsl, sz2, hb11⟩
    exact Nat.zero_le _
   intro i G14 w13 ⟨hi, q1, q2, ht, hJ2, hsl, sz2, hq4⟩
   change wp _ _ _ _ _ (upds (over _ _ G14) [(25, .int .i64 (i : Int))]) _ _
   have HC : Chg [bw] w13 w13 := .refl _
   have ht1 := ht.lt
   refine sr rfl <| Wp rfl <| st_lss rfl rfl <| en <| x_seq <| x_cond rfl (fun h2 => ?_) (fun h2 => ?_)
   ·try simp only [nm, ne_eq] at h2
    refine x_skip <| then_n <| x_seq <| x_block <| sr rfl ?_
    obtain ⟨x, hx15⟩ : ∃ zz, (nextP pq m r).1[i]? = some zz := ⟨_, List.getElem?_eq_getElem (by omega)⟩
    obtain ⟨lb20, _, vs19, hA16, hR18, hC17⟩ := hsl.at hx15
    obtain rfl : vs19 = [.int .i64 x.kind, S x.text, S x.name, S x.op, S x.word, .bool x.quoted] := hR18
    refine Wp rfl <| st_indexAddr T.u23 T.size33 (congrArg (fun z => Value.slice z _ _) hA16) rfl (by omega) (by omega) <| Wp rfl <| st_loadA (vs := [_, _, _, _, _, _]) T.agg33 rfl hC17 rfl <| Wp rfl <| st_alloc T.zero33 ?_
    intro b7 w21 e22 c23 hb24
    have ge_b7 : w13.heap.size ≤ b7 := by rw [e22]; exact HC.size
    have ne_bw_b7 : bw ≠ b7 := by rw [e22]; exact q1.ne_size
    have ne_br_b7 : br ≠ b7 := by rw [e22]; exact q2.ne_size
    have ne_b4_b7 : b4 ≠ b7 := by rw [e22]; exact hq4.ne_size
    have gq_b7 : w3.heap.size ≤ b7 := by rw [e22]; exact sz2
    replace q1 := q1.tr0 c23
    replace q2 := q2.tr0 c23
    replace ht := ht.tr0 c23
    replace hsl := hsl.tr0 c23
    replace sz2 := Nat.le_trans sz2 c23.size
    replace hq4 := hq4.tr0 c23
    replace HC := HC.then c23
    clear e22
    refine Wp rfl <| st_store (v := .agg ⟨[.int _ _, S _, S _, S _, S _, .bool _]⟩) T.size33 rfl rfl rfl hb24 rfl (Nat.le_of_ble_eq_true rfl) (by simp [Value.oneCell', S]) rfl ?_
    intro w25 c26 hb27; simp only [setVs, setV] at hb27
    clear hb24
    replace q1 := q1.tr1 c26 ne_bw_b7
    replace q2 := q2.tr1 c26 ne_br_b7
    replace ht := ht.tr c26 (by intro hx; first | exact hzb (List.mem_singleton.1 hx) | (have := ht.lt; have := ht1; simp only [List.mem_cons, List.mem_nil_iff, or_false] at hx; omega))
    replace hsl := hsl.tr c26 (by intro k hx hD; simp only [List.mem_singleton] at hx; subst hx; omega)
    replace sz2 := Nat.le_trans sz2 c26.size
    replace hq4 := hq4.tr1 c26 ne_b4_b7
    replace HC := HC.then1 c26 ge_b7
    refine en <| sr rfl <| mv (v := .func _ _ _) rfl <| Wp rfl <| st_loadA (vs := [_, _, _, _, _, _]) T.agg33 rfl (hb27.cells (n := 6) (vs := [_, _, _, _, _, _]) rfl) rfl <| Wp rfl <| st_yield (vs := [_, _]) rfl rfl rfl rfl (hR M2 (pre ++ ((nextP pq m r).1.take i).map (fun p => (p, (0 : Int)))) (x, 0) (((nextP pq m r).1.drop (i + 1)).map (fun p => (p, (0 : Int))) ++ partsY pq m k (r.drop (nextP pq m r).2.1)) _ (by rw [← hq, split_at hx15]; simp) (hJm _ _ _ _ _ hJ2 HC (fun k h => .inl h))) ?_
    rintro _ w28 ⟨hk2, ⟨rfl, hJ3⟩ | ⟨rfl, hJ3⟩⟩
    ·replace q1 := q1.kept hk2 (.inl hK1)
     replace q2 := q2.kept hk2 (.inl hK2)
     replace ht := ht.kept hk2 (.inl hKt)
     replace hq4 := hq4.kept hk2 (.inr (by rw [hM2]; exact .inl rfl))
     replace hsl := hsl.keep (fun k hk hD => hk2.2 k (.inr (by rw [hM2]; exact .inr hD)) hk) hk2.1
     replace sz2 := Nat.le_trans sz2 hk2.1
     have HCn : Chg [bw] w28 w28 := .refl _
     refine Wp rfl <| st_not rfl <| en <| x_cond (t := false) rfl (fun h3 => ?_) (fun h3 => ?_)
     · exact absurd h3 (by decide)
     refine x_skip <| block_n <| then_n <| x_region rfl <| Wp rfl <| st_addn rfl rfl (by constructor <;> omega) <| mI rfl <| en <| ⟨i + 1, ?_, ?_, rfl, ⟨rfl, trivial⟩, ?_⟩
     ·refine ⟨?_, q1, q2, ht, (by first | (rw [List.take_zero, List.map_nil, List.append_nil]; exact (hJm _ _ _ _ _ hJ3 HCn (fun k h => .inl h))) | (rw [take_map_succ hx15, ← List.append_assoc]; exact (hJm _ _ _ _ _ hJ3 HCn (fun k h => .inl h)))), hsl, sz2, hq4⟩
      exact (by omega)
     ·show (nextP pq m r).1.length - (i + 1) < (nextP pq m r).1.length - i; omega
     repeat (first | exact agree_upds agree_over rfl | refine agree_upd ?_ rfl | refine agree_upds ?_ rfl | refine agree_over_sub ?_ rfl)
    ·have HCn : Chg [bw] w28 w28 := .refl _
     refine Wp rfl <| st_not rfl <| en <| x_cond (t := true) rfl (fun h3 => ?_) (fun h3 => ?_)
     rotate_left
     · exact absurd h3 (by decide)
     refine x_ret <| block_r <| then_r <| then_r <| block_r <| then_r <| block_r <| then_r <| block_r <| ret_none rfl ?_
     right; exact ⟨_, hJ3⟩
   ·try simp only [nm, ne_eq] at h2
    have hie : i = (nextP pq m r).1.length := by omega
    refine x_exit <| then_x <| then_x <| block_x <| then_n <| x_region rfl <| lS T.one9 rfl (q1.cell rfl) <| fa T.fld78_1 rfl <| lI T.one3 rfl (hq4.cell rfl) <| Wp rfl <| st_sslo (i := (nextP pq m r).2.1) T.u9 rfl ⟨_, rfl⟩ (by omega) <| Wp rfl <| st_store (v := S _) T.size9 rfl rfl rfl q1 rfl (Nat.le_of_ble_eq_true rfl) (by simp [Value.oneCell', S]) rfl ?_
    intro w29 c30 hb31; simp only [setVs, setV] at hb31
    clear q1
    replace q2 := q2.tr1 c30 (by omega)
    replace ht := ht.tr c30 (by intro hx; first | exact hzb (List.mem_singleton.1 hx) | (have := ht.lt; have := ht1; simp only [List.mem_cons, List.mem_nil_iff, or_false] at hx; omega))
    replace hsl := hsl.tr c30 (by intro k hx hD; simp only [List.mem_singleton] at hx; subst hx; omega)
    replace sz2 := Nat.le_trans sz2 c30.size
    replace hq4 := hq4.tr1 c30 (Ne.symm ne_bw_b4)
    replace HC := HC.trans c30 (by intro x hx; simp only [List.mem_singleton] at hx; subst hx; exact .inl (by simp))
    refine wops_nil <| block_n <| then_n <| ⟨(r.drop (nextP pq m r).2.1, k, pre ++ (nextP pq m r).1.map (fun p => (p, (0 : Int))), M2), ?_, ?_, rfl, trivial, ?_⟩
    ·refine ⟨?_, hb31, q2, ht, (by have hJ4 := hJm _ _ _ _ _ hJ2 HC (fun k h => .inl h); rw [hie, List.take_length] at hJ4; exact hJ4)⟩
     exact ⟨by rw [List.length_drop]; omega, by rw [List.length_drop]; omega, by rw [List.append_assoc]; exact hq⟩
    ·show (r.drop (nextP pq m r).2.1).length < r.length; rw [List.length_drop]; omega
    repeat (first | exact agree_upds agree_over rfl | refine agree_upd ?_ rfl | refine agree_upds ?_ rfl | refine agree_over_sub ?_ rfl)
 ·try simp only [nm, ne_eq] at h0
  refine x_exit <| then_x <| then_x <| block_x <| ret_none_n rfl ?_
  left; have hr0 : r = [] := by first | assumption | simpa using h0
  rw [hr0] at hq; refine ⟨M, ?_⟩; rw [show L = pre by rw [← hq]; cases k <;> simp [partsY]]; exact hJm _ _ _ _ _ hJ HC (fun k h => .inl h)

end Go.Proofs.YtiiahnpgomdfmaaDoor.K
set_option linter.unusedVariables false
set_option linter.unusedSimpArgs false
set_option autoImplicit false
namespace Go.Proofs.YtiiahnpgomdfmaaDoor.K
open Go
section rules
variable {P : Program} {r : Option Nat} {n : Nat} {O : Array Oper} {Q : Post} {l : List Oper} {E : Env} {ds : List Deferred} {w : World} {dst : Option Nat} {ty : TypeId} {pos : String} {af : Array Edge} {g : Option (Nat × Bool)}
end rules
/-! ### the call's own row, as a block -/
def flatC {α : Type} (f : α → List Value) (xs : List α) : List Value := xs.flatMap f
section flat
variable {α : Type} {sz : Nat} {f : α → List Value} {hp : 0 < sz} {hl : ∀ x, (f x).length = sz} {ho : ∀ x, ∀ u ∈ f x, u.oneCell' = true} {w : World} {D : Nat → Prop}
theorem flatC_len (hl : ∀ x, (f x).length = sz) (xs : List α) : (flatC f xs).length = xs.length * sz := by
  induction xs with
  | nil => simp [flatC]
  | cons x xs ih => simp only [flatC, List.flatMap_cons, List.length_append, List.length_cons, hl] at *; rw [ih, Nat.add_mul]; omega
theorem flatC_app (xs ys : List α) : flatC f (xs ++ ys) = flatC f xs ++ flatC f ys := by simp [flatC]
theorem flatC_chunks (hl : ∀ x, (f x).length = sz) (xs : List α) : Chunks (Enc.flat sz f hp hl ho) w D xs (flatC f xs) := by
  induction xs with
  | nil => exact .nil
  | cons x xs ih => exact Chunks.cons (rfl : (Enc.flat sz f hp hl ho).R w D x (f x)) ih
theorem chunks_flatC {xs : List α} {cs : List Value} (h : Chunks (Enc.flat sz f hp hl ho) w D xs cs) : cs = flatC f xs := by
  have h2 := flatC_chunks (w := w) (D := D) (hp := hp) (ho := ho) hl xs
  apply List.ext_getElem?
  intro j
  by_cases hj : j < cs.length
  · have hjx : j / sz < xs.length := by rw [h.1] at hj; exact Nat.div_lt_of_lt_mul (by rw [Nat.mul_comm]; exact hj)
    obtain ⟨x, hx⟩ : ∃ x, xs[j / sz]? = some x := ⟨_, List.getElem?_eq_getElem hjx⟩
    obtain ⟨vs, rfl, h3⟩ := h.2 _ x hx
    obtain ⟨us, rfl, h4⟩ := h2.2 _ x hx
    have hm : j % sz < (f x).length := by rw [hl]; exact Nat.mod_lt _ hp
    have e : j / sz * sz + j % sz = j := Nat.div_add_mod' j sz
    have h5 := h3 (j % sz) _ (List.getElem?_eq_getElem hm)
    have h6 := h4 (j % sz) _ (List.getElem?_eq_getElem hm)
    rw [show j / sz * (Enc.flat sz f hp hl ho).sz + j % sz = j from e] at h5 h6
    rw [h5, h6]
  · rw [List.getElem?_eq_none (by omega), List.getElem?_eq_none (by rw [flatC_len hl]; have := h.1; show xs.length * sz ≤ j; rw [show cs.length = xs.length * sz from this] at hj; omega)]
theorem Own.raw {e : TypeId} {a : Addr} {cap : Nat} {xs : List α} (h : Own (Enc.flat sz f hp hl ho) e w D (some a) cap xs) : ∃ g rest, a = ⟨g, 0, none⟩ ∧ Blk w g (flatC f xs ++ rest) e ∧ (flatC f xs ++ rest).length = cap * sz ∧ xs.length ≤ cap ∧ cap ≤ 9223372036854775807 ∧ D g := by
  obtain ⟨cs, h1, h2, h3⟩ := h
  rcases h1.2 with ⟨h4, _⟩ | ⟨g, cp, cur, h4, h5, h6, h7, h8, h9, h10⟩
  · simp at h4
  · simp only [Value.slice.injEq, Option.some.injEq] at h4
    obtain ⟨rfl, _, rfl⟩ := h4
    have hcs := chunks_flatC h3
    subst hcs
    replace h10 : List.take (xs.length * sz) cur.toList = flatC f xs := h10
    replace h9 : cur.size = cap * sz := h9
    refine ⟨g, cur.toList.drop (xs.length * sz), rfl, ?_, ?_, h7, by simpa [maxLen] using h8, h2 g (by simp [ob])⟩
    · rw [← h10, List.take_append_drop]; exact h6
    · rw [← h10, List.take_append_drop]; simpa using h9
theorem Own.of_raw {e : TypeId} {g cap : Nat} {xs : List α} {rest : List Value} (hb : Blk w g (flatC f xs ++ rest) e) (hlen : (flatC f xs ++ rest).length = cap * sz) (hle : xs.length ≤ cap) (hcap : cap ≤ 9223372036854775807) (hD : D g) : Own (Enc.flat sz f hp hl ho) e w D (some ⟨g, 0, none⟩) cap xs := by
  refine ⟨flatC f xs, ⟨flatC_len hl xs, .inr ⟨g, cap, _, rfl, Nat.zero_le _, hb, hle, by simpa [maxLen] using hcap, (show Array.size ⟨flatC f xs ++ rest⟩ = cap * sz from by simpa using hlen), ?_⟩⟩, fun k hk => by simp [ob] at hk; subst hk; exact hD, flatC_chunks hl xs⟩
  show (flatC f xs ++ rest).take (xs.length * sz) = flatC f xs
  rw [← flatC_len hl xs, List.take_left]
end flat
end Go.Proofs.YtiiahnpgomdfmaaDoor.K
set_option linter.unusedVariables false
set_option linter.unusedSimpArgs false
set_option autoImplicit false
namespace Go.Proofs.YtiiahnpgomdfmaaDoor.K
open Go
section rules
variable {P : Program} {r : Option Nat} {n : Nat} {O : Array Oper} {Q : Post} {l : List Oper} {E : Env} {ds : List Deferred} {w : World} {dst : Option Nat} {ty : TypeId} {pos : String} {af : Array Edge} {g : Option (Nat × Bool)}
end rules
end Go.Proofs.YtiiahnpgomdfmaaDoor.K
set_option linter.unusedVariables false
set_option linter.unusedSimpArgs false
set_option autoImplicit false
set_option maxRecDepth 20000
namespace Go.Proofs.YtiiahnpgomdfmaaDoor.K
open Go Go.Proofs Go.RowKit

/-- The bytes of all texts. -/
def tl : List Prt → Nat
  | [] => 0
  | p :: l => p.text.length + tl l
def tlY : List (Prt × Int) → Nat
  | [] => 0
  | p :: l => p.1.text.length + tlY l
theorem tl_app : ∀ (a b : List Prt), tl (a ++ b) = tl a + tl b
  | [], b => by simp [tl]
  | p :: a, b => by show _ + tl (a ++ b) = _ + tl a + tl b; rw [tl_app a b]; omega
theorem tlY_app : ∀ (a b : List (Prt × Int)), tlY (a ++ b) = tlY a + tlY b
  | [], b => by simp [tlY]
  | p :: a, b => by show _ + tlY (a ++ b) = _ + tlY a + tlY b; rw [tlY_app a b]; omega
theorem tlY_map : ∀ l : List Prt, tlY (l.map fun p => (p, (0 : Int))) = tl l
  | [] => rfl
  | p :: l => by show _ + tlY (l.map _) = _ + tl l; rw [tlY_map l]
theorem untick_le : ∀ (n : Nat) (s : Bytes), s.length ≤ n → (untick s).length ≤ s.length
  | 0, s, h => by rw [show s = [] from List.length_eq_zero_iff.1 (by omega)]; simp [untick]
  | n + 1, [], _ => by simp [untick]
  | n + 1, [c], _ => by simp [untick]
  | n + 1, c :: d :: t, h => by
    simp only [List.length_cons] at h
    rw [untick]
    split
    · have := untick_le n t (by omega); simp only [List.length_cons]; omega
    · have := untick_le n (d :: t) (by simp only [List.length_cons]; omega); simp only [List.length_cons] at this ⊢; omega
theorem param_text (q : Bool) (s : Bytes) : (paramV q s).1.text = [] := by
  unfold paramV; split
  · rfl
  · split
    · rfl
    · split
      · rfl
      · split <;> rfl
theorem dollar_text {q : Bool} {w : Bytes} {n : Nat} (h1 : 1 ≤ n) (h2 : n ≤ w.length) : (dollarV q w n).1.text.length ≤ (dollarV q w n).2.1 := by
  unfold dollarV
  split
  · show ((w.take (n - 2)).drop 3).length ≤ n; simp only [List.length_drop, List.length_take]; omega
  · split
    · show ((w.take (n - 1)).drop 2).length ≤ n; simp only [List.length_drop, List.length_take]; omega
    · split
      · show (paramV q _).1.text.length ≤ n; rw [param_text]; exact Nat.zero_le _
      · split
        · simp [txtP]
        · split
          · exact Nat.zero_le _
          · exact Nat.zero_le _
/-- Texts and counts of what a word begins with are within its bytes. -/
theorem nextP_sum {pq : Bytes → List Prt × Int} {m : Int} {w : Bytes} (hw : w ≠ []) (he : (nextP pq m w).2.2 = 0) (hp : ∀ s', (pq s').1.length ≤ s'.length ∧ tl (pq s').1 ≤ s'.length) : tl (nextP pq m w).1 ≤ (nextP pq m w).2.1 ∧ (nextP pq m w).1.length ≤ (nextP pq m w).2.1 := by
  have h0 := List.length_pos_iff.2 hw
  by_cases hA : byte w 0 = 92 ∧ (!decide (m = 0)) = true
  · rw [nextP_back hA]; show tl (backV m w).1 ≤ (backV m w).2 ∧ _
    unfold backV; split
    · simp [tl]
    · split <;> (simp [tl, txtP]; try omega)
  by_cases hB : byte w 0 ≠ 36 ∧ byte w 0 ≠ 96 ∧ ((!decide (m = 0)) = true ∨ (byte w 0 ≠ 39 ∧ byte w 0 ≠ 34 ∧ byte w 0 ≠ 92))
  · rw [nextP_one hA hB]; simp [tl, txtP]; omega
  rcases skip_cases w hw with ⟨n, hn, h1, h2⟩ | ⟨e, h1, h2⟩
  · have hle := nextP_le hw he
    rw [nextP_ok hA hB hn] at hle ⊢
    split
    · have := dollar_text (q := !decide (m = 0)) h1 h2
      rw [if_pos (by assumption)] at hle
      exact ⟨by show _ + 0 ≤ _; omega, hle.1⟩
    · split
      · refine ⟨?_, h1⟩; show ((w.take (n - 1)).drop 1).length + 0 ≤ n; simp only [List.length_drop, List.length_take]; omega
      · split
        · split
          · exact ⟨Nat.zero_le _, h1⟩
          · have := hp ((w.take (n - 1)).drop 1)
            simp only [List.length_drop, List.length_take] at this
            exact ⟨by show tl (pq ((w.take (n - 1)).drop 1)).1 ≤ n; omega, by show (pq ((w.take (n - 1)).drop 1)).1.length ≤ n; omega⟩
        · split
          · split
            · exact ⟨Nat.zero_le _, Nat.zero_le _⟩
            · refine ⟨?_, h1⟩; show ((w.take n).drop 1).length + 0 ≤ n; simp only [List.length_drop, List.length_take]; omega
          · refine ⟨?_, h1⟩
            have := untick_le _ ((w.take (n - 1)).drop 1) (Nat.le_refl _)
            simp only [List.length_drop, List.length_take] at this
            show (untick ((w.take (n - 1)).drop 1)).length + 0 ≤ n; omega
  · rw [nextP_err hA hB h1] at he; simp only at he; omega
theorem partsY_sum {pq : Bytes → List Prt × Int} {m : Int} (hp : ∀ s', (pq s').1.length ≤ s'.length ∧ tl (pq s').1 ≤ s'.length) : ∀ (k : Nat) (r : Bytes), tlY (partsY pq m k r) ≤ r.length ∧ (partsY pq m k r).length ≤ r.length + 1 ∧ ((∀ z, z ∈ partsY pq m k r → z.2 = 0) → (partsY pq m k r).length ≤ r.length)
  | 0, r => by simp [partsY, tlY]
  | k + 1, r => by
    by_cases hr : r = []
    · subst hr; simp [partsY, tlY]
    rw [partsY_succ hr]
    by_cases he : (nextP pq m r).2.2 = 0
    · rw [if_neg (by rw [he]; simp)]
      have h1 := nextP_le hr he
      have h2 := nextP_sum hr he hp
      have h3 := partsY_sum (m := m) hp k (r.drop (nextP pq m r).2.1)
      simp only [List.length_drop] at h3
      refine ⟨?_, ?_, fun h => ?_⟩
      · rw [tlY_app, tlY_map]; omega
      · rw [List.length_append, List.length_map]; omega
      · have h4 := h3.2.2 fun z hz => h z (by simp [hz])
        rw [List.length_append, List.length_map]; omega
    · rw [if_pos he]
      have := List.length_pos_iff.2 hr
      exact ⟨Nat.zero_le _, by simp, fun h => absurd (h _ (List.mem_singleton.2 rfl)) he⟩
theorem addP_tl (l : List Prt) (p : Prt) : tl (addP l p) = tl l + p.text.length ∧ (addP l p).length ≤ l.length + 1 := by
  rcases List.eq_nil_or_concat l with rfl | ⟨l0, z, rfl⟩
  · exact ⟨by show p.text.length + 0 = 0 + _; omega, Nat.le_refl _⟩
  · simp only [addP, List.concat_eq_append, List.getLast?_append, List.getLast?_singleton, Option.some_or]
    split
    · rw [List.dropLast_concat]
      constructor
      · rw [tl_app, tl_app]; show tl l0 + ((z.text ++ p.text).length + 0) = tl l0 + (z.text.length + 0) + _; rw [List.length_append]; omega
      · simp
    · constructor
      · rw [tl_app]; show _ + (p.text.length + 0) = _; omega
      · simp
def foldL (ys : List (Prt × Int)) : List Prt := (ys.map Prod.fst).foldl addP []
theorem foldL_snoc (ys : List (Prt × Int)) (y : Prt × Int) : foldL (ys ++ [y]) = addP (foldL ys) y.1 := by simp [foldL]
theorem foldl_tl : ∀ (ys : List (Prt × Int)) (l : List Prt), tl ((ys.map Prod.fst).foldl addP l) = tl l + tlY ys ∧ ((ys.map Prod.fst).foldl addP l).length ≤ l.length + ys.length
  | [], l => by simp [tlY]
  | y :: ys, l => by
    have h1 := foldl_tl ys (addP l y.1)
    have h2 := addP_tl l y.1
    simp only [List.map_cons, List.foldl_cons, tlY, List.length_cons]
    exact ⟨by rw [h1.1, h2.1]; omega, by omega⟩
theorem foldL_tl (ys : List (Prt × Int)) : tl (foldL ys) = tlY ys ∧ (foldL ys).length ≤ ys.length := by
  have := foldl_tl ys []; exact ⟨by rw [foldL, this.1]; simp [tl], by simpa [foldL] using this.2⟩
theorem foldY_ok : ∀ (ys rest : List (Prt × Int)) (l : List Prt), (∀ z, z ∈ ys → z.2 = 0) → foldY l (ys ++ rest) = foldY ((ys.map Prod.fst).foldl addP l) rest
  | [], rest, l, _ => rfl
  | (p, e) :: ys, rest, l, h => by
    have he : e = 0 := h (p, e) (by simp)
    rw [List.cons_append, foldY, if_neg (by rw [he]; simp), foldY_ok ys rest (addP l p) fun z hz => h z (by simp [hz])]; rfl
theorem foldY_all {ys : List (Prt × Int)} (h : ∀ z, z ∈ ys → z.2 = 0) : foldY [] ys = (foldL ys, 0) := by
  have := foldY_ok ys [] [] h
  rw [List.append_nil] at this
  rw [this]; rfl
theorem foldY_err {pre rest : List (Prt × Int)} {y : Prt × Int} (h : ∀ z, z ∈ pre → z.2 = 0) (hy : y.2 ≠ 0) : foldY [] (pre ++ y :: rest) = ([], y.2) := by
  rw [foldY_ok pre (y :: rest) [] h, foldY, if_pos hy]
/-- What a row of yields comes to is within the text's bytes. -/
theorem foldY_sum {pq : Bytes → List Prt × Int} {m : Int} {k : Nat} {r : Bytes} (hp : ∀ s', (pq s').1.length ≤ s'.length ∧ tl (pq s').1 ≤ s'.length) : (foldY [] (partsY pq m k r)).1.length ≤ r.length ∧ tl (foldY [] (partsY pq m k r)).1 ≤ r.length := by
  have h1 := partsY_sum (m := m) hp k r
  by_cases h : ∀ z, z ∈ partsY pq m k r → z.2 = 0
  · rw [foldY_all h]
    have h2 := foldL_tl (partsY pq m k r)
    have := h1.2.2 h
    exact ⟨by show (foldL _).length ≤ _; omega, by show tl (foldL _) ≤ _; omega⟩
  · have : ∃ pre y rest, partsY pq m k r = pre ++ y :: rest ∧ (∀ z, z ∈ pre → z.2 = 0) ∧ y.2 ≠ 0 := by
      generalize partsY pq m k r = ys at h
      induction ys with
      | nil => exact absurd (fun z hz => by cases hz) h
      | cons y ys ih =>
        by_cases hy : y.2 = 0
        · obtain ⟨pre, z, rest, h1, h2, h3⟩ := ih fun h' => h fun z hz => (List.mem_cons.1 hz).elim (fun e => by rw [e]; exact hy) (h' z)
          exact ⟨y :: pre, z, rest, by rw [h1]; rfl, fun u hu => (List.mem_cons.1 hu).elim (fun e => by rw [e]; exact hy) (h2 u), h3⟩
        · exact ⟨[], y, ys, rfl, (fun z hz => by cases hz), hy⟩
    obtain ⟨pre, y, rest, h1, h2, h3⟩ := this
    rw [h1, foldY_err h2 h3]; exact ⟨Nat.zero_le _, Nat.zero_le _⟩
theorem parsQ_sum (s : Bytes) : (parsQ 1 s).1.length ≤ s.length ∧ tl (parsQ 1 s).1 ≤ s.length := foldY_sum fun s' => ⟨Nat.zero_le _, Nat.zero_le _⟩
theorem addP_snoc {l0 : List Prt} {z p : Prt} (h : p.kind = 0 ∧ z.kind = 0 ∧ z.quoted = p.quoted) : addP (l0 ++ [z]) p = l0 ++ [{ z with text := z.text ++ p.text }] := by
  simp only [addP, List.getLast?_append, List.getLast?_singleton, Option.some_or, if_pos h, List.dropLast_concat]
theorem addP_new {l : List Prt} {p : Prt} (h : ∀ z, l.getLast? = some z → ¬ (p.kind = 0 ∧ z.kind = 0 ∧ z.quoted = p.quoted)) : addP l p = l ++ [p] := by
  unfold addP
  split
  · rename_i h1
    rw [show l = [] from by cases l with | nil => rfl | cons a t => simp at h1]; rfl
  · rename_i z h1; rw [if_neg (h z h1)]
theorem set_text {l0 : List Prt} {z : Prt} {x : Bytes} {rest : List Value} : setVs (flatC prtC (l0 ++ [z]) ++ rest) (0 + l0.length * 6 + 1) [S x] = flatC prtC (l0 ++ [{ z with text := x }]) ++ rest := by
  have hl : ∀ a : List Prt, (flatC prtC a).length = a.length * 6 := flatC_len (sz := 6) (fun _ => rfl)
  show setV (flatC prtC (l0 ++ [z]) ++ rest) (0 + l0.length * 6 + 1) (S x) = _
  have hz : flatC prtC [z] = [.int .i64 z.kind, S z.text, S z.name, S z.op, S z.word, .bool z.quoted] := by simp [flatC, prtC]
  have hz2 : flatC prtC [{ z with text := x }] = [.int .i64 z.kind, S x, S z.name, S z.op, S z.word, .bool z.quoted] := by simp [flatC, prtC]
  rw [flatC_app, flatC_app, hz, hz2, List.append_assoc, List.append_assoc]
  have h1 := setV_eq (flatC prtC l0 ++ ([.int .i64 z.kind, S z.text, S z.name, S z.op, S z.word, .bool z.quoted] ++ rest)) (0 + l0.length * 6 + 1) (S x)
  rw [h1, List.set_append_right _ _ (by rw [hl]; omega), hl, show 0 + l0.length * 6 + 1 - l0.length * 6 = 1 by omega]
  rfl

end Go.Proofs.YtiiahnpgomdfmaaDoor.K
