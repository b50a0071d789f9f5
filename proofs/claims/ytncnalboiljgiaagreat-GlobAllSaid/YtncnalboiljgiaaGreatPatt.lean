import Derived.Test.YtncnalboiljgiaaGreatKitU
set_option linter.unusedVariables false
set_option linter.unusedSimpArgs false
set_option autoImplicit false
namespace Go.Proofs.YtncnalboiljgiaaGreat.K
open Go Go.RowKit
variable {P : Program} {r : Option Nat} {n : Nat} {O : Array Oper} {Q : Post} {E : Env} {ds : List Deferred} {w : World} {l : List Oper}
def IterG (P : Program) (gf : FuncId) (caps : List Value) {α : Type} (encs : α → List Value) (xs : List α) (St : List α → World → Prop) (Pop : List α → α → World → World → Prop) : Prop :=
  ∀ (lp : Nat) (J Jx : List α → World → Prop) (W : World), (∀ pre A, J pre A → St pre A) →
    (∀ pre x rest A0 A, xs = pre ++ x :: rest → J pre A0 → Pop pre x A0 A → RoundR P lp (encs x) A fun b B => (b = true ∧ J (pre ++ [x]) B) ∨ (b = false ∧ Jx (pre ++ [x]) B)) →
    J [] W → CallR P gf ⟨.func (.yield lp) #[] #[] :: caps⟩ W fun _ W' => J xs W' ∨ ∃ pre, Jx pre W'
theorem rangeG_core {α : Type} {f : Operand} {ps : List Nat} {assign body : Code} {gf : FuncId} {caps : Array Value} {bs : List Nat} {K : Nat → Prop} {encs : α → List Value} {xs : List α} {St : List α → World → Prop} {Pop : List α → α → World → World → Prop}
    (hf : ev E f = .func (.func gf) #[] caps) (hent : ∀ args (w : World), (callFunc gf args).run P w = .ok (.enter gf args) w) (hps : (ps.all fun p => Nat.blt p n) = true) (henc : ∀ x, (encs x).length = ps.length)
    (lp dd : Nat) (mark : List Deferred) (w1 : World) (hD : World → Prop) (fn : FuncId) (a : Act) (ha1 : a.tmps.size = n) (ha2 : env a = E) (ha3 : a.defers = ds)
    (he : (Instr.enterLoop fn a.tmps ps.toArray assign body r).run P w = .ok (lp, mark) w1) (hL1 : w1.heap[lp]? = some (.loop { state := .ready, pending := none, fn, tmps := a.tmps, params := ps.toArray, assign, body, defers := dd }))
    (hD1 : hD w1) (hDl : ∀ A B, hD A → Chg (lp :: bs) A B → hD B) (hDK : ∀ (A B : World) (K' : Nat → Prop), hD A → Kept (fun k => k = lp ∨ (mark ≠ [] ∧ k = dd) ∨ K' k) A B → hD B)
    (hlb : lp ∉ bs)
    (I : List α → World → Prop) (Ix : Code → List α → World → Prop) (hit : IterG P gf caps.toList encs xs St Pop) (hSt : ∀ pre A, I pre A → St pre A) (hPop : ∀ pre x A B, Pop pre x A B → Chg bs A B) (h0 : I [] w1)
    (hI : ∀ pre A B, I pre A → Chg [lp] A B → I pre B) (hIx : ∀ c pre A B, Ix c pre A → Chg [lp] A B → Ix c pre B)
    (hbody : ∀ pre x rest A0 A, xs = pre ++ x :: rest → I pre A0 → Pop pre x A0 A → (∃ rec, A.heap[lp]? = some (.loop rec)) →
      wp P (some lp) n assign (thenP (fun E1 _ A1 => Kept (fun k => k = lp ∨ (mark ≠ [] ∧ k = dd) ∨ K k) A A1 ∧ ∀ ds1 A2, Chg [lp] A1 A2 → (∃ rec, A2.heap[lp]? = some (.loop rec)) →
        wp P (some lp) n body (roundP (fun k => k = lp ∨ (mark ≠ [] ∧ k = dd) ∨ K k) A2 (I (pre ++ [x])) (fun c B => Ix c (pre ++ [x]) B)) E1 ds1 A2) (fun _ _ _ _ => False)) (upds E (zipV ps (encs x))) [] A)
    (hKl : ¬ K lp)
    (hdone : ∀ W, I xs W → hD W → Q .normal E (mark ++ ds) W) (hstop : ∀ c pre W, Ix c pre W → hD W → wp P r n c Q E (mark ++ ds) W) :
    ∃ (l : Nat) (mark : List Deferred) (w₁ : World) (d : Deferred) (w₁' : World) (f' : FuncId) (args : Array Value) (w₂ : World),
      (Instr.enterLoop fn a.tmps ps.toArray assign body (WF r).round).run P w = .ok (l, mark) w₁ ∧
      (resolve a.eval (rangeCall f l) 0).run P w₁ = .ok d w₁' ∧
      (∀ f', Target.leads P w₁' d.target d.args = some f' → (WF r).fn f') ∧
      (invoke d.target d.args).run P w₁' = .ok (.enter f' args) w₂ ∧
      ((WF r).depth.isSome = true → 1 ≤ 0) ∧
      CallsIn (WF r) (0 - 1) P f' args w₂ (rangePost (WF r) 0 P l (toQ n Q) { a with defers := mark ++ a.defers }) := by
  let rec0 : LoopState → Option Code → Loop := fun st pe => { state := st, pending := pe, fn, tmps := a.tmps, params := ps.toArray, assign, body, defers := dd }
  have hL1 : w1.heap[lp]? = some (.loop (rec0 .ready none)) := hL1
  refine ⟨lp, mark, w1, { target := .fn (.func gf) caps, args := #[.func (.yield lp) #[] #[]] }, w1, gf, #[.func (.yield lp) #[] #[]] ++ caps, w1, by cases r <;> exact he, ?_, fun _ _ => trivial, ?_, fun hh => by simp [WF, Fence.wide] at hh, ?_⟩
  · rw [ev_env, ha2]
    simp only [resolve, hf]
    simp [Deferred.ofValue, go_sem, ev]
  · simp [invoke, go_sem, hent]
  · have hcall := hit lp (fun pre W => I pre W ∧ W.heap[lp]? = some (.loop (rec0 .ready none)) ∧ hD W) (fun pre W => ∃ c, Ix c pre W ∧ W.heap[lp]? = some (.loop (rec0 .done (some c))) ∧ hD W) w1
      (fun pre A hJ => hSt pre A hJ.1)
      (fun pre x rest A0 A hx ⟨q1, q02, q03⟩ hpop => by
        have hcp := hPop _ _ _ _ hpop
        have q2 : A.heap[lp]? = some (.loop (rec0 .ready none)) := (hcp.block lp (Array.getElem?_eq_some_iff.1 q02).1 hlb).trans q02
        have q3 : hD A := hDl _ _ q03 (hcp.mono fun x hx => by simp [hx])
        have hlt : lp < A.heap.size := (Array.getElem?_eq_some_iff.1 q2).1
        have hy := run_yield (P := P) (args := ⟨encs x⟩) q2 (by simp [rec0, henc])
        have htm : ((rec0 .ready none).params.zip ⟨encs x⟩).foldl (fun tmps (t, a) => tmps.setIfInBounds t a) (rec0 .ready none).tmps = (ps.zip (encs x)).foldl (fun t (p : Nat × Value) => t.setIfInBounds p.1 p.2) a.tmps := by
          simp only [rec0]; rw [← Array.foldl_toList]; simp [Array.toList_zip]
        refine ⟨_, _, _, _, hy, roundIn_of_wpIn trivial ?_⟩
        have hE : env { tmps := (ps.zip (encs x)).foldl (fun t (p : Nat × Value) => t.setIfInBounds p.1 p.2) a.tmps, defers := [] } = upds E (zipV ps (encs x)) := by
          rw [env_zip ps (encs x) a (by rw [ha1]; exact hps), ha2]
        have hw := hbody pre x rest A0 A hx q1 hpop ⟨_, q2⟩ { tmps := (ps.zip (encs x)).foldl (fun t (p : Nat × Value) => t.setIfInBounds p.1 p.2) a.tmps, defers := [] } (by rw [zip_size]; exact ha1) hE rfl
        have hw' : assign.wpIn (Fence.wide.inRound lp) 0 P (toQ n (thenP (fun E1 _ A1 => Kept (fun k => k = lp ∨ (mark ≠ [] ∧ k = dd) ∨ K k) A A1 ∧ ∀ ds1 A2, Chg [lp] A1 A2 → (∃ rec, A2.heap[lp]? = some (.loop rec)) →
            wp P (some lp) n body (roundP (fun k => k = lp ∨ (mark ≠ [] ∧ k = dd) ∨ K k) A2 (I (pre ++ [x])) (fun c B => Ix c (pre ++ [x]) B)) E1 ds1 A2) (fun _ _ _ _ => False)))
            { tmps := (ps.zip (encs x)).foldl (fun t (p : Nat × Value) => t.setIfInBounds p.1 p.2) a.tmps, defers := [] } A := hw
        rw [htm]
        refine wpIn_mono hw' ?_
        rintro e a1 A1 ⟨s1, s2⟩
        cases e with
        | normal =>
          obtain ⟨hk, hb⟩ := s2
          have hl1 : A1.heap[lp]? = some (.loop (rec0 .ready none)) := (hk.2 lp (.inl rfl) hlt).trans q2
          have hlt1 : lp < A1.heap.size := (Array.getElem?_eq_some_iff.1 hl1).1
          refine ⟨_, run_beginRound hl1 rfl, ?_⟩
          have hl2 : (A1.putObj lp (.loop { rec0 .ready none with state := .busy })).heap[lp]? = some (.loop { rec0 .ready none with state := .busy }) := World.putObj_heap_same hlt1
          have hD2 : hD (A1.putObj lp (.loop { rec0 .ready none with state := .busy })) := hDl _ _ (hDK A A1 K q3 hk) ((Chg.putObj A1 lp _).mono fun x hx => by simp at hx; simp [hx])
          have hb2 := hb a1.defers _ (Chg.putObj A1 lp (.loop { rec0 .ready none with state := .busy })) ⟨_, hl2⟩ a1 s1 rfl rfl
          have hb3 : body.wpIn (Fence.wide.inRound lp) 0 P (toQ n (roundP (fun k => k = lp ∨ (mark ≠ [] ∧ k = dd) ∨ K k) (A1.putObj lp (.loop { rec0 .ready none with state := .busy })) (I (pre ++ [x])) (fun c B => Ix c (pre ++ [x]) B))) a1 (A1.putObj lp (.loop { rec0 .ready none with state := .busy })) := hb2
          refine wpIn_mono hb3 ?_
          have fin : ∀ (jump : Option Code) (B : World), Kept (fun k => k = lp ∨ (mark ≠ [] ∧ k = dd) ∨ K k) (A1.putObj lp (.loop { rec0 .ready none with state := .busy })) B →
              (Instr.endRound lp jump).run P B = .ok (.bool jump.isNone) (B.putObj lp (.loop (rec0 (if jump.isNone then .ready else .done) jump))) ∧
              (B.putObj lp (.loop (rec0 (if jump.isNone then .ready else .done) jump))).heap[lp]? = some (.loop (rec0 (if jump.isNone then .ready else .done) jump)) ∧
              hD (B.putObj lp (.loop (rec0 (if jump.isNone then .ready else .done) jump))) ∧ Chg [lp] B (B.putObj lp (.loop (rec0 (if jump.isNone then .ready else .done) jump))) ∧
              Kept K A (B.putObj lp (.loop (rec0 (if jump.isNone then .ready else .done) jump))) := fun jump B hk2 => by
            have hs2 : lp < (A1.putObj lp (.loop { rec0 .ready none with state := .busy })).heap.size := by simpa using hlt1
            have hl3 := (hk2.2 lp (.inl rfl) hs2).trans hl2
            have hr := run_endRound (P := P) jump hl3
            have hc : Chg [lp] B (B.putObj lp (.loop (rec0 (if jump.isNone then .ready else .done) jump))) := Chg.putObj _ _ _
            refine ⟨hr, World.putObj_heap_same (Array.getElem?_eq_some_iff.1 hl3).1, hDl _ _ (hDK _ B K hD2 hk2) (hc.mono fun x hx => by simp at hx; simp [hx]), hc, ?_, fun k hk3 hk4 => ?_⟩
            · have h1 := hk.1; have h2 := hk2.1; simp at h2 ⊢; omega
            · have hne : k ≠ lp := fun e => hKl (by rw [← e]; exact hk3)
              rw [World.putObj_heap_other hne, hk2.2 k (.inr (.inr hk3)) (by have := hk.1; simp; omega), World.putObj_heap_other hne, hk.2 k (.inr (.inr hk3)) hk4]
          have mono1 : ∀ {A B : World}, Chg [lp] A B → Chg (lp :: bs) A B := fun h => h.mono fun x hx => by simp at hx; simp [hx]
          rintro e a3 B ⟨t1, t2⟩
          cases e with
          | normal =>
            obtain ⟨hr, hl4, hD4, hc4, hk4⟩ := fin none B t2.1
            exact ⟨_, _, hr, true, rfl, .inl ⟨rfl, hI _ _ _ t2.2 hc4, hl4, hD4⟩⟩
          | ret =>
            obtain ⟨hr, hl4, hD4, hc4, hk4⟩ := fin (some .ret) B t2.1
            exact ⟨_, _, hr, false, rfl, .inr ⟨rfl, .ret, hIx _ _ _ _ t2.2 hc4, hl4, hD4⟩⟩
          | exit i =>
            obtain ⟨hr, hl4, hD4, hc4, hk4⟩ := fin (some (.exit i)) B t2.1
            exact ⟨_, _, hr, false, rfl, .inr ⟨rfl, .exit i, hIx _ _ _ _ t2.2 hc4, hl4, hD4⟩⟩
          | goto t =>
            obtain ⟨hr, hl4, hD4, hc4, hk4⟩ := fin (some (.goto t)) B t2.1
            exact ⟨_, _, hr, false, rfl, .inr ⟨rfl, .goto t, hIx _ _ _ _ t2.2 hc4, hl4, hD4⟩⟩
          | panic c => exact t2.elim
          | outgrown => exact t2.elim
        | exit i => exact s2.elim
        | goto t => exact s2.elim
        | ret => exact s2.elim
        | panic c => exact s2.elim
        | outgrown => exact s2.elim)
      ⟨h0, hL1, hD1⟩
    have hargs : (#[.func (.yield lp) #[] #[]] ++ caps : Array Value) = ⟨.func (.yield lp) #[] #[] :: caps.toList⟩ := by
      apply Array.ext'; simp
    rw [hargs]
    refine CallsIn.mono (callsIn_of_calls hcall) ?_
    have mono1 : ∀ {A B : World}, Chg [lp] A B → Chg (lp :: bs) A B := fun h => h.mono fun x hx => by simp at hx; simp [hx]
    rintro e W2 ⟨v, rfl, (⟨q1, q2, q3⟩ | ⟨pre, c, q1, q2, q3⟩)⟩
    · refine ⟨none, _, run_endLoop q2 (by simp [rec0]), ?_⟩
      have hc := Chg.putObj W2 lp (.loop { rec0 .ready none with state := .exhausted })
      refine ⟨ha1, ?_⟩
      have := hdone _ (hI _ _ _ q1 hc) (hDl _ _ q3 (mono1 hc))
      rw [← ha2, ← ha3] at this
      exact this
    · refine ⟨some c, _, run_endLoop q2 (by simp [rec0]), ?_⟩
      have hc := Chg.putObj W2 lp (.loop { rec0 .done (some c) with state := .exhausted })
      exact hstop c pre _ (hIx _ _ _ _ q1 hc) (hDl _ _ q3 (mono1 hc)) _ ha1 ha2 (by rw [ha3])
theorem x_rangeG {α : Type} {f : Operand} {ps : List Nat} {assign body : Code} {gf : FuncId} {caps : Array Value} {bs : List Nat} {K : Nat → Prop} {encs : α → List Value} {xs : List α} {St : List α → World → Prop} {Pop : List α → α → World → World → Prop}
    (hf : ev E f = .func (.func gf) #[] caps) (hent : ∀ args (w : World), (callFunc gf args).run P w = .ok (.enter gf args) w) (hps : (ps.all fun p => Nat.blt p n) = true) (henc : ∀ x, (encs x).length = ps.length) (hbs : ∀ b, b ∈ bs → b < w.heap.size) (hK : ∀ k, K k → k < w.heap.size)
    (hit : IterG P gf caps.toList encs xs St Pop) (hPop : ∀ pre x A B, Pop pre x A B → Chg bs A B)
    (h : ∀ (D lp : Nat) (w1 : World), w.heap.size ≤ D → w.heap.size ≤ lp → D ≠ lp → D < w1.heap.size → lp < w1.heap.size → Chg [] w w1 → ∃ (I : List α → World → Prop) (Ix : Code → List α → World → Prop), I [] w1 ∧
      (∀ pre A, I pre A → St pre A) ∧ (∀ pre A B, I pre A → Chg [lp] A B → I pre B) ∧ (∀ c pre A B, Ix c pre A → Chg [lp] A B → Ix c pre B) ∧
      (∀ pre x rest A0 A, xs = pre ++ x :: rest → I pre A0 → Pop pre x A0 A → (∃ rec, A.heap[lp]? = some (.loop rec)) →
        wp P (some lp) n assign (thenP (fun E1 _ A1 => Kept (fun k => k = lp ∨ k = D ∨ K k) A A1 ∧ ∀ ds1 A2, Chg [lp] A1 A2 → (∃ rec, A2.heap[lp]? = some (.loop rec)) →
          wp P (some lp) n body (roundP (fun k => k = lp ∨ k = D ∨ K k) A2 (I (pre ++ [x])) (fun c B => Ix c (pre ++ [x]) B)) E1 ds1 A2) (fun _ _ _ _ => False)) (upds E (zipV ps (encs x))) [] A) ∧
      (∀ W, I xs W → DefD D W → Q .normal E (mk D :: ds) W) ∧ (∀ c pre W, Ix c pre W → DefD D W → wp P none n c Q E (mk D :: ds) W)) :
    wp P none n (.rangeFunc f ps.toArray assign body) Q E ds w := by
  intro a ha1 ha2 ha3
  refine wpIn_rangeFunc ?_
  intro fn hfn
  obtain ⟨W1, hW1⟩ : ∃ W1, (w.alloc (.deferred (some []))).alloc (.loop { state := .ready, pending := none, fn, tmps := a.tmps, params := ps.toArray, assign, body, defers := w.heap.size }) = W1 := ⟨_, rfl⟩
  have hc1 : Chg [] w W1 := by rw [← hW1]; exact (Chg.alloc w _).then (Chg.alloc _ _)
  have hL1 : W1.heap[w.heap.size + 1]? = some (.loop { state := .ready, pending := none, fn, tmps := a.tmps, params := ps.toArray, assign, body, defers := w.heap.size }) := by
    rw [← hW1]; have := World.alloc_heap_new (w.alloc (.deferred (some []))) (.loop { state := .ready, pending := none, fn, tmps := a.tmps, params := ps.toArray, assign, body, defers := w.heap.size }); rwa [World.size_alloc] at this
  have hD1 : DefD w.heap.size W1 := by
    rw [← hW1]; exact (Below.heap_alloc _ _ _ (by simp)).trans (World.alloc_heap_new w _)
  obtain ⟨I, Ix, h0, hSt, hI, hIx, hb, hd, hs⟩ := h w.heap.size (w.heap.size + 1) W1 (Nat.le_refl _) (Nat.le_succ _) (by omega) (Array.getElem?_eq_some_iff.1 hD1).1 (Array.getElem?_eq_some_iff.1 hL1).1 hc1
  have hDn : w.heap.size ∉ (w.heap.size + 1) :: bs := fun hx => by
    rcases List.mem_cons.1 hx with h | h
    · omega
    · have := hbs _ h; omega
  refine rangeG_core (K := K) (r := none) hf hent hps henc (w.heap.size + 1) w.heap.size [mk w.heap.size] W1 (DefD w.heap.size) fn a ha1 ha2 ha3 ?_ hL1 hD1
    (fun A B hA hc => (hc.block _ (Array.getElem?_eq_some_iff.1 hA).1 hDn).trans hA) (fun A B K' hA hk => (hk.2 _ (.inr (.inl ⟨by simp, rfl⟩)) (Array.getElem?_eq_some_iff.1 hA).1).trans hA)
    (fun hx => by have := hbs _ hx; omega) I Ix hit hSt hPop h0 hI hIx ?_ (fun hx => by have := hK _ hx; omega) hd hs
  · rw [← hW1]; exact run_enterLoop_outer _ _ _ _ _
  · intro pre x rest A0 A hx hi hp hr
    refine x_mono (hb pre x rest A0 A hx hi hp hr) ?_
    have hkk : ∀ {A B : World}, Kept (fun k => k = w.heap.size + 1 ∨ k = w.heap.size ∨ K k) A B → Kept (fun k => k = w.heap.size + 1 ∨ ([mk w.heap.size] ≠ [] ∧ k = w.heap.size) ∨ K k) A B := fun h => ⟨h.1, fun k hk hl => h.2 k (hk.elim .inl (fun h => h.elim (fun h => .inr (.inl h.2)) (fun h => .inr (.inr h)))) hl⟩
    intro e E1 ds1 A1 hq
    cases e with
    | normal =>
      obtain ⟨k1, k2⟩ := hq
      refine ⟨hkk k1, fun ds2 A2 hc hr2 => x_mono (k2 ds2 A2 hc hr2) ?_⟩
      intro e E3 ds3 A3 hq3
      cases e with
      | normal => exact ⟨hkk hq3.1, hq3.2⟩
      | ret => exact ⟨hkk hq3.1, hq3.2⟩
      | exit i => exact ⟨hkk hq3.1, hq3.2⟩
      | goto i => exact ⟨hkk hq3.1, hq3.2⟩
      | panic c => exact hq3
      | outgrown => exact hq3
    | _ => exact hq
end Go.Proofs.YtncnalboiljgiaaGreat.K
namespace Go.Proofs.YtncnalboiljgiaaGreat.K
open Go Go.Proofs Go.RowKit
def MpAt (w : World) (b : Nat) (g : Bytes → Option Value) : Prop := ∃ es, MapAt w b es ∧ ∀ n, mget es n = g n
theorem MpAt.tr {w w' : World} {b : Nat} {g : Bytes → Option Value} {bs : List Nat} (h : MpAt w b g) (hc : Chg bs w w') (hb : b ∉ bs) : MpAt w' b g := by obtain ⟨es, h1, h2⟩ := h; exact ⟨es, h1.tr hc hb, h2⟩
theorem MpAt.tr0 {w w' : World} {b : Nat} {g : Bytes → Option Value} (h : MpAt w b g) (hc : Chg [] w w') : MpAt w' b g := h.tr hc (by simp)
theorem MpAt.fresh {w : World} {b k : Nat} {g : Bytes → Option Value} (h : MpAt w b g) (hk : w.heap.size ≤ k) : b ≠ k := by obtain ⟨es, h1, _⟩ := h; exact h1.fresh hk
theorem MpAt.same {w W : World} {b : Nat} {g : Bytes → Option Value} (h : MpAt w b g) (e : W.heap[b]? = w.heap[b]?) : MpAt W b g := by
  obtain ⟨es, ⟨ar, ck, h1, h2⟩, h3⟩ := h; exact ⟨es, ⟨ar, ck, e.trans h1, h2⟩, h3⟩
theorem MpAt.lt {w : World} {b : Nat} {g : Bytes → Option Value} (h : MpAt w b g) : b < w.heap.size := by obtain ⟨es, h1, _⟩ := h; exact h1.lt
theorem MpAt.of {w : World} {b : Nat} {g : Bytes → Option Value} (h : MapAt w b []) (hg : ∀ n, g n = none) : MpAt w b g := ⟨[], h, fun n => (hg n).symm⟩
theorem MpAt.put {w : World} {b : Nat} {g g' : Bytes → Option Value} {es : List (Bytes × Value)} {s : Bytes} {v : Value} (h : MapAt w b (mput es s v)) (hg : ∀ n, mget es n = g n) (h' : ∀ n, g' n = if s = n then some v else g n) : MpAt w b g' := ⟨_, h, fun n => by rw [mget_put, h', hg]⟩
section rules
variable {P : Program} {r : Option Nat} {n : Nat} {O : Array Oper} {Q : Post} {l : List Oper} {E : Env} {ds : List Deferred} {w : World} {dst : Option Nat} {ty : TypeId} {pos : String} {af : Array Edge} {gd : Option (Nat × Bool)}
end rules
end Go.Proofs.YtncnalboiljgiaaGreat.K
set_option maxRecDepth 20000
namespace Go.Proofs.YtncnalboiljgiaaGreat.K
open Go Go.RowKit
def plB (q : Bytes) (i : Nat) : Bool := decide (q.length ≤ i) || !decide ((byte q i).toNat = 49)
def atB (p q : Bytes) (i : Nat) (c : Nat) : Bool := decide (i < p.length) && decide ((byte p i).toNat = c) && plB q i
def isB (p q : Bytes) : Nat → Bytes → Bool
  | _, [] => true
  | i, c :: s => atB p q i c.toNat && isB p q (i + 1) s
theorem atB_lt {p q : Bytes} {i c : Nat} (h : atB p q i c = true) : i < p.length := by
  unfold atB at h; simp only [Bool.and_eq_true, decide_eq_true_eq] at h; exact h.1.1
def cuB (c : Nat) : Bool := decide (65 ≤ c) && decide (c ≤ 90)
def clB (c : Nat) : Bool := decide (97 ≤ c) && decide (c ≤ 122)
def cdB (c : Nat) : Bool := decide (48 ≤ c) && decide (c ≤ 57)
def csB (a b c : Nat) : Bool := decide (a ≤ c) && decide (c ≤ b)
def classB (n : Bytes) (c : Nat) : Bool :=
  if n = [97, 108, 112, 104, 97] then cuB c || clB c
  else if n = [100, 105, 103, 105, 116] then cdB c
  else if n = [97, 108, 110, 117, 109] then cuB c || clB c || cdB c
  else if n = [117, 112, 112, 101, 114] then cuB c
  else if n = [108, 111, 119, 101, 114] then clB c
  else if n = [115, 112, 97, 99, 101] then csB 9 13 c || decide (c = 32)
  else if n = [98, 108, 97, 110, 107] then decide (c = 32) || decide (c = 9)
  else if n = [112, 117, 110, 99, 116] then csB 33 126 c && !cuB c && !clB c && !cdB c
  else if n = [112, 114, 105, 110, 116] then csB 32 126 c
  else if n = [103, 114, 97, 112, 104] then csB 33 126 c
  else if n = [99, 110, 116, 114, 108] then decide (c < 32) || decide (c = 127)
  else if n = [120, 100, 105, 103, 105, 116] then cdB c || csB 97 102 c || csB 65 70 c
  else false
structure Mem where
  lo : Nat
  hi : Nat
  cls : Bytes
def Mem.has (m : Mem) (c : Nat) : Bool := if m.cls = [] then decide (m.lo ≤ c) && decide (c ≤ m.hi) else classB m.cls c
inductive Wn where
  | any (one : Bool)
  | one (c : Nat)
  | set (ms : List Mem) (turned : Bool)
def Wn.takes : Wn → Nat → Bool
  | .any _, _ => true
  | .one d, c => decide (c = d)
  | .set ms t, c => if ms.any (·.has c) then !t else t
def Wn.star : Wn → Bool
  | .any o => !o
  | _ => false
def loRun (p q : Bytes) : Nat → Nat → Nat
  | 0, _ => 0
  | n + 1, i => if (decide (i < p.length) && plB q i && clB (byte p i).toNat) = true then loRun p q n (i + 1) + 1 else 0
def clE (p q : Bytes) (i : Nat) : Nat := i + 2 + loRun p q (p.length - (i + 2)) (i + 2)
def clsV (p q : Bytes) (i : Nat) : Option (Bytes × Nat) :=
  if (atB p q i 91 && atB p q (i + 1) 58) = true then
    if (atB p q (clE p q i) 58 && atB p q (clE p q i + 1) 93) = true then some ((p.take (clE p q i)).drop (i + 2), clE p q i + 2) else none
  else none
def rngB (p q : Bytes) (i : Nat) : Bool := atB p q (i + 1) 45 && decide (i + 2 < p.length) && !atB p q (i + 2) 93
def memV (p q : Bytes) (i : Nat) : Mem × Nat :=
  match clsV p q i with
  | some r => (⟨1, 0, r.1⟩, r.2)
  | none => if rngB p q i = true then (⟨(byte p i).toNat, (byte p (i + 2)).toNat, []⟩, i + 3) else (⟨(byte p i).toNat, (byte p i).toNat, []⟩, i + 1)
def setF (p q : Bytes) : Nat → Nat → Option (List Mem × Nat)
  | 0, _ => none
  | n + 1, i => if i < p.length then
      if atB p q (memV p q i).2 93 = true then some ([(memV p q i).1], (memV p q i).2 + 1) else (setF p q n (memV p q i).2).map fun r => ((memV p q i).1 :: r.1, r.2)
    else none
def setB (p q : Bytes) (i : Nat) : Nat := if atB p q i 33 = true then i + 1 else i
def setM (p q : Bytes) (i : Nat) : Option (List Mem × Nat) := setF p q (p.length + 1) (setB p q i)
def nextW (p q : Bytes) (i : Nat) : Wn × Nat :=
  if atB p q i 42 = true then (.any false, i + 1)
  else if atB p q i 63 = true then (.any true, i + 1)
  else if atB p q i 91 = true then
    match setM p q (i + 1) with
    | some r => (.set r.1 (atB p q (i + 1) 33), r.2)
    | none => (.one (byte p i).toNat, i + 1)
  else (.one (byte p i).toNat, i + 1)
def wantsF (p q : Bytes) : Nat → Nat → List Wn
  | 0, _ => []
  | n + 1, i => if i < p.length then (nextW p q i).1 :: wantsF p q n (nextW p q i).2 else []
def wantsV (p q : Bytes) : List Wn := wantsF p q (p.length + 1) 0
theorem loRun_le (p q : Bytes) : ∀ (n i : Nat), loRun p q n i ≤ n
  | 0, _ => Nat.le_refl _
  | n + 1, i => by rw [loRun]; split; (have := loRun_le p q n (i + 1); omega); omega
theorem loRun_on {p q : Bytes} {i : Nat} (h : i < p.length) (h1 : plB q i = true) (h2 : clB (byte p i).toNat = true) : loRun p q (p.length - i) i = loRun p q (p.length - (i + 1)) (i + 1) + 1 := by
  rw [show p.length - i = (p.length - (i + 1)) + 1 by omega, loRun, h1, h2, decide_eq_true h]; rfl
theorem loRun_off {p q : Bytes} {i : Nat} (h : ¬ (i < p.length ∧ plB q i = true ∧ clB (byte p i).toNat = true)) : loRun p q (p.length - i) i = 0 := by
  rcases Nat.lt_or_ge i p.length with h1 | h1
  · rw [show p.length - i = (p.length - (i + 1)) + 1 by omega, loRun, if_neg (fun h2 => h (by simp only [Bool.and_eq_true, decide_eq_true_eq] at h2; exact ⟨h2.1.1, h2.1.2, h2.2⟩))]
  · rw [show p.length - i = 0 by omega]; rfl
theorem clE_le {p q : Bytes} {i : Nat} (h : i + 2 ≤ p.length) : i + 2 ≤ clE p q i ∧ clE p q i ≤ p.length := by
  unfold clE; have := loRun_le p q (p.length - (i + 2)) (i + 2); omega
theorem clsV_gt {p q : Bytes} {i : Nat} {r : Bytes × Nat} (h : clsV p q i = some r) : i + 4 ≤ r.2 ∧ r.2 ≤ p.length ∧ r.1 = (p.take (r.2 - 2)).drop (i + 2) := by
  unfold clsV at h
  split at h
  · rename_i h1
    split at h
    · rename_i h2
      cases h
      simp only [Bool.and_eq_true] at h1 h2
      have h3 := atB_lt h1.2
      have h4 := atB_lt h2.2
      have h5 := clE_le (p := p) (q := q) (i := i) (by omega)
      exact ⟨by simp only; omega, by simp only; omega, by simp⟩
    · cases h
  · cases h
theorem memV_gt {p q : Bytes} {i : Nat} (h : i < p.length) : i < (memV p q i).2 ∧ (memV p q i).2 ≤ p.length := by
  unfold memV
  cases hc : clsV p q i with
  | some r => have := clsV_gt hc; simp only; omega
  | none =>
    simp only
    split
    · rename_i h1; unfold rngB at h1; simp only [Bool.and_eq_true, decide_eq_true_eq] at h1; have := h1.1.2; simp only; omega
    · simp only; omega
theorem setF_gt {p q : Bytes} : ∀ (n i : Nat) (r : List Mem × Nat), setF p q n i = some r → i < r.2 ∧ r.2 ≤ p.length
  | 0, i, r, h => by cases h
  | n + 1, i, r, h => by
    rw [setF] at h
    split at h
    · rename_i h1
      have h2 := memV_gt (q := q) h1
      split at h
      · rename_i h3; cases h; have := atB_lt h3; simp only; omega
      · cases h4 : setF p q n (memV p q i).2 with
        | none => rw [h4] at h; cases h
        | some s => rw [h4] at h; cases h; have := setF_gt n _ s h4; simp only; omega
    · cases h
theorem nextW_gt {p q : Bytes} {i : Nat} (h : i < p.length) : i < (nextW p q i).2 ∧ (nextW p q i).2 ≤ p.length := by
  unfold nextW
  split
  · simp only; omega
  · split
    · simp only; omega
    · split
      · rename_i h1
        cases hs : setM p q (i + 1) with
        | none => simp only; omega
        | some r =>
          have h2 := setF_gt _ _ r hs
          have h3 : i + 1 ≤ setB p q (i + 1) := by unfold setB; split <;> omega
          simp only; omega
      · simp only; omega
theorem setF_fuel {p q : Bytes} : ∀ (n i : Nat), p.length - i < n → setF p q n i = setF p q (n + 1) i
  | 0, i, h => by omega
  | n + 1, i, h => by
    rw [setF, setF]
    split
    · rename_i h1
      have h2 := memV_gt (q := q) h1
      rw [setF_fuel n _ (by omega)]
    · rfl
theorem setF_any {p q : Bytes} {n m i : Nat} (hn : p.length - i < n) (hm : n ≤ m) : setF p q n i = setF p q m i := by
  obtain ⟨k, rfl⟩ : ∃ k, m = n + k := ⟨m - n, by omega⟩
  clear hm
  induction k with
  | zero => rfl
  | succ k ih => rw [ih]; exact setF_fuel (n + k) i (by omega)
theorem setM_one {p q : Bytes} {j : Nat} (h : j < p.length) : setF p q (p.length + 1) j = if atB p q (memV p q j).2 93 = true then some ([(memV p q j).1], (memV p q j).2 + 1) else (setF p q (p.length + 1) (memV p q j).2).map fun r => ((memV p q j).1 :: r.1, r.2) := by
  have h2 := memV_gt (q := q) h
  rw [setF, if_pos h, setF_any (n := p.length) (m := p.length + 1) (i := (memV p q j).2) (by omega) (by omega)]
theorem setM_end {p q : Bytes} {j : Nat} (h : ¬ j < p.length) : setF p q (p.length + 1) j = none := by rw [setF, if_neg h]
theorem wantsF_fuel {p q : Bytes} : ∀ (n i : Nat), p.length - i < n → wantsF p q n i = wantsF p q (n + 1) i
  | 0, i, h => by omega
  | n + 1, i, h => by
    rw [wantsF, wantsF]
    split
    · rename_i h1
      have h2 := nextW_gt (q := q) h1
      rw [wantsF_fuel n _ (by omega)]
    · rfl
theorem wantsF_any {p q : Bytes} {n m i : Nat} (hn : p.length - i < n) (hm : n ≤ m) : wantsF p q n i = wantsF p q m i := by
  obtain ⟨k, rfl⟩ : ∃ k, m = n + k := ⟨m - n, by omega⟩
  clear hm
  induction k with
  | zero => rfl
  | succ k ih => rw [ih]; exact wantsF_fuel (n + k) i (by omega)
theorem wants_one {p q : Bytes} {i : Nat} (h : i < p.length) : wantsF p q (p.length + 1) i = (nextW p q i).1 :: wantsF p q (p.length + 1) (nextW p q i).2 := by
  have h2 := nextW_gt (q := q) h
  rw [wantsF, if_pos h, wantsF_any (n := p.length) (m := p.length + 1) (i := (nextW p q i).2) (by omega) (by omega)]
theorem wants_end {p q : Bytes} {i : Nat} (h : ¬ i < p.length) : wantsF p q (p.length + 1) i = [] := by rw [wantsF, if_neg h]
theorem wantsF_len {p q : Bytes} : ∀ (n i : Nat), i ≤ p.length → (wantsF p q n i).length ≤ p.length - i
  | 0, i, h => by simp [wantsF]
  | n + 1, i, h => by
    rw [wantsF]
    split
    · rename_i h1
      have h2 := nextW_gt (q := q) h1
      have h3 := wantsF_len (p := p) (q := q) n (nextW p q i).2 (by omega)
      rw [List.length_cons]; omega
    · simp
def sufs : Bytes → List Bytes
  | [] => [[]]
  | c :: s => (c :: s) :: sufs s
def mt : List Wn → Bytes → Bool
  | [], s => s.isEmpty
  | w :: l, s => if w.star = true then (sufs s).any (mt l) else match s with
    | [] => false
    | c :: t => w.takes c.toNat && mt l t
def matchV (p q s : Bytes) : Bool := mt (wantsV p q) s
theorem sufs_any {f : Bytes → Bool} : ∀ (s : Bytes), (sufs s).any f = true ↔ ∃ k, k ≤ s.length ∧ f (s.drop k) = true
  | [] => by simp [sufs]
  | c :: s => by
    rw [sufs, List.any_cons, Bool.or_eq_true, sufs_any s]
    constructor
    · rintro (h | ⟨k, hk, h⟩)
      · exact ⟨0, by omega, h⟩
      · exact ⟨k + 1, by simp only [List.length_cons]; omega, h⟩
    · rintro ⟨k, hk, h⟩
      cases k with
      | zero => exact .inl h
      | succ k => exact .inr ⟨k, by simp only [List.length_cons] at hk; omega, h⟩
theorem sufs_on {f : Bytes → Bool} {s : Bytes} {k : Nat} (h : k < s.length) : (sufs (s.drop k)).any f = (f (s.drop k) || (sufs (s.drop (k + 1))).any f) := by
  rw [List.drop_eq_getElem_cons h, sufs, List.any_cons]
theorem mt_cons (w : Wn) (l : List Wn) (s : Bytes) : mt (w :: l) s = if w.star = true then (sufs s).any (mt l) else match s with
    | [] => false
    | c :: t => w.takes c.toNat && mt l t := by cases s <;> simp [mt]
theorem mt_star {w : Wn} {l : List Wn} {s : Bytes} (h : w.star = true) : mt (w :: l) s = (sufs s).any (mt l) := by rw [mt_cons, if_pos h]
theorem mt_take {w : Wn} {l : List Wn} {s : Bytes} {k : Nat} (h : w.star = false) (hk : k < s.length) : mt (w :: l) (s.drop k) = (w.takes (byte s k).toNat && mt l (s.drop (k + 1))) := by
  rw [List.drop_eq_getElem_cons hk, mt_cons, h]
  simp only [Bool.false_eq_true, if_false]
  congr 2
  unfold byte; simp [hk]
theorem mt_nil : ∀ (l : List Wn), mt l [] = l.all Wn.star
  | [] => rfl
  | w :: l => by
    rw [mt_cons, List.all_cons]
    cases h : w.star with
    | true => simp [sufs, mt_nil l]
    | false => rfl
theorem mt_len {l : List Wn} : ∀ (n : Nat) (s : Bytes), (∀ j w, j < n → l[j]? = some w → w.star = false) → n ≤ l.length → mt l s = true → n ≤ s.length := by
  induction l with
  | nil => intro n s _ hn _; simp at hn; omega
  | cons w l ih =>
    intro n s hs hn h
    cases n with
    | zero => omega
    | succ n =>
      have hw : w.star = false := hs 0 w (by omega) rfl
      rw [mt_cons, hw] at h
      cases s with
      | nil => cases h
      | cons c t =>
        simp only [Bool.false_eq_true, if_false, Bool.and_eq_true] at h
        have := ih n t (fun j v hj hv => hs (j + 1) v (by omega) (by simpa using hv)) (by simpa using hn) h.2
        simp only [List.length_cons]; omega
theorem mt_seg {l : List Wn} : ∀ (n : Nat) (s : Bytes), (∀ j w, j < n → l[j]? = some w → w.star = false) → n ≤ l.length → mt l s = true → mt (l.drop n) (s.drop n) = true := by
  induction l with
  | nil =>
    intro n s _ hn h
    obtain rfl : n = 0 := Nat.le_zero.1 hn
    exact h
  | cons w l ih =>
    intro n s hs hn h
    cases n with
    | zero => exact h
    | succ n =>
      have hw : w.star = false := hs 0 w (by omega) rfl
      rw [mt_cons, hw] at h
      cases s with
      | nil => cases h
      | cons c t =>
        simp only [Bool.false_eq_true, if_false, Bool.and_eq_true] at h
        exact ih n t (fun j v hj hv => hs (j + 1) v (by omega) (by simpa using hv)) (by simpa using hn) h.2
def MInv (L : List Wn) (s : Bytes) (i k : Nat) (back : Int) (fr : Nat) : Prop :=
  k ≤ s.length ∧ i ≤ L.length ∧ fr ≤ k ∧ ((back = -1 ∧ mt L s = mt (L.drop i) (s.drop k)) ∨
    ∃ b : Nat, back = b ∧ b < i ∧ i + fr = k + b + 1 ∧ (∀ j w, b < j → j < i → L[j]? = some w → w.star = false) ∧ mt L s = (sufs (s.drop fr)).any (mt (L.drop (b + 1))) ∧ mt (L.drop (b + 1)) (s.drop fr) = mt (L.drop i) (s.drop k))
theorem minv_0 {L : List Wn} {s : Bytes} : MInv L s 0 0 (-1) 0 := ⟨Nat.zero_le _, Nat.zero_le _, Nat.le_refl _, .inl ⟨rfl, rfl⟩⟩
theorem drop_some {α : Type} {L : List α} {i : Nat} {w : α} (h : L[i]? = some w) : L.drop i = w :: L.drop (i + 1) := by
  obtain ⟨hi, rfl⟩ := List.getElem?_eq_some_iff.1 h
  exact List.drop_eq_getElem_cons hi
theorem minv_star {L : List Wn} {s : Bytes} {i k fr : Nat} {back : Int} {w : Wn} (h : MInv L s i k back fr) (hw : L[i]? = some w) (hs : w.star = true) : MInv L s (i + 1) k (i : Int) k := by
  obtain ⟨h1, h2, h3, h4⟩ := h
  have hi := (List.getElem?_eq_some_iff.1 hw).1
  refine ⟨h1, by omega, Nat.le_refl _, .inr ⟨i, rfl, by omega, by omega, fun j w a b => by omega, ?_, rfl⟩⟩
  have hd : mt (L.drop i) (s.drop k) = (sufs (s.drop k)).any (mt (L.drop (i + 1))) := by rw [drop_some hw, mt_star hs]
  rcases h4 with ⟨_, h5⟩ | ⟨b, rfl, hb, hik, hn, h5, h6⟩
  · rw [h5, hd]
  · rw [h5, Bool.eq_iff_iff]
    constructor
    · intro h
      obtain ⟨d, hd1, hd2⟩ := (sufs_any _).1 h
      rw [List.drop_drop] at hd2
      have h8 := mt_seg (l := L.drop (b + 1)) (i - (b + 1)) _ (fun j w hj hv => hn (b + 1 + j) w (by omega) (by omega) (by simpa using hv)) (by rw [List.length_drop]; omega) hd2
      rw [List.drop_drop, List.drop_drop, show b + 1 + (i - (b + 1)) = i by omega, drop_some hw, mt_star hs] at h8
      obtain ⟨e, he1, he2⟩ := (sufs_any _).1 h8
      rw [List.drop_drop] at he2
      refine (sufs_any _).2 ⟨d + e, ?_, ?_⟩
      · have h9 := mt_len (l := L.drop (b + 1)) (i - (b + 1)) _ (fun j w hj hv => hn (b + 1 + j) w (by omega) (by omega) (by simpa using hv)) (by rw [List.length_drop]; omega) hd2
        simp only [List.length_drop] at *; omega
      · rw [List.drop_drop, show k + (d + e) = fr + d + (i - (b + 1)) + e by omega]; exact he2
    · intro h
      rw [← hd, ← h6] at h
      exact (sufs_any _).2 ⟨0, Nat.zero_le _, h⟩
theorem minv_take {L : List Wn} {s : Bytes} {i k fr : Nat} {back : Int} {w : Wn} (h : MInv L s i k back fr) (hk : k < s.length) (hw : L[i]? = some w) (hs : w.star = false) (ht : w.takes (byte s k).toNat = true) : MInv L s (i + 1) (k + 1) back fr := by
  obtain ⟨h1, h2, h3, h4⟩ := h
  have hi := (List.getElem?_eq_some_iff.1 hw).1
  have hd : mt (L.drop i) (s.drop k) = mt (L.drop (i + 1)) (s.drop (k + 1)) := by rw [drop_some hw, mt_take hs hk, ht]; rfl
  refine ⟨by omega, by omega, by omega, ?_⟩
  rcases h4 with ⟨h4, h5⟩ | ⟨b, rfl, hb, hik, hn, h5, h6⟩
  · exact .inl ⟨h4, by rw [h5, hd]⟩
  · exact .inr ⟨b, rfl, by omega, by omega, fun j v h7 h8 h9 => by
      rcases Nat.lt_or_ge j i with e | e
      · exact hn j v h7 e h9
      · obtain rfl : j = i := by omega
        rw [hw] at h9; cases h9; exact hs, h5, by rw [h6, hd]⟩
theorem mt_no {L : List Wn} {s : Bytes} {i k : Nat} (hk : k < s.length) (hw : L[i]? = none ∨ ∃ w, L[i]? = some w ∧ w.star = false ∧ w.takes (byte s k).toNat = false) : mt (L.drop i) (s.drop k) = false := by
  rcases hw with hw | ⟨w, hw, h1, h2⟩
  · rw [List.drop_of_length_le (by simpa using hw), mt]
    cases hd : s.drop k with
    | nil => have := congrArg List.length hd; simp at this; omega
    | cons c t => rfl
  · rw [drop_some hw, mt_take h1 hk, h2]; rfl
theorem minv_fail {L : List Wn} {s : Bytes} {i k fr : Nat} (h : MInv L s i k (-1) fr) (hk : k < s.length) (hw : L[i]? = none ∨ ∃ w, L[i]? = some w ∧ w.star = false ∧ w.takes (byte s k).toNat = false) : mt L s = false := by
  obtain ⟨h1, h2, h3, h4⟩ := h
  rcases h4 with ⟨_, h5⟩ | ⟨b, h, _⟩
  · rw [h5, mt_no hk hw]
  · omega
theorem minv_back {L : List Wn} {s : Bytes} {i k fr : Nat} {back : Int} (h : MInv L s i k back fr) (hb : ¬ back < 0) (hk : k < s.length) (hw : L[i]? = none ∨ ∃ w, L[i]? = some w ∧ w.star = false ∧ w.takes (byte s k).toNat = false) : MInv L s (back.toNat + 1) (fr + 1) back (fr + 1) := by
  obtain ⟨h1, h2, h3, h4⟩ := h
  rcases h4 with ⟨h, _⟩ | ⟨b, rfl, hbi, hik, hn, h5, h6⟩
  · omega
  · refine ⟨by omega, by simp only [Int.toNat_natCast]; omega, Nat.le_refl _, .inr ⟨b, rfl, by simp, by simp only [Int.toNat_natCast]; omega, fun j w a c => by simp only [Int.toNat_natCast] at c; omega, ?_, rfl⟩⟩
    rw [h5, sufs_on (by omega), h6, mt_no hk hw, Bool.false_or]
theorem minv_end {L : List Wn} {s : Bytes} {i k fr : Nat} {back : Int} (h : MInv L s i k back fr) (hk : k = s.length) : mt L s = (L.drop i).all Wn.star := by
  obtain ⟨h1, h2, h3, h4⟩ := h
  subst hk
  have e : s.drop s.length = [] := List.drop_length
  rcases h4 with ⟨_, h5⟩ | ⟨b, rfl, hbi, hik, hn, h5, h6⟩
  · rw [h5, e, mt_nil]
  · rw [← mt_nil, ← e, ← h6, h5, Bool.eq_iff_iff]
    constructor
    · intro h
      obtain ⟨d, hd1, hd2⟩ := (sufs_any _).1 h
      have h9 := mt_len (l := L.drop (b + 1)) (i - (b + 1)) _ (fun j w hj hv => hn (b + 1 + j) w (by omega) (by omega) (by simpa using hv)) (by rw [List.length_drop]; omega) hd2
      simp only [List.length_drop] at h9 hd1
      obtain rfl : d = 0 := by omega
      exact hd2
    · intro h; exact (sufs_any _).2 ⟨0, Nat.zero_le _, h⟩
def mMu (L : List Wn) (s : Bytes) (i k : Nat) (back : Int) (fr : Nat) : Nat :=
  ((L.length - (back + 1).toNat) * (s.length + 1) + (s.length - fr)) * (s.length + L.length + 2) + ((s.length - k) + (L.length - i))
theorem lex_lt {x y M r t : Nat} (h : x < y) (hr : r < M) : x * M + r < y * M + t := by
  have h1 : (x + 1) * M ≤ y * M := Nat.mul_le_mul_right M h
  rw [Nat.succ_mul] at h1; omega
theorem mMu_star {L : List Wn} {s : Bytes} {i k fr : Nat} {back : Int} (h : MInv L s i k back fr) (hi : i < L.length) : mMu L s (i + 1) k (i : Int) k < mMu L s i k back fr := by
  obtain ⟨h1, h2, h3, h4⟩ := h
  unfold mMu
  refine lex_lt ?_ (by omega)
  have hb : (back + 1).toNat ≤ i := by rcases h4 with ⟨h4, _⟩ | ⟨b, rfl, hb, _⟩ <;> omega
  refine lex_lt ?_ (by omega)
  omega
theorem mMu_take {L : List Wn} {s : Bytes} {i k fr : Nat} {back : Int} (hk : k < s.length) (hi : i < L.length) : mMu L s (i + 1) (k + 1) back fr < mMu L s i k back fr := by
  unfold mMu; omega
theorem mMu_back {L : List Wn} {s : Bytes} {i k fr : Nat} {back : Int} {j : Nat} (h : MInv L s i k back fr) (hk : k < s.length) : mMu L s j (fr + 1) back (fr + 1) < mMu L s i k back fr := by
  obtain ⟨h1, h2, h3, h4⟩ := h
  unfold mMu
  exact lex_lt (by omega) (by omega)
theorem all_drop {L : List Wn} {i : Nat} {w : Wn} (h : L[i]? = some w) : (L.drop i).all Wn.star = (w.star && (L.drop (i + 1)).all Wn.star) := by rw [drop_some h, List.all_cons]
def mgB (p q : Bytes) (i : Nat) : Bool := atB p q i 42 || atB p q i 63 || atB p q i 91
def magF (p q : Bytes) : Nat → Nat → Bool
  | 0, _ => false
  | n + 1, i => mgB p q i || magF p q n (i + 1)
def magicV (p q : Bytes) : Bool := magF p q p.length 0
theorem mag_on {p q : Bytes} {i : Nat} (h : i < p.length) : magF p q (p.length - i) i = (mgB p q i || magF p q (p.length - (i + 1)) (i + 1)) := by
  rw [show p.length - i = (p.length - (i + 1)) + 1 by omega, magF]
theorem mag_end {p q : Bytes} {i : Nat} (h : ¬ i < p.length) : magF p q (p.length - i) i = false := by rw [show p.length - i = 0 by omega]; rfl
end Go.Proofs.YtncnalboiljgiaaGreat.K
