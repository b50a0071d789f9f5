/- The walk's own rules, eleventh part: strings.Builder, whatever it holds. -/
import Derived.Test.YtmbbhgglllfelaaDoorKitJ
import Derived.Lib.FrozenHead
import Derived.Lib.UnsafeStr
set_option linter.unusedVariables false
set_option linter.unusedSimpArgs false
set_option autoImplicit false
namespace Go.Proofs.YtmbbhgglllfelaaDoor.K
open Go Go.RowKit
/-- A builder's bytes, in a row of its own. -/
def OwnB (e : TypeId) (w : World) (A : Option Addr) (cap : Nat) (s : Bytes) : Prop := w.ownsRowF 0 e 1 (.slice A s.length cap) s.length (Lib.byteCells s)
/-- The builder at b holds s. -/
structure BldAt (T e : TypeId) (w : World) (b : Nat) (A : Option Addr) (cap : Nat) (s : Bytes) : Prop where
  blk : Blk w b [.pointer none, .slice A s.length cap] T ∨ Blk w b [.pointer (some ⟨b, 0, none⟩), .slice A s.length cap] T
  own : OwnB e w A cap s
  nil : s = [] → A = none
variable {T e : TypeId} {w w' : World} {b : Nat} {A : Option Addr} {cap : Nat} {s : Bytes}
theorem OwnB.form (h : OwnB e w A cap s) : (A = none ∧ cap = 0 ∧ s = []) ∨ ∃ g cur fz, A = some ⟨g, 0, none⟩ ∧ w.heap[g]? = some (.cells cur e fz) ∧ s.length ≤ cap ∧ cap ≤ 9223372036854775807 := by
  rcases h.2 with ⟨h1, h2⟩ | ⟨g, cp, cur, fz, h1, h2, h3, h4, h5, h6, _⟩
  · simp only [Value.slice.injEq] at h1; exact .inl ⟨h1.1, h1.2.2, List.eq_nil_of_length_eq_zero h2⟩
  · simp only [Value.slice.injEq] at h1; obtain ⟨rfl, _, rfl⟩ := h1
    exact .inr ⟨g, cur, fz, rfl, h3, h5, by simpa [maxLen] using h6⟩
theorem OwnB.lt (h : OwnB e w A cap s) : ∀ g, g ∈ ob A → g < w.heap.size := by
  rcases h.form with ⟨rfl, _⟩ | ⟨g, cur, fz, rfl, h1, _⟩
  · simp [ob]
  · intro k hk; simp [ob] at hk; subst hk; exact (Array.getElem?_eq_some_iff.1 h1).1
theorem OwnB.tr {bs : List Nat} (h : OwnB e w A cap s) (hc : Chg bs w w') (hb : ∀ k, k ∈ ob A → k ∉ bs) : OwnB e w' A cap s := by
  have hl := h.lt
  refine ⟨h.1, ?_⟩
  rcases h.2 with h1 | ⟨g, cp, cur, fz, h1, h2, h3, h4⟩
  · exact .inl h1
  · have h1' := h1
    simp only [Value.slice.injEq] at h1'; obtain ⟨rfl, _, rfl⟩ := h1'
    exact .inr ⟨g, _, cur, fz, rfl, h2, (hc.block g (hl g (by simp [ob])) (hb g (by simp [ob]))).trans h3, h4⟩
theorem OwnB.ne {cs : List Value} (h : OwnB e w A cap s) (hb : Blk w b cs T) (hT : T ≠ e) : b ∉ ob A := by
  rcases h.form with ⟨rfl, _⟩ | ⟨g, cur, fz, rfl, h1, _⟩
  · simp [ob]
  · intro hx; simp [ob] at hx; subst hx
    rw [show w.heap[b]? = _ from hb] at h1
    simp only [Option.some.injEq, Obj.cells.injEq] at h1
    exact hT h1.2.1
theorem BldAt.ne (h : BldAt T e w b A cap s) (hT : T ≠ e) : b ∉ ob A := by
  rcases h.blk with hb | hb <;> exact h.own.ne hb hT
theorem BldAt.ltb (h : BldAt T e w b A cap s) : b < w.heap.size := by
  rcases h.blk with hb | hb <;> exact hb.lt
theorem BldAt.tr {bs : List Nat} (h : BldAt T e w b A cap s) (hc : Chg bs w w') (h1 : b ∉ bs) (h2 : ∀ k, k ∈ ob A → k ∉ bs) : BldAt T e w' b A cap s :=
  ⟨h.blk.imp (fun x => x.tr hc h1) (fun x => x.tr hc h1), h.own.tr hc h2, h.nil⟩
theorem BldAt.tr0 (h : BldAt T e w b A cap s) (hc : Chg [] w w') : BldAt T e w' b A cap s := h.tr hc (by simp) (by simp)
theorem BldAt.new (h : Blk w b [.pointer none, .slice none 0 0] T) : BldAt T e w b none 0 [] :=
  ⟨.inl h, ⟨by simp [Lib.byteCells], .inl ⟨rfl, rfl⟩⟩, fun _ => rfl⟩
theorem BldAt.fresh (h : BldAt T e w b A cap s) {k : Nat} (hk : w.heap.size ≤ k) : k ∉ ob A := fun hx => by have := h.own.lt k hx; omega
variable {P : Program} {r : Option Nat} {n : Nat} {O : Array Oper} {Q : Post} {E : Env} {ds : List Deferred} {l : List Oper}
section
variable {dst : Option Nat} {ty : TypeId} {pos : String} {af : Array Edge} {g : Option (Nat × Bool)}
theorem st_pneq_same {t t' te : TypeId} {x y : Operand} {a : Addr} (ht : P.underlying t = some (.pointer te)) (hi : (P.info? te).isSome = true) (hx : ev E x = .pointer (some a)) (hy : ev E y = .pointer (some a)) (hk : wops P r n O Q l (updo E dst (.bool false)) ds w) :
    wop P r n O Q ⟨dst, .binOp .neq t x y t', ty, pos, af, g⟩ l E ds w := by
  obtain ⟨j, hj⟩ := Option.isSome_iff_exists.1 hi
  refine wop_run (fun _ => by simp) ?_ hk
  simp [execOp, hx, hy, eqGuard, Sem.run_bind, Lib.run_neq_ptr_same w a ht hj, Result.andThen]
theorem st_toUnsafe {src t te : TypeId} {x : Operand} {off : Nat} {cs : List Value} (hs : P.underlying src = some (.pointer te)) (hd : P.underlying t = some .unsafePointer) (hi : (P.info? te).map (fun i => i.size != 0) = some true) (hb : Blk w b cs T) (ho : off < cs.length) (hx : ev E x = .pointer (some ⟨b, off, none⟩))
    (hk : wops P r n O Q l (updo E dst (.pointer (some ⟨b, off, none⟩))) ds w) : wop P r n O Q ⟨dst, .convert src t x, ty, pos, af, g⟩ l E ds w := by
  obtain ⟨j, hj, hj2⟩ := Option.map_eq_some_iff.1 hi
  refine wop_run (fun _ => by simp) ?_ hk
  have hsh : w.shape? b = some (T, cs.length) := by simp [World.shape?, show w.heap[b]? = _ from hb]
  simp only [execOp, hx, Sem.run_bind, Lib.run_to_unsafe w ⟨b, off, none⟩ hs hd hj (by simpa using hj2) hsh ho, Result.andThen, Sem.run_pure]
theorem st_fromUnsafe {src t u : TypeId} {x : Operand} {off : Nat} {cs : List Value} (hs : P.underlying src = some .unsafePointer) (hd : P.underlying t = some (.pointer u)) (hi : (P.info? u).isSome = true) (hb : Blk w b cs T) (hl : liesAt P P.depth T (cs.length / P.cellsOf T) off u 1 = true) (hx : ev E x = .pointer (some ⟨b, off, none⟩))
    (hk : wops P r n O Q l (updo E dst (.pointer (some ⟨b, off, none⟩))) ds w) : wop P r n O Q ⟨dst, .convert src t x, ty, pos, af, g⟩ l E ds w := by
  obtain ⟨j, hj⟩ := Option.isSome_iff_exists.1 hi
  refine wop_run (fun _ => by simp) ?_ hk
  have hsh : w.shape? b = some (T, cs.length) := by simp [World.shape?, show w.heap[b]? = _ from hb]
  simp only [execOp, hx, Sem.run_bind, Lib.run_from_unsafe w ⟨b, off, none⟩ hs hd hj hsh hl, Result.andThen, Sem.run_pure]
/-- A call that the model answers itself. -/
theorem st_callV {c : Call} {f : FuncId} {ags : List Value} {v : Value} {x : Operand} {cp : Array Value} (hcal : c.callee = .value x) (hf : ev E x = .func (.func f) #[] cp) (has : c.args.toList.map (ev E) ++ cp.toList = ags) (hent : (callFunc f ⟨ags⟩).run P w = .ok (.value v) w)
    (hk : wops P r n O Q l (updo E dst v) ds w) : wop P r n O Q ⟨dst, .call c, ty, pos, af, g⟩ l E ds w := by
  refine wop_run (fun _ => by simp) ?_ hk
  replace has : (c.args.map (ev E)) ++ cp = ⟨ags⟩ := Array.ext' (by simpa using has)
  simp [execOp, resolve, hcal, hf, Deferred.ofValue, invoke, go_sem, has, hent, Result.andThen]
def byteB (P : Program) (t u e : TypeId) : Prop := P.underlying t = some (.slice e) ∧ P.underlying u = some .string ∧ P.underlying e = some (.int .u8) ∧ P.cellsOf e = 1 ∧ (P.info? e).map (fun i => (i.zero, i.size, i.bytes)) = some (some (.int .u8 0), 1, 1)
open Go.Lib in
theorem run_appendStr {t u ty : TypeId} {s2 : Bytes} (hB : byteB P t u e) (ho : OwnB e w A cap s) (hn : s = [] → A = none) (hl : s.length + s2.length ≤ 140737488355328) :
    ∃ A' cap' w', (Builtin.append_ #[t, u] ty #[.slice A s.length cap, S s2]).run P w = .ok (.slice A' (s ++ s2).length cap') w' ∧ OwnB e w' A' cap' (s ++ s2) ∧ Chg (ob A) w w' ∧ (∀ g, g ∈ ob A' → g ∈ ob A ∨ w.heap.size ≤ g) ∧ (s ++ s2 = [] → A' = none) := by
  obtain ⟨ht, hu, he, hc, hi0⟩ := hB
  obtain ⟨i, hi, hi2⟩ := Option.map_eq_some_iff.1 hi0
  simp only [Prod.mk.injEq] at hi2
  obtain ⟨hz, hsize, hby⟩ := hi2
  have hss : (⟨⟨s2⟩⟩ : ByteArray).size = s2.length := rfl
  have hcells : Lib.strCells ⟨⟨s2⟩⟩ = Lib.byteCells s2 := rfl
  have happ : Lib.byteCells s ++ Lib.byteCells s2 = Lib.byteCells (s ++ s2) := by simp [Lib.byteCells]
  have hx1 : (Lib.byteCells s).length = s.length := Lib.byteCells_length s
  have hlen : (Lib.byteCells (s ++ s2)).length = (s ++ s2).length * 1 := by rw [Lib.byteCells_length, Nat.mul_one]
  rcases ho.2 with ⟨hv, h0⟩ | ⟨g, cp, cur, fz, hv, hbg, hg, hfz, hnc, hcm, hcs, htake⟩
  · -- no row yet
    simp only [Value.slice.injEq] at hv
    obtain ⟨rfl, _, rfl⟩ := hv
    have hs0 : s = [] := List.eq_nil_of_length_eq_zero h0
    subst hs0
    obtain ⟨v', w', h1, h2, h3, h4⟩ := run_append_own_stringF (P := P) w w.heap.size t u ty e i ht hu hi hz hsize hby (.slice none 0 0) 0 [] (World.ownsRowF_nil _ _ _ _) ⟨⟨s2⟩⟩ (by rw [hss]; simp [maxLen]; omega) (by rw [hss]; simpa using hl) (Nat.le_refl _)
    rw [hss, hcells, List.nil_append, Nat.zero_add] at h2
    have hgr : Chg [] w w' := ⟨h3.os, h3.tape, h3.output, h3.size, fun k hk _ => h3.block k hk (by simp [Value.ownBlock])⟩
    rcases h2.2 with ⟨h5, h6⟩ | ⟨g2, cp, cur, fz, h5, h6, h7⟩
    · have hs2 : s2 = [] := List.eq_nil_of_length_eq_zero h6
      subst hs2
      exact ⟨none, 0, w', by rw [h5] at h1; exact h1, ⟨by simp [Lib.byteCells], .inl ⟨rfl, rfl⟩⟩, hgr, by simp [ob], fun _ => rfl⟩
    · refine ⟨some ⟨g2, 0, none⟩, cp, w', by rw [h5] at h1; exact h1, ⟨by simp [Lib.byteCells], .inr ⟨g2, cp, cur, fz, rfl, Nat.zero_le _, h7⟩⟩, hgr, fun g hg => by simp [ob] at hg; exact .inr (by omega), fun hnil => ?_⟩
      have hs2 : s2 = [] := by simpa using hnil
      have := h4.2 ⟨rfl, by rw [hss, hs2]; rfl⟩
      rw [h5] at this; cases this
  · simp only [Value.slice.injEq] at hv
    obtain ⟨rfl, _, rfl⟩ := hv
    have hne : ¬ s = [] := fun h => by have := hn h; cases this
    by_cases hroom : s.length + s2.length ≤ cap
    · have hcs' : cur.size = cap := by simpa using hcs
      have hr := run_append_room_stringF (P := P) w t u ty e i ht hu hi hsize g s.length cap cur fz hg (by simpa using hfz) ⟨⟨s2⟩⟩ (by rw [hss]; exact hroom) (by rw [hss]; omega)
      refine ⟨_, _, _, by rw [List.length_append]; exact hr, ⟨hlen, .inr ⟨g, cap, _, fz, by rw [List.length_append] <;> rfl, hbg, setRow_heap w g cur _ e _ hg, by rw [List.length_append]; omega, by rw [List.length_append]; exact hroom, hcm, ?_, ?_⟩⟩,
        ⟨rfl, rfl, rfl, by simp, fun k _ hk => setRow_other w g k _ (fun e => hk (by simp [ob, e]))⟩, fun g' hg' => by simp [ob] at hg' ⊢; exact .inl hg', fun h => absurd (List.append_eq_nil_iff.1 h).1 hne⟩
      · simp only [List.size_toArray, List.length_append, List.length_take, List.length_drop, Array.length_toList, strCells_length, hss]
        omega
      · have ht' : cur.toList.take s.length = Lib.byteCells s := by simpa using htake
        rw [ht', hcells, happ, ← hlen]
        exact List.take_left
    · have holds : ∀ j u, (Lib.byteCells s)[j]? = some u → w.cell? ((⟨g, 0, none⟩ : Addr).add j) = some u := World.ownsRowF.cells ho (g := g) rfl
      have hr := run_append_grow_string (P := P) w t u ty e i (.int .u8 0) ht hu hi hz ⟨g, 0, none⟩ s.length cap (Lib.byteCells s) (by rw [hsize]; simpa using hx1) holds ⟨⟨s2⟩⟩ (by rw [hss]; omega) (by rw [hss]; omega) (by rw [hby, hss]; exact growslice_fits (by omega) (by omega))
      have hge := grownCap_ge w (s.length + s2.length) cap e
      have hcm2 : grownCap w (s.length + s2.length) cap e ≤ maxLen := grownCap_le_maxLen w (s.length + s2.length) cap e (by simp [maxLen]; omega)
      refine ⟨_, _, _, by rw [List.length_append]; exact hr, ⟨hlen, .inr ⟨w.heap.size, _, _, (0, 0), by rw [List.length_append] <;> rfl, Nat.zero_le _, heap_alloc_new w.drew _, Nat.zero_le _, by rw [List.length_append]; exact hge, hcm2, ?_, ?_⟩⟩,
        ((Chg.drew w).then (Chg.alloc _ _)).wide, fun g' hg' => by simp [ob] at hg'; exact .inr (by omega), fun h => absurd (List.append_eq_nil_iff.1 h).1 hne⟩
      · have hz1 : (Value.int IntKind.u8 0).cells.size = 1 := rfl
        simp only [Array.size_append, List.size_toArray, size_zeroCells, hz1, hx1, strCells_length, hss]
        omega
      · simp only [Array.toList_append, List.append_assoc]
        rw [← List.append_assoc, hcells, happ, ← hlen]
        exact List.take_left
theorem st_appendStr {t u : TypeId} {x y : Operand} {s2 : Bytes} (hB : byteB P t u e) (hx : ev E x = .slice A s.length cap) (hy : ev E y = S s2) (ho : OwnB e w A cap s) (hn : s = [] → A = none) (hl : s.length + s2.length ≤ 140737488355328)
    (h : ∀ A' cap' w', OwnB e w' A' cap' (s ++ s2) → Chg (ob A) w w' → (∀ g, g ∈ ob A' → g ∈ ob A ∨ w.heap.size ≤ g) → (s ++ s2 = [] → A' = none) → wops P r n O Q l (updo E dst (.slice A' (s ++ s2).length cap')) ds w') :
    wop P r n O Q ⟨dst, .call ⟨.builtin .append, #[x, y], #[t, u]⟩, ty, pos, af, g⟩ l E ds w := by
  obtain ⟨A', cap', w', h1, h2, h3, h4, h5⟩ := run_appendStr (ty := ty) (s2 := s2) hB ho hn hl
  refine wop_run (fun _ => by simp) ?_ (h A' cap' w' h2 h3 h4 h5)
  simp only [execOp, resolve, invoke, builtin, List.map_toArray, List.map_cons, List.map_nil, hx, hy, Sem.run_bind, Sem.run_pure, h1, Result.andThen]
/-! ### what String does -/
theorem r_sliceData_nil {x : Operand} {t : TypeId} (hx : ev E x = .slice none 0 0) : (execOp (ev E) ⟨dst, .call ⟨.builtin .unsafeSliceData, #[x], #[t]⟩, ty, pos, af, g⟩).run P w = .ok (.value (.pointer none)) w := by
  simp only [execOp, resolve, invoke, builtin, List.map_toArray, List.map_cons, List.map_nil, hx, Sem.run_bind, Sem.run_pure, Lib.run_unsafeSliceData_nil, Result.andThen]
theorem r_sliceData {x : Operand} {t : TypeId} {a : Addr} {m c : Nat} (hx : ev E x = .slice (some a) m c) (hc : c ≠ 0) : (execOp (ev E) ⟨dst, .call ⟨.builtin .unsafeSliceData, #[x], #[t]⟩, ty, pos, af, g⟩).run P w = .ok (.value (.pointer (some a))) w := by
  simp only [execOp, resolve, invoke, builtin, List.map_toArray, List.map_cons, List.map_nil, hx, Sem.run_bind, Sem.run_pure, Lib.run_unsafeSliceData_row _ _ _ _ _ _ hc, Result.andThen]
theorem r_unsafeString_nil {x y : Operand} {t u : TypeId} {p : Option Addr} (hx : ev E x = .pointer p) (hy : ev E y = .int .i64 0) : (execOp (ev E) ⟨dst, .call ⟨.builtin .unsafeString, #[x, y], #[t, u]⟩, ty, pos, af, g⟩).run P w = .ok (.value (S [])) w := by
  simp only [execOp, resolve, invoke, builtin, List.map_toArray, List.map_cons, List.map_nil, hx, hy, Sem.run_bind, Sem.run_pure, Lib.run_unsafeString_none, Result.andThen]
  rfl
theorem r_unsafeString {x y : Operand} {t u : TypeId} {gb : Nat} (ht : P.underlying t = some (.pointer e)) (hc : P.cellsOf e = 1) (ho : OwnB e w (some ⟨gb, 0, none⟩) cap s) (hs : s ≠ []) (hx : ev E x = .pointer (some ⟨gb, 0, none⟩)) (hy : ev E y = .int .i64 (s.length : Int)) :
    ∃ w', (execOp (ev E) ⟨dst, .call ⟨.builtin .unsafeString, #[x, y], #[t, u]⟩, ty, pos, af, g⟩).run P w = .ok (.value (S s)) w' ∧ OwnB e w' (some ⟨gb, 0, none⟩) cap s ∧ Chg [gb] w w' := by
  have ho2 := ho.2
  rcases ho2 with ⟨hv, _⟩ | ⟨g2, cp, cur, fz, hv, hbg, hg, hfz, hnc, hcm, hcs, htake⟩
  · cases hv
  · simp only [Value.slice.injEq, Option.some.injEq, Addr.mk.injEq] at hv
    obtain ⟨⟨rfl, _⟩, _, rfl⟩ := hv
    have hr := Lib.run_unsafeString_row (P := P) w t u ty e ht hc gb cur.size (by simp [World.shape?, hg]) s hs (by omega) (by simp [maxLen] at hcm; omega) (fun j x hx => World.ownsRowF.cells ho (g := gb) rfl j (.int .u8 x.toNat) (by simp [Lib.byteCells, hx]))
    refine ⟨w.freeze ⟨gb, 0, none⟩ s.length, ?_, ⟨ho.1, ?_⟩, ?_⟩
    · simp only [execOp, resolve, invoke, builtin, List.map_toArray, List.map_cons, List.map_nil, hx, hy, Sem.run_bind, Sem.run_pure, hr, Result.andThen]
      rfl
    · unfold World.freeze
      split
      · exact ho.2
      · refine .inr ⟨gb, cap, cur, (if fz.1 == fz.2 then (0, 0 + s.length) else (min fz.1 0, max fz.2 (0 + s.length))), rfl, hbg, ?_, ?_, hnc, hcm, hcs, htake⟩
        · simp [Array.getElem?_modify, hg]
        · split <;> simp <;> omega
    · unfold World.freeze
      split
      · exact .wide (.refl _)
      · exact ⟨rfl, rfl, rfl, by simp, fun k hk hne => by simp only [Array.getElem?_modify]; rw [if_neg (by simpa [eq_comm] using hne)]⟩
theorem sq_us {i : Nat} {rest : List (Nat × Nat)} {K : Env → World → Prop} {T0 : World → Prop} {o : Oper} {v : Value} {lo : List Oper} {F : World → Prop} (ho : lo[i]? = some o) (hr : ∃ w', (execOp (ev E) o).run P w = .ok (.value v) w' ∧ F w')
    (h : ∀ w', F w' → ∃ T' : World → Prop, (∀ x, T' x → T0 x) ∧ T' w' ∧ seqP P lo K rest T' (updo E o.dst v) w') (hw : wantE lo o E = true := by rfl) : seqP P lo K ((i, 1) :: rest) T0 E w := by
  obtain ⟨w', h1, h2⟩ := hr
  obtain ⟨T', q1, q2, q3⟩ := h w' h2
  exact sq_run1 ho h1 T' q1 q2 q3 hw
end
theorem CallR.imp {f : FuncId} {as : Array Value} {Φ Ψ : Value → World → Prop} (h : CallR P f as w Φ) (hi : ∀ v w', Φ v w' → Ψ v w') : CallR P f as w Ψ := Calls.mono h fun e w' ⟨v, h1, h2⟩ => ⟨v, h1, hi v w' h2⟩
/-- What a condition's words come to. -/
theorem nm : (∀ (p : Prop) [Decidable p], (decide p = true) = p) ∧ (∀ (p : Prop) [Decidable p], (decide p = false) = ¬ p) ∧ (∀ b : Bool, ((!b) = true) = (b = false)) ∧ (∀ b : Bool, ((!b) = false) = (b = true)) ∧ ((!true) = false) ∧ ((!false) = true) ∧
    (∀ n : Nat, ((n : Int)).toNat = n) ∧ ((0 : Int).toNat = 0) ∧ ((1 : Int).toNat = 1) ∧ (∀ b : Bool, (¬ (b = true)) = (b = false)) ∧ (∀ b : Bool, (¬ (b = false)) = (b = true)) :=
  ⟨fun p _ => by simp, fun p _ => by simp, fun b => by cases b <;> simp, fun b => by cases b <;> simp, rfl, rfl, fun _ => rfl, rfl, rfl, fun b => by cases b <;> simp, fun b => by cases b <;> simp⟩
end Go.Proofs.YtmbbhgglllfelaaDoor.K
