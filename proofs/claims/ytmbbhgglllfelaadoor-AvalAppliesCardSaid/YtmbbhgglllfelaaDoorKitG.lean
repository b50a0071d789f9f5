/- The walk's own rules, seventh part: the steps of a statement whose order is open, where they write or make memory. -/
import Derived.Test.YtmbbhgglllfelaaDoorKitF
set_option linter.unusedVariables false
set_option linter.unusedSimpArgs false
set_option autoImplicit false
namespace Go.Proofs.YtmbbhgglllfelaaDoor.K
open Go Go.RowKit
variable {P : Program} {E : Env} {w : World} {l : List Oper} {K : Env → World → Prop} {T : World → Prop} {rest : List (Nat × Nat)} {i : Nat}
variable {dst : Option Nat} {ty : TypeId} {pos : String} {af : Array Edge} {g : Option (Nat × Bool)}
theorem sq_store2 {t T' : TypeId} {x y : Operand} {b off k : Nat} {v : Value} {vs cs cs' : List Value} (ho : l[i]? = some ⟨dst, .store t x y, ty, pos, af, g⟩) (ht : sizeB P t k = true) (hx : ev E x = .pointer (some ⟨b, off, none⟩)) (hy : ev E y = v) (hv : v.cells = ⟨vs⟩) (hb : Blk w b cs T') (hk : vs.length = k)
    (hl : off + vs.length ≤ cs.length) (h1 : ∀ u ∈ vs, u.oneCell' = true) (hcs : setVs cs off vs = cs') (h : ∀ w', Chg [b] w w' → Blk w' b cs' T' → seqP P l K rest T (updo E dst undef) w') (hw : wantE l ⟨dst, .store t x y, ty, pos, af, g⟩ E = true := by rfl) : seqP P l K ((i, 2) :: rest) T E w := by
  obtain ⟨w', h2, h3, h4⟩ := r_store (P := P) (dst := dst) (ty := ty) (pos := pos) (af := af) (g := g) ht hx hy hv hb hk hl h1 hcs
  exact sq_skip2 ho h2 (h w' h3 h4) hw
theorem sq_store1 {t T' : TypeId} {x y : Operand} {b off k : Nat} {v : Value} {vs cs cs' : List Value} (ho : l[i]? = some ⟨dst, .store t x y, ty, pos, af, g⟩) (ht : sizeB P t k = true) (hx : ev E x = .pointer (some ⟨b, off, none⟩)) (hy : ev E y = v) (hv : v.cells = ⟨vs⟩) (hb : Blk w b cs T') (hk : vs.length = k)
    (hl : off + vs.length ≤ cs.length) (h1 : ∀ u ∈ vs, u.oneCell' = true) (hcs : setVs cs off vs = cs') (h : ∀ w', Chg [b] w w' → Blk w' b cs' T' → ∃ T2 : World → Prop, (∀ x, T2 x → T x) ∧ T2 w' ∧ seqP P l K rest T2 (updo E dst undef) w') (hw : wantE l ⟨dst, .store t x y, ty, pos, af, g⟩ E = true := by rfl) : seqP P l K ((i, 1) :: rest) T E w := by
  obtain ⟨w', h2, h3, h4⟩ := r_store (P := P) (dst := dst) (ty := ty) (pos := pos) (af := af) (g := g) ht hx hy hv hb hk hl h1 hcs
  obtain ⟨T2, q1, q2, q3⟩ := h w' h3 h4
  exact sq_skip1 ho h2 T2 q1 q2 q3 hw
theorem sq_lit1 {t e : TypeId} {m size : Nat} {ps : List (Nat × Operand)} {vs : List Value} (ho : l[i]? = some ⟨dst, .buildSlice t m ps.toArray, ty, pos, af, g⟩) (hb : litB P t e size) (hm : m * size ≤ 16777216) (hi : ps.map (·.1) = List.range' 0 m) (hs : ∀ p ∈ ps, (cellsOf (ev E p.2)).length = size)
    (hv : flatV (ps.map fun p => cellsOf (ev E p.2)) = vs) (h : ∀ b w', b = w.heap.size → Chg [] w w' → Blk w' b vs e → ∃ T' : World → Prop, (∀ x, T' x → T x) ∧ T' w' ∧ seqP P l K rest T' (updo E dst (.slice (some ⟨b, 0, none⟩) m m)) w') (hw : wantE l ⟨dst, .buildSlice t m ps.toArray, ty, pos, af, g⟩ E = true := by rfl) :
    seqP P l K ((i, 1) :: rest) T E w := by
  obtain ⟨T', q1, q2, q3⟩ := h w.heap.size _ rfl (Chg.alloc w _) (Blk.new w vs e)
  exact sq_run1 ho (r_lit hb hm hi hs hv) T' q1 q2 q3 hw
theorem sq_alloc1 {t : TypeId} {zs : List Value} (ho : l[i]? = some ⟨dst, .alloc t, ty, pos, af, g⟩) (hz : zeroB P t zs) (h : ∀ b w', b = w.heap.size → Chg [] w w' → Blk w' b zs t → ∃ T' : World → Prop, (∀ x, T' x → T x) ∧ T' w' ∧ seqP P l K rest T' (updo E dst (.pointer (some ⟨b, 0, none⟩))) w') (hw : wantE l ⟨dst, .alloc t, ty, pos, af, g⟩ E = true := by rfl) :
    seqP P l K ((i, 1) :: rest) T E w := by
  obtain ⟨j, z, h1, h2, h3⟩ := hz
  obtain ⟨T', q1, q2, q3⟩ := h w.heap.size _ rfl (Chg.alloc w _) (Blk.new w zs t)
  refine sq_run1 (w' := w.alloc (.cells ⟨zs⟩ t)) ho ?_ T' q1 q2 q3 hw
  simp [execOp, Instr.alloc, go_sem, zeroValue, typeInfo, h1, h2, run_newVar h3, Result.andThen]
  exact congrArg (fun c => w.alloc (Obj.cells c t)) h3
theorem r_box {t : TypeId} {x : Operand} {v : Value} {vs : List Value} (hx : ev E x = v) (hv : v.cells = ⟨vs⟩) :
    (execOp (ev E) ⟨dst, .box t x, ty, pos, af, g⟩).run P w = .ok (.value (.pointer (some ⟨w.heap.size, 0, none⟩))) (w.alloc (.cells ⟨vs⟩ t)) := by
  simp [execOp, Instr.box, hx, go_sem, run_newVar hv, Result.andThen]
  exact congrArg (fun c => w.alloc (Obj.cells c t)) hv
theorem sq_box1 {t : TypeId} {x : Operand} {v : Value} {vs : List Value} (ho : l[i]? = some ⟨dst, .box t x, ty, pos, af, g⟩) (hx : ev E x = v) (hv : v.cells = ⟨vs⟩) (h : ∀ b w', b = w.heap.size → Chg [] w w' → Blk w' b vs t → ∃ T' : World → Prop, (∀ x, T' x → T x) ∧ T' w' ∧ seqP P l K rest T' (updo E dst (.pointer (some ⟨b, 0, none⟩))) w') (hw : wantE l ⟨dst, .box t x, ty, pos, af, g⟩ E = true := by rfl) :
    seqP P l K ((i, 1) :: rest) T E w := by
  obtain ⟨T', q1, q2, q3⟩ := h w.heap.size _ rfl (Chg.alloc w _) (Blk.new w vs t)
  exact sq_run1 ho (r_box hx hv) T' q1 q2 q3 hw
theorem sq_append1 {α : Type} {c : Enc α} {D D2 : Nat → Prop} {A : Option Addr} {cap b o m m2 k : Nat} {xs ys : List α} {t e : TypeId} {bytes : Nat} {x y : Operand} (ho' : l[i]? = some ⟨dst, .call ⟨.builtin .append, #[x, y], #[t, t]⟩, ty, pos, af, g⟩) (hS : sliceB P t e c.sz bytes)
    (hx : ev E x = .slice A m cap) (hm : m = xs.length) (ho : Own c e w D A cap xs) (hyv : ev E y = .slice (some ⟨b, o, none⟩) k m2) (hk : k = ys.length) (hy : ∀ (i : Nat) (y : α), ys[i]? = some y → ∃ vs, c.R w D2 y vs ∧ Cells w b (o + i * c.sz) vs)
    (hD2 : ∀ k, k < w.heap.size → D2 k → D k ∧ k ∉ ob A) (hfr : ∀ k, w.heap.size ≤ k → D k) (h63 : xs.length + ys.length ≤ 9223372036854775807) (hby : (xs.length + ys.length) * bytes ≤ 140737488355328)
    (h : ∀ A' cap' w', Own c e w' D A' cap' (xs ++ ys) → Chg (ob A) w w' → (∀ g, g ∈ ob A' → g ∈ ob A ∨ w.heap.size ≤ g) → ∃ T' : World → Prop, (∀ x, T' x → T x) ∧ T' w' ∧ seqP P l K rest T' (updo E dst (.slice A' (xs.length + ys.length) cap')) w') (hw : wantE l ⟨dst, .call ⟨.builtin .append, #[x, y], #[t, t]⟩, ty, pos, af, g⟩ E = true := by rfl) :
    seqP P l K ((i, 1) :: rest) T E w := by
  obtain ⟨A', cap', w', h1, h2, h3, h4⟩ := r_append (dst := dst) (ty := ty) (pos := pos) (af := af) (g := g) hS hx hm ho hyv hk hy hD2 hfr h63 hby
  obtain ⟨T', q1, q2, q3⟩ := h A' cap' w' h2 h3 h4
  exact sq_run1 ho' h1 T' q1 q2 q3 hw
/-- One element, out of cells of its own. -/
theorem one_elem {α : Type} {c : Enc α} {D : Nat → Prop} {x : α} {vs : List Value} {b : Nat} (h : c.R w D x vs) (hc : Cells w b 0 vs) : ∀ (i : Nat) (y : α), [x][i]? = some y → ∃ vs, c.R w D y vs ∧ Cells w b (0 + i * c.sz) vs := fun i y hy => by
  cases i with
  | zero => simp at hy; subst hy; exact ⟨vs, h, by simpa using hc⟩
  | succ i => simp at hy
/-- A call's contract over this library's own forms. -/
theorem CallR.of {f : FuncId} {as : Array Value} {R : Ending → World → Prop} {Φ : Value → World → Prop} (h : Calls P f as w R) (hm : ∀ e w', R e w' → ∃ v, e = .returned v ∧ Φ v w') : CallR P f as w Φ := h.mono hm
theorem Blk.of_eq {b : Nat} {cs : List Value} {T : TypeId} {w' : World} (h : Blk w b cs T) (e : w'.heap[b]? = w.heap[b]?) : Blk w' b cs T := Eq.trans e h
theorem Blk.kept {b : Nat} {cs : List Value} {T : TypeId} {w' : World} {K : Nat → Prop} (h : Blk w b cs T) (hk : Kept K w w') (hb : K b) : Blk w' b cs T := h.of_eq (hk.2 b hb h.lt)
theorem Chg.refl' {w' : World} (h : w' = w) : Chg [] w w' := by subst h; exact .refl _
theorem Own.ne_blk {α : Type} {c : Enc α} {e : TypeId} {D : Nat → Prop} {A : Option Addr} {cap : Nat} {xs : List α} {b : Nat} {cs : List Value} {T : TypeId} (h : Own c e w D A cap xs) (hb : Blk w b cs T) (hT : T ≠ e) : b ∉ ob A := by
  obtain ⟨cs', h1, h2, h3⟩ := h
  rcases h1.2 with ⟨h4, h5⟩ | ⟨g, cp, cur, h4, h5, h6, _⟩
  · simp only [Value.slice.injEq] at h4; obtain ⟨rfl, _, _⟩ := h4; simp [ob]
  · simp only [Value.slice.injEq] at h4; obtain ⟨rfl, _, _⟩ := h4
    intro hx; simp [ob] at hx; subst hx
    rw [show w.heap[b]? = _ from hb] at h6
    simp only [Option.some.injEq, Obj.cells.injEq] at h6
    exact hT h6.2.1
end Go.Proofs.YtmbbhgglllfelaaDoor.K
