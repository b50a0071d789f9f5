import Derived.Test.YtghjmiggobpmoaaGreatDoorKitF
import Derived.Laws.BytesString
import Derived.Lib.ConvBytes
import Derived.Deep.Slices
import Derived.ChangeMaps5
import Derived.SizedLaws
import Derived.WideShapes
import Derived.Carry
import Derived.Laws.StructEq
import Derived.Laws.Cover3
import Derived.Laws.Pointers
import Derived.Lib.FrozenHead
import Derived.Lib.UnsafeStr
set_option linter.unusedVariables false
set_option linter.unusedSimpArgs false
set_option autoImplicit false
namespace Go.Proofs.YtghjmiggobpmoaaGreatDoor.K
open Go Go.RowKit
variable {P : Program} {X : Value → World → Prop} {E : Env} {w : World} {l : List Oper} {K : (World → Prop) → Env → World → Prop} {T : World → Prop} {rest : List (Nat × Nat)} {i : Nat}
variable {dst : Option Nat} {ty : TypeId} {pos : String} {af : Array Edge} {g : Option (Nat × Bool)}
theorem sq_store2 {t T' : TypeId} {x y : Operand} {b off k : Nat} {v : Value} {vs cs cs' : List Value} (ho : l[i]? = some ⟨dst, .store t x y, ty, pos, af, g⟩) (ht : sizeB P t k = true) (hx : ev E x = .pointer (some ⟨b, off, none⟩)) (hy : ev E y = v) (hv : v.cells = ⟨vs⟩) (hb : Blk w b cs T') (hk : vs.length = k)
    (hl : off + vs.length ≤ cs.length) (h1 : ∀ u ∈ vs, u.oneCell' = true) (hcs : setVs cs off vs = cs') (h : ∀ w', Chg [b] w w' → Blk w' b cs' T' → seqP P X l K rest T (updo E dst undef) w') (hw : wantE l ⟨dst, .store t x y, ty, pos, af, g⟩ E = true := by rfl) : seqP P X l K ((i, 2) :: rest) T E w := by
  obtain ⟨w', h2, h3, h4⟩ := r_store (P := P) (dst := dst) (ty := ty) (pos := pos) (af := af) (g := g) ht hx hy hv hb hk hl h1 hcs
  exact sq_skip2 ho h2 (h w' h3 h4) hw
theorem sq_store1 {t T' : TypeId} {x y : Operand} {b off k : Nat} {v : Value} {vs cs cs' : List Value} (ho : l[i]? = some ⟨dst, .store t x y, ty, pos, af, g⟩) (ht : sizeB P t k = true) (hx : ev E x = .pointer (some ⟨b, off, none⟩)) (hy : ev E y = v) (hv : v.cells = ⟨vs⟩) (hb : Blk w b cs T') (hk : vs.length = k)
    (hl : off + vs.length ≤ cs.length) (h1 : ∀ u ∈ vs, u.oneCell' = true) (hcs : setVs cs off vs = cs') (h : ∀ w', Chg [b] w w' → Blk w' b cs' T' → ∃ T2 : World → Prop, (∀ x, T2 x → T x) ∧ T2 w' ∧ seqP P X l K rest T2 (updo E dst undef) w') (hw : wantE l ⟨dst, .store t x y, ty, pos, af, g⟩ E = true := by rfl) : seqP P X l K ((i, 1) :: rest) T E w := by
  obtain ⟨w', h2, h3, h4⟩ := r_store (P := P) (dst := dst) (ty := ty) (pos := pos) (af := af) (g := g) ht hx hy hv hb hk hl h1 hcs
  obtain ⟨T2, q1, q2, q3⟩ := h w' h3 h4
  exact sq_skip1 ho h2 T2 q1 q2 q3 hw
theorem sq_lit1 {t e : TypeId} {m size : Nat} {ps : List (Nat × Operand)} {vs : List Value} (ho : l[i]? = some ⟨dst, .buildSlice t m ps.toArray, ty, pos, af, g⟩) (hb : litB P t e size) (hm : m * size ≤ 16777216) (hi : ps.map (·.1) = List.range' 0 m) (hs : ∀ p ∈ ps, (cellsOf (ev E p.2)).length = size)
    (hv : flatV (ps.map fun p => cellsOf (ev E p.2)) = vs) (h : ∀ b w', b = w.heap.size → Chg [] w w' → Blk w' b vs e → ∃ T' : World → Prop, (∀ x, T' x → T x) ∧ T' w' ∧ seqP P X l K rest T' (updo E dst (.slice (some ⟨b, 0, none⟩) m m)) w') (hw : wantE l ⟨dst, .buildSlice t m ps.toArray, ty, pos, af, g⟩ E = true := by rfl) :
    seqP P X l K ((i, 1) :: rest) T E w := by
  obtain ⟨T', q1, q2, q3⟩ := h w.heap.size _ rfl (Chg.alloc w _) (Blk.new w vs e)
  exact sq_run1 ho (r_lit hb hm hi hs hv) T' q1 q2 q3 hw
theorem sq_append1 {α : Type} {c : Enc α} {D D2 : Nat → Prop} {A : Option Addr} {cap b o m m2 k : Nat} {xs ys : List α} {t e : TypeId} {bytes : Nat} {x y : Operand} (ho' : l[i]? = some ⟨dst, .call ⟨.builtin .append, #[x, y], #[t, t]⟩, ty, pos, af, g⟩) (hS : sliceB P t e c.sz bytes)
    (hx : ev E x = .slice A m cap) (hm : m = xs.length) (ho : Own c e w D A cap xs) (hyv : ev E y = .slice (some ⟨b, o, none⟩) k m2) (hk : k = ys.length) (hy : ∀ (i : Nat) (y : α), ys[i]? = some y → ∃ vs, c.R w D2 y vs ∧ Cells w b (o + i * c.sz) vs)
    (hD2 : ∀ k, k < w.heap.size → D2 k → D k ∧ k ∉ ob A) (hfr : ∀ k, w.heap.size ≤ k → D k) (h63 : xs.length + ys.length ≤ 9223372036854775807) (hby : (xs.length + ys.length) * bytes ≤ 140737488355328)
    (h : ∀ A' cap' w', Own c e w' D A' cap' (xs ++ ys) → Chg (ob A) w w' → (∀ g, g ∈ ob A' → g ∈ ob A ∨ w.heap.size ≤ g) → ∃ T' : World → Prop, (∀ x, T' x → T x) ∧ T' w' ∧ seqP P X l K rest T' (updo E dst (.slice A' (xs.length + ys.length) cap')) w') (hw : wantE l ⟨dst, .call ⟨.builtin .append, #[x, y], #[t, t]⟩, ty, pos, af, g⟩ E = true := by rfl) :
    seqP P X l K ((i, 1) :: rest) T E w := by
  obtain ⟨A', cap', w', h1, h2, h3, h4⟩ := r_append (dst := dst) (ty := ty) (pos := pos) (af := af) (g := g) hS hx hm ho hyv hk hy hD2 hfr h63 hby
  obtain ⟨T', q1, q2, q3⟩ := h A' cap' w' h2 h3 h4
  exact sq_run1 ho' h1 T' q1 q2 q3 hw
theorem one_elem {α : Type} {c : Enc α} {D : Nat → Prop} {x : α} {vs : List Value} {b : Nat} (h : c.R w D x vs) (hc : Cells w b 0 vs) : ∀ (i : Nat) (y : α), [x][i]? = some y → ∃ vs, c.R w D y vs ∧ Cells w b (0 + i * c.sz) vs := fun i y hy => by
  cases i with
  | zero => simp at hy; subst hy; exact ⟨vs, h, by simpa using hc⟩
  | succ i => simp at hy
theorem CallR.of {f : FuncId} {as : Array Value} {R : Ending → World → Prop} {Φ : Value → World → Prop} (h : Calls P f as w R) (hm : ∀ e w', R e w' → ∃ v, e = .returned v ∧ Φ v w') : CallR P f as w Φ := h.mono hm
theorem Blk.of_eq {b : Nat} {cs : List Value} {T : TypeId} {w' : World} (h : Blk w b cs T) (e : w'.heap[b]? = w.heap[b]?) : Blk w' b cs T := Eq.trans e h
theorem Blk.kept {b : Nat} {cs : List Value} {T : TypeId} {w' : World} {K : Nat → Prop} (h : Blk w b cs T) (hk : Kept K w w') (hb : K b) : Blk w' b cs T := h.of_eq (hk.2 b hb h.lt)
theorem Chg.refl' {w' : World} (h : w' = w) : Chg [] w w' := by subst h; exact .refl _
theorem Own.ne_blk {α : Type} {c : Enc α} {e : TypeId} {D : Nat → Prop} {A : Option Addr} {cap : Nat} {xs : List α} {b : Nat} {cs : List Value} {T : TypeId} (h : Own c e w D A cap xs) (hb : Blk w b cs T) (hT : T ≠ e) : b ∉ ob A := by
  obtain ⟨cs', h1, h2, h3⟩ := h
  rcases h1.2 with ⟨h4, h5⟩ | ⟨g, cp, cur, h4, h5, h6, _⟩
  · simp only [Value.slice.injEq] at h4; obtain ⟨rfl, _, _⟩ := h4; simp [ob]
  · simp only [Value.slice.injEq] at h4; obtain ⟨rfl, _, _⟩ := h4
    intro hx; simp [ob] at hx; subst hx
    rw [show w.heap[b]? = _ from hb] at h6
    simp only [Option.some.injEq, Obj.cells.injEq] at h6
    exact hT h6.2.1
end Go.Proofs.YtghjmiggobpmoaaGreatDoor.K
set_option linter.unusedVariables false
set_option linter.unusedSimpArgs false
set_option autoImplicit false
namespace Go.Proofs.YtghjmiggobpmoaaGreatDoor.K
open Go Go.RowKit
variable {P : Program} {r : Option Nat} {n : Nat} {O : Array Oper} {Q : Post} {E : Env} {w : World} {l : List Oper}
def mb : List Deferred → List Nat
  | [] => []
  | d :: ds => (match d.target with | .collected D => D | _ => 0) :: mb ds
def Marks (N : Nat) : List Deferred → World → Prop
  | [], _ => True
  | d :: ds, w => ∃ D, d = mk D ∧ N ≤ D ∧ D ∉ mb ds ∧ DefD D w ∧ Marks N ds w
theorem Marks.tr {N : Nat} {bs : List Nat} {w' : World} : ∀ {ds : List Deferred}, Marks N ds w → Chg bs w w' → (∀ k, k ∈ mb ds → k ∉ bs) → Marks N ds w'
  | [], _, _, _ => trivial
  | d :: ds, ⟨D, h1, h2, h3, h4, h5⟩, hc, hb => ⟨D, h1, h2, h3, (hc.block D (Array.getElem?_eq_some_iff.1 h4).1 (hb D (by subst h1; simp [mb, mk]))).trans h4, Marks.tr h5 hc fun k hk => hb k (by simp [mb, hk])⟩
theorem Marks.lt {N : Nat} : ∀ {ds : List Deferred}, Marks N ds w → ∀ k, k ∈ mb ds → N ≤ k ∧ k < w.heap.size
  | [], _, k, hk => by simp [mb] at hk
  | d :: ds, ⟨D, h1, h2, h3, h4, h5⟩, k, hk => by
    subst h1
    simp only [mb, mk, List.mem_cons] at hk
    rcases hk with rfl | hk
    · exact ⟨h2, (Array.getElem?_eq_some_iff.1 h4).1⟩
    · exact Marks.lt h5 k hk
theorem Marks.cons {N D : Nat} {ds : List Deferred} (h : Marks N ds w) (hN : N ≤ D) (hD : DefD D w) (hn : D ∉ mb ds) : Marks N (mk D :: ds) w := ⟨D, rfl, hN, hn, hD, h⟩
theorem mb_cons (D : Nat) (ds : List Deferred) : mb (mk D :: ds) = D :: mb ds := rfl
theorem retM_marks {fn : Func} {Φ : Value → World → Prop} {N : Nat} : ∀ {ds : List Deferred} {w : World}, Marks N ds w → (∀ w', Chg (mb ds) w w' → retP P fn Φ .ret E [] w') → retM P fn Φ E ds w
  | [], w, _, h => retM_none (h w (.refl w))
  | d :: ds, w, ⟨D, h1, h2, h3, h4, h5⟩, h => by
    refine ⟨D, h1, h4, retM_marks (N := N) (h5.tr (Chg.putObj w D _) (fun k hk hx => by simp at hx; subst hx; exact h3 hk)) fun w' hc => h w' ?_⟩
    subst h1
    refine ((Chg.putObj w D (.deferred none)).mono (fun x hx => ?_)).trans hc (fun x hx => ?_)
    · simp at hx; subst hx; simp [mb, mk]
    · exact .inl (by simp [mb, hx])

section
variable {α : Type} {c : Enc α} {e : TypeId} {D D' : Nat → Prop} {A : Option Addr} {cap : Nat} {xs : List α}
def Flat (c : Enc α) : Prop := ∀ {w w' : World} {D D' : Nat → Prop} {x : α} {vs : List Value}, c.R w D x vs → c.R w' D' x vs
theorem flat_flat {sz : Nat} {f : α → List Value} {h1 h2 h3} : Flat (Enc.flat sz f h1 h2 h3) := fun h => h
theorem Own.flat (h : Own c e w D A cap xs) (hf : Flat c) (hD : ∀ k, k ∈ ob A → D k → D' k) : Own c e w D' A cap xs := by
  obtain ⟨cs, h1, h2, h3⟩ := h
  exact ⟨cs, h1, fun g hg => hD g hg (h2 g hg), ⟨h3.1, fun i x hx => let ⟨vs, q1, q2⟩ := h3.2 i x hx; ⟨vs, hf q1, q2⟩⟩⟩
theorem Own.trF {w' : World} {bs : List Nat} (h : Own c e w D A cap xs) (hf : Flat c) (hc : Chg bs w w') (hb : ∀ k, k ∈ ob A → k ∉ bs) : Own c e w' D A cap xs :=
  ((h.flat (D' := fun k => k ∈ ob A) hf fun k hk _ => hk).tr hc fun b hb1 hb2 => hb b hb2 hb1).flat hf fun k hk _ => h.inD k hk
def Av (F : List Nat) (A : Option Addr) : Prop := ∀ k, k ∈ ob A → k ∉ F
theorem Av.step {F : List Nat} {A' : Option Addr} {m : Nat} (h : Av F A) (hg : ∀ g, g ∈ ob A' → g ∈ ob A ∨ m ≤ g) (hF : ∀ k, k ∈ F → k < m) : Av F A' := fun k hk hx => by
  rcases hg k hk with h1 | h1
  · exact h k h1 hx
  · have := hF k hx; omega
theorem Av.sub {F F' : List Nat} (h : Av F A) (hs : ∀ k, k ∈ F' → k ∈ F) : Av F' A := fun k hk hx => h k hk (hs k hx)
theorem Av.cons {F : List Nat} {b : Nat} (h : Av F A) (hb : b ∉ ob A) : Av (b :: F) A := fun k hk hx => by
  rcases List.mem_cons.1 hx with rfl | hx
  · exact hb hk
  · exact h k hk hx
theorem Sl.at {i : Nat} {x : α} (h : Sl c w D A xs) (hx : xs[i]? = some x) : ∃ b o vs, A = some ⟨b, o, none⟩ ∧ c.R w D x vs ∧ Cells w b (o + i * c.sz) vs := by
  rcases h with h | ⟨b, o, h1, h2, h3, h4⟩
  · subst h; simp at hx
  · obtain ⟨vs, h5, h6⟩ := h4 i x hx
    exact ⟨b, o, vs, h1, h5, h6⟩
theorem Cells.at {b off j : Nat} {v : Value} {vs : List Value} (h : Cells w b off vs) (hv : nthV vs j = some v) : w.cell? ⟨b, off + j, none⟩ = some v := h j v (by rw [← nthV_eq]; exact hv)
theorem Own.fresh (h : Own c e w D A cap xs) {b : Nat} (hb : w.heap.size ≤ b) : b ∉ ob A := fun hx => by have := h.lt b hx; omega
end
end Go.Proofs.YtghjmiggobpmoaaGreatDoor.K
set_option linter.unusedVariables false
set_option linter.unusedSimpArgs false
set_option autoImplicit false
namespace Go.Proofs.YtghjmiggobpmoaaGreatDoor.K
open Go Go.RowKit
variable {P : Program} {r : Option Nat} {n : Nat} {O : Array Oper} {Q : Post} {E : Env} {ds : List Deferred} {w : World} {l : List Oper}
section
variable {dst : Option Nat} {ty : TypeId} {pos : String} {af : Array Edge} {g : Option (Nat × Bool)}
theorem st_append2 {α : Type} {c : Enc α} {D D2 : Nat → Prop} {A : Option Addr} {cap b o m m2 k : Nat} {xs ys : List α} {t e : TypeId} {bytes : Nat} {x y : Operand} (hS : sliceB P t e c.sz bytes)
    (hx : ev E x = .slice A m cap) (hm : m = xs.length) (ho : Own c e w D A cap xs) (hyv : ev E y = .slice (some ⟨b, o, none⟩) k m2) (hk : k = ys.length) (hy : ∀ (i : Nat) (y : α), ys[i]? = some y → ∃ vs, c.R w D2 y vs ∧ Cells w b (o + i * c.sz) vs)
    (hD2 : ∀ k, k < w.heap.size → D2 k → D k ∧ k ∉ ob A) (hfr : ∀ k, w.heap.size ≤ k → D k) (h63 : xs.length + ys.length ≤ 9223372036854775807) (hby : (xs.length + ys.length) * bytes ≤ 140737488355328)
    (h : ∀ A' cap' w', Own c e w' D A' cap' (xs ++ ys) → Chg (ob A) w w' → (∀ g, g ∈ ob A' → g ∈ ob A ∨ w.heap.size ≤ g) → wops P r n O Q l (updo E dst (.slice A' (xs ++ ys).length cap')) ds w') :
    wop P r n O Q ⟨dst, .call ⟨.builtin .append, #[x, y], #[t, t]⟩, ty, pos, af, g⟩ l E ds w :=
  st_append hS hx hm ho hyv hk hy hD2 hfr h63 hby fun A' cap' w' h1 h2 h3 => by rw [← List.length_append]; exact h A' cap' w' h1 h2 h3
end
section
variable {α : Type} {c : Enc α} {D D' : Nat → Prop} {A : Option Addr} {xs : List α}
theorem Sl.trF {w' : World} {bs : List Nat} (h : Sl c w D A xs) (hf : Flat c) (hc : Chg bs w w') (hb : ∀ b, b ∈ bs → xs = [] ∨ b ∉ ob A) : Sl c w' D A xs := by
  rcases h with h | ⟨b, o, h1, h2, h3, h4⟩
  · exact .inl h
  · by_cases hx : b ∈ bs
    · rcases hb b hx with h | h
      · exact .inl h
      · exact absurd (by rw [h1]; simp [ob]) h
    · exact .inr ⟨b, o, h1, Nat.lt_of_lt_of_le h2 hc.size, h3, fun i x hi => let ⟨vs, q1, q2⟩ := h4 i x hi; ⟨vs, hf q1, q2.tr (hc.block b h2 hx)⟩⟩
theorem Sl.fresh (h : Sl c w D A xs) {b : Nat} (hb : w.heap.size ≤ b) : xs = [] ∨ b ∉ ob A := by
  rcases h with h | ⟨k, o, h1, h2, _⟩
  · exact .inl h
  · refine .inr fun hx => ?_
    rw [h1] at hx; simp [ob] at hx; omega
end
theorem agree_over_sub {S S' : List Nat} {E1 E G : Env} (h : Agree S E1 E) (hs : (S'.all fun d => S.contains d) = true) : Agree S (over E1 S' G) E := fun i hi => by
  have hn : S'.contains i = false := by
    cases hc : S'.contains i with
    | false => rfl
    | true => rw [List.all_eq_true] at hs; have := hs i (by simpa using hc); rw [this] at hi; cases hi
  simp only [over, hn]; exact h i hi
end Go.Proofs.YtghjmiggobpmoaaGreatDoor.K
set_option linter.unusedVariables false
set_option linter.unusedSimpArgs false
set_option autoImplicit false
namespace Go.Proofs.YtghjmiggobpmoaaGreatDoor.K
open Go Go.RowKit Go.ChangeShapes Go.WideShapes
variable {H : Type} {enc : TypeId × Value → H} {P : Program}
def allLe (l : List Nat) : Prop := ∀ n, n ∈ l → n ≤ reachBytes
def Fits (enc : TypeId × Value → H) (P : Program) {α : Type} (c : Enc α) (t : TypeId) (ok : α → Prop) : Prop :=
  ∀ (w : World) (fuel : Nat) (cs : List Value) (d : DataW H) (ps : List MemPlace), DataW.trod enc P w 0 (fun _ => true) true fuel t cs = some (d, ps) → allLe (d.weights P t) → ∃ a, c.R w (fun k => k < w.heap.size) a cs ∧ ok a
theorem fits_string {t : TypeId} (ht : P.underlying t = some .string) : Fits enc P sE t (fun s => s.length ≤ 140737488351232) := by
  intro w fuel cs d ps h hw
  obtain ⟨s, h1, h2, h3⟩ := DataW.trod_string ht h
  simp only [Prod.mk.injEq] at h2
  obtain ⟨rfl, rfl⟩ := h2
  refine ⟨s.data.toList, ?_, ?_⟩
  · rw [h1]; exact congrArg (fun v => [v]) (S_eta s)
  · have := hw s.data.toList.length (by simp [DataW.weights])
    simpa [reachBytes] using this
theorem fits_int {t : TypeId} {k : IntKind} (ht : P.underlying t = some (.int k)) : Fits enc P (iE k) t (fun n => (Lit.int k n).wf = true) := by
  intro w fuel cs d ps h hw
  obtain ⟨n, h1, h2, h3⟩ := DataW.trod_int ht h
  exact ⟨n, by rw [h1]; rfl, h3⟩
theorem fits_bool {t : TypeId} (ht : P.underlying t = some .bool) : Fits enc P bE t (fun _ => True) := by
  intro w fuel cs d ps h hw
  obtain ⟨b, h1, h2⟩ := DataW.trod_bool ht h
  exact ⟨b, by rw [h1]; rfl, trivial⟩
theorem Fits.imp {α β : Type} {c : Enc α} {c' : Enc β} {t : TypeId} {ok : α → Prop} {ok' : β → Prop} (h : Fits enc P c t ok) (hi : ∀ w D a vs, c.R w D a vs → ok a → ∃ b, c'.R w D b vs ∧ ok' b) : Fits enc P c' t ok' := by
  intro w fuel cs d ps h1 h2
  obtain ⟨a, h3, h4⟩ := h w fuel cs d ps h1 h2
  exact hi _ _ _ _ h3 h4
theorem lt_of_cell {w : World} {a : Addr} {v : Value} (h : w.cell? a = some v) : a.block < w.heap.size ∧ a.spot = none := by
  unfold World.cell? at h
  split at h
  · rename_i hh
    refine ⟨(Array.getElem?_eq_some_iff.1 hh).1, ?_⟩
    split at h
    · cases h
    · rename_i hs; cases hz : a.spot with
      | none => rfl
      | some _ => simp [hz] at hs
  · cases h
theorem weightsAll_mem {e : TypeId} : ∀ {l : List (DataW H)} {d : DataW H}, d ∈ l → ∀ n, n ∈ d.weights P e → n ∈ DataW.weightsAll P e l
  | x :: l, d, h, n, hn => by
    simp only [DataW.weightsAll, List.mem_append]
    rcases List.mem_cons.1 h with rfl | h
    · exact .inl hn
    · exact .inr (weightsAll_mem h n hn)
theorem fits_slice {α : Type} {c : Enc α} {t e : TypeId} {ok : α → Prop} {bytes : Nat} (ht : P.underlying t = some (.slice e)) (hc : P.cellsOf e = c.sz) (hb : P.bytesOf e = bytes) (hE : Fits enc P c e ok) :
    Fits enc P c.slice t (fun xs => (∀ x, x ∈ xs → ok x) ∧ xs.length * bytes ≤ 140737488351232) := by
  intro w fuel cs d ps h hw
  rcases Deep.open_slice ht h with ⟨rfl, hx⟩ | ⟨a, len, cap, m, n, D, Pl, rfl, hb0, hl, hm, hmm, hx, hall⟩
  · exact ⟨[], ⟨none, 0, rfl, Nat.le_refl _, by simp, .inl rfl⟩, by simp, by simp⟩
  · simp only [if_true] at hmm
    subst hmm
    simp only [Prod.mk.injEq] at hx
    obtain ⟨rfl, rfl⟩ := hx
    rw [hc] at hall
    have hwt : ∀ i, i < len → allLe ((D i).weights P e) := fun i hi n hn => hw n (by
      simp only [DataW.weights, ht, List.mem_cons, List.mem_append]
      exact .inr (.inl (weightsAll_mem (List.mem_map.2 ⟨i, List.mem_range.2 hi, rfl⟩) n hn)))
    have key : ∀ i, i < len → ∃ x : α, ∃ vs, c.R w (fun k => k < w.heap.size) x vs ∧ w.cells? 0 (a.add (i * c.sz)) c.sz = some vs ∧ ok x := fun i hi => by
      obtain ⟨cs', h1, h2⟩ := hall i (by omega)
      obtain ⟨x, h3, h4⟩ := hE w n cs' _ _ h2 (hwt i hi)
      exact ⟨x, cs', h3, h1, h4⟩
    have hlist : ∀ m, m ≤ len → ∃ xs : List α, xs.length = m ∧ ∀ i x, xs[i]? = some x → ∃ vs, c.R w (fun k => k < w.heap.size) x vs ∧ w.cells? 0 (a.add (i * c.sz)) c.sz = some vs ∧ ok x := by
      intro m
      induction m with
      | zero => exact fun _ => ⟨[], rfl, fun i x hx => by simp at hx⟩
      | succ m ih =>
        intro hm
        obtain ⟨xs, h1, h2⟩ := ih (by omega)
        obtain ⟨x, vs, h3, h4, h5⟩ := key m (by omega)
        refine ⟨xs ++ [x], by simp [h1], fun i y hy => ?_⟩
        by_cases hi : i < xs.length
        · rw [List.getElem?_append_left hi] at hy; exact h2 i y hy
        · have hlt := (List.getElem?_eq_some_iff.1 hy).1
          simp at hlt
          have hi' : i = xs.length := by omega
          subst hi'
          simp at hy; subst hy
          rw [h1]; exact ⟨vs, h3, h4, h5⟩
    obtain ⟨xs, h1, h2⟩ := hlist len (Nat.le_refl _)
    refine ⟨xs, ⟨some a, m, by rw [h1], by rw [h1]; exact hl, by simpa [maxLen] using hm, ?_⟩, fun x hx => ?_, ?_⟩
    · by_cases h0 : xs = []
      · exact .inl h0
      · have hpos : 0 < xs.length := List.length_pos_iff.2 h0
        obtain ⟨vs, q1, q2, q3⟩ := h2 0 xs[0] (by simp [hpos])
        obtain ⟨_, hlen, hcell⟩ := World.cells?_some q2
        have hp := c.pos
        have q4 := c.len q1
        have hc0 : w.cell? ((a.add (0 * c.sz)).add 0) = some (vs[0]'(by omega)) := by rw [hcell 0 hp]; simp
        obtain ⟨hlt, hspot⟩ := lt_of_cell hc0
        have e0 : (a.add (0 * c.sz)).add 0 = a := by simp [Addr.add]
        rw [e0] at hlt hspot
        obtain ⟨ab, ao, asp⟩ := a
        simp only at hlt hspot
        subst hspot
        refine .inr ⟨ab, ao, rfl, hlt, hlt, fun i x hx => ?_⟩
        obtain ⟨vs, r1, r2, r3⟩ := h2 i x hx
        obtain ⟨_, _, hcl⟩ := World.cells?_some r2
        refine ⟨vs, r1, fun j v hj => ?_⟩
        have hjl := (List.getElem?_eq_some_iff.1 hj).1
        rw [c.len r1] at hjl
        have := hcl j hjl
        rw [Addr.add_lit, Addr.add_lit, hj] at this
        exact this
    · obtain ⟨i, hi, rfl⟩ := List.mem_iff_getElem.1 hx
      obtain ⟨vs, r1, r2, r3⟩ := h2 i xs[i] (by simp [hi])
      exact r3
    · have := hw _ (by simp only [DataW.weights, ht]; exact List.mem_cons_self)
      simp only [List.length_map, List.length_range, hb, reachBytes] at this
      rw [h1]
      refine Nat.le_trans (Nat.mul_le_mul_right _ ?_) this
      omega
def Enc.seq {α β : Type} (c1 : Enc α) (c2 : Enc β) : Enc (α × β) where
  sz := c1.sz + c2.sz
  pos := by have := c1.pos; omega
  R := fun w D x vs => ∃ v1 v2, vs = v1 ++ v2 ∧ c1.R w D x.1 v1 ∧ c2.R w D x.2 v2
  len := fun ⟨v1, v2, h1, h2, h3⟩ => by rw [h1, List.length_append, c1.len h2, c2.len h3]
  one := fun ⟨v1, v2, h1, h2, h3⟩ u hu => by
    rw [h1] at hu
    rcases List.mem_append.1 hu with h | h
    · exact c1.one h2 u h
    · exact c2.one h3 u h
  tr := fun ⟨v1, v2, h1, h2, h3⟩ he hs => ⟨v1, v2, h1, c1.tr h2 he hs, c2.tr h3 he hs⟩
  mono := fun ⟨v1, v2, h1, h2, h3⟩ hm => ⟨v1, v2, h1, c1.mono h2 hm, c2.mono h3 hm⟩
def FitsF (enc : TypeId × Value → H) (P : Program) {α : Type} (c : Enc α) (fs : List Field) (off : Nat) (ok : α → Prop) : Prop :=
  ∀ (w : World) (fuel : Nat) (cs : List Value) (xs : List (DataW H × List MemPlace)), xs.length = fs.length → (∀ (i : Nat) (f : Field), fs[i]? = some f → DataW.trod enc P w 0 (fun _ => true) true fuel f.type ((cs.drop f.offset).take (P.cellsOf f.type)) = xs[i]?) →
    allLe (DataW.weightsEach P (fs.map (·.type)) (xs.map (·.1))) → ∃ a, c.R w (fun k => k < w.heap.size) a ((cs.drop off).take c.sz) ∧ ok a
theorem fits_last {α : Type} {c : Enc α} {f : Field} {off : Nat} {ok : α → Prop} (ho : f.offset = off) (hc : P.cellsOf f.type = c.sz) (h : Fits enc P c f.type ok) : FitsF enc P c [f] off ok := by
  intro w fuel cs xs hl hx hw
  subst ho
  match xs, hl with
  | [x], _ =>
    have h1 := hx 0 f rfl
    simp only [List.getElem?_cons_zero] at h1
    obtain ⟨a, h2, h3⟩ := h w fuel _ x.1 x.2 h1 (fun n hn => hw n (by simp [DataW.weightsEach, hn]))
    rw [hc] at h2; exact ⟨a, h2, h3⟩
theorem fits_cons {α β : Type} {c1 : Enc α} {c2 : Enc β} {f : Field} {fs : List Field} {off : Nat} {ok1 : α → Prop} {ok2 : β → Prop} (ho : f.offset = off) (hc : P.cellsOf f.type = c1.sz) (h : Fits enc P c1 f.type ok1) (hF : FitsF enc P c2 fs (off + c1.sz) ok2) :
    FitsF enc P (c1.seq c2) (f :: fs) off (fun x => ok1 x.1 ∧ ok2 x.2) := by
  intro w fuel cs xs hl hx hw
  subst ho
  match xs, hl with
  | x :: ys, hl =>
    have h1 := hx 0 f rfl
    simp only [List.getElem?_cons_zero] at h1
    obtain ⟨a, h3, h4⟩ := h w fuel _ x.1 x.2 h1 (fun n hn => hw n (by simp [DataW.weightsEach, hn]))
    obtain ⟨b, h5, h6⟩ := hF w fuel cs ys (by simpa using hl) (fun i g hg => by have := hx (i + 1) g (by simpa using hg); simpa using this) (fun n hn => hw n (by simp [DataW.weightsEach, hn]))
    rw [hc] at h3
    refine ⟨(a, b), ⟨_, _, ?_, h3, h5⟩, h4, h6⟩
    show List.take (c1.sz + c2.sz) _ = _
    rw [List.take_add, List.drop_drop]
theorem fits_struct {α : Type} {c : Enc α} {t : TypeId} {fs : List Field} {ok : α → Prop} (ht : P.underlying t = some (.struct fs.toArray)) (hc : P.cellsOf t = c.sz) (hF : FitsF enc P c fs 0 ok) : Fits enc P c t ok := by
  intro w fuel cs d ps h hw
  obtain ⟨xs, n, rfl, hx, hl, hl2, hall⟩ := DataW.trod_struct ht h
  simp only [Prod.mk.injEq] at hx
  obtain ⟨rfl, rfl⟩ := hx
  obtain ⟨a, h1, h2⟩ := hF w n cs xs (by simpa using hl2) (fun i f hf => hall i f (by simpa using hf)) (fun n hn => hw n (by simpa [DataW.weights, ht] using hn))
  rw [List.drop_zero, List.take_of_length_le (by omega)] at h1
  exact ⟨a, h1, h2⟩
theorem fits_arg {α : Type} {c : Enc α} {t : TypeId} {ok : α → Prop} (hf : Fits enc P c t ok) {W : World} {v : Value} {d : DataW H} {ps : List MemPlace} (h : DataW.Trod enc P W 0 (fun _ => true) true t v d ps) {ts : List TypeId} {ds : List (DataW H)} {j : Nat}
    (hsz : (DataW.weightsEach P ts ds).all (· ≤ reachBytes) = true) (ht : ts[j]? = some t) (hd : ds[j]? = some d) : ∃ a, c.R W (fun k => k < W.heap.size) a v.cells.toList ∧ ok a := by
  obtain ⟨fuel, hfu⟩ := h
  exact hf W fuel _ d ps hfu (fun n hn => by simpa using List.all_eq_true.1 hsz n (DataW.weights_mem_each ht hd n hn))
theorem lt_of_trod {W : World} {t : TypeId} {v : Value} {d : DataW H} {ps : List MemPlace} (h : DataW.Trod enc P W 0 (fun _ => true) true t v d ps) : ∀ x ∈ ps, x.block < W.heap.size := by
  obtain ⟨m, hm⟩ := h; exact DataW.trod_lt m _ _ _ hm
end Go.Proofs.YtghjmiggobpmoaaGreatDoor.K
set_option linter.unusedVariables false
set_option linter.unusedSimpArgs false
set_option autoImplicit false
namespace Go.Proofs.YtghjmiggobpmoaaGreatDoor.K
open Go Go.RowKit
variable {P : Program} {r : Option Nat} {n : Nat} {O : Array Oper} {Q : Post} {E : Env} {ds : List Deferred} {w : World} {l : List Oper}
def leafEq : TypeDesc → Value → Value → Option Bool
  | .int _, .int k x, .int k' y => bif decide (k = k') then some (decide (x = y)) else none
  | .bool, .bool x, .bool y => some (x == y)
  | .string, .string x, .string y => some (decide (x.data.toList = y.data.toList))
  | _, _, _ => none
theorem run_leafEq {d : Nat} {t : TypeId} {u : TypeDesc} {a b : Value} {v : Bool} (hu : P.underlying t = some u) (h : leafEq u a b = some v) : (Op.equalIn (d + 1) t a b).run P w = .ok v w := by
  unfold leafEq at h
  split at h
  · rename_i k x k' y
    cases hk : decide (k = k') with
    | false => rw [hk] at h; cases h
    | true =>
      rw [hk] at h
      have hk' : k = k' := of_decide_eq_true hk
      cases h
      simp [Op.equalIn, run_underlying hu, hk']
      rfl
  · cases h
    simp [Op.equalIn, run_underlying hu]
  · cases h
    simp only [Op.equalIn, Sem.run_bind, run_underlying hu, Result.andThen_ok, Sem.run_pure]
    congr 1
    rw [beq_toListBytes, Lib.toList_data, Lib.toList_data, Bool.eq_iff_iff]; simp
  · cases h
def leafU : TypeDesc → Bool
  | .int _ => true
  | .bool => true
  | .string => true
  | _ => false
def kindsOf (P : Program) : List Field → Nat → Option (List TypeDesc)
  | [], _ => some []
  | f :: fs, i => match P.underlying f.type, kindsOf P fs (i + 1) with
    | some u, some us => bif f.name != "_" && Nat.beq f.offset i && leafU u then some (u :: us) else none
    | _, _ => none
def eqK : List TypeDesc → List Value → List Value → Option Bool
  | [], [], [] => some true
  | [u], [a], [b] => leafEq u a b
  | u :: us, a :: as, b :: bs => match leafEq u a b, eqK us as bs with
    | some v, some v' => some (v && v')
    | _, _ => none
  | _, _, _ => none
theorem run_part_leaf {t : TypeId} {u : TypeDesc} {cs : Array Value} {i : Nat} {v : Value} (hu : P.underlying t = some u) (h : leafU u = true) (hv : cs[i]? = some v) : (part t cs i).run P w = .ok v w := by
  have ha : (isAgg t).run P w = .ok false w := by
    cases u <;> simp [leafU] at h <;> simp [isAgg, run_underlying hu]
  simp [part, Sem.run_bind, ha, Result.andThen, hv]
theorem eqK_cons {u : TypeDesc} {us : List TypeDesc} {a b : Value} {as bs : List Value} {v : Bool} (h : eqK (u :: us) (a :: as) (b :: bs) = some v) : ∃ v1 v2, leafEq u a b = some v1 ∧ eqK us as bs = some v2 ∧ v = (v1 && v2) := by
  cases us with
  | nil =>
    cases as with
    | nil =>
      cases bs with
      | nil => exact ⟨v, true, h, rfl, by simp⟩
      | cons => simp [eqK] at h
    | cons => simp [eqK] at h
  | cons u' us =>
    simp only [eqK] at h
    split at h
    · rename_i v1 v2 h1 h2
      exact ⟨v1, v2, h1, h2, by simpa using h.symm⟩
    · cases h
theorem run_eqFs {d : Nat} {xs ys : Array Value} : ∀ (fs : List Field) (us : List TypeDesc) (i : Nat) (as bs : List Value) (v : Bool), (∀ j a, as[j]? = some a → xs[i + j]? = some a) → (∀ j a, bs[j]? = some a → ys[i + j]? = some a) → kindsOf P fs i = some us → eqK us as bs = some v → (Op.eqFields (d + 1) xs ys fs).run P w = .ok v w
  | [], us, i, as, bs, v, _, _, hk, h => by
    simp [kindsOf] at hk; subst hk
    cases as <;> cases bs <;> simp [eqK] at h
    subst h; rfl
  | f :: fs, us, i, as, bs, v, ha, hb, hk, h => by
    simp only [kindsOf] at hk
    split at hk
    · rename_i u us' hu hus
      cases hc : (f.name != "_" && Nat.beq f.offset i && leafU u) with
      | false => rw [hc] at hk; cases hk
      | true =>
        rw [hc] at hk
        simp only [cond_true, Option.some.injEq] at hk
        subst hk
        simp only [Bool.and_eq_true] at hc
        obtain ⟨⟨h1, h2⟩, h3⟩ := hc
        have h2 := Nat.eq_of_beq_eq_true h2
        have h1 : f.name ≠ "_" := by simpa using h1
        match as, bs, h with
        | a :: as, b :: bs, h =>
          obtain ⟨v1, v2, q1, q2, rfl⟩ := eqK_cons h
          have ha0 := ha 0 a rfl
          have hb0 := hb 0 b rfl
          simp only [Nat.add_zero] at ha0 hb0
          simp only [Op.eqFields, Sem.run_ite]
          rw [if_pos h1, h2]
          simp only [Sem.run_bind, run_part_leaf (w := w) hu h3 ha0, run_part_leaf (w := w) hu h3 hb0, Result.andThen_ok]
          rw [run_leafEq hu q1]
          simp only [Result.andThen_ok]
          cases v1 with
          | false => rfl
          | true =>
            exact run_eqFs fs us' (i + 1) as bs v2 (fun j x hx => by have := ha (j + 1) x (by simpa using hx); rwa [show i + 1 + j = i + (j + 1) by omega]) (fun j x hx => by have := hb (j + 1) x (by simpa using hx); rwa [show i + 1 + j = i + (j + 1) by omega]) hus q2
        | [], bs, h => cases us' <;> cases bs <;> simp [eqK] at h
        | _ :: _, [], h => cases us' <;> simp [eqK] at h
    · cases hk
def eqB (P : Program) (t : TypeId) (us : List TypeDesc) : Prop := ((match P.underlying t with | some (.struct _) => true | _ => false) && !P.stoodInHeld t && !P.eqGuardType P.depth t) = true ∧ kindsOf P (P.fieldsOf t).toList 0 = some us
theorem run_structEq {t : TypeId} {us : List TypeDesc} {va vb : List Value} {v : Bool} (hB : eqB P t us) (h : eqK us va vb = some v) : (Op.equalIn 10000 t (.agg ⟨va⟩) (.agg ⟨vb⟩)).run P w = .ok v w := by
  obtain ⟨hB, hk⟩ := hB
  simp only [Bool.and_eq_true, Bool.not_eq_true'] at hB
  obtain ⟨⟨h1, h2⟩, h3⟩ := hB
  have hu : P.underlying t = some (.struct (P.fieldsOf t)) := by
    unfold Program.fieldsOf
    split at h1
    · rename_i hu; rw [hu]
    · cases h1
  rw [run_equalIn_struct w 9999 t _ _ hu h2]
  exact run_eqFs (d := 9998) _ us 0 va vb v (fun j a hj => by simpa using hj) (fun j a hj => by simpa using hj) hk h
theorem ext_T {T0 : World → Prop} {b : Nat} {w' : World} {F : (World → Prop) → Prop} (hT : T0 w') (h : F (fun W => W.heap[b]? = w'.heap[b]? ∧ T0 W)) : ∃ T' : World → Prop, (∀ x, T' x → T0 x) ∧ T' w' ∧ F T' := ⟨_, fun _ h => h.2, ⟨rfl, hT⟩, h⟩
theorem Cells.lt {b off : Nat} {v : Value} {vs : List Value} (h : Cells w b off (v :: vs)) : b < w.heap.size := by
  have := h 0 v rfl
  unfold World.cell? at this
  split at this
  · rename_i hh; exact (Array.getElem?_eq_some_iff.1 hh).1
  · cases this
section
variable {dst : Option Nat} {ty : TypeId} {pos : String} {af : Array Edge} {g : Option (Nat × Bool)}
theorem r_aeql {t t' : TypeId} {x y : Operand} {us : List TypeDesc} {va vb : List Value} {v : Bool} (hB : eqB P t us) (hx : ev E x = .agg ⟨va⟩) (hy : ev E y = .agg ⟨vb⟩) (h : eqK us va vb = some v) :
    (execOp (ev E) ⟨dst, .binOp .eql t x y t', ty, pos, af, g⟩).run P w = .ok (.value (.bool v)) w := by
  have hg : P.eqGuardType P.depth t = false := by have hB := hB.1; simp only [Bool.and_eq_true, Bool.not_eq_true'] at hB; exact hB.2
  simp only [execOp, hx, hy, Sem.run_bind, run_eqGuard_agg w _ t x y _ _ hg, run_eql_struct, run_structEq hB h, Result.andThen_ok, Sem.run_pure]
theorem st_aeql {t t' : TypeId} {x y : Operand} {us : List TypeDesc} {va vb : List Value} {v : Bool} (hB : eqB P t us) (hx : ev E x = .agg ⟨va⟩) (hy : ev E y = .agg ⟨vb⟩) (h : eqK us va vb = some v) (hk : wops P r n O Q l (updo E dst (.bool v)) ds w) : wop P r n O Q ⟨dst, .binOp .eql t x y t', ty, pos, af, g⟩ l E ds w :=
  wop_run (fun _ => by simp) (r_aeql hB hx hy h) hk
theorem r_aneq {t t' : TypeId} {x y : Operand} {us : List TypeDesc} {va vb : List Value} {v : Bool} (hB : eqB P t us) (hx : ev E x = .agg ⟨va⟩) (hy : ev E y = .agg ⟨vb⟩) (h : eqK us va vb = some v) :
    (execOp (ev E) ⟨dst, .binOp .neq t x y t', ty, pos, af, g⟩).run P w = .ok (.value (.bool (!v))) w := by
  have hg : P.eqGuardType P.depth t = false := by have hB := hB.1; simp only [Bool.and_eq_true, Bool.not_eq_true'] at hB; exact hB.2
  simp only [execOp, hx, hy, Sem.run_bind, run_eqGuard_agg w _ t x y _ _ hg, run_neq_struct, run_structEq hB h, Result.andThen_ok, Sem.run_pure]
theorem r_beql {t t' : TypeId} {x y : Operand} {a b : Bool} (ht : P.underlying t = some .bool) (hx : ev E x = .bool a) (hy : ev E y = .bool b) :
    (execOp (ev E) ⟨dst, .binOp .eql t x y t', ty, pos, af, g⟩).run P w = .ok (.value (.bool (a == b))) w := by
  simp [execOp, hx, hy, eqGuard, binOp, Op.equal, Op.maxDepth, Sem.run_bind, run_equalIn_bool' w 9999 t a b ht, Result.andThen]
theorem st_beql {t t' : TypeId} {x y : Operand} {a b : Bool} (ht : P.underlying t = some .bool) (hx : ev E x = .bool a) (hy : ev E y = .bool b) (hk : wops P r n O Q l (updo E dst (.bool (a == b))) ds w) : wop P r n O Q ⟨dst, .binOp .eql t x y t', ty, pos, af, g⟩ l E ds w :=
  wop_run (fun _ => by simp) (r_beql ht hx hy) hk
theorem r_bneq {t t' : TypeId} {x y : Operand} {a b : Bool} (ht : P.underlying t = some .bool) (hx : ev E x = .bool a) (hy : ev E y = .bool b) :
    (execOp (ev E) ⟨dst, .binOp .neq t x y t', ty, pos, af, g⟩).run P w = .ok (.value (.bool (!(a == b)))) w := by
  simp [execOp, hx, hy, eqGuard, binOp, Op.equal, Op.maxDepth, Sem.run_bind, run_equalIn_bool' w 9999 t a b ht, Result.andThen]
theorem st_bneq {t t' : TypeId} {x y : Operand} {a b : Bool} (ht : P.underlying t = some .bool) (hx : ev E x = .bool a) (hy : ev E y = .bool b) (hk : wops P r n O Q l (updo E dst (.bool (!(a == b)))) ds w) : wop P r n O Q ⟨dst, .binOp .neq t x y t', ty, pos, af, g⟩ l E ds w :=
  wop_run (fun _ => by simp) (r_bneq ht hx hy) hk
theorem r_peqln {t t' e : TypeId} {x y : Operand} {A : Option Addr} (ht : P.underlying t = some (.pointer e)) (hx : ev E x = .pointer A) (hy : ev E y = .pointer none) :
    (execOp (ev E) ⟨dst, .binOp .eql t x y t', ty, pos, af, g⟩).run P w = .ok (.value (.bool A.isNone)) w := by
  have hp : P.underlying t = some (.pointer (P.pointee t)) := by simp [Program.pointee, ht]
  simp [execOp, hx, hy, eqGuard, Sem.run_bind, run_eql_pointer_nil w t A hp, Result.andThen]
theorem st_peqln {t t' e : TypeId} {x y : Operand} {A : Option Addr} (ht : P.underlying t = some (.pointer e)) (hx : ev E x = .pointer A) (hy : ev E y = .pointer none) (hk : wops P r n O Q l (updo E dst (.bool A.isNone)) ds w) : wop P r n O Q ⟨dst, .binOp .eql t x y t', ty, pos, af, g⟩ l E ds w :=
  wop_run (fun _ => by simp) (r_peqln ht hx hy) hk
end
def ResAll (P : Program) (E : Env) (w : World) : List ResultVar → List Value → Prop
  | [], [] => True
  | .tmp t :: rs, v :: vs => E t = v ∧ ResAll P E w rs vs
  | .cell d t :: rs, v :: vs => (∃ b off, E d = .pointer (some ⟨b, off, none⟩) ∧ (loadVar t ⟨b, off, none⟩).run P w = .ok v w) ∧ ResAll P E w rs vs
  | _, _ => False
theorem run_resAll {a : Act} : ∀ (rs : List ResultVar) (vs : List Value), ResAll P (env a) w rs vs → (rs.mapM (m := Sem) (fun (r : ResultVar) => match r with | .tmp t => pure (a.tmps.getD t undef) | .cell d t => do loadVar t (← asAddr (a.tmps.getD d undef)))).run P w = Result.ok vs w
  | [], [], _ => rfl
  | .tmp t :: rs, v :: vs, h => by
    obtain ⟨h1, h2⟩ := h
    have ih := run_resAll rs vs h2
    have h1 : a.tmps.getD t undef = v := h1
    simp only [List.mapM_cons, Sem.run_bind, Sem.run_pure, Result.andThen, h1]
    rw [ih]
  | .cell d t :: rs, v :: vs, h => by
    obtain ⟨⟨b, off, h1, h3⟩, h2⟩ := h
    have ih := run_resAll rs vs h2
    have h1 : asAddr (a.tmps.getD d undef) = (pure ⟨b, off, none⟩ : Sem Addr) := by
      have h1 : a.tmps.getD d undef = .pointer (some ⟨b, off, none⟩) := h1
      rw [h1]
      rfl
    simp only [List.mapM_cons, Sem.run_bind, h1, Sem.run_pure, Result.andThen, h3]
    rw [ih]
  | [], _ :: _, h => h.elim
  | .tmp _ :: _, [], h => h.elim
  | .cell _ _ :: _, [], h => h.elim
theorem ret_many {fn : Func} {Φ : Value → World → Prop} {rs : List ResultVar} {vs : List Value} (hr : fn.results = ⟨rs⟩) (h : ResAll P E w rs vs) (h2 : 2 ≤ vs.length) (hΦ : Φ (.tuple ⟨vs⟩) w) : retP P fn Φ .ret E [] w :=
  ⟨rfl, fun a ha => ⟨_, by
    subst ha
    have := run_resAll rs vs h
    unfold results
    rw [hr, Array.mapM_eq_mapM_toList]
    simp only [Sem.run_bind, Sem.run_map, Result.andThen, Sem.run_pure]
    erw [this]
    match vs, h2 with
    | _ :: _ :: _, _ => rfl, hΦ⟩⟩
end Go.Proofs.YtghjmiggobpmoaaGreatDoor.K
set_option linter.unusedVariables false
set_option linter.unusedSimpArgs false
set_option autoImplicit false
namespace Go.Proofs.YtghjmiggobpmoaaGreatDoor.K
open Go Go.RowKit
def OwnB (e : TypeId) (w : World) (A : Option Addr) (cap : Nat) (s : Bytes) : Prop := w.ownsRowF 0 e 1 (.slice A s.length cap) s.length (Lib.byteCells s)
structure BldAt (T e : TypeId) (w : World) (b : Nat) (A : Option Addr) (cap : Nat) (s : Bytes) : Prop where
  blk : Blk w b [.pointer none, .slice A s.length cap] T ∨ Blk w b [.pointer (some ⟨b, 0, none⟩), .slice A s.length cap] T
  own : OwnB e w A cap s
  nil : s = [] → A = none
variable {T e : TypeId} {w w' : World} {b : Nat} {A : Option Addr} {cap : Nat} {s : Bytes}
theorem OwnB.form (h : OwnB e w A cap s) : (A = none ∧ cap = 0 ∧ s = []) ∨ ∃ g cur fz, A = some ⟨g, 0, none⟩ ∧ w.heap[g]? = some (.cells cur e fz) ∧ s.length ≤ cap ∧ cap ≤ 9223372036854775807 := by
  rcases h.2 with ⟨h1, h2⟩ | ⟨g, cp, cur, fz, h1, h2, h3, h4, h5, h6, _⟩
  · simp only [Value.slice.injEq] at h1; exact .inl ⟨h1.1, h1.2.2, List.eq_nil_of_length_eq_zero h2⟩
  · simp only [Value.slice.injEq] at h1; obtain ⟨rfl, _, rfl⟩ := h1
    exact .inr ⟨g, cur, fz, rfl, h3, h5, by simpa [maxLen] using h6⟩
theorem OwnB.lt (h : OwnB e w A cap s) : ∀ g, g ∈ ob A → g < w.heap.size := by
  rcases h.form with ⟨rfl, _⟩ | ⟨g, cur, fz, rfl, h1, _⟩
  · simp [ob]
  · intro k hk; simp [ob] at hk; subst hk; exact (Array.getElem?_eq_some_iff.1 h1).1
theorem OwnB.tr {bs : List Nat} (h : OwnB e w A cap s) (hc : Chg bs w w') (hb : ∀ k, k ∈ ob A → k ∉ bs) : OwnB e w' A cap s := by
  have hl := h.lt
  refine ⟨h.1, ?_⟩
  rcases h.2 with h1 | ⟨g, cp, cur, fz, h1, h2, h3, h4⟩
  · exact .inl h1
  · have h1' := h1
    simp only [Value.slice.injEq] at h1'; obtain ⟨rfl, _, rfl⟩ := h1'
    exact .inr ⟨g, _, cur, fz, rfl, h2, (hc.block g (hl g (by simp [ob])) (hb g (by simp [ob]))).trans h3, h4⟩
theorem OwnB.ne {cs : List Value} (h : OwnB e w A cap s) (hb : Blk w b cs T) (hT : T ≠ e) : b ∉ ob A := by
  rcases h.form with ⟨rfl, _⟩ | ⟨g, cur, fz, rfl, h1, _⟩
  · simp [ob]
  · intro hx; simp [ob] at hx; subst hx
    rw [show w.heap[b]? = _ from hb] at h1
    simp only [Option.some.injEq, Obj.cells.injEq] at h1
    exact hT h1.2.1
theorem BldAt.ne (h : BldAt T e w b A cap s) (hT : T ≠ e) : b ∉ ob A := by
  rcases h.blk with hb | hb <;> exact h.own.ne hb hT
theorem BldAt.ltb (h : BldAt T e w b A cap s) : b < w.heap.size := by
  rcases h.blk with hb | hb <;> exact hb.lt
theorem BldAt.tr {bs : List Nat} (h : BldAt T e w b A cap s) (hc : Chg bs w w') (h1 : b ∉ bs) (h2 : ∀ k, k ∈ ob A → k ∉ bs) : BldAt T e w' b A cap s :=
  ⟨h.blk.imp (fun x => x.tr hc h1) (fun x => x.tr hc h1), h.own.tr hc h2, h.nil⟩
theorem BldAt.tr0 (h : BldAt T e w b A cap s) (hc : Chg [] w w') : BldAt T e w' b A cap s := h.tr hc (by simp) (by simp)
theorem BldAt.new (h : Blk w b [.pointer none, .slice none 0 0] T) : BldAt T e w b none 0 [] :=
  ⟨.inl h, ⟨by simp [Lib.byteCells], .inl ⟨rfl, rfl⟩⟩, fun _ => rfl⟩
theorem BldAt.fresh (h : BldAt T e w b A cap s) {k : Nat} (hk : w.heap.size ≤ k) : k ∉ ob A := fun hx => by have := h.own.lt k hx; omega
variable {P : Program} {X : Value → World → Prop} {r : Option Nat} {n : Nat} {O : Array Oper} {Q : Post} {E : Env} {ds : List Deferred} {l : List Oper}
section
variable {dst : Option Nat} {ty : TypeId} {pos : String} {af : Array Edge} {g : Option (Nat × Bool)}
theorem st_pneq_same {t t' te : TypeId} {x y : Operand} {a : Addr} (ht : P.underlying t = some (.pointer te)) (hi : (P.info? te).isSome = true) (hx : ev E x = .pointer (some a)) (hy : ev E y = .pointer (some a)) (hk : wops P r n O Q l (updo E dst (.bool false)) ds w) :
    wop P r n O Q ⟨dst, .binOp .neq t x y t', ty, pos, af, g⟩ l E ds w := by
  obtain ⟨j, hj⟩ := Option.isSome_iff_exists.1 hi
  refine wop_run (fun _ => by simp) ?_ hk
  simp [execOp, hx, hy, eqGuard, Sem.run_bind, Lib.run_neq_ptr_same w a ht hj, Result.andThen]
theorem st_toUnsafe {src t te : TypeId} {x : Operand} {off : Nat} {cs : List Value} (hs : P.underlying src = some (.pointer te)) (hd : P.underlying t = some .unsafePointer) (hi : (P.info? te).map (fun i => i.size != 0) = some true) (hb : Blk w b cs T) (ho : off < cs.length) (hx : ev E x = .pointer (some ⟨b, off, none⟩))
    (hk : wops P r n O Q l (updo E dst (.pointer (some ⟨b, off, none⟩))) ds w) : wop P r n O Q ⟨dst, .convert src t x, ty, pos, af, g⟩ l E ds w := by
  obtain ⟨j, hj, hj2⟩ := Option.map_eq_some_iff.1 hi
  refine wop_run (fun _ => by simp) ?_ hk
  have hsh : w.shape? b = some (T, cs.length) := by simp [World.shape?, show w.heap[b]? = _ from hb]
  simp only [execOp, hx, Sem.run_bind, Lib.run_to_unsafe w ⟨b, off, none⟩ hs hd hj (by simpa using hj2) hsh ho, Result.andThen, Sem.run_pure]
theorem st_fromUnsafe {src t u : TypeId} {x : Operand} {off : Nat} {cs : List Value} (hs : P.underlying src = some .unsafePointer) (hd : P.underlying t = some (.pointer u)) (hi : (P.info? u).isSome = true) (hb : Blk w b cs T) (hl : liesAt P P.depth T (cs.length / P.cellsOf T) off u 1 = true) (hx : ev E x = .pointer (some ⟨b, off, none⟩))
    (hk : wops P r n O Q l (updo E dst (.pointer (some ⟨b, off, none⟩))) ds w) : wop P r n O Q ⟨dst, .convert src t x, ty, pos, af, g⟩ l E ds w := by
  obtain ⟨j, hj⟩ := Option.isSome_iff_exists.1 hi
  refine wop_run (fun _ => by simp) ?_ hk
  have hsh : w.shape? b = some (T, cs.length) := by simp [World.shape?, show w.heap[b]? = _ from hb]
  simp only [execOp, hx, Sem.run_bind, Lib.run_from_unsafe w ⟨b, off, none⟩ hs hd hj hsh hl, Result.andThen, Sem.run_pure]
theorem st_callV {c : Call} {f : FuncId} {ags : List Value} {v : Value} {x : Operand} {cp : Array Value} (hcal : c.callee = .value x) (hf : ev E x = .func (.func f) #[] cp) (has : c.args.toList.map (ev E) ++ cp.toList = ags) (hent : (callFunc f ⟨ags⟩).run P w = .ok (.value v) w)
    (hk : wops P r n O Q l (updo E dst v) ds w) : wop P r n O Q ⟨dst, .call c, ty, pos, af, g⟩ l E ds w := by
  refine wop_run (fun _ => by simp) ?_ hk
  replace has : (c.args.map (ev E)) ++ cp = ⟨ags⟩ := Array.ext' (by simpa using has)
  simp [execOp, resolve, hcal, hf, Deferred.ofValue, invoke, go_sem, has, hent, Result.andThen]
def byteB (P : Program) (t u e : TypeId) : Prop := P.underlying t = some (.slice e) ∧ P.underlying u = some .string ∧ P.underlying e = some (.int .u8) ∧ P.cellsOf e = 1 ∧ (P.info? e).map (fun i => (i.zero, i.size, i.bytes)) = some (some (.int .u8 0), 1, 1)
open Go.Lib in
theorem run_appendStr {t u ty : TypeId} {s2 : Bytes} (hB : byteB P t u e) (ho : OwnB e w A cap s) (hn : s = [] → A = none) (hl : s.length + s2.length ≤ 140737488355328) :
    ∃ A' cap' w', (Builtin.append_ #[t, u] ty #[.slice A s.length cap, S s2]).run P w = .ok (.slice A' (s ++ s2).length cap') w' ∧ OwnB e w' A' cap' (s ++ s2) ∧ Chg (ob A) w w' ∧ (∀ g, g ∈ ob A' → g ∈ ob A ∨ w.heap.size ≤ g) ∧ (s ++ s2 = [] → A' = none) := by
  obtain ⟨ht, hu, he, hc, hi0⟩ := hB
  obtain ⟨i, hi, hi2⟩ := Option.map_eq_some_iff.1 hi0
  simp only [Prod.mk.injEq] at hi2
  obtain ⟨hz, hsize, hby⟩ := hi2
  have hss : (⟨⟨s2⟩⟩ : ByteArray).size = s2.length := rfl
  have hcells : Lib.strCells ⟨⟨s2⟩⟩ = Lib.byteCells s2 := rfl
  have happ : Lib.byteCells s ++ Lib.byteCells s2 = Lib.byteCells (s ++ s2) := by simp [Lib.byteCells]
  have hx1 : (Lib.byteCells s).length = s.length := Lib.byteCells_length s
  have hlen : (Lib.byteCells (s ++ s2)).length = (s ++ s2).length * 1 := by rw [Lib.byteCells_length, Nat.mul_one]
  rcases ho.2 with ⟨hv, h0⟩ | ⟨g, cp, cur, fz, hv, hbg, hg, hfz, hnc, hcm, hcs, htake⟩
  · -- no row yet
    simp only [Value.slice.injEq] at hv
    obtain ⟨rfl, _, rfl⟩ := hv
    have hs0 : s = [] := List.eq_nil_of_length_eq_zero h0
    subst hs0
    obtain ⟨v', w', h1, h2, h3, h4⟩ := run_append_own_stringF (P := P) w w.heap.size t u ty e i ht hu hi hz hsize hby (.slice none 0 0) 0 [] (World.ownsRowF_nil _ _ _ _) ⟨⟨s2⟩⟩ (by rw [hss]; simp [maxLen]; omega) (by rw [hss]; simpa using hl) (Nat.le_refl _)
    rw [hss, hcells, List.nil_append, Nat.zero_add] at h2
    have hgr : Chg [] w w' := ⟨h3.os, h3.tape, h3.output, h3.size, fun k hk _ => h3.block k hk (by simp [Value.ownBlock])⟩
    rcases h2.2 with ⟨h5, h6⟩ | ⟨g2, cp, cur, fz, h5, h6, h7⟩
    · have hs2 : s2 = [] := List.eq_nil_of_length_eq_zero h6
      subst hs2
      exact ⟨none, 0, w', by rw [h5] at h1; exact h1, ⟨by simp [Lib.byteCells], .inl ⟨rfl, rfl⟩⟩, hgr, by simp [ob], fun _ => rfl⟩
    · refine ⟨some ⟨g2, 0, none⟩, cp, w', by rw [h5] at h1; exact h1, ⟨by simp [Lib.byteCells], .inr ⟨g2, cp, cur, fz, rfl, Nat.zero_le _, h7⟩⟩, hgr, fun g hg => by simp [ob] at hg; exact .inr (by omega), fun hnil => ?_⟩
      have hs2 : s2 = [] := by simpa using hnil
      have := h4.2 ⟨rfl, by rw [hss, hs2]; rfl⟩
      rw [h5] at this; cases this
  · simp only [Value.slice.injEq] at hv
    obtain ⟨rfl, _, rfl⟩ := hv
    have hne : ¬ s = [] := fun h => by have := hn h; cases this
    by_cases hroom : s.length + s2.length ≤ cap
    · have hcs' : cur.size = cap := by simpa using hcs
      have hr := run_append_room_stringF (P := P) w t u ty e i ht hu hi hsize g s.length cap cur fz hg (by simpa using hfz) ⟨⟨s2⟩⟩ (by rw [hss]; exact hroom) (by rw [hss]; omega)
      refine ⟨_, _, _, by rw [List.length_append]; exact hr, ⟨hlen, .inr ⟨g, cap, _, fz, by rw [List.length_append] <;> rfl, hbg, setRow_heap w g cur _ e _ hg, by rw [List.length_append]; omega, by rw [List.length_append]; exact hroom, hcm, ?_, ?_⟩⟩,
        ⟨rfl, rfl, rfl, by simp, fun k _ hk => setRow_other w g k _ (fun e => hk (by simp [ob, e]))⟩, fun g' hg' => by simp [ob] at hg' ⊢; exact .inl hg', fun h => absurd (List.append_eq_nil_iff.1 h).1 hne⟩
      · simp only [List.size_toArray, List.length_append, List.length_take, List.length_drop, Array.length_toList, strCells_length, hss]
        omega
      · have ht' : cur.toList.take s.length = Lib.byteCells s := by simpa using htake
        rw [ht', hcells, happ, ← hlen]
        exact List.take_left
    · have holds : ∀ j u, (Lib.byteCells s)[j]? = some u → w.cell? ((⟨g, 0, none⟩ : Addr).add j) = some u := World.ownsRowF.cells ho (g := g) rfl
      have hr := run_append_grow_string (P := P) w t u ty e i (.int .u8 0) ht hu hi hz ⟨g, 0, none⟩ s.length cap (Lib.byteCells s) (by rw [hsize]; simpa using hx1) holds ⟨⟨s2⟩⟩ (by rw [hss]; omega) (by rw [hss]; omega) (by rw [hby, hss]; exact growslice_fits (by omega) (by omega))
      have hge := grownCap_ge w (s.length + s2.length) cap e
      have hcm2 : grownCap w (s.length + s2.length) cap e ≤ maxLen := grownCap_le_maxLen w (s.length + s2.length) cap e (by simp [maxLen]; omega)
      refine ⟨_, _, _, by rw [List.length_append]; exact hr, ⟨hlen, .inr ⟨w.heap.size, _, _, (0, 0), by rw [List.length_append] <;> rfl, Nat.zero_le _, heap_alloc_new w.drew _, Nat.zero_le _, by rw [List.length_append]; exact hge, hcm2, ?_, ?_⟩⟩,
        ((Chg.drew w).then (Chg.alloc _ _)).wide, fun g' hg' => by simp [ob] at hg'; exact .inr (by omega), fun h => absurd (List.append_eq_nil_iff.1 h).1 hne⟩
      · have hz1 : (Value.int IntKind.u8 0).cells.size = 1 := rfl
        simp only [Array.size_append, List.size_toArray, size_zeroCells, hz1, hx1, strCells_length, hss]
        omega
      · simp only [Array.toList_append, List.append_assoc]
        rw [← List.append_assoc, hcells, happ, ← hlen]
        exact List.take_left
theorem st_appendStr {t u : TypeId} {x y : Operand} {s2 : Bytes} (hB : byteB P t u e) (hx : ev E x = .slice A s.length cap) (hy : ev E y = S s2) (ho : OwnB e w A cap s) (hn : s = [] → A = none) (hl : s.length + s2.length ≤ 140737488355328)
    (h : ∀ A' cap' w', OwnB e w' A' cap' (s ++ s2) → Chg (ob A) w w' → (∀ g, g ∈ ob A' → g ∈ ob A ∨ w.heap.size ≤ g) → (s ++ s2 = [] → A' = none) → wops P r n O Q l (updo E dst (.slice A' (s ++ s2).length cap')) ds w') :
    wop P r n O Q ⟨dst, .call ⟨.builtin .append, #[x, y], #[t, u]⟩, ty, pos, af, g⟩ l E ds w := by
  obtain ⟨A', cap', w', h1, h2, h3, h4, h5⟩ := run_appendStr (ty := ty) (s2 := s2) hB ho hn hl
  refine wop_run (fun _ => by simp) ?_ (h A' cap' w' h2 h3 h4 h5)
  simp only [execOp, resolve, invoke, builtin, List.map_toArray, List.map_cons, List.map_nil, hx, hy, Sem.run_bind, Sem.run_pure, h1, Result.andThen]
theorem r_sliceData_nil {x : Operand} {t : TypeId} (hx : ev E x = .slice none 0 0) : (execOp (ev E) ⟨dst, .call ⟨.builtin .unsafeSliceData, #[x], #[t]⟩, ty, pos, af, g⟩).run P w = .ok (.value (.pointer none)) w := by
  simp only [execOp, resolve, invoke, builtin, List.map_toArray, List.map_cons, List.map_nil, hx, Sem.run_bind, Sem.run_pure, Lib.run_unsafeSliceData_nil, Result.andThen]
theorem r_sliceData {x : Operand} {t : TypeId} {a : Addr} {m c : Nat} (hx : ev E x = .slice (some a) m c) (hc : c ≠ 0) : (execOp (ev E) ⟨dst, .call ⟨.builtin .unsafeSliceData, #[x], #[t]⟩, ty, pos, af, g⟩).run P w = .ok (.value (.pointer (some a))) w := by
  simp only [execOp, resolve, invoke, builtin, List.map_toArray, List.map_cons, List.map_nil, hx, Sem.run_bind, Sem.run_pure, Lib.run_unsafeSliceData_row _ _ _ _ _ _ hc, Result.andThen]
theorem r_unsafeString_nil {x y : Operand} {t u : TypeId} {p : Option Addr} (hx : ev E x = .pointer p) (hy : ev E y = .int .i64 0) : (execOp (ev E) ⟨dst, .call ⟨.builtin .unsafeString, #[x, y], #[t, u]⟩, ty, pos, af, g⟩).run P w = .ok (.value (S [])) w := by
  simp only [execOp, resolve, invoke, builtin, List.map_toArray, List.map_cons, List.map_nil, hx, hy, Sem.run_bind, Sem.run_pure, Lib.run_unsafeString_none, Result.andThen]
  rfl
theorem r_unsafeString {x y : Operand} {t u : TypeId} {gb : Nat} (ht : P.underlying t = some (.pointer e)) (hc : P.cellsOf e = 1) (ho : OwnB e w (some ⟨gb, 0, none⟩) cap s) (hs : s ≠ []) (hx : ev E x = .pointer (some ⟨gb, 0, none⟩)) (hy : ev E y = .int .i64 (s.length : Int)) :
    ∃ w', (execOp (ev E) ⟨dst, .call ⟨.builtin .unsafeString, #[x, y], #[t, u]⟩, ty, pos, af, g⟩).run P w = .ok (.value (S s)) w' ∧ OwnB e w' (some ⟨gb, 0, none⟩) cap s ∧ Chg [gb] w w' := by
  have ho2 := ho.2
  rcases ho2 with ⟨hv, _⟩ | ⟨g2, cp, cur, fz, hv, hbg, hg, hfz, hnc, hcm, hcs, htake⟩
  · cases hv
  · simp only [Value.slice.injEq, Option.some.injEq, Addr.mk.injEq] at hv
    obtain ⟨⟨rfl, _⟩, _, rfl⟩ := hv
    have hr := Lib.run_unsafeString_row (P := P) w t u ty e ht hc gb cur.size (by simp [World.shape?, hg]) s hs (by omega) (by simp [maxLen] at hcm; omega) (fun j x hx => World.ownsRowF.cells ho (g := gb) rfl j (.int .u8 x.toNat) (by simp [Lib.byteCells, hx]))
    refine ⟨w.freeze ⟨gb, 0, none⟩ s.length, ?_, ⟨ho.1, ?_⟩, ?_⟩
    · simp only [execOp, resolve, invoke, builtin, List.map_toArray, List.map_cons, List.map_nil, hx, hy, Sem.run_bind, Sem.run_pure, hr, Result.andThen]
      rfl
    · unfold World.freeze
      split
      · exact ho.2
      · refine .inr ⟨gb, cap, cur, (if fz.1 == fz.2 then (0, 0 + s.length) else (min fz.1 0, max fz.2 (0 + s.length))), rfl, hbg, ?_, ?_, hnc, hcm, hcs, htake⟩
        · simp [Array.getElem?_modify, hg]
        · split <;> simp <;> omega
    · unfold World.freeze
      split
      · exact .wide (.refl _)
      · exact ⟨rfl, rfl, rfl, by simp, fun k hk hne => by simp only [Array.getElem?_modify]; rw [if_neg (by simpa [eq_comm] using hne)]⟩
theorem sq_us {i : Nat} {rest : List (Nat × Nat)} {K : (World → Prop) → Env → World → Prop} {T0 : World → Prop} {o : Oper} {v : Value} {lo : List Oper} {F : World → Prop} (ho : lo[i]? = some o) (hr : ∃ w', (execOp (ev E) o).run P w = .ok (.value v) w' ∧ F w')
    (h : ∀ w', F w' → ∃ T' : World → Prop, (∀ x, T' x → T0 x) ∧ T' w' ∧ seqP P X lo K rest T' (updo E o.dst v) w') (hw : wantE lo o E = true := by rfl) : seqP P X lo K ((i, 1) :: rest) T0 E w := by
  obtain ⟨w', h1, h2⟩ := hr
  obtain ⟨T', q1, q2, q3⟩ := h w' h2
  exact sq_run1 ho h1 T' q1 q2 q3 hw
end
theorem CallR.imp {f : FuncId} {as : Array Value} {Φ Ψ : Value → World → Prop} (h : CallR P f as w Φ) (hi : ∀ v w', Φ v w' → Ψ v w') : CallR P f as w Ψ := Calls.mono h fun e w' ⟨v, h1, h2⟩ => ⟨v, h1, hi v w' h2⟩
theorem nm : (∀ (p : Prop) [Decidable p], (decide p = true) = p) ∧ (∀ (p : Prop) [Decidable p], (decide p = false) = ¬ p) ∧ (∀ b : Bool, ((!b) = true) = (b = false)) ∧ (∀ b : Bool, ((!b) = false) = (b = true)) ∧ ((!true) = false) ∧ ((!false) = true) ∧
    (∀ n : Nat, ((n : Int)).toNat = n) ∧ ((0 : Int).toNat = 0) ∧ ((1 : Int).toNat = 1) ∧ (∀ b : Bool, (¬ (b = true)) = (b = false)) ∧ (∀ b : Bool, (¬ (b = false)) = (b = true)) :=
  ⟨fun p _ => by simp, fun p _ => by simp, fun b => by cases b <;> simp, fun b => by cases b <;> simp, rfl, rfl, fun _ => rfl, rfl, rfl, fun b => by cases b <;> simp, fun b => by cases b <;> simp⟩
end Go.Proofs.YtghjmiggobpmoaaGreatDoor.K
set_option linter.unusedVariables false
set_option linter.unusedSimpArgs false
set_option autoImplicit false
namespace Go.Proofs.YtghjmiggobpmoaaGreatDoor.K
open Go Go.RowKit
variable {P : Program} {r : Option Nat} {n : Nat} {O : Array Oper} {Q : Post} {E : Env} {ds : List Deferred} {w : World} {l : List Oper}
def NK (K : Nat → Prop) (A0 : World) (k : Nat) : Prop := K k ∨ A0.heap.size ≤ k
end Go.Proofs.YtghjmiggobpmoaaGreatDoor.K
