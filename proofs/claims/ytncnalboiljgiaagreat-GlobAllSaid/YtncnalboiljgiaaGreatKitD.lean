import Derived.Test.YtncnalboiljgiaaGreatKitB
import Derived.ArgAppend
import Derived.Laws.OwnMore
set_option linter.unusedVariables false
set_option linter.unusedSimpArgs false
set_option autoImplicit false
namespace Go.Proofs.YtncnalboiljgiaaGreat.K
open Go Go.RowKit
structure Enc (α : Type) where
  sz : Nat
  pos : 0 < sz
  R : World → (Nat → Prop) → α → List Value → Prop
  len : ∀ {w D x vs}, R w D x vs → vs.length = sz
  one : ∀ {w D x vs}, R w D x vs → ∀ u ∈ vs, u.oneCell' = true
  tr : ∀ {w w' D x vs}, R w D x vs → (∀ k, k < w.heap.size → D k → w'.heap[k]? = w.heap[k]?) → w.heap.size ≤ w'.heap.size → R w' D x vs
  mono : ∀ {w D D' x vs}, R w D x vs → (∀ k, k < w.heap.size → D k → D' k) → R w D' x vs
def Enc.flat {α : Type} (sz : Nat) (f : α → List Value) (pos : 0 < sz) (len : ∀ x, (f x).length = sz) (one : ∀ x, ∀ u ∈ f x, u.oneCell' = true) : Enc α where
  sz := sz
  pos := pos
  R := fun _ _ x vs => vs = f x
  len := fun h => by rw [h]; exact len _
  one := fun h => by rw [h]; exact one _
  tr := fun h _ _ => h
  mono := fun h _ => h
def sE : Enc Bytes := .flat 1 (fun s => [S s]) (by omega) (fun _ => rfl) (fun _ u hu => by simp at hu; subst hu; rfl)
def iE (k : IntKind) : Enc Int := .flat 1 (fun x => [.int k x]) (by omega) (fun _ => rfl) (fun _ u hu => by simp at hu; subst hu; rfl)
section
variable {α : Type} {c : Enc α} {w w' : World} {D D' : Nat → Prop} {A : Option Addr} {xs : List α}
theorem Cells.tr {b off : Nat} {vs : List Value} (h : Cells w b off vs) (he : w'.heap[b]? = w.heap[b]?) : Cells w' b off vs := fun j v hj => by
  have := h j v hj
  simpa [World.cell?, he] using this
def Sl (c : Enc α) (w : World) (D : Nat → Prop) (A : Option Addr) (xs : List α) : Prop :=
  xs = [] ∨ ∃ b o, A = some ⟨b, o, none⟩ ∧ b < w.heap.size ∧ D b ∧ ∀ (i : Nat) (x : α), xs[i]? = some x → ∃ vs, c.R w D x vs ∧ Cells w b (o + i * c.sz) vs
theorem Sl.nil : Sl c w D A [] := .inl rfl
theorem Sl.keep (h : Sl c w D A xs) (he : ∀ k, k < w.heap.size → D k → w'.heap[k]? = w.heap[k]?) (hs : w.heap.size ≤ w'.heap.size) : Sl c w' D A xs := by
  rcases h with h | ⟨b, o, h1, h2, h3, h4⟩
  · exact .inl h
  · exact .inr ⟨b, o, h1, by omega, h3, fun i x hx => by
      obtain ⟨vs, h5, h6⟩ := h4 i x hx
      exact ⟨vs, c.tr h5 he hs, h6.tr (he b h2 h3)⟩⟩
theorem Sl.tr {bs : List Nat} (h : Sl c w D A xs) (hc : Chg bs w w') (hb : ∀ b, b ∈ bs → ¬ D b) : Sl c w' D A xs :=
  h.keep (fun k hk hD => hc.block k hk fun hx => hb k hx hD) hc.size
theorem Sl.tr0 (h : Sl c w D A xs) (hc : Chg [] w w') : Sl c w' D A xs := h.tr hc (by simp)
theorem Sl.mono (h : Sl c w D A xs) (hm : ∀ k, k < w.heap.size → D k → D' k) : Sl c w D' A xs := by
  rcases h with h | ⟨b, o, h1, h2, h3, h4⟩
  · exact .inl h
  · exact .inr ⟨b, o, h1, h2, hm b h2 h3, fun i x hx => by
      obtain ⟨vs, h5, h6⟩ := h4 i x hx
      exact ⟨vs, c.mono h5 hm, h6⟩⟩
theorem Sl.take (h : Sl c w D A xs) (k : Nat) : Sl c w D A (xs.take k) := by
  rcases h with h | ⟨b, o, h1, h2, h3, h4⟩
  · exact .inl (by simp [h])
  · exact .inr ⟨b, o, h1, h2, h3, fun i x hx => h4 i x (by rw [List.getElem?_take] at hx; split at hx <;> simp_all)⟩
theorem Sl.drop (h : Sl c w D A xs) (k : Nat) : Sl c w D (A.map (·.add (k * c.sz))) (xs.drop k) := by
  rcases h with h | ⟨b, o, h1, h2, h3, h4⟩
  · exact .inl (by simp [h])
  · refine .inr ⟨b, o + k * c.sz, ?_, h2, h3, fun i x hx => ?_⟩
    · rw [h1]; simp only [Option.map_some, Addr.add]; split
      · rename_i h0; rw [h0]; rfl
      · rfl
    · rw [List.getElem?_drop] at hx
      obtain ⟨vs, h5, h6⟩ := h4 (k + i) x hx
      refine ⟨vs, h5, ?_⟩
      rw [Nat.add_mul] at h6
      rw [Nat.add_assoc]; exact h6
def Enc.slice (c : Enc α) : Enc (List α) where
  sz := 1
  pos := by omega
  R := fun w D xs vs => ∃ A cap, vs = [.slice A xs.length cap] ∧ xs.length ≤ cap ∧ cap ≤ 9223372036854775807 ∧ Sl c w D A xs
  len := fun ⟨_, _, h, _⟩ => by rw [h]; rfl
  one := fun ⟨_, _, h, _⟩ u hu => by rw [h] at hu; simp at hu; subst hu; rfl
  tr := fun ⟨A, cap, h1, h2, h3, h4⟩ he hs => ⟨A, cap, h1, h2, h3, h4.keep he hs⟩
  mono := fun ⟨A, cap, h1, h2, h3, h4⟩ hm => ⟨A, cap, h1, h2, h3, h4.mono hm⟩
def Chunks (c : Enc α) (w : World) (D : Nat → Prop) (xs : List α) (cs : List Value) : Prop :=
  cs.length = xs.length * c.sz ∧ ∀ (i : Nat) (x : α), xs[i]? = some x → ∃ vs, c.R w D x vs ∧ ∀ (j : Nat) (v : Value), vs[j]? = some v → cs[i * c.sz + j]? = some v
theorem Chunks.nil : Chunks c w D [] [] := ⟨by simp, fun i x h => by simp at h⟩
theorem Chunks.keep {cs : List Value} (h : Chunks c w D xs cs) (he : ∀ k, k < w.heap.size → D k → w'.heap[k]? = w.heap[k]?) (hs : w.heap.size ≤ w'.heap.size) : Chunks c w' D xs cs :=
  ⟨h.1, fun i x hx => let ⟨vs, h1, h2⟩ := h.2 i x hx; ⟨vs, c.tr h1 he hs, h2⟩⟩
theorem Chunks.mono {cs : List Value} (h : Chunks c w D xs cs) (hm : ∀ k, k < w.heap.size → D k → D' k) : Chunks c w D' xs cs :=
  ⟨h.1, fun i x hx => let ⟨vs, h1, h2⟩ := h.2 i x hx; ⟨vs, c.mono h1 hm, h2⟩⟩
theorem Chunks.append {cs es : List Value} {ys : List α} (h : Chunks c w D xs cs) (k : Chunks c w D ys es) : Chunks c w D (xs ++ ys) (cs ++ es) := by
  refine ⟨by rw [List.length_append, List.length_append, h.1, k.1, Nat.add_mul], fun i x hx => ?_⟩
  by_cases hi : i < xs.length
  · rw [List.getElem?_append_left hi] at hx
    obtain ⟨vs, h1, h2⟩ := h.2 i x hx
    refine ⟨vs, h1, fun j v hj => ?_⟩
    have := h2 j v hj
    rw [List.getElem?_append_left (List.getElem?_eq_some_iff.1 this).1]; exact this
  · rw [List.getElem?_append_right (by omega)] at hx
    obtain ⟨vs, h1, h2⟩ := k.2 _ x hx
    refine ⟨vs, h1, fun j v hj => ?_⟩
    have := h2 j v hj
    have e : i * c.sz + j = cs.length + ((i - xs.length) * c.sz + j) := by
      rw [h.1, ← Nat.add_assoc, ← Nat.add_mul]; congr 2; omega
    rw [e, List.getElem?_append_right (by omega), Nat.add_sub_cancel_left]; exact this
theorem Chunks.one {x : α} {vs : List Value} (h : c.R w D x vs) : Chunks c w D [x] vs :=
  ⟨by simp [c.len h], fun i y hy => by
    cases i with
    | zero => simp at hy; subst hy; exact ⟨vs, h, fun j v hj => by simpa using hj⟩
    | succ i => simp at hy⟩
theorem Chunks.cons {x : α} {vs cs : List Value} (h : c.R w D x vs) (k : Chunks c w D xs cs) : Chunks c w D (x :: xs) (vs ++ cs) := (Chunks.one h).append k
def ob : Option Addr → List Nat
  | some a => [a.block]
  | none => []
def Own (c : Enc α) (e : TypeId) (w : World) (D : Nat → Prop) (A : Option Addr) (cap : Nat) (xs : List α) : Prop :=
  ∃ cs, w.ownsRow 0 e c.sz (.slice A xs.length cap) xs.length cs ∧ (∀ g, g ∈ ob A → D g) ∧ Chunks c w (fun k => D k ∧ k ∉ ob A) xs cs
theorem Own.nil {e : TypeId} : Own c e w D none 0 ([] : List α) := ⟨[], World.ownsRow_nil _ _ _ _, by simp [ob], .nil⟩
theorem Own.form {e : TypeId} {cap : Nat} (h : Own c e w D A cap xs) : (A = none ∧ cap = 0 ∧ xs = []) ∨ ∃ g, A = some ⟨g, 0, none⟩ ∧ g < w.heap.size ∧ xs.length ≤ cap ∧ cap ≤ 9223372036854775807 ∧ D g := by
  obtain ⟨cs, h1, h2, h3⟩ := h
  rcases h1.2 with ⟨h4, h5⟩ | ⟨g, cp, cur, h4, _, h6, h7, h8, _⟩
  · simp only [Value.slice.injEq] at h4; obtain ⟨rfl, _, rfl⟩ := h4; exact .inl ⟨rfl, rfl, List.eq_nil_of_length_eq_zero h5⟩
  · simp only [Value.slice.injEq] at h4; obtain ⟨rfl, _, rfl⟩ := h4; exact .inr ⟨g, rfl, (Array.getElem?_eq_some_iff.1 h6).1, h7, by simpa [maxLen] using h8, h2 g (by simp [ob])⟩
theorem Own.lt {e : TypeId} {cap : Nat} (h : Own c e w D A cap xs) : ∀ g, g ∈ ob A → g < w.heap.size := by
  rcases h.form with ⟨rfl, _⟩ | ⟨g, rfl, h1, _⟩
  · simp [ob]
  · intro k hk; simp [ob] at hk; omega
theorem Own.inD {e : TypeId} {cap : Nat} (h : Own c e w D A cap xs) : ∀ g, g ∈ ob A → D g := h.choose_spec.2.1
theorem Own.le {e : TypeId} {cap : Nat} (h : Own c e w D A cap xs) : xs.length ≤ cap ∧ cap ≤ 9223372036854775807 := by
  rcases h.form with ⟨_, rfl, rfl⟩ | ⟨g, _, _, h1, h2, _⟩
  · simp
  · exact ⟨h1, h2⟩
theorem Own.keep {e : TypeId} {cap : Nat} (h : Own c e w D A cap xs) (he : ∀ k, k < w.heap.size → D k → w'.heap[k]? = w.heap[k]?) (hs : w.heap.size ≤ w'.heap.size) : Own c e w' D A cap xs := by
  have hl := h.lt
  obtain ⟨cs, h1, h2, h3⟩ := h
  refine ⟨cs, ⟨h1.1, ?_⟩, h2, h3.keep (fun k hk hD => he k hk hD.1) hs⟩
  rcases h1.2 with h4 | ⟨g, cp, cur, h4, h5, h6, h7⟩
  · exact .inl h4
  · simp only [Value.slice.injEq] at h4; obtain ⟨rfl, _, rfl⟩ := h4
    exact .inr ⟨g, _, cur, rfl, h5, (he g (hl g (by simp [ob])) (h2 g (by simp [ob]))).trans h6, h7⟩
theorem Own.tr {e : TypeId} {cap : Nat} {bs : List Nat} (h : Own c e w D A cap xs) (hc : Chg bs w w') (hb : ∀ b, b ∈ bs → ¬ D b) : Own c e w' D A cap xs :=
  h.keep (fun k hk hD => hc.block k hk fun hx => hb k hx hD) hc.size
theorem Own.tr0 {e : TypeId} {cap : Nat} (h : Own c e w D A cap xs) (hc : Chg [] w w') : Own c e w' D A cap xs := h.tr hc (by simp)
theorem Own.mono {e : TypeId} {cap : Nat} (h : Own c e w D A cap xs) (hm : ∀ k, k < w.heap.size → D k → D' k) : Own c e w D' A cap xs := by
  have hl := h.lt
  obtain ⟨cs, h1, h2, h3⟩ := h
  exact ⟨cs, h1, fun g hg => hm g (hl g hg) (h2 g hg), h3.mono fun k hk hD => ⟨hm k hk hD.1, hD.2⟩⟩
theorem Own.sl {e : TypeId} {cap : Nat} (h : Own c e w D A cap xs) : Sl c w D A xs := by
  have hl := h.lt
  obtain ⟨cs, h1, h2, h3⟩ := h
  rcases h1.2 with ⟨h4, h5⟩ | ⟨g, cp, cur, h4, h5, h6, h7, h8, h9, h10⟩
  · exact .inl (List.eq_nil_of_length_eq_zero h5)
  · simp only [Value.slice.injEq] at h4; obtain ⟨rfl, _, rfl⟩ := h4
    refine .inr ⟨g, 0, rfl, hl g (by simp [ob]), h2 g (by simp [ob]), fun i x hx => ?_⟩
    obtain ⟨vs, k1, k2⟩ := h3.2 i x hx
    refine ⟨vs, c.mono k1 (fun k _ hD => hD.1), fun j v hj => ?_⟩
    have hc := k2 j v hj
    rw [← h10, List.getElem?_take] at hc
    split at hc
    · simpa [World.cell?, h6, Nat.zero_add] using hc
    · cases hc
theorem Own.of_blk {e : TypeId} {b : Nat} {cs : List Value} (h : Blk w b cs e) (hD : D b) (hm : xs.length ≤ 9223372036854775807) (hc : Chunks c w (fun k => D k ∧ k ≠ b) xs cs) : Own c e w D (some ⟨b, 0, none⟩) xs.length xs :=
  ⟨cs, ⟨hc.1, .inr ⟨b, _, _, rfl, Nat.zero_le _, h, Nat.le_refl _, by simpa [maxLen] using hm, by simp [hc.1], by simp [← hc.1]⟩⟩, fun g hg => by simp [ob] at hg; subst hg; exact hD,
    hc.mono fun k _ hk => ⟨hk.1, by simpa [ob] using hk.2⟩⟩
end
variable {P : Program} {r : Option Nat} {n : Nat} {O : Array Oper} {Q : Post} {E : Env} {ds : List Deferred} {w : World} {l : List Oper}
def zeroB (P : Program) (t : TypeId) (zs : List Value) : Prop := ∃ i z, P.info? t = some i ∧ i.zero = some z ∧ z.cells = ⟨zs⟩
def sliceB (P : Program) (t e : TypeId) (size bytes : Nat) : Prop := P.underlying t = some (.slice e) ∧ (P.info? e).map (fun i => (i.size, i.bytes, i.zero.isSome)) = some (size, bytes, true) ∧ ∃ i z, P.info? e = some i ∧ i.zero = some z ∧ z.cells.size = size
theorem run_newVar {t : TypeId} {v : Value} {vs : List Value} (h : v.cells = ⟨vs⟩) : (newVar t v).run P w = .ok ⟨w.heap.size, 0, none⟩ (w.alloc (.cells ⟨vs⟩ t)) := by
  show Result.ok _ _ = _
  rw [h]; rfl
section ops
variable {dst : Option Nat} {ty : TypeId} {pos : String} {af : Array Edge} {g : Option (Nat × Bool)}
theorem st_alloc {t : TypeId} {zs : List Value} (hz : zeroB P t zs) (h : ∀ b w', b = w.heap.size → Chg [] w w' → Blk w' b zs t → wops P r n O Q l (updo E dst (.pointer (some ⟨b, 0, none⟩))) ds w') :
    wop P r n O Q ⟨dst, .alloc t, ty, pos, af, g⟩ l E ds w := by
  obtain ⟨i, z, h1, h2, h3⟩ := hz
  refine wop_run (w' := w.alloc (.cells ⟨zs⟩ t)) (fun _ => by simp) ?_ (h w.heap.size _ rfl (Chg.alloc w _) (Blk.new w zs t))
  simp [execOp, Instr.alloc, go_sem, zeroValue, typeInfo, h1, h2, run_newVar h3, Result.andThen]
  exact congrArg (fun c => w.alloc (Obj.cells c t)) h3
theorem st_box {t : TypeId} {x : Operand} {v : Value} {vs : List Value} (hx : ev E x = v) (hv : v.cells = ⟨vs⟩) (h : ∀ b w', b = w.heap.size → Chg [] w w' → Blk w' b vs t → wops P r n O Q l (updo E dst (.pointer (some ⟨b, 0, none⟩))) ds w') :
    wop P r n O Q ⟨dst, .box t x, ty, pos, af, g⟩ l E ds w := by
  refine wop_run (w' := w.alloc (.cells ⟨vs⟩ t)) (fun _ => by simp) ?_ (h w.heap.size _ rfl (Chg.alloc w _) (Blk.new w vs t))
  simp [execOp, Instr.box, hx, go_sem, run_newVar hv, Result.andThen]
  exact congrArg (fun c => w.alloc (Obj.cells c t)) hv
theorem r_load1 {t : TypeId} {x : Operand} {b off : Nat} {v : Value} (ht : oneB P t = true) (hx : ev E x = .pointer (some ⟨b, off, none⟩)) (hc : w.cell? ⟨b, off, none⟩ = some v) :
    (execOp (ev E) ⟨dst, .load t x, ty, pos, af, g⟩).run P w = .ok (.value v) w := by
  simp [execOp, hx, Instr.loadAt, Instr.sureAddr, go_sem, loadVar, Sem.run_bind, run_isAgg_one ht, Result.andThen, load, Sem.run, hc]
theorem st_load1 {t : TypeId} {x : Operand} {b off : Nat} {v : Value} (ht : oneB P t = true) (hx : ev E x = .pointer (some ⟨b, off, none⟩)) (hc : w.cell? ⟨b, off, none⟩ = some v) (h : wops P r n O Q l (updo E dst v) ds w) :
    wop P r n O Q ⟨dst, .load t x, ty, pos, af, g⟩ l E ds w := wop_run (fun _ => by simp) (r_load1 ht hx hc) h
theorem r_loadA {t : TypeId} {x : Operand} {b off k : Nat} {vs : List Value} (ht : aggB P t k = true) (hx : ev E x = .pointer (some ⟨b, off, none⟩)) (hc : Cells w b off vs) (hk : vs.length = k) :
    (execOp (ev E) ⟨dst, .load t x, ty, pos, af, g⟩).run P w = .ok (.value (.agg ⟨vs⟩)) w := by
  have h1 := run_loadCells_list (P := P) (w := w) ⟨b, off, none⟩ vs (fun j v hj => by rw [Addr.add_lit]; exact hc j v hj)
  rw [hk] at h1
  unfold loadCells at h1
  simp [execOp, hx, Instr.loadAt, Instr.sureAddr, go_sem, loadVar, Sem.run_bind, run_isAgg_agg ht, run_sizeOf (sizeB_agg ht), Result.andThen, h1]
theorem st_loadA {t : TypeId} {x : Operand} {b off k : Nat} {vs : List Value} (ht : aggB P t k = true) (hx : ev E x = .pointer (some ⟨b, off, none⟩)) (hc : Cells w b off vs) (hk : vs.length = k) (h : wops P r n O Q l (updo E dst (.agg ⟨vs⟩)) ds w) :
    wop P r n O Q ⟨dst, .load t x, ty, pos, af, g⟩ l E ds w := wop_run (fun _ => by simp) (r_loadA ht hx hc hk) h
theorem r_fieldAddr {t : TypeId} {x : Operand} {f b off fo : Nat} (ht : fldB P t f fo = true) (hx : ev E x = .pointer (some ⟨b, off, none⟩)) :
    (execOp (ev E) ⟨dst, .fieldAddr t x f, ty, pos, af, g⟩).run P w = .ok (.value (.pointer (some ⟨b, off + fo, none⟩))) w := by
  unfold fldB at ht
  split at ht
  · rename_i fs hu
    split at ht
    · rename_i fl hfl
      simp only [Bool.and_eq_true] at ht
      obtain ⟨h1, h2⟩ := ht
      have h1 := Nat.eq_of_beq_eq_true h1
      subst h1
      cases hi : P.info? fl.type with
      | none => simp [hi] at h2
      | some i =>
        simp only [hi] at h2
        have h3 : i.size ≠ 0 := fun e => by simp [e] at h2
        simp [execOp, hx, Instr.fieldAt, Instr.sureAddr, go_sem, underlying, hu, hfl, fieldPlace, sizeOf, typeInfo, hi, h3, Addr.add_lit]
    · cases ht
  · cases ht
theorem st_fieldAddr {t : TypeId} {x : Operand} {f b off fo : Nat} (ht : fldB P t f fo = true) (hx : ev E x = .pointer (some ⟨b, off, none⟩)) (h : wops P r n O Q l (updo E dst (.pointer (some ⟨b, off + fo, none⟩))) ds w) :
    wop P r n O Q ⟨dst, .fieldAddr t x f, ty, pos, af, g⟩ l E ds w := wop_run (fun _ => by simp) (r_fieldAddr ht hx) h
theorem run_storeCells {T : TypeId} {b : Nat} : ∀ (vs : List Value) (off i : Nat) (w : World) (cs : List Value), Blk w b cs T → off + i + vs.length ≤ cs.length → (∀ u ∈ vs, u.oneCell' = true) →
    ∃ w', (storeCells ⟨b, off, none⟩ vs i).run P w = .ok () w' ∧ Chg [b] w w' ∧ Blk w' b (setVs cs (off + i) vs) T
  | [], off, i, w, cs, h, _, _ => ⟨w, rfl, .refl w, h⟩
  | v :: vs, off, i, w, cs, h, hl, h1 => by
    simp only [List.length_cons] at hl
    have hc : w.cell? ⟨b, off + i, none⟩ = some (cs[off + i]'(by omega)) := h.cell (by rw [nthV_eq]; simp)
    obtain ⟨w', h2, h3, h4⟩ := run_storeCells vs off (i + 1) (w.setCell ⟨b, off + i, none⟩ v) _ (h.set v) (by rw [setV_eq, List.length_set]; omega) (fun u hu => h1 u (by simp [hu]))
    refine ⟨w', ?_, (Chg.setCell w ⟨b, off + i, none⟩ v).trans h3 (fun x hx => .inl hx), h4⟩
    have hone := h1 v (by simp)
    simp only [storeCells, store]
    rw [Addr.add_lit]
    have hf := h.free (off := off + i)
    cases v <;> simp_all [Sem.run_bind, Sem.run, Result.andThen, Value.oneCell', go_sem]
theorem r_store {t T : TypeId} {x y : Operand} {b off k : Nat} {v : Value} {vs cs cs' : List Value} (ht : sizeB P t k = true) (hx : ev E x = .pointer (some ⟨b, off, none⟩)) (hy : ev E y = v) (hv : v.cells = ⟨vs⟩) (hb : Blk w b cs T) (hk : vs.length = k)
    (hl : off + vs.length ≤ cs.length) (h1 : ∀ u ∈ vs, u.oneCell' = true) (hcs : setVs cs off vs = cs') :
    ∃ w', (execOp (ev E) ⟨dst, .store t x y, ty, pos, af, g⟩).run P w = .ok .skip w' ∧ Chg [b] w w' ∧ Blk w' b cs' T := by
  obtain ⟨w', h2, h3, h4⟩ := run_storeCells (P := P) vs off 0 w cs hb (by simpa using hl) h1
  refine ⟨w', ?_, h3, by rw [← hcs]; exact h4⟩
  have hs : v.cells.size = k := by rw [hv]; simpa using hk
  have hsv : (storeVar t ⟨b, off, none⟩ v).run P w = .ok () w' := by
    simp only [storeVar, Sem.run_bind, run_sizeOf ht, Result.andThen, hs]
    simp only [ne_eq, not_true_eq_false, if_false]
    rw [hv]; exact h2
  simp only [execOp, hx, hy, Instr.storeAt, Instr.sureAddr, Sem.run_bind, Sem.run_pure, hsv, Result.andThen]
theorem st_store {t T : TypeId} {x y : Operand} {b off k : Nat} {v : Value} {vs cs cs' : List Value} (ht : sizeB P t k = true) (hx : ev E x = .pointer (some ⟨b, off, none⟩)) (hy : ev E y = v) (hv : v.cells = ⟨vs⟩) (hb : Blk w b cs T) (hk : vs.length = k)
    (hl : off + vs.length ≤ cs.length) (h1 : ∀ u ∈ vs, u.oneCell' = true) (hcs : setVs cs off vs = cs') (h : ∀ w', Chg [b] w w' → Blk w' b cs' T → wops P r n O Q l (updo E dst undef) ds w') :
    wop P r n O Q ⟨dst, .store t x y, ty, pos, af, g⟩ l E ds w := by
  obtain ⟨w', h2, h3, h4⟩ := r_store (P := P) (dst := dst) (ty := ty) (pos := pos) (af := af) (g := g) ht hx hy hv hb hk hl h1 hcs
  exact wop_skip (fun _ => by simp) h2 (h w' h3 h4)
theorem r_len {x : Operand} {A : Option Addr} {m c : Nat} {ct : Array TypeId} (ht : ((ct[0]?).bind P.underlying).any (fun u => match u with | .slice _ => true | _ => false) = true) (hx : ev E x = .slice A m c) :
    (execOp (ev E) ⟨dst, .call ⟨.builtin .len, #[x], ct⟩, ty, pos, af, g⟩).run P w = .ok (.value (.int .i64 (m : Int))) w := by
    cases h0 : ct[0]? with
    | none => simp [h0] at ht
    | some t0 =>
      simp only [h0, Option.bind_some] at ht
      cases hu : P.underlying t0 with
      | none => simp [hu] at ht
      | some u => cases u <;> simp_all [execOp, resolve, invoke, builtin, Builtin.len_, go_sem, underlying, goInt]
theorem st_len {x : Operand} {A : Option Addr} {m c : Nat} {ct : Array TypeId} (ht : ((ct[0]?).bind P.underlying).any (fun u => match u with | .slice _ => true | _ => false) = true) (hx : ev E x = .slice A m c) (h : wops P r n O Q l (updo E dst (.int .i64 (m : Int))) ds w) : wop P r n O Q ⟨dst, .call ⟨.builtin .len, #[x], ct⟩, ty, pos, af, g⟩ l E ds w :=
  wop_run (fun _ => by simp) (r_len ht hx) h
theorem r_indexAddr {t e : TypeId} {x y : Operand} {b o m c sz : Nat} {k : IntKind} {i : Int} (ht : P.underlying t = some (.slice e)) (hs : sizeB P e sz = true) (hx : ev E x = .slice (some ⟨b, o, none⟩) m c) (hy : ev E y = .int k i) (h0 : 0 ≤ i) (h1 : i < m)
    :
    (execOp (ev E) ⟨dst, .indexAddr t x y, ty, pos, af, g⟩).run P w = .ok (.value (.pointer (some ⟨b, o + i.toNat * sz, none⟩))) w := by
  have h2 := run_sizeOf (w := w) hs
  simp [execOp, hx, hy, Instr.indexAt, go_sem, asIntOf, underlying, ht, Sem.run_bind, h0, h1, h2, Result.andThen, Addr.add_lit]
theorem st_indexAddr {t e : TypeId} {x y : Operand} {b o m c sz : Nat} {k : IntKind} {i : Int} (ht : P.underlying t = some (.slice e)) (hs : sizeB P e sz = true) (hx : ev E x = .slice (some ⟨b, o, none⟩) m c) (hy : ev E y = .int k i) (h0 : 0 ≤ i) (h1 : i < m)
    (h : wops P r n O Q l (updo E dst (.pointer (some ⟨b, o + i.toNat * sz, none⟩))) ds w) : wop P r n O Q ⟨dst, .indexAddr t x y, ty, pos, af, g⟩ l E ds w := wop_run (fun _ => by simp) (r_indexAddr ht hs hx hy h0 h1) h
theorem r_slice {t e : TypeId} {x : Operand} {lo hi : Option Operand} {A : Option Addr} {m c sz i j : Nat} (ht : P.underlying t = some (.slice e)) (hs : sizeB P e sz = true) (hx : ev E x = .slice A m c)
    (hlo : match lo with | some y => ∃ k, ev E y = .int k (i : Int) | none => i = 0) (hhi : match hi with | some y => ∃ k, ev E y = .int k (j : Int) | none => j = m) (h0 : i ≤ j) (h1 : j ≤ c)
    :
    (execOp (ev E) ⟨dst, .slice t x lo hi none, ty, pos, af, g⟩).run P w = .ok (.value (.slice (if c = i then A else A.map (·.add (i * sz))) (j - i) (c - i))) w := by
  have h2 := fun w => run_sizeOf (P := P) (w := w) hs
  cases lo <;> cases hi <;> simp only at hlo hhi
  · subst hlo; subst hhi
    simp [execOp, hx, Instr.sliceAt, Instr.slice, underlying, ht, Instr.sliceBounds, Sem.run_bind, h2, Result.andThen, go_sem]
  · obtain ⟨k, hk⟩ := hhi; subst hlo
    simp [execOp, hx, hk, Instr.sliceAt, Instr.slice, underlying, ht, Instr.sliceBounds, Instr.sliceBound, asIntOf, Sem.run_bind, h2, Result.andThen, go_sem, h1]
  · obtain ⟨k, hk⟩ := hlo; subst hhi
    simp [execOp, hx, hk, Instr.sliceAt, Instr.slice, underlying, ht, Instr.sliceBounds, Instr.sliceBound, asIntOf, Sem.run_bind, h2, Result.andThen, go_sem, h0]
  · obtain ⟨k, hk⟩ := hlo; obtain ⟨k', hk'⟩ := hhi
    simp [execOp, hx, hk, hk', Instr.sliceAt, Instr.slice, underlying, ht, Instr.sliceBounds, Instr.sliceBound, asIntOf, Sem.run_bind, h2, Result.andThen, go_sem, h0, h1]
theorem run_append {α : Type} {c : Enc α} {w : World} {D D2 : Nat → Prop} {A : Option Addr} {cap : Nat} {xs ys : List α} {t e ty : TypeId} {bytes : Nat} (hS : sliceB P t e c.sz bytes)
    (ho : Own c e w D A cap xs) (b o m2 : Nat) (hy : ∀ (i : Nat) (y : α), ys[i]? = some y → ∃ vs, c.R w D2 y vs ∧ Cells w b (o + i * c.sz) vs) (hD2 : ∀ k, k < w.heap.size → D2 k → D k ∧ k ∉ ob A) (hfr : ∀ k, w.heap.size ≤ k → D k)
    (h63 : xs.length + ys.length ≤ 9223372036854775807) (hby : (xs.length + ys.length) * bytes ≤ 140737488355328) :
    ∃ A' cap' w', (Builtin.append_ #[t, t] ty #[.slice A xs.length cap, .slice (some ⟨b, o, none⟩) ys.length m2]).run P w = .ok (.slice A' (xs.length + ys.length) cap') w' ∧ Own c e w' D A' cap' (xs ++ ys) ∧ Chg (ob A) w w' ∧
      (∀ g, g ∈ ob A' → g ∈ ob A ∨ w.heap.size ≤ g) := by
  obtain ⟨ht, hi0, i, z, hi, hz, hzs⟩ := hS
  simp only [hi, Option.map_some, Option.some.injEq, Prod.mk.injEq] at hi0
  obtain ⟨hsz, hbt, _⟩ := hi0
  obtain ⟨cs, h1, h2, h3⟩ := ho
  -- the new cells
  have hex : ∃ es, Chunks c w D2 ys es ∧ (∀ (j : Nat) (u : Value), es[j]? = some u → w.cell? ⟨b, o + j, none⟩ = some u) ∧ ∀ u ∈ es, u.oneCell' = true := by
    clear h63 hby
    induction ys generalizing o with
    | nil => exact ⟨[], .nil, fun j u h => by simp at h, by simp⟩
    | cons y ys ih =>
      obtain ⟨vs, k1, k2⟩ := hy 0 y rfl
      obtain ⟨es, k3, k4, k5⟩ := ih (o + c.sz) (fun i y' h => by
        obtain ⟨vs', q1, q2⟩ := hy (i + 1) y' (by simpa using h)
        refine ⟨vs', q1, ?_⟩
        rw [show o + c.sz + i * c.sz = o + (i + 1) * c.sz by rw [Nat.add_mul, Nat.one_mul]; omega]; exact q2)
      refine ⟨vs ++ es, .cons k1 k3, fun j u hj => ?_, fun u hu => ?_⟩
      · have hl := c.len k1
        by_cases hjl : j < vs.length
        · rw [List.getElem?_append_left hjl] at hj
          have := k2 j u hj
          simpa using this
        · rw [List.getElem?_append_right (by omega)] at hj
          have := k4 _ u hj
          rw [← this]; congr 2; omega
      · rcases List.mem_append.1 hu with h | h
        · exact c.one k1 u h
        · exact k5 u h
  obtain ⟨es, k1, k2, k3⟩ := hex
  have hch : Chunks c w (fun k => D k ∧ k ∉ ob A) (xs ++ ys) (cs ++ es) := h3.append (k1.mono hD2)
  have hm : xs.length + ys.length ≤ maxLen := by simpa [maxLen] using h63
  by_cases hA : A = none
  · subst hA
    have hx0 : xs = [] ∧ cap = 0 := by
      rcases h1.2 with ⟨h4, h5⟩ | ⟨g, cp, cur, h4, _⟩
      · simp only [Value.slice.injEq] at h4; exact ⟨List.eq_nil_of_length_eq_zero h5, h4.2.2⟩
      · simp at h4
    obtain ⟨rfl, rfl⟩ := hx0
    have hcs : cs = [] := List.eq_nil_of_length_eq_zero (by simpa using h3.1)
    subst hcs
    obtain ⟨v', w', hrun, hown, hgr, hnil⟩ := run_append_own (P := P) w w.heap.size t ty e i z c.sz bytes ht hi hz hsz hbt hzs c.pos (.slice none 0 0) 0 [] (World.ownsRow_nil _ _ _ _) ⟨b, o, none⟩ ys.length m2 es k1.1
      (fun j u hj => by rw [Addr.add_lit]; exact k2 j u hj) k3 (by simpa using hm) (by simpa using hby) (Nat.le_refl _)
    have hgr' : Chg [] w w' := ⟨hgr.os, hgr.tape, hgr.output, hgr.size, fun k hk _ => hgr.block k hk (by simp [Value.ownBlock])⟩
    have hf : ∃ A' cap', v' = .slice A' (0 + ys.length) cap' ∧ ∀ g, g ∈ ob A' → w.heap.size ≤ g := by
      rcases hown.2 with ⟨rfl, h5⟩ | ⟨g, cp, cur, rfl, h5, _⟩
      · exact ⟨none, 0, by rw [h5], by simp [ob]⟩
      · exact ⟨_, cp, rfl, fun g' hg' => by simp [ob] at hg'; omega⟩
    obtain ⟨A', cap', rfl, hfg⟩ := hf
    refine ⟨A', cap', w', by simpa using hrun, ⟨es, ?_, fun g hg => hfr g (hfg g hg), ?_⟩, by simpa [ob] using hgr', fun g hg => .inr (hfg g hg)⟩
    · simp only [List.nil_append, Nat.zero_add] at hown ⊢
      refine ⟨hown.1, ?_⟩
      rcases hown.2 with h | ⟨g, cp, cur, q1, q2, q3⟩
      · exact .inl h
      · exact .inr ⟨g, cp, cur, q1, Nat.zero_le _, q3⟩
    · have : Chunks c w (fun k => D k ∧ k ∉ ob A') ys es := k1.mono fun k hk hD => ⟨(hD2 k hk hD).1, fun hx => by have := hfg k hx; omega⟩
      exact this.keep (fun k hk _ => hgr'.block k hk (by simp)) hgr'.size
  · rcases h1.2 with ⟨h4, h5⟩ | ⟨gb, cp, cur, h4, h5, h6, h7, h8, h9, h10⟩
    · simp only [Value.slice.injEq] at h4; exact absurd h4.1 hA
    simp only [Value.slice.injEq] at h4
    obtain ⟨rfl, _, rfl⟩ := h4
    have hlt : gb < w.heap.size := (Array.getElem?_eq_some_iff.1 h6).1
    by_cases hroom : xs.length + ys.length ≤ cap
    · have hfit : xs.length * i.size + es.length ≤ cur.size := by rw [k1.1, hsz, h9, ← Nat.add_mul]; exact Nat.mul_le_mul_right _ hroom
      have hr := run_append_room (P := P) w t ty e i ht hi gb xs.length cap cur h6 ⟨b, o, none⟩ ys.length m2 es (by rw [hsz]; exact k1.1) (fun j u hj => by rw [Addr.add_lit]; exact k2 j u hj) k3 hroom hfit
      have hg2 : Chg [gb] w (w.setRow gb (cur.toList.take (xs.length * i.size) ++ es ++ cur.toList.drop (xs.length * i.size + es.length)).toArray) :=
        ⟨rfl, rfl, rfl, by simp, fun k _ hk => setRow_other w gb k _ (by simpa using hk)⟩
      refine ⟨_, _, _, hr, ⟨cs ++ es, ⟨by rw [List.length_append, h3.1, k1.1, List.length_append, Nat.add_mul], .inr ⟨gb, cap, _, by simp, Nat.zero_le _, setRow_heap w gb cur _ e _ h6, by simpa using hroom, h8, ?_, ?_⟩⟩, h2, ?_⟩, by simpa [ob] using hg2, fun g hg => .inl hg⟩
      · simp only [List.size_toArray, List.length_append, List.length_take, List.length_drop, Array.length_toList]
        omega
      · rw [hsz, h10]
        have : (cs ++ es).length = (xs ++ ys).length * c.sz := by rw [List.length_append, h3.1, k1.1, List.length_append, Nat.add_mul]
        rw [← this]
        simp only []
        rw [List.take_left]
      · exact hch.keep (fun k hk hD => hg2.block k hk (by simpa [ob] using hD.2)) hg2.size
    · obtain ⟨v', w', hrun, hown, hgr⟩ := run_append_arg_grows (P := P) w t ty e i z c.sz bytes ht hi hz hsz hbt hzs c.pos ⟨gb, 0, none⟩ xs.length cap cs h3.1
        (fun j u hj => by
          rw [Addr.add_lit]
          have hj' := hj
          rw [← h10, List.getElem?_take] at hj'
          split at hj'
          · simpa [World.cell?, h6] using hj'
          · cases hj') ⟨b, o, none⟩ ys.length m2 es k1.1 (fun j u hj => by rw [Addr.add_lit]; exact k2 j u hj) (by omega) hm hby
      have hgr' : Chg [] w w' := ⟨hgr.os, hgr.tape, hgr.output, hgr.size, fun k hk _ => hgr.block k hk (by simp)⟩
      have hf : ∃ A' cap', v' = .slice A' (xs.length + ys.length) cap' ∧ ∀ g, g ∈ ob A' → w.heap.size ≤ g := by
        rcases hown.2 with ⟨rfl, h5⟩ | ⟨g, cp, cur, rfl, h5, _⟩
        · exact ⟨none, 0, by rw [h5], by simp [ob]⟩
        · exact ⟨_, cp, rfl, fun g' hg' => by simp [ob] at hg'; omega⟩
      obtain ⟨A', cap', rfl, hfg⟩ := hf
      refine ⟨A', cap', w', hrun, ⟨cs ++ es, ?_, fun g hg => hfr g (hfg g hg), ?_⟩, hgr'.wide, fun g hg => .inr (hfg g hg)⟩
      · rw [List.length_append]
        refine ⟨hown.1, ?_⟩
        rcases hown.2 with h | ⟨g, cp, cur, q1, q2, q3⟩
        · exact .inl h
        · exact .inr ⟨g, cp, cur, q1, Nat.zero_le _, q3⟩
      · have : Chunks c w (fun k => D k ∧ k ∉ ob A') (xs ++ ys) (cs ++ es) := hch.mono fun k hk hD => ⟨hD.1, fun hx => by have := hfg k hx; omega⟩
        exact this.keep (fun k hk _ => hgr'.block k hk (by simp)) hgr'.size
theorem r_append {α : Type} {c : Enc α} {D D2 : Nat → Prop} {A : Option Addr} {cap b o m m2 k : Nat} {xs ys : List α} {t e : TypeId} {bytes : Nat} {x y : Operand} (hS : sliceB P t e c.sz bytes)
    (hx : ev E x = .slice A m cap) (hm : m = xs.length) (ho : Own c e w D A cap xs) (hyv : ev E y = .slice (some ⟨b, o, none⟩) k m2) (hk : k = ys.length) (hy : ∀ (i : Nat) (y : α), ys[i]? = some y → ∃ vs, c.R w D2 y vs ∧ Cells w b (o + i * c.sz) vs)
    (hD2 : ∀ k, k < w.heap.size → D2 k → D k ∧ k ∉ ob A) (hfr : ∀ k, w.heap.size ≤ k → D k) (h63 : xs.length + ys.length ≤ 9223372036854775807) (hby : (xs.length + ys.length) * bytes ≤ 140737488355328) :
    ∃ A' cap' w', (execOp (ev E) ⟨dst, .call ⟨.builtin .append, #[x, y], #[t, t]⟩, ty, pos, af, g⟩).run P w = .ok (.value (.slice A' (xs.length + ys.length) cap')) w' ∧ Own c e w' D A' cap' (xs ++ ys) ∧ Chg (ob A) w w' ∧ (∀ g, g ∈ ob A' → g ∈ ob A ∨ w.heap.size ≤ g) := by
  subst hm; subst hk
  obtain ⟨A', cap', w', h1, h2, h3, h4⟩ := run_append (ty := ty) hS ho b o m2 hy hD2 hfr h63 hby
  refine ⟨A', cap', w', ?_, h2, h3, h4⟩
  simp only [execOp, resolve, invoke, builtin, List.map_toArray, List.map_cons, List.map_nil, hx, hyv, Sem.run_bind, Sem.run_pure, h1, Result.andThen]
theorem st_append {α : Type} {c : Enc α} {D D2 : Nat → Prop} {A : Option Addr} {cap b o m m2 k : Nat} {xs ys : List α} {t e : TypeId} {bytes : Nat} {x y : Operand} (hS : sliceB P t e c.sz bytes)
    (hx : ev E x = .slice A m cap) (hm : m = xs.length) (ho : Own c e w D A cap xs) (hyv : ev E y = .slice (some ⟨b, o, none⟩) k m2) (hk : k = ys.length) (hy : ∀ (i : Nat) (y : α), ys[i]? = some y → ∃ vs, c.R w D2 y vs ∧ Cells w b (o + i * c.sz) vs)
    (hD2 : ∀ k, k < w.heap.size → D2 k → D k ∧ k ∉ ob A) (hfr : ∀ k, w.heap.size ≤ k → D k) (h63 : xs.length + ys.length ≤ 9223372036854775807) (hby : (xs.length + ys.length) * bytes ≤ 140737488355328)
    (h : ∀ A' cap' w', Own c e w' D A' cap' (xs ++ ys) → Chg (ob A) w w' → (∀ g, g ∈ ob A' → g ∈ ob A ∨ w.heap.size ≤ g) → wops P r n O Q l (updo E dst (.slice A' (xs.length + ys.length) cap')) ds w') :
    wop P r n O Q ⟨dst, .call ⟨.builtin .append, #[x, y], #[t, t]⟩, ty, pos, af, g⟩ l E ds w := by
  subst hm; subst hk
  obtain ⟨A', cap', w', h1, h2, h3, h4⟩ := run_append (ty := ty) hS ho b o m2 hy hD2 hfr h63 hby
  refine wop_run (fun _ => by simp) ?_ (h A' cap' w' h2 h3 h4)
  simp only [execOp, resolve, invoke, builtin, List.map_toArray, List.map_cons, List.map_nil, hx, hyv, Sem.run_bind, Sem.run_pure, h1, Result.andThen]
theorem r_call {c : Call} {f : FuncId} {ags : List Value} {x : Operand} {cap : Array Value} (hcal : c.callee = .value x) (hf : ev E x = .func (.func f) #[] cap) (hent : ∀ args (w : World), (callFunc f args).run P w = .ok (.enter f args) w)
    (has : c.args.toList.map (ev E) ++ cap.toList = ags) : (execOp (ev E) ⟨dst, .call c, ty, pos, af, g⟩).run P w = .ok (.enter f ⟨ags⟩) w := by
  replace has : (c.args.map (ev E)) ++ cap = ⟨ags⟩ := Array.ext' (by simpa using has)
  simp [execOp, resolve, hcal, hf, Deferred.ofValue, invoke, go_sem, has, hent, Result.andThen]
theorem st_call {c : Call} {f : FuncId} {ags : List Value} {Φ : Value → World → Prop} {x : Operand} {cap : Array Value} (hcal : c.callee = .value x) (hf : ev E x = .func (.func f) #[] cap) (hent : ∀ args (w : World), (callFunc f args).run P w = .ok (.enter f args) w)
    (has : c.args.toList.map (ev E) ++ cap.toList = ags) (hc : CallR P f ⟨ags⟩ w Φ) (h : ∀ v w', Φ v w' → wops P r n O Q l (updo E dst v) ds w') : wop P r n O Q ⟨dst, .call c, ty, pos, af, g⟩ l E ds w := by
  exact wop_enter (fun _ => by simp) (r_call hcal hf hent has) hc h
end ops
end Go.Proofs.YtncnalboiljgiaaGreat.K
namespace Go.Proofs.YtncnalboiljgiaaGreat.K
open Go Go.RowKit
variable {P : Program} {r : Option Nat} {n : Nat} {O : Array Oper} {Q : Post} {E : Env} {ds : List Deferred} {w : World} {l : List Oper}
def cellsOf : Value → List Value
  | .agg ⟨cs⟩ => cs
  | v => [v]
theorem cellsOf_eq (v : Value) : v.cells = ⟨cellsOf v⟩ := by cases v <;> rfl
def lenV : List Value → Nat
  | [] => 0
  | _ :: r => lenV r + 1
theorem lenV_eq : ∀ l : List Value, lenV l = l.length
  | [] => rfl
  | _ :: r => by simp only [lenV, lenV_eq r, List.length_cons]
def fillV (pl : Nat → Option (Nat × Nat)) (cs : List Value) : List (Nat × List Value) → Option (List Value)
  | [] => some cs
  | (i, vs) :: rest => match pl i with
    | none => none
    | some (off, size) => bif Nat.beq (lenV vs) size && Nat.ble (off + lenV vs) (lenV cs) then fillV pl (setVs cs off vs) rest else none
theorem foldl_set : ∀ (vs cs : List Value) (off k : Nat), ((vs.zipIdx k).foldl (fun (cs : Array Value) (x : Value × Nat) => cs.setIfInBounds (off + x.2) x.1) ⟨cs⟩) = ⟨setVs cs (off + k) vs⟩
  | [], cs, off, k => rfl
  | v :: vs, cs, off, k => by
    simp only [List.zipIdx_cons, List.foldl_cons, setVs]
    rw [show ((⟨cs⟩ : Array Value).setIfInBounds (off + k) v) = ⟨setV cs (off + k) v⟩ by rw [setV_eq]; simp]
    rw [foldl_set vs]; rfl
theorem fill_eq {pl : Nat → Option (Nat × Nat)} : ∀ (ps : List (Nat × Value)) (cs vs : List Value), fillV pl cs (ps.map fun p => (p.1, cellsOf p.2)) = some vs → Instr.fill pl ⟨cs⟩ ps = some ⟨vs⟩
  | [], cs, vs, h => by simp only [List.map_nil, fillV, Option.some.injEq] at h; subst h; rfl
  | (i, v) :: ps, cs, vs, h => by
    simp only [List.map_cons, fillV] at h
    simp only [Instr.fill]
    cases hp : pl i with
    | none => simp [hp] at h
    | some q =>
      obtain ⟨off, size⟩ := q
      simp only [hp] at h ⊢
      cases hb : Nat.beq (lenV (cellsOf v)) size && Nat.ble (off + lenV (cellsOf v)) (lenV cs) with
      | false => rw [hb] at h; simp at h
      | true =>
        rw [hb] at h
        simp only [cond_true] at h
        simp only [Bool.and_eq_true] at hb
        have h1 := Nat.eq_of_beq_eq_true hb.1
        have h2 := Nat.le_of_ble_eq_true hb.2
        rw [lenV_eq] at h1 h2
        rw [lenV_eq] at h2
        rw [cellsOf_eq v]
        have hs : (⟨cellsOf v⟩ : Array Value).size = (cellsOf v).length := rfl
        have hs2 : (⟨cs⟩ : Array Value).size = cs.length := rfl
        rw [if_neg (by simp only [hs, hs2, h1]; simp; omega)]
        have hz : (⟨cellsOf v⟩ : Array Value).zipIdx.foldl (fun (cs : Array Value) (x : Value × Nat) => cs.setIfInBounds (off + x.2) x.1) ⟨cs⟩ = ⟨setVs cs off (cellsOf v)⟩ := by
          rw [← Array.foldl_toList, Array.toList_zipIdx]
          exact foldl_set (cellsOf v) cs off 0
        have := fill_eq ps _ _ h
        rw [← hz] at this
        exact this
def plOf : List (Nat × Nat) → Nat → Option (Nat × Nat)
  | [], _ => none
  | p :: _, 0 => some p
  | _ :: r, i + 1 => plOf r i
theorem plOf_eq : ∀ (pl : List (Nat × Nat)) (i : Nat), plOf pl i = pl[i]?
  | [], i => by cases i <;> rfl
  | p :: r, 0 => rfl
  | p :: r, i + 1 => by simp only [plOf, List.getElem?_cons_succ]; exact plOf_eq r i
def bldB (P : Program) (t : TypeId) (pl : List (Nat × Nat)) (zs : List Value) : Prop :=
  ∃ fs, P.underlying t = some (.struct fs) ∧ (fs.toList.mapM (m := Option) fun f => (P.info? f.type).map fun i => (f.offset, i.size)) = some pl ∧ (P.info? t).bind (·.zero) = some (.agg ⟨zs⟩)
theorem run_places : ∀ (fs : List Field) (pl : List (Nat × Nat)), (fs.mapM (m := Option) fun f => (P.info? f.type).map fun i => (f.offset, i.size)) = some pl →
    ∀ w : World, ((fs.mapM (m := Sem) fun f => do pure (f.offset, ← sizeOf f.type)) : Sem (List (Nat × Nat))).run P w = .ok pl w
  | [], pl, h, w => by simp at h; subst h; rfl
  | f :: fs, pl, h, w => by
    simp only [List.mapM_cons, Option.bind_eq_bind, Option.bind_eq_some_iff, Option.map_eq_some_iff] at h
    obtain ⟨p, ⟨i, hi, rfl⟩, q, hq, he⟩ := h
    have he : (f.offset, i.size) :: q = pl := by simpa using he
    subst he
    have ih := run_places fs q hq w
    have hs : (sizeOf f.type).run P w = .ok i.size w := by simp [sizeOf, typeInfo, go_sem, hi]
    rw [List.mapM_cons]
    simp only [Sem.run_bind, hs, Result.andThen, Sem.run_pure, ih]
section
variable {dst : Option Nat} {ty : TypeId} {pos : String} {af : Array Edge} {g : Option (Nat × Bool)}
theorem r_bld {t : TypeId} {ps : List (Nat × Operand)} {pl : List (Nat × Nat)} {zs vs : List Value} (hb : bldB P t pl zs) (hv : fillV (plOf pl) zs (ps.map fun p => (p.1, cellsOf (ev E p.2))) = some vs) :
    (execOp (ev E) ⟨dst, .build t ps.toArray, ty, pos, af, g⟩).run P w = .ok (.value (.agg ⟨vs⟩)) w := by
  have key : ∀ w : World, (Instr.build t (ps.toArray.map fun (i, x) => (i, ev E x))).run P w = .ok (.agg ⟨vs⟩) w := ?_
  · simp only [execOp, Sem.run_bind, key, Result.andThen, Sem.run_pure]
  intro w
  obtain ⟨fs, h1, h2, h3⟩ := hb
  have hf := fill_eq (pl := plOf pl) (ps.map fun p => (p.1, ev E p.2)) zs vs (by rw [List.map_map]; exact hv)
  cases hi : P.info? t with
  | none => simp [hi] at h3
  | some i =>
    simp only [hi, Option.bind_some] at h3
    have hpl := run_places (P := P) fs.toList pl h2 w
    have hz : (zeroValue t).run P w = .ok (.agg ⟨zs⟩) w := by simp [zeroValue, typeInfo, go_sem, hi, h3]
    have hu : (underlying t).run P w = .ok (.struct fs) w := by simp [underlying, go_sem, h1]
    have hm : ((fs.mapM fun f => do pure (f.offset, ← sizeOf f.type)) : Sem (Array (Nat × Nat))).run P w = .ok ⟨pl⟩ w := by
      rw [Array.mapM_eq_mapM_toList, ← bind_pure_comp]
      simp only [Sem.run_bind, hpl, Result.andThen, Sem.run_pure]
    have e1 : (fun i => (⟨pl⟩ : Array (Nat × Nat))[i]?) = plOf pl := by funext i; rw [plOf_eq]; simp
    have e2 : (ps.toArray.map fun p => (p.1, ev E p.2)).toList = ps.map fun p => (p.1, ev E p.2) := by simp
    unfold Instr.build
    simp only [Sem.run_bind, hz, Result.andThen, hu, hm, Value.cells, e2]
    rw [e1, hf]
    rfl
theorem st_bld {t : TypeId} {ps : List (Nat × Operand)} {pl : List (Nat × Nat)} {zs vs : List Value} (hb : bldB P t pl zs) (hv : fillV (plOf pl) zs (ps.map fun p => (p.1, cellsOf (ev E p.2))) = some vs) (h : wops P r n O Q l (updo E dst (.agg ⟨vs⟩)) ds w) :
    wop P r n O Q ⟨dst, .build t ps.toArray, ty, pos, af, g⟩ l E ds w := wop_run (fun _ => by simp) (r_bld hb hv) h
def litB (P : Program) (t e : TypeId) (size : Nat) : Prop := P.underlying t = some (.slice e) ∧ ∃ i z, P.info? e = some i ∧ i.size = size ∧ i.zero = some z ∧ z.cells.size = size
def flatV : List (List Value) → List Value
  | [] => []
  | v :: r => v ++ flatV r
theorem fill_all {size : Nat} : ∀ (ps : List (Nat × Value)) (done todo : List Value) (k : Nat), done.length = k * size → todo.length = ps.length * size → (ps.map (·.1) = List.range' k ps.length) → (∀ p ∈ ps, (cellsOf p.2).length = size) →
    Instr.fill (fun i => some (i * size, size)) ⟨done ++ todo⟩ ps = some ⟨done ++ flatV (ps.map fun p => cellsOf p.2)⟩
  | [], done, todo, k, h1, h2, h3, h4 => by simp at h2; subst h2; simp [Instr.fill, flatV]
  | (i, v) :: ps, done, todo, k, h1, h2, h3, h4 => by
    simp only [List.map_cons, List.length_cons, List.range'_succ, List.cons.injEq] at h3
    obtain ⟨rfl, h3⟩ := h3
    have hv : (cellsOf v).length = size := h4 (i, v) (by simp)
    simp only [Instr.fill]
    rw [cellsOf_eq v]
    have hs : (⟨cellsOf v⟩ : Array Value).size = (cellsOf v).length := rfl
    have hs2 : (⟨done ++ todo⟩ : Array Value).size = done.length + todo.length := by simp
    simp only [List.length_cons, Nat.add_mul, Nat.one_mul] at h2
    rw [if_neg (by rw [hs, hs2, hv]; simp; omega)]
    have hz : (⟨cellsOf v⟩ : Array Value).zipIdx.foldl (fun (cs : Array Value) (x : Value × Nat) => cs.setIfInBounds (i * size + x.2) x.1) ⟨done ++ todo⟩ = ⟨setVs (done ++ todo) (i * size) (cellsOf v)⟩ := by
      rw [← Array.foldl_toList, Array.toList_zipIdx]
      exact foldl_set (cellsOf v) (done ++ todo) (i * size) 0
    have hset : ∀ (vs d t : List Value), vs.length ≤ t.length → setVs (d ++ t) d.length vs = d ++ vs ++ t.drop vs.length := by
      intro vs
      induction vs with
      | nil => intro d t _; simp [setVs]
      | cons u us ih =>
        intro d t ht
        cases t with
        | nil => simp at ht
        | cons t0 t =>
          simp only [setVs]
          rw [setV_eq, List.set_append_right _ _ (by omega)]
          simp only [Nat.sub_self, List.set_cons_zero]
          have := ih (d ++ [u]) t (by simpa using ht)
          simp only [List.length_append, List.length_singleton] at this
          rw [show d ++ u :: t = d ++ [u] ++ t by simp, this]
          simp
    rw [← h1, hset _ _ _ (by omega)] at hz
    have ih := fill_all ps (done ++ cellsOf v) (todo.drop (cellsOf v).length) (i + 1) (by rw [List.length_append, h1, hv, Nat.add_mul, Nat.one_mul]) (by rw [List.length_drop, hv]; omega) h3 (fun p hp => h4 p (by simp [hp]))
    rw [← h1, hz, ih]
    simp [flatV]
theorem r_lit {t e : TypeId} {m size : Nat} {ps : List (Nat × Operand)} {vs : List Value} (hb : litB P t e size) (hm : m * size ≤ 16777216) (hi : ps.map (·.1) = List.range' 0 m) (hs : ∀ p ∈ ps, (cellsOf (ev E p.2)).length = size)
    (hv : flatV (ps.map fun p => cellsOf (ev E p.2)) = vs) :
    (execOp (ev E) ⟨dst, .buildSlice t m ps.toArray, ty, pos, af, g⟩).run P w = .ok (.value (.slice (some ⟨w.heap.size, 0, none⟩) m m)) (w.alloc (.cells ⟨vs⟩ e)) := by
  have key : ∀ w : World, (Instr.buildSlice t m (ps.toArray.map fun (i, x) => (i, ev E x))).run P w = .ok (.slice (some ⟨w.heap.size, 0, none⟩) m m) (w.alloc (.cells ⟨vs⟩ e)) := ?_
  · simp only [execOp, Sem.run_bind, key, Result.andThen, Sem.run_pure]
  intro w
  obtain ⟨h1, i, z, h2, h3, h4, h5⟩ := hb
  have hu : (underlying t).run P w = .ok (.slice e) w := by simp [underlying, go_sem, h1]
  have hz : (zeroValue e).run P w = .ok z w := by simp [zeroValue, typeInfo, go_sem, h2, h4]
  have hsz : (sizeOf e).run P w = .ok size w := by simp [sizeOf, typeInfo, go_sem, h2, h3]
  have hl : ps.length = m := by have := congrArg List.length hi; simpa using this
  have e2 : (ps.toArray.map fun p => (p.1, ev E p.2)).toList = ps.map fun p => (p.1, ev E p.2) := by simp
  have hf : ∀ (c : List Value), c.length = m * size → Instr.fill (fun i => some (i * size, size)) ⟨c⟩ (ps.map fun p => (p.1, ev E p.2)) = some ⟨vs⟩ := by
    intro c hc
    have := fill_all (size := size) (ps.map fun p => (p.1, ev E p.2)) [] c 0 (by simp) (by simpa [hl] using hc) (by rw [List.map_map, List.length_map, hl]; exact hi) (fun p hp => by obtain ⟨q, hq, rfl⟩ := List.mem_map.1 hp; exact hs q hq)
    simp only [List.nil_append, List.map_map] at this
    rw [this]
    have : ((fun p : Nat × Value => cellsOf p.2) ∘ fun p : Nat × Operand => (p.1, ev E p.2)) = fun p => cellsOf (ev E p.2) := rfl
    rw [this, hv]
  unfold Instr.buildSlice
  simp only [Sem.run_bind, hu, Result.andThen, hsz, e2]
  rw [if_neg (by omega)]
  by_cases h0 : m * size = 0
  · rw [if_pos h0]
    have hr : ((Array.range (m * size)).map ((#[] : Array Value)[· % (#[] : Array Value).size]!)) = ⟨[]⟩ := by rw [h0]; simp
    simp only [Sem.run_bind, Sem.run_pure, Result.andThen, hr]
    rw [hf [] (by simpa using h0.symm)]
    rfl
  · rw [if_neg h0]
    simp only [Sem.run_bind, Sem.run_pure, Result.andThen, hz]
    have := hf ((Array.range (m * size)).map (z.cells[· % z.cells.size]!)).toList (by simp)
    have e3 : (⟨((Array.range (m * size)).map (z.cells[· % z.cells.size]!)).toList⟩ : Array Value) = (Array.range (m * size)).map (z.cells[· % z.cells.size]!) := rfl
    rw [e3] at this
    rw [this]
    rfl
theorem st_lit {t e : TypeId} {m size : Nat} {ps : List (Nat × Operand)} {vs : List Value} (hb : litB P t e size) (hm : m * size ≤ 16777216) (hi : ps.map (·.1) = List.range' 0 m) (hs : ∀ p ∈ ps, (cellsOf (ev E p.2)).length = size)
    (hv : flatV (ps.map fun p => cellsOf (ev E p.2)) = vs) (h : ∀ b w', b = w.heap.size → Chg [] w w' → Blk w' b vs e → wops P r n O Q l (updo E dst (.slice (some ⟨b, 0, none⟩) m m)) ds w') :
    wop P r n O Q ⟨dst, .buildSlice t m ps.toArray, ty, pos, af, g⟩ l E ds w :=
  wop_run (fun _ => by simp) (r_lit hb hm hi hs hv) (h w.heap.size _ rfl (Chg.alloc w _) (Blk.new w vs e))
end
theorem w_split {d : Nat} {t : Bool} (he : E d = .bool t) (h1 : t = true → wops P r n O Q l (upd E d (.bool true)) ds w) (h0 : t = false → wops P r n O Q l (upd E d (.bool false)) ds w) : wops P r n O Q l E ds w := by
  have hE : upd E d (.bool t) = E := by
    funext i
    by_cases e : i = d
    · subst e; rw [upd_same, he]
    · rw [upd_other _ _ _ _ e]
  cases t with
  | true => have := h1 rfl; rwa [hE] at this
  | false => have := h0 rfl; rwa [hE] at this
theorem ret_tmp {fn : Func} {Φ : Value → World → Prop} {t : Nat} {v : Value} (hr : fn.results = #[.tmp t]) (hv : E t = v) (h : Φ v w) : retP P fn Φ .ret E [] w :=
  ⟨rfl, fun a ha => ⟨v, by rw [results_tmp hr]; subst hv; rw [← ha]; rfl, h⟩⟩
theorem ret_tmp2 {fn : Func} {Φ : Value → World → Prop} {t u : Nat} {v v2 : Value} (hr : fn.results = #[.tmp t, .tmp u]) (hv : E t = v) (hv2 : E u = v2) (h : Φ (.tuple ⟨[v, v2]⟩) w) : retP P fn Φ .ret E [] w :=
  ⟨rfl, fun a ha => ⟨_, by rw [results_tmp2 hr]; subst hv; subst hv2; rw [← ha]; rfl, h⟩⟩
theorem ret_none {fn : Func} {Φ : Value → World → Prop} (hr : fn.results = #[]) (h : Φ (.tuple ⟨[]⟩) w) : retP P fn Φ .ret E [] w :=
  ⟨rfl, fun a ha => ⟨_, by rw [results_none hr], h⟩⟩
theorem ret_none_n {fn : Func} {Φ : Value → World → Prop} (hr : fn.results = #[]) (h : Φ (.tuple ⟨[]⟩) w) : retP P fn Φ .normal E [] w :=
  ⟨rfl, fun a ha => ⟨_, by rw [results_none hr], h⟩⟩
theorem run_loadVarA {t : TypeId} {b off k : Nat} {vs : List Value} (ht : aggB P t k = true) (hc : Cells w b off vs) (hk : vs.length = k) : (loadVar t ⟨b, off, none⟩).run P w = .ok (.agg ⟨vs⟩) w := by
  have h1 := run_loadCells_list (P := P) (w := w) ⟨b, off, none⟩ vs (fun j v hj => by rw [Addr.add_lit]; exact hc j v hj)
  rw [hk] at h1
  simp only [loadVar, Sem.run_bind, run_isAgg_agg ht, Result.andThen, run_sizeOf (sizeB_agg ht), h1, Sem.run_pure, if_true]
theorem run_loadVar1 {t : TypeId} {b off : Nat} {v : Value} (ht : oneB P t = true) (hc : w.cell? ⟨b, off, none⟩ = some v) : (loadVar t ⟨b, off, none⟩).run P w = .ok v w := by
  simp only [loadVar, Sem.run_bind, run_isAgg_one ht, Result.andThen, if_false, Bool.false_eq_true, load, Sem.run, hc]
theorem ret_cellA {fn : Func} {Φ : Value → World → Prop} {t : TypeId} {d b off k : Nat} {vs : List Value} (hr : fn.results = #[.cell d t]) (hv : E d = .pointer (some ⟨b, off, none⟩)) (ht : aggB P t k = true) (hc : Cells w b off vs) (hk : vs.length = k) (h : Φ (.agg ⟨vs⟩) w) : retP P fn Φ .ret E [] w :=
  ⟨rfl, fun a ha => ⟨_, by
    have hd : a.tmps.getD d undef = .pointer (some ⟨b, off, none⟩) := by rw [← hv, ← ha]; rfl
    have hl := run_loadVarA (w := w) ht hc hk
    simp only [results, hr]
    rw [Array.mapM_eq_mapM_toList]
    simp only [List.mapM_cons, List.mapM_nil, hd, asAddr, Sem.run_bind, Sem.run_pure, hl, Result.andThen, ← bind_pure_comp]
    rfl, h⟩⟩
end Go.Proofs.YtncnalboiljgiaaGreat.K
