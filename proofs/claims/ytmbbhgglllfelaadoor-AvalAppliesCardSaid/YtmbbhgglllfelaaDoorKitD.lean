/- The walk's own rules, fourth part: literals, guards, a function's end, a statement whose order is open. -/
import Derived.Test.YtmbbhgglllfelaaDoorKitC
set_option linter.unusedVariables false
set_option linter.unusedSimpArgs false
set_option autoImplicit false
namespace Go.Proofs.YtmbbhgglllfelaaDoor.K
open Go Go.RowKit
variable {P : Program} {r : Option Nat} {n : Nat} {O : Array Oper} {Q : Post} {E : Env} {ds : List Deferred} {w : World} {l : List Oper}

/-! ### literals -/
def cellsOf : Value → List Value
  | .agg ⟨cs⟩ => cs
  | v => [v]
theorem cellsOf_eq (v : Value) : v.cells = ⟨cellsOf v⟩ := by cases v <;> rfl
def lenV : List Value → Nat
  | [] => 0
  | _ :: r => lenV r + 1
theorem lenV_eq : ∀ l : List Value, lenV l = l.length
  | [] => rfl
  | _ :: r => by simp only [lenV, lenV_eq r, List.length_cons]
/-- Parts laid into cells: where part i lies, and how many cells it has. -/
def fillV (pl : Nat → Option (Nat × Nat)) (cs : List Value) : List (Nat × List Value) → Option (List Value)
  | [] => some cs
  | (i, vs) :: rest => match pl i with
    | none => none
    | some (off, size) => bif Nat.beq (lenV vs) size && Nat.ble (off + lenV vs) (lenV cs) then fillV pl (setVs cs off vs) rest else none
theorem setVs_len : ∀ (vs cs : List Value) (i : Nat), (setVs cs i vs).length = cs.length
  | [], cs, i => rfl
  | v :: vs, cs, i => by simp only [setVs]; rw [setVs_len vs, setV_eq, List.length_set]
theorem foldl_set : ∀ (vs cs : List Value) (off k : Nat), ((vs.zipIdx k).foldl (fun (cs : Array Value) (x : Value × Nat) => cs.setIfInBounds (off + x.2) x.1) ⟨cs⟩) = ⟨setVs cs (off + k) vs⟩
  | [], cs, off, k => rfl
  | v :: vs, cs, off, k => by
    simp only [List.zipIdx_cons, List.foldl_cons, setVs]
    rw [show ((⟨cs⟩ : Array Value).setIfInBounds (off + k) v) = ⟨setV cs (off + k) v⟩ by rw [setV_eq]; simp]
    rw [foldl_set vs]; rfl
theorem fill_eq {pl : Nat → Option (Nat × Nat)} : ∀ (ps : List (Nat × Value)) (cs vs : List Value), fillV pl cs (ps.map fun p => (p.1, cellsOf p.2)) = some vs → Instr.fill pl ⟨cs⟩ ps = some ⟨vs⟩
  | [], cs, vs, h => by simp only [List.map_nil, fillV, Option.some.injEq] at h; subst h; rfl
  | (i, v) :: ps, cs, vs, h => by
    simp only [List.map_cons, fillV] at h
    simp only [Instr.fill]
    cases hp : pl i with
    | none => simp [hp] at h
    | some q =>
      obtain ⟨off, size⟩ := q
      simp only [hp] at h ⊢
      cases hb : Nat.beq (lenV (cellsOf v)) size && Nat.ble (off + lenV (cellsOf v)) (lenV cs) with
      | false => rw [hb] at h; simp at h
      | true =>
        rw [hb] at h
        simp only [cond_true] at h
        simp only [Bool.and_eq_true] at hb
        have h1 := Nat.eq_of_beq_eq_true hb.1
        have h2 := Nat.le_of_ble_eq_true hb.2
        rw [lenV_eq] at h1 h2
        rw [lenV_eq] at h2
        rw [cellsOf_eq v]
        have hs : (⟨cellsOf v⟩ : Array Value).size = (cellsOf v).length := rfl
        have hs2 : (⟨cs⟩ : Array Value).size = cs.length := rfl
        rw [if_neg (by simp only [hs, hs2, h1]; simp; omega)]
        have hz : (⟨cellsOf v⟩ : Array Value).zipIdx.foldl (fun (cs : Array Value) (x : Value × Nat) => cs.setIfInBounds (off + x.2) x.1) ⟨cs⟩ = ⟨setVs cs off (cellsOf v)⟩ := by
          rw [← Array.foldl_toList, Array.toList_zipIdx]
          exact foldl_set (cellsOf v) cs off 0
        have := fill_eq ps _ _ h
        rw [← hz] at this
        exact this
def plOf : List (Nat × Nat) → Nat → Option (Nat × Nat)
  | [], _ => none
  | p :: _, 0 => some p
  | _ :: r, i + 1 => plOf r i
theorem plOf_eq : ∀ (pl : List (Nat × Nat)) (i : Nat), plOf pl i = pl[i]?
  | [], i => by cases i <;> rfl
  | p :: r, 0 => rfl
  | p :: r, i + 1 => by simp only [plOf, List.getElem?_cons_succ]; exact plOf_eq r i
/-- Type t is a struct with fields at these places, whose zero value has these cells. -/
def bldB (P : Program) (t : TypeId) (pl : List (Nat × Nat)) (zs : List Value) : Prop :=
  ∃ fs, P.underlying t = some (.struct fs) ∧ (fs.toList.mapM (m := Option) fun f => (P.info? f.type).map fun i => (f.offset, i.size)) = some pl ∧ (P.info? t).bind (·.zero) = some (.agg ⟨zs⟩)
theorem run_places : ∀ (fs : List Field) (pl : List (Nat × Nat)), (fs.mapM (m := Option) fun f => (P.info? f.type).map fun i => (f.offset, i.size)) = some pl →
    ∀ w : World, ((fs.mapM (m := Sem) fun f => do pure (f.offset, ← sizeOf f.type)) : Sem (List (Nat × Nat))).run P w = .ok pl w
  | [], pl, h, w => by simp at h; subst h; rfl
  | f :: fs, pl, h, w => by
    simp only [List.mapM_cons, Option.bind_eq_bind, Option.bind_eq_some_iff, Option.map_eq_some_iff] at h
    obtain ⟨p, ⟨i, hi, rfl⟩, q, hq, he⟩ := h
    have he : (f.offset, i.size) :: q = pl := by simpa using he
    subst he
    have ih := run_places fs q hq w
    have hs : (sizeOf f.type).run P w = .ok i.size w := by simp [sizeOf, typeInfo, go_sem, hi]
    rw [List.mapM_cons]
    simp only [Sem.run_bind, hs, Result.andThen, Sem.run_pure, ih]
section
variable {dst : Option Nat} {ty : TypeId} {pos : String} {af : Array Edge} {g : Option (Nat × Bool)}
theorem r_bld {t : TypeId} {ps : List (Nat × Operand)} {pl : List (Nat × Nat)} {zs vs : List Value} (hb : bldB P t pl zs) (hv : fillV (plOf pl) zs (ps.map fun p => (p.1, cellsOf (ev E p.2))) = some vs) :
    (execOp (ev E) ⟨dst, .build t ps.toArray, ty, pos, af, g⟩).run P w = .ok (.value (.agg ⟨vs⟩)) w := by
  have key : ∀ w : World, (Instr.build t (ps.toArray.map fun (i, x) => (i, ev E x))).run P w = .ok (.agg ⟨vs⟩) w := ?_
  · simp only [execOp, Sem.run_bind, key, Result.andThen, Sem.run_pure]
  intro w
  obtain ⟨fs, h1, h2, h3⟩ := hb
  have hf := fill_eq (pl := plOf pl) (ps.map fun p => (p.1, ev E p.2)) zs vs (by rw [List.map_map]; exact hv)
  cases hi : P.info? t with
  | none => simp [hi] at h3
  | some i =>
    simp only [hi, Option.bind_some] at h3
    have hpl := run_places (P := P) fs.toList pl h2 w
    have hz : (zeroValue t).run P w = .ok (.agg ⟨zs⟩) w := by simp [zeroValue, typeInfo, go_sem, hi, h3]
    have hu : (underlying t).run P w = .ok (.struct fs) w := by simp [underlying, go_sem, h1]
    have hm : ((fs.mapM fun f => do pure (f.offset, ← sizeOf f.type)) : Sem (Array (Nat × Nat))).run P w = .ok ⟨pl⟩ w := by
      rw [Array.mapM_eq_mapM_toList, ← bind_pure_comp]
      simp only [Sem.run_bind, hpl, Result.andThen, Sem.run_pure]
    have e1 : (fun i => (⟨pl⟩ : Array (Nat × Nat))[i]?) = plOf pl := by funext i; rw [plOf_eq]; simp
    have e2 : (ps.toArray.map fun p => (p.1, ev E p.2)).toList = ps.map fun p => (p.1, ev E p.2) := by simp
    unfold Instr.build
    simp only [Sem.run_bind, hz, Result.andThen, hu, hm, Value.cells, e2]
    rw [e1, hf]
    rfl
theorem st_bld {t : TypeId} {ps : List (Nat × Operand)} {pl : List (Nat × Nat)} {zs vs : List Value} (hb : bldB P t pl zs) (hv : fillV (plOf pl) zs (ps.map fun p => (p.1, cellsOf (ev E p.2))) = some vs) (h : wops P r n O Q l (updo E dst (.agg ⟨vs⟩)) ds w) :
    wop P r n O Q ⟨dst, .build t ps.toArray, ty, pos, af, g⟩ l E ds w := wop_run (fun _ => by simp) (r_bld hb hv) h
def litB (P : Program) (t e : TypeId) (size : Nat) : Prop := P.underlying t = some (.slice e) ∧ ∃ i z, P.info? e = some i ∧ i.size = size ∧ i.zero = some z ∧ z.cells.size = size
/-- All parts of a slice literal, in order. -/
def flatV : List (List Value) → List Value
  | [] => []
  | v :: r => v ++ flatV r
theorem fill_all {size : Nat} : ∀ (ps : List (Nat × Value)) (done todo : List Value) (k : Nat), done.length = k * size → todo.length = ps.length * size → (ps.map (·.1) = List.range' k ps.length) → (∀ p ∈ ps, (cellsOf p.2).length = size) →
    Instr.fill (fun i => some (i * size, size)) ⟨done ++ todo⟩ ps = some ⟨done ++ flatV (ps.map fun p => cellsOf p.2)⟩
  | [], done, todo, k, h1, h2, h3, h4 => by simp at h2; subst h2; simp [Instr.fill, flatV]
  | (i, v) :: ps, done, todo, k, h1, h2, h3, h4 => by
    simp only [List.map_cons, List.length_cons, List.range'_succ, List.cons.injEq] at h3
    obtain ⟨rfl, h3⟩ := h3
    have hv : (cellsOf v).length = size := h4 (i, v) (by simp)
    simp only [Instr.fill]
    rw [cellsOf_eq v]
    have hs : (⟨cellsOf v⟩ : Array Value).size = (cellsOf v).length := rfl
    have hs2 : (⟨done ++ todo⟩ : Array Value).size = done.length + todo.length := by simp
    simp only [List.length_cons, Nat.add_mul, Nat.one_mul] at h2
    rw [if_neg (by rw [hs, hs2, hv]; simp; omega)]
    have hz : (⟨cellsOf v⟩ : Array Value).zipIdx.foldl (fun (cs : Array Value) (x : Value × Nat) => cs.setIfInBounds (i * size + x.2) x.1) ⟨done ++ todo⟩ = ⟨setVs (done ++ todo) (i * size) (cellsOf v)⟩ := by
      rw [← Array.foldl_toList, Array.toList_zipIdx]
      exact foldl_set (cellsOf v) (done ++ todo) (i * size) 0
    have hset : ∀ (vs d t : List Value), vs.length ≤ t.length → setVs (d ++ t) d.length vs = d ++ vs ++ t.drop vs.length := by
      intro vs
      induction vs with
      | nil => intro d t _; simp [setVs]
      | cons u us ih =>
        intro d t ht
        cases t with
        | nil => simp at ht
        | cons t0 t =>
          simp only [setVs]
          rw [setV_eq, List.set_append_right _ _ (by omega)]
          simp only [Nat.sub_self, List.set_cons_zero]
          have := ih (d ++ [u]) t (by simpa using ht)
          simp only [List.length_append, List.length_singleton] at this
          rw [show d ++ u :: t = d ++ [u] ++ t by simp, this]
          simp
    rw [← h1, hset _ _ _ (by omega)] at hz
    have ih := fill_all ps (done ++ cellsOf v) (todo.drop (cellsOf v).length) (i + 1) (by rw [List.length_append, h1, hv, Nat.add_mul, Nat.one_mul]) (by rw [List.length_drop, hv]; omega) h3 (fun p hp => h4 p (by simp [hp]))
    rw [← h1, hz, ih]
    simp [flatV]
theorem r_lit {t e : TypeId} {m size : Nat} {ps : List (Nat × Operand)} {vs : List Value} (hb : litB P t e size) (hm : m * size ≤ 16777216) (hi : ps.map (·.1) = List.range' 0 m) (hs : ∀ p ∈ ps, (cellsOf (ev E p.2)).length = size)
    (hv : flatV (ps.map fun p => cellsOf (ev E p.2)) = vs) :
    (execOp (ev E) ⟨dst, .buildSlice t m ps.toArray, ty, pos, af, g⟩).run P w = .ok (.value (.slice (some ⟨w.heap.size, 0, none⟩) m m)) (w.alloc (.cells ⟨vs⟩ e)) := by
  have key : ∀ w : World, (Instr.buildSlice t m (ps.toArray.map fun (i, x) => (i, ev E x))).run P w = .ok (.slice (some ⟨w.heap.size, 0, none⟩) m m) (w.alloc (.cells ⟨vs⟩ e)) := ?_
  · simp only [execOp, Sem.run_bind, key, Result.andThen, Sem.run_pure]
  intro w
  obtain ⟨h1, i, z, h2, h3, h4, h5⟩ := hb
  have hu : (underlying t).run P w = .ok (.slice e) w := by simp [underlying, go_sem, h1]
  have hz : (zeroValue e).run P w = .ok z w := by simp [zeroValue, typeInfo, go_sem, h2, h4]
  have hsz : (sizeOf e).run P w = .ok size w := by simp [sizeOf, typeInfo, go_sem, h2, h3]
  have hl : ps.length = m := by have := congrArg List.length hi; simpa using this
  have e2 : (ps.toArray.map fun p => (p.1, ev E p.2)).toList = ps.map fun p => (p.1, ev E p.2) := by simp
  have hf : ∀ (c : List Value), c.length = m * size → Instr.fill (fun i => some (i * size, size)) ⟨c⟩ (ps.map fun p => (p.1, ev E p.2)) = some ⟨vs⟩ := by
    intro c hc
    have := fill_all (size := size) (ps.map fun p => (p.1, ev E p.2)) [] c 0 (by simp) (by simpa [hl] using hc) (by rw [List.map_map, List.length_map, hl]; exact hi) (fun p hp => by obtain ⟨q, hq, rfl⟩ := List.mem_map.1 hp; exact hs q hq)
    simp only [List.nil_append, List.map_map] at this
    rw [this]
    have : ((fun p : Nat × Value => cellsOf p.2) ∘ fun p : Nat × Operand => (p.1, ev E p.2)) = fun p => cellsOf (ev E p.2) := rfl
    rw [this, hv]
  unfold Instr.buildSlice
  simp only [Sem.run_bind, hu, Result.andThen, hsz, e2]
  rw [if_neg (by omega)]
  by_cases h0 : m * size = 0
  · rw [if_pos h0]
    have hr : ((Array.range (m * size)).map ((#[] : Array Value)[· % (#[] : Array Value).size]!)) = ⟨[]⟩ := by rw [h0]; simp
    simp only [Sem.run_bind, Sem.run_pure, Result.andThen, hr]
    rw [hf [] (by simpa using h0.symm)]
    rfl
  · rw [if_neg h0]
    simp only [Sem.run_bind, Sem.run_pure, Result.andThen, hz]
    have := hf ((Array.range (m * size)).map (z.cells[· % z.cells.size]!)).toList (by simp)
    have e3 : (⟨((Array.range (m * size)).map (z.cells[· % z.cells.size]!)).toList⟩ : Array Value) = (Array.range (m * size)).map (z.cells[· % z.cells.size]!) := rfl
    rw [e3] at this
    rw [this]
    rfl
theorem st_lit {t e : TypeId} {m size : Nat} {ps : List (Nat × Operand)} {vs : List Value} (hb : litB P t e size) (hm : m * size ≤ 16777216) (hi : ps.map (·.1) = List.range' 0 m) (hs : ∀ p ∈ ps, (cellsOf (ev E p.2)).length = size)
    (hv : flatV (ps.map fun p => cellsOf (ev E p.2)) = vs) (h : ∀ b w', b = w.heap.size → Chg [] w w' → Blk w' b vs e → wops P r n O Q l (updo E dst (.slice (some ⟨b, 0, none⟩) m m)) ds w') :
    wop P r n O Q ⟨dst, .buildSlice t m ps.toArray, ty, pos, af, g⟩ l E ds w :=
  wop_run (fun _ => by simp) (r_lit hb hm hi hs hv) (h w.heap.size _ rfl (Chg.alloc w _) (Blk.new w vs e))
end

/-! ### guards -/
theorem w_split {d : Nat} {t : Bool} (he : E d = .bool t) (h1 : t = true → wops P r n O Q l (upd E d (.bool true)) ds w) (h0 : t = false → wops P r n O Q l (upd E d (.bool false)) ds w) : wops P r n O Q l E ds w := by
  have hE : upd E d (.bool t) = E := by
    funext i
    by_cases e : i = d
    · subst e; rw [upd_same, he]
    · rw [upd_other _ _ _ _ e]
  cases t with
  | true => have := h1 rfl; rwa [hE] at this
  | false => have := h0 rfl; rwa [hE] at this

/-! ### the end -/
theorem ret_tmp {fn : Func} {Φ : Value → World → Prop} {t : Nat} {v : Value} (hr : fn.results = #[.tmp t]) (hv : E t = v) (h : Φ v w) : retP P fn Φ .ret E [] w :=
  ⟨rfl, fun a ha => ⟨v, by rw [results_tmp hr]; subst hv; rw [← ha]; rfl, h⟩⟩
theorem ret_tmp2 {fn : Func} {Φ : Value → World → Prop} {t u : Nat} {v v2 : Value} (hr : fn.results = #[.tmp t, .tmp u]) (hv : E t = v) (hv2 : E u = v2) (h : Φ (.tuple ⟨[v, v2]⟩) w) : retP P fn Φ .ret E [] w :=
  ⟨rfl, fun a ha => ⟨_, by rw [results_tmp2 hr]; subst hv; subst hv2; rw [← ha]; rfl, h⟩⟩
theorem ret_tmp3 {fn : Func} {Φ : Value → World → Prop} {t u s : Nat} {v v2 v3 : Value} (hr : fn.results = #[.tmp t, .tmp u, .tmp s]) (hv : E t = v) (hv2 : E u = v2) (hv3 : E s = v3) (h : Φ (.tuple ⟨[v, v2, v3]⟩) w) : retP P fn Φ .ret E [] w :=
  ⟨rfl, fun a ha => ⟨_, by rw [results_tmp3 hr]; subst hv; subst hv2; subst hv3; rw [← ha]; rfl, h⟩⟩
theorem ret_none {fn : Func} {Φ : Value → World → Prop} (hr : fn.results = #[]) (h : Φ (.tuple ⟨[]⟩) w) : retP P fn Φ .ret E [] w :=
  ⟨rfl, fun a ha => ⟨_, by rw [results_none hr], h⟩⟩
theorem ret_none_n {fn : Func} {Φ : Value → World → Prop} (hr : fn.results = #[]) (h : Φ (.tuple ⟨[]⟩) w) : retP P fn Φ .normal E [] w :=
  ⟨rfl, fun a ha => ⟨_, by rw [results_none hr], h⟩⟩
theorem run_loadVarA {t : TypeId} {b off k : Nat} {vs : List Value} (ht : aggB P t k = true) (hc : Cells w b off vs) (hk : vs.length = k) : (loadVar t ⟨b, off, none⟩).run P w = .ok (.agg ⟨vs⟩) w := by
  have h1 := run_loadCells_list (P := P) (w := w) ⟨b, off, none⟩ vs (fun j v hj => by rw [Addr.add_lit]; exact hc j v hj)
  rw [hk] at h1
  simp only [loadVar, Sem.run_bind, run_isAgg_agg ht, Result.andThen, run_sizeOf (sizeB_agg ht), h1, Sem.run_pure, if_true]
theorem run_loadVar1 {t : TypeId} {b off : Nat} {v : Value} (ht : oneB P t = true) (hc : w.cell? ⟨b, off, none⟩ = some v) : (loadVar t ⟨b, off, none⟩).run P w = .ok v w := by
  simp only [loadVar, Sem.run_bind, run_isAgg_one ht, Result.andThen, if_false, Bool.false_eq_true, load, Sem.run, hc]
/-- The result lies in memory: a struct. -/
theorem ret_cellA {fn : Func} {Φ : Value → World → Prop} {t : TypeId} {d b off k : Nat} {vs : List Value} (hr : fn.results = #[.cell d t]) (hv : E d = .pointer (some ⟨b, off, none⟩)) (ht : aggB P t k = true) (hc : Cells w b off vs) (hk : vs.length = k) (h : Φ (.agg ⟨vs⟩) w) : retP P fn Φ .ret E [] w :=
  ⟨rfl, fun a ha => ⟨_, by
    have hd : a.tmps.getD d undef = .pointer (some ⟨b, off, none⟩) := by rw [← hv, ← ha]; rfl
    have hl := run_loadVarA (w := w) ht hc hk
    simp only [results, hr]
    rw [Array.mapM_eq_mapM_toList]
    simp only [List.mapM_cons, List.mapM_nil, hd, asAddr, Sem.run_bind, Sem.run_pure, hl, Result.andThen, ← bind_pure_comp]
    rfl, h⟩⟩
end Go.Proofs.YtmbbhgglllfelaaDoor.K
