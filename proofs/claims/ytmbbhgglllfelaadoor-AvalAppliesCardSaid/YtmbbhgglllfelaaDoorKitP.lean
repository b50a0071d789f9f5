/- Maps whose keys are texts: what one holds, making it, putting into it, looking into it. -/
import Derived.Test.YtmbbhgglllfelaaDoorKitO
import Derived.MapKept
set_option linter.unusedVariables false
set_option linter.unusedSimpArgs false
set_option autoImplicit false
namespace Go.Proofs.YtmbbhgglllfelaaDoor.K
open Go Go.MapKept
/-- A map in block b: its entries, in the order in which they were put. -/
def MapAt (w : World) (b : Nat) (es : List (Bytes × Value)) : Prop := ∃ ar clock, w.heap[b]? = some (.map ar clock) ∧ ar.toList.map (fun e => (e.key, e.val)) = es.map (fun x => (S x.1, x.2))
theorem MapAt.lt {w : World} {b : Nat} {es : List (Bytes × Value)} (h : MapAt w b es) : b < w.heap.size := by obtain ⟨_, _, h, _⟩ := h; exact (Array.getElem?_eq_some_iff.1 h).1
theorem MapAt.tr {w w' : World} {b : Nat} {es : List (Bytes × Value)} {bs : List Nat} (h : MapAt w b es) (hc : Chg bs w w') (hb : b ∉ bs) : MapAt w' b es := by
  have hl := h.lt; obtain ⟨ar, c, h1, h2⟩ := h; exact ⟨ar, c, (hc.block b hl hb).trans h1, h2⟩
theorem MapAt.tr0 {w w' : World} {b : Nat} {es : List (Bytes × Value)} (h : MapAt w b es) (hc : Chg [] w w') : MapAt w' b es := h.tr hc (by simp)
theorem MapAt.fresh {w : World} {b k : Nat} {es : List (Bytes × Value)} (h : MapAt w b es) (hk : w.heap.size ≤ k) : b ≠ k := by have := h.lt; omega
/-- What a map has for a key. -/
def mget : List (Bytes × Value) → Bytes → Option Value
  | [], _ => none
  | (a, v) :: r, s => if a = s then some v else mget r s
def mput : List (Bytes × Value) → Bytes → Value → List (Bytes × Value)
  | [], s, x => [(s, x)]
  | (a, v) :: r, s, x => if a = s then (a, x) :: r else (a, v) :: mput r s x
theorem mget_put (es : List (Bytes × Value)) (s t : Bytes) (x : Value) : mget (mput es s x) t = if s = t then some x else mget es t := by
  induction es with
  | nil => simp [mput, mget]
  | cons a r ih =>
    obtain ⟨a, v⟩ := a
    simp only [mput]
    by_cases h : a = s
    · subst h; simp only [if_true, mget]
      by_cases h2 : a = t <;> simp [h2]
    · rw [if_neg h]; simp only [mget]
      by_cases h2 : a = t
      · rw [if_pos h2, if_pos h2]; subst h2; rw [if_neg (fun e => h e.symm)]
      · rw [if_neg h2, if_neg h2, ih]
theorem findNow_mget : ∀ (l : List MapEntry) (es : List (Bytes × Value)) (i : Nat) (s : Bytes), l.map (fun e => (e.key, e.val)) = es.map (fun x => (S x.1, x.2)) →
    (mget es s = none ∧ Instr.findNow .string (S s) l i = some none ∧ ∀ v, (es ++ [(s, v)]) = mput es s v) ∨
    ∃ j e, Instr.findNow .string (S s) l i = some (some (i + j, e.val)) ∧ mget es s = some e.val ∧ l[j]? = some e ∧ e.key = S s ∧ ∀ f : MapEntry → MapEntry, (f e).key = S s → (l.modify j f).map (fun e => (e.key, e.val)) = (mput es s (f e).val).map (fun x => (S x.1, x.2))
  | [], [], _, _, _ => .inl ⟨rfl, rfl, fun _ => rfl⟩
  | [], _ :: _, _, _, h => by simp at h
  | _ :: _, [], _, _, h => by simp at h
  | e :: l, (a, v) :: es, i, s, h => by
    simp only [List.map_cons, List.cons.injEq, Prod.mk.injEq] at h
    obtain ⟨⟨h1, h2⟩, h3⟩ := h
    have hs : Instr.sameNow .string (S s) e.key = some (decide (a = s)) := by
      rw [h1]; simp only [S, Instr.sameNow]
      by_cases hq : a = s
      · subst hq; simp only [decide_true]; exact congrArg some ((bytes_beq _ _).2 rfl)
      · rw [decide_eq_false hq]
        cases hb : ((⟨⟨s⟩⟩ : ByteArray) == ⟨⟨a⟩⟩) with
        | false => rfl
        | true => have := (bytes_beq _ _).1 hb; simp at this; exact absurd this.symm hq
    by_cases hq : a = s
    · subst hq
      refine .inr ⟨0, e, ?_, ?_, rfl, h1, fun f hf => ?_⟩
      · simp [Instr.findNow, hs]
      · simp [mget, h2]
      · rw [show (e :: l).modify 0 f = f e :: l from rfl]; simp [mput, hf, h3]
    · rw [decide_eq_false hq] at hs
      rcases findNow_mget l es (i + 1) s h3 with ⟨q1, q2, q3⟩ | ⟨j, e', q1, q2, q3, q4, q5⟩
      · exact .inl ⟨by simp [mget, hq, q1], by simp [Instr.findNow, hs, q2], fun w => by simp [mput, hq, ← q3 w]⟩
      · refine .inr ⟨j + 1, e', ?_, by simp [mget, hq, q2], by simpa using q3, q4, fun f hf => ?_⟩
        · simp [Instr.findNow, hs, q1]; omega
        · simp only [List.modify_succ_cons, List.map_cons, q5 f hf, mput, if_neg hq, h1, h2]
def mapB (P : Program) (t e : TypeId) : Prop := ∃ k, P.underlying t = some (.map k e) ∧ P.underlying k = some .string
section rules
variable {P : Program} {r : Option Nat} {n : Nat} {O : Array Oper} {Q : Post} {l : List Oper} {E : Env} {ds : List Deferred} {w : World} {dst : Option Nat} {ty : TypeId} {pos : String} {af : Array Edge} {g : Option (Nat × Bool)}
theorem keyLaw (s : Bytes) : IsKey .string (S s) := trivial
theorem r_makeMap {t : TypeId} : (execOp (ev E) ⟨dst, .makeMap t none, ty, pos, af, g⟩).run P w = .ok (.value (.map (some w.heap.size))) (w.alloc (.map #[] 0)) := by
  simp [execOp, Instr.makeMap, go_sem, Result.andThen]
theorem st_makeMap {t : TypeId} (h : ∀ b w', b = w.heap.size → Chg [] w w' → MapAt w' b [] → wops P r n O Q l (updo E dst (.map (some b))) ds w') :
    wop P r n O Q ⟨dst, .makeMap t none, ty, pos, af, g⟩ l E ds w :=
  wop_run (fun _ => by simp) r_makeMap (h _ _ rfl (Chg.alloc w _) ⟨#[], 0, World.alloc_heap_new w _, rfl⟩)
theorem r_makeMapH {t e : TypeId} {x : Operand} {k : IntKind} {i : Int} (hB : mapB P t e) (hx : ev E x = .int k i) : (execOp (ev E) ⟨dst, .makeMap t (some x), ty, pos, af, g⟩).run P w = .ok (.value (.map (some w.heap.size))) (w.alloc (.map #[] 0)) := by
  obtain ⟨kt, h1, _⟩ := hB
  simp [execOp, Instr.makeMap, go_sem, hx, underlying, h1, asInt, asIntOf, Result.andThen]
theorem st_makeMapH {t e : TypeId} {x : Operand} {k : IntKind} {i : Int} (hB : mapB P t e) (hx : ev E x = .int k i) (h : ∀ b w', b = w.heap.size → Chg [] w w' → MapAt w' b [] → wops P r n O Q l (updo E dst (.map (some b))) ds w') :
    wop P r n O Q ⟨dst, .makeMap t (some x), ty, pos, af, g⟩ l E ds w :=
  wop_run (fun _ => by simp) (r_makeMapH hB hx) (h _ _ rfl (Chg.alloc w _) ⟨#[], 0, World.alloc_heap_new w _, rfl⟩)
theorem run_mapUpdate {t e : TypeId} {b : Nat} {s : Bytes} {v : Value} {es : List (Bytes × Value)} (hB : mapB P t e) (hm : MapAt w b es) : ∃ w', (Instr.mapUpdate t (.map (some b)) (S s) v).run P w = .ok () w' ∧ Chg [b] w w' ∧ MapAt w' b (mput es s v) := by
  obtain ⟨kt, hu, hk⟩ := hB
  obtain ⟨ar, clock, hb, he⟩ := hm
  have hC : ∀ o : Obj, Chg [b] w { w with heap := w.heap.setIfInBounds b o } := fun o => ⟨rfl, rfl, rfl, by simp, fun j _ hj => by simp at hj; simp [Ne.symm hj]⟩
  rcases findNow_mget ar.toList es 0 s he with ⟨q1, q2, q3⟩ | ⟨j, e0, q1, q2, q3, q4, q5⟩
  · refine ⟨_, by simp [Instr.mapUpdate, Go.run_underlying hu, MapKept.run_getObj_map hb, MapKept.run_checkKey hk (keyLaw s), MapKept.run_findKey hk q2, MapKept.run_setObj_map _ hb, Result.andThen]; rfl, hC _, ⟨_, _, (heap_set hb).1, ?_⟩⟩
    rw [← q3 v]; simp [he]
  · have hj : ar[j]? = some e0 := by simpa using q3
    rw [Nat.zero_add] at q1
    refine ⟨_, by simp [Instr.mapUpdate, Go.run_underlying hu, MapKept.run_getObj_map hb, MapKept.run_checkKey hk (keyLaw s), MapKept.run_findKey hk q1, hj, q4, MapKept.run_keyThatStays (keyLaw s), MapKept.run_setObj_map _ hb, Result.andThen]; rfl, hC _, ⟨_, _, (heap_set hb).1, ?_⟩⟩
    have := q5 (fun e => { e with key := S s, val := v }) rfl
    simp only [Array.toList_modify] at this ⊢
    exact this
theorem st_mapPut {t e : TypeId} {x y z : Operand} {b : Nat} {s : Bytes} {v : Value} {es : List (Bytes × Value)} (hB : mapB P t e) (hx : ev E x = .map (some b)) (hy : ev E y = S s) (hz : ev E z = v) (hm : MapAt w b es) (h : ∀ w', Chg [b] w w' → MapAt w' b (mput es s v) → wops P r n O Q l (updo E dst undef) ds w') :
    wop P r n O Q ⟨dst, .mapUpdate t x y z, ty, pos, af, g⟩ l E ds w := by
  obtain ⟨w', h1, h2, h3⟩ := run_mapUpdate (v := v) (s := s) hB hm
  exact wop_skip (w' := w') (fun _ => by simp) (by simp only [execOp, hx, hy, hz, Sem.run_bind, h1, Result.andThen, Sem.run_pure]) (h w' h2 h3)
theorem st_mapIns {t e : TypeId} {x y z : Operand} {b : Nat} {s : Bytes} {v : Value} {es : List (Bytes × Value)} (hB : mapB P t e) (hx : ev E x = .map (some b)) (hy : ev E y = S s) (hz : ev E z = v) (hm : MapAt w b es) (h : ∀ w', Chg [b] w w' → MapAt w' b (mput es s v) → wops P r n O Q l (updo E dst undef) ds w') :
    wop P r n O Q ⟨dst, .insert t x y z, ty, pos, af, g⟩ l E ds w := by
  obtain ⟨w', h1, h2, h3⟩ := run_mapUpdate (v := v) (s := s) hB hm
  exact wop_skip (w' := w') (fun _ => by simp) (by simp only [execOp, hx, hy, hz, Sem.run_bind, h1, Result.andThen, Sem.run_pure]) (h w' h2 h3)
def zvB (P : Program) (e : TypeId) (z : Value) : Prop := ∃ i, P.info? e = some i ∧ i.zero = some z
theorem run_look {t e : TypeId} {b : Nat} {s : Bytes} {z : Value} {es : List (Bytes × Value)} {ok : Bool} (hB : mapB P t e) (hz : zvB P e z) (hm : MapAt w b es) :
    (Instr.lookup t (.map (some b)) (S s) ok).run P w = .ok (if ok then .tuple ⟨[(mget es s).getD z, .bool (mget es s).isSome]⟩ else (mget es s).getD z) w := by
  obtain ⟨kt, hu, hk⟩ := hB
  obtain ⟨ar, clock, hb, he⟩ := hm
  obtain ⟨i, hi, hzz⟩ := hz
  have hzv : (zeroValue e).run P w = .ok z w := by simp [zeroValue, typeInfo, go_sem, hi, hzz, Result.andThen]
  rcases findNow_mget ar.toList es 0 s he with ⟨q1, q2, _⟩ | ⟨j, e0, q1, q2, q3, q4, _⟩
  · cases ok <;> simp [Instr.lookup, Go.run_underlying hu, MapKept.run_getObj_map hb, MapKept.run_checkKey hk (keyLaw s), MapKept.run_findKey hk q2, hzv, q1, Result.andThen]
  · cases ok <;> simp [Instr.lookup, Go.run_underlying hu, MapKept.run_getObj_map hb, MapKept.run_checkKey hk (keyLaw s), MapKept.run_findKey hk q1, q2, Result.andThen]
theorem r_look {t e : TypeId} {x y : Operand} {b : Nat} {s : Bytes} {z : Value} {es : List (Bytes × Value)} (hB : mapB P t e) (hz : zvB P e z) (hx : ev E x = .map (some b)) (hy : ev E y = S s) (hm : MapAt w b es) :
    (execOp (ev E) ⟨dst, .lookup t x y false, ty, pos, af, g⟩).run P w = .ok (.value ((mget es s).getD z)) w := by
  simp only [execOp, hx, hy, Sem.run_bind, run_look hB hz hm, Result.andThen, Sem.run_pure]; rfl
theorem st_look {t e : TypeId} {x y : Operand} {b : Nat} {s : Bytes} {z v : Value} {es : List (Bytes × Value)} (hB : mapB P t e) (hz : zvB P e z) (hx : ev E x = .map (some b)) (hy : ev E y = S s) (hm : MapAt w b es) (hv : (mget es s).getD z = v) (h : wops P r n O Q l (updo E dst v) ds w) :
    wop P r n O Q ⟨dst, .lookup t x y false, ty, pos, af, g⟩ l E ds w := wop_run (fun _ => by simp) (r_look hB hz hx hy hm) (by rw [hv]; exact h)
theorem r_lookOk {t e : TypeId} {x y : Operand} {b : Nat} {s : Bytes} {z : Value} {es : List (Bytes × Value)} (hB : mapB P t e) (hz : zvB P e z) (hx : ev E x = .map (some b)) (hy : ev E y = S s) (hm : MapAt w b es) :
    (execOp (ev E) ⟨dst, .lookup t x y true, ty, pos, af, g⟩).run P w = .ok (.value (.tuple ⟨[(mget es s).getD z, .bool (mget es s).isSome]⟩)) w := by
  simp only [execOp, hx, hy, Sem.run_bind, run_look hB hz hm, Result.andThen, Sem.run_pure]; rfl
theorem st_lookOk {t e : TypeId} {x y : Operand} {b : Nat} {s : Bytes} {z v : Value} {q : Bool} {es : List (Bytes × Value)} (hB : mapB P t e) (hz : zvB P e z) (hx : ev E x = .map (some b)) (hy : ev E y = S s) (hm : MapAt w b es) (hv : (mget es s).getD z = v) (hq : (mget es s).isSome = q) (h : wops P r n O Q l (updo E dst (.tuple ⟨[v, .bool q]⟩)) ds w) :
    wop P r n O Q ⟨dst, .lookup t x y true, ty, pos, af, g⟩ l E ds w := wop_run (fun _ => by simp) (r_lookOk hB hz hx hy hm) (by rw [hv, hq]; exact h)
end rules
end Go.Proofs.YtmbbhgglllfelaaDoor.K
