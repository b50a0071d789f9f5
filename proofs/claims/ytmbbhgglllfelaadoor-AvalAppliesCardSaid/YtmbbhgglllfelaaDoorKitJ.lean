/- The walk's own rules, tenth part: equality of structs, of truth values, and with nil. -/
import Derived.Test.YtmbbhgglllfelaaDoorKitI
import Derived.Laws.StructEq
import Derived.Laws.Cover3
import Derived.Laws.Pointers
set_option linter.unusedVariables false
set_option linter.unusedSimpArgs false
set_option autoImplicit false
namespace Go.Proofs.YtmbbhgglllfelaaDoor.K
open Go Go.RowKit
variable {P : Program} {r : Option Nat} {n : Nat} {O : Array Oper} {Q : Post} {E : Env} {ds : List Deferred} {w : World} {l : List Oper}
/-- Whether two values of a type of one cell are the same, where they are of the type. -/
def leafEq : TypeDesc → Value → Value → Option Bool
  | .int _, .int k x, .int k' y => bif decide (k = k') then some (decide (x = y)) else none
  | .bool, .bool x, .bool y => some (x == y)
  | .string, .string x, .string y => some (decide (x.data.toList = y.data.toList))
  | _, _, _ => none
theorem run_leafEq {d : Nat} {t : TypeId} {u : TypeDesc} {a b : Value} {v : Bool} (hu : P.underlying t = some u) (h : leafEq u a b = some v) : (Op.equalIn (d + 1) t a b).run P w = .ok v w := by
  unfold leafEq at h
  split at h
  · rename_i k x k' y
    cases hk : decide (k = k') with
    | false => rw [hk] at h; cases h
    | true =>
      rw [hk] at h
      have hk' : k = k' := of_decide_eq_true hk
      cases h
      simp [Op.equalIn, run_underlying hu, hk']
      rfl
  · cases h
    simp [Op.equalIn, run_underlying hu]
  · cases h
    simp only [Op.equalIn, Sem.run_bind, run_underlying hu, Result.andThen_ok, Sem.run_pure]
    congr 1
    rw [beq_toListBytes, Lib.toList_data, Lib.toList_data, Bool.eq_iff_iff]; simp
  · cases h
def leafU : TypeDesc → Bool
  | .int _ => true
  | .bool => true
  | .string => true
  | _ => false
/-- The types of fields that are one cell each, one behind the other, and compared. -/
def kindsOf (P : Program) : List Field → Nat → Option (List TypeDesc)
  | [], _ => some []
  | f :: fs, i => match P.underlying f.type, kindsOf P fs (i + 1) with
    | some u, some us => bif f.name != "_" && Nat.beq f.offset i && leafU u then some (u :: us) else none
    | _, _ => none
def eqK : List TypeDesc → List Value → List Value → Option Bool
  | [], [], [] => some true
  | [u], [a], [b] => leafEq u a b
  | u :: us, a :: as, b :: bs => match leafEq u a b, eqK us as bs with
    | some v, some v' => some (v && v')
    | _, _ => none
  | _, _, _ => none
theorem run_part_leaf {t : TypeId} {u : TypeDesc} {cs : Array Value} {i : Nat} {v : Value} (hu : P.underlying t = some u) (h : leafU u = true) (hv : cs[i]? = some v) : (part t cs i).run P w = .ok v w := by
  have ha : (isAgg t).run P w = .ok false w := by
    cases u <;> simp [leafU] at h <;> simp [isAgg, run_underlying hu]
  simp [part, Sem.run_bind, ha, Result.andThen, hv]
theorem eqK_cons {u : TypeDesc} {us : List TypeDesc} {a b : Value} {as bs : List Value} {v : Bool} (h : eqK (u :: us) (a :: as) (b :: bs) = some v) : ∃ v1 v2, leafEq u a b = some v1 ∧ eqK us as bs = some v2 ∧ v = (v1 && v2) := by
  cases us with
  | nil =>
    cases as with
    | nil =>
      cases bs with
      | nil => exact ⟨v, true, h, rfl, by simp⟩
      | cons => simp [eqK] at h
    | cons => simp [eqK] at h
  | cons u' us =>
    simp only [eqK] at h
    split at h
    · rename_i v1 v2 h1 h2
      exact ⟨v1, v2, h1, h2, by simpa using h.symm⟩
    · cases h
theorem run_eqFs {d : Nat} {xs ys : Array Value} : ∀ (fs : List Field) (us : List TypeDesc) (i : Nat) (as bs : List Value) (v : Bool), (∀ j a, as[j]? = some a → xs[i + j]? = some a) → (∀ j a, bs[j]? = some a → ys[i + j]? = some a) → kindsOf P fs i = some us → eqK us as bs = some v → (Op.eqFields (d + 1) xs ys fs).run P w = .ok v w
  | [], us, i, as, bs, v, _, _, hk, h => by
    simp [kindsOf] at hk; subst hk
    cases as <;> cases bs <;> simp [eqK] at h
    subst h; rfl
  | f :: fs, us, i, as, bs, v, ha, hb, hk, h => by
    simp only [kindsOf] at hk
    split at hk
    · rename_i u us' hu hus
      cases hc : (f.name != "_" && Nat.beq f.offset i && leafU u) with
      | false => rw [hc] at hk; cases hk
      | true =>
        rw [hc] at hk
        simp only [cond_true, Option.some.injEq] at hk
        subst hk
        simp only [Bool.and_eq_true] at hc
        obtain ⟨⟨h1, h2⟩, h3⟩ := hc
        have h2 := Nat.eq_of_beq_eq_true h2
        have h1 : f.name ≠ "_" := by simpa using h1
        match as, bs, h with
        | a :: as, b :: bs, h =>
          obtain ⟨v1, v2, q1, q2, rfl⟩ := eqK_cons h
          have ha0 := ha 0 a rfl
          have hb0 := hb 0 b rfl
          simp only [Nat.add_zero] at ha0 hb0
          simp only [Op.eqFields, Sem.run_ite]
          rw [if_pos h1, h2]
          simp only [Sem.run_bind, run_part_leaf (w := w) hu h3 ha0, run_part_leaf (w := w) hu h3 hb0, Result.andThen_ok]
          rw [run_leafEq hu q1]
          simp only [Result.andThen_ok]
          cases v1 with
          | false => rfl
          | true =>
            exact run_eqFs fs us' (i + 1) as bs v2 (fun j x hx => by have := ha (j + 1) x (by simpa using hx); rwa [show i + 1 + j = i + (j + 1) by omega]) (fun j x hx => by have := hb (j + 1) x (by simpa using hx); rwa [show i + 1 + j = i + (j + 1) by omega]) hus q2
        | [], bs, h => cases us' <;> cases bs <;> simp [eqK] at h
        | _ :: _, [], h => cases us' <;> simp [eqK] at h
    · cases hk
def eqB (P : Program) (t : TypeId) (us : List TypeDesc) : Prop := ((match P.underlying t with | some (.struct _) => true | _ => false) && !P.stoodInHeld t && !P.eqGuardType P.depth t) = true ∧ kindsOf P (P.fieldsOf t).toList 0 = some us
theorem run_structEq {t : TypeId} {us : List TypeDesc} {va vb : List Value} {v : Bool} (hB : eqB P t us) (h : eqK us va vb = some v) : (Op.equalIn 10000 t (.agg ⟨va⟩) (.agg ⟨vb⟩)).run P w = .ok v w := by
  obtain ⟨hB, hk⟩ := hB
  simp only [Bool.and_eq_true, Bool.not_eq_true'] at hB
  obtain ⟨⟨h1, h2⟩, h3⟩ := hB
  have hu : P.underlying t = some (.struct (P.fieldsOf t)) := by
    unfold Program.fieldsOf
    split at h1
    · rename_i hu; rw [hu]
    · cases h1
  rw [run_equalIn_struct w 9999 t _ _ hu h2]
  exact run_eqFs (d := 9998) _ us 0 va vb v (fun j a hj => by simpa using hj) (fun j a hj => by simpa using hj) hk h
/-- By cases over a truth value in a slot. -/
theorem x_split {c : Code} {d : Nat} {t : Bool} (he : E d = .bool t) (h1 : t = true → wp P r n c Q (upd E d (.bool true)) ds w) (h0 : t = false → wp P r n c Q (upd E d (.bool false)) ds w) : wp P r n c Q E ds w := by
  have e : upd E d (.bool t) = E := by
    funext i
    by_cases hi : i = d
    · subst hi; rw [upd_same]; exact he.symm
    · exact upd_other _ _ _ _ hi
  rw [← e]
  cases t with
  | true => exact h1 rfl
  | false => exact h0 rfl
theorem ext_T {T0 : World → Prop} {b : Nat} {w' : World} {F : (World → Prop) → Prop} (hT : T0 w') (h : F (fun W => W.heap[b]? = w'.heap[b]? ∧ T0 W)) : ∃ T' : World → Prop, (∀ x, T' x → T0 x) ∧ T' w' ∧ F T' := ⟨_, fun _ h => h.2, ⟨rfl, hT⟩, h⟩
theorem Cells.lt {b off : Nat} {v : Value} {vs : List Value} (h : Cells w b off (v :: vs)) : b < w.heap.size := by
  have := h 0 v rfl
  unfold World.cell? at this
  split at this
  · rename_i hh; exact (Array.getElem?_eq_some_iff.1 hh).1
  · cases this
section
variable {dst : Option Nat} {ty : TypeId} {pos : String} {af : Array Edge} {g : Option (Nat × Bool)}
theorem r_aeql {t t' : TypeId} {x y : Operand} {us : List TypeDesc} {va vb : List Value} {v : Bool} (hB : eqB P t us) (hx : ev E x = .agg ⟨va⟩) (hy : ev E y = .agg ⟨vb⟩) (h : eqK us va vb = some v) :
    (execOp (ev E) ⟨dst, .binOp .eql t x y t', ty, pos, af, g⟩).run P w = .ok (.value (.bool v)) w := by
  have hg : P.eqGuardType P.depth t = false := by have hB := hB.1; simp only [Bool.and_eq_true, Bool.not_eq_true'] at hB; exact hB.2
  simp only [execOp, hx, hy, Sem.run_bind, run_eqGuard_agg w _ t x y _ _ hg, run_eql_struct, run_structEq hB h, Result.andThen_ok, Sem.run_pure]
theorem st_aeql {t t' : TypeId} {x y : Operand} {us : List TypeDesc} {va vb : List Value} {v : Bool} (hB : eqB P t us) (hx : ev E x = .agg ⟨va⟩) (hy : ev E y = .agg ⟨vb⟩) (h : eqK us va vb = some v) (hk : wops P r n O Q l (updo E dst (.bool v)) ds w) : wop P r n O Q ⟨dst, .binOp .eql t x y t', ty, pos, af, g⟩ l E ds w :=
  wop_run (fun _ => by simp) (r_aeql hB hx hy h) hk
theorem r_aneq {t t' : TypeId} {x y : Operand} {us : List TypeDesc} {va vb : List Value} {v : Bool} (hB : eqB P t us) (hx : ev E x = .agg ⟨va⟩) (hy : ev E y = .agg ⟨vb⟩) (h : eqK us va vb = some v) :
    (execOp (ev E) ⟨dst, .binOp .neq t x y t', ty, pos, af, g⟩).run P w = .ok (.value (.bool (!v))) w := by
  have hg : P.eqGuardType P.depth t = false := by have hB := hB.1; simp only [Bool.and_eq_true, Bool.not_eq_true'] at hB; exact hB.2
  simp only [execOp, hx, hy, Sem.run_bind, run_eqGuard_agg w _ t x y _ _ hg, run_neq_struct, run_structEq hB h, Result.andThen_ok, Sem.run_pure]
theorem st_aneq {t t' : TypeId} {x y : Operand} {us : List TypeDesc} {va vb : List Value} {v : Bool} (hB : eqB P t us) (hx : ev E x = .agg ⟨va⟩) (hy : ev E y = .agg ⟨vb⟩) (h : eqK us va vb = some v) (hk : wops P r n O Q l (updo E dst (.bool (!v))) ds w) : wop P r n O Q ⟨dst, .binOp .neq t x y t', ty, pos, af, g⟩ l E ds w :=
  wop_run (fun _ => by simp) (r_aneq hB hx hy h) hk
theorem r_beql {t t' : TypeId} {x y : Operand} {a b : Bool} (ht : P.underlying t = some .bool) (hx : ev E x = .bool a) (hy : ev E y = .bool b) :
    (execOp (ev E) ⟨dst, .binOp .eql t x y t', ty, pos, af, g⟩).run P w = .ok (.value (.bool (a == b))) w := by
  simp [execOp, hx, hy, eqGuard, binOp, Op.equal, Op.maxDepth, Sem.run_bind, run_equalIn_bool' w 9999 t a b ht, Result.andThen]
theorem st_beql {t t' : TypeId} {x y : Operand} {a b : Bool} (ht : P.underlying t = some .bool) (hx : ev E x = .bool a) (hy : ev E y = .bool b) (hk : wops P r n O Q l (updo E dst (.bool (a == b))) ds w) : wop P r n O Q ⟨dst, .binOp .eql t x y t', ty, pos, af, g⟩ l E ds w :=
  wop_run (fun _ => by simp) (r_beql ht hx hy) hk
theorem r_bneq {t t' : TypeId} {x y : Operand} {a b : Bool} (ht : P.underlying t = some .bool) (hx : ev E x = .bool a) (hy : ev E y = .bool b) :
    (execOp (ev E) ⟨dst, .binOp .neq t x y t', ty, pos, af, g⟩).run P w = .ok (.value (.bool (!(a == b)))) w := by
  simp [execOp, hx, hy, eqGuard, binOp, Op.equal, Op.maxDepth, Sem.run_bind, run_equalIn_bool' w 9999 t a b ht, Result.andThen]
theorem st_bneq {t t' : TypeId} {x y : Operand} {a b : Bool} (ht : P.underlying t = some .bool) (hx : ev E x = .bool a) (hy : ev E y = .bool b) (hk : wops P r n O Q l (updo E dst (.bool (!(a == b)))) ds w) : wop P r n O Q ⟨dst, .binOp .neq t x y t', ty, pos, af, g⟩ l E ds w :=
  wop_run (fun _ => by simp) (r_bneq ht hx hy) hk
/-- A slice and nil. -/
theorem r_sleqln {t t' e : TypeId} {x y : Operand} {A : Option Addr} {m c : Nat} (ht : P.underlying t = some (.slice e)) (hx : ev E x = .slice A m c) (hy : ev E y = .slice none 0 0) :
    (execOp (ev E) ⟨dst, .binOp .eql t x y t', ty, pos, af, g⟩).run P w = .ok (.value (.bool A.isNone)) w := by
  simp [execOp, hx, hy, eqGuard, binOp, Sem.run_bind, run_equal_slice_nil w t e A m c ht, Result.andThen]
theorem st_sleqln {t t' e : TypeId} {x y : Operand} {A : Option Addr} {m c : Nat} (ht : P.underlying t = some (.slice e)) (hx : ev E x = .slice A m c) (hy : ev E y = .slice none 0 0) (hk : wops P r n O Q l (updo E dst (.bool A.isNone)) ds w) : wop P r n O Q ⟨dst, .binOp .eql t x y t', ty, pos, af, g⟩ l E ds w :=
  wop_run (fun _ => by simp) (r_sleqln ht hx hy) hk
theorem r_slneqn {t t' e : TypeId} {x y : Operand} {A : Option Addr} {m c : Nat} (ht : P.underlying t = some (.slice e)) (hx : ev E x = .slice A m c) (hy : ev E y = .slice none 0 0) :
    (execOp (ev E) ⟨dst, .binOp .neq t x y t', ty, pos, af, g⟩).run P w = .ok (.value (.bool (!A.isNone))) w := by
  simp [execOp, hx, hy, eqGuard, binOp, Sem.run_bind, run_equal_slice_nil w t e A m c ht, Result.andThen]
theorem st_slneqn {t t' e : TypeId} {x y : Operand} {A : Option Addr} {m c : Nat} (ht : P.underlying t = some (.slice e)) (hx : ev E x = .slice A m c) (hy : ev E y = .slice none 0 0) (hk : wops P r n O Q l (updo E dst (.bool (!A.isNone))) ds w) : wop P r n O Q ⟨dst, .binOp .neq t x y t', ty, pos, af, g⟩ l E ds w :=
  wop_run (fun _ => by simp) (r_slneqn ht hx hy) hk
/-- A pointer and nil. -/
theorem r_peqln {t t' e : TypeId} {x y : Operand} {A : Option Addr} (ht : P.underlying t = some (.pointer e)) (hx : ev E x = .pointer A) (hy : ev E y = .pointer none) :
    (execOp (ev E) ⟨dst, .binOp .eql t x y t', ty, pos, af, g⟩).run P w = .ok (.value (.bool A.isNone)) w := by
  have hp : P.underlying t = some (.pointer (P.pointee t)) := by simp [Program.pointee, ht]
  simp [execOp, hx, hy, eqGuard, Sem.run_bind, run_eql_pointer_nil w t A hp, Result.andThen]
theorem st_peqln {t t' e : TypeId} {x y : Operand} {A : Option Addr} (ht : P.underlying t = some (.pointer e)) (hx : ev E x = .pointer A) (hy : ev E y = .pointer none) (hk : wops P r n O Q l (updo E dst (.bool A.isNone)) ds w) : wop P r n O Q ⟨dst, .binOp .eql t x y t', ty, pos, af, g⟩ l E ds w :=
  wop_run (fun _ => by simp) (r_peqln ht hx hy) hk
theorem r_pneqn {t t' e : TypeId} {x y : Operand} {A : Option Addr} (ht : P.underlying t = some (.pointer e)) (hx : ev E x = .pointer A) (hy : ev E y = .pointer none) :
    (execOp (ev E) ⟨dst, .binOp .neq t x y t', ty, pos, af, g⟩).run P w = .ok (.value (.bool (!A.isNone))) w := by
  have hp : P.underlying t = some (.pointer (P.pointee t)) := by simp [Program.pointee, ht]
  simp [execOp, hx, hy, eqGuard, Sem.run_bind, run_neq_pointer_nil w t A hp, Result.andThen]
theorem st_pneqn {t t' e : TypeId} {x y : Operand} {A : Option Addr} (ht : P.underlying t = some (.pointer e)) (hx : ev E x = .pointer A) (hy : ev E y = .pointer none) (hk : wops P r n O Q l (updo E dst (.bool (!A.isNone))) ds w) : wop P r n O Q ⟨dst, .binOp .neq t x y t', ty, pos, af, g⟩ l E ds w :=
  wop_run (fun _ => by simp) (r_pneqn ht hx hy) hk
end
/-! ### results, some of them in memory -/
def ResAll (P : Program) (E : Env) (w : World) : List ResultVar → List Value → Prop
  | [], [] => True
  | .tmp t :: rs, v :: vs => E t = v ∧ ResAll P E w rs vs
  | .cell d t :: rs, v :: vs => (∃ b off, E d = .pointer (some ⟨b, off, none⟩) ∧ (loadVar t ⟨b, off, none⟩).run P w = .ok v w) ∧ ResAll P E w rs vs
  | _, _ => False
theorem run_resAll {a : Act} : ∀ (rs : List ResultVar) (vs : List Value), ResAll P (env a) w rs vs → (rs.mapM (m := Sem) (fun (r : ResultVar) => match r with | .tmp t => pure (a.tmps.getD t undef) | .cell d t => do loadVar t (← asAddr (a.tmps.getD d undef)))).run P w = Result.ok vs w
  | [], [], _ => rfl
  | .tmp t :: rs, v :: vs, h => by
    obtain ⟨h1, h2⟩ := h
    have ih := run_resAll rs vs h2
    have h1 : a.tmps.getD t undef = v := h1
    simp only [List.mapM_cons, Sem.run_bind, Sem.run_pure, Result.andThen, h1]
    rw [ih]
  | .cell d t :: rs, v :: vs, h => by
    obtain ⟨⟨b, off, h1, h3⟩, h2⟩ := h
    have ih := run_resAll rs vs h2
    have h1 : asAddr (a.tmps.getD d undef) = (pure ⟨b, off, none⟩ : Sem Addr) := by
      have h1 : a.tmps.getD d undef = .pointer (some ⟨b, off, none⟩) := h1
      rw [h1]
      rfl
    simp only [List.mapM_cons, Sem.run_bind, h1, Sem.run_pure, Result.andThen, h3]
    rw [ih]
  | [], _ :: _, h => h.elim
  | .tmp _ :: _, [], h => h.elim
  | .cell _ _ :: _, [], h => h.elim
theorem ret_many {fn : Func} {Φ : Value → World → Prop} {rs : List ResultVar} {vs : List Value} (hr : fn.results = ⟨rs⟩) (h : ResAll P E w rs vs) (h2 : 2 ≤ vs.length) (hΦ : Φ (.tuple ⟨vs⟩) w) : retP P fn Φ .ret E [] w :=
  ⟨rfl, fun a ha => ⟨_, by
    subst ha
    have := run_resAll rs vs h
    unfold results
    rw [hr, Array.mapM_eq_mapM_toList]
    simp only [Sem.run_bind, Sem.run_map, Result.andThen, Sem.run_pure]
    erw [this]
    match vs, h2 with
    | _ :: _ :: _, _ => rfl, hΦ⟩⟩
end Go.Proofs.YtmbbhgglllfelaaDoor.K
