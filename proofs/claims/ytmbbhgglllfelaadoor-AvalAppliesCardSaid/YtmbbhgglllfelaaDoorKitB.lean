/- The walk's own rules, second part: what is said of the world, and one lemma an operation. -/
import Derived.Test.YtmbbhgglllfelaaDoorKitA
import Derived.WalkLawsBesides
import Derived.WalkSpells
import Derived.Lib.Strings
set_option linter.unusedVariables false
set_option linter.unusedSimpArgs false
set_option autoImplicit false
namespace Go.Proofs.YtmbbhgglllfelaaDoor.K
open Go Go.RowKit

/-! ### the world -/
/-- w' is w with new blocks, and with writes to blocks of bs alone. -/
structure Chg (bs : List Nat) (w w' : World) : Prop where
  os : w'.os = w.os
  tape : w'.tape = w.tape
  output : w'.output = w.output
  size : w.heap.size ≤ w'.heap.size
  block : ∀ k, k < w.heap.size → k ∉ bs → w'.heap[k]? = w.heap[k]?
theorem Chg.refl {bs : List Nat} (w : World) : Chg bs w w := ⟨rfl, rfl, rfl, Nat.le_refl _, fun _ _ _ => rfl⟩
theorem Chg.trans {bs cs : List Nat} {a b c : World} (h : Chg bs a b) (k : Chg cs b c) (hc : ∀ x, x ∈ cs → x ∈ bs ∨ a.heap.size ≤ x) : Chg bs a c :=
  ⟨k.os.trans h.os, k.tape.trans h.tape, k.output.trans h.output, Nat.le_trans h.size k.size, fun i hi hb => by
    refine (k.block i (Nat.lt_of_lt_of_le hi h.size) fun hx => ?_).trans (h.block i hi hb)
    rcases hc i hx with h1 | h1
    · exact hb h1
    · omega⟩
theorem Chg.then {bs : List Nat} {a b c : World} (h : Chg bs a b) (k : Chg [] b c) : Chg bs a c := h.trans k (fun _ hx => by cases hx)
theorem Chg.then1 {bs : List Nat} {a b c : World} {x : Nat} (h : Chg bs a b) (k : Chg [x] b c) (hx : a.heap.size ≤ x) : Chg bs a c := h.trans k (fun y hy => by simp at hy; subst hy; exact .inr hx)
theorem Chg.mono {bs cs : List Nat} {a b : World} (h : Chg bs a b) (hs : ∀ x, x ∈ bs → x ∈ cs) : Chg cs a b := ⟨h.os, h.tape, h.output, h.size, fun k hk hb => h.block k hk fun hx => hb (hs _ hx)⟩
theorem Chg.wide {cs : List Nat} {a b : World} (h : Chg [] a b) : Chg cs a b := h.mono (fun _ hx => by cases hx)
theorem Chg.below {a b : World} (h : Chg [] a b) : Below a.heap.size a b := ⟨h.os, h.tape, h.output, h.size, fun k hk => h.block k hk (by simp)⟩
theorem Chg.of_below {a b : World} (h : Below a.heap.size a b) : Chg [] a b := ⟨h.os, h.tape, h.output, h.size, fun k hk _ => h.block k hk⟩
theorem Chg.alloc (w : World) (o : Obj) : Chg [] w (w.alloc o) := .of_below ((Below.refl _ w).alloc (Nat.le_refl _) o)
theorem Chg.drew (w : World) : Chg [] w w.drew := ⟨rfl, rfl, rfl, Nat.le_refl _, fun _ _ _ => rfl⟩
theorem Chg.drewN (w : World) (n : Nat) : Chg [] w (w.drewN n) := ⟨rfl, rfl, rfl, Nat.le_refl _, fun _ _ _ => rfl⟩
theorem Chg.setCell (w : World) (a : Addr) (v : Value) : Chg [a.block] w (w.setCell a v) :=
  ⟨rfl, rfl, rfl, by show w.heap.size ≤ (w.heap.modify _ _).size; rw [Array.size_modify]; exact Nat.le_refl _, fun k _ hb => Below.heap_setCell w a v k (by simpa using hb)⟩

/-- Block b is a row of cells. -/
def Blk (w : World) (b : Nat) (cs : List Value) (T : TypeId) : Prop := w.heap[b]? = some (.cells ⟨cs⟩ T (0, 0))
theorem Blk.lt {w : World} {b : Nat} {cs : List Value} {T : TypeId} (h : Blk w b cs T) : b < w.heap.size := (Array.getElem?_eq_some_iff.1 h).1
theorem Blk.tr {w w' : World} {b : Nat} {cs : List Value} {T : TypeId} {bs : List Nat} (h : Blk w b cs T) (hc : Chg bs w w') (hb : b ∉ bs) : Blk w' b cs T := (hc.block b h.lt hb).trans h
theorem Blk.tr0 {w w' : World} {b : Nat} {cs : List Value} {T : TypeId} (h : Blk w b cs T) (hc : Chg [] w w') : Blk w' b cs T := h.tr hc (by simp)
theorem Blk.tr1 {w w' : World} {b x : Nat} {cs : List Value} {T : TypeId} (h : Blk w b cs T) (hc : Chg [x] w w') (hb : b ≠ x) : Blk w' b cs T := h.tr hc (by simpa using hb)
def nthV : List Value → Nat → Option Value
  | [], _ => none
  | v :: _, 0 => some v
  | _ :: r, i + 1 => nthV r i
theorem nthV_eq : ∀ (l : List Value) (i : Nat), nthV l i = l[i]?
  | [], _ => rfl
  | _ :: _, 0 => rfl
  | _ :: r, i + 1 => by simp only [nthV, List.getElem?_cons_succ]; exact nthV_eq r i
def dropV : List Value → Nat → List Value
  | l, 0 => l
  | [], _ => []
  | _ :: r, i + 1 => dropV r i
def takeV : Nat → List Value → Option (List Value)
  | 0, _ => some []
  | _ + 1, [] => none
  | n + 1, v :: r => (takeV n r).map (v :: ·)
/-- Cells vs lie from place off of block b on. -/
def Cells (w : World) (b off : Nat) (vs : List Value) : Prop := ∀ j v, vs[j]? = some v → w.cell? ⟨b, off + j, none⟩ = some v
theorem Blk.cell {w : World} {b off : Nat} {cs : List Value} {T : TypeId} {v : Value} (h : Blk w b cs T) (hv : nthV cs off = some v) : w.cell? ⟨b, off, none⟩ = some v := by
  rw [nthV_eq] at hv
  simp [World.cell?, show w.heap[b]? = _ from h, hv]
theorem dropV_eq : ∀ (l : List Value) (i : Nat), dropV l i = l.drop i
  | l, 0 => by cases l <;> rfl
  | [], i + 1 => rfl
  | _ :: r, i + 1 => by simp only [dropV, List.drop_succ_cons]; exact dropV_eq r i
theorem takeV_eq : ∀ (n : Nat) (l vs : List Value), takeV n l = some vs → vs.length = n ∧ ∀ (j : Nat) (v : Value), vs[j]? = some v → l[j]? = some v
  | 0, l, vs, h => by simp [takeV] at h; subst h; simp
  | n + 1, [], vs, h => by simp [takeV] at h
  | n + 1, v :: r, vs, h => by
    simp only [takeV, Option.map_eq_some_iff] at h
    obtain ⟨ws, h1, rfl⟩ := h
    obtain ⟨h2, h3⟩ := takeV_eq n r ws h1
    refine ⟨by simp [h2], fun j u hj => ?_⟩
    cases j with
    | zero => simpa using hj
    | succ j => simp only [List.getElem?_cons_succ] at hj ⊢; exact h3 j u hj
theorem Blk.cells {w : World} {b off n : Nat} {cs vs : List Value} {T : TypeId} (h : Blk w b cs T) (hv : takeV n (dropV cs off) = some vs) : Cells w b off vs := fun j v hj => by
  rw [dropV_eq] at hv
  refine h.cell ?_
  rw [nthV_eq]
  have := (takeV_eq _ _ _ hv).2 j v hj
  simpa using this
theorem Blk.free {w : World} {b off : Nat} {cs : List Value} {T : TypeId} (h : Blk w b cs T) : w.frozen? ⟨b, off, none⟩ = false := by simp [World.frozen?, show w.heap[b]? = _ from h]
def setV : List Value → Nat → Value → List Value
  | [], _, _ => []
  | _ :: r, 0, v => v :: r
  | u :: r, i + 1, v => u :: setV r i v
theorem setV_eq : ∀ (l : List Value) (i : Nat) (v : Value), setV l i v = l.set i v
  | [], _, _ => rfl
  | _ :: _, 0, _ => rfl
  | _ :: r, i + 1, v => by simp only [setV, List.set_cons_succ]; rw [setV_eq r i v]
def setVs : List Value → Nat → List Value → List Value
  | l, _, [] => l
  | l, i, v :: r => setVs (setV l i v) (i + 1) r
theorem Blk.set {w : World} {b off : Nat} {cs : List Value} {T : TypeId} (h : Blk w b cs T) (v : Value) : Blk (w.setCell ⟨b, off, none⟩ v) b (setV cs off v) T := by
  have hlt := h.lt
  have h2 : w.heap[b] = .cells ⟨cs⟩ T (0, 0) := by have := h; unfold Blk at this; rw [Array.getElem?_eq_getElem hlt] at this; exact Option.some.inj this
  show (w.heap.modify b _)[b]? = _
  rw [Array.getElem?_eq_getElem (by rw [Array.size_modify]; exact hlt), Array.getElem_modify_self, h2]
  simp [setV_eq]
theorem Blk.ne_size {w : World} {b : Nat} {cs : List Value} {T : TypeId} (h : Blk w b cs T) : b ≠ w.heap.size := Nat.ne_of_lt h.lt
theorem Blk.new (w : World) (cs : List Value) (T : TypeId) : Blk (w.alloc (.cells ⟨cs⟩ T)) w.heap.size cs T := World.alloc_heap_new w _

/-! ### types -/
def oneB (P : Program) (t : TypeId) : Bool :=
  match P.underlying t, P.info? t with
  | some (.struct _), _ | some (.array _ _), _ => false
  | some _, some i => Nat.beq i.size 1
  | _, _ => false
def aggB (P : Program) (t : TypeId) (n : Nat) : Bool :=
  match P.underlying t, P.info? t with
  | some (.struct _), some i | some (.array _ _), some i => Nat.beq i.size n
  | _, _ => false
def sizeB (P : Program) (t : TypeId) (n : Nat) : Bool :=
  match P.info? t with
  | some i => Nat.beq i.size n
  | _ => false
def fldB (P : Program) (t : TypeId) (f off : Nat) : Bool :=
  match P.underlying t with
  | some (.struct fs) => match fs[f]? with
    | some x => Nat.beq x.offset off && (match P.info? x.type with | some i => !(Nat.beq i.size 0) | none => false)
    | none => false
  | _ => false
variable {P : Program} {r : Option Nat} {n : Nat} {O : Array Oper} {Q : Post} {E : Env} {ds : List Deferred} {w : World} {l : List Oper}
theorem run_sizeOf {t : TypeId} {k : Nat} (h : sizeB P t k = true) : (sizeOf t).run P w = .ok k w := by
  unfold sizeB at h
  split at h
  · rename_i i hi; have := Nat.eq_of_beq_eq_true h; simp [sizeOf, typeInfo, go_sem, hi, this]
  · cases h
theorem sizeB_one {t : TypeId} (h : oneB P t = true) : sizeB P t 1 = true := by unfold oneB at h; unfold sizeB; split at h <;> simp_all
theorem sizeB_agg {t : TypeId} {k : Nat} (h : aggB P t k = true) : sizeB P t k = true := by unfold aggB at h; unfold sizeB; split at h <;> simp_all
theorem run_isAgg_one {t : TypeId} (h : oneB P t = true) : (isAgg t).run P w = .ok false w := by
  unfold oneB at h
  cases hu : P.underlying t with
  | none => simp [hu] at h
  | some d => cases d <;> simp_all [isAgg, underlying, go_sem]
theorem run_isAgg_agg {t : TypeId} {k : Nat} (h : aggB P t k = true) : (isAgg t).run P w = .ok true w := by
  unfold aggB at h
  cases hu : P.underlying t with
  | none => simp [hu] at h
  | some d => cases d <;> simp_all [isAgg, underlying, go_sem]

/-! ### plain operations -/
section plain
variable {dst : Option Nat} {ty : TypeId} {pos : String} {af : Array Edge} {g : Option (Nat × Bool)}
theorem r_move {x : Operand} {v : Value} (hx : ev E x = v) :
    (execOp (ev E) ⟨dst, .move x, ty, pos, af, g⟩).run P w = .ok (.value v) w := by simp [execOp, hx, go_sem]
theorem st_move {x : Operand} {v : Value} (hx : ev E x = v) (h : wops P r n O Q l (updo E dst v) ds w) : wop P r n O Q ⟨dst, .move x, ty, pos, af, g⟩ l E ds w :=
  wop_run (fun _ => by simp) (r_move hx) h
theorem r_assign {x : Operand} {v : Value} (hx : ev E x = v) :
    (execOp (ev E) ⟨dst, .assign x, ty, pos, af, g⟩).run P w = .ok (.value v) w := by simp [execOp, hx, go_sem]
theorem st_assign {x : Operand} {v : Value} (hx : ev E x = v) (h : wops P r n O Q l (updo E dst v) ds w) : wop P r n O Q ⟨dst, .assign x, ty, pos, af, g⟩ l E ds w :=
  wop_run (fun _ => by simp) (r_assign hx) h
theorem r_pick {c x y : Operand} {v : Value} {b : Bool} (hc : ev E c = .bool b) (hv : (bif b then ev E x else ev E y) = v) :
    (execOp (ev E) ⟨dst, .pick c x y, ty, pos, af, g⟩).run P w = .ok (.value v) w := by subst hv; cases b <;> simp [execOp, hc, go_sem, asBool]
theorem st_pick {c x y : Operand} {v : Value} {b : Bool} (hc : ev E c = .bool b) (hv : (bif b then ev E x else ev E y) = v) (h : wops P r n O Q l (updo E dst v) ds w) : wop P r n O Q ⟨dst, .pick c x y, ty, pos, af, g⟩ l E ds w :=
  wop_run (fun _ => by simp) (r_pick hc hv) h
theorem r_nilCheck {x : Operand} {a : Addr} (hx : ev E x = .pointer (some a)) :
    (execOp (ev E) ⟨dst, .nilCheck x, ty, pos, af, g⟩).run P w = .ok (.value (.pointer (some a))) w := by simp [execOp, hx, go_sem]
theorem st_nilCheck {x : Operand} {a : Addr} (hx : ev E x = .pointer (some a)) (h : wops P r n O Q l (updo E dst (.pointer (some a))) ds w) : wop P r n O Q ⟨dst, .nilCheck x, ty, pos, af, g⟩ l E ds w :=
  wop_run (fun _ => by simp) (r_nilCheck hx) h
theorem r_nilCheck_func {x : Operand} {f : Nat} {as bs : Array Value} (hx : ev E x = .func (.func f) as bs) :
    (execOp (ev E) ⟨dst, .nilCheck x, ty, pos, af, g⟩).run P w = .ok (.value (.func (.func f) as bs)) w := by simp [execOp, hx, go_sem]
theorem st_nilCheck_func {x : Operand} {f : Nat} {as bs : Array Value} (hx : ev E x = .func (.func f) as bs) (h : wops P r n O Q l (updo E dst (.func (.func f) as bs)) ds w) : wop P r n O Q ⟨dst, .nilCheck x, ty, pos, af, g⟩ l E ds w :=
  wop_run (fun _ => by simp) (r_nilCheck_func hx) h
theorem r_nilCheck_yield {x : Operand} {f : Nat} {as bs : Array Value} (hx : ev E x = .func (.yield f) as bs) :
    (execOp (ev E) ⟨dst, .nilCheck x, ty, pos, af, g⟩).run P w = .ok (.value (.func (.yield f) as bs)) w := by simp [execOp, hx, go_sem]
theorem st_nilCheck_yield {x : Operand} {f : Nat} {as bs : Array Value} (hx : ev E x = .func (.yield f) as bs) (h : wops P r n O Q l (updo E dst (.func (.yield f) as bs)) ds w) : wop P r n O Q ⟨dst, .nilCheck x, ty, pos, af, g⟩ l E ds w :=
  wop_run (fun _ => by simp) (r_nilCheck_yield hx) h
theorem r_makeFunc {f : Fn} {as bs : Array Operand} :
    (execOp (ev E) ⟨dst, .makeFunc f as bs, ty, pos, af, g⟩).run P w = .ok (.value (.func f ⟨as.toList.map (ev E)⟩ ⟨bs.toList.map (ev E)⟩)) w := by
  rw [show (⟨as.toList.map (ev E)⟩ : Array Value) = as.map (ev E) from Array.ext' (by simp), show (⟨bs.toList.map (ev E)⟩ : Array Value) = bs.map (ev E) from Array.ext' (by simp)]
  simp [execOp, Instr.makeFunc, go_sem]
theorem st_makeFunc {f : Fn} {as bs : Array Operand} (h : wops P r n O Q l (updo E dst (.func f ⟨as.toList.map (ev E)⟩ ⟨bs.toList.map (ev E)⟩)) ds w) : wop P r n O Q ⟨dst, .makeFunc f as bs, ty, pos, af, g⟩ l E ds w :=
  wop_run (fun _ => by simp) (r_makeFunc ) h
theorem r_extract {x : Operand} {i : Nat} {vs : List Value} {v : Value} (hx : ev E x = .tuple ⟨vs⟩) (hv : nthV vs i = some v) :
    (execOp (ev E) ⟨dst, .extract x i, ty, pos, af, g⟩).run P w = .ok (.value v) w := by rw [nthV_eq] at hv; simp [execOp, hx, Instr.extract, go_sem, hv]
theorem st_extract {x : Operand} {i : Nat} {vs : List Value} {v : Value} (hx : ev E x = .tuple ⟨vs⟩) (hv : nthV vs i = some v) (h : wops P r n O Q l (updo E dst v) ds w) : wop P r n O Q ⟨dst, .extract x i, ty, pos, af, g⟩ l E ds w :=
  wop_run (fun _ => by simp) (r_extract hx hv) h
/-! ### numbers -/
theorem wrap64_id {x : Int} (h1 : -9223372036854775808 ≤ x) (h2 : x ≤ 9223372036854775807) : IntKind.i64.wrap x = x := by
  have := IntWalk.i64_in x (by omega)
  exact this
theorem r_add {t t' : TypeId} {x y : Operand} {a b : Int} {k : IntKind} (hx : ev E x = .int k a) (hy : ev E y = .int k b) :
    (execOp (ev E) ⟨dst, .binOp .add t x y t', ty, pos, af, g⟩).run P w = .ok (.value (.int k (k.wrap (a + b)))) w := by simp [execOp, hx, hy, go_sem, eqGuard, binOp, Op.intArith]
theorem st_add {t t' : TypeId} {x y : Operand} {a b : Int} {k : IntKind} (hx : ev E x = .int k a) (hy : ev E y = .int k b) (h : wops P r n O Q l (updo E dst (.int k (k.wrap (a + b)))) ds w) : wop P r n O Q ⟨dst, .binOp .add t x y t', ty, pos, af, g⟩ l E ds w :=
  wop_run (fun _ => by simp) (r_add hx hy) h
theorem r_sub {t t' : TypeId} {x y : Operand} {a b : Int} {k : IntKind} (hx : ev E x = .int k a) (hy : ev E y = .int k b) :
    (execOp (ev E) ⟨dst, .binOp .sub t x y t', ty, pos, af, g⟩).run P w = .ok (.value (.int k (k.wrap (a - b)))) w := by simp [execOp, hx, hy, go_sem, eqGuard, binOp, Op.intArith]
theorem st_sub {t t' : TypeId} {x y : Operand} {a b : Int} {k : IntKind} (hx : ev E x = .int k a) (hy : ev E y = .int k b) (h : wops P r n O Q l (updo E dst (.int k (k.wrap (a - b)))) ds w) : wop P r n O Q ⟨dst, .binOp .sub t x y t', ty, pos, af, g⟩ l E ds w :=
  wop_run (fun _ => by simp) (r_sub hx hy) h
theorem r_mul {t t' : TypeId} {x y : Operand} {a b : Int} {k : IntKind} (hx : ev E x = .int k a) (hy : ev E y = .int k b) :
    (execOp (ev E) ⟨dst, .binOp .mul t x y t', ty, pos, af, g⟩).run P w = .ok (.value (.int k (k.wrap (a * b)))) w := by simp [execOp, hx, hy, go_sem, eqGuard, binOp, Op.intArith]
theorem st_mul {t t' : TypeId} {x y : Operand} {a b : Int} {k : IntKind} (hx : ev E x = .int k a) (hy : ev E y = .int k b) (h : wops P r n O Q l (updo E dst (.int k (k.wrap (a * b)))) ds w) : wop P r n O Q ⟨dst, .binOp .mul t x y t', ty, pos, af, g⟩ l E ds w :=
  wop_run (fun _ => by simp) (r_mul hx hy) h
theorem r_addn {t t' : TypeId} {x y : Operand} {a b : Int} (hx : ev E x = .int .i64 a) (hy : ev E y = .int .i64 b) (hb : -9223372036854775808 ≤ a + b ∧ a + b ≤ 9223372036854775807) :
    (execOp (ev E) ⟨dst, .binOp .add t x y t', ty, pos, af, g⟩).run P w = .ok (.value (.int .i64 (a + b))) w := by
  have := r_add (P := P) (w := w) (dst := dst) (t := t) (t' := t') (ty := ty) (pos := pos) (af := af) (g := g) hx hy
  rw [wrap64_id hb.1 hb.2] at this; exact this
theorem st_addn {t t' : TypeId} {x y : Operand} {a b : Int} (hx : ev E x = .int .i64 a) (hy : ev E y = .int .i64 b) (hb : -9223372036854775808 ≤ a + b ∧ a + b ≤ 9223372036854775807) (h : wops P r n O Q l (updo E dst (.int .i64 (a + b))) ds w) :
    wop P r n O Q ⟨dst, .binOp .add t x y t', ty, pos, af, g⟩ l E ds w := st_add hx hy (by rw [wrap64_id hb.1 hb.2]; exact h)
theorem r_subn {t t' : TypeId} {x y : Operand} {a b : Int} (hx : ev E x = .int .i64 a) (hy : ev E y = .int .i64 b) (hb : -9223372036854775808 ≤ a - b ∧ a - b ≤ 9223372036854775807) :
    (execOp (ev E) ⟨dst, .binOp .sub t x y t', ty, pos, af, g⟩).run P w = .ok (.value (.int .i64 (a - b))) w := by
  have := r_sub (P := P) (w := w) (dst := dst) (t := t) (t' := t') (ty := ty) (pos := pos) (af := af) (g := g) hx hy
  rw [wrap64_id hb.1 hb.2] at this; exact this
theorem st_subn {t t' : TypeId} {x y : Operand} {a b : Int} (hx : ev E x = .int .i64 a) (hy : ev E y = .int .i64 b) (hb : -9223372036854775808 ≤ a - b ∧ a - b ≤ 9223372036854775807) (h : wops P r n O Q l (updo E dst (.int .i64 (a - b))) ds w) :
    wop P r n O Q ⟨dst, .binOp .sub t x y t', ty, pos, af, g⟩ l E ds w := st_sub hx hy (by rw [wrap64_id hb.1 hb.2]; exact h)
theorem r_muln {t t' : TypeId} {x y : Operand} {a b : Int} (hx : ev E x = .int .i64 a) (hy : ev E y = .int .i64 b) (hb : -9223372036854775808 ≤ a * b ∧ a * b ≤ 9223372036854775807) :
    (execOp (ev E) ⟨dst, .binOp .mul t x y t', ty, pos, af, g⟩).run P w = .ok (.value (.int .i64 (a * b))) w := by
  have := r_mul (P := P) (w := w) (dst := dst) (t := t) (t' := t') (ty := ty) (pos := pos) (af := af) (g := g) hx hy
  rw [wrap64_id hb.1 hb.2] at this; exact this
theorem st_muln {t t' : TypeId} {x y : Operand} {a b : Int} (hx : ev E x = .int .i64 a) (hy : ev E y = .int .i64 b) (hb : -9223372036854775808 ≤ a * b ∧ a * b ≤ 9223372036854775807) (h : wops P r n O Q l (updo E dst (.int .i64 (a * b))) ds w) :
    wop P r n O Q ⟨dst, .binOp .mul t x y t', ty, pos, af, g⟩ l E ds w := st_mul hx hy (by rw [wrap64_id hb.1 hb.2]; exact h)
theorem r_lss {t t' : TypeId} {x y : Operand} {a b : Int} {k : IntKind} (hx : ev E x = .int k a) (hy : ev E y = .int k b) :
    (execOp (ev E) ⟨dst, .binOp .lss t x y t', ty, pos, af, g⟩).run P w = .ok (.value (.bool (decide (a < b)))) w := by simp [execOp, hx, hy, go_sem, eqGuard, binOp, Op.intCmp]
theorem st_lss {t t' : TypeId} {x y : Operand} {a b : Int} {k : IntKind} (hx : ev E x = .int k a) (hy : ev E y = .int k b) (h : wops P r n O Q l (updo E dst (.bool (decide (a < b)))) ds w) : wop P r n O Q ⟨dst, .binOp .lss t x y t', ty, pos, af, g⟩ l E ds w :=
  wop_run (fun _ => by simp) (r_lss hx hy) h
theorem r_leq {t t' : TypeId} {x y : Operand} {a b : Int} {k : IntKind} (hx : ev E x = .int k a) (hy : ev E y = .int k b) :
    (execOp (ev E) ⟨dst, .binOp .leq t x y t', ty, pos, af, g⟩).run P w = .ok (.value (.bool (decide (a ≤ b)))) w := by simp [execOp, hx, hy, go_sem, eqGuard, binOp, Op.intCmp]
theorem st_leq {t t' : TypeId} {x y : Operand} {a b : Int} {k : IntKind} (hx : ev E x = .int k a) (hy : ev E y = .int k b) (h : wops P r n O Q l (updo E dst (.bool (decide (a ≤ b)))) ds w) : wop P r n O Q ⟨dst, .binOp .leq t x y t', ty, pos, af, g⟩ l E ds w :=
  wop_run (fun _ => by simp) (r_leq hx hy) h
theorem r_gtr {t t' : TypeId} {x y : Operand} {a b : Int} {k : IntKind} (hx : ev E x = .int k a) (hy : ev E y = .int k b) :
    (execOp (ev E) ⟨dst, .binOp .gtr t x y t', ty, pos, af, g⟩).run P w = .ok (.value (.bool (decide (b < a)))) w := by simp [execOp, hx, hy, go_sem, eqGuard, binOp, Op.intCmp]
theorem st_gtr {t t' : TypeId} {x y : Operand} {a b : Int} {k : IntKind} (hx : ev E x = .int k a) (hy : ev E y = .int k b) (h : wops P r n O Q l (updo E dst (.bool (decide (b < a)))) ds w) : wop P r n O Q ⟨dst, .binOp .gtr t x y t', ty, pos, af, g⟩ l E ds w :=
  wop_run (fun _ => by simp) (r_gtr hx hy) h
theorem r_geq {t t' : TypeId} {x y : Operand} {a b : Int} {k : IntKind} (hx : ev E x = .int k a) (hy : ev E y = .int k b) :
    (execOp (ev E) ⟨dst, .binOp .geq t x y t', ty, pos, af, g⟩).run P w = .ok (.value (.bool (decide (b ≤ a)))) w := by simp [execOp, hx, hy, go_sem, eqGuard, binOp, Op.intCmp]
theorem st_geq {t t' : TypeId} {x y : Operand} {a b : Int} {k : IntKind} (hx : ev E x = .int k a) (hy : ev E y = .int k b) (h : wops P r n O Q l (updo E dst (.bool (decide (b ≤ a)))) ds w) : wop P r n O Q ⟨dst, .binOp .geq t x y t', ty, pos, af, g⟩ l E ds w :=
  wop_run (fun _ => by simp) (r_geq hx hy) h
theorem r_eql {t t' : TypeId} {x y : Operand} {a b : Int} {k : IntKind} (hx : ev E x = .int k a) (hy : ev E y = .int k b) :
    (execOp (ev E) ⟨dst, .binOp .eql t x y t', ty, pos, af, g⟩).run P w = .ok (.value (.bool (decide (a = b)))) w := by rw [show decide (a = b) = (a == b) by by_cases e : a = b <;> simp [e]]; simp [execOp, hx, hy, go_sem, eqGuard, binOp, Op.intCmp]
theorem st_eql {t t' : TypeId} {x y : Operand} {a b : Int} {k : IntKind} (hx : ev E x = .int k a) (hy : ev E y = .int k b) (h : wops P r n O Q l (updo E dst (.bool (decide (a = b)))) ds w) : wop P r n O Q ⟨dst, .binOp .eql t x y t', ty, pos, af, g⟩ l E ds w :=
  wop_run (fun _ => by simp) (r_eql hx hy) h
theorem r_neq {t t' : TypeId} {x y : Operand} {a b : Int} {k : IntKind} (hx : ev E x = .int k a) (hy : ev E y = .int k b) :
    (execOp (ev E) ⟨dst, .binOp .neq t x y t', ty, pos, af, g⟩).run P w = .ok (.value (.bool (!decide (a = b)))) w := by rw [show decide (a = b) = (a == b) by by_cases e : a = b <;> simp [e]]; simp [execOp, hx, hy, go_sem, eqGuard, binOp, Op.intCmp, bne]
theorem st_neq {t t' : TypeId} {x y : Operand} {a b : Int} {k : IntKind} (hx : ev E x = .int k a) (hy : ev E y = .int k b) (h : wops P r n O Q l (updo E dst (.bool (!decide (a = b)))) ds w) : wop P r n O Q ⟨dst, .binOp .neq t x y t', ty, pos, af, g⟩ l E ds w :=
  wop_run (fun _ => by simp) (r_neq hx hy) h
theorem r_not {t : TypeId} {x : Operand} {b : Bool} (hx : ev E x = .bool b) :
    (execOp (ev E) ⟨dst, .unOp .not t x, ty, pos, af, g⟩).run P w = .ok (.value (.bool (!b))) w := by simp [execOp, hx, go_sem, Op.unary]
theorem st_not {t : TypeId} {x : Operand} {b : Bool} (hx : ev E x = .bool b) (h : wops P r n O Q l (updo E dst (.bool (!b))) ds w) : wop P r n O Q ⟨dst, .unOp .not t x, ty, pos, af, g⟩ l E ds w :=
  wop_run (fun _ => by simp) (r_not hx) h
theorem r_quo {t t' : TypeId} {x y : Operand} {a b : Int} {k : IntKind} (hx : ev E x = .int k a) (hy : ev E y = .int k b) (hb : b ≠ 0) :
    (execOp (ev E) ⟨dst, .binOp .quo t x y t', ty, pos, af, g⟩).run P w = .ok (.value (.int k (k.wrap (a.tdiv b)))) w := by simp [execOp, hx, hy, go_sem, eqGuard, binOp, Op.intDiv, hb]
theorem st_quo {t t' : TypeId} {x y : Operand} {a b : Int} {k : IntKind} (hx : ev E x = .int k a) (hy : ev E y = .int k b) (hb : b ≠ 0) (h : wops P r n O Q l (updo E dst (.int k (k.wrap (a.tdiv b)))) ds w) : wop P r n O Q ⟨dst, .binOp .quo t x y t', ty, pos, af, g⟩ l E ds w :=
  wop_run (fun _ => by simp) (r_quo hx hy hb) h
theorem r_rem {t t' : TypeId} {x y : Operand} {a b : Int} {k : IntKind} (hx : ev E x = .int k a) (hy : ev E y = .int k b) (hb : b ≠ 0) :
    (execOp (ev E) ⟨dst, .binOp .rem t x y t', ty, pos, af, g⟩).run P w = .ok (.value (.int k (a.tmod b))) w := by simp [execOp, hx, hy, go_sem, eqGuard, binOp, Op.intDiv, hb]
theorem st_rem {t t' : TypeId} {x y : Operand} {a b : Int} {k : IntKind} (hx : ev E x = .int k a) (hy : ev E y = .int k b) (hb : b ≠ 0) (h : wops P r n O Q l (updo E dst (.int k (a.tmod b))) ds w) : wop P r n O Q ⟨dst, .binOp .rem t x y t', ty, pos, af, g⟩ l E ds w :=
  wop_run (fun _ => by simp) (r_rem hx hy hb) h
theorem r_convInt {src t : TypeId} {x : Operand} {a : Int} {k k' : IntKind} {u : TypeDesc} (hs : P.underlying src = some u) (ht : P.underlying t = some (.int k')) (hx : ev E x = .int k a) :
    (execOp (ev E) ⟨dst, .convert src t x, ty, pos, af, g⟩).run P w = .ok (.value (.int k' (k'.wrap a))) w := by cases u <;> simp [execOp, hx, go_sem, convert, underlying, hs, ht, Conv.intToInt]
theorem st_convInt {src t : TypeId} {x : Operand} {a : Int} {k k' : IntKind} {u : TypeDesc} (hs : P.underlying src = some u) (ht : P.underlying t = some (.int k')) (hx : ev E x = .int k a) (h : wops P r n O Q l (updo E dst (.int k' (k'.wrap a))) ds w) : wop P r n O Q ⟨dst, .convert src t x, ty, pos, af, g⟩ l E ds w :=
  wop_run (fun _ => by simp) (r_convInt hs ht hx) h
/-! ### strings -/
abbrev Bytes := List UInt8
def S (s : Bytes) : Value := .string ⟨⟨s⟩⟩
theorem S_eta (s : ByteArray) : Value.string s = S s.data.toList := rfl
theorem S_inj {a b : Bytes} : S a = S b ↔ a = b := by simp [S]
theorem toList_mk (s : Bytes) : (⟨⟨s⟩⟩ : ByteArray).toList = s := by rw [Lib.toList_data]
theorem size_mk (s : Bytes) : (⟨⟨s⟩⟩ : ByteArray).size = s.length := rfl
theorem append_mk (a b : Bytes) : (⟨⟨a⟩⟩ : ByteArray) ++ ⟨⟨b⟩⟩ = ⟨⟨a ++ b⟩⟩ := by
  apply ByteArray.ext; simp
theorem extract_mk (s : Bytes) (i j : Nat) : (⟨⟨s⟩⟩ : ByteArray).extract i j = ⟨⟨(s.take j).drop i⟩⟩ := by
  rw [Lib.extract_eq]
  simp only [List.drop_take]
/-- The byte at a place. -/
def byte (s : Bytes) (i : Nat) : UInt8 := s.getD i 0
theorem r_sadd {t t' : TypeId} {x y : Operand} {a b : Bytes} (hx : ev E x = S a) (hy : ev E y = S b) (hb : a.length + b.length ≤ 9223372036854775807) :
    (execOp (ev E) ⟨dst, .binOp .add t x y t', ty, pos, af, g⟩).run P w = .ok (.value (S (a ++ b))) w := by
    have h1 := run_string_add_sum (P := P) (w := w) ⟨⟨a⟩⟩ ⟨⟨b⟩⟩ (by rw [size_mk, size_mk]; exact hb)
    rw [append_mk] at h1
    simp only [S] at hx hy
    simp [execOp, hx, hy, go_sem, eqGuard, h1, S]
theorem st_sadd {t t' : TypeId} {x y : Operand} {a b : Bytes} (hx : ev E x = S a) (hy : ev E y = S b) (hb : a.length + b.length ≤ 9223372036854775807) (h : wops P r n O Q l (updo E dst (S (a ++ b))) ds w) : wop P r n O Q ⟨dst, .binOp .add t x y t', ty, pos, af, g⟩ l E ds w :=
  wop_run (fun _ => by simp) (r_sadd hx hy hb) h
theorem r_seql {t t' : TypeId} {x y : Operand} {a b : Bytes} (hx : ev E x = S a) (hy : ev E y = S b) :
    (execOp (ev E) ⟨dst, .binOp .eql t x y t', ty, pos, af, g⟩).run P w = .ok (.value (.bool (decide (a = b)))) w := by
    simp only [S] at hx hy
    rw [show decide (a = b) = (a == b) by by_cases e : a = b <;> simp [e]]
    simp [execOp, hx, hy, go_sem, eqGuard, toList_mk]
theorem st_seql {t t' : TypeId} {x y : Operand} {a b : Bytes} (hx : ev E x = S a) (hy : ev E y = S b) (h : wops P r n O Q l (updo E dst (.bool (decide (a = b)))) ds w) : wop P r n O Q ⟨dst, .binOp .eql t x y t', ty, pos, af, g⟩ l E ds w :=
  wop_run (fun _ => by simp) (r_seql hx hy) h
theorem r_sneq {t t' : TypeId} {x y : Operand} {a b : Bytes} (hx : ev E x = S a) (hy : ev E y = S b) :
    (execOp (ev E) ⟨dst, .binOp .neq t x y t', ty, pos, af, g⟩).run P w = .ok (.value (.bool (!decide (a = b)))) w := by
    simp only [S] at hx hy
    rw [show decide (a = b) = (a == b) by by_cases e : a = b <;> simp [e]]
    simp [execOp, hx, hy, go_sem, eqGuard, toList_mk]
theorem st_sneq {t t' : TypeId} {x y : Operand} {a b : Bytes} (hx : ev E x = S a) (hy : ev E y = S b) (h : wops P r n O Q l (updo E dst (.bool (!decide (a = b)))) ds w) : wop P r n O Q ⟨dst, .binOp .neq t x y t', ty, pos, af, g⟩ l E ds w :=
  wop_run (fun _ => by simp) (r_sneq hx hy) h
theorem r_slen {x : Operand} {a : Bytes} {ct : Array TypeId} (ht : (ct[0]?).bind P.underlying = some .string) (hx : ev E x = S a) :
    (execOp (ev E) ⟨dst, .call ⟨.builtin .len, #[x], ct⟩, ty, pos, af, g⟩).run P w = .ok (.value (.int .i64 (a.length : Int))) w := by
    simp only [S] at hx
    cases h0 : ct[0]? with
    | none => simp [h0] at ht
    | some t0 =>
      simp only [h0, Option.bind_some] at ht
      simp [execOp, resolve, invoke, builtin, Builtin.len_, hx, go_sem, h0, underlying, ht, goInt, size_mk]
theorem st_slen {x : Operand} {a : Bytes} {ct : Array TypeId} (ht : (ct[0]?).bind P.underlying = some .string) (hx : ev E x = S a) (h : wops P r n O Q l (updo E dst (.int .i64 (a.length : Int))) ds w) : wop P r n O Q ⟨dst, .call ⟨.builtin .len, #[x], ct⟩, ty, pos, af, g⟩ l E ds w :=
  wop_run (fun _ => by simp) (r_slen ht hx) h
theorem r_sidx {t : TypeId} {x y : Operand} {a : Bytes} {k : IntKind} {i : Int} (ht : P.underlying t = some .string) (hx : ev E x = S a) (hy : ev E y = .int k i) (h0 : 0 ≤ i) (h1 : i < a.length) :
    (execOp (ev E) ⟨dst, .index t x y, ty, pos, af, g⟩).run P w = .ok (.value (.int .u8 ((byte a i.toNat).toNat : Int))) w := by
    simp only [S] at hx
    have hlt : i.toNat < a.length := by omega
    have hb : (⟨⟨a⟩⟩ : ByteArray)[i.toNat]? = some (byte a i.toNat) := by
      rw [getElem?_pos (⟨⟨a⟩⟩ : ByteArray) i.toNat (show i.toNat < (⟨⟨a⟩⟩ : ByteArray).size from hlt)]
      simp only [byte, List.getD_eq_getElem?_getD, List.getElem?_eq_getElem hlt, Option.getD_some]
      rfl
    simp [execOp, hx, hy, go_sem, Instr.index, asIntOf, underlying, ht, h0, hb]
theorem st_sidx {t : TypeId} {x y : Operand} {a : Bytes} {k : IntKind} {i : Int} (ht : P.underlying t = some .string) (hx : ev E x = S a) (hy : ev E y = .int k i) (h0 : 0 ≤ i) (h1 : i < a.length) (h : wops P r n O Q l (updo E dst (.int .u8 ((byte a i.toNat).toNat : Int))) ds w) : wop P r n O Q ⟨dst, .index t x y, ty, pos, af, g⟩ l E ds w :=
  wop_run (fun _ => by simp) (r_sidx ht hx hy h0 h1) h
theorem r_sslice {t : TypeId} {x : Operand} {lo hi : Option Operand} {a : Bytes} {i j : Nat} (ht : P.underlying t = some .string) (hx : ev E x = S a)
    (hlo : match lo with | some y => ∃ k, ev E y = .int k (i : Int) | none => i = 0) (hhi : match hi with | some y => ∃ k, ev E y = .int k (j : Int) | none => j = a.length) (h0 : i ≤ j) (h1 : j ≤ a.length) :
    (execOp (ev E) ⟨dst, .slice t x lo hi none, ty, pos, af, g⟩).run P w = .ok (.value (S ((a.take j).drop i))) w := by
    simp only [S] at hx ⊢
    have hs : (⟨⟨a⟩⟩ : ByteArray).size = a.length := rfl
    cases lo <;> cases hi <;> simp only at hlo hhi
    · subst hlo; subst hhi
      simp [execOp, hx, go_sem, Instr.sliceAt, Instr.slice, underlying, ht, Instr.sliceBounds, extract_mk, hs]
    · obtain ⟨k, hk⟩ := hhi; subst hlo
      simp [execOp, hx, hk, go_sem, Instr.sliceAt, Instr.slice, underlying, ht, Instr.sliceBounds, Instr.sliceBound, asIntOf, extract_mk, hs, h1]
    · obtain ⟨k, hk⟩ := hlo; subst hhi
      simp [execOp, hx, hk, go_sem, Instr.sliceAt, Instr.slice, underlying, ht, Instr.sliceBounds, Instr.sliceBound, asIntOf, extract_mk, hs, h0]
    · obtain ⟨k, hk⟩ := hlo; obtain ⟨k', hk'⟩ := hhi
      simp [execOp, hx, hk, hk', go_sem, Instr.sliceAt, Instr.slice, underlying, ht, Instr.sliceBounds, Instr.sliceBound, asIntOf, extract_mk, hs, h0, h1]
theorem st_sslice {t : TypeId} {x : Operand} {lo hi : Option Operand} {a : Bytes} {i j : Nat} (ht : P.underlying t = some .string) (hx : ev E x = S a)
    (hlo : match lo with | some y => ∃ k, ev E y = .int k (i : Int) | none => i = 0) (hhi : match hi with | some y => ∃ k, ev E y = .int k (j : Int) | none => j = a.length) (h0 : i ≤ j) (h1 : j ≤ a.length) (h : wops P r n O Q l (updo E dst (S ((a.take j).drop i))) ds w) : wop P r n O Q ⟨dst, .slice t x lo hi none, ty, pos, af, g⟩ l E ds w :=
  wop_run (fun _ => by simp) (r_sslice ht hx hlo hhi h0 h1) h
end plain
end Go.Proofs.YtmbbhgglllfelaaDoor.K
