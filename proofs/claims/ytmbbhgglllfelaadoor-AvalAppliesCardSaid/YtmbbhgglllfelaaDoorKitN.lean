/- The walk's own rules: a call may change what a predicate tells; a state in memory with a slice of its own; methods as values. -/
import Derived.Test.YtmbbhgglllfelaaDoorKitM
set_option linter.unusedVariables false
set_option linter.unusedSimpArgs false
set_option autoImplicit false
namespace Go.Proofs.YtmbbhgglllfelaaDoor.K
open Go Go.RowKit
/-- Only blocks of which M holds have changed; others may be new. -/
structure ChgP (M : Nat → Prop) (w w' : World) : Prop where
  os : w'.os = w.os
  tape : w'.tape = w.tape
  output : w'.output = w.output
  size : w.heap.size ≤ w'.heap.size
  block : ∀ k, k < w.heap.size → ¬ M k → w'.heap[k]? = w.heap[k]?
theorem ChgP.refl {M : Nat → Prop} (w : World) : ChgP M w w := ⟨rfl, rfl, rfl, Nat.le_refl _, fun _ _ _ => rfl⟩
theorem ChgP.chg {M : Nat → Prop} {bs : List Nat} {a b c : World} (h : ChgP M a b) (k : Chg bs b c) (hc : ∀ x, x ∈ bs → M x ∨ a.heap.size ≤ x) : ChgP M a c :=
  ⟨k.os.trans h.os, k.tape.trans h.tape, k.output.trans h.output, Nat.le_trans h.size k.size, fun i hi hb => by
    refine (k.block i (Nat.lt_of_lt_of_le hi h.size) fun hx => ?_).trans (h.block i hi hb)
    rcases hc i hx with h1 | h1
    · exact hb h1
    · omega⟩
theorem ChgP.chg0 {M : Nat → Prop} {a b c : World} (h : ChgP M a b) (k : Chg [] b c) : ChgP M a c := h.chg k (fun x hx => by cases hx)
theorem ChgP.trans {M M1 : Nat → Prop} {a b c : World} (h : ChgP M a b) (k : ChgP M1 b c) (hc : ∀ x, M1 x → M x ∨ a.heap.size ≤ x) : ChgP M a c :=
  ⟨k.os.trans h.os, k.tape.trans h.tape, k.output.trans h.output, Nat.le_trans h.size k.size, fun i hi hb => by
    refine (k.block i (Nat.lt_of_lt_of_le hi h.size) fun hx => ?_).trans (h.block i hi hb)
    rcases hc i hx with h1 | h1
    · exact hb h1
    · omega⟩
theorem ChgP.mono {M M1 : Nat → Prop} {a b : World} (h : ChgP M a b) (hm : ∀ x, M x → M1 x) : ChgP M1 a b := ⟨h.os, h.tape, h.output, h.size, fun i hi hb => h.block i hi fun hx => hb (hm i hx)⟩
theorem ChgP.toChg {M : Nat → Prop} {bs : List Nat} {a b : World} (h : ChgP M a b) (hm : ∀ x, M x → x ∈ bs ∨ a.heap.size ≤ x) : Chg bs a b := ⟨h.os, h.tape, h.output, h.size, fun i hi hb => h.block i hi fun hx => by rcases hm i hx with h1 | h1; exact hb h1; omega⟩
theorem Chg.toP {M : Nat → Prop} {bs : List Nat} {a b : World} (h : Chg bs a b) (hm : ∀ x, x ∈ bs → M x) : ChgP M a b := ⟨h.os, h.tape, h.output, h.size, fun i hi hb => h.block i hi fun hx => hb (hm i hx)⟩
theorem Blk.trP {M : Nat → Prop} {w w' : World} {b : Nat} {cs : List Value} {T : TypeId} (h : Blk w b cs T) (c : ChgP M w w') (hb : ¬ M b) : Blk w' b cs T := h.of_eq (c.block b h.lt hb)
theorem Sl.trP {M : Nat → Prop} {α : Type} {c : Enc α} {w w' : World} {D : Nat → Prop} {A : Option Addr} {xs : List α} (h : Sl c w D A xs) (k : ChgP M w w') (hb : ∀ x, D x → ¬ M x) : Sl c w' D A xs :=
  h.keep (fun i hi hD => k.block i hi (hb i hD)) k.size
theorem Own.trP {M : Nat → Prop} {α : Type} {c : Enc α} {e : TypeId} {w w' : World} {D : Nat → Prop} {A : Option Addr} {cap : Nat} {xs : List α} (h : Own c e w D A cap xs) (k : ChgP M w w') (hb : ∀ x, D x → ¬ M x) : Own c e w' D A cap xs :=
  h.keep (fun i hi hD => k.block i hi (hb i hD)) k.size
/-- A domain without one block. -/
theorem dom_new (D : Nat → Prop) (b : Nat) : ∃ D1 : Nat → Prop, (∀ k, D1 k → D k) ∧ ¬ D1 b ∧ ∀ k, D k → k ≠ b → D1 k := ⟨fun k => D k ∧ k ≠ b, fun _ h => h.1, fun h => h.2 rfl, fun _ h1 h2 => ⟨h1, h2⟩⟩
theorem Own.take {α : Type} {c : Enc α} {e : TypeId} {w : World} {D : Nat → Prop} {A : Option Addr} {cap : Nat} {xs : List α} {k : Nat} (h : Own c e w D A cap xs) (hk : k ≤ xs.length) : Own c e w D A cap (xs.take k) := by
  obtain ⟨cs, h1, h2, h3⟩ := h
  have hkm : k * c.sz ≤ xs.length * c.sz := Nat.mul_le_mul_right _ hk
  have hl : (xs.take k).length = k := by rw [List.length_take]; omega
  have hcl : (cs.take (k * c.sz)).length = k * c.sz := by rw [List.length_take, h3.1]; omega
  refine ⟨cs.take (k * c.sz), ⟨by rw [hl, hcl], ?_⟩, h2, ⟨by rw [hl, hcl], fun i x hx => ?_⟩⟩
  · rw [hl]
    rcases h1.2 with ⟨h4, h5⟩ | ⟨g, cp, cur, h4, h5, h6, h7, h8, h9, h10⟩
    · simp only [Value.slice.injEq] at h4; obtain ⟨rfl, _, rfl⟩ := h4
      obtain rfl : k = 0 := by omega
      exact .inl ⟨rfl, rfl⟩
    · simp only [Value.slice.injEq] at h4; obtain ⟨rfl, _, rfl⟩ := h4
      refine .inr ⟨g, _, cur, rfl, h5, h6, by omega, h8, h9, ?_⟩
      rw [← h10, List.take_take, Nat.min_eq_left hkm]
  · rw [List.getElem?_take] at hx
    split at hx
    · rename_i hik
      obtain ⟨vs, q1, q2⟩ := h3.2 i x hx
      refine ⟨vs, q1, fun j v hj => ?_⟩
      have hjs : j < c.sz := by rw [← c.len q1]; exact (List.getElem?_eq_some_iff.1 hj).1
      have hlt : i * c.sz + j < k * c.sz := by
        have := Nat.mul_le_mul_right c.sz (show i + 1 ≤ k from hik)
        rw [Nat.add_mul] at this; omega
      rw [List.getElem?_take, if_pos hlt]; exact q2 j v hj
    · cases hx
/-! ### methods as values -/
section
variable {P : Program} {r : Option Nat} {n : Nat} {O : Array Oper} {Q : Post} {E : Env} {ds : List Deferred} {w : World} {l : List Oper}
variable {dst : Option Nat} {ty : TypeId} {pos : String} {af : Array Edge} {g : Option (Nat × Bool)}
theorem r_callB {c : Call} {f : FuncId} {ags : List Value} {x : Operand} {rv : Array Value} (hcal : c.callee = .value x) (hf : ev E x = .func (.func f) rv #[]) (hent : ∀ args (w : World), (callFunc f args).run P w = .ok (.enter f args) w)
    (has : rv.toList ++ c.args.toList.map (ev E) = ags) : (execOp (ev E) ⟨dst, .call c, ty, pos, af, g⟩).run P w = .ok (.enter f ⟨ags⟩) w := by
  replace has : rv ++ (c.args.map (ev E)) = ⟨ags⟩ := Array.ext' (by simpa using has)
  simp [execOp, resolve, hcal, hf, Deferred.ofValue, invoke, go_sem, has, hent, Result.andThen]
theorem st_callB {c : Call} {f : FuncId} {ags : List Value} {Φ : Value → World → Prop} {x : Operand} {rv : Array Value} (hcal : c.callee = .value x) (hf : ev E x = .func (.func f) rv #[]) (hent : ∀ args (w : World), (callFunc f args).run P w = .ok (.enter f args) w)
    (has : rv.toList ++ c.args.toList.map (ev E) = ags) (hc : CallR P f ⟨ags⟩ w Φ) (h : ∀ v w', Φ v w' → wops P r n O Q l (updo E dst v) ds w') : wop P r n O Q ⟨dst, .call c, ty, pos, af, g⟩ l E ds w := by
  exact wop_enter (fun _ => by simp) (r_callB hcal hf hent has) hc h
theorem r_bldA {t e : TypeId} {m sz : Nat} {ps : List (Nat × Operand)} {zs vs : List Value} (hu : P.underlying t = some (.array m e)) (hs : sizeB P e sz = true) (h3 : (P.info? t).bind (·.zero) = some (.agg ⟨zs⟩)) (hv : fillV (fun i => some (i * sz, sz)) zs (ps.map fun p => (p.1, cellsOf (ev E p.2))) = some vs) :
    (execOp (ev E) ⟨dst, .build t ps.toArray, ty, pos, af, g⟩).run P w = .ok (.value (.agg ⟨vs⟩)) w := by
  have key : ∀ w : World, (Instr.build t (ps.toArray.map fun (i, x) => (i, ev E x))).run P w = .ok (.agg ⟨vs⟩) w := ?_
  · simp only [execOp, Sem.run_bind, key, Result.andThen, Sem.run_pure]
  intro w
  have hf := fill_eq (pl := fun i => some (i * sz, sz)) (ps.map fun p => (p.1, ev E p.2)) zs vs (by rw [List.map_map]; exact hv)
  cases hi : P.info? t with
  | none => simp [hi] at h3
  | some i =>
    simp only [hi, Option.bind_some] at h3
    have hz : (zeroValue t).run P w = .ok (.agg ⟨zs⟩) w := by simp [zeroValue, typeInfo, go_sem, hi, h3]
    have hu : (underlying t).run P w = .ok (.array m e) w := by simp [underlying, go_sem, hu]
    have hs2 := run_sizeOf (w := w) hs
    have e2 : (ps.toArray.map fun p => (p.1, ev E p.2)).toList = ps.map fun p => (p.1, ev E p.2) := by simp
    unfold Instr.build
    simp only [Sem.run_bind, hz, Result.andThen, hu, hs2, Value.cells, e2]
    rw [hf]
    rfl
theorem st_bldA {t e : TypeId} {m sz : Nat} {ps : List (Nat × Operand)} {zs vs : List Value} (hu : P.underlying t = some (.array m e)) (hs : sizeB P e sz = true) (h3 : (P.info? t).bind (·.zero) = some (.agg ⟨zs⟩)) (hv : fillV (fun i => some (i * sz, sz)) zs (ps.map fun p => (p.1, cellsOf (ev E p.2))) = some vs) (h : wops P r n O Q l (updo E dst (.agg ⟨vs⟩)) ds w) :
    wop P r n O Q ⟨dst, .build t ps.toArray, ty, pos, af, g⟩ l E ds w := wop_run (fun _ => by simp) (r_bldA hu hs h3 hv) h
theorem r_cut {α : Type} {xs : List α} {t e : TypeId} {x y : Operand} {A : Option Addr} {m c sz j : Nat} (ht : P.underlying t = some (.slice e)) (hs : sizeB P e sz = true) (hx : ev E x = .slice A m c) (hhi : ∃ k, ev E y = .int k (j : Int)) (hj : j ≤ xs.length) (h1 : j ≤ c):
    (execOp (ev E) ⟨dst, .slice t x none (some y) none, ty, pos, af, g⟩).run P w = .ok (.value (.slice A (xs.take j).length c)) w := by
  have h := r_slice (P := P) (w := w) (dst := dst) (ty := ty) (pos := pos) (af := af) (g := g) (lo := none) (hi := some y) (i := 0) (j := j) ht hs hx rfl hhi (Nat.zero_le _) h1
  have e1 : (if c = 0 then A else A.map (·.add (0 * sz))) = A := by
    split
    · rfl
    · cases A <;> simp [Addr.add]
  rw [e1] at h
  rw [List.length_take, Nat.min_eq_left hj]
  exact h
theorem st_cut {α : Type} {xs : List α} {t e : TypeId} {x y : Operand} {A : Option Addr} {m c sz j : Nat} (ht : P.underlying t = some (.slice e)) (hs : sizeB P e sz = true) (hx : ev E x = .slice A m c) (hhi : ∃ k, ev E y = .int k (j : Int)) (hj : j ≤ xs.length) (h1 : j ≤ c)
    (h : wops P r n O Q l (updo E dst (.slice A (xs.take j).length c)) ds w) : wop P r n O Q ⟨dst, .slice t x none (some y) none, ty, pos, af, g⟩ l E ds w := wop_run (fun _ => by simp) (r_cut ht hs hx hhi hj h1) h
/-- An array from a place on, as a slice. -/
theorem r_arrCut {t e : TypeId} {x y : Operand} {b o m sz i k : Nat} (ht : P.underlying t = some (.array m e)) (hs : sizeB P e sz = true) (hx : ev E x = .pointer (some ⟨b, o, none⟩)) (hlo : ∃ k, ev E y = .int k (i : Int)) (hi : i < m) (hk : m - i = k) :
    (execOp (ev E) ⟨dst, .slice t x (some y) none none, ty, pos, af, g⟩).run P w = .ok (.value (.slice (some ⟨b, o + i * sz, none⟩) k k)) w := by
  have h2 := run_sizeOf (w := w) hs
  obtain ⟨kk, hy⟩ := hlo
  subst hk
  simp [execOp, hx, hy, Instr.sliceAt, Instr.sureAddr, Instr.sliceBounds, Instr.sliceBound, go_sem, asIntOf, underlying, ht, Sem.run_bind, h2, Result.andThen, Addr.add_lit, Nat.le_of_lt hi, Nat.ne_of_gt hi]
theorem st_arrCut {t e : TypeId} {x y : Operand} {b o m sz i k : Nat} (ht : P.underlying t = some (.array m e)) (hs : sizeB P e sz = true) (hx : ev E x = .pointer (some ⟨b, o, none⟩)) (hlo : ∃ k, ev E y = .int k (i : Int)) (hi : i < m) (hk : m - i = k)
    (h : wops P r n O Q l (updo E dst (.slice (some ⟨b, o + i * sz, none⟩) k k)) ds w) : wop P r n O Q ⟨dst, .slice t x (some y) none none, ty, pos, af, g⟩ l E ds w := wop_run (fun _ => by simp) (r_arrCut ht hs hx hlo hi hk) h
end
end Go.Proofs.YtmbbhgglllfelaaDoor.K
