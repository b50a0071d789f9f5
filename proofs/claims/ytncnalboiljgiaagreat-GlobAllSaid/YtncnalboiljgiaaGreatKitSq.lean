import Derived.Test.YtncnalboiljgiaaGreatKitL
import Derived.Laws.Runes
import Derived.MapKept
set_option linter.unusedVariables false
set_option linter.unusedSimpArgs false
set_option autoImplicit false
namespace Go.Proofs.YtncnalboiljgiaaGreat.K
open Go Go.RowKit
variable {P : Program} {r : Option Nat} {n : Nat} {O : Array Oper} {Q : Post} {E : Env} {ds : List Deferred} {w : World} {l : List Oper}
variable {dst : Option Nat} {ty : TypeId} {pos : String} {af : Array Edge} {g : Option (Nat × Bool)}
theorem wrapu64_id {x : Int} (h1 : 0 ≤ x) (h2 : x ≤ 18446744073709551615) : IntKind.u64.wrap x = x := by
  simp [IntKind.wrap, IntKind.signed, IntKind.bits]; omega
theorem quoi64 {a b : Int} (h1 : 0 ≤ a) (h2 : 0 < b) (h3 : a ≤ 9223372036854775807) : IntKind.i64.wrap (a.tdiv b) = a / b := by
  rw [Int.tdiv_eq_ediv_of_nonneg h1]
  have h4 : 0 ≤ a / b := Int.ediv_nonneg h1 (by omega)
  have h5 : a / b ≤ a := Int.ediv_le_self b h1
  exact wrap64_id (by omega) (by omega)
theorem st_addk {t t' : TypeId} {x y : Operand} {a b c : Int} {k : IntKind} (hx : ev E x = .int k a) (hy : ev E y = .int k b) (hc : k.wrap (a + b) = c) (h : wops P r n O Q l (updo E dst (.int k c)) ds w) : wop P r n O Q ⟨dst, .binOp .add t x y t', ty, pos, af, g⟩ l E ds w := st_add hx hy (by rw [hc]; exact h)
theorem r_subk {t t' : TypeId} {x y : Operand} {a b c : Int} {k : IntKind} (hx : ev E x = .int k a) (hy : ev E y = .int k b) (hc : k.wrap (a - b) = c) :
    (execOp (ev E) ⟨dst, .binOp .sub t x y t', ty, pos, af, g⟩).run P w = .ok (.value (.int k c)) w := by rw [← hc]; exact r_sub hx hy
theorem st_subk {t t' : TypeId} {x y : Operand} {a b c : Int} {k : IntKind} (hx : ev E x = .int k a) (hy : ev E y = .int k b) (hc : k.wrap (a - b) = c) (h : wops P r n O Q l (updo E dst (.int k c)) ds w) : wop P r n O Q ⟨dst, .binOp .sub t x y t', ty, pos, af, g⟩ l E ds w := st_sub hx hy (by rw [hc]; exact h)
theorem st_quok {t t' : TypeId} {x y : Operand} {a b c : Int} {k : IntKind} (hx : ev E x = .int k a) (hy : ev E y = .int k b) (hb : b ≠ 0) (hc : k.wrap (a.tdiv b) = c) (h : wops P r n O Q l (updo E dst (.int k c)) ds w) : wop P r n O Q ⟨dst, .binOp .quo t x y t', ty, pos, af, g⟩ l E ds w := st_quo hx hy hb (by rw [hc]; exact h)
theorem st_remk {t t' : TypeId} {x y : Operand} {a b c : Int} {k : IntKind} (hx : ev E x = .int k a) (hy : ev E y = .int k b) (hb : b ≠ 0) (hc : a.tmod b = c) (h : wops P r n O Q l (updo E dst (.int k c)) ds w) : wop P r n O Q ⟨dst, .binOp .rem t x y t', ty, pos, af, g⟩ l E ds w := st_rem hx hy hb (by rw [hc]; exact h)
theorem st_convk {src t : TypeId} {x : Operand} {a c : Int} {k k' : IntKind} {u : TypeDesc} (hs : P.underlying src = some u) (ht : P.underlying t = some (.int k')) (hx : ev E x = .int k a) (hc : k'.wrap a = c) (h : wops P r n O Q l (updo E dst (.int k' c)) ds w) : wop P r n O Q ⟨dst, .convert src t x, ty, pos, af, g⟩ l E ds w := st_convInt hs ht hx (by rw [hc]; exact h)
theorem r_sslo {t : TypeId} {x y : Operand} {a : Bytes} {i : Nat} (ht : P.underlying t = some .string) (hx : ev E x = S a) (hlo : ∃ k, ev E y = .int k (i : Int)) (h1 : i ≤ a.length) :
    (execOp (ev E) ⟨dst, .slice t x (some y) none none, ty, pos, af, g⟩).run P w = .ok (.value (S (a.drop i))) w := by
  have := r_sslice (P := P) (w := w) (dst := dst) (ty := ty) (pos := pos) (af := af) (g := g) (lo := some y) (hi := none) (i := i) (j := a.length) ht hx hlo rfl h1 (Nat.le_refl _)
  rwa [List.take_length] at this
theorem st_sslo {t : TypeId} {x y : Operand} {a : Bytes} {i : Nat} (ht : P.underlying t = some .string) (hx : ev E x = S a) (hlo : ∃ k, ev E y = .int k (i : Int)) (h1 : i ≤ a.length) (h : wops P r n O Q l (updo E dst (S (a.drop i))) ds w) : wop P r n O Q ⟨dst, .slice t x (some y) none none, ty, pos, af, g⟩ l E ds w :=
  wop_run (fun _ => by simp) (r_sslo ht hx hlo h1) h
def Hid (p : Prop) : Prop := p
theorem Kept.refl' {K : Nat → Prop} {A : World} : Kept K A A := ⟨Nat.le_refl _, fun _ _ _ => rfl⟩
theorem Kept.chg {K : Nat → Prop} {A B C : World} {bs : List Nat} (h : Kept K A B) (c : Chg bs B C) (hb : ∀ k, k ∈ bs → K k → A.heap.size ≤ k) : Kept K A C :=
  ⟨Nat.le_trans h.1 c.size, fun k hk hl => (c.block k (Nat.lt_of_lt_of_le hl h.1) fun hx => by have := hb k hx hk; omega).trans (h.2 k hk hl)⟩
theorem stepR_scope {P : Program} {b : Frame} {a : Act} {k : List Item} {cs : List Frame} {w : World} {c : Code} : step P (lone (b.atR a (.code (.scope c) :: k)) cs w) = .next (lone (b.atR a (.code c :: .inScope c :: k)) cs w) :=
  step_lone_go (by simp [stepG, stepG.exec, Frame.atR])
theorem stepR_inScope {P : Program} {b : Frame} {a : Act} {k : List Item} {cs : List Frame} {w : World} {c : Code} : step P (lone (b.atR a (.inScope c :: k)) cs w) = .next (lone (b.atR a k) cs w) :=
  step_lone_go (by simp [stepG, stepG.exec, Frame.atR])
def noGo (Q : Exit → Act → World → Prop) : Exit → Act → World → Prop
  | .goto _, _, _ => False
  | e, a, w => Q e a w
theorem wpIn_scope {F : Fence} {n : Nat} {P : Program} {Q : Exit → Act → World → Prop} {a : Act} {w : World} {c : Code} (h : c.wpIn F n P (noGo Q) a w) : (Code.scope c).wpIn F n P Q a w := by
  intro b k cs hro hb hr
  have h0 : (lone (b.atR a (.code (.scope c) :: k)) cs w).fenced P F := fenced_calm hb hr rfl
  obtain ⟨e, a₁, w₁, hq, harr⟩ := h b (.inScope c :: k) cs hro hb hr
  cases e with
  | normal => exact ⟨.normal, a₁, w₁, hq, .head h0 stepR_scope (StepsIn.trans harr (.one (fenced_calm hb hr rfl) stepR_inScope))⟩
  | exit id =>
    have hx : exitTo id (.inScope c :: k) = exitTo id k := by simp [exitTo]
    exact ⟨.exit id, a₁, w₁, hq, fun k' hk => .head h0 stepR_scope (harr.1 k' (by rw [hx]; exact hk)),
      fun hr' hk => let ⟨k₁, h1, h2⟩ := harr.2 hr' (by rw [hx]; exact hk); ⟨k₁, h1, .head h0 stepR_scope h2⟩⟩
  | goto l => exact hq.elim
  | ret => exact ⟨_, a₁, w₁, hq, .of_steps (.one h0 stepR_scope) harr⟩
  | panic ch => exact ⟨_, a₁, w₁, hq, .of_steps (.one h0 stepR_scope) harr⟩
  | outgrown => exact ⟨_, a₁, w₁, hq, .of_steps (.one h0 stepR_scope) harr⟩
def scopeP (Q : Post) : Post
  | .goto _, _, _, _ => False
  | e, E, ds, w => Q e E ds w
theorem scope_r {Q : Post} {E : Env} {ds : List Deferred} {w : World} (h : Q .ret E ds w) : scopeP Q .ret E ds w := h
theorem x_scope {P : Program} {r : Option Nat} {n : Nat} {Q : Post} {E : Env} {ds : List Deferred} {w : World} {c : Code} (h : wp P r n c (scopeP Q) E ds w) : wp P r n (.scope c) Q E ds w := by
  intro a h1 h2 h3
  refine wpIn_scope (wpIn_mono (h a h1 h2 h3) ?_)
  rintro e a' w' ⟨q1, q2⟩
  cases e with
  | goto l => exact q2.elim
  | normal => exact ⟨q1, q2⟩
  | exit i => exact ⟨q1, q2⟩
  | ret => exact ⟨q1, q2⟩
  | panic c => exact ⟨q1, q2⟩
  | outgrown => exact ⟨q1, q2⟩
end Go.Proofs.YtncnalboiljgiaaGreat.K
namespace Go.Proofs.YtncnalboiljgiaaGreat.K
open Go Go.RowKit
structure ChgP (M : Nat → Prop) (w w' : World) : Prop where
  os : w'.os = w.os
  tape : w'.tape = w.tape
  output : w'.output = w.output
  size : w.heap.size ≤ w'.heap.size
  block : ∀ k, k < w.heap.size → ¬ M k → w'.heap[k]? = w.heap[k]?
theorem ChgP.refl {M : Nat → Prop} (w : World) : ChgP M w w := ⟨rfl, rfl, rfl, Nat.le_refl _, fun _ _ _ => rfl⟩
theorem ChgP.chg {M : Nat → Prop} {bs : List Nat} {a b c : World} (h : ChgP M a b) (k : Chg bs b c) (hc : ∀ x, x ∈ bs → M x ∨ a.heap.size ≤ x) : ChgP M a c :=
  ⟨k.os.trans h.os, k.tape.trans h.tape, k.output.trans h.output, Nat.le_trans h.size k.size, fun i hi hb => by
    refine (k.block i (Nat.lt_of_lt_of_le hi h.size) fun hx => ?_).trans (h.block i hi hb)
    rcases hc i hx with h1 | h1
    · exact hb h1
    · omega⟩
theorem ChgP.trans {M M1 : Nat → Prop} {a b c : World} (h : ChgP M a b) (k : ChgP M1 b c) (hc : ∀ x, M1 x → M x ∨ a.heap.size ≤ x) : ChgP M a c :=
  ⟨k.os.trans h.os, k.tape.trans h.tape, k.output.trans h.output, Nat.le_trans h.size k.size, fun i hi hb => by
    refine (k.block i (Nat.lt_of_lt_of_le hi h.size) fun hx => ?_).trans (h.block i hi hb)
    rcases hc i hx with h1 | h1
    · exact hb h1
    · omega⟩
theorem ChgP.mono {M M1 : Nat → Prop} {a b : World} (h : ChgP M a b) (hm : ∀ x, M x → M1 x) : ChgP M1 a b := ⟨h.os, h.tape, h.output, h.size, fun i hi hb => h.block i hi fun hx => hb (hm i hx)⟩
theorem Blk.trP {M : Nat → Prop} {w w' : World} {b : Nat} {cs : List Value} {T : TypeId} (h : Blk w b cs T) (c : ChgP M w w') (hb : ¬ M b) : Blk w' b cs T := h.of_eq (c.block b h.lt hb)
theorem Sl.trP {M : Nat → Prop} {α : Type} {c : Enc α} {w w' : World} {D : Nat → Prop} {A : Option Addr} {xs : List α} (h : Sl c w D A xs) (k : ChgP M w w') (hb : ∀ x, D x → ¬ M x) : Sl c w' D A xs :=
  h.keep (fun i hi hD => k.block i hi (hb i hD)) k.size
theorem Own.trP {M : Nat → Prop} {α : Type} {c : Enc α} {e : TypeId} {w w' : World} {D : Nat → Prop} {A : Option Addr} {cap : Nat} {xs : List α} (h : Own c e w D A cap xs) (k : ChgP M w w') (hb : ∀ x, D x → ¬ M x) : Own c e w' D A cap xs :=
  h.keep (fun i hi hD => k.block i hi (hb i hD)) k.size
theorem Own.take {α : Type} {c : Enc α} {e : TypeId} {w : World} {D : Nat → Prop} {A : Option Addr} {cap : Nat} {xs : List α} {k : Nat} (h : Own c e w D A cap xs) (hk : k ≤ xs.length) : Own c e w D A cap (xs.take k) := by
  obtain ⟨cs, h1, h2, h3⟩ := h
  have hkm : k * c.sz ≤ xs.length * c.sz := Nat.mul_le_mul_right _ hk
  have hl : (xs.take k).length = k := by rw [List.length_take]; omega
  have hcl : (cs.take (k * c.sz)).length = k * c.sz := by rw [List.length_take, h3.1]; omega
  refine ⟨cs.take (k * c.sz), ⟨by rw [hl, hcl], ?_⟩, h2, ⟨by rw [hl, hcl], fun i x hx => ?_⟩⟩
  · rw [hl]
    rcases h1.2 with ⟨h4, h5⟩ | ⟨g, cp, cur, h4, h5, h6, h7, h8, h9, h10⟩
    · simp only [Value.slice.injEq] at h4; obtain ⟨rfl, _, rfl⟩ := h4
      obtain rfl : k = 0 := by omega
      exact .inl ⟨rfl, rfl⟩
    · simp only [Value.slice.injEq] at h4; obtain ⟨rfl, _, rfl⟩ := h4
      refine .inr ⟨g, _, cur, rfl, h5, h6, by omega, h8, h9, ?_⟩
      rw [← h10, List.take_take, Nat.min_eq_left hkm]
  · rw [List.getElem?_take] at hx
    split at hx
    · rename_i hik
      obtain ⟨vs, q1, q2⟩ := h3.2 i x hx
      refine ⟨vs, q1, fun j v hj => ?_⟩
      have hjs : j < c.sz := by rw [← c.len q1]; exact (List.getElem?_eq_some_iff.1 hj).1
      have hlt : i * c.sz + j < k * c.sz := by
        have := Nat.mul_le_mul_right c.sz (show i + 1 ≤ k from hik)
        rw [Nat.add_mul] at this; omega
      rw [List.getElem?_take, if_pos hlt]; exact q2 j v hj
    · cases hx
section
variable {P : Program} {r : Option Nat} {n : Nat} {O : Array Oper} {Q : Post} {E : Env} {ds : List Deferred} {w : World} {l : List Oper}
variable {dst : Option Nat} {ty : TypeId} {pos : String} {af : Array Edge} {g : Option (Nat × Bool)}
theorem r_cut {α : Type} {xs : List α} {t e : TypeId} {x y : Operand} {A : Option Addr} {m c sz j : Nat} (ht : P.underlying t = some (.slice e)) (hs : sizeB P e sz = true) (hx : ev E x = .slice A m c) (hhi : ∃ k, ev E y = .int k (j : Int)) (hj : j ≤ xs.length) (h1 : j ≤ c):
    (execOp (ev E) ⟨dst, .slice t x none (some y) none, ty, pos, af, g⟩).run P w = .ok (.value (.slice A (xs.take j).length c)) w := by
  have h := r_slice (P := P) (w := w) (dst := dst) (ty := ty) (pos := pos) (af := af) (g := g) (lo := none) (hi := some y) (i := 0) (j := j) ht hs hx rfl hhi (Nat.zero_le _) h1
  have e1 : (if c = 0 then A else A.map (·.add (0 * sz))) = A := by
    split
    · rfl
    · cases A <;> simp [Addr.add]
  rw [e1] at h
  rw [List.length_take, Nat.min_eq_left hj]
  exact h
end
end Go.Proofs.YtncnalboiljgiaaGreat.K
namespace Go.Proofs.YtncnalboiljgiaaGreat.K
open Go Go.RowKit
section
variable {P : Program} {r : Option Nat} {n : Nat} {O : Array Oper} {Q : Post} {E : Env} {ds : List Deferred} {w : World} {l : List Oper}
variable {dst : Option Nat} {ty : TypeId} {pos : String} {af : Array Edge} {g : Option (Nat × Bool)}
end
end Go.Proofs.YtncnalboiljgiaaGreat.K
namespace Go.Proofs.YtncnalboiljgiaaGreat.K
open Go Go.MapKept
def MapAt (w : World) (b : Nat) (es : List (Bytes × Value)) : Prop := ∃ ar clock, w.heap[b]? = some (.map ar clock) ∧ ar.toList.map (fun e => (e.key, e.val)) = es.map (fun x => (S x.1, x.2))
theorem MapAt.lt {w : World} {b : Nat} {es : List (Bytes × Value)} (h : MapAt w b es) : b < w.heap.size := by obtain ⟨_, _, h, _⟩ := h; exact (Array.getElem?_eq_some_iff.1 h).1
theorem MapAt.tr {w w' : World} {b : Nat} {es : List (Bytes × Value)} {bs : List Nat} (h : MapAt w b es) (hc : Chg bs w w') (hb : b ∉ bs) : MapAt w' b es := by
  have hl := h.lt; obtain ⟨ar, c, h1, h2⟩ := h; exact ⟨ar, c, (hc.block b hl hb).trans h1, h2⟩
theorem MapAt.tr0 {w w' : World} {b : Nat} {es : List (Bytes × Value)} (h : MapAt w b es) (hc : Chg [] w w') : MapAt w' b es := h.tr hc (by simp)
theorem MapAt.fresh {w : World} {b k : Nat} {es : List (Bytes × Value)} (h : MapAt w b es) (hk : w.heap.size ≤ k) : b ≠ k := by have := h.lt; omega
def mget : List (Bytes × Value) → Bytes → Option Value
  | [], _ => none
  | (a, v) :: r, s => if a = s then some v else mget r s
def mput : List (Bytes × Value) → Bytes → Value → List (Bytes × Value)
  | [], s, x => [(s, x)]
  | (a, v) :: r, s, x => if a = s then (a, x) :: r else (a, v) :: mput r s x
theorem mget_put (es : List (Bytes × Value)) (s t : Bytes) (x : Value) : mget (mput es s x) t = if s = t then some x else mget es t := by
  induction es with
  | nil => simp [mput, mget]
  | cons a r ih =>
    obtain ⟨a, v⟩ := a
    simp only [mput]
    by_cases h : a = s
    · subst h; simp only [if_true, mget]
      by_cases h2 : a = t <;> simp [h2]
    · rw [if_neg h]; simp only [mget]
      by_cases h2 : a = t
      · rw [if_pos h2, if_pos h2]; subst h2; rw [if_neg (fun e => h e.symm)]
      · rw [if_neg h2, if_neg h2, ih]
theorem findNow_mget : ∀ (l : List MapEntry) (es : List (Bytes × Value)) (i : Nat) (s : Bytes), l.map (fun e => (e.key, e.val)) = es.map (fun x => (S x.1, x.2)) →
    (mget es s = none ∧ Instr.findNow .string (S s) l i = some none ∧ ∀ v, (es ++ [(s, v)]) = mput es s v) ∨
    ∃ j e, Instr.findNow .string (S s) l i = some (some (i + j, e.val)) ∧ mget es s = some e.val ∧ l[j]? = some e ∧ e.key = S s ∧ ∀ f : MapEntry → MapEntry, (f e).key = S s → (l.modify j f).map (fun e => (e.key, e.val)) = (mput es s (f e).val).map (fun x => (S x.1, x.2))
  | [], [], _, _, _ => .inl ⟨rfl, rfl, fun _ => rfl⟩
  | [], _ :: _, _, _, h => by simp at h
  | _ :: _, [], _, _, h => by simp at h
  | e :: l, (a, v) :: es, i, s, h => by
    simp only [List.map_cons, List.cons.injEq, Prod.mk.injEq] at h
    obtain ⟨⟨h1, h2⟩, h3⟩ := h
    have hs : Instr.sameNow .string (S s) e.key = some (decide (a = s)) := by
      rw [h1]; simp only [S, Instr.sameNow]
      by_cases hq : a = s
      · subst hq; simp only [decide_true]; exact congrArg some ((bytes_beq _ _).2 rfl)
      · rw [decide_eq_false hq]
        cases hb : ((⟨⟨s⟩⟩ : ByteArray) == ⟨⟨a⟩⟩) with
        | false => rfl
        | true => have := (bytes_beq _ _).1 hb; simp at this; exact absurd this.symm hq
    by_cases hq : a = s
    · subst hq
      refine .inr ⟨0, e, ?_, ?_, rfl, h1, fun f hf => ?_⟩
      · simp [Instr.findNow, hs]
      · simp [mget, h2]
      · rw [show (e :: l).modify 0 f = f e :: l from rfl]; simp [mput, hf, h3]
    · rw [decide_eq_false hq] at hs
      rcases findNow_mget l es (i + 1) s h3 with ⟨q1, q2, q3⟩ | ⟨j, e', q1, q2, q3, q4, q5⟩
      · exact .inl ⟨by simp [mget, hq, q1], by simp [Instr.findNow, hs, q2], fun w => by simp [mput, hq, ← q3 w]⟩
      · refine .inr ⟨j + 1, e', ?_, by simp [mget, hq, q2], by simpa using q3, q4, fun f hf => ?_⟩
        · simp [Instr.findNow, hs, q1]; omega
        · simp only [List.modify_succ_cons, List.map_cons, q5 f hf, mput, if_neg hq, h1, h2]
def mapB (P : Program) (t e : TypeId) : Prop := ∃ k, P.underlying t = some (.map k e) ∧ P.underlying k = some .string
section rules
variable {P : Program} {r : Option Nat} {n : Nat} {O : Array Oper} {Q : Post} {l : List Oper} {E : Env} {ds : List Deferred} {w : World} {dst : Option Nat} {ty : TypeId} {pos : String} {af : Array Edge} {g : Option (Nat × Bool)}
theorem keyLaw (s : Bytes) : IsKey .string (S s) := trivial
theorem r_makeMap {t : TypeId} : (execOp (ev E) ⟨dst, .makeMap t none, ty, pos, af, g⟩).run P w = .ok (.value (.map (some w.heap.size))) (w.alloc (.map #[] 0)) := by
  simp [execOp, Instr.makeMap, go_sem, Result.andThen]
theorem run_mapUpdate {t e : TypeId} {b : Nat} {s : Bytes} {v : Value} {es : List (Bytes × Value)} (hB : mapB P t e) (hm : MapAt w b es) : ∃ w', (Instr.mapUpdate t (.map (some b)) (S s) v).run P w = .ok () w' ∧ Chg [b] w w' ∧ MapAt w' b (mput es s v) := by
  obtain ⟨kt, hu, hk⟩ := hB
  obtain ⟨ar, clock, hb, he⟩ := hm
  have hC : ∀ o : Obj, Chg [b] w { w with heap := w.heap.setIfInBounds b o } := fun o => ⟨rfl, rfl, rfl, by simp, fun j _ hj => by simp at hj; simp [Ne.symm hj]⟩
  rcases findNow_mget ar.toList es 0 s he with ⟨q1, q2, q3⟩ | ⟨j, e0, q1, q2, q3, q4, q5⟩
  · refine ⟨_, by simp [Instr.mapUpdate, Go.run_underlying hu, MapKept.run_getObj_map hb, MapKept.run_checkKey hk (keyLaw s), MapKept.run_findKey hk q2, MapKept.run_setObj_map _ hb, Result.andThen]; rfl, hC _, ⟨_, _, (heap_set hb).1, ?_⟩⟩
    rw [← q3 v]; simp [he]
  · have hj : ar[j]? = some e0 := by simpa using q3
    rw [Nat.zero_add] at q1
    refine ⟨_, by simp [Instr.mapUpdate, Go.run_underlying hu, MapKept.run_getObj_map hb, MapKept.run_checkKey hk (keyLaw s), MapKept.run_findKey hk q1, hj, q4, MapKept.run_keyThatStays (keyLaw s), MapKept.run_setObj_map _ hb, Result.andThen]; rfl, hC _, ⟨_, _, (heap_set hb).1, ?_⟩⟩
    have := q5 (fun e => { e with key := S s, val := v }) rfl
    simp only [Array.toList_modify] at this ⊢
    exact this
def zvB (P : Program) (e : TypeId) (z : Value) : Prop := ∃ i, P.info? e = some i ∧ i.zero = some z
theorem run_look {t e : TypeId} {b : Nat} {s : Bytes} {z : Value} {es : List (Bytes × Value)} {ok : Bool} (hB : mapB P t e) (hz : zvB P e z) (hm : MapAt w b es) :
    (Instr.lookup t (.map (some b)) (S s) ok).run P w = .ok (if ok then .tuple ⟨[(mget es s).getD z, .bool (mget es s).isSome]⟩ else (mget es s).getD z) w := by
  obtain ⟨kt, hu, hk⟩ := hB
  obtain ⟨ar, clock, hb, he⟩ := hm
  obtain ⟨i, hi, hzz⟩ := hz
  have hzv : (zeroValue e).run P w = .ok z w := by simp [zeroValue, typeInfo, go_sem, hi, hzz, Result.andThen]
  rcases findNow_mget ar.toList es 0 s he with ⟨q1, q2, _⟩ | ⟨j, e0, q1, q2, q3, q4, _⟩
  · cases ok <;> simp [Instr.lookup, Go.run_underlying hu, MapKept.run_getObj_map hb, MapKept.run_checkKey hk (keyLaw s), MapKept.run_findKey hk q2, hzv, q1, Result.andThen]
  · cases ok <;> simp [Instr.lookup, Go.run_underlying hu, MapKept.run_getObj_map hb, MapKept.run_checkKey hk (keyLaw s), MapKept.run_findKey hk q1, q2, Result.andThen]
theorem r_lookOk {t e : TypeId} {x y : Operand} {b : Nat} {s : Bytes} {z : Value} {es : List (Bytes × Value)} (hB : mapB P t e) (hz : zvB P e z) (hx : ev E x = .map (some b)) (hy : ev E y = S s) (hm : MapAt w b es) :
    (execOp (ev E) ⟨dst, .lookup t x y true, ty, pos, af, g⟩).run P w = .ok (.value (.tuple ⟨[(mget es s).getD z, .bool (mget es s).isSome]⟩)) w := by
  simp only [execOp, hx, hy, Sem.run_bind, run_look hB hz hm, Result.andThen, Sem.run_pure]; rfl
end rules
end Go.Proofs.YtncnalboiljgiaaGreat.K
namespace Go.Proofs.YtncnalboiljgiaaGreat.K
open Go
def andV (k : IntKind) (a b : Int) : Int := k.wrap (((BitVec.ofInt k.bits a &&& BitVec.ofInt k.bits b).toNat : Nat) : Int)
def shrV (k : IntKind) (a n : Int) : Int := a.fdiv (2 ^ (min n.toNat k.bits))
section rules
variable {P : Program} {r : Option Nat} {n : Nat} {O : Array Oper} {Q : Post} {l : List Oper} {E : Env} {ds : List Deferred} {w : World} {dst : Option Nat} {ty : TypeId} {pos : String} {af : Array Edge} {g : Option (Nat × Bool)}
variable {t t' : TypeId} {x y : Operand} {a b : Int} {k k' : IntKind}
theorem r_and (hx : ev E x = .int k a) (hy : ev E y = .int k b) : (execOp (ev E) ⟨dst, .binOp .and t x y t', ty, pos, af, g⟩).run P w = .ok (.value (.int k (andV k a b))) w := by simp [execOp, hx, hy, go_sem, eqGuard, binOp, Op.intBits, andV]
theorem st_and (hx : ev E x = .int k a) (hy : ev E y = .int k b) (h : wops P r n O Q l (updo E dst (.int k (andV k a b))) ds w) : wop P r n O Q ⟨dst, .binOp .and t x y t', ty, pos, af, g⟩ l E ds w := wop_run (fun _ => by simp) (r_and hx hy) h
theorem r_shr (hx : ev E x = .int k a) (hy : ev E y = .int k' b) (hb : 0 ≤ b) : (execOp (ev E) ⟨dst, .binOp .shr t x y t', ty, pos, af, g⟩).run P w = .ok (.value (.int k (shrV k a b))) w := by simp [execOp, hx, hy, go_sem, eqGuard, binOp, Op.shift, shrV, Int.not_lt.2 hb]
theorem st_shr (hx : ev E x = .int k a) (hy : ev E y = .int k' b) (hb : 0 ≤ b) (h : wops P r n O Q l (updo E dst (.int k (shrV k a b))) ds w) : wop P r n O Q ⟨dst, .binOp .shr t x y t', ty, pos, af, g⟩ l E ds w := wop_run (fun _ => by simp) (r_shr hx hy hb) h
variable {s u : Bytes}
theorem r_sgeq (hx : ev E x = S s) (hy : ev E y = S u) : (execOp (ev E) ⟨dst, .binOp .geq t x y t', ty, pos, af, g⟩).run P w = .ok (.value (.bool (!Op.bytesLess s u))) w := by
  simp only [S] at hx hy; simp [execOp, hx, hy, go_sem, eqGuard, binOp, Op.stringOp, toList_mk]
end rules
end Go.Proofs.YtncnalboiljgiaaGreat.K
namespace Go.Proofs.YtncnalboiljgiaaGreat.K
open Go
section rules
variable {P : Program} {r : Option Nat} {n : Nat} {O : Array Oper} {Q : Post} {l : List Oper} {E : Env} {ds : List Deferred} {w : World} {dst : Option Nat} {ty : TypeId} {pos : String} {af : Array Edge}
theorem en {K : Env → List Deferred → World → Prop} (h : K E ds w) : wops P r n O (thenP K Q) [] E ds w := wops_nil (then_n h)
theorem sr {id : Nat} {y : Code} (hok : l.all (okd n) = true) (h : wops P r n l.toArray (thenP (wp P r n y Q) Q) l E ds w) : wp P r n (.seq (.region id l.toArray false) y) Q E ds w := x_seq (x_region hok h)
theorem Wp {o : Oper} (hg : o.guard = none) (h : wop P r n O Q o l E ds w) : wops P r n O Q (o :: l) E ds w := w_plain hg h
theorem mv {x : Operand} {v : Value} (hx : ev E x = v) (h : wops P r n O Q l (updo E dst v) ds w) : wops P r n O Q (⟨dst, .move x, ty, pos, af, none⟩ :: l) E ds w := w_plain rfl (st_move hx h)
theorem mI {x : Operand} {k : IntKind} {a : Int} (hx : ev E x = .int k a) (h : wops P r n O Q l (updo E dst (.int k a)) ds w) : wops P r n O Q (⟨dst, .move x, ty, pos, af, none⟩ :: l) E ds w := mv hx h
theorem mB {x : Operand} {a : Bool} (hx : ev E x = .bool a) (h : wops P r n O Q l (updo E dst (.bool a)) ds w) : wops P r n O Q (⟨dst, .move x, ty, pos, af, none⟩ :: l) E ds w := mv hx h
theorem mS {x : Operand} {a : Bytes} (hx : ev E x = S a) (h : wops P r n O Q l (updo E dst (S a)) ds w) : wops P r n O Q (⟨dst, .move x, ty, pos, af, none⟩ :: l) E ds w := mv hx h
theorem mP {x : Operand} {a : Option Addr} (hx : ev E x = .pointer a) (h : wops P r n O Q l (updo E dst (.pointer a)) ds w) : wops P r n O Q (⟨dst, .move x, ty, pos, af, none⟩ :: l) E ds w := mv hx h
theorem mL {x : Operand} {a : Option Addr} {m c : Nat} (hx : ev E x = .slice a m c) (h : wops P r n O Q l (updo E dst (.slice a m c)) ds w) : wops P r n O Q (⟨dst, .move x, ty, pos, af, none⟩ :: l) E ds w := mv hx h
theorem av {x : Operand} {v : Value} (hx : ev E x = v) (h : wops P r n O Q l (updo E dst v) ds w) : wops P r n O Q (⟨dst, .assign x, ty, pos, af, none⟩ :: l) E ds w := w_plain rfl (st_assign hx h)
theorem aI {x : Operand} {k : IntKind} {a : Int} (hx : ev E x = .int k a) (h : wops P r n O Q l (updo E dst (.int k a)) ds w) : wops P r n O Q (⟨dst, .assign x, ty, pos, af, none⟩ :: l) E ds w := av hx h
theorem aB {x : Operand} {a : Bool} (hx : ev E x = .bool a) (h : wops P r n O Q l (updo E dst (.bool a)) ds w) : wops P r n O Q (⟨dst, .assign x, ty, pos, af, none⟩ :: l) E ds w := av hx h
theorem aS {x : Operand} {a : Bytes} (hx : ev E x = S a) (h : wops P r n O Q l (updo E dst (S a)) ds w) : wops P r n O Q (⟨dst, .assign x, ty, pos, af, none⟩ :: l) E ds w := av hx h
theorem aP {x : Operand} {a : Option Addr} (hx : ev E x = .pointer a) (h : wops P r n O Q l (updo E dst (.pointer a)) ds w) : wops P r n O Q (⟨dst, .assign x, ty, pos, af, none⟩ :: l) E ds w := av hx h
theorem aL {x : Operand} {a : Option Addr} {m c : Nat} (hx : ev E x = .slice a m c) (h : wops P r n O Q l (updo E dst (.slice a m c)) ds w) : wops P r n O Q (⟨dst, .assign x, ty, pos, af, none⟩ :: l) E ds w := av hx h
theorem pF {c x y : Operand} {a : Bool} (hc : ev E c = .bool false) (hv : (bif false then ev E x else ev E y) = .bool a) (h : wops P r n O Q l (updo E dst (.bool a)) ds w) : wops P r n O Q (⟨dst, .pick c x y, ty, pos, af, none⟩ :: l) E ds w := w_plain rfl (st_pick hc hv h)
theorem pT {c x y : Operand} {a : Bool} (hc : ev E c = .bool true) (hv : (bif true then ev E x else ev E y) = .bool a) (h : wops P r n O Q l (updo E dst (.bool a)) ds w) : wops P r n O Q (⟨dst, .pick c x y, ty, pos, af, none⟩ :: l) E ds w := w_plain rfl (st_pick hc hv h)
theorem fa {t : TypeId} {x : Operand} {f b off fo : Nat} (ht : fldB P t f fo = true) (hx : ev E x = .pointer (some ⟨b, off, none⟩)) (h : wops P r n O Q l (updo E dst (.pointer (some ⟨b, off + fo, none⟩))) ds w) : wops P r n O Q (⟨dst, .fieldAddr t x f, ty, pos, af, none⟩ :: l) E ds w := w_plain rfl (st_fieldAddr ht hx h)
theorem nc {x : Operand} {a : Addr} (hx : ev E x = .pointer (some a)) (h : wops P r n O Q l (updo E dst (.pointer (some a))) ds w) : wops P r n O Q (⟨dst, .nilCheck x, ty, pos, af, none⟩ :: l) E ds w := w_plain rfl (st_nilCheck hx h)
theorem lI {t : TypeId} {x : Operand} {b off : Nat} {k : IntKind} {a : Int} (ht : oneB P t = true) (hx : ev E x = .pointer (some ⟨b, off, none⟩)) (hc : w.cell? ⟨b, off, none⟩ = some (.int k a)) (h : wops P r n O Q l (updo E dst (.int k a)) ds w) : wops P r n O Q (⟨dst, .load t x, ty, pos, af, none⟩ :: l) E ds w := w_plain rfl (st_load1 ht hx hc h)
theorem lS {t : TypeId} {x : Operand} {b off : Nat} {a : Bytes} (ht : oneB P t = true) (hx : ev E x = .pointer (some ⟨b, off, none⟩)) (hc : w.cell? ⟨b, off, none⟩ = some (S a)) (h : wops P r n O Q l (updo E dst (S a)) ds w) : wops P r n O Q (⟨dst, .load t x, ty, pos, af, none⟩ :: l) E ds w := w_plain rfl (st_load1 ht hx hc h)
theorem lL {t : TypeId} {x : Operand} {b off : Nat} {a : Option Addr} {m c : Nat} (ht : oneB P t = true) (hx : ev E x = .pointer (some ⟨b, off, none⟩)) (hc : w.cell? ⟨b, off, none⟩ = some (.slice a m c)) (h : wops P r n O Q l (updo E dst (.slice a m c)) ds w) : wops P r n O Q (⟨dst, .load t x, ty, pos, af, none⟩ :: l) E ds w := w_plain rfl (st_load1 ht hx hc h)
end rules
theorem Sl.tN {α : Type} {c : Enc α} {w w' : World} {D : Nat → Prop} {A : Option Addr} {xs : List α} {b : Nat} (h : Sl c w D A xs) (hc : Chg [b] w w') (hb : ¬ D b) : Sl c w' D A xs := h.tr hc (fun k hk hD => hb ((List.mem_singleton.1 hk) ▸ hD))
theorem Own.tN {α : Type} {c : Enc α} {e : TypeId} {w w' : World} {D : Nat → Prop} {A : Option Addr} {cap : Nat} {xs : List α} {b : Nat} (h : Own c e w D A cap xs) (hc : Chg [b] w w') (hb : ¬ D b) : Own c e w' D A cap xs := h.tr hc (fun k hk hD => hb ((List.mem_singleton.1 hk) ▸ hD))
end Go.Proofs.YtncnalboiljgiaaGreat.K
namespace Go.Proofs.YtncnalboiljgiaaGreat.K
open Go
theorem q0 {p : Prop} (h : p := by omega) : p := h
theorem q1 {p : Prop} (h : p := by intro hx; simp only [List.mem_cons, List.mem_nil_iff, or_false] at hx; omega) : p := h
theorem q2 {p : Prop} (h : p := by intro k hx; simp only [List.mem_cons, List.mem_nil_iff, or_false] at hx; omega) : p := h
theorem q3 {p : Prop} (h : p := by intro k hx hD; simp only [List.mem_cons, List.mem_nil_iff, or_false] at hx; omega) : p := h
theorem q4 {p : Prop} (h : p := by intro x hx; simp only [List.mem_singleton] at hx; subst hx; exact .inl (by simp)) : p := h
theorem q5 {p : Prop} (h : p := by simp [Value.oneCell', S]) : p := h
theorem q6 {p : Prop} (h : p := by simp only [List.forall_mem_cons, List.not_mem_nil, false_imp_iff, implies_true, and_true]; exact rfl) : p := h
theorem q7 {p : Prop} (h : p := by simp only [List.length_append, List.length_cons, List.length_nil]; omega) : p := h
theorem q9 {p : Prop} (h : p := by repeat (first | exact agree_upds agree_over rfl | refine agree_upd ?_ rfl | refine agree_upds ?_ rfl | refine agree_over_sub ?_ rfl)) : p := h
theorem gB {w w' : World} {b : Nat} (e : b = w'.heap.size) (h : w.heap.size ≤ w'.heap.size) : w.heap.size ≤ b := by rw [e]; exact h
theorem nE {w : World} {b b0 : Nat} (e : b = w.heap.size) (h : b0 ≠ w.heap.size) : Hid (b0 ≠ b) := by rw [e]; exact h
theorem nF {w : World} {b b0 : Nat} (e : b = w.heap.size) (h : b0 ≠ w.heap.size) : b0 ≠ b := by rw [e]; exact h
section
variable {P : Program} {r : Option Nat} {n : Nat} {O : Array Oper} {Q : Post} {l : List Oper} {E : Env} {ds : List Deferred} {w : World} {dst : Option Nat} {ty : TypeId} {pos : String} {af : Array Edge} {g : Option (Nat × Bool)}
theorem st_st {t T : TypeId} {x y : Operand} {b off k : Nat} {v : Value} {vs cs : List Value} (ht : sizeB P t k = true) (hx : ev E x = .pointer (some ⟨b, off, none⟩)) (hy : ev E y = v) (hv : v.cells = ⟨vs⟩) (hb : Blk w b cs T)
    (h : ∀ w', Chg [b] w w' → Blk w' b (setVs cs off vs) T → wops P r n O Q l (updo E dst undef) ds w') (hk : vs.length = k := by rfl) (hl : off + vs.length ≤ cs.length := by exact Nat.le_of_ble_eq_true rfl) (h1 : ∀ u ∈ vs, u.oneCell' = true := by simp [Value.oneCell', S]) :
    wop P r n O Q ⟨dst, .store t x y, ty, pos, af, g⟩ l E ds w := st_store ht hx hy hv hb hk hl h1 rfl h
end
end Go.Proofs.YtncnalboiljgiaaGreat.K
