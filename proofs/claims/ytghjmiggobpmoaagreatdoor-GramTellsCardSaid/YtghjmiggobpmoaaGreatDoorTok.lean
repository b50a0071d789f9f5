import Derived.Test.YtghjmiggobpmoaaGreatDoorKitL
import Derived.Laws.Runes
import Derived.MapKept
import Derived.Test.YtghjmiggobpmoaaGreatDoorKitF
import Derived.RecoverIn
import Derived.WideLaws
set_option linter.unusedVariables false
set_option linter.unusedSimpArgs false
set_option autoImplicit false
namespace Go.Proofs.YtghjmiggobpmoaaGreatDoor.K
open Go Go.RowKit
variable {P : Program} {r : Option Nat} {n : Nat} {O : Array Oper} {Q : Post} {E : Env} {ds : List Deferred} {w : World} {l : List Oper}
variable {dst : Option Nat} {ty : TypeId} {pos : String} {af : Array Edge} {g : Option (Nat × Bool)}
theorem r_subk {t t' : TypeId} {x y : Operand} {a b c : Int} {k : IntKind} (hx : ev E x = .int k a) (hy : ev E y = .int k b) (hc : k.wrap (a - b) = c) :
    (execOp (ev E) ⟨dst, .binOp .sub t x y t', ty, pos, af, g⟩).run P w = .ok (.value (.int k c)) w := by rw [← hc]; exact r_sub hx hy
theorem st_subk {t t' : TypeId} {x y : Operand} {a b c : Int} {k : IntKind} (hx : ev E x = .int k a) (hy : ev E y = .int k b) (hc : k.wrap (a - b) = c) (h : wops P r n O Q l (updo E dst (.int k c)) ds w) : wop P r n O Q ⟨dst, .binOp .sub t x y t', ty, pos, af, g⟩ l E ds w := st_sub hx hy (by rw [hc]; exact h)
theorem st_convk {src t : TypeId} {x : Operand} {a c : Int} {k k' : IntKind} {u : TypeDesc} (hs : P.underlying src = some u) (ht : P.underlying t = some (.int k')) (hx : ev E x = .int k a) (hc : k'.wrap a = c) (h : wops P r n O Q l (updo E dst (.int k' c)) ds w) : wop P r n O Q ⟨dst, .convert src t x, ty, pos, af, g⟩ l E ds w := st_convInt hs ht hx (by rw [hc]; exact h)
theorem r_sslo {t : TypeId} {x y : Operand} {a : Bytes} {i : Nat} (ht : P.underlying t = some .string) (hx : ev E x = S a) (hlo : ∃ k, ev E y = .int k (i : Int)) (h1 : i ≤ a.length) :
    (execOp (ev E) ⟨dst, .slice t x (some y) none none, ty, pos, af, g⟩).run P w = .ok (.value (S (a.drop i))) w := by
  have := r_sslice (P := P) (w := w) (dst := dst) (ty := ty) (pos := pos) (af := af) (g := g) (lo := some y) (hi := none) (i := i) (j := a.length) ht hx hlo rfl h1 (Nat.le_refl _)
  rwa [List.take_length] at this
theorem st_sslo {t : TypeId} {x y : Operand} {a : Bytes} {i : Nat} (ht : P.underlying t = some .string) (hx : ev E x = S a) (hlo : ∃ k, ev E y = .int k (i : Int)) (h1 : i ≤ a.length) (h : wops P r n O Q l (updo E dst (S (a.drop i))) ds w) : wop P r n O Q ⟨dst, .slice t x (some y) none none, ty, pos, af, g⟩ l E ds w :=
  wop_run (fun _ => by simp) (r_sslo ht hx hlo h1) h
theorem r_sshi {t : TypeId} {x y : Operand} {a : Bytes} {j : Nat} (ht : P.underlying t = some .string) (hx : ev E x = S a) (hhi : ∃ k, ev E y = .int k (j : Int)) (h1 : j ≤ a.length) :
    (execOp (ev E) ⟨dst, .slice t x none (some y) none, ty, pos, af, g⟩).run P w = .ok (.value (S (a.take j))) w := by
  have := r_sslice (P := P) (w := w) (dst := dst) (ty := ty) (pos := pos) (af := af) (g := g) (lo := none) (hi := some y) (i := 0) (j := j) ht hx rfl hhi (Nat.zero_le _) h1
  rwa [List.drop_zero] at this
theorem st_sshi {t : TypeId} {x y : Operand} {a : Bytes} {j : Nat} (ht : P.underlying t = some .string) (hx : ev E x = S a) (hhi : ∃ k, ev E y = .int k (j : Int)) (h1 : j ≤ a.length) (h : wops P r n O Q l (updo E dst (S (a.take j))) ds w) : wop P r n O Q ⟨dst, .slice t x none (some y) none, ty, pos, af, g⟩ l E ds w :=
  wop_run (fun _ => by simp) (r_sshi ht hx hhi h1) h
def Hid (p : Prop) : Prop := p
theorem Kept.refl' {K : Nat → Prop} {A : World} : Kept K A A := ⟨Nat.le_refl _, fun _ _ _ => rfl⟩
theorem Kept.chg {K : Nat → Prop} {A B C : World} {bs : List Nat} (h : Kept K A B) (c : Chg bs B C) (hb : ∀ k, k ∈ bs → K k → A.heap.size ≤ k) : Kept K A C :=
  ⟨Nat.le_trans h.1 c.size, fun k hk hl => (c.block k (Nat.lt_of_lt_of_le hl h.1) fun hx => by have := hb k hx hk; omega).trans (h.2 k hk hl)⟩
theorem stepR_scope {P : Program} {b : Frame} {a : Act} {k : List Item} {cs : List Frame} {w : World} {c : Code} : step P (lone (b.atR a (.code (.scope c) :: k)) cs w) = .next (lone (b.atR a (.code c :: .inScope c :: k)) cs w) :=
  step_lone_go (by simp [stepG, stepG.exec, Frame.atR])
theorem stepR_inScope {P : Program} {b : Frame} {a : Act} {k : List Item} {cs : List Frame} {w : World} {c : Code} : step P (lone (b.atR a (.inScope c :: k)) cs w) = .next (lone (b.atR a k) cs w) :=
  step_lone_go (by simp [stepG, stepG.exec, Frame.atR])
def noGo (Q : Exit → Act → World → Prop) : Exit → Act → World → Prop
  | .goto _, _, _ => False
  | e, a, w => Q e a w
theorem wpIn_scope {F : Fence} {n : Nat} {P : Program} {Q : Exit → Act → World → Prop} {a : Act} {w : World} {c : Code} (h : c.wpIn F n P (noGo Q) a w) : (Code.scope c).wpIn F n P Q a w := by
  intro b k cs hro hb hr
  have h0 : (lone (b.atR a (.code (.scope c) :: k)) cs w).fenced P F := fenced_calm hb hr rfl
  obtain ⟨e, a₁, w₁, hq, harr⟩ := h b (.inScope c :: k) cs hro hb hr
  cases e with
  | normal => exact ⟨.normal, a₁, w₁, hq, .head h0 stepR_scope (StepsIn.trans harr (.one (fenced_calm hb hr rfl) stepR_inScope))⟩
  | exit id =>
    have hx : exitTo id (.inScope c :: k) = exitTo id k := by simp [exitTo]
    exact ⟨.exit id, a₁, w₁, hq, fun k' hk => .head h0 stepR_scope (harr.1 k' (by rw [hx]; exact hk)),
      fun hr' hk => let ⟨k₁, h1, h2⟩ := harr.2 hr' (by rw [hx]; exact hk); ⟨k₁, h1, .head h0 stepR_scope h2⟩⟩
  | goto l => exact hq.elim
  | ret => exact ⟨_, a₁, w₁, hq, .of_steps (.one h0 stepR_scope) harr⟩
  | panic ch => exact ⟨_, a₁, w₁, hq, .of_steps (.one h0 stepR_scope) harr⟩
  | outgrown => exact ⟨_, a₁, w₁, hq, .of_steps (.one h0 stepR_scope) harr⟩
def scopeP (Q : Post) : Post
  | .goto _, _, _, _ => False
  | e, E, ds, w => Q e E ds w
theorem scope_r {Q : Post} {E : Env} {ds : List Deferred} {w : World} (h : Q .ret E ds w) : scopeP Q .ret E ds w := h
theorem x_scope {P : Program} {r : Option Nat} {n : Nat} {Q : Post} {E : Env} {ds : List Deferred} {w : World} {c : Code} (h : wp P r n c (scopeP Q) E ds w) : wp P r n (.scope c) Q E ds w := by
  intro a h1 h2 h3
  refine wpIn_scope (wpIn_mono (h a h1 h2 h3) ?_)
  rintro e a' w' ⟨q1, q2⟩
  cases e with
  | goto l => exact q2.elim
  | normal => exact ⟨q1, q2⟩
  | exit i => exact ⟨q1, q2⟩
  | ret => exact ⟨q1, q2⟩
  | panic c => exact ⟨q1, q2⟩
  | outgrown => exact ⟨q1, q2⟩
end Go.Proofs.YtghjmiggobpmoaaGreatDoor.K
set_option linter.unusedVariables false
set_option linter.unusedSimpArgs false
set_option autoImplicit false
namespace Go.Proofs.YtghjmiggobpmoaaGreatDoor.K
open Go Go.RowKit
structure ChgP (M : Nat → Prop) (w w' : World) : Prop where
  os : w'.os = w.os
  tape : w'.tape = w.tape
  output : w'.output = w.output
  size : w.heap.size ≤ w'.heap.size
  block : ∀ k, k < w.heap.size → ¬ M k → w'.heap[k]? = w.heap[k]?
theorem ChgP.refl {M : Nat → Prop} (w : World) : ChgP M w w := ⟨rfl, rfl, rfl, Nat.le_refl _, fun _ _ _ => rfl⟩
theorem ChgP.chg {M : Nat → Prop} {bs : List Nat} {a b c : World} (h : ChgP M a b) (k : Chg bs b c) (hc : ∀ x, x ∈ bs → M x ∨ a.heap.size ≤ x) : ChgP M a c :=
  ⟨k.os.trans h.os, k.tape.trans h.tape, k.output.trans h.output, Nat.le_trans h.size k.size, fun i hi hb => by
    refine (k.block i (Nat.lt_of_lt_of_le hi h.size) fun hx => ?_).trans (h.block i hi hb)
    rcases hc i hx with h1 | h1
    · exact hb h1
    · omega⟩
theorem ChgP.trans {M M1 : Nat → Prop} {a b c : World} (h : ChgP M a b) (k : ChgP M1 b c) (hc : ∀ x, M1 x → M x ∨ a.heap.size ≤ x) : ChgP M a c :=
  ⟨k.os.trans h.os, k.tape.trans h.tape, k.output.trans h.output, Nat.le_trans h.size k.size, fun i hi hb => by
    refine (k.block i (Nat.lt_of_lt_of_le hi h.size) fun hx => ?_).trans (h.block i hi hb)
    rcases hc i hx with h1 | h1
    · exact hb h1
    · omega⟩
theorem ChgP.mono {M M1 : Nat → Prop} {a b : World} (h : ChgP M a b) (hm : ∀ x, M x → M1 x) : ChgP M1 a b := ⟨h.os, h.tape, h.output, h.size, fun i hi hb => h.block i hi fun hx => hb (hm i hx)⟩
theorem Blk.trP {M : Nat → Prop} {w w' : World} {b : Nat} {cs : List Value} {T : TypeId} (h : Blk w b cs T) (c : ChgP M w w') (hb : ¬ M b) : Blk w' b cs T := h.of_eq (c.block b h.lt hb)
theorem Sl.trP {M : Nat → Prop} {α : Type} {c : Enc α} {w w' : World} {D : Nat → Prop} {A : Option Addr} {xs : List α} (h : Sl c w D A xs) (k : ChgP M w w') (hb : ∀ x, D x → ¬ M x) : Sl c w' D A xs :=
  h.keep (fun i hi hD => k.block i hi (hb i hD)) k.size
theorem Own.trP {M : Nat → Prop} {α : Type} {c : Enc α} {e : TypeId} {w w' : World} {D : Nat → Prop} {A : Option Addr} {cap : Nat} {xs : List α} (h : Own c e w D A cap xs) (k : ChgP M w w') (hb : ∀ x, D x → ¬ M x) : Own c e w' D A cap xs :=
  h.keep (fun i hi hD => k.block i hi (hb i hD)) k.size
theorem Own.take {α : Type} {c : Enc α} {e : TypeId} {w : World} {D : Nat → Prop} {A : Option Addr} {cap : Nat} {xs : List α} {k : Nat} (h : Own c e w D A cap xs) (hk : k ≤ xs.length) : Own c e w D A cap (xs.take k) := by
  obtain ⟨cs, h1, h2, h3⟩ := h
  have hkm : k * c.sz ≤ xs.length * c.sz := Nat.mul_le_mul_right _ hk
  have hl : (xs.take k).length = k := by rw [List.length_take]; omega
  have hcl : (cs.take (k * c.sz)).length = k * c.sz := by rw [List.length_take, h3.1]; omega
  refine ⟨cs.take (k * c.sz), ⟨by rw [hl, hcl], ?_⟩, h2, ⟨by rw [hl, hcl], fun i x hx => ?_⟩⟩
  · rw [hl]
    rcases h1.2 with ⟨h4, h5⟩ | ⟨g, cp, cur, h4, h5, h6, h7, h8, h9, h10⟩
    · simp only [Value.slice.injEq] at h4; obtain ⟨rfl, _, rfl⟩ := h4
      obtain rfl : k = 0 := by omega
      exact .inl ⟨rfl, rfl⟩
    · simp only [Value.slice.injEq] at h4; obtain ⟨rfl, _, rfl⟩ := h4
      refine .inr ⟨g, _, cur, rfl, h5, h6, by omega, h8, h9, ?_⟩
      rw [← h10, List.take_take, Nat.min_eq_left hkm]
  · rw [List.getElem?_take] at hx
    split at hx
    · rename_i hik
      obtain ⟨vs, q1, q2⟩ := h3.2 i x hx
      refine ⟨vs, q1, fun j v hj => ?_⟩
      have hjs : j < c.sz := by rw [← c.len q1]; exact (List.getElem?_eq_some_iff.1 hj).1
      have hlt : i * c.sz + j < k * c.sz := by
        have := Nat.mul_le_mul_right c.sz (show i + 1 ≤ k from hik)
        rw [Nat.add_mul] at this; omega
      rw [List.getElem?_take, if_pos hlt]; exact q2 j v hj
    · cases hx
section
variable {P : Program} {r : Option Nat} {n : Nat} {O : Array Oper} {Q : Post} {E : Env} {ds : List Deferred} {w : World} {l : List Oper}
variable {dst : Option Nat} {ty : TypeId} {pos : String} {af : Array Edge} {g : Option (Nat × Bool)}
theorem r_callB {c : Call} {f : FuncId} {ags : List Value} {x : Operand} {rv : Array Value} (hcal : c.callee = .value x) (hf : ev E x = .func (.func f) rv #[]) (hent : ∀ args (w : World), (callFunc f args).run P w = .ok (.enter f args) w)
    (has : rv.toList ++ c.args.toList.map (ev E) = ags) : (execOp (ev E) ⟨dst, .call c, ty, pos, af, g⟩).run P w = .ok (.enter f ⟨ags⟩) w := by
  replace has : rv ++ (c.args.map (ev E)) = ⟨ags⟩ := Array.ext' (by simpa using has)
  simp [execOp, resolve, hcal, hf, Deferred.ofValue, invoke, go_sem, has, hent, Result.andThen]
end
end Go.Proofs.YtghjmiggobpmoaaGreatDoor.K
set_option linter.unusedVariables false
set_option linter.unusedSimpArgs false
set_option autoImplicit false
namespace Go.Proofs.YtghjmiggobpmoaaGreatDoor.K
open Go Go.RowKit
section
variable {P : Program} {r : Option Nat} {n : Nat} {O : Array Oper} {Q : Post} {E : Env} {ds : List Deferred} {w : World} {l : List Oper}
variable {dst : Option Nat} {ty : TypeId} {pos : String} {af : Array Edge} {g : Option (Nat × Bool)}
end
end Go.Proofs.YtghjmiggobpmoaaGreatDoor.K
set_option linter.unusedVariables false
set_option linter.unusedSimpArgs false
set_option autoImplicit false
namespace Go.Proofs.YtghjmiggobpmoaaGreatDoor.K
open Go Go.MapKept
def MapAt (w : World) (b : Nat) (es : List (Bytes × Value)) : Prop := ∃ ar clock, w.heap[b]? = some (.map ar clock) ∧ ar.toList.map (fun e => (e.key, e.val)) = es.map (fun x => (S x.1, x.2))
theorem MapAt.lt {w : World} {b : Nat} {es : List (Bytes × Value)} (h : MapAt w b es) : b < w.heap.size := by obtain ⟨_, _, h, _⟩ := h; exact (Array.getElem?_eq_some_iff.1 h).1
theorem MapAt.tr {w w' : World} {b : Nat} {es : List (Bytes × Value)} {bs : List Nat} (h : MapAt w b es) (hc : Chg bs w w') (hb : b ∉ bs) : MapAt w' b es := by
  have hl := h.lt; obtain ⟨ar, c, h1, h2⟩ := h; exact ⟨ar, c, (hc.block b hl hb).trans h1, h2⟩
theorem MapAt.tr0 {w w' : World} {b : Nat} {es : List (Bytes × Value)} (h : MapAt w b es) (hc : Chg [] w w') : MapAt w' b es := h.tr hc (by simp)
theorem MapAt.fresh {w : World} {b k : Nat} {es : List (Bytes × Value)} (h : MapAt w b es) (hk : w.heap.size ≤ k) : b ≠ k := by have := h.lt; omega
section rules
variable {P : Program} {r : Option Nat} {n : Nat} {O : Array Oper} {Q : Post} {l : List Oper} {E : Env} {ds : List Deferred} {w : World} {dst : Option Nat} {ty : TypeId} {pos : String} {af : Array Edge} {g : Option (Nat × Bool)}
end rules
end Go.Proofs.YtghjmiggobpmoaaGreatDoor.K
set_option linter.unusedVariables false
set_option linter.unusedSimpArgs false
set_option autoImplicit false
namespace Go.Proofs.YtghjmiggobpmoaaGreatDoor.K
open Go
section rules
variable {P : Program} {r : Option Nat} {n : Nat} {O : Array Oper} {Q : Post} {l : List Oper} {E : Env} {ds : List Deferred} {w : World} {dst : Option Nat} {ty : TypeId} {pos : String} {af : Array Edge} {g : Option (Nat × Bool)}
variable {t t' : TypeId} {x y : Operand} {a b : Int} {k k' : IntKind}
variable {s u : Bytes}
end rules
end Go.Proofs.YtghjmiggobpmoaaGreatDoor.K
set_option linter.unusedVariables false
set_option linter.unusedSimpArgs false
set_option autoImplicit false
namespace Go.Proofs.YtghjmiggobpmoaaGreatDoor.K
open Go
section rules
variable {P : Program} {r : Option Nat} {n : Nat} {O : Array Oper} {Q : Post} {l : List Oper} {E : Env} {ds : List Deferred} {w : World} {dst : Option Nat} {ty : TypeId} {pos : String} {af : Array Edge}
theorem en {K : Env → List Deferred → World → Prop} (h : K E ds w) : wops P r n O (thenP K Q) [] E ds w := wops_nil (then_n h)
theorem sr {id : Nat} {y : Code} (hok : l.all (okd n) = true) (h : wops P r n l.toArray (thenP (wp P r n y Q) Q) l E ds w) : wp P r n (.seq (.region id l.toArray false) y) Q E ds w := x_seq (x_region hok h)
theorem Wp {o : Oper} (hg : o.guard = none) (h : wop P r n O Q o l E ds w) : wops P r n O Q (o :: l) E ds w := w_plain hg h
theorem mv {x : Operand} {v : Value} (hx : ev E x = v) (h : wops P r n O Q l (updo E dst v) ds w) : wops P r n O Q (⟨dst, .move x, ty, pos, af, none⟩ :: l) E ds w := w_plain rfl (st_move hx h)
theorem mI {x : Operand} {k : IntKind} {a : Int} (hx : ev E x = .int k a) (h : wops P r n O Q l (updo E dst (.int k a)) ds w) : wops P r n O Q (⟨dst, .move x, ty, pos, af, none⟩ :: l) E ds w := mv hx h
theorem mB {x : Operand} {a : Bool} (hx : ev E x = .bool a) (h : wops P r n O Q l (updo E dst (.bool a)) ds w) : wops P r n O Q (⟨dst, .move x, ty, pos, af, none⟩ :: l) E ds w := mv hx h
theorem mS {x : Operand} {a : Bytes} (hx : ev E x = S a) (h : wops P r n O Q l (updo E dst (S a)) ds w) : wops P r n O Q (⟨dst, .move x, ty, pos, af, none⟩ :: l) E ds w := mv hx h
theorem mP {x : Operand} {a : Option Addr} (hx : ev E x = .pointer a) (h : wops P r n O Q l (updo E dst (.pointer a)) ds w) : wops P r n O Q (⟨dst, .move x, ty, pos, af, none⟩ :: l) E ds w := mv hx h
theorem mL {x : Operand} {a : Option Addr} {m c : Nat} (hx : ev E x = .slice a m c) (h : wops P r n O Q l (updo E dst (.slice a m c)) ds w) : wops P r n O Q (⟨dst, .move x, ty, pos, af, none⟩ :: l) E ds w := mv hx h
theorem av {x : Operand} {v : Value} (hx : ev E x = v) (h : wops P r n O Q l (updo E dst v) ds w) : wops P r n O Q (⟨dst, .assign x, ty, pos, af, none⟩ :: l) E ds w := w_plain rfl (st_assign hx h)
theorem aI {x : Operand} {k : IntKind} {a : Int} (hx : ev E x = .int k a) (h : wops P r n O Q l (updo E dst (.int k a)) ds w) : wops P r n O Q (⟨dst, .assign x, ty, pos, af, none⟩ :: l) E ds w := av hx h
theorem aB {x : Operand} {a : Bool} (hx : ev E x = .bool a) (h : wops P r n O Q l (updo E dst (.bool a)) ds w) : wops P r n O Q (⟨dst, .assign x, ty, pos, af, none⟩ :: l) E ds w := av hx h
theorem aS {x : Operand} {a : Bytes} (hx : ev E x = S a) (h : wops P r n O Q l (updo E dst (S a)) ds w) : wops P r n O Q (⟨dst, .assign x, ty, pos, af, none⟩ :: l) E ds w := av hx h
theorem aP {x : Operand} {a : Option Addr} (hx : ev E x = .pointer a) (h : wops P r n O Q l (updo E dst (.pointer a)) ds w) : wops P r n O Q (⟨dst, .assign x, ty, pos, af, none⟩ :: l) E ds w := av hx h
theorem aL {x : Operand} {a : Option Addr} {m c : Nat} (hx : ev E x = .slice a m c) (h : wops P r n O Q l (updo E dst (.slice a m c)) ds w) : wops P r n O Q (⟨dst, .assign x, ty, pos, af, none⟩ :: l) E ds w := av hx h
theorem pF {c x y : Operand} {a : Bool} (hc : ev E c = .bool false) (hv : (bif false then ev E x else ev E y) = .bool a) (h : wops P r n O Q l (updo E dst (.bool a)) ds w) : wops P r n O Q (⟨dst, .pick c x y, ty, pos, af, none⟩ :: l) E ds w := w_plain rfl (st_pick hc hv h)
theorem pT {c x y : Operand} {a : Bool} (hc : ev E c = .bool true) (hv : (bif true then ev E x else ev E y) = .bool a) (h : wops P r n O Q l (updo E dst (.bool a)) ds w) : wops P r n O Q (⟨dst, .pick c x y, ty, pos, af, none⟩ :: l) E ds w := w_plain rfl (st_pick hc hv h)
theorem fa {t : TypeId} {x : Operand} {f b off fo : Nat} (ht : fldB P t f fo = true) (hx : ev E x = .pointer (some ⟨b, off, none⟩)) (h : wops P r n O Q l (updo E dst (.pointer (some ⟨b, off + fo, none⟩))) ds w) : wops P r n O Q (⟨dst, .fieldAddr t x f, ty, pos, af, none⟩ :: l) E ds w := w_plain rfl (st_fieldAddr ht hx h)
theorem nc {x : Operand} {a : Addr} (hx : ev E x = .pointer (some a)) (h : wops P r n O Q l (updo E dst (.pointer (some a))) ds w) : wops P r n O Q (⟨dst, .nilCheck x, ty, pos, af, none⟩ :: l) E ds w := w_plain rfl (st_nilCheck hx h)
theorem lI {t : TypeId} {x : Operand} {b off : Nat} {k : IntKind} {a : Int} (ht : oneB P t = true) (hx : ev E x = .pointer (some ⟨b, off, none⟩)) (hc : w.cell? ⟨b, off, none⟩ = some (.int k a)) (h : wops P r n O Q l (updo E dst (.int k a)) ds w) : wops P r n O Q (⟨dst, .load t x, ty, pos, af, none⟩ :: l) E ds w := w_plain rfl (st_load1 ht hx hc h)
theorem lS {t : TypeId} {x : Operand} {b off : Nat} {a : Bytes} (ht : oneB P t = true) (hx : ev E x = .pointer (some ⟨b, off, none⟩)) (hc : w.cell? ⟨b, off, none⟩ = some (S a)) (h : wops P r n O Q l (updo E dst (S a)) ds w) : wops P r n O Q (⟨dst, .load t x, ty, pos, af, none⟩ :: l) E ds w := w_plain rfl (st_load1 ht hx hc h)
theorem lL {t : TypeId} {x : Operand} {b off : Nat} {a : Option Addr} {m c : Nat} (ht : oneB P t = true) (hx : ev E x = .pointer (some ⟨b, off, none⟩)) (hc : w.cell? ⟨b, off, none⟩ = some (.slice a m c)) (h : wops P r n O Q l (updo E dst (.slice a m c)) ds w) : wops P r n O Q (⟨dst, .load t x, ty, pos, af, none⟩ :: l) E ds w := w_plain rfl (st_load1 ht hx hc h)
end rules
theorem ChgP.cB {D : Nat → Prop} {x : Nat} {a b c : World} (h : ChgP (fun k => D k ∨ k = x) a b) (k : Chg [x] b c) : ChgP (fun k => D k ∨ k = x) a c := h.chg k (fun y hy => by obtain rfl := List.mem_singleton.1 hy; exact .inl (.inr rfl))
theorem Sl.tN {α : Type} {c : Enc α} {w w' : World} {D : Nat → Prop} {A : Option Addr} {xs : List α} {b : Nat} (h : Sl c w D A xs) (hc : Chg [b] w w') (hb : ¬ D b) : Sl c w' D A xs := h.tr hc (fun k hk hD => hb ((List.mem_singleton.1 hk) ▸ hD))
theorem Own.tN {α : Type} {c : Enc α} {e : TypeId} {w w' : World} {D : Nat → Prop} {A : Option Addr} {cap : Nat} {xs : List α} {b : Nat} (h : Own c e w D A cap xs) (hc : Chg [b] w w') (hb : ¬ D b) : Own c e w' D A cap xs := h.tr hc (fun k hk hD => hb ((List.mem_singleton.1 hk) ▸ hD))
end Go.Proofs.YtghjmiggobpmoaaGreatDoor.K
set_option linter.unusedVariables false
set_option autoImplicit false
namespace Go.Proofs.YtghjmiggobpmoaaGreatDoor.K
open Go
theorem q0 {p : Prop} (h : p := by omega) : p := h
theorem q1 {p : Prop} (h : p := by intro hx; simp only [List.mem_cons, List.mem_nil_iff, or_false] at hx; omega) : p := h
theorem q2 {p : Prop} (h : p := by intro k hx; simp only [List.mem_cons, List.mem_nil_iff, or_false] at hx; omega) : p := h
theorem q3 {p : Prop} (h : p := by intro k hx hD; simp only [List.mem_cons, List.mem_nil_iff, or_false] at hx; omega) : p := h
theorem q4 {p : Prop} (h : p := by intro x hx; simp only [List.mem_singleton] at hx; subst hx; exact .inl (by simp)) : p := h
theorem q5 {p : Prop} (h : p := by simp [Value.oneCell', S]) : p := h
theorem q6 {p : Prop} (h : p := by simp only [List.forall_mem_cons, List.not_mem_nil, false_imp_iff, implies_true, and_true]; exact rfl) : p := h
theorem q7 {p : Prop} (h : p := by simp only [List.length_append, List.length_cons, List.length_nil]; omega) : p := h
theorem q8 {p : Prop} (h : p := by intro k hx; cases hx) : p := h
theorem q9 {p : Prop} (h : p := by repeat (first | exact agree_upds agree_over rfl | refine agree_upd ?_ rfl | refine agree_upds ?_ rfl | refine agree_over_sub ?_ rfl)) : p := h
theorem gB {w w' : World} {b : Nat} (e : b = w'.heap.size) (h : w.heap.size ≤ w'.heap.size) : w.heap.size ≤ b := by rw [e]; exact h
theorem nE {w : World} {b b0 : Nat} (e : b = w.heap.size) (h : b0 ≠ w.heap.size) : Hid (b0 ≠ b) := by rw [e]; exact h
theorem nF {w : World} {b b0 : Nat} (e : b = w.heap.size) (h : b0 ≠ w.heap.size) : b0 ≠ b := by rw [e]; exact h
section
variable {P : Program} {r : Option Nat} {n : Nat} {O : Array Oper} {Q : Post} {l : List Oper} {E : Env} {ds : List Deferred} {w : World} {dst : Option Nat} {ty : TypeId} {pos : String} {af : Array Edge} {g : Option (Nat × Bool)}
theorem st_st {t T : TypeId} {x y : Operand} {b off k : Nat} {v : Value} {vs cs : List Value} (ht : sizeB P t k = true) (hx : ev E x = .pointer (some ⟨b, off, none⟩)) (hy : ev E y = v) (hv : v.cells = ⟨vs⟩) (hb : Blk w b cs T)
    (h : ∀ w', Chg [b] w w' → Blk w' b (setVs cs off vs) T → wops P r n O Q l (updo E dst undef) ds w') (hk : vs.length = k := by rfl) (hl : off + vs.length ≤ cs.length := by exact Nat.le_of_ble_eq_true rfl) (h1 : ∀ u ∈ vs, u.oneCell' = true := by simp [Value.oneCell', S]) :
    wop P r n O Q ⟨dst, .store t x y, ty, pos, af, g⟩ l E ds w := st_store ht hx hy hv hb hk hl h1 rfl h
end
end Go.Proofs.YtghjmiggobpmoaaGreatDoor.K
set_option linter.unusedVariables false
set_option linter.unusedSimpArgs false
set_option autoImplicit false
namespace Go.Proofs.YtghjmiggobpmoaaGreatDoor.K
open Go Go.RowKit
variable {P : Program} {r : Option Nat} {n : Nat} {O : Array Oper} {Q : Post} {E : Env} {ds : List Deferred} {w : World} {l : List Oper}

def pn (v : Value) : List PanicEntry := [{ v := v, recovered := false }]
def endP (Φ Ψ : Value → World → Prop) (e : Ending) (w : World) : Prop := (∃ v, e = .returned v ∧ Φ v w) ∨ ∃ v, e = .panicked (pn v) ∧ Ψ v w
def CallP (P : Program) (f : FuncId) (args : Array Value) (w : World) (Φ Ψ : Value → World → Prop) : Prop := Calls P f args w (endP Φ Ψ)
theorem CallP.mono {f : FuncId} {args : Array Value} {Φ Ψ Φ' Ψ' : Value → World → Prop} (h : CallP P f args w Φ Ψ) (h1 : ∀ v w', Φ v w' → Φ' v w') (h2 : ∀ v w', Ψ v w' → Ψ' v w') : CallP P f args w Φ' Ψ' :=
  Calls.mono h fun e w' he => he.elim (fun ⟨v, e1, q⟩ => .inl ⟨v, e1, h1 _ _ q⟩) (fun ⟨v, e1, q⟩ => .inr ⟨v, e1, h2 _ _ q⟩)
theorem then_p {K : Env → List Deferred → World → Prop} {c : List PanicEntry} (h : Q (.panic c) E ds w) : thenP K Q (.panic c) E ds w := h
theorem block_p {i : Nat} {c : List PanicEntry} (h : Q (.panic c) E ds w) : blockP i Q (.panic c) E ds w := h
section
variable {dst : Option Nat} {ty : TypeId} {pos : String} {af : Array Edge} {g : Option (Nat × Bool)}
theorem wop_enterP {o : Oper} {f : FuncId} {args : Array Value} {w1 : World} {Φ Ψ : Value → World → Prop} (hd : ∀ c, o.op ≠ .defer c) (hrun : (execOp (ev E) o).run P w = .ok (.enter f args) w1)
    (hc : CallP P f args w1 Φ Ψ) (hp : ∀ v w', Ψ v w' → Q (.panic (pn v)) E ds w') (h : ∀ v w', Φ v w' → wops P r n O Q l (updo E o.dst v) ds w') : wop P r n O Q o l E ds w := by
  intro hok hl a h1 h2 h3
  refine ⟨fun _ _ => trivial, ?_⟩
  rw [ev_env, h2, Oper.semAt_eq _ _ _ hd, hrun]
  refine ⟨fun hh => by simp [WF, Fence.wide] at hh, CallsIn.mono (callsIn_of_calls hc) ?_⟩
  rintro e w' (⟨v, rfl, hv⟩ | ⟨v, rfl, hv⟩)
  · refine h v w' hv hl _ (by rw [put_size]; exact h1) ?_ (by rw [put_defers]; exact h3)
    rw [env_puto _ _ _ (fun k hk' => by simp only [okd, hk'] at hok; rw [h1]; simpa [Nat.blt_eq] using hok), h2]
  · exact ⟨h1, by rw [h2, h3]; exact hp v w' hv⟩
theorem st_callP {c : Call} {f : FuncId} {ags : List Value} {Φ Ψ : Value → World → Prop} {x : Operand} {cap : Array Value} (hcal : c.callee = .value x) (hf : ev E x = .func (.func f) #[] cap) (hent : ∀ args (w : World), (callFunc f args).run P w = .ok (.enter f args) w)
    (has : c.args.toList.map (ev E) ++ cap.toList = ags) (hc : CallP P f ⟨ags⟩ w Φ Ψ) (hp : ∀ v w', Ψ v w' → Q (.panic (pn v)) E ds w') (h : ∀ v w', Φ v w' → wops P r n O Q l (updo E dst v) ds w') : wop P r n O Q ⟨dst, .call c, ty, pos, af, g⟩ l E ds w :=
  wop_enterP (fun _ => by simp) (r_call hcal hf hent has) hc hp h
theorem r_makeIface {xt : TypeId} {x : Operand} {u : TypeDesc} {v : Value} (hu : P.underlying xt = some u) (hi : (match u with | .interface _ => false | _ => true) = true) (hx : ev E x = v) :
    (execOp (ev E) ⟨dst, .makeInterface xt x, ty, pos, af, g⟩).run P w = .ok (.value (.iface xt v)) w := by
  cases u <;> simp_all [execOp, Instr.makeInterface, underlying, go_sem]
theorem st_makeIface {xt : TypeId} {x : Operand} {u : TypeDesc} {v : Value} (hu : P.underlying xt = some u) (hi : (match u with | .interface _ => false | _ => true) = true) (hx : ev E x = v)
    (h : wops P r n O Q l (updo E dst (.iface xt v)) ds w) : wop P r n O Q ⟨dst, .makeInterface xt x, ty, pos, af, g⟩ l E ds w := wop_run (fun _ => by simp) (r_makeIface hu hi hx) h
theorem st_panic {x : Operand} {t : TypeId} {v : Value} (hx : ev E x = .iface t v) (h : Q (.panic (pn (.iface t v))) E ds w) : wop P r n O Q ⟨dst, .panic x, ty, pos, af, g⟩ l E ds w := by
  intro hok hl a h1 h2 h3
  refine ⟨fun _ _ => trivial, ?_⟩
  rw [ev_env, h2, Oper.semAt_eq _ _ _ (fun _ => by simp)]
  have hrun : (execOp (ev E) ⟨dst, .panic x, ty, pos, af, g⟩).run P w = .halt (.panic (.iface t v)) w := by
    simp only [execOp, hx, Sem.run_bind, run_panic_iface, Result.andThen]
  rw [hrun]
  exact ⟨h1, by rw [h2, h3]; exact h⟩
theorem st_defer {c : Call} {f : FuncId} {ags : List Value} {x : Operand} {cap : Array Value} (hcal : c.callee = .value x) (hf : ev E x = .func (.func f) #[] cap) (has : c.args.toList.map (ev E) = ags)
    (h : wops P none n O Q l (updo E dst undef) ({ target := .fn (.func f) cap, args := ⟨ags⟩ } :: ds) w) : wop P none n O Q ⟨dst, .defer c, ty, pos, af, g⟩ l E ds w := by
  intro hok hl a h1 h2 h3
  refine ⟨fun _ _ => trivial, ?_⟩
  have hrun : (execOp (ev E) ⟨dst, .defer c, ty, pos, af, g⟩).run P w = .ok (.defer { target := .fn (.func f) cap, args := ⟨ags⟩ }) w := by
    replace has : c.args.map (ev E) = ⟨ags⟩ := Array.ext' (by simpa using has)
    simp only [execOp, resolve, hcal, hf, Deferred.ofValue, has, Sem.run_bind, Sem.run_pure, Result.andThen, Array.empty_append]
  rw [ev_env, h2, show (WF none).round = none from rfl, Oper.semAt_none, hrun]
  refine h hl _ (by rw [put_size]; exact h1) ?_ (by rw [put_defers, h3])
  rw [env_puto _ _ _ (fun k hk' => by show k < a.tmps.size; rw [h1]; exact okd_lt hok hk')]
  show updo (env a) _ _ = _
  rw [h2]
theorem r_assert {x : Operand} {xt at_ t : TypeId} {v : Value} {u : TypeDesc} (hu : P.underlying at_ = some u) (hi : (match u with | .interface _ => false | _ => true) = true) (hx : ev E x = .iface t v) (ht : t = at_) :
    (execOp (ev E) ⟨dst, .typeAssert x xt at_ true, ty, pos, af, g⟩).run P w = .ok (.value (.tuple ⟨[v, .bool true]⟩)) w := by
  cases u <;> simp_all [execOp, Instr.typeAssert, underlying, go_sem]
theorem st_assert {x : Operand} {xt at_ t : TypeId} {v : Value} {u : TypeDesc} (hu : P.underlying at_ = some u) (hi : (match u with | .interface _ => false | _ => true) = true) (hx : ev E x = .iface t v) (ht : t = at_)
    (h : wops P r n O Q l (updo E dst (.tuple ⟨[v, .bool true]⟩)) ds w) : wop P r n O Q ⟨dst, .typeAssert x xt at_ true, ty, pos, af, g⟩ l E ds w := wop_run (fun _ => by simp) (r_assert hu hi hx ht) h
end

def retPP (P : Program) (fn : Func) (Φ Ψ : Value → World → Prop) : Post
  | .normal, E, ds, w => retP P fn Φ .normal E ds w
  | .ret, E, ds, w => retP P fn Φ .ret E ds w
  | .exit _, _, _, _ => False
  | .goto _, _, _, _ => False
  | .panic c, _, ds, w => ds = [] ∧ ∃ v, c = pn v ∧ Ψ v w
  | .outgrown, _, _, _ => False
theorem pp_ret {fn : Func} {Φ Ψ : Value → World → Prop} (h : retP P fn Φ .ret E ds w) : retPP P fn Φ Ψ .ret E ds w := h
theorem pp_n {fn : Func} {Φ Ψ : Value → World → Prop} (h : retP P fn Φ .normal E ds w) : retPP P fn Φ Ψ .normal E ds w := h
theorem pp_panic {fn : Func} {Φ Ψ : Value → World → Prop} {v : Value} (h : Ψ v w) : retPP P fn Φ Ψ (.panic (pn v)) E [] w := ⟨rfl, v, rfl, h⟩
theorem args_env (args : List Value) (m : Nat) : env { tmps := args.toArray ++ Array.replicate (m - args.toArray.size) undef, defers := [] } = argEnv args := by
  funext i
  simp only [env, argEnv, Array.getD_eq_getD_getElem?, List.getD_eq_getElem?_getD, List.size_toArray]
  by_cases hi : i < args.length
  · rw [Array.getElem?_append_left (by simpa using hi)]; simp
  · rw [Array.getElem?_append_right (by simpa using hi)]
    rw [List.getElem?_eq_none (by omega)]
    simp only [Array.getElem?_replicate, List.size_toArray]
    split <;> rfl
theorem callP_of_wp {f : FuncId} {fn : Func} {c : Code} {args : List Value} {Φ Ψ : Value → World → Prop} (hf : P.funcs[f]? = some fn) (hb : fn.body = some c) (hn : args.length ≤ fn.ntmps)
    (h : wp P none fn.ntmps c (retPP P fn Φ Ψ) (argEnv args) [] w) : CallP P f args.toArray w Φ Ψ := by
  refine callsIn_wide.1 (callsIn_of_wp (n := 0) hf hb trivial ?_)
  refine wpIn_mono (h _ (by simp; omega) (args_env _ _) rfl) ?_
  rintro e a' w' ⟨q1, q2⟩
  cases e with
  | normal => obtain ⟨hd, q⟩ := q2; obtain ⟨v, hv, hΦ⟩ := q a' rfl; exact ⟨hd, v, hv, .inl ⟨v, rfl, hΦ⟩⟩
  | ret => obtain ⟨hd, q⟩ := q2; obtain ⟨v, hv, hΦ⟩ := q a' rfl; exact ⟨hd, v, hv, .inl ⟨v, rfl, hΦ⟩⟩
  | panic c => obtain ⟨hd, v, rfl, hΨ⟩ := q2; exact ⟨hd, .inr ⟨v, rfl, hΨ⟩⟩
  | exit i => exact q2.elim
  | goto i => exact q2.elim
  | outgrown => exact q2.elim

def retD (P : Program) (fn : Func) (R : Ending → World → Prop) : Post
  | .normal, E, ds, w => ∀ a : Act, env a = E → LeavesInM Fence.wide 0 P fn a.tmps R ds .returning w
  | .ret, E, ds, w => ∀ a : Act, env a = E → LeavesInM Fence.wide 0 P fn a.tmps R ds .returning w
  | .exit _, _, _, _ => False
  | .goto _, _, _, _ => False
  | .panic c, E, ds, w => ∀ a : Act, env a = E → LeavesInM Fence.wide 0 P fn a.tmps R ds (.panicking c) w
  | .outgrown, _, _, _ => False
theorem calls_of_wpD {f : FuncId} {fn : Func} {c : Code} {args : List Value} {R : Ending → World → Prop} (hf : P.funcs[f]? = some fn) (hb : fn.body = some c) (hn : args.length ≤ fn.ntmps)
    (h : wp P none fn.ntmps c (retD P fn R) (argEnv args) [] w) : Calls P f args.toArray w R := by
  refine callsIn_wide.1 (callsIn_of_wp_marks (n := 0) hf hb trivial ?_)
  refine wpIn_mono (h _ (by simp; omega) (args_env _ _) rfl) ?_
  rintro e a' w' ⟨q1, q2⟩
  cases e with
  | normal => exact q2 a' rfl
  | ret => exact q2 a' rfl
  | panic c => exact q2 a' rfl
  | exit i => exact q2.elim
  | goto i => exact q2.elim
  | outgrown => exact q2.elim
theorem callR_of_wpD {f : FuncId} {fn : Func} {c : Code} {args : List Value} {Φ : Value → World → Prop} (hf : P.funcs[f]? = some fn) (hb : fn.body = some c) (hn : args.length ≤ fn.ntmps)
    (h : wp P none fn.ntmps c (retD P fn fun e w' => ∃ v, e = .returned v ∧ Φ v w') (argEnv args) [] w) : CallR P f args.toArray w Φ := calls_of_wpD hf hb hn h
theorem d_ret0 {fn : Func} {Φ : Value → World → Prop} (h : retP P fn Φ .ret E [] w) : retD P fn (fun e w' => ∃ v, e = .returned v ∧ Φ v w') .ret E [] w := fun a ha =>
  let ⟨v, h1, h2⟩ := h.2 a ha; ⟨v, h1, v, rfl, h2⟩
def LeftR (P : Program) (fn : Func) (Φ : Value → World → Prop) (E : Env) (e : Ending) (u : FrameMode) (w : World) : Prop := (∃ v, e = .returned v) ∧ settle u = .returning ∧ retP P fn Φ .ret E [] w
theorem d_leave {fn : Func} {Φ : Value → World → Prop} {f : FuncId} {cap args : Array Value} {u : FrameMode} {a : Act} (hu : u ≠ .run) (ha : env a = E) (hent : ∀ args (w : World), (callFunc f args).run P w = .ok (.enter f args) w)
    (hc : CallsDIn Fence.wide 0 P f (args ++ cap) u w (LeftR P fn Φ E)) : LeavesInM Fence.wide 0 P fn a.tmps (fun e w' => ∃ v, e = .returned v ∧ Φ v w') [{ target := .fn (.func f) cap, args := args }] u w := by
  refine ⟨hu, .inr ⟨fun hh => by simp [Fence.wide] at hh, .func f, cap, f, args ++ cap, rfl, by simp [invoke, hent], fun _ _ => trivial, ?_⟩⟩
  refine CallsDIn.mono hc ?_
  rintro e u' w' ⟨⟨v, rfl⟩, h2, h3⟩
  show LeavesIn Fence.wide 0 P fn a.tmps _ [] (settle u') w'
  rw [h2]
  obtain ⟨v, h4, h5⟩ := h3.2 a ha
  exact ⟨v, h4, v, rfl, h5⟩
theorem d_ret {fn : Func} {Φ : Value → World → Prop} {f : FuncId} {cap args xs : Array Value} (hent : ∀ args (w : World), (callFunc f args).run P w = .ok (.enter f args) w) (hx : args ++ cap = xs)
    (hc : CallsDIn Fence.wide 0 P f xs .returning w (LeftR P fn Φ E)) : retD P fn (fun e w' => ∃ v, e = .returned v ∧ Φ v w') .ret E [{ target := .fn (.func f) cap, args := args }] w := fun a ha => d_leave (by simp) ha hent (by rw [hx]; exact hc)
theorem d_panic {fn : Func} {Φ : Value → World → Prop} {f : FuncId} {cap args xs : Array Value} {c : List PanicEntry} (hent : ∀ args (w : World), (callFunc f args).run P w = .ok (.enter f args) w) (hx : args ++ cap = xs)
    (hc : CallsDIn Fence.wide 0 P f xs (.panicking c) w (LeftR P fn Φ E)) : retD P fn (fun e w' => ∃ v, e = .returned v ∧ Φ v w') (.panic c) E [{ target := .fn (.func f) cap, args := args }] w := fun a ha => d_leave (by simp) ha hent (by rw [hx]; exact hc)

section
variable {dst : Option Nat} {ty : TypeId} {pos : String} {af : Array Edge} {g : Option (Nat × Bool)}
theorem r_ineq {t t' : TypeId} {x : Operand} {vt : TypeId} {v : Value} (hB : P.underlying t = some (.interface (P.methodsAt t))) (hx : ev E x = .iface vt v) :
    (execOp (ev E) ⟨dst, .binOp .neq t x (.const .nilIface) t', ty, pos, af, g⟩).run P w = .ok (.value (.bool true)) w := by
  have := run_equal_held_nil (P := P) (w := w) t vt v hB
  have hc : ev E (.const .nilIface) = .nilIface := rfl
  simp [execOp, hx, hc, go_sem, eqGuard, binOp, this, Result.andThen]
theorem st_ineq {t t' : TypeId} {x : Operand} {vt : TypeId} {v : Value} (hB : P.underlying t = some (.interface (P.methodsAt t))) (hx : ev E x = .iface vt v) (h : wops P r n O Q l (updo E dst (.bool true)) ds w) : wop P r n O Q ⟨dst, .binOp .neq t x (.const .nilIface) t', ty, pos, af, g⟩ l E ds w :=
  wop_run (fun _ => by simp) (r_ineq hB hx) h
theorem r_ineq0 {t t' : TypeId} {x : Operand} (hB : P.underlying t = some (.interface (P.methodsAt t))) (hx : ev E x = .nilIface) :
    (execOp (ev E) ⟨dst, .binOp .neq t x (.const .nilIface) t', ty, pos, af, g⟩).run P w = .ok (.value (.bool false)) w := by
  have := run_equal_nil_nil (P := P) (w := w) t hB
  have hc : ev E (.const .nilIface) = .nilIface := rfl
  simp [execOp, hx, hc, go_sem, eqGuard, binOp, this, Result.andThen]
theorem st_ineq0 {t t' : TypeId} {x : Operand} (hB : P.underlying t = some (.interface (P.methodsAt t))) (hx : ev E x = .nilIface) (h : wops P r n O Q l (updo E dst (.bool false)) ds w) : wop P r n O Q ⟨dst, .binOp .neq t x (.const .nilIface) t', ty, pos, af, g⟩ l E ds w :=
  wop_run (fun _ => by simp) (r_ineq0 hB hx) h
end
def Recov (u : FrameMode) (rv : Value) (u' : FrameMode) : Prop := (u = .returning ∧ rv = .nilIface ∧ u' = .returning) ∨ ∃ v, u = .panicking (pn v) ∧ rv = v ∧ u' = .panicking [{ v := v, recovered := true }]
theorem callsD_recover {f : FuncId} {fn : Func} {id d d2 : Nat} {o0 o1 : Oper} {cts : Array TypeId} {c2 : Code} {args : List Value} {u u' : FrameMode} {rv : Value} {Φ : Value → World → Prop} (hf : P.funcs[f]? = some fn) (hb : fn.body = some (.seq (.region id #[o0, o1] false) c2))
    (h0 : o0.op = .call { callee := .builtin .recover, args := #[], argTypes := cts } ∧ o0.guard = none ∧ o0.dst = some d) (h1 : o1.op = .assign (.tmp d) ∧ o1.guard = none ∧ o1.dst = some d2) (hd : Nat.blt d fn.ntmps = true ∧ Nat.blt d2 fn.ntmps = true) (hn : args.length ≤ fn.ntmps)
    (hu : Recov u rv u') (h : wp P none fn.ntmps c2 (retP P fn Φ) (upd (upd (argEnv args) d rv) d2 rv) [] w) :
    CallsDIn Fence.wide 0 P f args.toArray u w fun e u2 w' => (∃ v, e = .returned v ∧ Φ v w') ∧ u2 = u' := by
  refine callsDIn_of_wpSIn hf hb trivial fun c₀ cs hc => ?_
  apply wpSIn_seq
  apply wpSIn_region
  have hs : (#[o0, o1] : Array Oper).size = 2 := rfl
  rw [hs, show List.range 2 = [0, 1] from rfl]
  have hd1 : d < fn.ntmps := by simpa [Nat.blt_eq] using hd.1
  have hd2 : d2 < fn.ntmps := by simpa [Nat.blt_eq] using hd.2
  generalize hA : ({ tmps := args.toArray ++ Array.replicate (fn.ntmps - args.toArray.size) undef, defers := [] } : Act) = a
  have ha1 : a.tmps.size = fn.ntmps := by subst hA; simp; omega
  have ha2 : env a = argEnv args := by subst hA; exact args_env _ _
  have ha3 : a.defers = [] := by subst hA; rfl
  have e0 : ∀ a : Act, (execOp a.eval o0).run P w = .ok .recover w := fun a => by simp [execOp, h0.1, resolve, invoke, builtin, go_sem, Result.andThen]
  have w0 : ∀ a : Act, Region.wanted o0 (yielded #[o0, o1] a.tmps) = true := fun a => by simp [Region.wanted, h0.2.1]
  have w1 : ∀ a : Act, Region.wanted o1 (yielded #[o0, o1] a.tmps) = true := fun a => by simp [Region.wanted, h1.2.1]
  have key : ∀ cs' : List Frame, (∃ c₁ : Frame, cs' = { c₀ with mode := u' } :: cs) → wpOpsSIn Fence.wide 0 P #[o0, o1] (Exit.thenS (c2.wpSIn Fence.wide 0 P (bodyPostS P fn c₀ cs fun e u2 w' => (∃ v, e = .returned v ∧ Φ v w') ∧ u2 = u')) (bodyPostS P fn c₀ cs fun e u2 w' => (∃ v, e = .returned v ∧ Φ v w') ∧ u2 = u')) [1] (a.put o0.dst rv) cs' w := by
    rintro cs' ⟨_, rfl⟩
    have e1 : (execOp (a.put o0.dst rv).eval o1).run P w = .ok (.value rv) w := by
      have : (a.put o0.dst rv).eval (.tmp d) = rv := by
        rw [ev_env, h0.2.2, env_put _ _ _ (by rw [ha1]; exact hd1)]; exact upd_same _ _ _
      have hx : execOp (a.put o0.dst rv).eval o1 = pure (.value ((a.put o0.dst rv).eval (.tmp d))) := by simp only [execOp, h1.1]
      rw [hx, this]; rfl
    simp only [wpOpsSIn, show (#[o0, o1] : Array Oper)[1]? = some o1 from rfl, w1, if_true, e1]
    refine ⟨fun _ _ => trivial, ?_⟩
    show c2.wpSIn Fence.wide 0 P _ _ _ _
    refine wpSIn_of_wpIn rfl (wpIn_mono (h _ (by rw [put_size, put_size]; exact ha1) ?_ (by rw [put_defers, put_defers]; exact ha3)) ?_)
    · rw [h1.2.2, env_put _ _ _ (by rw [put_size, ha1]; exact hd2), h0.2.2, env_put _ _ _ (by rw [ha1]; exact hd1), ha2]
    · rintro e a' w' ⟨q1, q2⟩
      cases e with
      | normal => obtain ⟨hd, q⟩ := q2; obtain ⟨v, hv, hΦ⟩ := q a' rfl; exact ⟨hd, u', rfl, v, hv, ⟨v, rfl, hΦ⟩, rfl⟩
      | ret => obtain ⟨hd, q⟩ := q2; obtain ⟨v, hv, hΦ⟩ := q a' rfl; exact ⟨hd, u', rfl, v, hv, ⟨v, rfl, hΦ⟩, rfl⟩
      | panic c => exact q2.elim
      | exit i => exact q2.elim
      | goto i => exact q2.elim
      | outgrown => exact q2.elim
  rw [wpOpsSIn]
  simp only [show (#[o0, o1] : Array Oper)[0]? = some o0 from rfl, w0, if_true, e0]
  refine ⟨fun _ _ => trivial, ?_⟩
  rcases hu with ⟨rfl, rfl, rfl⟩ | ⟨v, rfl, rfl, rfl⟩
  · have : recoverD (c₀ :: cs) = none := by simp [recoverD, hc]
    simp only [this]
    exact key _ ⟨c₀, by cases c₀; simp_all⟩
  · have : recoverD (c₀ :: cs) = some (rv, { c₀ with mode := .panicking [{ v := rv, recovered := true }] } :: cs) := by simp [recoverD, hc, pn]
    simp only [this]
    exact key _ ⟨c₀, rfl⟩
end Go.Proofs.YtghjmiggobpmoaaGreatDoor.K
set_option linter.unusedVariables false
set_option linter.unusedSimpArgs false
set_option autoImplicit false
set_option maxRecDepth 20000
namespace Go.Proofs.YtghjmiggobpmoaaGreatDoor.K
open Go Go.RowKit

def runL (m : UInt8) (esc : Bool) : Bytes → Option Nat
  | [] => none
  | [c] => if c = m then some 1 else none
  | c :: d :: t => if c = m then some 1 else if esc && decide (c = 92) then (runL m esc t).map (· + 2) else (runL m esc (d :: t)).map (· + 1)
theorem runL_le {m : UInt8} {esc : Bool} : ∀ (s : Bytes) (k : Nat), runL m esc s = some k → 1 ≤ k ∧ k ≤ s.length
  | [], k, h => by simp [runL] at h
  | [c], k, h => by
    simp only [runL] at h; split at h
    · cases h; simp
    · cases h
  | c :: d :: t, k, h => by
    simp only [runL] at h; split at h
    · cases h; simp
    · split at h
      · cases h1 : runL m esc t with
        | none => rw [h1] at h; cases h
        | some j => rw [h1] at h; cases h; have := runL_le t j h1; simp only [List.length_cons]; omega
      · cases h1 : runL m esc (d :: t) with
        | none => rw [h1] at h; cases h
        | some j => rw [h1] at h; cases h; have := runL_le (d :: t) j h1; simp only [List.length_cons] at this ⊢; omega
def untilN {σ : Type} (sk : Bytes → Except Nat Nat) (beg : UInt8 → Bool) (fin : σ → UInt8 → Bool × σ) : Nat → σ → Bytes → Except Nat Nat
  | 0, _, _ => .error 101
  | _ + 1, _, [] => .error 101
  | n + 1, st, c :: t =>
    if (fin st c).1 then .ok 1
    else if beg c then
      match sk (c :: t) with
      | .error e => .error e
      | .ok k => (untilN sk beg fin n (fin st c).2 ((c :: t).drop k)).map (· + k)
    else (untilN sk beg fin n (fin st c).2 t).map (· + 1)
def begQ (c : UInt8) : Bool := c == 92 || c == 36 || c == 96
def finM (m : UInt8) (_ : Unit) (c : UInt8) : Bool × Unit := (c == m, ())
def opnC (o : Int) (c : UInt8) : Int := if c = 40 then o + 1 else if c = 41 then o - 1 else o
def finC (o : Int) (c : UInt8) : Bool × Int := (decide (opnC o c < 0), opnC o c)
def orSyn : Option Nat → Except Nat Nat
  | some k => .ok k
  | none => .error 101
def skipL : Nat → Bytes → Except Nat Nat
  | 0, _ => .error 104
  | _ + 1, [] => .ok 1
  | f + 1, c :: t =>
    if c = 92 then .ok (min 2 (t.length + 1))
    else if c = 39 then (orSyn (runL 39 false t)).map (· + 1)
    else if c = 96 then (orSyn (runL 96 true t)).map (· + 1)
    else if c = 34 then (untilN (skipL f) begQ (finM 34) t.length () t).map (· + 1)
    else if c = 36 then
      match t with
      | [] => .ok 1
      | d :: u => if d = 40 then (untilN (skipL f) (fun _ => true) finC u.length 0 u).map (· + 2)
        else if d = 123 then (untilN (skipL f) (fun _ => true) (finM 125) u.length () u).map (· + 2)
        else .ok 1
    else .ok 1
theorem map_ok {e : Except Nat Nat} {j k : Nat} (h : e.map (· + j) = .ok k) : ∃ i, e = .ok i ∧ k = i + j := by
  cases e with
  | error x => cases h
  | ok i => cases h; exact ⟨i, rfl, rfl⟩
theorem untilN_le {σ : Type} {sk : Bytes → Except Nat Nat} {beg : UInt8 → Bool} {fin : σ → UInt8 → Bool × σ} (hsk : ∀ s k, s ≠ [] → sk s = .ok k → 1 ≤ k ∧ k ≤ s.length) : ∀ (n : Nat) (st : σ) (s : Bytes) (k : Nat), untilN sk beg fin n st s = .ok k → 1 ≤ k ∧ k ≤ s.length
  | 0, _, _, k, h => by cases h
  | _ + 1, _, [], k, h => by cases h
  | n + 1, st, c :: t, k, h => by
    simp only [untilN] at h
    split at h
    · cases h; simp
    · split at h
      · split at h
        · cases h
        · rename_i j hj
          obtain ⟨i, h1, rfl⟩ := map_ok h
          have h2 := hsk _ _ (by simp) hj
          have h3 := untilN_le hsk n _ _ _ h1
          simp only [List.length_drop] at h3
          omega
      · obtain ⟨i, h1, rfl⟩ := map_ok h
        have h3 := untilN_le hsk n _ _ _ h1
        simp only [List.length_cons]; omega
theorem skipL_le : ∀ (f : Nat) (s : Bytes) (k : Nat), s ≠ [] → skipL f s = .ok k → 1 ≤ k ∧ k ≤ s.length
  | 0, s, k, _, h => by cases h
  | _ + 1, [], _, hs, _ => absurd rfl hs
  | f + 1, c :: t, k, _, h => by
    have run : ∀ {m : UInt8} {esc : Bool} {u : Bytes} {i : Nat}, orSyn (runL m esc u) = .ok i → 1 ≤ i ∧ i ≤ u.length := fun {m esc u i} h => by
      cases h1 : runL m esc u with
      | none => rw [h1] at h; cases h
      | some j => rw [h1] at h; cases h; exact runL_le _ _ h1
    simp only [skipL] at h
    split at h
    · cases h; simp only [List.length_cons]; omega
    · split at h
      · obtain ⟨i, h1, rfl⟩ := map_ok h; have := run h1; simp only [List.length_cons]; omega
      · split at h
        · obtain ⟨i, h1, rfl⟩ := map_ok h; have := run h1; simp only [List.length_cons]; omega
        · split at h
          · obtain ⟨i, h1, rfl⟩ := map_ok h; have := untilN_le (skipL_le f) _ _ _ _ h1; simp only [List.length_cons]; omega
          · split at h
            · split at h
              · cases h; simp
              · split at h
                · obtain ⟨i, h1, rfl⟩ := map_ok h; have := untilN_le (skipL_le f) _ _ _ _ h1; simp only [List.length_cons]; omega
                · split at h
                  · obtain ⟨i, h1, rfl⟩ := map_ok h; have := untilN_le (skipL_le f) _ _ _ _ h1; simp only [List.length_cons]; omega
                  · cases h; simp
            · cases h; simp
def skipV (s : Bytes) (i : Int) : Int × Int :=
  if i < 0 ∨ (s.length : Int) ≤ i then (i, 101) else
  match skipL 64 (s.drop i.toNat) with
  | .ok k => (i + k, 0)
  | .error e => (i, e)
theorem run_at {m : UInt8} {esc : Bool} {s : Bytes} {i : Nat} (hi : i < s.length) (h : byte s i = m) : runL m esc (s.drop i) = some 1 := by
  rw [List.drop_eq_getElem_cons hi]
  have hb : s[i] = m := by rw [← h]; simp [byte, List.getD_eq_getElem?_getD, hi]
  cases h1 : s.drop (i + 1) <;> simp [runL, hb]
theorem run_esc {m : UInt8} {s : Bytes} {i : Nat} (hi : i < s.length) (h : byte s i ≠ m) (h2 : byte s i = 92) : runL m true (s.drop i) = (runL m true (s.drop (i + 2))).map (· + 2) := by
  have hb : s[i] = byte s i := by simp [byte, List.getD_eq_getElem?_getD, hi]
  rw [List.drop_eq_getElem_cons hi, hb, h2, show s.drop (i + 2) = (s.drop (i + 1)).drop 1 by rw [List.drop_drop]]
  rw [h2] at h
  cases h1 : s.drop (i + 1) <;> simp [runL, h]
theorem run_on {m : UInt8} {esc : Bool} {s : Bytes} {i : Nat} (hi : i < s.length) (h : byte s i ≠ m) (h2 : esc = true → byte s i ≠ 92) : runL m esc (s.drop i) = (runL m esc (s.drop (i + 1))).map (· + 1) := by
  have hb : s[i] = byte s i := by simp [byte, List.getD_eq_getElem?_getD, hi]
  rw [List.drop_eq_getElem_cons hi, hb]
  cases h1 : s.drop (i + 1) with
  | nil => simp [runL, h]
  | cons d u =>
    simp only [runL, if_neg h]
    rw [if_neg (by intro h3; simp only [Bool.and_eq_true, decide_eq_true_eq] at h3; exact h2 h3.1 h3.2)]
theorem run_end {m : UInt8} {esc : Bool} {s : Bytes} {i : Nat} (hi : s.length ≤ i) : runL m esc (s.drop i) = none := by rw [List.drop_eq_nil_of_le hi]; rfl
theorem dropB {s : Bytes} {i : Nat} (hi : i < s.length) : s.drop i = byte s i :: s.drop (i + 1) := by
  rw [List.drop_eq_getElem_cons hi]; simp [byte, List.getD_eq_getElem?_getD, hi]
end Go.Proofs.YtghjmiggobpmoaaGreatDoor.K
