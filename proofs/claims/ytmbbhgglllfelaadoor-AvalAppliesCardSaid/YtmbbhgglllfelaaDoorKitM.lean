/- The walk's own rules: arithmetic of any kind whose outcome is told by an equation. -/
import Derived.Test.YtmbbhgglllfelaaDoorKitL
import Derived.Laws.Runes
set_option linter.unusedVariables false
set_option linter.unusedSimpArgs false
set_option autoImplicit false
namespace Go.Proofs.YtmbbhgglllfelaaDoor.K
open Go Go.RowKit
variable {P : Program} {r : Option Nat} {n : Nat} {O : Array Oper} {Q : Post} {E : Env} {ds : List Deferred} {w : World} {l : List Oper}
variable {dst : Option Nat} {ty : TypeId} {pos : String} {af : Array Edge} {g : Option (Nat × Bool)}
theorem wrapu64_id {x : Int} (h1 : 0 ≤ x) (h2 : x ≤ 18446744073709551615) : IntKind.u64.wrap x = x := by
  simp [IntKind.wrap, IntKind.signed, IntKind.bits]; omega
theorem wrapu8_id {x : Int} (h1 : 0 ≤ x) (h2 : x ≤ 255) : IntKind.u8.wrap x = x := by
  simp [IntKind.wrap, IntKind.signed, IntKind.bits]; omega
theorem quou64 {a b : Int} (h1 : 0 ≤ a) (h2 : 0 < b) (h3 : a ≤ 18446744073709551615) : IntKind.u64.wrap (a.tdiv b) = a / b := by
  rw [Int.tdiv_eq_ediv_of_nonneg h1]
  have h4 : 0 ≤ a / b := Int.ediv_nonneg h1 (by omega)
  have h5 : a / b ≤ a := Int.ediv_le_self b h1
  exact wrapu64_id h4 (by omega)
theorem quoi64 {a b : Int} (h1 : 0 ≤ a) (h2 : 0 < b) (h3 : a ≤ 9223372036854775807) : IntKind.i64.wrap (a.tdiv b) = a / b := by
  rw [Int.tdiv_eq_ediv_of_nonneg h1]
  have h4 : 0 ≤ a / b := Int.ediv_nonneg h1 (by omega)
  have h5 : a / b ≤ a := Int.ediv_le_self b h1
  exact wrap64_id (by omega) (by omega)
theorem r_addk {t t' : TypeId} {x y : Operand} {a b c : Int} {k : IntKind} (hx : ev E x = .int k a) (hy : ev E y = .int k b) (hc : k.wrap (a + b) = c) :
    (execOp (ev E) ⟨dst, .binOp .add t x y t', ty, pos, af, g⟩).run P w = .ok (.value (.int k c)) w := by rw [← hc]; exact r_add hx hy
theorem st_addk {t t' : TypeId} {x y : Operand} {a b c : Int} {k : IntKind} (hx : ev E x = .int k a) (hy : ev E y = .int k b) (hc : k.wrap (a + b) = c) (h : wops P r n O Q l (updo E dst (.int k c)) ds w) : wop P r n O Q ⟨dst, .binOp .add t x y t', ty, pos, af, g⟩ l E ds w := st_add hx hy (by rw [hc]; exact h)
theorem r_subk {t t' : TypeId} {x y : Operand} {a b c : Int} {k : IntKind} (hx : ev E x = .int k a) (hy : ev E y = .int k b) (hc : k.wrap (a - b) = c) :
    (execOp (ev E) ⟨dst, .binOp .sub t x y t', ty, pos, af, g⟩).run P w = .ok (.value (.int k c)) w := by rw [← hc]; exact r_sub hx hy
theorem st_subk {t t' : TypeId} {x y : Operand} {a b c : Int} {k : IntKind} (hx : ev E x = .int k a) (hy : ev E y = .int k b) (hc : k.wrap (a - b) = c) (h : wops P r n O Q l (updo E dst (.int k c)) ds w) : wop P r n O Q ⟨dst, .binOp .sub t x y t', ty, pos, af, g⟩ l E ds w := st_sub hx hy (by rw [hc]; exact h)
theorem r_mulk {t t' : TypeId} {x y : Operand} {a b c : Int} {k : IntKind} (hx : ev E x = .int k a) (hy : ev E y = .int k b) (hc : k.wrap (a * b) = c) :
    (execOp (ev E) ⟨dst, .binOp .mul t x y t', ty, pos, af, g⟩).run P w = .ok (.value (.int k c)) w := by rw [← hc]; exact r_mul hx hy
theorem st_mulk {t t' : TypeId} {x y : Operand} {a b c : Int} {k : IntKind} (hx : ev E x = .int k a) (hy : ev E y = .int k b) (hc : k.wrap (a * b) = c) (h : wops P r n O Q l (updo E dst (.int k c)) ds w) : wop P r n O Q ⟨dst, .binOp .mul t x y t', ty, pos, af, g⟩ l E ds w := st_mul hx hy (by rw [hc]; exact h)
theorem r_quok {t t' : TypeId} {x y : Operand} {a b c : Int} {k : IntKind} (hx : ev E x = .int k a) (hy : ev E y = .int k b) (hb : b ≠ 0) (hc : k.wrap (a.tdiv b) = c) :
    (execOp (ev E) ⟨dst, .binOp .quo t x y t', ty, pos, af, g⟩).run P w = .ok (.value (.int k c)) w := by rw [← hc]; exact r_quo hx hy hb
theorem st_quok {t t' : TypeId} {x y : Operand} {a b c : Int} {k : IntKind} (hx : ev E x = .int k a) (hy : ev E y = .int k b) (hb : b ≠ 0) (hc : k.wrap (a.tdiv b) = c) (h : wops P r n O Q l (updo E dst (.int k c)) ds w) : wop P r n O Q ⟨dst, .binOp .quo t x y t', ty, pos, af, g⟩ l E ds w := st_quo hx hy hb (by rw [hc]; exact h)
theorem r_remk {t t' : TypeId} {x y : Operand} {a b c : Int} {k : IntKind} (hx : ev E x = .int k a) (hy : ev E y = .int k b) (hb : b ≠ 0) (hc : a.tmod b = c) :
    (execOp (ev E) ⟨dst, .binOp .rem t x y t', ty, pos, af, g⟩).run P w = .ok (.value (.int k c)) w := by rw [← hc]; exact r_rem hx hy hb
theorem st_remk {t t' : TypeId} {x y : Operand} {a b c : Int} {k : IntKind} (hx : ev E x = .int k a) (hy : ev E y = .int k b) (hb : b ≠ 0) (hc : a.tmod b = c) (h : wops P r n O Q l (updo E dst (.int k c)) ds w) : wop P r n O Q ⟨dst, .binOp .rem t x y t', ty, pos, af, g⟩ l E ds w := st_rem hx hy hb (by rw [hc]; exact h)
theorem r_convk {src t : TypeId} {x : Operand} {a c : Int} {k k' : IntKind} {u : TypeDesc} (hs : P.underlying src = some u) (ht : P.underlying t = some (.int k')) (hx : ev E x = .int k a) (hc : k'.wrap a = c) :
    (execOp (ev E) ⟨dst, .convert src t x, ty, pos, af, g⟩).run P w = .ok (.value (.int k' c)) w := by rw [← hc]; exact r_convInt hs ht hx
theorem st_convk {src t : TypeId} {x : Operand} {a c : Int} {k k' : IntKind} {u : TypeDesc} (hs : P.underlying src = some u) (ht : P.underlying t = some (.int k')) (hx : ev E x = .int k a) (hc : k'.wrap a = c) (h : wops P r n O Q l (updo E dst (.int k' c)) ds w) : wop P r n O Q ⟨dst, .convert src t x, ty, pos, af, g⟩ l E ds w := st_convInt hs ht hx (by rw [hc]; exact h)
theorem r_sslo {t : TypeId} {x y : Operand} {a : Bytes} {i : Nat} (ht : P.underlying t = some .string) (hx : ev E x = S a) (hlo : ∃ k, ev E y = .int k (i : Int)) (h1 : i ≤ a.length) :
    (execOp (ev E) ⟨dst, .slice t x (some y) none none, ty, pos, af, g⟩).run P w = .ok (.value (S (a.drop i))) w := by
  have := r_sslice (P := P) (w := w) (dst := dst) (ty := ty) (pos := pos) (af := af) (g := g) (lo := some y) (hi := none) (i := i) (j := a.length) ht hx hlo rfl h1 (Nat.le_refl _)
  rwa [List.take_length] at this
theorem st_sslo {t : TypeId} {x y : Operand} {a : Bytes} {i : Nat} (ht : P.underlying t = some .string) (hx : ev E x = S a) (hlo : ∃ k, ev E y = .int k (i : Int)) (h1 : i ≤ a.length) (h : wops P r n O Q l (updo E dst (S (a.drop i))) ds w) : wop P r n O Q ⟨dst, .slice t x (some y) none none, ty, pos, af, g⟩ l E ds w :=
  wop_run (fun _ => by simp) (r_sslo ht hx hlo h1) h
theorem r_sshi {t : TypeId} {x y : Operand} {a : Bytes} {j : Nat} (ht : P.underlying t = some .string) (hx : ev E x = S a) (hhi : ∃ k, ev E y = .int k (j : Int)) (h1 : j ≤ a.length) :
    (execOp (ev E) ⟨dst, .slice t x none (some y) none, ty, pos, af, g⟩).run P w = .ok (.value (S (a.take j))) w := by
  have := r_sslice (P := P) (w := w) (dst := dst) (ty := ty) (pos := pos) (af := af) (g := g) (lo := none) (hi := some y) (i := 0) (j := j) ht hx rfl hhi (Nat.zero_le _) h1
  rwa [List.drop_zero] at this
theorem st_sshi {t : TypeId} {x y : Operand} {a : Bytes} {j : Nat} (ht : P.underlying t = some .string) (hx : ev E x = S a) (hhi : ∃ k, ev E y = .int k (j : Int)) (h1 : j ≤ a.length) (h : wops P r n O Q l (updo E dst (S (a.take j))) ds w) : wop P r n O Q ⟨dst, .slice t x none (some y) none, ty, pos, af, g⟩ l E ds w :=
  wop_run (fun _ => by simp) (r_sshi ht hx hhi h1) h
/-- A fact that omega passes over. -/
def Hid (p : Prop) : Prop := p
theorem Kept.refl' {K : Nat → Prop} {A : World} : Kept K A A := ⟨Nat.le_refl _, fun _ _ _ => rfl⟩
theorem Kept.chg {K : Nat → Prop} {A B C : World} {bs : List Nat} (h : Kept K A B) (c : Chg bs B C) (hb : ∀ k, k ∈ bs → K k → A.heap.size ≤ k) : Kept K A C :=
  ⟨Nat.le_trans h.1 c.size, fun k hk hl => (c.block k (Nat.lt_of_lt_of_le hl h.1) fun hx => by have := hb k hx hk; omega).trans (h.2 k hk hl)⟩
/-! ### a scope with a label to which nothing jumps -/
theorem stepR_scope {P : Program} {b : Frame} {a : Act} {k : List Item} {cs : List Frame} {w : World} {c : Code} : step P (lone (b.atR a (.code (.scope c) :: k)) cs w) = .next (lone (b.atR a (.code c :: .inScope c :: k)) cs w) :=
  step_lone_go (by simp [stepG, stepG.exec, Frame.atR])
theorem stepR_inScope {P : Program} {b : Frame} {a : Act} {k : List Item} {cs : List Frame} {w : World} {c : Code} : step P (lone (b.atR a (.inScope c :: k)) cs w) = .next (lone (b.atR a k) cs w) :=
  step_lone_go (by simp [stepG, stepG.exec, Frame.atR])
def noGo (Q : Exit → Act → World → Prop) : Exit → Act → World → Prop
  | .goto _, _, _ => False
  | e, a, w => Q e a w
theorem wpIn_scope {F : Fence} {n : Nat} {P : Program} {Q : Exit → Act → World → Prop} {a : Act} {w : World} {c : Code} (h : c.wpIn F n P (noGo Q) a w) : (Code.scope c).wpIn F n P Q a w := by
  intro b k cs hro hb hr
  have h0 : (lone (b.atR a (.code (.scope c) :: k)) cs w).fenced P F := fenced_calm hb hr rfl
  obtain ⟨e, a₁, w₁, hq, harr⟩ := h b (.inScope c :: k) cs hro hb hr
  cases e with
  | normal => exact ⟨.normal, a₁, w₁, hq, .head h0 stepR_scope (StepsIn.trans harr (.one (fenced_calm hb hr rfl) stepR_inScope))⟩
  | exit id =>
    have hx : exitTo id (.inScope c :: k) = exitTo id k := by simp [exitTo]
    exact ⟨.exit id, a₁, w₁, hq, fun k' hk => .head h0 stepR_scope (harr.1 k' (by rw [hx]; exact hk)),
      fun hr' hk => let ⟨k₁, h1, h2⟩ := harr.2 hr' (by rw [hx]; exact hk); ⟨k₁, h1, .head h0 stepR_scope h2⟩⟩
  | goto l => exact hq.elim
  | ret => exact ⟨_, a₁, w₁, hq, .of_steps (.one h0 stepR_scope) harr⟩
  | panic ch => exact ⟨_, a₁, w₁, hq, .of_steps (.one h0 stepR_scope) harr⟩
  | outgrown => exact ⟨_, a₁, w₁, hq, .of_steps (.one h0 stepR_scope) harr⟩
def scopeP (Q : Post) : Post
  | .goto _, _, _, _ => False
  | e, E, ds, w => Q e E ds w
theorem scope_n {Q : Post} {E : Env} {ds : List Deferred} {w : World} (h : Q .normal E ds w) : scopeP Q .normal E ds w := h
theorem scope_r {Q : Post} {E : Env} {ds : List Deferred} {w : World} (h : Q .ret E ds w) : scopeP Q .ret E ds w := h
theorem scope_x {Q : Post} {i : Nat} {E : Env} {ds : List Deferred} {w : World} (h : Q (.exit i) E ds w) : scopeP Q (.exit i) E ds w := h
theorem x_scope {P : Program} {r : Option Nat} {n : Nat} {Q : Post} {E : Env} {ds : List Deferred} {w : World} {c : Code} (h : wp P r n c (scopeP Q) E ds w) : wp P r n (.scope c) Q E ds w := by
  intro a h1 h2 h3
  refine wpIn_scope (wpIn_mono (h a h1 h2 h3) ?_)
  rintro e a' w' ⟨q1, q2⟩
  cases e with
  | goto l => exact q2.elim
  | normal => exact ⟨q1, q2⟩
  | exit i => exact ⟨q1, q2⟩
  | ret => exact ⟨q1, q2⟩
  | panic c => exact ⟨q1, q2⟩
  | outgrown => exact ⟨q1, q2⟩
theorem enc128 {c : UInt8} (h : c.toNat < 128) : Utf8.encode (c.toNat : Int) = ⟨⟨[c]⟩⟩ := by
  have hv : Utf8.valid (c.toNat : Int) = true := by simp [Utf8.valid]; omega
  have hc : ((c.toNat : Int)).toNat < 128 := by simpa using h
  unfold Utf8.encode
  simp only [hv, if_true, hc]
  simp
/-- A byte below 128, as a text. -/
theorem r_byteStr {src t : TypeId} {x : Operand} {c : UInt8} {k : IntKind} {u : TypeDesc} (hs : P.underlying src = some u) (ht : P.underlying t = some .string) (hx : ev E x = .int k (c.toNat : Int)) (hc : c.toNat < 128) :
    (execOp (ev E) ⟨dst, .convert src t x, ty, pos, af, g⟩).run P w = .ok (.value (S [c])) w := by
  have h := run_convert_int_string (P := P) w src t k (c.toNat : Int) (by rw [hs]; rfl) ht
  rw [enc128 hc] at h
  simp [execOp, hx, go_sem, h, S]
theorem st_byteStr {src t : TypeId} {x : Operand} {c : UInt8} {k : IntKind} {u : TypeDesc} (hs : P.underlying src = some u) (ht : P.underlying t = some .string) (hx : ev E x = .int k (c.toNat : Int)) (hc : c.toNat < 128) (h : wops P r n O Q l (updo E dst (S [c])) ds w) : wop P r n O Q ⟨dst, .convert src t x, ty, pos, af, g⟩ l E ds w :=
  wop_run (fun _ => by simp) (r_byteStr hs ht hx hc) h
end Go.Proofs.YtmbbhgglllfelaaDoor.K
