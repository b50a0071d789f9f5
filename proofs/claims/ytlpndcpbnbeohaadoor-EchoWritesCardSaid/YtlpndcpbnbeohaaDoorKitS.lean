import Derived.Test.YtlpndcpbnbeohaaDoorKitP
set_option linter.unusedVariables false
set_option linter.unusedSimpArgs false
set_option autoImplicit false
namespace Go.Proofs.YtlpndcpbnbeohaaDoor.K
open Go
def andV (k : IntKind) (a b : Int) : Int := k.wrap (((BitVec.ofInt k.bits a &&& BitVec.ofInt k.bits b).toNat : Nat) : Int)
def orV (k : IntKind) (a b : Int) : Int := k.wrap (((BitVec.ofInt k.bits a ||| BitVec.ofInt k.bits b).toNat : Nat) : Int)
def shlV (k : IntKind) (a n : Int) : Int := k.wrap (a * 2 ^ (min n.toNat k.bits))
def shrV (k : IntKind) (a n : Int) : Int := a.fdiv (2 ^ (min n.toNat k.bits))
section rules
variable {P : Program} {r : Option Nat} {n : Nat} {O : Array Oper} {Q : Post} {l : List Oper} {E : Env} {ds : List Deferred} {w : World} {dst : Option Nat} {ty : TypeId} {pos : String} {af : Array Edge} {g : Option (Nat × Bool)}
variable {t t' : TypeId} {x y : Operand} {a b : Int} {k k' : IntKind}
theorem r_and (hx : ev E x = .int k a) (hy : ev E y = .int k b) : (execOp (ev E) ⟨dst, .binOp .and t x y t', ty, pos, af, g⟩).run P w = .ok (.value (.int k (andV k a b))) w := by simp [execOp, hx, hy, go_sem, eqGuard, binOp, Op.intBits, andV]
theorem st_and (hx : ev E x = .int k a) (hy : ev E y = .int k b) (h : wops P r n O Q l (updo E dst (.int k (andV k a b))) ds w) : wop P r n O Q ⟨dst, .binOp .and t x y t', ty, pos, af, g⟩ l E ds w := wop_run (fun _ => by simp) (r_and hx hy) h
theorem r_or (hx : ev E x = .int k a) (hy : ev E y = .int k b) : (execOp (ev E) ⟨dst, .binOp .or t x y t', ty, pos, af, g⟩).run P w = .ok (.value (.int k (orV k a b))) w := by simp [execOp, hx, hy, go_sem, eqGuard, binOp, Op.intBits, orV]
theorem st_or (hx : ev E x = .int k a) (hy : ev E y = .int k b) (h : wops P r n O Q l (updo E dst (.int k (orV k a b))) ds w) : wop P r n O Q ⟨dst, .binOp .or t x y t', ty, pos, af, g⟩ l E ds w := wop_run (fun _ => by simp) (r_or hx hy) h
theorem r_shl (hx : ev E x = .int k a) (hy : ev E y = .int k' b) (hb : 0 ≤ b) : (execOp (ev E) ⟨dst, .binOp .shl t x y t', ty, pos, af, g⟩).run P w = .ok (.value (.int k (shlV k a b))) w := by simp [execOp, hx, hy, go_sem, eqGuard, binOp, Op.shift, shlV, Int.not_lt.2 hb]
theorem st_shl (hx : ev E x = .int k a) (hy : ev E y = .int k' b) (hb : 0 ≤ b) (h : wops P r n O Q l (updo E dst (.int k (shlV k a b))) ds w) : wop P r n O Q ⟨dst, .binOp .shl t x y t', ty, pos, af, g⟩ l E ds w := wop_run (fun _ => by simp) (r_shl hx hy hb) h
theorem r_shr (hx : ev E x = .int k a) (hy : ev E y = .int k' b) (hb : 0 ≤ b) : (execOp (ev E) ⟨dst, .binOp .shr t x y t', ty, pos, af, g⟩).run P w = .ok (.value (.int k (shrV k a b))) w := by simp [execOp, hx, hy, go_sem, eqGuard, binOp, Op.shift, shrV, Int.not_lt.2 hb]
theorem st_shr (hx : ev E x = .int k a) (hy : ev E y = .int k' b) (hb : 0 ≤ b) (h : wops P r n O Q l (updo E dst (.int k (shrV k a b))) ds w) : wop P r n O Q ⟨dst, .binOp .shr t x y t', ty, pos, af, g⟩ l E ds w := wop_run (fun _ => by simp) (r_shr hx hy hb) h
theorem r_neg (hx : ev E x = .int k a) : (execOp (ev E) ⟨dst, .unOp .neg t x, ty, pos, af, g⟩).run P w = .ok (.value (.int k (k.wrap (0 - a)))) w := by simp [execOp, hx, go_sem, Op.unary, Op.intArith]
theorem st_neg (hx : ev E x = .int k a) (h : wops P r n O Q l (updo E dst (.int k (k.wrap (0 - a)))) ds w) : wop P r n O Q ⟨dst, .unOp .neg t x, ty, pos, af, g⟩ l E ds w := wop_run (fun _ => by simp) (r_neg hx) h
variable {s u : Bytes}
end rules
/-! ### what they come to -/
end Go.Proofs.YtlpndcpbnbeohaaDoor.K
set_option linter.unusedVariables false
set_option linter.unusedSimpArgs false
set_option autoImplicit false
namespace Go.Proofs.YtlpndcpbnbeohaaDoor.K
open Go
section rules
variable {P : Program} {r : Option Nat} {n : Nat} {O : Array Oper} {Q : Post} {l : List Oper} {E : Env} {ds : List Deferred} {w : World} {dst : Option Nat} {ty : TypeId} {pos : String} {af : Array Edge}
theorem en {K : Env → List Deferred → World → Prop} (h : K E ds w) : wops P r n O (thenP K Q) [] E ds w := wops_nil (then_n h)
theorem sr {id : Nat} {y : Code} (hok : l.all (okd n) = true) (h : wops P r n l.toArray (thenP (wp P r n y Q) Q) l E ds w) : wp P r n (.seq (.region id l.toArray false) y) Q E ds w := x_seq (x_region hok h)
theorem Wp {o : Oper} (hg : o.guard = none) (h : wop P r n O Q o l E ds w) : wops P r n O Q (o :: l) E ds w := w_plain hg h
theorem mv {x : Operand} {v : Value} (hx : ev E x = v) (h : wops P r n O Q l (updo E dst v) ds w) : wops P r n O Q (⟨dst, .move x, ty, pos, af, none⟩ :: l) E ds w := w_plain rfl (st_move hx h)
theorem mI {x : Operand} {k : IntKind} {a : Int} (hx : ev E x = .int k a) (h : wops P r n O Q l (updo E dst (.int k a)) ds w) : wops P r n O Q (⟨dst, .move x, ty, pos, af, none⟩ :: l) E ds w := mv hx h
theorem mB {x : Operand} {a : Bool} (hx : ev E x = .bool a) (h : wops P r n O Q l (updo E dst (.bool a)) ds w) : wops P r n O Q (⟨dst, .move x, ty, pos, af, none⟩ :: l) E ds w := mv hx h
theorem mS {x : Operand} {a : Bytes} (hx : ev E x = S a) (h : wops P r n O Q l (updo E dst (S a)) ds w) : wops P r n O Q (⟨dst, .move x, ty, pos, af, none⟩ :: l) E ds w := mv hx h
theorem mP {x : Operand} {a : Option Addr} (hx : ev E x = .pointer a) (h : wops P r n O Q l (updo E dst (.pointer a)) ds w) : wops P r n O Q (⟨dst, .move x, ty, pos, af, none⟩ :: l) E ds w := mv hx h
theorem mL {x : Operand} {a : Option Addr} {m c : Nat} (hx : ev E x = .slice a m c) (h : wops P r n O Q l (updo E dst (.slice a m c)) ds w) : wops P r n O Q (⟨dst, .move x, ty, pos, af, none⟩ :: l) E ds w := mv hx h
theorem av {x : Operand} {v : Value} (hx : ev E x = v) (h : wops P r n O Q l (updo E dst v) ds w) : wops P r n O Q (⟨dst, .assign x, ty, pos, af, none⟩ :: l) E ds w := w_plain rfl (st_assign hx h)
theorem aI {x : Operand} {k : IntKind} {a : Int} (hx : ev E x = .int k a) (h : wops P r n O Q l (updo E dst (.int k a)) ds w) : wops P r n O Q (⟨dst, .assign x, ty, pos, af, none⟩ :: l) E ds w := av hx h
theorem aB {x : Operand} {a : Bool} (hx : ev E x = .bool a) (h : wops P r n O Q l (updo E dst (.bool a)) ds w) : wops P r n O Q (⟨dst, .assign x, ty, pos, af, none⟩ :: l) E ds w := av hx h
theorem aS {x : Operand} {a : Bytes} (hx : ev E x = S a) (h : wops P r n O Q l (updo E dst (S a)) ds w) : wops P r n O Q (⟨dst, .assign x, ty, pos, af, none⟩ :: l) E ds w := av hx h
theorem aP {x : Operand} {a : Option Addr} (hx : ev E x = .pointer a) (h : wops P r n O Q l (updo E dst (.pointer a)) ds w) : wops P r n O Q (⟨dst, .assign x, ty, pos, af, none⟩ :: l) E ds w := av hx h
theorem aL {x : Operand} {a : Option Addr} {m c : Nat} (hx : ev E x = .slice a m c) (h : wops P r n O Q l (updo E dst (.slice a m c)) ds w) : wops P r n O Q (⟨dst, .assign x, ty, pos, af, none⟩ :: l) E ds w := av hx h
theorem pF {c x y : Operand} {a : Bool} (hc : ev E c = .bool false) (hv : (bif false then ev E x else ev E y) = .bool a) (h : wops P r n O Q l (updo E dst (.bool a)) ds w) : wops P r n O Q (⟨dst, .pick c x y, ty, pos, af, none⟩ :: l) E ds w := w_plain rfl (st_pick hc hv h)
theorem pT {c x y : Operand} {a : Bool} (hc : ev E c = .bool true) (hv : (bif true then ev E x else ev E y) = .bool a) (h : wops P r n O Q l (updo E dst (.bool a)) ds w) : wops P r n O Q (⟨dst, .pick c x y, ty, pos, af, none⟩ :: l) E ds w := w_plain rfl (st_pick hc hv h)
theorem fa {t : TypeId} {x : Operand} {f b off fo : Nat} (ht : fldB P t f fo = true) (hx : ev E x = .pointer (some ⟨b, off, none⟩)) (h : wops P r n O Q l (updo E dst (.pointer (some ⟨b, off + fo, none⟩))) ds w) : wops P r n O Q (⟨dst, .fieldAddr t x f, ty, pos, af, none⟩ :: l) E ds w := w_plain rfl (st_fieldAddr ht hx h)
theorem nc {x : Operand} {a : Addr} (hx : ev E x = .pointer (some a)) (h : wops P r n O Q l (updo E dst (.pointer (some a))) ds w) : wops P r n O Q (⟨dst, .nilCheck x, ty, pos, af, none⟩ :: l) E ds w := w_plain rfl (st_nilCheck hx h)
theorem lI {t : TypeId} {x : Operand} {b off : Nat} {k : IntKind} {a : Int} (ht : oneB P t = true) (hx : ev E x = .pointer (some ⟨b, off, none⟩)) (hc : w.cell? ⟨b, off, none⟩ = some (.int k a)) (h : wops P r n O Q l (updo E dst (.int k a)) ds w) : wops P r n O Q (⟨dst, .load t x, ty, pos, af, none⟩ :: l) E ds w := w_plain rfl (st_load1 ht hx hc h)
theorem lS {t : TypeId} {x : Operand} {b off : Nat} {a : Bytes} (ht : oneB P t = true) (hx : ev E x = .pointer (some ⟨b, off, none⟩)) (hc : w.cell? ⟨b, off, none⟩ = some (S a)) (h : wops P r n O Q l (updo E dst (S a)) ds w) : wops P r n O Q (⟨dst, .load t x, ty, pos, af, none⟩ :: l) E ds w := w_plain rfl (st_load1 ht hx hc h)
theorem lL {t : TypeId} {x : Operand} {b off : Nat} {a : Option Addr} {m c : Nat} (ht : oneB P t = true) (hx : ev E x = .pointer (some ⟨b, off, none⟩)) (hc : w.cell? ⟨b, off, none⟩ = some (.slice a m c)) (h : wops P r n O Q l (updo E dst (.slice a m c)) ds w) : wops P r n O Q (⟨dst, .load t x, ty, pos, af, none⟩ :: l) E ds w := w_plain rfl (st_load1 ht hx hc h)
end rules
theorem Sl.tN {α : Type} {c : Enc α} {w w' : World} {D : Nat → Prop} {A : Option Addr} {xs : List α} {b : Nat} (h : Sl c w D A xs) (hc : Chg [b] w w') (hb : ¬ D b) : Sl c w' D A xs := h.tr hc (fun k hk hD => hb ((List.mem_singleton.1 hk) ▸ hD))
theorem Own.tN {α : Type} {c : Enc α} {e : TypeId} {w w' : World} {D : Nat → Prop} {A : Option Addr} {cap : Nat} {xs : List α} {b : Nat} (h : Own c e w D A cap xs) (hc : Chg [b] w w') (hb : ¬ D b) : Own c e w' D A cap xs := h.tr hc (fun k hk hD => hb ((List.mem_singleton.1 hk) ▸ hD))
end Go.Proofs.YtlpndcpbnbeohaaDoor.K
