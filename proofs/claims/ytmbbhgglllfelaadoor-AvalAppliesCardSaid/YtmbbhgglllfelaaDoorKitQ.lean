/- Numbers bit by bit, shifts, signs; the order of texts. -/
import Derived.Test.YtmbbhgglllfelaaDoorKitP
set_option linter.unusedVariables false
set_option linter.unusedSimpArgs false
set_option autoImplicit false
namespace Go.Proofs.YtmbbhgglllfelaaDoor.K
open Go
def andV (k : IntKind) (a b : Int) : Int := k.wrap (((BitVec.ofInt k.bits a &&& BitVec.ofInt k.bits b).toNat : Nat) : Int)
def orV (k : IntKind) (a b : Int) : Int := k.wrap (((BitVec.ofInt k.bits a ||| BitVec.ofInt k.bits b).toNat : Nat) : Int)
def xorV (k : IntKind) (a b : Int) : Int := k.wrap (((BitVec.ofInt k.bits a ^^^ BitVec.ofInt k.bits b).toNat : Nat) : Int)
def shlV (k : IntKind) (a n : Int) : Int := k.wrap (a * 2 ^ (min n.toNat k.bits))
def shrV (k : IntKind) (a n : Int) : Int := a.fdiv (2 ^ (min n.toNat k.bits))
def notV (k : IntKind) (a : Int) : Int := xorV k (if k.signed then -1 else k.max) a
section rules
variable {P : Program} {r : Option Nat} {n : Nat} {O : Array Oper} {Q : Post} {l : List Oper} {E : Env} {ds : List Deferred} {w : World} {dst : Option Nat} {ty : TypeId} {pos : String} {af : Array Edge} {g : Option (Nat × Bool)}
variable {t t' : TypeId} {x y : Operand} {a b : Int} {k k' : IntKind}
theorem r_and (hx : ev E x = .int k a) (hy : ev E y = .int k b) : (execOp (ev E) ⟨dst, .binOp .and t x y t', ty, pos, af, g⟩).run P w = .ok (.value (.int k (andV k a b))) w := by simp [execOp, hx, hy, go_sem, eqGuard, binOp, Op.intBits, andV]
theorem st_and (hx : ev E x = .int k a) (hy : ev E y = .int k b) (h : wops P r n O Q l (updo E dst (.int k (andV k a b))) ds w) : wop P r n O Q ⟨dst, .binOp .and t x y t', ty, pos, af, g⟩ l E ds w := wop_run (fun _ => by simp) (r_and hx hy) h
theorem r_or (hx : ev E x = .int k a) (hy : ev E y = .int k b) : (execOp (ev E) ⟨dst, .binOp .or t x y t', ty, pos, af, g⟩).run P w = .ok (.value (.int k (orV k a b))) w := by simp [execOp, hx, hy, go_sem, eqGuard, binOp, Op.intBits, orV]
theorem st_or (hx : ev E x = .int k a) (hy : ev E y = .int k b) (h : wops P r n O Q l (updo E dst (.int k (orV k a b))) ds w) : wop P r n O Q ⟨dst, .binOp .or t x y t', ty, pos, af, g⟩ l E ds w := wop_run (fun _ => by simp) (r_or hx hy) h
theorem r_xor (hx : ev E x = .int k a) (hy : ev E y = .int k b) : (execOp (ev E) ⟨dst, .binOp .xor t x y t', ty, pos, af, g⟩).run P w = .ok (.value (.int k (xorV k a b))) w := by simp [execOp, hx, hy, go_sem, eqGuard, binOp, Op.intBits, xorV]
theorem st_xor (hx : ev E x = .int k a) (hy : ev E y = .int k b) (h : wops P r n O Q l (updo E dst (.int k (xorV k a b))) ds w) : wop P r n O Q ⟨dst, .binOp .xor t x y t', ty, pos, af, g⟩ l E ds w := wop_run (fun _ => by simp) (r_xor hx hy) h
theorem r_shl (hx : ev E x = .int k a) (hy : ev E y = .int k' b) (hb : 0 ≤ b) : (execOp (ev E) ⟨dst, .binOp .shl t x y t', ty, pos, af, g⟩).run P w = .ok (.value (.int k (shlV k a b))) w := by simp [execOp, hx, hy, go_sem, eqGuard, binOp, Op.shift, shlV, Int.not_lt.2 hb]
theorem st_shl (hx : ev E x = .int k a) (hy : ev E y = .int k' b) (hb : 0 ≤ b) (h : wops P r n O Q l (updo E dst (.int k (shlV k a b))) ds w) : wop P r n O Q ⟨dst, .binOp .shl t x y t', ty, pos, af, g⟩ l E ds w := wop_run (fun _ => by simp) (r_shl hx hy hb) h
theorem r_shr (hx : ev E x = .int k a) (hy : ev E y = .int k' b) (hb : 0 ≤ b) : (execOp (ev E) ⟨dst, .binOp .shr t x y t', ty, pos, af, g⟩).run P w = .ok (.value (.int k (shrV k a b))) w := by simp [execOp, hx, hy, go_sem, eqGuard, binOp, Op.shift, shrV, Int.not_lt.2 hb]
theorem st_shr (hx : ev E x = .int k a) (hy : ev E y = .int k' b) (hb : 0 ≤ b) (h : wops P r n O Q l (updo E dst (.int k (shrV k a b))) ds w) : wop P r n O Q ⟨dst, .binOp .shr t x y t', ty, pos, af, g⟩ l E ds w := wop_run (fun _ => by simp) (r_shr hx hy hb) h
theorem r_neg (hx : ev E x = .int k a) : (execOp (ev E) ⟨dst, .unOp .neg t x, ty, pos, af, g⟩).run P w = .ok (.value (.int k (k.wrap (0 - a)))) w := by simp [execOp, hx, go_sem, Op.unary, Op.intArith]
theorem st_neg (hx : ev E x = .int k a) (h : wops P r n O Q l (updo E dst (.int k (k.wrap (0 - a)))) ds w) : wop P r n O Q ⟨dst, .unOp .neg t x, ty, pos, af, g⟩ l E ds w := wop_run (fun _ => by simp) (r_neg hx) h
theorem r_bnot (hx : ev E x = .int k a) : (execOp (ev E) ⟨dst, .unOp .xor t x, ty, pos, af, g⟩).run P w = .ok (.value (.int k (notV k a))) w := by simp [execOp, hx, go_sem, Op.unary, Op.intBits, notV, xorV]
theorem st_bnot (hx : ev E x = .int k a) (h : wops P r n O Q l (updo E dst (.int k (notV k a))) ds w) : wop P r n O Q ⟨dst, .unOp .xor t x, ty, pos, af, g⟩ l E ds w := wop_run (fun _ => by simp) (r_bnot hx) h
variable {s u : Bytes}
theorem r_slss (hx : ev E x = S s) (hy : ev E y = S u) : (execOp (ev E) ⟨dst, .binOp .lss t x y t', ty, pos, af, g⟩).run P w = .ok (.value (.bool (Op.bytesLess s u))) w := by
  simp only [S] at hx hy; simp [execOp, hx, hy, go_sem, eqGuard, binOp, Op.stringOp, toList_mk]
theorem st_slss (hx : ev E x = S s) (hy : ev E y = S u) (h : wops P r n O Q l (updo E dst (.bool (Op.bytesLess s u))) ds w) : wop P r n O Q ⟨dst, .binOp .lss t x y t', ty, pos, af, g⟩ l E ds w := wop_run (fun _ => by simp) (r_slss hx hy) h
theorem r_sgeq (hx : ev E x = S s) (hy : ev E y = S u) : (execOp (ev E) ⟨dst, .binOp .geq t x y t', ty, pos, af, g⟩).run P w = .ok (.value (.bool (!Op.bytesLess s u))) w := by
  simp only [S] at hx hy; simp [execOp, hx, hy, go_sem, eqGuard, binOp, Op.stringOp, toList_mk]
theorem st_sgeq (hx : ev E x = S s) (hy : ev E y = S u) (h : wops P r n O Q l (updo E dst (.bool (!Op.bytesLess s u))) ds w) : wop P r n O Q ⟨dst, .binOp .geq t x y t', ty, pos, af, g⟩ l E ds w := wop_run (fun _ => by simp) (r_sgeq hx hy) h
end rules
/-! ### what they come to -/
theorem wrap_i64_eq (x : Int) : IntKind.i64.wrap x = x.bmod (2 ^ 64) := by
  simp only [IntKind.wrap, IntKind.signed, IntKind.bits, Int.bmod]
  first | rfl | (split <;> split <;> omega) | (simp; omega)
end Go.Proofs.YtmbbhgglllfelaaDoor.K
