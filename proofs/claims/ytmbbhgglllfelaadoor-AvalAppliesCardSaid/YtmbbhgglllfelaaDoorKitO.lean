/- The walk's own rules, fifteenth part: an array value's element. -/
import Derived.Test.YtmbbhgglllfelaaDoorKitN
set_option linter.unusedVariables false
set_option linter.unusedSimpArgs false
set_option autoImplicit false
namespace Go.Proofs.YtmbbhgglllfelaaDoor.K
open Go Go.RowKit
section
variable {P : Program} {r : Option Nat} {n : Nat} {O : Array Oper} {Q : Post} {E : Env} {ds : List Deferred} {w : World} {l : List Oper}
variable {dst : Option Nat} {ty : TypeId} {pos : String} {af : Array Edge} {g : Option (Nat × Bool)}
theorem r_aidx {t e e2 : TypeId} {x y : Operand} {m : Nat} {vs : List Value} {k : IntKind} {i : Int} {v : Value} (ht : P.underlying t = some (.array m e)) (hs : sizeB P e 1 = true) (he : P.underlying e = some (.slice e2)) (hx : ev E x = .agg ⟨vs⟩) (hy : ev E y = .int k i)
    (h0 : 0 ≤ i) (h1 : i < (m : Int)) (hv : nthV vs i.toNat = some v) : (execOp (ev E) ⟨dst, .index t x y, ty, pos, af, g⟩).run P w = .ok (.value v) w := by
  have hs2 := run_sizeOf (w := w) hs
  have hv3 : vs[i.toNat]? = some v := by rw [nthV_eq] at hv; exact hv
  have hg : (isAgg e).run P w = .ok false w := by simp [isAgg, underlying, go_sem, he]
  simp [execOp, hx, hy, go_sem, Instr.index, asIntOf, underlying, ht, h0, h1, hs2, hg, part, hv3, Result.andThen]
theorem st_aidx {t e e2 : TypeId} {x y : Operand} {m : Nat} {vs : List Value} {k : IntKind} {i : Int} {v : Value} (ht : P.underlying t = some (.array m e)) (hs : sizeB P e 1 = true) (he : P.underlying e = some (.slice e2)) (hx : ev E x = .agg ⟨vs⟩) (hy : ev E y = .int k i)
    (h0 : 0 ≤ i) (h1 : i < (m : Int)) (hv : nthV vs i.toNat = some v) (h : wops P r n O Q l (updo E dst v) ds w) : wop P r n O Q ⟨dst, .index t x y, ty, pos, af, g⟩ l E ds w := wop_run (fun _ => by simp) (r_aidx ht hs he hx hy h0 h1 hv) h
end
end Go.Proofs.YtmbbhgglllfelaaDoor.K
