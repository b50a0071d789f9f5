/- Walks: the laws of chapter 12. -/
import Derived.Test.YtmbbhgglllfelaaDoorBg
import Derived.Test.YtmbbhgglllfelaaDoorKitM
set_option linter.unusedVariables false
set_option linter.unusedSimpArgs false
set_option autoImplicit false
set_option maxRecDepth 20000
namespace Go.Proofs.YtmbbhgglllfelaaDoor.K
open Go Go.Proofs Go.RowKit

theorem chunks_flat {α : Type} {sz : Nat} {f : α → List Value} {h1 h2 h3} {w : World} {D : Nat → Prop} : ∀ xs : List α, Chunks (Enc.flat sz f h1 h2 h3) w D xs (xs.flatMap f)
  | [] => .nil
  | x :: xs => by rw [List.flatMap_cons]; exact Chunks.cons rfl (chunks_flat xs)
theorem sl_lit {α : Type} {sz : Nat} {f : α → List Value} {h1 h2 h3} {w : World} {b : Nat} {T : TypeId} (xs : List α) (hm : xs.length ≤ 9223372036854775807) (h : Blk w b (xs.flatMap f) T) : Sl (Enc.flat sz f h1 h2 h3) w (fun k => k = b) (some ⟨b, 0, none⟩) xs :=
  (Own.of_blk (D := fun k => k = b) h rfl hm (chunks_flat xs)).sl
def aw1 : Bytes := [97, 60, 60, 61, 48, 120, 49, 70]
def aw2 : Bytes := [48, 57]
def aw3 : Bytes := [49, 32, 64]
def awT : List Tk := [((2, 0, [97]), 0), ((3, 0, [60, 60, 61]), 1), ((1, 31, []), 4), ((0, 0, []), 8)]
theorem aw1_eq : tokV (toksF (aw1.length + 1) aw1 0) = (awT, 0, 0) := by kernel_rfl
theorem aw2_eq : tokV (toksF (aw2.length + 1) aw2 0) = ([], 0, 102) := by kernel_rfl
theorem aw3_eq : tokV (toksF (aw3.length + 1) aw3 0) = ([], 2, 101) := by kernel_rfl



end Go.Proofs.YtmbbhgglllfelaaDoor.K
