/- Rows that are the same. -/
import Derived.Test.YtmbbhgglllfelaaDoorCf
import Derived.Test.YtmbbhgglllfelaaDoorKitN
set_option linter.unusedVariables false
set_option linter.unusedSimpArgs false
set_option autoImplicit false
set_option maxRecDepth 20000
namespace Go.Proofs.YtmbbhgglllfelaaDoor.K
open Go Go.Proofs Go.RowKit

theorem nd_same {x y : Nd} : x = y ↔ x.op = y.op ∧ x.num = y.num ∧ x.name = y.name ∧ x.kids = y.kids := by
  cases x; cases y; simp

end Go.Proofs.YtmbbhgglllfelaaDoor.K
