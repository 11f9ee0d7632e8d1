/- The contracts of the reference of layer 6: Key, within, Right, Text, Read. The contracts of the reference of layer 6: Text, Read. -/
import Derived.Test.YtkhdnfmnnapjlaaDoorClaimW
import Derived.Test.YtkhdnfmnnapjlaaDoorRef
namespace Go.Proofs.YtkhdnfmnnapjlaaDoor
open Go.RowKit
set_option linter.unusedVariables false
set_option linter.unusedSimpArgs false
attribute [local irreducible] Calls

theorem right_long {c : Cl.Clm} (h : ¬ c.text.length ≤ 20000) : Cl.right c = false := by
  rw [← Bool.not_eq_true]
  exact fun e => h (Cl.right_bounds e).2.2.2.2.2.2
end Go.Proofs.YtkhdnfmnnapjlaaDoor
namespace Go.Proofs.YtkhdnfmnnapjlaaDoor
open Go.RowKit
set_option linter.unusedVariables false
set_option linter.unusedSimpArgs false
attribute [local irreducible] Calls

end Go.Proofs.YtkhdnfmnnapjlaaDoor
