/- The contract of gossip's Convict (layer 9). -/
import Derived.Test.YtkhdnfmnnapjlaaGreatDoorSeals
import Derived.Test.YtkhdnfmnnapjlaaGreatDoorClaimE
import Derived.Test.YtkhdnfmnnapjlaaGreatDoorView0
import Derived.Test.YtkhdnfmnnapjlaaGreatDoorView3
import Derived.Test.YtkhdnfmnnapjlaaGreatDoorView4
namespace Go.Proofs.YtkhdnfmnnapjlaaGreatDoor
open Go.RowKit
set_option linter.unusedVariables false
set_option linter.unusedSimpArgs false
attribute [local irreducible] Calls

/-- What Convict decides. -/
def convictE (Lr : List Bk.Seal) (a b : Bk.Sgn) : Int :=
  if Bk.valid Lr a = false then 18 else if Bk.valid Lr b = false then 18 else if ¬ a.key = b.key then 22
  else if (Cl.read a.text).2 = false then 2 else if (Cl.read b.text).2 = false then 2
  else if Cl.contra (Cl.read a.text).1 (Cl.read b.text).1 = false then 19 else 0
end Go.Proofs.YtkhdnfmnnapjlaaGreatDoor
