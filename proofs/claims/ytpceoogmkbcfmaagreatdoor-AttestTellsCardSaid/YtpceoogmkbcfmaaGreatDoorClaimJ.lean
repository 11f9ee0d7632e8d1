/- The contracts of the reference of layer 6: one, Contradict; the walk of the statement ClaimTells. -/
import Derived.Test.YtpceoogmkbcfmaaGreatDoorClaimRf
namespace Go.Proofs.YtpceoogmkbcfmaaGreatDoor
open Go.RowKit
set_option linter.unusedVariables false
set_option linter.unusedSimpArgs false
attribute [local irreducible] Calls

end Go.Proofs.YtpceoogmkbcfmaaGreatDoor
