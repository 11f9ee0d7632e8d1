/- Plain: a rollout that is through, moment by moment; who is heard. -/
import Derived.Test.YtjlgmoemnhmgmaaGreatDoorPkWTells30
import Derived.Test.YtjlgmoemnhmgmaaGreatDoorPkWTells17
namespace Go.Proofs.YtjlgmoemnhmgmaaGreatDoor
set_option linter.unusedVariables false
set_option linter.unusedSimpArgs false

namespace Wv
open Fm (Ty Vl Str rightTy rightVl)
/-- The state after the first waves. -/
def stAt (d : List Bool) (ws : List Wave) (n : Nat) : List Bool := (ws.take n).foldl (fun d w => setAll d w.ms) d
theorem stAt_zero (d : List Bool) (ws : List Wave) : stAt d ws 0 = d := by unfold stAt; rw [List.take_zero]; rfl
theorem nowOf_le (w : Wave) (mo : List Int) : w.after ≤ nowOf w mo := by
  unfold nowOf; split
  · exact Int.le_refl _
  · exact Int.le_max_left _ _
end Wv
end Go.Proofs.YtjlgmoemnhmgmaaGreatDoor
