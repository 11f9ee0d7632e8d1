/- A manifest among a statement's arguments. -/
import Derived.Test.YtagmlemlagbfkaaGreatDoorPkFSurv9
import Derived.Test.YtagmlemlagbfkaaGreatDoorPkFSurv17
import Derived.Test.YtagmlemlagbfkaaGreatDoorPkFSurv2
namespace Go.Proofs.YtagmlemlagbfkaaGreatDoor
open Go.ChangeShapes Go.WideShapes Go.ChangeAt Go.RowKit Go.Joins
set_option linter.unusedVariables false
set_option linter.unusedSimpArgs false
section
variable {H : Type} {enc : TypeId × Value → H} {w : World} {base : Nat} {sp : Nat → Bool} {held : Bool} {n : Nat} {x : DataW H × List MemPlace}
theorem u8_of_wfM {m : Int} (h : (Lit.int .u8 m).wf = true) : 0 ≤ m ∧ m ≤ 255 := by
  have := h
  simp [Lit.wf, IntKind.min, IntKind.max, IntKind.signed, IntKind.bits] at this
  omega
end
end Go.Proofs.YtagmlemlagbfkaaGreatDoor
