/- A loop of a function, taken out of its code: so that its walk is a theorem of its own. -/
import Derived.Test.YtagmlemlagbfkaaGreatDoorPkMTells0
namespace Go.Proofs.YtagmlemlagbfkaaGreatDoor
open Go.RowKit
set_option linter.unusedVariables false
set_option linter.unusedSimpArgs false

/-- The blocks that hold a loop, in the order of the text. -/
def loopBlocks : Code → List Code
  | .block i (.loop c) => .block i (.loop c) :: loopBlocks c
  | .block _ c => loopBlocks c
  | .loop c => loopBlocks c
  | .seq a b => loopBlocks a ++ loopBlocks b
  | .scope c => loopBlocks c
  | .cond _ a b => loopBlocks a ++ loopBlocks b
  | _ => []
noncomputable def loopAt (f : Func) (k : Nat) : Code := ((f.body.map fun c => ((loopBlocks c)[k]?).getD .skip).getD .skip)
/-- A loop that is not left early. -/
theorem wp_normal {P : Program} {c : Code} {Q : Exit → Act → World → Prop} {a : Act} {w : World} (h : Code.wp P c (Exit.then (fun a w => Q .normal a w) (fun _ _ _ => False)) a w) : Code.wp P c Q a w :=
  Code.wp_mono (fun e a w h => by cases e <;> first | exact h | exact h.elim) h
end Go.Proofs.YtagmlemlagbfkaaGreatDoor
