/- The walk of the statement StoreKeeps. -/
import Derived.Test.YtkldcnikeoofiaaGreatDoorPkSS5
import Derived.Test.YtkldcnikeoofiaaGreatDoorPkSS4
namespace Go.Proofs.YtkldcnikeoofiaaGreatDoor
open Go.RowKit
set_option linter.unusedVariables false
set_option linter.unusedSimpArgs false
attribute [local irreducible] Calls CallsIn

theorem fewSB_at {C : List GC} (h : fewSB C = true) {k : Nat} (hk : k < C.length) : fewOp C[k] = true := by
  unfold fewSB at h
  obtain ⟨h1, h2⟩ := (Bool.and_eq_true _ _).mp h
  have h3 := of_decide_eq_true h2
  exact List.all_eq_true.1 h1 _ (List.mem_take_iff_getElem.2 ⟨k, by omega, rfl⟩)
end Go.Proofs.YtkldcnikeoofiaaGreatDoor
