/- types.lookup. types.below, types.Sub. -/
import Derived.Test.YthagiklfmkdmaaaGreatDoorPkFTel438
import Derived.Test.YthagiklfmkdmaaaGreatDoorPkFTel430
import Derived.RangeFuncKeeps
import Derived.LoopIn
import Derived.LoopNIn
import Derived.TacticsInMore
import Derived.OwnWalkIn
import Derived.WalkKit
import Derived.Shelf.RegionOpen
import Derived.Shelf.Abstract
import Derived.RangeFuncLeaves
import Derived.RangeFuncCalls
import Derived.RangeFuncBound
import Derived.RangeFuncNested
import Derived.Maps.OwnIn
namespace Go.Proofs.YthagiklfmkdmaaaGreatDoor
open Go.RowKit Go.MapKept
set_option linter.unusedVariables false
set_option linter.unusedSimpArgs false
attribute [local irreducible] Calls
open Fm (Ty Vl Str nameB rightTy rightVl)

theorem look_no {l : List (Str × Ty)} {s : Str} (h : ∀ j (h : j < l.length), (l[j]).1 ≠ s) : Fm.lookup l s = none := by
  unfold Fm.lookup
  rw [List.find?_eq_none.2 (fun x hx => ?_)]
  · rfl
  · obtain ⟨j, hj, e⟩ := List.mem_iff_getElem.1 (List.mem_reverse.1 hx)
    have := h j hj
    rw [e] at this
    simpa using this
theorem look_at {l : List (Str × Ty)} {s : Str} {m : Nat} (hm : m < l.length) (he : (l[m]).1 = s) (h : ∀ j, m < j → ∀ h : j < l.length, (l[j]).1 ≠ s) : Fm.lookup l s = some (l[m]).2 := by
  unfold Fm.lookup
  have e : l.reverse.find? (fun f => decide (f.1 = s)) = some l[m] := by
    refine List.find?_eq_some_iff_append.2 ⟨by simpa using he, (l.drop (m + 1)).reverse, (l.take m).reverse, ?_, fun x hx => ?_⟩
    · have h1 : l = l.take m ++ l[m] :: l.drop (m + 1) := by rw [List.getElem_cons_drop, List.take_append_drop]
      conv => lhs; rw [h1]
      simp
    · obtain ⟨j, hj, e⟩ := List.mem_iff_getElem.1 (List.mem_reverse.1 hx)
      rw [List.length_drop] at hj
      rw [List.getElem_drop] at e
      have := h (m + 1 + j) (by omega) (by omega)
      rw [e] at this
      simpa using this
  rw [e]; rfl
end Go.Proofs.YthagiklfmkdmaaaGreatDoor
namespace Go.Proofs.YthagiklfmkdmaaaGreatDoor
open Go.RowKit Go.MapKept
set_option linter.unusedVariables false
set_option linter.unusedSimpArgs false
attribute [local irreducible] Calls
open Fm (Ty Vl Str nameB rightTy rightVl)

def subF (d : Nat) (a : Ty) (f : Str × Ty) : Bool := match Fm.lookup a.fs f.1 with
  | none => false
  | some t => Fm.sub d t f.2
end Go.Proofs.YthagiklfmkdmaaaGreatDoor
