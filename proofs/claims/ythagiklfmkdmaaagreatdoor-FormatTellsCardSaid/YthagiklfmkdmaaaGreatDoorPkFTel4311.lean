/- The walk of FormatBack. -/
import Derived.Test.YthagiklfmkdmaaaGreatDoorPkFTel439
import Derived.Test.YthagiklfmkdmaaaGreatDoorPkFTel4310
import Derived.Test.YthagiklfmkdmaaaGreatDoorPkFTel432
namespace Go.Proofs.YthagiklfmkdmaaaGreatDoor
open Go.RowKit Go.MapKept
set_option linter.unusedVariables false
set_option linter.unusedSimpArgs false
attribute [local irreducible] Calls
open Fm (Ty Vl Str nameB rightTy rightVl)

theorem fRead_bad {t : Ty} {s : Str} (h1 : rightTy 4 t = false) : fRead t s = (Fm.noV, 1) := by
  unfold fRead; rw [if_pos h1]
theorem fRead_none {t : Ty} {s : Str} (h1 : rightTy 4 t = true) (h : Fm.readF 4 t s = none) : fRead t s = (Fm.noV, 34) := by
  unfold fRead; rw [if_neg (by rw [h1]; simp), h]
theorem fRead_some {t : Ty} {s : Str} {v : Vl} (h1 : rightTy 4 t = true) (h : Fm.readF 4 t s = some v) : fRead t s = (v, 0) := by
  unfold fRead; rw [if_neg (by rw [h1]; simp), h]
end Go.Proofs.YthagiklfmkdmaaaGreatDoor
