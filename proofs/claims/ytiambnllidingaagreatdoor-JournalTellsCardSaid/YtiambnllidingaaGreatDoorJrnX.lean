/- The example of chapter 03, in plain words. -/
import Derived.Test.YtiambnllidingaaGreatDoorJrnPl
namespace Go.Proofs.YtiambnllidingaaGreatDoor.Jr
set_option linter.unusedVariables false
def bAB : List UInt8 := [97, 98]
theorem jn_eq {j : Jn} {f : Int} {r : List (List UInt8)} {b : Bool} (h : (j.file, j.recs, j.broken) = (f, r, b)) : j = ⟨f, r, b⟩ := by
  obtain ⟨a, b, c⟩ := j
  simp at h
  obtain ⟨rfl, rfl, rfl⟩ := h
  rfl
theorem jo_eq {o : Option Jn} {f : Int} {r : List (List UInt8)} {b : Bool} (h : (o.map fun j => (j.file, j.recs, j.broken)) = some (f, r, b)) : o = some ⟨f, r, b⟩ := by
  cases o with
  | none => cases h
  | some j => rw [jn_eq (Option.some.inj h)]
def xD1 : Dk.Disk := (openJ Dk.new 3).1
def xD2 : Dk.Disk := (append xD1 ⟨3, [], false⟩ bAB).1
def xD3 : Dk.Disk := (append xD2 ⟨3, [bAB], false⟩ []).1
def xBytes : List UInt8 := [50, 58, 97, 98, 44, 50, 57, 51, 59, 49, 58, 97, 44, 57, 56, 59]
def xD4 : Dk.Disk := (Dk.write xD3 4 0 xBytes).1
def xD5 : Dk.Disk := (openJ xD4 4).1
theorem x1 : openJ Dk.new 3 = (xD1, some ⟨3, [], false⟩, 0) := Prod.ext rfl (Prod.ext (jo_eq (by decide +kernel)) (by decide +kernel))
theorem x2 : append xD1 ⟨3, [], false⟩ bAB = (xD2, ⟨3, [bAB], false⟩, 0) := Prod.ext rfl (Prod.ext (jn_eq (by decide +kernel)) (by decide +kernel))
theorem x3 : append xD2 ⟨3, [bAB], false⟩ [] = (xD3, ⟨3, [bAB, []], false⟩, 0) := Prod.ext rfl (Prod.ext (jn_eq (by decide +kernel)) (by decide +kernel))
theorem x4 : Dk.read xD3 3 0 99 = ([50, 58, 97, 98, 44, 50, 57, 51, 59, 48, 58, 44, 48, 59], 0) := by decide +kernel
theorem x5 : Dk.write xD3 4 0 xBytes = (xD4, 0) := Prod.ext rfl (by decide +kernel)
theorem x6 : openJ xD4 4 = (xD5, some ⟨4, [bAB], false⟩, 0) := Prod.ext rfl (Prod.ext (jo_eq (by decide +kernel)) (by decide +kernel))
theorem x7 : Dk.size xD5 4 = 9 := by decide +kernel
theorem x8 : sumN [] = 0 ∧ sumN [97] = 97 ∧ sumN [97, 98] = 293 := by decide +kernel
end Go.Proofs.YtiambnllidingaaGreatDoor.Jr
