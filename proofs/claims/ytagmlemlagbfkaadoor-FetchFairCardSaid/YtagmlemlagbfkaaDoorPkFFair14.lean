/- Plain: a fetch on a journal. -/
import Derived.Test.YtagmlemlagbfkaaDoorPkFFair2
import Derived.Test.YtagmlemlagbfkaaDoorPkFFair13
namespace Go.Proofs.YtagmlemlagbfkaaDoor
set_option linter.unusedVariables false
set_option linter.unusedSimpArgs false

namespace Ft
open Dk (Disk)
open Jr (Jn)
def prOf (cs : List (List UInt8)) (s : List UInt8) : Int := idxI (fun x => decide (x = s)) cs
def come (cs : List (List UInt8)) (j : Jn) : List Int := j.recs.map (prOf cs)
/-- All that has come is a chunk. -/
def fitsJ (cs : List (List UInt8)) (m : Ck.Man) (j : Jn) : Bool := (come cs j).all fun p => decide (p ∈ m.chunks)
def fopen (D : Disk) (f : Int) (cs : List (List UInt8)) (m : Ck.Man) : Disk × Option Jn × Int :=
  if rightM cs m = false then (D, none, 1)
  else if (Jr.openJ D f).2.2 ≠ 0 then ((Jr.openJ D f).1, none, (Jr.openJ D f).2.2)
  else match (Jr.openJ D f).2.1 with
    | none => ((Jr.openJ D f).1, none, 28)
    | some j => if fitsJ cs m j then ((Jr.openJ D f).1, some j, 0) else ((Jr.openJ D f).1, none, 28)
def take (D : Disk) (cs : List (List UInt8)) (m : Ck.Man) (j : Jn) (i : Int) (t : List UInt8) : Disk × Jn × Int :=
  if i < 0 ∨ (m.chunks.length : Int) ≤ i then (D, j, 3)
  else if checkM cs m.chunks i t = false then (D, j, 28)
  else if m.chunks.getD i.toNat 0 ∈ come cs j then (D, j, 0)
  else Jr.append D j t
def gone (cs : List (List UInt8)) (m : Ck.Man) (j : Jn) : List Int := miss m.chunks (come cs j)
def ftext (cs : List (List UInt8)) (m : Ck.Man) (j : Jn) : List UInt8 × Int := if gone cs m j = [] then (textAtU cs m.print, 0) else ([], 33)
theorem open_err (D : Disk) (f : Int) : ((Jr.openJ D f).2.2 = 0 ↔ (Jr.openJ D f).2.1.isSome = true) := by
  unfold Jr.openJ
  split
  · simp
  · split
    · next h => simp; exact h
    · split
      · split
        · next h => simp; exact h
        · simp
      · simp
theorem append_recs (D : Disk) (j : Jn) (s : List UInt8) : ((Jr.append D j s).2.2 = 0 ∧ (Jr.append D j s).2.1.recs = j.recs ++ [s]) ∨ ((Jr.append D j s).2.2 ≠ 0 ∧ (Jr.append D j s).2.1.recs = j.recs) := by
  unfold Jr.append
  split
  · exact Or.inr ⟨(by show (7 : Int) ≠ 0; decide), rfl⟩
  · split
    · exact Or.inr ⟨(by show (3 : Int) ≠ 0; decide), rfl⟩
    · split
      · exact Or.inr ⟨(by show (6 : Int) ≠ 0; decide), rfl⟩
      · split
        · next h => exact Or.inr ⟨h, rfl⟩
        · exact Or.inl ⟨rfl, rfl⟩
end Ft
end Go.Proofs.YtagmlemlagbfkaaDoor
