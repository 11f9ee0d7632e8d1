/- FetchEnds: the loop that says which mirrors have which chunks. -/
import Derived.Test.YtagmlemlagbfkaaGreatDoorPkFSurv2
import Derived.Test.YtagmlemlagbfkaaGreatDoorPkFSurv14
import Derived.Test.YtagmlemlagbfkaaGreatDoorPkFSurv0
import Derived.Test.YtagmlemlagbfkaaGreatDoorPkFSurv20
namespace Go.Proofs.YtagmlemlagbfkaaGreatDoor
open Go.RowKit
set_option linter.unusedVariables false
set_option linter.unusedSimpArgs false
attribute [local irreducible] Calls

abbrev tI1E : TypeId := 22
/-- Own slices of numbers, beside an own slice of them. -/
structure RowsO (B : Nat) (w : World) (v : Value) (C : List (Value × List Int)) : Prop where
  own : w.ownsRow B tI1E 1 v C.length (C.map (·.1))
  each : ∀ c ∈ C, w.ownsRow B 3 1 c.1 c.2.length (c.2.map intD)
theorem RowsO.nw {B : Nat} {w w' : World} {v : Value} {C : List (Value × List Int)} (h : RowsO B w v C) (u : Nw w w') : RowsO B w' v C :=
  ⟨owns_upd' h.own u (fun _ _ e => e), fun c hc => owns_upd' (h.each c hc) u (fun _ _ e => e)⟩
theorem RowsO.nil (B : Nat) (w : World) : RowsO B w (.slice none 0 0) [] := ⟨World.ownsRow_nil _ _ _ _, fun c hc => by cases hc⟩
/-- After i rounds. -/
def EndI (z : World) (mc : List Int) (C : List (Value × List Int)) (i : Nat) (v : Value) (w : World) : Prop :=
  Nw z w ∧ ∃ C' : List (Value × List Int), RowsO z.heap.size w v C' ∧ C'.map (·.2) = (C.take i).map fun c => Ft.ownN mc c.2 40
theorem EndI.len {z : World} {mc : List Int} {C : List (Value × List Int)} {i : Nat} {v : Value} {w : World} (h : EndI z mc C i v w) (hi : i ≤ C.length) : ∃ a c, v = .slice a i c := by
  obtain ⟨_, C', h1, h2⟩ := h
  have e : C'.length = i := by
    have := congrArg List.length h2
    rw [List.length_map, List.length_map, List.length_take] at this
    omega
  have := own_slG h1.own
  rw [e] at this
  exact this
end Go.Proofs.YtagmlemlagbfkaaGreatDoor
