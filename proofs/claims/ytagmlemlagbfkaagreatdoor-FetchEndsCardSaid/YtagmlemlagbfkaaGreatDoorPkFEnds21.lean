/- A list of lists of numbers among a statement's arguments. -/
import Derived.Test.YtagmlemlagbfkaaGreatDoorPkFEnds20
import Derived.Test.YtagmlemlagbfkaaGreatDoorPkFEnds9
namespace Go.Proofs.YtagmlemlagbfkaaGreatDoor
open Go.ChangeShapes Go.WideShapes Go.ChangeAt Go.RowKit Go.Joins
set_option linter.unusedVariables false
set_option linter.unusedSimpArgs false
section
variable {H : Type} {enc : TypeId × Value → H} {w : World} {base : Nat} {sp : Nat → Bool} {held : Bool} {n : Nat} {x : DataW H × List MemPlace}
set_option maxRecDepth 100000 in
theorem trod_rows {cs : List Value} (h : DataW.trod enc Tryz.prog w base sp held n 80 cs = some x) : ∃ (v : Value) (C : List (Value × List Int)), cs = [v] ∧ RowsI w v C ∧ ∀ c ∈ C, ∀ k ∈ c.2, I64 k := by
  obtain ⟨v, xs, h1, h2, h3⟩ := trod_slice_cells Tryz.underlying80 (sz := 1) (by kernel_rfl) (by omega) h
  obtain ⟨C, h4, h5⟩ := sl_of_sls h2 (fun c : Value × List Int => c.1) (fun c : Value × List Int => Sl 0 w.heap.size w c.1 (c.2.map intD) ∧ ∀ k ∈ c.2, I64 k) (fun c hc => by
    obtain ⟨m, y, hy⟩ := h3 c hc
    obtain ⟨z2, l2, e2, w2, u2⟩ := trod_ints_cell Tryz.underlying22 Tryz.underlying3 (by kernel_rfl) hy
    exact ⟨(z2, l2), e2, w2, fun k hk => i64_of_wf (u2 k hk)⟩)
  exact ⟨v, C, h1, ⟨⟨_, _, h4⟩, fun c hc => ⟨_, _, (h5 c hc).1⟩⟩, fun c hc => (h5 c hc).2⟩
end
end Go.Proofs.YtagmlemlagbfkaaGreatDoor
