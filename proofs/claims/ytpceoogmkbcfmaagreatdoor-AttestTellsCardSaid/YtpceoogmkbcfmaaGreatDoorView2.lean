/- The contracts of view.about, and of what the view asks of the library: slices.IndexFunc and ContainsFunc over claims, Index and Contains over signatures, Clone. -/
import Derived.Test.YtpceoogmkbcfmaaGreatDoorView1
import Derived.Test.YtpceoogmkbcfmaaGreatDoorClaimE
import Derived.BigRegion
namespace Go.Proofs.YtpceoogmkbcfmaaGreatDoor
open Go.RowKit
set_option linter.unusedVariables false
set_option linter.unusedSimpArgs false
attribute [local irreducible] Calls

theorem later4 {w : World} {b : Nat} {a0 a1 a2 a3 : Value} {T : TypeId} (h : w.heap[b]? = some (.cells #[a0, a1, a2, a3] T (0, 0))) :
    (∀ i : Later w, i.1.cell? ⟨b, 0, none⟩ = some a0) ∧ (∀ i : Later w, i.1.cell? ⟨b, 1, none⟩ = some a1) ∧ (∀ i : Later w, i.1.cell? ⟨b, 2, none⟩ = some a2) ∧ ∀ i : Later w, i.1.cell? ⟨b, 3, none⟩ = some a3 := by
  refine ⟨fun i => ?_, fun i => ?_, fun i => ?_, fun i => ?_⟩ <;> (rw [cells_cell (i.nw.keep h)]; rfl)
theorem cell4 {w : World} {b : Nat} {a0 a1 a2 a3 : Value} {T : TypeId} (h : w.heap[b]? = some (.cells #[a0, a1, a2, a3] T (0, 0))) :
    w.cell? ⟨b, 0, none⟩ = some a0 ∧ w.cell? ⟨b, 1, none⟩ = some a1 ∧ w.cell? ⟨b, 2, none⟩ = some a2 ∧ w.cell? ⟨b, 3, none⟩ = some a3 := by
  refine ⟨?_, ?_, ?_, ?_⟩ <;> (rw [cells_cell h]; rfl)
end Go.Proofs.YtpceoogmkbcfmaaGreatDoor
