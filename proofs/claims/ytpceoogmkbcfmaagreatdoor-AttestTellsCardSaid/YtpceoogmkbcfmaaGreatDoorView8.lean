/- Ring and view together in memory, apart from blocks that are to be kept; Accept there. The documentation's example. -/
import Derived.Test.YtpceoogmkbcfmaaGreatDoorView7
namespace Go.Proofs.YtpceoogmkbcfmaaGreatDoor
open Go.RowKit
set_option linter.unusedVariables false
set_option linter.unusedSimpArgs false
attribute [local irreducible] Calls

section
variable {B B' : Nat} {w w' : World} {q : RingR} {r : ViewR} {rb vb : Nat} {key : Int} {Lr : List Bk.Seal} {L : List Bk.Sgn} {F F' : Nat → Prop}
theorem RingAt.base8 (h : RingAt B w q Lr) (hB : B' ≤ B) (hg : nG ≤ B') : RingAt B' w q Lr :=
  ⟨hg, Nat.le_trans hB h.rb, Nat.le_trans hB h.mb, h.blk, owns_base h.own hB, h.map, h.nd, h.key⟩
theorem size_time {Lr : List Bk.Seal} (h : Vw.VOk Lr key L) : -1 ≤ (Vw.sizeOf L).2 ∧ (Vw.sizeOf L).2 ≤ 1073741824 ∧ 0 ≤ (Vw.sizeOf L).1 ∧ (Vw.sizeOf L).1 ≤ 1073741824 := by
  suffices ∀ (M : List Bk.Sgn) (x : Int × Int), (∀ s ∈ M, Vw.isLog s.text = true) → (-1 ≤ x.2 ∧ x.2 ≤ 1073741824 ∧ 0 ≤ x.1 ∧ x.1 ≤ 1073741824) → (-1 ≤ (M.foldl Vw.sizeStep x).2 ∧ (M.foldl Vw.sizeStep x).2 ≤ 1073741824 ∧ 0 ≤ (M.foldl Vw.sizeStep x).1 ∧ (M.foldl Vw.sizeStep x).1 ≤ 1073741824) from
    this L (0, -1) (fun s hs => (h.each s hs).2.2) (by dsimp only; omega)
  intro M
  induction M with
  | nil => intro x _ hx; exact hx
  | cons s M ih =>
    intro x hM hx
    refine ih _ (fun t ht => hM t (List.mem_cons_of_mem _ ht)) ?_
    obtain ⟨b1, b2, b3, b4, b5, b6, b7⟩ := Cl.right_bounds (Vw.log_spec (hM s (List.mem_cons_self ..))).1
    unfold Vw.sizeStep
    split
    · exact ⟨by dsimp only; omega, by dsimp only; omega, by dsimp only; omega, by dsimp only; omega⟩
    · exact hx
end
end Go.Proofs.YtpceoogmkbcfmaaGreatDoor
