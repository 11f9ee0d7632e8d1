/- Ring and view together in memory, apart from blocks that are to be kept; Accept there. The documentation's example. -/
import Derived.Test.YtagmlemlagbfkaaGreatDoorPkMTells14
namespace Go.Proofs.YtagmlemlagbfkaaGreatDoor
open Go.RowKit
set_option linter.unusedVariables false
set_option linter.unusedSimpArgs false
attribute [local irreducible] Calls

section
variable {B B' : Nat} {w w' : World} {q : RingR} {r : ViewR} {rb vb : Nat} {key : Int} {Lr : List Bk.Seal} {L : List Bk.Sgn} {F F' : Nat → Prop}
theorem ViewAt.base (h : ViewAt B w r rb key L) (hB : B' ≤ B) (hg : nG ≤ B') : ViewAt B' w r rb key L :=
  ⟨hg, Nat.le_trans hB h.vb, Nat.le_trans hB h.eb, Nat.le_trans hB h.ab, h.ne, h.blk, owns_base h.sown hB, owns_base h.cown hB, h.emap, h.amap, h.key⟩
/-- A ring at rb and a view at vb, from B on, apart from one another and from the blocks F. -/
def VS (B : Nat) (F : Nat → Prop) (w : World) (rb vb : Nat) (Lr : List Bk.Seal) (key : Int) (L : List Bk.Sgn) : Prop :=
  ∃ q r, q.rb = rb ∧ r.vb = vb ∧ RingAt B w q Lr ∧ ViewAt B w r rb key L ∧ Vw.VOk Lr key L ∧ (∀ j, q.foot j → ¬ r.foot j) ∧ ∀ j, F j → j < w.heap.size ∧ ¬ q.foot j ∧ ¬ r.foot j
theorem VS.nw (h : VS B F w rb vb Lr key L) (u : Nw w w') : VS B F w' rb vb Lr key L := by
  obtain ⟨q, r, h1, h2, h3, h4, h5, h6, h7⟩ := h
  exact ⟨q, r, h1, h2, h3.nw u, h4.nw u, h5, h6, fun j hj => ⟨Nat.lt_of_lt_of_le (h7 j hj).1 u.size, (h7 j hj).2⟩⟩
theorem VS.upd {S : Nat → Prop} (h : VS B F w rb vb Lr key L) (u : Upd S w w') (hS : ∀ q r, q.rb = rb → r.vb = vb → RingAt B w q Lr → ViewAt B w r rb key L → ∀ j, q.foot j ∨ r.foot j → ¬ S j) : VS B F w' rb vb Lr key L := by
  obtain ⟨q, r, h1, h2, h3, h4, h5, h6, h7⟩ := h
  have hh := hS q r h1 h2 h3 h4
  exact ⟨q, r, h1, h2, h3.upd u (fun j hj => hh j (Or.inl hj)), h4.upd u (fun j hj => hh j (Or.inr hj)), h5, h6, fun j hj => ⟨Nat.lt_of_lt_of_le (h7 j hj).1 u.size, (h7 j hj).2⟩⟩
theorem VS.less (h : VS B F w rb vb Lr key L) (hF : ∀ j, F' j → F j) : VS B F' w rb vb Lr key L := by
  obtain ⟨q, r, h1, h2, h3, h4, h5, h6, h7⟩ := h
  exact ⟨q, r, h1, h2, h3, h4, h5, h6, fun j hj => h7 j (hF j hj)⟩
theorem VS.ok (h : VS B F w rb vb Lr key L) : Vw.VOk Lr key L := by obtain ⟨q, r, h1, h2, h3, h4, h5, h6, h7⟩ := h; exact h5
theorem size_time {Lr : List Bk.Seal} (h : Vw.VOk Lr key L) : -1 ≤ (Vw.sizeOf L).2 ∧ (Vw.sizeOf L).2 ≤ 1073741824 ∧ 0 ≤ (Vw.sizeOf L).1 ∧ (Vw.sizeOf L).1 ≤ 1073741824 := by
  suffices ∀ (M : List Bk.Sgn) (x : Int × Int), (∀ s ∈ M, Vw.isLog s.text = true) → (-1 ≤ x.2 ∧ x.2 ≤ 1073741824 ∧ 0 ≤ x.1 ∧ x.1 ≤ 1073741824) → (-1 ≤ (M.foldl Vw.sizeStep x).2 ∧ (M.foldl Vw.sizeStep x).2 ≤ 1073741824 ∧ 0 ≤ (M.foldl Vw.sizeStep x).1 ∧ (M.foldl Vw.sizeStep x).1 ≤ 1073741824) from
    this L (0, -1) (fun s hs => (h.each s hs).2.2) (by dsimp only; omega)
  intro M
  induction M with
  | nil => intro x _ hx; exact hx
  | cons s M ih =>
    intro x hM hx
    refine ih _ (fun t ht => hM t (List.mem_cons_of_mem _ ht)) ?_
    obtain ⟨b1, b2, b3, b4, b5, b6, b7⟩ := Cl.right_bounds (Vw.log_spec (hM s (List.mem_cons_self ..))).1
    unfold Vw.sizeStep
    split
    · exact ⟨by dsimp only; omega, by dsimp only; omega, by dsimp only; omega, by dsimp only; omega⟩
    · exact hx
end
end Go.Proofs.YtagmlemlagbfkaaGreatDoor
