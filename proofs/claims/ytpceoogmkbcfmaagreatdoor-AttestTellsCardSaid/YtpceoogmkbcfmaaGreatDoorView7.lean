/- The contract of signed: what the statements of layer 8 let a ring sign. -/
import Derived.Test.YtpceoogmkbcfmaaGreatDoorView6
namespace Go.Proofs.YtpceoogmkbcfmaaGreatDoor
open Go.RowKit
set_option linter.unusedVariables false
set_option linter.unusedSimpArgs false
attribute [local irreducible] Calls

/-- Behind k of them: the ring, and what has been signed. -/
def Sgd (B : Nat) (w : World) (r : RingR) (Lr : List Bk.Seal) (l : List Vw.Say) (k : Nat) (vo : Value) (z : World) : Prop :=
  ∃ r', RingAt B z r' (Vw.signedL Lr (l.take k)).1 ∧ r'.rb = r.rb ∧ z.ownsRow w.heap.size tSigned 3 vo k (flatS (Vw.signedL Lr (l.take k)).2) ∧ Upd r.foot w z ∧ ∀ j, r'.foot j → r.foot j ∨ w.heap.size ≤ j
def SignedPost (B : Nat) (r : RingR) (Lr : List Bk.Seal) (l : List Vw.Say) (w : World) (e : Ending) (w' : World) : Prop := ∃ vo, e = .returned vo ∧ Sgd B w r Lr l l.length vo w'
theorem ring_row {B B' : Nat} {w : World} {r : RingR} {Lr : List Bk.Seal} {v : Value} {n : Nat} {xs : List Value} (h : RingAt B w r Lr) (ho : w.ownsRow B' tSigned 3 v n xs) : ∀ k, v.ownBlock = some k → ¬ r.foot k := by
  rintro k hk (rfl | rfl | e)
  · obtain ⟨_, cs, e1⟩ := own_block ho hk
    rw [h.blk] at e1
    injection e1 with e1
    injection e1 with _ e1
    exact absurd e1 (by decide)
  · obtain ⟨_, cs, e1⟩ := own_block ho hk
    obtain ⟨es, clock, e2, _⟩ := h.map
    rw [e1] at e2
    cases e2
  · obtain ⟨_, cs, e1⟩ := own_block ho hk
    obtain ⟨_, cs', e2⟩ := own_block h.own e
    rw [e1] at e2
    injection e2 with e2
    injection e2 with _ e2
    exact absurd e2 (by decide)
theorem own_sl {B sz : Nat} {e : TypeId} {w : World} {v : Value} {n : Nat} {xs : List Value} (h : w.ownsRow B e sz v n xs) : ∃ a cap, v = .slice a n cap := by
  rcases h.2 with ⟨h1, h2⟩ | ⟨g, cap, cur, h1, _⟩
  · exact ⟨none, 0, by rw [h1, h2]⟩
  · exact ⟨_, _, h1⟩
end Go.Proofs.YtpceoogmkbcfmaaGreatDoor
