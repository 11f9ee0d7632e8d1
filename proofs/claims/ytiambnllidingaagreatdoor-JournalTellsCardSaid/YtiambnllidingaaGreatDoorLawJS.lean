/- The walk of the statement JournalStays. -/
import Derived.Test.YtiambnllidingaaGreatDoorJrnV
import Derived.Test.YtiambnllidingaaGreatDoorJrnSt
namespace Go.Proofs.YtiambnllidingaaGreatDoor
open Go.RowKit
set_option linter.unusedVariables false
set_option linter.unusedSimpArgs false
attribute [local irreducible] Calls

/-- What is kept is turned, and other blocks are kept from now on. -/
theorem GS.upd_keep {w : World} {db : Nat} {jp : Option (Nat × Jr.Jn)} {D : Dk.Disk} {F F' S : Nat → Prop} {z z' : World} (h : GS w db jp D F z) (u : Upd S z z') (hs : ∀ k, S k → (F k ∧ w.heap.size ≤ k) ∨ z.heap.size ≤ k) (hF : ∀ k, F' k → F k ∨ (z.heap.size ≤ k ∧ k < z'.heap.size)) : GS w db jp D F' z' := by
  have hz := u.size
  obtain ⟨d, e, h1, h2, h3, h4⟩ := h
  have hw := h2.size
  refine ⟨d, e, h1.upd u (fun k hk s => ?_), h2.trans' u (fun k hk s => ?_), fun k hk => ?_, fun p hp => ?_⟩
  · rcases hs k s with a | a
    · exact (h3 k a.1).2 hk
    · have := (h1.foot_lt hk).2; omega
  · rcases hs k s with a | a <;> omega
  · rcases hF k hk with a | a
    · exact ⟨by have := (h3 k a).1; omega, (h3 k a).2⟩
    · exact ⟨a.2, fun e => by have := (h1.foot_lt e).2; omega⟩
  · obtain ⟨x, e2, h5, h6, h7⟩ := h4 p hp
    refine ⟨x, e2, h5.upd u (fun k hk s => ?_), h6, fun k hk e3 => ?_⟩
    · rcases hs k s with a | a
      · exact h7 k a.1 hk
      · have := (h5.foot_lt hk).2; omega
    · rcases hF k hk with a | a
      · exact h7 k a e3
      · have := (h5.foot_lt e3).2; omega
/-- While the operations are carried out. -/
def StI (w : World) (db : Nat) (n : Nat) (jv : Value) (z : World) : Prop :=
  ∃ jp D, jv = ptrJ jp ∧ GS w db jp D (fun _ => False) z ∧ Jr.St D (jp.map (·.2)) n
/-- While the records are appended: the list that is wanted is the journal's. -/
def StJ (w : World) (db jb : Nat) (B n : Nat) (wv : Value) (z : World) : Prop :=
  ∃ j D, GS w db (some (jb, j)) D (fun k => wv.ownBlock = some k) z ∧ Jr.St D (some j) n ∧ z.ownsRow B tStrJ 1 wv j.recs.length (j.recs.map bsV) ∧ B ≤ z.heap.size
/-- While crashes come. -/
def StC (w : World) (db : Nat) (B : Nat) (wv : Value) (R : List (List UInt8)) (jv : Value) (z : World) : Prop :=
  ∃ jb j D, jv = .pointer (some ⟨jb, 0, none⟩) ∧ GS w db (some (jb, j)) D (fun k => wv.ownBlock = some k) z ∧ j.recs = R ∧ D.down = false ∧ D.armed = 0 ∧ D.lost = 0 ∧ Jr.Inv D 0 R R ∧ z.ownsRow B tStrJ 1 wv R.length (R.map bsV)
theorem OS.any {w : World} {db : Nat} {D : Dk.Disk} {f : Int} {F : Nat → Prop} {pv : Value} {z : World} {n : Nat} (h : OS w db (Jr.openJ D f).1 (Jr.openJ D f).2.1 F pv z) (hs : Jr.St (Jr.openJ D f).1 (Jr.openJ D f).2.1 n) : ∃ jp D', pv = ptrJ jp ∧ GS w db jp D' F z ∧ Jr.St D' (jp.map (·.2)) n := by
  obtain ⟨jp, h1, h2, h3⟩ := h
  exact ⟨jp, _, h2, h3, by rw [h1]; exact hs⟩
end Go.Proofs.YtiambnllidingaaGreatDoor
