/- What is true of a calm disk (up, no crash scheduled, no sync lost): opening a journal. Plain; no program stands in this text. -/
import Derived.Test.YtiambnllidingaaGreatDoorJrnInv
namespace Go.Proofs.YtiambnllidingaaGreatDoor.Jr
open Dk (Disk)
set_option linter.unusedVariables false
set_option linter.unusedSimpArgs false

structure Calm (D : Disk) : Prop where
  down : D.down = false
  armed : D.armed = 0
  lost : D.lost = 0
theorem calm_new : Calm Dk.new := ⟨rfl, rfl, rfl⟩
theorem Calm.may {D : Disk} (h : Calm D) {f : Int} (hf : 0 ≤ f ∧ f < 16) : Dk.may D f = 0 := by
  unfold Dk.may; rw [h.down, if_neg (by decide), if_neg (by omega)]
theorem Calm.write {D : Disk} (h : Calm D) {f : Int} (hf : 0 ≤ f ∧ f < 16) {n : Nat} {s : List UInt8} (hn : n + s.length ≤ 16777216) :
    (Dk.write D f n s).2 = 0 ∧ Calm (Dk.write D f n s).1 ∧ ((Dk.write D f n s).1.fs f).now = Dk.put (D.fs f).now n s ∧ ∀ g, g ≠ f → ((Dk.write D f n s).1.fs g) = D.fs g := by
  obtain ⟨h1, h2⟩ := write_up (f := f) (n := n) (s := s) hf hn h.down h.armed
  rw [h2]
  refine ⟨h1, ?_⟩
  unfold Dk.add
  split
  · rename_i e
    exact ⟨h, by rw [e]; unfold Dk.put; rw [if_pos rfl], fun _ _ => rfl⟩
  · refine ⟨⟨h.down, h.armed, h.lost⟩, ?_, fun g hg => ?_⟩
    · dsimp only; rw [Dk.setF_self]
    · dsimp only; rw [Dk.setF_ne _ _ hg]
theorem put_nil (s : List UInt8) : Dk.put [] 0 s = s := by
  unfold Dk.put
  split
  · rename_i e; exact e.symm
  · simp
/-- A journal is opened. -/
theorem Calm.open_ {D : Disk} (h : Calm D) {f : Int} (hf : 0 ≤ f ∧ f < 16) :
    ∃ D', openJ D f = (D', some ⟨f, recs (D.fs f).now, false⟩, 0) ∧ Calm D' ∧ (D'.fs f).now = forms (recs (D.fs f).now) := by
  obtain ⟨s1, s2, s3, s4⟩ := sync_up (f := f) hf h.down h.armed
  rw [h.lost, if_neg (by omega)] at s1 s4
  obtain ⟨t1, t2, t3, _⟩ := sync_done s1
  have hl := recs_len (D.fs f).now
  unfold openJ
  rw [if_neg (by omega), s1, if_neg (by omega), t1]
  by_cases hlt : (forms (recs (D.fs f).now)).length < (D.fs f).now.length
  · rw [if_pos hlt]
    obtain ⟨q1, q2, q3⟩ := trunc_up (D := (Dk.sync D f).1) (f := f) (n := ((forms (recs (D.fs f).now)).length : Nat)) hf s3 s2 (by omega) (by rw [t1]; omega)
    obtain ⟨r1, r2, r3⟩ := trunc_done (D := (Dk.sync D f).1) (f := f) (n := ((forms (recs (D.fs f).now)).length : Nat)) (by omega) q1
    rw [q1, if_neg (by omega)]
    refine ⟨_, rfl, ⟨r3, q2, q3.trans s4⟩, ?_⟩
    rw [r1, t1, Int.toNat_natCast]
    obtain ⟨r, e, _⟩ := recs_split _ (D.fs f).now (Nat.le_refl _)
    conv => lhs; arg 2; rw [e]
    rw [List.take_left]
  · rw [if_neg hlt]
    refine ⟨_, rfl, ⟨s3, s2, s4⟩, ?_⟩
    rw [t1]
    exact ((recs_pre _).eq_of_length (by omega)).symm
end Go.Proofs.YtiambnllidingaaGreatDoor.Jr
