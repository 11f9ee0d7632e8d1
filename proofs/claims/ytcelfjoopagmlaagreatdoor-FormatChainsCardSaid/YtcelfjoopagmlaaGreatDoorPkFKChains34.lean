/- The walk of FormatBack. -/
import Derived.Test.YtcelfjoopagmlaaGreatDoorPkFKChains32
import Derived.Test.YtcelfjoopagmlaaGreatDoorPkFKChains33
import Derived.Test.YtcelfjoopagmlaaGreatDoorPkFKChains14
import Derived.Test.YtcelfjoopagmlaaGreatDoorPkFKChains23
namespace Go.Proofs.YtcelfjoopagmlaaGreatDoor
open Go.RowKit Go.MapKept
set_option linter.unusedVariables false
set_option linter.unusedSimpArgs false
attribute [local irreducible] Calls
open Fm (Ty Vl Str nameB rightTy rightVl)

theorem has_iff {t : Ty} {v : Vl} : Fm.has t v = true ↔ rightTy 4 t = true ∧ rightVl 4 v = true ∧ Fm.fits 4 t v = true := by
  unfold Fm.has
  simp only [Bool.and_eq_true]
  exact ⟨fun h => ⟨h.1.1, h.1.2, h.2⟩, fun h => ⟨⟨h.1, h.2.1⟩, h.2.2⟩⟩
theorem fWrite_has {t : Ty} {v : Vl} (h : Fm.has t v = true) : fWrite t v = (Fm.writeF 4 t v, 0) := by
  unfold fWrite; rw [if_neg (by rw [(has_iff.1 h).1]; simp), if_neg (by rw [h]; simp)]
theorem fWrite_not {t : Ty} {v : Vl} (h1 : rightTy 4 t = true) (h : Fm.has t v = false) : fWrite t v = ([], 13) := by
  unfold fWrite; rw [if_neg (by rw [h1]; simp), if_pos h]
theorem fRead_some {t : Ty} {s : Str} {v : Vl} (h1 : rightTy 4 t = true) (h : Fm.readF 4 t s = some v) : fRead t s = (v, 0) := by
  unfold fRead; rw [if_neg (by rw [h1]; simp), h]
/-- What is written for a type is read for one that it is a subtype of. -/
theorem back_read {a b : Ty} {v : Vl} (h : Fm.has a v = true) (hok : Fm.okI 4 v) (hb : rightTy 4 b = true) (hs : Fm.sub 4 a b = true) : fRead b (Fm.writeF 4 a v) = (Fm.proj 4 b v, 0) := by
  obtain ⟨h1, h2, h3⟩ := has_iff.1 h
  refine fRead_some hb ?_
  rw [Fm.read_write (Nat.le_refl _) h1 hb h2 h3 hok, if_pos hs]
end Go.Proofs.YtcelfjoopagmlaaGreatDoor
