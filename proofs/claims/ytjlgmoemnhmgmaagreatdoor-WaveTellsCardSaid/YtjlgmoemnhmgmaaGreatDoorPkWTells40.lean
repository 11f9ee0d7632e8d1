/- The walk of WavePlan. -/
import Derived.Test.YtjlgmoemnhmgmaaGreatDoorPkWTells39
import Derived.Test.YtjlgmoemnhmgmaaGreatDoorPkWTells28
import Derived.Test.YtjlgmoemnhmgmaaGreatDoorPkWTells32
namespace Go.Proofs.YtjlgmoemnhmgmaaGreatDoor
open Go.RowKit
set_option linter.unusedVariables false
set_option linter.unusedSimpArgs false
attribute [local irreducible] Calls
open Fm (Ty Vl Str)
open Wv (Svc FL)

namespace Wv
theorem used_runs {f : FL} (hr : Rg f) (s : Nat) : decide ((s : Int) ∈ f.runs) = (allBits f).testBit s := by
  apply Bool.eq_iff_iff.2
  rw [decide_eq_true_iff, used_iff]
  constructor
  · intro h
    obtain ⟨i, hi, e⟩ := List.mem_iff_getElem.1 h
    refine ⟨i, hi, ?_⟩
    have := (run_lt hr hi).2
    omega
  · rintro ⟨i, hi, e⟩
    have := (run_lt hr hi).2
    rw [e] at this
    rw [← this]
    exact List.getElem_mem hi
def badTo (holds : List Int) (n : Nat) : Bool := (holds.take n).any holdB
theorem badTo_succ {holds : List Int} {n : Nat} (h : n < holds.length) : badTo holds (n + 1) = (badTo holds n || holdB holds[n]) := by
  unfold badTo
  rw [List.take_succ_eq_append_getElem h, List.any_append]; simp
theorem badTo_all (holds : List Int) : badTo holds holds.length = !holdsOk holds := by
  unfold badTo
  rw [List.take_length, holdsOk_eq]; simp
end Wv
theorem own_row_src {B sz n cap : Nat} {e : TypeId} {w : World} {a : Option Addr} {xs : List Value} (h : w.ownsRow B e sz (.slice a n cap) n xs) : n = 0 ∨ ∃ ad, a = some ad ∧ ∀ j u, xs[j]? = some u → w.cell? (ad.add j) = some u := by
  rcases Nat.eq_zero_or_pos n with h0 | h0
  · exact Or.inl h0
  · obtain ⟨g, c, e1, _, _⟩ := h.form h0
    injection e1 with e2 e3 e4
    subst e2
    exact Or.inr ⟨_, rfl, fun j u hu => h.cells (g := g) rfl j u hu⟩
end Go.Proofs.YtjlgmoemnhmgmaaGreatDoor
