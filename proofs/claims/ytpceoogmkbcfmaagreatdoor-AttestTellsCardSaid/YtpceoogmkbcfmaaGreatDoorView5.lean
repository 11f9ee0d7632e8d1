/- The contracts of the view's Clash, and of what the statements' helpers do: Words, Turned, Few, signed. -/
import Derived.Test.YtpceoogmkbcfmaaGreatDoorView4
import Derived.Test.YtpceoogmkbcfmaaGreatDoorClaimRf
namespace Go.Proofs.YtpceoogmkbcfmaaGreatDoor
open Go.RowKit
set_option linter.unusedVariables false
set_option linter.unusedSimpArgs false
attribute [local irreducible] Calls

theorem idx_find {α β : Type} (p : β → Bool) (f : α → β) (L : List α) : (idxI p (L.map f) = -1 ∧ L.find? (fun x => p (f x)) = none) ∨ ∃ n : Nat, ∃ h : n < L.length, idxI p (L.map f) = n ∧ L.find? (fun x => p (f x)) = some L[n] := by
  unfold idxI
  cases h : (L.map f).findIdx? p with
  | none =>
    refine Or.inl ⟨rfl, ?_⟩
    rw [List.find?_eq_none]
    intro x hx
    have := List.findIdx?_eq_none_iff.1 h (f x) (List.mem_map.2 ⟨x, hx, rfl⟩)
    simpa using this
  | some n =>
    obtain ⟨hn, hp, hno⟩ := List.findIdx?_eq_some_iff_getElem.1 h
    have hn' : n < L.length := by simpa using hn
    refine Or.inr ⟨n, hn', rfl, ?_⟩
    rw [List.find?_eq_some_iff_getElem]
    refine ⟨by simpa using hp, n, hn', rfl, fun j hj => ?_⟩
    have := hno j hj
    simpa using this
end Go.Proofs.YtpceoogmkbcfmaaGreatDoor
