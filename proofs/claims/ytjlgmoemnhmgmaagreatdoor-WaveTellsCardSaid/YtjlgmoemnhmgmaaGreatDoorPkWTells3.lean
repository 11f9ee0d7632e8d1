/- The place of the first element of which something holds. -/
import Derived.Test.YtjlgmoemnhmgmaaGreatDoorPkWTells1
import Derived.Test.YtjlgmoemnhmgmaaGreatDoorPkWTells2
import Derived.Lib.SliceRun
namespace Go.Proofs.YtjlgmoemnhmgmaaGreatDoor
open Go.RowKit
attribute [local irreducible] Calls
set_option linter.unusedVariables false
set_option linter.unusedSimpArgs false

/-- The place of the first one of which p holds, or -1. -/
def idxI {α : Type} (p : α → Bool) (X : List α) : Int := match X.findIdx? p with
  | some i => i
  | none => -1
theorem idx_hit {α : Type} {p : α → Bool} {X : List α} {n : Nat} (hn : n < X.length) (hp : p X[n] = true) (hno : ∀ j (h : j < X.length), j < n → p X[j] = false) : idxI p X = n := by
  have : X.findIdx? p = some n := by
    rw [List.findIdx?_eq_some_iff_getElem]
    exact ⟨hn, hp, fun j hj => by rw [hno j (by omega) hj]; simp⟩
  unfold idxI; rw [this]
theorem idx_miss {α : Type} {p : α → Bool} {X : List α} (hno : ∀ j (h : j < X.length), p X[j] = false) : idxI p X = -1 := by
  have : X.findIdx? p = none := by
    rw [List.findIdx?_eq_none_iff]
    intro x hx
    obtain ⟨j, hj, rfl⟩ := List.mem_iff_getElem.1 hx
    exact hno j hj
  unfold idxI; rw [this]
theorem idx_any {α : Type} (p : α → Bool) (X : List α) : decide (0 ≤ idxI p X) = X.any p := by
  unfold idxI
  cases h : X.findIdx? p with
  | none =>
    have := List.findIdx?_eq_none_iff.1 h
    rw [Bool.eq_iff_iff]
    simp only [decide_eq_true_eq, List.any_eq_true]
    constructor
    · intro h; omega
    · rintro ⟨x, hx, hp⟩; rw [this x hx] at hp; cases hp
  | some i =>
    obtain ⟨hi, hp, _⟩ := List.findIdx?_eq_some_iff_getElem.1 h
    rw [Bool.eq_iff_iff]
    simp only [decide_eq_true_eq, List.any_eq_true]
    exact ⟨fun _ => ⟨X[i], List.getElem_mem hi, hp⟩, fun _ => by omega⟩
theorem own_block {B sz : Nat} {e : TypeId} {w : World} {v : Value} {n : Nat} {xs : List Value} (h : w.ownsRow B e sz v n xs) {k : Nat} (hk : v.ownBlock = some k) : B ≤ k ∧ ∃ cs, w.heap[k]? = some (.cells cs e (0, 0)) := by
  rcases h.2 with ⟨rfl, _⟩ | ⟨g, cap, cur, rfl, hb, hg, _⟩
  · cases hk
  · obtain rfl : g = k := by simpa [Value.ownBlock] using hk
    exact ⟨hb, _, hg⟩
theorem owns_upd' {B sz : Nat} {S : Nat → Prop} {e : TypeId} {w w' : World} {v : Value} {n : Nat} {xs : List Value} (h : w.ownsRow B e sz v n xs) (u : Upd S w w') (hs : ∀ k, v.ownBlock = some k → ¬ S k) : w'.ownsRow B e sz v n xs := by
  obtain ⟨h1, h2⟩ := h
  refine ⟨h1, ?_⟩
  rcases h2 with h2 | ⟨g, cap, cur, rfl, hb, hg, r⟩
  · exact Or.inl h2
  · exact Or.inr ⟨g, cap, cur, rfl, hb, u.keep hg (hs g rfl), r⟩
theorem owns_empty (w : World) (e : TypeId) (sz : Nat) : (w.alloc (.cells #[] e)).ownsRow w.heap.size e sz (.slice (some ⟨w.heap.size, 0, none⟩) 0 0) 0 [] :=
  ⟨by simp, Or.inr ⟨w.heap.size, 0, #[], rfl, Nat.le_refl _, heap_new w _, Nat.le_refl _, Nat.zero_le _, by simp, by simp⟩⟩
/-- 'len(m)'. -/
theorem MapL.len {P : Program} {w : World} {k : TypeId} {b : Nat} {l : List (Value × Value)} (h : MapL P k w b l) : ∃ es clock, w.heap[b]? = some (.map es clock) ∧ es.size = l.length := by
  obtain ⟨es, clock, hb, hp, _⟩ := h
  exact ⟨es, clock, hb, by rw [← hp.length_eq, List.length_map, Array.length_toList]⟩
end Go.Proofs.YtjlgmoemnhmgmaaGreatDoor
