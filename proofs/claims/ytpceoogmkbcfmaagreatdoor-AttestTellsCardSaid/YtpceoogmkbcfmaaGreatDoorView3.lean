/- The contracts of what the view asks of the library: slices.IndexFunc and ContainsFunc over claims, Index and Contains over signatures, Clone; and of Claims. -/
import Derived.Test.YtpceoogmkbcfmaaGreatDoorView1
import Derived.Test.YtpceoogmkbcfmaaGreatDoorClaimE
namespace Go.Proofs.YtpceoogmkbcfmaaGreatDoor
open Go.RowKit
set_option linter.unusedVariables false
set_option linter.unusedSimpArgs false
attribute [local irreducible] Calls

theorem cell4' {w : World} {b : Nat} {a0 a1 a2 a3 : Value} {T : TypeId} (h : w.heap[b]? = some (.cells #[a0, a1, a2, a3] T (0, 0))) :
    w.cell? ⟨b, 0, none⟩ = some a0 ∧ w.cell? ⟨b, 1, none⟩ = some a1 ∧ w.cell? ⟨b, 2, none⟩ = some a2 ∧ w.cell? ⟨b, 3, none⟩ = some a3 := by
  refine ⟨?_, ?_, ?_, ?_⟩ <;> (rw [cells_cell h]; rfl)
def clmO (c : Cl.Clm) : Obj := .cells #[.int .i64 c.kind, .int .i64 c.n, .int .i64 c.time, .string ⟨c.text.toArray⟩] tC
theorem clm_cells {lo hi : Nat} {w : World} {v : Value} {X : List Cl.Clm} (h : SlS 4 lo hi w v (X.map cml)) :
    ∃ a cap, v = .slice a X.length cap ∧ X.length ≤ maxLen ∧ (X = [] ∨ ∃ b off, a = some ⟨b, off, none⟩ ∧ b < hi ∧ b < w.heap.size ∧ ∀ i (h : i < X.length),
      w.cell? ⟨b, off + i * 4, none⟩ = some (.int .i64 X[i].kind) ∧ w.cell? ⟨b, off + i * 4 + 1, none⟩ = some (.int .i64 X[i].n) ∧ w.cell? ⟨b, off + i * 4 + 2, none⟩ = some (.int .i64 X[i].time) ∧ w.cell? ⟨b, off + i * 4 + 3, none⟩ = some (.string ⟨X[i].text.toArray⟩)) := by
  obtain ⟨a, cap, rfl, hm, h⟩ := h.open_
  rw [List.length_map] at hm
  refine ⟨a, cap, by rw [List.length_map], hm, ?_⟩
  rcases h with h | ⟨b, off, rfl, _, hb1, hb, hc⟩
  · exact Or.inl (List.map_eq_nil_iff.1 h)
  · refine Or.inr ⟨b, off, rfl, hb1, hb, fun i hi => ?_⟩
    have h2 := (hc i (by simpa using hi)).2
    simp only [List.getElem_map] at h2
    exact ⟨by rw [← Nat.add_zero (off + i * 4), h2 0 (by omega)]; rfl, by rw [h2 1 (by omega)]; rfl, by rw [h2 2 (by omega)]; rfl, by rw [h2 3 (by omega)]; rfl⟩
theorem sgn_cells {lo hi : Nat} {w : World} {v : Value} {X : List Bk.Sgn} (h : SlS 3 lo hi w v (X.map sgl)) :
    ∃ a cap, v = .slice a X.length cap ∧ X.length ≤ maxLen ∧ (X = [] ∨ ∃ b off, a = some ⟨b, off, none⟩ ∧ b < hi ∧ b < w.heap.size ∧ ∀ i (h : i < X.length),
      w.cell? ⟨b, off + i * 3, none⟩ = some (.int .i64 X[i].key) ∧ w.cell? ⟨b, off + i * 3 + 1, none⟩ = some (.string ⟨X[i].text.toArray⟩) ∧ w.cell? ⟨b, off + i * 3 + 2, none⟩ = some (.int .i64 X[i].mark)) := by
  obtain ⟨a, cap, rfl, hm, h⟩ := h.open_
  rw [List.length_map] at hm
  refine ⟨a, cap, by rw [List.length_map], hm, ?_⟩
  rcases h with h | ⟨b, off, rfl, _, hb1, hb, hc⟩
  · exact Or.inl (List.map_eq_nil_iff.1 h)
  · refine Or.inr ⟨b, off, rfl, hb1, hb, fun i hi => ?_⟩
    have h2 := (hc i (by simpa using hi)).2
    simp only [List.getElem_map] at h2
    exact ⟨by rw [← Nat.add_zero (off + i * 3), h2 0 (by omega)]; rfl, by rw [h2 1 (by omega)]; rfl, by rw [h2 2 (by omega)]; rfl⟩
theorem clm_sls {B : Nat} {w : World} {v : Value} {L : List Bk.Sgn} (h : w.ownsRow B tC 4 v L.length (flatM L)) : SlS 4 B w.heap.size w v ((L.map Vw.claimOf).map cml) :=
  SlS.of_owns (by rw [List.map_map]; exact h) (by simp) (by omega) (fun y hy => by
    obtain ⟨z, _, rfl⟩ := List.mem_map.1 hy
    rfl)
theorem sgn_sls {B : Nat} {w : World} {v : Value} {L : List Bk.Sgn} (h : w.ownsRow B tSigned 3 v L.length (flatS L)) : SlS 3 B w.heap.size w v (L.map sgl) :=
  SlS.of_owns h (by simp) (by omega) (fun y hy => by
    obtain ⟨z, _, rfl⟩ := List.mem_map.1 hy
    rfl)
/-- The place of the first one of which p holds, or -1. -/
def idxI {α : Type} (p : α → Bool) (X : List α) : Int := match X.findIdx? p with
  | some i => i
  | none => -1
theorem idx_hit {α : Type} {p : α → Bool} {X : List α} {n : Nat} (hn : n < X.length) (hp : p X[n] = true) (hno : ∀ j (h : j < X.length), j < n → p X[j] = false) : idxI p X = n := by
  have : X.findIdx? p = some n := by
    rw [List.findIdx?_eq_some_iff_getElem]
    exact ⟨hn, hp, fun j hj => by rw [hno j (by omega) hj]; simp⟩
  unfold idxI; rw [this]
theorem idx_miss {α : Type} {p : α → Bool} {X : List α} (hno : ∀ j (h : j < X.length), p X[j] = false) : idxI p X = -1 := by
  have : X.findIdx? p = none := by
    rw [List.findIdx?_eq_none_iff]
    intro x hx
    obtain ⟨j, hj, rfl⟩ := List.mem_iff_getElem.1 hx
    exact hno j hj
  unfold idxI; rw [this]
theorem idx_any {α : Type} (p : α → Bool) (X : List α) : decide (0 ≤ idxI p X) = X.any p := by
  unfold idxI
  cases h : X.findIdx? p with
  | none =>
    have := List.findIdx?_eq_none_iff.1 h
    rw [Bool.eq_iff_iff]
    simp only [decide_eq_true_eq, List.any_eq_true]
    constructor
    · intro h; omega
    · rintro ⟨x, hx, hp⟩; rw [this x hx] at hp; cases hp
  | some i =>
    obtain ⟨hi, hp, _⟩ := List.findIdx?_eq_some_iff_getElem.1 h
    rw [Bool.eq_iff_iff]
    simp only [decide_eq_true_eq, List.any_eq_true]
    exact ⟨fun _ => ⟨X[i], List.getElem_mem hi, hp⟩, fun _ => by omega⟩
theorem sgn_far (x y : Bk.Sgn) (h : x ≠ y) : (x.key == y.key) = false ∨ (x.key == y.key) = true ∧ (x.text == y.text) = false ∨ (x.key == y.key) = true ∧ (x.text == y.text) = true ∧ (x.mark == y.mark) = false := by
  by_cases h1 : x.key = y.key
  · by_cases h2 : x.text = y.text
    · refine Or.inr (Or.inr ⟨beq_iff_eq.2 h1, beq_iff_eq.2 h2, beq_eq_false_iff_ne.2 fun h3 => h ?_⟩)
      cases x; cases y; simp_all
    · exact Or.inr (Or.inl ⟨beq_iff_eq.2 h1, beq_eq_false_iff_ne.2 h2⟩)
  · exact Or.inl (beq_eq_false_iff_ne.2 h1)
end Go.Proofs.YtpceoogmkbcfmaaGreatDoor
