/- Layer 7 in plain words: the first entry with a key. No program stands in this text. -/
import Derived.Test.YtjjdmmhlcdfplaaDoorBookP
namespace Go.Proofs.YtjjdmmhlcdfplaaDoor.Bk
open Go.Lib Go.RowKit
set_option linter.unusedVariables false
set_option linter.unusedSimpArgs false

def addF (F : List (List UInt8 × Nat)) (k : List UInt8) (i : Nat) : List (List UInt8 × Nat) := if F.any (fun p => decide (p.1 = k)) then F else F ++ [(k, i)]
/-- The keys of the entries, each with the first entry that has it. -/
def firstL (es : List (List UInt8)) : List (List UInt8 × Nat) := es.zipIdx.foldl (fun F p => addF F (Cl.key p.1).1 p.2) []
theorem first_snoc (es : List (List UInt8)) (t : List UInt8) : firstL (es ++ [t]) = addF (firstL es) (Cl.key t).1 es.length := by
  simp [firstL, List.zipIdx_append, List.foldl_append]
structure FirstOk (es : List (List UInt8)) (F : List (List UInt8 × Nat)) : Prop where
  at_ : ∀ k i, (k, i) ∈ F → ∃ h : i < es.length, (Cl.key es[i]).1 = k ∧ ∀ j (hj : j < i), (Cl.key (es[j]'(by omega))).1 ≠ k
  all : ∀ t ∈ es, ∃ i, ((Cl.key t).1, i) ∈ F
  one : ∀ k i j, (k, i) ∈ F → (k, j) ∈ F → i = j
theorem any_key {F : List (List UInt8 × Nat)} {k : List UInt8} : F.any (fun p => decide (p.1 = k)) = true ↔ ∃ i, (k, i) ∈ F := by
  rw [List.any_eq_true]
  constructor
  · rintro ⟨⟨a, i⟩, h, e⟩
    obtain rfl : a = k := by simpa using e
    exact ⟨i, h⟩
  · rintro ⟨i, h⟩
    exact ⟨(k, i), h, by simp⟩
theorem firstOk_rev (r : List (List UInt8)) : FirstOk r.reverse (firstL r.reverse) := by
  induction r with
  | nil => exact ⟨fun k i h => by simp [firstL] at h, fun t h => by simp at h, fun k i j h => by simp [firstL] at h⟩
  | cons t r ih =>
    rw [List.reverse_cons, first_snoc]
    generalize r.reverse = es at *
    unfold addF
    by_cases h : (firstL es).any (fun p => decide (p.1 = (Cl.key t).1)) = true
    · rw [if_pos h]
      refine ⟨fun k i hk => ?_, fun u hu => ?_, ih.one⟩
      · obtain ⟨h1, h2, h3⟩ := ih.at_ k i hk
        refine ⟨by rw [List.length_append]; omega, by rw [List.getElem_append_left h1]; exact h2, fun j hj => ?_⟩
        rw [List.getElem_append_left (by omega)]
        exact h3 j hj
      · rcases List.mem_append.1 hu with hu | hu
        · exact ih.all u hu
        · rw [List.mem_singleton.1 hu]; exact any_key.1 h
    · rw [if_neg h]
      have hno : ∀ i, ((Cl.key t).1, i) ∉ firstL es := fun i hi => h (any_key.2 ⟨i, hi⟩)
      refine ⟨fun k i hk => ?_, fun u hu => ?_, fun k i j hi hj => ?_⟩
      · rcases List.mem_append.1 hk with hk | hk
        · obtain ⟨h1, h2, h3⟩ := ih.at_ k i hk
          refine ⟨by rw [List.length_append]; omega, by rw [List.getElem_append_left h1]; exact h2, fun j hj => ?_⟩
          rw [List.getElem_append_left (by omega)]
          exact h3 j hj
        · simp only [List.mem_singleton, Prod.mk.injEq] at hk
          obtain ⟨rfl, rfl⟩ := hk
          refine ⟨by simp, by simp, fun j hj => ?_⟩
          rw [List.getElem_append_left hj]
          intro e
          obtain ⟨i, hi⟩ := ih.all _ (List.getElem_mem hj)
          rw [e] at hi
          exact hno i hi
      · rcases List.mem_append.1 hu with hu | hu
        · obtain ⟨i, hi⟩ := ih.all u hu
          exact ⟨i, List.mem_append_left _ hi⟩
        · rw [List.mem_singleton.1 hu]; exact ⟨es.length, List.mem_append_right _ (by simp)⟩
      · rcases List.mem_append.1 hi with hi | hi <;> rcases List.mem_append.1 hj with hj | hj
        · exact ih.one k i j hi hj
        · simp only [List.mem_singleton, Prod.mk.injEq] at hj
          obtain ⟨rfl, rfl⟩ := hj
          exact absurd hi (hno i)
        · simp only [List.mem_singleton, Prod.mk.injEq] at hi
          obtain ⟨rfl, rfl⟩ := hi
          exact absurd hj (hno j)
        · simp only [List.mem_singleton, Prod.mk.injEq] at hi hj
          omega
theorem firstOk (es : List (List UInt8)) : FirstOk es (firstL es) := by
  have := firstOk_rev es.reverse
  rwa [List.reverse_reverse] at this
theorem first_none {es : List (List UInt8)} {k : List UInt8} : (∀ i, (k, i) ∉ firstL es) ↔ ∀ t ∈ es, (Cl.key t).1 ≠ k := by
  constructor
  · intro h t ht e
    obtain ⟨i, hi⟩ := (firstOk es).all t ht
    rw [e] at hi
    exact h i hi
  · intro h i hi
    obtain ⟨h1, h2, _⟩ := (firstOk es).at_ k i hi
    exact h _ (List.getElem_mem h1) h2
theorem absent_first {es : List (List UInt8)} (hk : ∀ t ∈ es, (Cl.key t).2 = true) {k : List UInt8} {n i : Nat} (h : (k, i) ∈ firstL es) : Cl.absentB es n k = decide (n ≤ i) := by
  obtain ⟨h1, h2, h3⟩ := (firstOk es).at_ k i h
  by_cases hn : n ≤ i
  · rw [decide_eq_true hn]
    refine List.all_eq_true.2 fun t ht => ?_
    obtain ⟨j, hj, e⟩ := List.mem_iff_getElem.1 ht
    have hj2 : j < n := by simp at hj; omega
    rw [List.getElem_take] at e
    subst e
    unfold Cl.hasKey
    rw [decide_eq_false (h3 j (by omega))]
    simp
  · rw [decide_eq_false hn, ← Bool.not_eq_true]
    intro ha
    have := Cl.absent_mem ha (i := i) (by omega) h1
    unfold Cl.hasKey at this
    rw [hk _ (List.getElem_mem h1), decide_eq_true h2] at this
    cases this
theorem absent_first_none {es : List (List UInt8)} {k : List UInt8} {n : Nat} (h : ∀ i, (k, i) ∉ firstL es) : Cl.absentB es n k = true := by
  refine List.all_eq_true.2 fun t ht => ?_
  have := first_none.1 h t (List.mem_of_mem_take ht)
  unfold Cl.hasKey
  rw [decide_eq_false this]
  simp
end Go.Proofs.YtjjdmmhlcdfplaaDoor.Bk
