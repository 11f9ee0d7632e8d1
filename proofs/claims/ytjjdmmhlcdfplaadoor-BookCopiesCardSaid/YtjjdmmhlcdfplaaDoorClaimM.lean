/- Layer 6 in plain words: what is true of a log. No program stands in this text. -/
import Derived.Test.YtjjdmmhlcdfplaaDoorClaimQ
namespace Go.Proofs.YtjjdmmhlcdfplaaDoor.Cl
open Go.Lib Go.RowKit
set_option linter.unusedVariables false
set_option linter.unusedSimpArgs false

/-- Whether none of the first n texts has the key. -/
def hasKey (k t : List UInt8) : Bool := (key t).2 && decide ((key t).1 = k)
def absentB (l : List (List UInt8)) (n : Nat) (k : List UInt8) : Bool := (l.take n).all fun t => !hasKey k t
def entryC (l : List (List UInt8)) (i : Nat) : Clm := ⟨0, i, 0, l.getD i []⟩
def entriesTo (l : List (List UInt8)) (k : Nat) : List Clm := (List.range k).map (entryC l)
def szN (L : Nat) (grow : List Int) : Nat → Nat
  | 0 => 0
  | k + 1 => min (szN L grow k + (grow.getD k 0).toNat % 3) L
def sizeC (L : Nat) (grow : List Int) (i : Nat) : Clm := ⟨1, szN L grow (i + 1), 10 * i, []⟩
def sizesTo (L : Nat) (grow : List Int) (k : Nat) : List Clm := (List.range k).map (sizeC L grow)
def absRow (l : List (List UInt8)) (k : List UInt8) (n : Nat) : List Clm := ((List.range n).filter fun m => absentB l m k).map fun (m : Nat) => ⟨2, (m : Int), 0, k⟩
def absKey (l : List (List UInt8)) (k : List UInt8) : List Clm := if k.length ≤ 100 then absRow l k (l.length + 1) else []
def absTo (l : List (List UInt8)) (keys : List (List UInt8)) (i : Nat) : List Clm := (keys.take i).flatMap (absKey l)
def allOf (l : List (List UInt8)) (grow : List Int) (keys : List (List UInt8)) : List Clm := entriesTo l l.length ++ sizesTo l.length grow grow.length ++ absTo l keys keys.length

theorem entriesTo_succ (l : List (List UInt8)) (k : Nat) : entriesTo l (k + 1) = entriesTo l k ++ [entryC l k] := by simp [entriesTo, List.range_succ]
theorem sizesTo_succ (L : Nat) (grow : List Int) (k : Nat) : sizesTo L grow (k + 1) = sizesTo L grow k ++ [sizeC L grow k] := by simp [sizesTo, List.range_succ]
theorem absRow_succ (l : List (List UInt8)) (k : List UInt8) (n : Nat) : absRow l k (n + 1) = absRow l k n ++ (if absentB l n k then [⟨2, n, 0, k⟩] else []) := by
  simp only [absRow, List.range_succ, List.filter_append, List.map_append]
  cases h : absentB l n k <;> simp [h]
theorem absTo_succ (l : List (List UInt8)) (keys : List (List UInt8)) (i : Nat) (h : i < keys.length) : absTo l keys (i + 1) = absTo l keys i ++ absKey l keys[i] := by
  simp only [absTo]; rw [List.take_succ_eq_append_getElem h, List.flatMap_append]; simp
theorem szN_le (L : Nat) (grow : List Int) (k : Nat) : szN L grow k ≤ L := by
  cases k with
  | zero => exact Nat.zero_le _
  | succ k => exact Nat.min_le_right _ _
theorem szN_mono {L : Nat} {grow : List Int} {i k : Nat} (h : i ≤ k) : szN L grow i ≤ szN L grow k := by
  induction k with
  | zero => rw [show i = 0 by omega]; exact Nat.le_refl _
  | succ k ih =>
    by_cases h2 : i = k + 1
    · rw [h2]; exact Nat.le_refl _
    · have := ih (by omega)
      have h3 := szN_le L grow i
      simp only [szN]
      omega
theorem entriesTo_len (l : List (List UInt8)) (k : Nat) : (entriesTo l k).length = k := by simp [entriesTo]
theorem sizesTo_len (L : Nat) (grow : List Int) (k : Nat) : (sizesTo L grow k).length = k := by simp [sizesTo]
theorem absRow_len (l : List (List UInt8)) (k : List UInt8) (n : Nat) : (absRow l k n).length ≤ n := by
  simp only [absRow, List.length_map]
  exact Nat.le_trans (List.length_filter_le _ _) (by simp)
theorem absKey_len (l : List (List UInt8)) (k : List UInt8) : (absKey l k).length ≤ l.length + 1 := by
  unfold absKey
  split
  · exact absRow_len _ _ _
  · simp
theorem absTo_len (l : List (List UInt8)) (keys : List (List UInt8)) (i : Nat) : (absTo l keys i).length ≤ i * (l.length + 1) := by
  induction i with
  | zero => simp [absTo]
  | succ i ih =>
    by_cases h : i < keys.length
    · rw [absTo_succ l keys i h, List.length_append]
      have := absKey_len l keys[i]
      rw [Nat.succ_mul]; omega
    · have e : absTo l keys (i + 1) = absTo l keys i := by simp only [absTo]; rw [List.take_of_length_le (by omega), List.take_of_length_le (by omega)]
      rw [e, Nat.succ_mul]; omega
theorem absent_mem {l : List (List UInt8)} {n : Nat} {k : List UInt8} (h : absentB l n k = true) {i : Nat} (hi : i < n) (hl : i < l.length) : hasKey k l[i] = false := by
  have := List.all_eq_true.1 h l[i] (by
    rw [List.mem_iff_getElem]
    exact ⟨i, by simp; omega, by simp⟩)
  simpa using this
theorem absent_no {l : List (List UInt8)} {n : Nat} {k : List UInt8} (h : absentB l n k = false) : ∃ i, i < n ∧ ∃ hl : i < l.length, hasKey k l[i] = true := by
  have h2 : ¬ (l.take n).all (fun t => !hasKey k t) = true := by rw [show (l.take n).all (fun t => !hasKey k t) = absentB l n k from rfl, h]; simp
  rw [List.all_eq_true] at h2
  simp only [Classical.not_forall] at h2
  obtain ⟨t, ht, hn⟩ := h2
  obtain ⟨i, hi, e⟩ := List.mem_iff_getElem.1 ht
  have hi2 : i < n ∧ i < l.length := by simp at hi; omega
  refine ⟨i, hi2.1, hi2.2, ?_⟩
  rw [List.getElem_take] at e
  rw [e]
  simpa using hn
theorem absentB_succ (l : List (List UInt8)) (n : Nat) (k : List UInt8) (h : n < l.length) : absentB l (n + 1) k = (absentB l n k && !hasKey k l[n]) := by
  simp only [absentB]; rw [List.take_succ_eq_append_getElem h, List.all_append]; simp

/-- The claims that are true of the log, as the statement makes them: each of them is of one of three forms. -/
inductive TrueOf (l : List (List UInt8)) (grow : List Int) : Clm → Prop where
  | entry (i : Nat) (h : i < l.length) : TrueOf l grow (entryC l i)
  | size (i : Nat) (h : i < grow.length) : TrueOf l grow (sizeC l.length grow i)
  | absent (n : Nat) (k : List UInt8) (h : absentB l n k = true) : TrueOf l grow ⟨2, n, 0, k⟩
theorem true_all {l : List (List UInt8)} {grow : List Int} {keys : List (List UInt8)} {c : Clm} (h : c ∈ allOf l grow keys) : TrueOf l grow c := by
  rcases List.mem_append.1 h with h | h
  · rcases List.mem_append.1 h with h | h
    · obtain ⟨i, hi, rfl⟩ := List.mem_map.1 h
      exact .entry i (List.mem_range.1 hi)
    · obtain ⟨i, hi, rfl⟩ := List.mem_map.1 h
      exact .size i (List.mem_range.1 hi)
  · obtain ⟨k, _, hk⟩ := List.mem_flatMap.1 h
    unfold absKey at hk
    split at hk
    · obtain ⟨m, hm, rfl⟩ := List.mem_map.1 hk
      exact .absent m k (List.mem_filter.1 hm).2
    · cases hk
theorem refutes_false {l : List (List UInt8)} {i n : Nat} {k : List UInt8} (hi : i < l.length) (h : absentB l n k = true) : refutes (entryC l i) ⟨2, n, 0, k⟩ = false := by
  rw [← Bool.not_eq_true]
  intro h2
  unfold refutes at h2
  simp only [Bool.and_eq_true, decide_eq_true_eq] at h2
  obtain ⟨⟨h3, h4⟩, h5⟩ := h2
  have h6 : i < n := by have : ((i : Int) < (n : Int)) := h4; omega
  have h7 := absent_mem h h6 hi
  have e : (entryC l i).text = l[i] := by simp [entryC, hi]
  rw [e] at h3 h5
  rw [hasKey, h3, decide_eq_true h5] at h7
  cases h7
theorem true_no {l : List (List UInt8)} {grow : List Int} {a b : Clm} (ha : TrueOf l grow a) (hb : TrueOf l grow b) : contra a b = false := by
  rw [← Bool.not_eq_true, contra_iff]
  rintro ⟨_, _, h⟩
  cases ha with
  | entry i hi =>
    cases hb with
    | entry k hk =>
      rcases h with ⟨h1, h2, h3⟩ | ⟨h1, h2, h3⟩ | ⟨h1, h2, h3⟩ | ⟨h1, h2, h3, h4⟩ | ⟨h1, h2, h3, h4, h5⟩
      · cases h2
      · cases h1
      · cases h1
      · cases h1
      · have h6 : (i : Int) = (k : Int) := h3
        have h7 : i = k := by omega
        rw [h7] at h5
        exact h5 rfl
    | size k hk => rcases h with ⟨h1, h2, h3⟩ | ⟨h1, h2, h3⟩ | ⟨h1, h2, h3⟩ | ⟨h1, h2, h3, h4⟩ | ⟨h1, h2, h3, h4, h5⟩ <;> first | (cases h1; done) | cases h2
    | absent n k hk =>
      rcases h with ⟨h1, h2, h3⟩ | ⟨h1, h2, h3⟩ | ⟨h1, h2, h3⟩ | ⟨h1, h2, h3, h4⟩ | ⟨h1, h2, h3, h4, h5⟩
      · rw [refutes_false hi hk] at h3; cases h3
      · cases h1
      · cases h1
      · cases h1
      · cases h1
  | size i hi =>
    cases hb with
    | entry k hk => rcases h with ⟨h1, h2, h3⟩ | ⟨h1, h2, h3⟩ | ⟨h1, h2, h3⟩ | ⟨h1, h2, h3, h4⟩ | ⟨h1, h2, h3, h4, h5⟩ <;> first | (cases h1; done) | cases h2
    | size k hk =>
      rcases h with ⟨h1, h2, h3⟩ | ⟨h1, h2, h3⟩ | ⟨h1, h2, h3⟩ | ⟨h1, h2, h3, h4⟩ | ⟨h1, h2, h3, h4, h5⟩
      · cases h1
      · cases h1
      · have h3' : ((10 * i : Int) = 10 * k ∧ ¬ ((szN l.length grow (i + 1) : Int) = (szN l.length grow (k + 1) : Int))) ∨ ((10 * i : Int) < 10 * k ∧ (szN l.length grow (k + 1) : Int) < (szN l.length grow (i + 1) : Int)) ∨ ((10 * k : Int) < 10 * i ∧ (szN l.length grow (i + 1) : Int) < (szN l.length grow (k + 1) : Int)) := h3
        by_cases e : i = k
        · subst e
          omega
        · rcases Nat.lt_or_gt_of_ne e with e | e
          · have := szN_mono (L := l.length) (grow := grow) (i := i + 1) (k := k + 1) (by omega)
            omega
          · have := szN_mono (L := l.length) (grow := grow) (i := k + 1) (k := i + 1) (by omega)
            omega
      · cases h1
      · rcases h2 with h2 | h2 <;> cases h2
    | absent n k hk => rcases h with ⟨h1, h2, h3⟩ | ⟨h1, h2, h3⟩ | ⟨h1, h2, h3⟩ | ⟨h1, h2, h3, h4⟩ | ⟨h1, h2, h3, h4, h5⟩ <;> first | (cases h1; done) | cases h2
  | absent n k hk =>
    cases hb with
    | entry i hi =>
      rcases h with ⟨h1, h2, h3⟩ | ⟨h1, h2, h3⟩ | ⟨h1, h2, h3⟩ | ⟨h1, h2, h3, h4⟩ | ⟨h1, h2, h3, h4, h5⟩
      · cases h1
      · rw [refutes_false hi hk] at h3; cases h3
      · cases h1
      · cases h1
      · cases h1
    | size i hi => rcases h with ⟨h1, h2, h3⟩ | ⟨h1, h2, h3⟩ | ⟨h1, h2, h3⟩ | ⟨h1, h2, h3, h4⟩ | ⟨h1, h2, h3, h4, h5⟩ <;> first | (cases h1; done) | cases h2
    | absent m j hj => rcases h with ⟨h1, h2, h3⟩ | ⟨h1, h2, h3⟩ | ⟨h1, h2, h3⟩ | ⟨h1, h2, h3, h4⟩ | ⟨h1, h2, h3, h4, h5⟩ <;> first | (cases h1; done) | (cases h2; done) | (rcases h2 with h2 | h2 <;> cases h2)
/-- What is wrong about the log. -/
def Wrong (l : List (List UInt8)) (grow : List Int) (c : Clm) : Prop :=
  (c.kind = 2 ∧ c.n ≤ l.length ∧ absentB l c.n.toNat c.text = false) ∨ (∃ i, ∃ h : i < l.length, c.kind = 0 ∧ c.n = i ∧ c.text ≠ l[i]) ∨
  ∃ i, i < grow.length ∧ c.kind = 1 ∧ c.time = 10 * i ∧ c.n ≠ szN l.length grow (i + 1)
theorem mem_entry {l : List (List UInt8)} {grow : List Int} {keys : List (List UInt8)} {i : Nat} (h : i < l.length) : entryC l i ∈ allOf l grow keys :=
  List.mem_append_left _ (List.mem_append_left _ (List.mem_map.2 ⟨i, List.mem_range.2 h, rfl⟩))
theorem mem_size {l : List (List UInt8)} {grow : List Int} {keys : List (List UInt8)} {i : Nat} (h : i < grow.length) : sizeC l.length grow i ∈ allOf l grow keys :=
  List.mem_append_left _ (List.mem_append_right _ (List.mem_map.2 ⟨i, List.mem_range.2 h, rfl⟩))
theorem right_size {L : Nat} {grow : List Int} {i : Nat} (hL : L ≤ 8) (hi : i < 6) : right (sizeC L grow i) = true := by
  have h := szN_le L grow (i + 1)
  unfold right within
  have e1 : (sizeC L grow i).kind = 1 := rfl
  have e2 : (sizeC L grow i).n = (szN L grow (i + 1) : Int) := rfl
  have e3 : (sizeC L grow i).time = 10 * (i : Int) := rfl
  have e4 : (sizeC L grow i).text = [] := rfl
  rw [e1, e2, e3, e4]
  simp
  omega
theorem wrong_beaten {l : List (List UInt8)} {grow : List Int} {keys : List (List UInt8)} {c : Clm} (hr : right c = true) (hall : ∀ i, i < l.length → right (entryC l i) = true) (hL : l.length ≤ 8) (hg : grow.length ≤ 6) (h : Wrong l grow c) :
    ∃ a, a ∈ allOf l grow keys ∧ contra c a = true := by
  have hb := right_bounds hr
  rcases h with ⟨h1, h2, h3⟩ | ⟨i, hi, h1, h2, h3⟩ | ⟨i, hi, h1, h2, h3⟩
  · obtain ⟨i, hi, hl, hk⟩ := absent_no h3
    refine ⟨_, mem_entry hl, (contra_iff _ _).2 ⟨hr, hall i hl, Or.inr (Or.inl ⟨h1, rfl, ?_⟩)⟩⟩
    have e : (entryC l i).text = l[i] := by simp [entryC, hl]
    unfold refutes
    rw [e]
    unfold hasKey at hk
    simp only [Bool.and_eq_true, decide_eq_true_eq] at hk ⊢
    exact ⟨⟨hk.1, by show (i : Int) < c.n; omega⟩, hk.2⟩
  · refine ⟨_, mem_entry hi, (contra_iff _ _).2 ⟨hr, hall i hi, Or.inr (Or.inr (Or.inr (Or.inr ⟨h1, Or.inl h1, h2, right_time0 hr h1, ?_⟩)))⟩⟩
    have e : (entryC l i).text = l[i] := by simp [entryC, hi]
    rw [e]; exact h3
  · exact ⟨_, mem_size hi, (contra_iff _ _).2 ⟨hr, right_size hL (by omega), Or.inr (Or.inr (Or.inl ⟨h1, rfl, Or.inl ⟨h2, h3⟩⟩))⟩⟩
theorem not_right_no {c a : Clm} (h : right c = false) : contra c a = false := by
  rw [← Bool.not_eq_true, contra_iff]
  rintro ⟨h1, _⟩
  rw [h] at h1; cases h1
end Go.Proofs.YtjjdmmhlcdfplaaDoor.Cl
