/- Layer 6 in plain words: contradiction. No program stands in this text. -/
import Derived.Test.YtjjdmmhlcdfplaaDoorClaimP
namespace Go.Proofs.YtjjdmmhlcdfplaaDoor.Cl
open Go.Lib Go.RowKit
set_option linter.unusedVariables false
set_option linter.unusedSimpArgs false

/-- The kinds' own conditions. -/
def Beats (a b : Clm) : Prop :=
  (a.kind = 0 ∧ b.kind = 2 ∧ refutes a b = true) ∨ (a.kind = 2 ∧ b.kind = 0 ∧ refutes b a = true) ∨
  (a.kind = 1 ∧ b.kind = 1 ∧ ((a.time = b.time ∧ a.n ≠ b.n) ∨ (a.time < b.time ∧ b.n < a.n) ∨ (b.time < a.time ∧ a.n < b.n))) ∨
  (a.kind = 3 ∧ b.kind = 3 ∧ a.text = b.text ∧ a.n ≠ b.n) ∨
  (a.kind = b.kind ∧ (a.kind = 0 ∨ a.kind = 4) ∧ a.n = b.n ∧ a.time = b.time ∧ a.text ≠ b.text)
theorem contra_iff (a b : Clm) : contra a b = true ↔ right a = true ∧ right b = true ∧ Beats a b := by
  unfold contra
  by_cases hr : right a = false ∨ right b = false
  · rw [if_pos hr]
    constructor
    · intro h; cases h
    · rintro ⟨h1, h2, _⟩
      rcases hr with h | h
      · rw [h1] at h; cases h
      · rw [h2] at h; cases h
  · rw [if_neg hr]
    have ha : right a = true := by cases h : right a with | true => rfl | false => exact absurd (Or.inl h) hr
    have hb : right b = true := by cases h : right b with | true => rfl | false => exact absurd (Or.inr h) hr
    obtain ⟨k1, k2, _⟩ := right_bounds ha
    obtain ⟨k3, k4, _⟩ := right_bounds hb
    simp only [ha, hb, true_and]
    unfold Beats
    by_cases c1 : a.kind = 0 ∧ b.kind = 2
    · rw [if_pos c1]
      constructor
      · intro h; exact Or.inl ⟨c1.1, c1.2, h⟩
      · rintro (⟨_, _, h⟩ | ⟨h, _⟩ | ⟨h, _⟩ | ⟨h, _⟩ | ⟨h, _⟩)
        · exact h
        all_goals omega
    rw [if_neg c1]
    by_cases c2 : a.kind = 2 ∧ b.kind = 0
    · rw [if_pos c2]
      constructor
      · intro h; exact Or.inr (Or.inl ⟨c2.1, c2.2, h⟩)
      · rintro (⟨h, h', _⟩ | ⟨_, _, h⟩ | ⟨h, _⟩ | ⟨h, _⟩ | ⟨h, _⟩)
        · omega
        · exact h
        all_goals omega
    rw [if_neg c2]
    by_cases c3 : a.kind ≠ b.kind
    · rw [if_pos c3]
      constructor
      · intro h; cases h
      · rintro (⟨h, h', _⟩ | ⟨h, h', _⟩ | ⟨h, h', _⟩ | ⟨h, h', _⟩ | ⟨h, _⟩) <;> omega
    rw [if_neg c3]
    by_cases c4 : a.kind = 1
    · rw [if_pos c4]
      by_cases ct : a.time = b.time
      · rw [if_pos ct, decide_eq_true_eq]
        constructor
        · intro h; exact Or.inr (Or.inr (Or.inl ⟨c4, by omega, Or.inl ⟨ct, h⟩⟩))
        · rintro (⟨h, h', _⟩ | ⟨h, h', _⟩ | ⟨_, _, h⟩ | ⟨h, h', _⟩ | ⟨h, h', _⟩) <;> omega
      · rw [if_neg ct, Bool.and_eq_true, bne_iff_ne, decide_eq_true_eq]
        have hd : (decide (a.time < b.time) ≠ decide (a.n < b.n)) ↔ ¬ (a.time < b.time ↔ a.n < b.n) := by
          rw [ne_eq, decide_eq_decide]
        rw [hd]
        constructor
        · intro h; exact Or.inr (Or.inr (Or.inl ⟨c4, by omega, by omega⟩))
        · rintro (⟨h, h', _⟩ | ⟨h, h', _⟩ | ⟨_, _, h⟩ | ⟨h, h', _⟩ | ⟨h, h', _⟩) <;> omega
    rw [if_neg c4]
    by_cases c5 : a.kind = 3
    · rw [if_pos c5, Bool.and_eq_true, decide_eq_true_eq, decide_eq_true_eq]
      constructor
      · intro h; exact Or.inr (Or.inr (Or.inr (Or.inl ⟨c5, by omega, h.1, h.2⟩)))
      · rintro (⟨h, h', _⟩ | ⟨h, h', _⟩ | ⟨h, _⟩ | ⟨_, _, h⟩ | ⟨h, h', _⟩)
        · omega
        · omega
        · omega
        · exact h
        · omega
    rw [if_neg c5]
    simp only [Bool.and_eq_true, decide_eq_true_eq]
    constructor
    · rintro ⟨⟨⟨h1, h2⟩, h3⟩, h4⟩
      exact Or.inr (Or.inr (Or.inr (Or.inr ⟨by omega, by omega, h2, h3, h4⟩)))
    · rintro (⟨h, h', _⟩ | ⟨h, h', _⟩ | ⟨h, _⟩ | ⟨h, _⟩ | ⟨h, h', h1, h2, h3⟩)
      · omega
      · omega
      · omega
      · omega
      · exact ⟨⟨⟨by omega, h1⟩, h2⟩, h3⟩
theorem beats_symm {a b : Clm} (h : Beats a b) : Beats b a := by
  rcases h with ⟨h1, h2, h3⟩ | ⟨h1, h2, h3⟩ | ⟨h1, h2, h3⟩ | ⟨h1, h2, h3, h4⟩ | ⟨h1, h2, h3, h4, h5⟩
  · exact Or.inr (Or.inl ⟨h2, h1, h3⟩)
  · exact Or.inl ⟨h2, h1, h3⟩
  · exact Or.inr (Or.inr (Or.inl ⟨h2, h1, by omega⟩))
  · exact Or.inr (Or.inr (Or.inr (Or.inl ⟨h2, h1, h3.symm, fun e => h4 e.symm⟩)))
  · exact Or.inr (Or.inr (Or.inr (Or.inr ⟨h1.symm, by omega, h3.symm, h4.symm, fun e => h5 e.symm⟩)))
theorem contra_symm (a b : Clm) : contra a b = contra b a := by
  rw [Bool.eq_iff_iff, contra_iff, contra_iff]
  exact ⟨fun ⟨h1, h2, h3⟩ => ⟨h2, h1, beats_symm h3⟩, fun ⟨h1, h2, h3⟩ => ⟨h2, h1, beats_symm h3⟩⟩
theorem contra_self (a : Clm) : contra a a = false := by
  rw [← Bool.not_eq_true, contra_iff]
  rintro ⟨_, _, h⟩
  rcases h with ⟨h1, h2, h3⟩ | ⟨h1, h2, h3⟩ | ⟨h1, h2, h3⟩ | ⟨h1, h2, h3, h4⟩ | ⟨h1, h2, h3, h4, h5⟩
  · omega
  · omega
  · omega
  · exact h4 rfl
  · exact h5 rfl
theorem contra_kinds {a b : Clm} (h : contra a b = true) : right a = true ∧ right b = true ∧ a ≠ b ∧ ((a.kind = b.kind ∧ a.kind ≠ 2) ∨ (a.kind = 0 ∧ b.kind = 2) ∨ (a.kind = 2 ∧ b.kind = 0)) := by
  have hne : a ≠ b := fun e => by rw [e, contra_self] at h; cases h
  obtain ⟨h1, h2, h3⟩ := (contra_iff a b).1 h
  refine ⟨h1, h2, hne, ?_⟩
  rcases h3 with ⟨h1, h2, h3⟩ | ⟨h1, h2, h3⟩ | ⟨h1, h2, h3⟩ | ⟨h1, h2, h3, h4⟩ | ⟨h1, h2, h3, h4, h5⟩ <;> omega
/-- As the reference has it. -/
def one (a b : Clm) : Bool :=
  if a.kind = 2 ∧ b.kind = 0 then refutes b a
  else if a.kind ≠ b.kind then false
  else if a.kind = 0 then decide (a.n = b.n) && decide (a.text ≠ b.text)
  else if a.kind = 1 then (decide (a.time = b.time) && decide (a.n ≠ b.n)) || (decide (a.time < b.time) && decide (b.n < a.n))
  else if a.kind = 3 then decide (a.text = b.text) && decide (a.n ≠ b.n)
  else if a.kind = 4 then decide (a.time = b.time) && decide (a.n = b.n) && decide (a.text ≠ b.text)
  else false
theorem right_time0 {c : Clm} (h : right c = true) (hk : c.kind = 0) : c.time = 0 := by
  unfold right at h
  rw [if_pos hk] at h
  simp only [Bool.and_eq_true, decide_eq_true_eq] at h
  exact h.1.1.2
theorem one_iff {a b : Clm} (ha : right a = true) (hb : right b = true) : (one a b || one b a) = true ↔ Beats a b := by
  obtain ⟨k1, k2, _⟩ := right_bounds ha
  obtain ⟨k3, k4, _⟩ := right_bounds hb
  have ta := right_time0 ha
  have tb := right_time0 hb
  rw [Bool.or_eq_true]
  have h1 : ∀ a b : Clm, one a b = true ↔ (a.kind = 2 ∧ b.kind = 0 ∧ refutes b a = true) ∨ (a.kind = b.kind ∧ ((a.kind = 0 ∧ a.n = b.n ∧ a.text ≠ b.text) ∨ (a.kind = 1 ∧ ((a.time = b.time ∧ a.n ≠ b.n) ∨ (a.time < b.time ∧ b.n < a.n))) ∨ (a.kind = 3 ∧ a.text = b.text ∧ a.n ≠ b.n) ∨ (a.kind = 4 ∧ a.time = b.time ∧ a.n = b.n ∧ a.text ≠ b.text))) := by
    intro a b
    unfold one
    (repeat' split) <;> (try simp only [Bool.and_eq_true, Bool.or_eq_true, decide_eq_true_eq]) <;> (constructor) <;> intro h <;> (try (simp_all; done)) <;> (try omega)
    all_goals (rcases h with ⟨e1, e2, e3⟩ | ⟨e0, ⟨e1, e2, e3⟩ | ⟨e1, e2⟩ | ⟨e1, e2, e3⟩ | ⟨e1, e2, e3, e4⟩⟩ <;> first | (exfalso; omega) | exact ⟨e2, e3⟩ | exact ⟨⟨e2, e3⟩, e4⟩ | exact e2)
  rw [h1, h1]
  unfold Beats
  constructor
  · rintro ((⟨h, h', hr⟩ | ⟨he, ⟨h, h', hr⟩ | ⟨h, hr⟩ | ⟨h, h', hr⟩ | ⟨h, h', h'', hr⟩⟩) | (⟨h, h', hr⟩ | ⟨he, ⟨h, h', hr⟩ | ⟨h, hr⟩ | ⟨h, h', hr⟩ | ⟨h, h', h'', hr⟩⟩))
    · exact Or.inr (Or.inl ⟨h, h', hr⟩)
    · exact Or.inr (Or.inr (Or.inr (Or.inr ⟨he, Or.inl h, h', by rw [ta h, tb (by omega)], hr⟩)))
    · exact Or.inr (Or.inr (Or.inl ⟨h, by omega, by omega⟩))
    · exact Or.inr (Or.inr (Or.inr (Or.inl ⟨h, by omega, h', hr⟩)))
    · exact Or.inr (Or.inr (Or.inr (Or.inr ⟨he, Or.inr h, h'', h', hr⟩)))
    · exact Or.inl ⟨h', h, hr⟩
    · exact Or.inr (Or.inr (Or.inr (Or.inr ⟨he.symm, by omega, h'.symm, by rw [ta (by omega), tb h], fun e => hr e.symm⟩)))
    · exact Or.inr (Or.inr (Or.inl ⟨by omega, h, by omega⟩))
    · exact Or.inr (Or.inr (Or.inr (Or.inl ⟨by omega, h, h'.symm, fun e => hr e.symm⟩)))
    · exact Or.inr (Or.inr (Or.inr (Or.inr ⟨he.symm, by omega, h''.symm, h'.symm, fun e => hr e.symm⟩)))
  · rintro (⟨h, h', hr⟩ | ⟨h, h', hr⟩ | ⟨h, h', hr⟩ | ⟨h, h', h'', hr⟩ | ⟨h, h', h2, h3, h4⟩)
    · exact Or.inr (Or.inl ⟨h', h, hr⟩)
    · exact Or.inl (Or.inl ⟨h, h', hr⟩)
    · rcases hr with hr | hr | hr
      · exact Or.inl (Or.inr ⟨by omega, Or.inr (Or.inl ⟨h, Or.inl hr⟩)⟩)
      · exact Or.inl (Or.inr ⟨by omega, Or.inr (Or.inl ⟨h, Or.inr hr⟩)⟩)
      · exact Or.inr (Or.inr ⟨by omega, Or.inr (Or.inl ⟨h', Or.inr hr⟩)⟩)
    · exact Or.inl (Or.inr ⟨by omega, Or.inr (Or.inr (Or.inl ⟨h, h'', hr⟩))⟩)
    · rcases h' with h' | h'
      · exact Or.inl (Or.inr ⟨h, Or.inl ⟨h', h2, h4⟩⟩)
      · exact Or.inl (Or.inr ⟨h, Or.inr (Or.inr (Or.inr ⟨h', h3, h2, h4⟩))⟩)
theorem contra_ref (a b : Clm) : (right a && right b && (one a b || one b a)) = contra a b := by
  rw [Bool.eq_iff_iff, contra_iff, Bool.and_eq_true, Bool.and_eq_true]
  constructor
  · rintro ⟨⟨h1, h2⟩, h3⟩; exact ⟨h1, h2, (one_iff h1 h2).1 h3⟩
  · rintro ⟨h1, h2, h3⟩; exact ⟨⟨h1, h2⟩, (one_iff h1 h2).2 h3⟩
end Go.Proofs.YtjjdmmhlcdfplaaDoor.Cl
