/- Layer 6 in plain words: claims, their texts, what is read back, what contradicts. No program stands in this text. Layer 6 in plain words: contradiction. No program stands in this text. Layer 6 in plain words: what is true of a log. No program stands in this text. -/
import Derived.Test.YtkhdnfmnnapjlaaGreatDoorWireP
namespace Go.Proofs.YtkhdnfmnnapjlaaGreatDoor.Cl
open Go.Lib Go.RowKit
open Wire (St rNum rText numE textE)
set_option linter.unusedVariables false
set_option linter.unusedSimpArgs false

structure Clm where
  kind : Int
  n : Int
  time : Int
  text : List UInt8
deriving DecidableEq
def zero : Clm := ⟨0, 0, 0, []⟩
/-- The key with which the text of an entry begins. -/
def key (t : List UInt8) : List UInt8 × Bool := match rText (some t) with
  | (k, some _) => (k, true)
  | (_, none) => ([], false)
def within (n a b : Int) : Bool := decide (a ≤ n) && decide (n ≤ b)
def right (c : Clm) : Bool :=
  if c.kind = 0 then within c.n 0 199999 && decide (c.time = 0) && decide (c.text.length ≤ 20000) && (key c.text).2
  else if c.kind = 1 then within c.n 0 200000 && within c.time 0 1073741824 && decide (c.text = [])
  else if c.kind = 2 then within c.n 0 200000 && decide (c.time = 0) && decide (c.text.length ≤ 20000)
  else if c.kind = 3 then within c.n 0 1073741824 && decide (c.time = 0) && decide (c.text.length ≤ 20000)
  else if c.kind = 4 then within c.n 0 1073741824 && within c.time 0 1073741824 && decide (c.text.length ≤ 20000)
  else false
theorem right_bounds {c : Clm} (h : right c = true) : 0 ≤ c.kind ∧ c.kind ≤ 4 ∧ 0 ≤ c.n ∧ c.n ≤ 1073741824 ∧ 0 ≤ c.time ∧ c.time ≤ 1073741824 ∧ c.text.length ≤ 20000 := by
  unfold right within at h
  (repeat' split at h) <;> first | (cases h; done) | simp only [Bool.and_eq_true, decide_eq_true_eq] at h
  · omega
  · have h2 : c.text.length = 0 := by rw [h.2]; rfl
    omega
  · omega
  · omega
  · omega
def enc (c : Clm) : List UInt8 := numE c.kind ++ (numE c.n ++ (numE c.time ++ textE c.text))
def text (c : Clm) : List UInt8 := if right c then enc c else []
/-- The four parts, one after the other. -/
def parts (st : St) : Clm × St :=
  (⟨(rNum st).1, (rNum (rNum st).2).1, (rNum (rNum (rNum st).2).2).1, (rText (rNum (rNum (rNum st).2).2).2).1⟩, (rText (rNum (rNum (rNum st).2).2).2).2)
def read (s : List UInt8) : Clm × Bool := if (parts (some s)).2 = some [] ∧ right (parts (some s)).1 = true then ((parts (some s)).1, true) else (zero, false)

theorem parts_back {c : Clm} {r : List UInt8} (h : right c = true) : parts (some (enc c ++ r)) = (c, some r) := by
  obtain ⟨h1, h2, h3, h4, h5, h6, h7⟩ := right_bounds h
  have e : enc c ++ r = numE c.kind ++ (numE c.n ++ (numE c.time ++ (textE c.text ++ r))) := by simp only [enc, List.append_assoc]
  have a1 := Wire.rNum_back (n := c.kind) (r := numE c.n ++ (numE c.time ++ (textE c.text ++ r))) (by unfold Wire.Int64; omega) h1
  have a2 := Wire.rNum_back (n := c.n) (r := numE c.time ++ (textE c.text ++ r)) (by unfold Wire.Int64; omega) h3
  have a3 := Wire.rNum_back (n := c.time) (r := textE c.text ++ r) (by unfold Wire.Int64; omega) h5
  have a4 := Wire.rText_back (s := c.text) (r := r) (by omega)
  rw [e]
  simp only [parts, a1, a2, a3, a4]
theorem rNum_none : rNum none = (0, none) := by rfl
theorem rText_none' : rText none = ([], none) := by rfl
theorem parts_inv {s r : List UInt8} {c : Clm} (h : parts (some s) = (c, some r)) : s = enc c ++ r := by
  cases h1 : rNum (some s) with
  | mk k s1 =>
  cases s1 with
  | none =>
    exfalso
    have := congrArg Prod.snd h
    simp only [parts, h1, rNum_none, rText_none'] at this
    cases this
  | some r1 =>
  cases h2 : rNum (some r1) with
  | mk n s2 =>
  cases s2 with
  | none =>
    exfalso
    have := congrArg Prod.snd h
    simp only [parts, h1, h2, rNum_none, rText_none'] at this
    cases this
  | some r2 =>
  cases h3 : rNum (some r2) with
  | mk tm s3 =>
  cases s3 with
  | none =>
    exfalso
    have := congrArg Prod.snd h
    simp only [parts, h1, h2, h3, rText_none'] at this
    cases this
  | some r3 =>
  cases h4 : rText (some r3) with
  | mk t s4 =>
  have hc := congrArg Prod.fst h
  have hr := congrArg Prod.snd h
  simp only [parts, h1, h2, h3, h4] at hc hr
  subst hc hr
  rw [Wire.rNum_inv h1, Wire.rNum_inv h2, Wire.rNum_inv h3, Wire.rText_inv h4]
  simp only [enc, List.append_assoc]
theorem enc_ne (c : Clm) : enc c ≠ [] := by
  intro h
  have := congrArg List.length h
  simp only [enc, textE, List.length_append, List.length_cons, List.length_nil] at this
  omega
theorem read_text {c : Clm} (h : right c = true) : read (text c) = (c, true) := by
  have hp := parts_back (r := []) h
  rw [List.append_nil] at hp
  rw [text, if_pos h, read, hp, if_pos ⟨rfl, h⟩]
theorem read_inv {s : List UInt8} {c : Clm} (h : read s = (c, true)) : right c = true ∧ text c = s := by
  unfold read at h
  split at h
  · rename_i hh
    obtain ⟨h1, h2⟩ := hh
    simp only [Prod.mk.injEq, and_true] at h
    rw [h] at h2
    have hs := parts_inv (s := s) (r := []) (c := c) (Prod.ext h h1)
    rw [List.append_nil] at hs
    exact ⟨h2, by rw [text, if_pos h2, hs]⟩
  · simp at h
theorem read_no {s : List UInt8} (h : (read s).2 = false) : (read s).1 = zero := by
  unfold read at *
  split at h
  · cases h
  · rw [if_neg (by assumption)]
/-- What begins, or goes on behind, the text of a right claim is no text. -/
theorem read_more {c : Clm} {r : List UInt8} (h : right c = true) (hr : r ≠ []) : read (text c ++ r) = (zero, false) := by
  rw [text, if_pos h, read, parts_back h, if_neg]
  rintro ⟨h1, _⟩
  exact hr (by simpa using h1)
theorem read_less {c : Clm} {s r : List UInt8} (h : right c = true) (e : text c = s ++ r) (hr : r ≠ []) : read s = (zero, false) := by
  cases hb : read s with
  | mk d b =>
  cases b with
  | false => have := read_no (s := s) (by rw [hb]); rw [hb] at this; rw [show d = zero from this]
  | true =>
    obtain ⟨h1, h2⟩ := read_inv hb
    have h3 := read_more h1 hr
    rw [h2, ← e, read_text h] at h3
    simp at h3
theorem text_inj {a b : Clm} (ha : right a = true) : text a = text b ↔ a = b := by
  constructor
  · intro e
    by_cases hb : right b = true
    · have h1 := read_text ha
      rw [e, read_text hb] at h1
      exact (Prod.mk.inj h1).1.symm
    · rw [text, text, if_pos ha, if_neg hb] at e
      exact absurd e (enc_ne a)
  · intro e; rw [e]
/-- The key, as the program finds it. -/
def zeroE : List UInt8 := [48, 58, 44]
theorem zeroE_eq : textE [] = zeroE := by decide +kernel
theorem key_eq (t : List UInt8) : key t = if (rText (some t)).1 = [] then ([], decide (zeroE.length ≤ t.length) && decide (t.take zeroE.length = zeroE)) else ((rText (some t)).1, true) := by
  cases h : rText (some t) with
  | mk k s =>
  cases s with
  | none =>
    have hk : k = [] := by have := Wire.rText_fail (st := some t) (by rw [h]); rw [h] at this; exact this
    subst hk
    have hn : ¬ t.take zeroE.length = zeroE := fun e => by
      have e2 : t = textE [] ++ t.drop zeroE.length := by
        have := List.take_append_drop zeroE.length t
        rw [e] at this
        rw [zeroE_eq]; exact this.symm
      have := Wire.rText_back (s := []) (r := t.drop zeroE.length) (by simp)
      rw [← e2, h] at this
      simp at this
    simp only [key, h, if_true]
    rw [decide_eq_false hn, Bool.and_false]
  | some r =>
    simp only [key, h]
    by_cases hk : k = []
    · subst hk
      have e := Wire.rText_inv h
      rw [zeroE_eq] at e
      rw [if_pos rfl]
      have h1 : zeroE.length ≤ t.length := by rw [e, List.length_append]; omega
      have h2 : t.take zeroE.length = zeroE := by rw [e]; simp
      rw [decide_eq_true h1, decide_eq_true h2]; rfl
    · rw [if_neg hk]
/-- Which claims contradict each other. -/
def refutes (e a : Clm) : Bool := (key e.text).2 && decide (e.n < a.n) && decide ((key e.text).1 = a.text)
def contra (a b : Clm) : Bool :=
  if right a = false ∨ right b = false then false
  else if a.kind = 0 ∧ b.kind = 2 then refutes a b
  else if a.kind = 2 ∧ b.kind = 0 then refutes b a
  else if a.kind ≠ b.kind then false
  else if a.kind = 1 then (if a.time = b.time then decide (a.n ≠ b.n) else (decide (a.time < b.time) != decide (a.n < b.n)) && decide (a.n ≠ b.n))
  else if a.kind = 3 then decide (a.text = b.text) && decide (a.n ≠ b.n)
  else decide (a.kind ≠ 2) && decide (a.n = b.n) && decide (a.time = b.time) && decide (a.text ≠ b.text)
end Go.Proofs.YtkhdnfmnnapjlaaGreatDoor.Cl
namespace Go.Proofs.YtkhdnfmnnapjlaaGreatDoor.Cl
open Go.Lib Go.RowKit
set_option linter.unusedVariables false
set_option linter.unusedSimpArgs false

/-- The kinds' own conditions. -/
def Beats (a b : Clm) : Prop :=
  (a.kind = 0 ∧ b.kind = 2 ∧ refutes a b = true) ∨ (a.kind = 2 ∧ b.kind = 0 ∧ refutes b a = true) ∨
  (a.kind = 1 ∧ b.kind = 1 ∧ ((a.time = b.time ∧ a.n ≠ b.n) ∨ (a.time < b.time ∧ b.n < a.n) ∨ (b.time < a.time ∧ a.n < b.n))) ∨
  (a.kind = 3 ∧ b.kind = 3 ∧ a.text = b.text ∧ a.n ≠ b.n) ∨
  (a.kind = b.kind ∧ (a.kind = 0 ∨ a.kind = 4) ∧ a.n = b.n ∧ a.time = b.time ∧ a.text ≠ b.text)
theorem contra_iff (a b : Clm) : contra a b = true ↔ right a = true ∧ right b = true ∧ Beats a b := by
  unfold contra
  by_cases hr : right a = false ∨ right b = false
  · rw [if_pos hr]
    constructor
    · intro h; cases h
    · rintro ⟨h1, h2, _⟩
      rcases hr with h | h
      · rw [h1] at h; cases h
      · rw [h2] at h; cases h
  · rw [if_neg hr]
    have ha : right a = true := by cases h : right a with | true => rfl | false => exact absurd (Or.inl h) hr
    have hb : right b = true := by cases h : right b with | true => rfl | false => exact absurd (Or.inr h) hr
    obtain ⟨k1, k2, _⟩ := right_bounds ha
    obtain ⟨k3, k4, _⟩ := right_bounds hb
    simp only [ha, hb, true_and]
    unfold Beats
    by_cases c1 : a.kind = 0 ∧ b.kind = 2
    · rw [if_pos c1]
      constructor
      · intro h; exact Or.inl ⟨c1.1, c1.2, h⟩
      · rintro (⟨_, _, h⟩ | ⟨h, _⟩ | ⟨h, _⟩ | ⟨h, _⟩ | ⟨h, _⟩)
        · exact h
        all_goals omega
    rw [if_neg c1]
    by_cases c2 : a.kind = 2 ∧ b.kind = 0
    · rw [if_pos c2]
      constructor
      · intro h; exact Or.inr (Or.inl ⟨c2.1, c2.2, h⟩)
      · rintro (⟨h, h', _⟩ | ⟨_, _, h⟩ | ⟨h, _⟩ | ⟨h, _⟩ | ⟨h, _⟩)
        · omega
        · exact h
        all_goals omega
    rw [if_neg c2]
    by_cases c3 : a.kind ≠ b.kind
    · rw [if_pos c3]
      constructor
      · intro h; cases h
      · rintro (⟨h, h', _⟩ | ⟨h, h', _⟩ | ⟨h, h', _⟩ | ⟨h, h', _⟩ | ⟨h, _⟩) <;> omega
    rw [if_neg c3]
    by_cases c4 : a.kind = 1
    · rw [if_pos c4]
      by_cases ct : a.time = b.time
      · rw [if_pos ct, decide_eq_true_eq]
        constructor
        · intro h; exact Or.inr (Or.inr (Or.inl ⟨c4, by omega, Or.inl ⟨ct, h⟩⟩))
        · rintro (⟨h, h', _⟩ | ⟨h, h', _⟩ | ⟨_, _, h⟩ | ⟨h, h', _⟩ | ⟨h, h', _⟩) <;> omega
      · rw [if_neg ct, Bool.and_eq_true, bne_iff_ne, decide_eq_true_eq]
        have hd : (decide (a.time < b.time) ≠ decide (a.n < b.n)) ↔ ¬ (a.time < b.time ↔ a.n < b.n) := by
          rw [ne_eq, decide_eq_decide]
        rw [hd]
        constructor
        · intro h; exact Or.inr (Or.inr (Or.inl ⟨c4, by omega, by omega⟩))
        · rintro (⟨h, h', _⟩ | ⟨h, h', _⟩ | ⟨_, _, h⟩ | ⟨h, h', _⟩ | ⟨h, h', _⟩) <;> omega
    rw [if_neg c4]
    by_cases c5 : a.kind = 3
    · rw [if_pos c5, Bool.and_eq_true, decide_eq_true_eq, decide_eq_true_eq]
      constructor
      · intro h; exact Or.inr (Or.inr (Or.inr (Or.inl ⟨c5, by omega, h.1, h.2⟩)))
      · rintro (⟨h, h', _⟩ | ⟨h, h', _⟩ | ⟨h, _⟩ | ⟨_, _, h⟩ | ⟨h, h', _⟩)
        · omega
        · omega
        · omega
        · exact h
        · omega
    rw [if_neg c5]
    simp only [Bool.and_eq_true, decide_eq_true_eq]
    constructor
    · rintro ⟨⟨⟨h1, h2⟩, h3⟩, h4⟩
      exact Or.inr (Or.inr (Or.inr (Or.inr ⟨by omega, by omega, h2, h3, h4⟩)))
    · rintro (⟨h, h', _⟩ | ⟨h, h', _⟩ | ⟨h, _⟩ | ⟨h, _⟩ | ⟨h, h', h1, h2, h3⟩)
      · omega
      · omega
      · omega
      · omega
      · exact ⟨⟨⟨by omega, h1⟩, h2⟩, h3⟩
theorem beats_symm {a b : Clm} (h : Beats a b) : Beats b a := by
  rcases h with ⟨h1, h2, h3⟩ | ⟨h1, h2, h3⟩ | ⟨h1, h2, h3⟩ | ⟨h1, h2, h3, h4⟩ | ⟨h1, h2, h3, h4, h5⟩
  · exact Or.inr (Or.inl ⟨h2, h1, h3⟩)
  · exact Or.inl ⟨h2, h1, h3⟩
  · exact Or.inr (Or.inr (Or.inl ⟨h2, h1, by omega⟩))
  · exact Or.inr (Or.inr (Or.inr (Or.inl ⟨h2, h1, h3.symm, fun e => h4 e.symm⟩)))
  · exact Or.inr (Or.inr (Or.inr (Or.inr ⟨h1.symm, by omega, h3.symm, h4.symm, fun e => h5 e.symm⟩)))
theorem contra_symm (a b : Clm) : contra a b = contra b a := by
  rw [Bool.eq_iff_iff, contra_iff, contra_iff]
  exact ⟨fun ⟨h1, h2, h3⟩ => ⟨h2, h1, beats_symm h3⟩, fun ⟨h1, h2, h3⟩ => ⟨h2, h1, beats_symm h3⟩⟩
theorem contra_self (a : Clm) : contra a a = false := by
  rw [← Bool.not_eq_true, contra_iff]
  rintro ⟨_, _, h⟩
  rcases h with ⟨h1, h2, h3⟩ | ⟨h1, h2, h3⟩ | ⟨h1, h2, h3⟩ | ⟨h1, h2, h3, h4⟩ | ⟨h1, h2, h3, h4, h5⟩
  · omega
  · omega
  · omega
  · exact h4 rfl
  · exact h5 rfl
theorem contra_kinds {a b : Clm} (h : contra a b = true) : right a = true ∧ right b = true ∧ a ≠ b ∧ ((a.kind = b.kind ∧ a.kind ≠ 2) ∨ (a.kind = 0 ∧ b.kind = 2) ∨ (a.kind = 2 ∧ b.kind = 0)) := by
  have hne : a ≠ b := fun e => by rw [e, contra_self] at h; cases h
  obtain ⟨h1, h2, h3⟩ := (contra_iff a b).1 h
  refine ⟨h1, h2, hne, ?_⟩
  rcases h3 with ⟨h1, h2, h3⟩ | ⟨h1, h2, h3⟩ | ⟨h1, h2, h3⟩ | ⟨h1, h2, h3, h4⟩ | ⟨h1, h2, h3, h4, h5⟩ <;> omega
/-- As the reference has it. -/
def one (a b : Clm) : Bool :=
  if a.kind = 2 ∧ b.kind = 0 then refutes b a
  else if a.kind ≠ b.kind then false
  else if a.kind = 0 then decide (a.n = b.n) && decide (a.text ≠ b.text)
  else if a.kind = 1 then (decide (a.time = b.time) && decide (a.n ≠ b.n)) || (decide (a.time < b.time) && decide (b.n < a.n))
  else if a.kind = 3 then decide (a.text = b.text) && decide (a.n ≠ b.n)
  else if a.kind = 4 then decide (a.time = b.time) && decide (a.n = b.n) && decide (a.text ≠ b.text)
  else false
theorem right_time0 {c : Clm} (h : right c = true) (hk : c.kind = 0) : c.time = 0 := by
  unfold right at h
  rw [if_pos hk] at h
  simp only [Bool.and_eq_true, decide_eq_true_eq] at h
  exact h.1.1.2
theorem one_iff {a b : Clm} (ha : right a = true) (hb : right b = true) : (one a b || one b a) = true ↔ Beats a b := by
  obtain ⟨k1, k2, _⟩ := right_bounds ha
  obtain ⟨k3, k4, _⟩ := right_bounds hb
  have ta := right_time0 ha
  have tb := right_time0 hb
  rw [Bool.or_eq_true]
  have h1 : ∀ a b : Clm, one a b = true ↔ (a.kind = 2 ∧ b.kind = 0 ∧ refutes b a = true) ∨ (a.kind = b.kind ∧ ((a.kind = 0 ∧ a.n = b.n ∧ a.text ≠ b.text) ∨ (a.kind = 1 ∧ ((a.time = b.time ∧ a.n ≠ b.n) ∨ (a.time < b.time ∧ b.n < a.n))) ∨ (a.kind = 3 ∧ a.text = b.text ∧ a.n ≠ b.n) ∨ (a.kind = 4 ∧ a.time = b.time ∧ a.n = b.n ∧ a.text ≠ b.text))) := by
    intro a b
    unfold one
    (repeat' split) <;> (try simp only [Bool.and_eq_true, Bool.or_eq_true, decide_eq_true_eq]) <;> (constructor) <;> intro h <;> (try (simp_all; done)) <;> (try omega)
    all_goals (rcases h with ⟨e1, e2, e3⟩ | ⟨e0, ⟨e1, e2, e3⟩ | ⟨e1, e2⟩ | ⟨e1, e2, e3⟩ | ⟨e1, e2, e3, e4⟩⟩ <;> first | (exfalso; omega) | exact ⟨e2, e3⟩ | exact ⟨⟨e2, e3⟩, e4⟩ | exact e2)
  rw [h1, h1]
  unfold Beats
  constructor
  · rintro ((⟨h, h', hr⟩ | ⟨he, ⟨h, h', hr⟩ | ⟨h, hr⟩ | ⟨h, h', hr⟩ | ⟨h, h', h'', hr⟩⟩) | (⟨h, h', hr⟩ | ⟨he, ⟨h, h', hr⟩ | ⟨h, hr⟩ | ⟨h, h', hr⟩ | ⟨h, h', h'', hr⟩⟩))
    · exact Or.inr (Or.inl ⟨h, h', hr⟩)
    · exact Or.inr (Or.inr (Or.inr (Or.inr ⟨he, Or.inl h, h', by rw [ta h, tb (by omega)], hr⟩)))
    · exact Or.inr (Or.inr (Or.inl ⟨h, by omega, by omega⟩))
    · exact Or.inr (Or.inr (Or.inr (Or.inl ⟨h, by omega, h', hr⟩)))
    · exact Or.inr (Or.inr (Or.inr (Or.inr ⟨he, Or.inr h, h'', h', hr⟩)))
    · exact Or.inl ⟨h', h, hr⟩
    · exact Or.inr (Or.inr (Or.inr (Or.inr ⟨he.symm, by omega, h'.symm, by rw [ta (by omega), tb h], fun e => hr e.symm⟩)))
    · exact Or.inr (Or.inr (Or.inl ⟨by omega, h, by omega⟩))
    · exact Or.inr (Or.inr (Or.inr (Or.inl ⟨by omega, h, h'.symm, fun e => hr e.symm⟩)))
    · exact Or.inr (Or.inr (Or.inr (Or.inr ⟨he.symm, by omega, h''.symm, h'.symm, fun e => hr e.symm⟩)))
  · rintro (⟨h, h', hr⟩ | ⟨h, h', hr⟩ | ⟨h, h', hr⟩ | ⟨h, h', h'', hr⟩ | ⟨h, h', h2, h3, h4⟩)
    · exact Or.inr (Or.inl ⟨h', h, hr⟩)
    · exact Or.inl (Or.inl ⟨h, h', hr⟩)
    · rcases hr with hr | hr | hr
      · exact Or.inl (Or.inr ⟨by omega, Or.inr (Or.inl ⟨h, Or.inl hr⟩)⟩)
      · exact Or.inl (Or.inr ⟨by omega, Or.inr (Or.inl ⟨h, Or.inr hr⟩)⟩)
      · exact Or.inr (Or.inr ⟨by omega, Or.inr (Or.inl ⟨h', Or.inr hr⟩)⟩)
    · exact Or.inl (Or.inr ⟨by omega, Or.inr (Or.inr (Or.inl ⟨h, h'', hr⟩))⟩)
    · rcases h' with h' | h'
      · exact Or.inl (Or.inr ⟨h, Or.inl ⟨h', h2, h4⟩⟩)
      · exact Or.inl (Or.inr ⟨h, Or.inr (Or.inr (Or.inr ⟨h', h3, h2, h4⟩))⟩)
theorem contra_ref (a b : Clm) : (right a && right b && (one a b || one b a)) = contra a b := by
  rw [Bool.eq_iff_iff, contra_iff, Bool.and_eq_true, Bool.and_eq_true]
  constructor
  · rintro ⟨⟨h1, h2⟩, h3⟩; exact ⟨h1, h2, (one_iff h1 h2).1 h3⟩
  · rintro ⟨h1, h2, h3⟩; exact ⟨⟨h1, h2⟩, (one_iff h1 h2).2 h3⟩
end Go.Proofs.YtkhdnfmnnapjlaaGreatDoor.Cl
namespace Go.Proofs.YtkhdnfmnnapjlaaGreatDoor.Cl
open Go.Lib Go.RowKit
set_option linter.unusedVariables false
set_option linter.unusedSimpArgs false

/-- Whether none of the first n texts has the key. -/
def hasKey (k t : List UInt8) : Bool := (key t).2 && decide ((key t).1 = k)
def absentB (l : List (List UInt8)) (n : Nat) (k : List UInt8) : Bool := (l.take n).all fun t => !hasKey k t
def entryC (l : List (List UInt8)) (i : Nat) : Clm := ⟨0, i, 0, l.getD i []⟩
def entriesTo (l : List (List UInt8)) (k : Nat) : List Clm := (List.range k).map (entryC l)
def szN (L : Nat) (grow : List Int) : Nat → Nat
  | 0 => 0
  | k + 1 => min (szN L grow k + (grow.getD k 0).toNat % 3) L
def sizeC (L : Nat) (grow : List Int) (i : Nat) : Clm := ⟨1, szN L grow (i + 1), 10 * i, []⟩
def sizesTo (L : Nat) (grow : List Int) (k : Nat) : List Clm := (List.range k).map (sizeC L grow)
def absRow (l : List (List UInt8)) (k : List UInt8) (n : Nat) : List Clm := ((List.range n).filter fun m => absentB l m k).map fun (m : Nat) => ⟨2, (m : Int), 0, k⟩
def absKey (l : List (List UInt8)) (k : List UInt8) : List Clm := if k.length ≤ 100 then absRow l k (l.length + 1) else []
def absTo (l : List (List UInt8)) (keys : List (List UInt8)) (i : Nat) : List Clm := (keys.take i).flatMap (absKey l)
def allOf (l : List (List UInt8)) (grow : List Int) (keys : List (List UInt8)) : List Clm := entriesTo l l.length ++ sizesTo l.length grow grow.length ++ absTo l keys keys.length

theorem entriesTo_succ (l : List (List UInt8)) (k : Nat) : entriesTo l (k + 1) = entriesTo l k ++ [entryC l k] := by simp [entriesTo, List.range_succ]
theorem sizesTo_succ (L : Nat) (grow : List Int) (k : Nat) : sizesTo L grow (k + 1) = sizesTo L grow k ++ [sizeC L grow k] := by simp [sizesTo, List.range_succ]
theorem absRow_succ (l : List (List UInt8)) (k : List UInt8) (n : Nat) : absRow l k (n + 1) = absRow l k n ++ (if absentB l n k then [⟨2, n, 0, k⟩] else []) := by
  simp only [absRow, List.range_succ, List.filter_append, List.map_append]
  cases h : absentB l n k <;> simp [h]
theorem absTo_succ (l : List (List UInt8)) (keys : List (List UInt8)) (i : Nat) (h : i < keys.length) : absTo l keys (i + 1) = absTo l keys i ++ absKey l keys[i] := by
  simp only [absTo]; rw [List.take_succ_eq_append_getElem h, List.flatMap_append]; simp
theorem szN_le (L : Nat) (grow : List Int) (k : Nat) : szN L grow k ≤ L := by
  cases k with
  | zero => exact Nat.zero_le _
  | succ k => exact Nat.min_le_right _ _
theorem szN_mono {L : Nat} {grow : List Int} {i k : Nat} (h : i ≤ k) : szN L grow i ≤ szN L grow k := by
  induction k with
  | zero => rw [show i = 0 by omega]; exact Nat.le_refl _
  | succ k ih =>
    by_cases h2 : i = k + 1
    · rw [h2]; exact Nat.le_refl _
    · have := ih (by omega)
      have h3 := szN_le L grow i
      simp only [szN]
      omega
theorem entriesTo_len (l : List (List UInt8)) (k : Nat) : (entriesTo l k).length = k := by simp [entriesTo]
theorem sizesTo_len (L : Nat) (grow : List Int) (k : Nat) : (sizesTo L grow k).length = k := by simp [sizesTo]
theorem absRow_len (l : List (List UInt8)) (k : List UInt8) (n : Nat) : (absRow l k n).length ≤ n := by
  simp only [absRow, List.length_map]
  exact Nat.le_trans (List.length_filter_le _ _) (by simp)
theorem absKey_len (l : List (List UInt8)) (k : List UInt8) : (absKey l k).length ≤ l.length + 1 := by
  unfold absKey
  split
  · exact absRow_len _ _ _
  · simp
theorem absTo_len (l : List (List UInt8)) (keys : List (List UInt8)) (i : Nat) : (absTo l keys i).length ≤ i * (l.length + 1) := by
  induction i with
  | zero => simp [absTo]
  | succ i ih =>
    by_cases h : i < keys.length
    · rw [absTo_succ l keys i h, List.length_append]
      have := absKey_len l keys[i]
      rw [Nat.succ_mul]; omega
    · have e : absTo l keys (i + 1) = absTo l keys i := by simp only [absTo]; rw [List.take_of_length_le (by omega), List.take_of_length_le (by omega)]
      rw [e, Nat.succ_mul]; omega
theorem absent_mem {l : List (List UInt8)} {n : Nat} {k : List UInt8} (h : absentB l n k = true) {i : Nat} (hi : i < n) (hl : i < l.length) : hasKey k l[i] = false := by
  have := List.all_eq_true.1 h l[i] (by
    rw [List.mem_iff_getElem]
    exact ⟨i, by simp; omega, by simp⟩)
  simpa using this
theorem absent_no {l : List (List UInt8)} {n : Nat} {k : List UInt8} (h : absentB l n k = false) : ∃ i, i < n ∧ ∃ hl : i < l.length, hasKey k l[i] = true := by
  have h2 : ¬ (l.take n).all (fun t => !hasKey k t) = true := by rw [show (l.take n).all (fun t => !hasKey k t) = absentB l n k from rfl, h]; simp
  rw [List.all_eq_true] at h2
  simp only [Classical.not_forall] at h2
  obtain ⟨t, ht, hn⟩ := h2
  obtain ⟨i, hi, e⟩ := List.mem_iff_getElem.1 ht
  have hi2 : i < n ∧ i < l.length := by simp at hi; omega
  refine ⟨i, hi2.1, hi2.2, ?_⟩
  rw [List.getElem_take] at e
  rw [e]
  simpa using hn
theorem absentB_succ (l : List (List UInt8)) (n : Nat) (k : List UInt8) (h : n < l.length) : absentB l (n + 1) k = (absentB l n k && !hasKey k l[n]) := by
  simp only [absentB]; rw [List.take_succ_eq_append_getElem h, List.all_append]; simp

/-- The claims that are true of the log, as the statement makes them: each of them is of one of three forms. -/
inductive TrueOf (l : List (List UInt8)) (grow : List Int) : Clm → Prop where
  | entry (i : Nat) (h : i < l.length) : TrueOf l grow (entryC l i)
  | size (i : Nat) (h : i < grow.length) : TrueOf l grow (sizeC l.length grow i)
  | absent (n : Nat) (k : List UInt8) (h : absentB l n k = true) : TrueOf l grow ⟨2, n, 0, k⟩
theorem true_all {l : List (List UInt8)} {grow : List Int} {keys : List (List UInt8)} {c : Clm} (h : c ∈ allOf l grow keys) : TrueOf l grow c := by
  rcases List.mem_append.1 h with h | h
  · rcases List.mem_append.1 h with h | h
    · obtain ⟨i, hi, rfl⟩ := List.mem_map.1 h
      exact .entry i (List.mem_range.1 hi)
    · obtain ⟨i, hi, rfl⟩ := List.mem_map.1 h
      exact .size i (List.mem_range.1 hi)
  · obtain ⟨k, _, hk⟩ := List.mem_flatMap.1 h
    unfold absKey at hk
    split at hk
    · obtain ⟨m, hm, rfl⟩ := List.mem_map.1 hk
      exact .absent m k (List.mem_filter.1 hm).2
    · cases hk
theorem refutes_false {l : List (List UInt8)} {i n : Nat} {k : List UInt8} (hi : i < l.length) (h : absentB l n k = true) : refutes (entryC l i) ⟨2, n, 0, k⟩ = false := by
  rw [← Bool.not_eq_true]
  intro h2
  unfold refutes at h2
  simp only [Bool.and_eq_true, decide_eq_true_eq] at h2
  obtain ⟨⟨h3, h4⟩, h5⟩ := h2
  have h6 : i < n := by have : ((i : Int) < (n : Int)) := h4; omega
  have h7 := absent_mem h h6 hi
  have e : (entryC l i).text = l[i] := by simp [entryC, hi]
  rw [e] at h3 h5
  rw [hasKey, h3, decide_eq_true h5] at h7
  cases h7
theorem true_no {l : List (List UInt8)} {grow : List Int} {a b : Clm} (ha : TrueOf l grow a) (hb : TrueOf l grow b) : contra a b = false := by
  rw [← Bool.not_eq_true, contra_iff]
  rintro ⟨_, _, h⟩
  cases ha with
  | entry i hi =>
    cases hb with
    | entry k hk =>
      rcases h with ⟨h1, h2, h3⟩ | ⟨h1, h2, h3⟩ | ⟨h1, h2, h3⟩ | ⟨h1, h2, h3, h4⟩ | ⟨h1, h2, h3, h4, h5⟩
      · cases h2
      · cases h1
      · cases h1
      · cases h1
      · have h6 : (i : Int) = (k : Int) := h3
        have h7 : i = k := by omega
        rw [h7] at h5
        exact h5 rfl
    | size k hk => rcases h with ⟨h1, h2, h3⟩ | ⟨h1, h2, h3⟩ | ⟨h1, h2, h3⟩ | ⟨h1, h2, h3, h4⟩ | ⟨h1, h2, h3, h4, h5⟩ <;> first | (cases h1; done) | cases h2
    | absent n k hk =>
      rcases h with ⟨h1, h2, h3⟩ | ⟨h1, h2, h3⟩ | ⟨h1, h2, h3⟩ | ⟨h1, h2, h3, h4⟩ | ⟨h1, h2, h3, h4, h5⟩
      · rw [refutes_false hi hk] at h3; cases h3
      · cases h1
      · cases h1
      · cases h1
      · cases h1
  | size i hi =>
    cases hb with
    | entry k hk => rcases h with ⟨h1, h2, h3⟩ | ⟨h1, h2, h3⟩ | ⟨h1, h2, h3⟩ | ⟨h1, h2, h3, h4⟩ | ⟨h1, h2, h3, h4, h5⟩ <;> first | (cases h1; done) | cases h2
    | size k hk =>
      rcases h with ⟨h1, h2, h3⟩ | ⟨h1, h2, h3⟩ | ⟨h1, h2, h3⟩ | ⟨h1, h2, h3, h4⟩ | ⟨h1, h2, h3, h4, h5⟩
      · cases h1
      · cases h1
      · have h3' : ((10 * i : Int) = 10 * k ∧ ¬ ((szN l.length grow (i + 1) : Int) = (szN l.length grow (k + 1) : Int))) ∨ ((10 * i : Int) < 10 * k ∧ (szN l.length grow (k + 1) : Int) < (szN l.length grow (i + 1) : Int)) ∨ ((10 * k : Int) < 10 * i ∧ (szN l.length grow (i + 1) : Int) < (szN l.length grow (k + 1) : Int)) := h3
        by_cases e : i = k
        · subst e
          omega
        · rcases Nat.lt_or_gt_of_ne e with e | e
          · have := szN_mono (L := l.length) (grow := grow) (i := i + 1) (k := k + 1) (by omega)
            omega
          · have := szN_mono (L := l.length) (grow := grow) (i := k + 1) (k := i + 1) (by omega)
            omega
      · cases h1
      · rcases h2 with h2 | h2 <;> cases h2
    | absent n k hk => rcases h with ⟨h1, h2, h3⟩ | ⟨h1, h2, h3⟩ | ⟨h1, h2, h3⟩ | ⟨h1, h2, h3, h4⟩ | ⟨h1, h2, h3, h4, h5⟩ <;> first | (cases h1; done) | cases h2
  | absent n k hk =>
    cases hb with
    | entry i hi =>
      rcases h with ⟨h1, h2, h3⟩ | ⟨h1, h2, h3⟩ | ⟨h1, h2, h3⟩ | ⟨h1, h2, h3, h4⟩ | ⟨h1, h2, h3, h4, h5⟩
      · cases h1
      · rw [refutes_false hi hk] at h3; cases h3
      · cases h1
      · cases h1
      · cases h1
    | size i hi => rcases h with ⟨h1, h2, h3⟩ | ⟨h1, h2, h3⟩ | ⟨h1, h2, h3⟩ | ⟨h1, h2, h3, h4⟩ | ⟨h1, h2, h3, h4, h5⟩ <;> first | (cases h1; done) | cases h2
    | absent m j hj => rcases h with ⟨h1, h2, h3⟩ | ⟨h1, h2, h3⟩ | ⟨h1, h2, h3⟩ | ⟨h1, h2, h3, h4⟩ | ⟨h1, h2, h3, h4, h5⟩ <;> first | (cases h1; done) | (cases h2; done) | (rcases h2 with h2 | h2 <;> cases h2)
/-- What is wrong about the log. -/
def Wrong (l : List (List UInt8)) (grow : List Int) (c : Clm) : Prop :=
  (c.kind = 2 ∧ c.n ≤ l.length ∧ absentB l c.n.toNat c.text = false) ∨ (∃ i, ∃ h : i < l.length, c.kind = 0 ∧ c.n = i ∧ c.text ≠ l[i]) ∨
  ∃ i, i < grow.length ∧ c.kind = 1 ∧ c.time = 10 * i ∧ c.n ≠ szN l.length grow (i + 1)
theorem mem_entry {l : List (List UInt8)} {grow : List Int} {keys : List (List UInt8)} {i : Nat} (h : i < l.length) : entryC l i ∈ allOf l grow keys :=
  List.mem_append_left _ (List.mem_append_left _ (List.mem_map.2 ⟨i, List.mem_range.2 h, rfl⟩))
theorem mem_size {l : List (List UInt8)} {grow : List Int} {keys : List (List UInt8)} {i : Nat} (h : i < grow.length) : sizeC l.length grow i ∈ allOf l grow keys :=
  List.mem_append_left _ (List.mem_append_right _ (List.mem_map.2 ⟨i, List.mem_range.2 h, rfl⟩))
theorem right_size {L : Nat} {grow : List Int} {i : Nat} (hL : L ≤ 8) (hi : i < 6) : right (sizeC L grow i) = true := by
  have h := szN_le L grow (i + 1)
  unfold right within
  have e1 : (sizeC L grow i).kind = 1 := rfl
  have e2 : (sizeC L grow i).n = (szN L grow (i + 1) : Int) := rfl
  have e3 : (sizeC L grow i).time = 10 * (i : Int) := rfl
  have e4 : (sizeC L grow i).text = [] := rfl
  rw [e1, e2, e3, e4]
  simp
  omega
theorem wrong_beaten {l : List (List UInt8)} {grow : List Int} {keys : List (List UInt8)} {c : Clm} (hr : right c = true) (hall : ∀ i, i < l.length → right (entryC l i) = true) (hL : l.length ≤ 8) (hg : grow.length ≤ 6) (h : Wrong l grow c) :
    ∃ a, a ∈ allOf l grow keys ∧ contra c a = true := by
  have hb := right_bounds hr
  rcases h with ⟨h1, h2, h3⟩ | ⟨i, hi, h1, h2, h3⟩ | ⟨i, hi, h1, h2, h3⟩
  · obtain ⟨i, hi, hl, hk⟩ := absent_no h3
    refine ⟨_, mem_entry hl, (contra_iff _ _).2 ⟨hr, hall i hl, Or.inr (Or.inl ⟨h1, rfl, ?_⟩)⟩⟩
    have e : (entryC l i).text = l[i] := by simp [entryC, hl]
    unfold refutes
    rw [e]
    unfold hasKey at hk
    simp only [Bool.and_eq_true, decide_eq_true_eq] at hk ⊢
    exact ⟨⟨hk.1, by show (i : Int) < c.n; omega⟩, hk.2⟩
  · refine ⟨_, mem_entry hi, (contra_iff _ _).2 ⟨hr, hall i hi, Or.inr (Or.inr (Or.inr (Or.inr ⟨h1, Or.inl h1, h2, right_time0 hr h1, ?_⟩)))⟩⟩
    have e : (entryC l i).text = l[i] := by simp [entryC, hi]
    rw [e]; exact h3
  · exact ⟨_, mem_size hi, (contra_iff _ _).2 ⟨hr, right_size hL (by omega), Or.inr (Or.inr (Or.inl ⟨h1, rfl, Or.inl ⟨h2, h3⟩⟩))⟩⟩
theorem not_right_no {c a : Clm} (h : right c = false) : contra c a = false := by
  rw [← Bool.not_eq_true, contra_iff]
  rintro ⟨h1, _⟩
  rw [h] at h1; cases h1
end Go.Proofs.YtkhdnfmnnapjlaaGreatDoor.Cl
