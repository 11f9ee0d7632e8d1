/- Layer 6 in plain words: claims, their texts, what is read back, what contradicts. No program stands in this text. -/
import Derived.Test.YtjjdmmhlcdfplaaDoorWireBk
namespace Go.Proofs.YtjjdmmhlcdfplaaDoor.Cl
open Go.Lib Go.RowKit
open Wire (St rNum rText numE textE)
set_option linter.unusedVariables false
set_option linter.unusedSimpArgs false

structure Clm where
  kind : Int
  n : Int
  time : Int
  text : List UInt8
deriving DecidableEq
def zero : Clm := ⟨0, 0, 0, []⟩
/-- The key with which the text of an entry begins. -/
def key (t : List UInt8) : List UInt8 × Bool := match rText (some t) with
  | (k, some _) => (k, true)
  | (_, none) => ([], false)
def within (n a b : Int) : Bool := decide (a ≤ n) && decide (n ≤ b)
def right (c : Clm) : Bool :=
  if c.kind = 0 then within c.n 0 199999 && decide (c.time = 0) && decide (c.text.length ≤ 20000) && (key c.text).2
  else if c.kind = 1 then within c.n 0 200000 && within c.time 0 1073741824 && decide (c.text = [])
  else if c.kind = 2 then within c.n 0 200000 && decide (c.time = 0) && decide (c.text.length ≤ 20000)
  else if c.kind = 3 then within c.n 0 1073741824 && decide (c.time = 0) && decide (c.text.length ≤ 20000)
  else if c.kind = 4 then within c.n 0 1073741824 && within c.time 0 1073741824 && decide (c.text.length ≤ 20000)
  else false
theorem right_bounds {c : Clm} (h : right c = true) : 0 ≤ c.kind ∧ c.kind ≤ 4 ∧ 0 ≤ c.n ∧ c.n ≤ 1073741824 ∧ 0 ≤ c.time ∧ c.time ≤ 1073741824 ∧ c.text.length ≤ 20000 := by
  unfold right within at h
  (repeat' split at h) <;> first | (cases h; done) | simp only [Bool.and_eq_true, decide_eq_true_eq] at h
  · omega
  · have h2 : c.text.length = 0 := by rw [h.2]; rfl
    omega
  · omega
  · omega
  · omega
def enc (c : Clm) : List UInt8 := numE c.kind ++ (numE c.n ++ (numE c.time ++ textE c.text))
def text (c : Clm) : List UInt8 := if right c then enc c else []
/-- The four parts, one after the other. -/
def parts (st : St) : Clm × St :=
  (⟨(rNum st).1, (rNum (rNum st).2).1, (rNum (rNum (rNum st).2).2).1, (rText (rNum (rNum (rNum st).2).2).2).1⟩, (rText (rNum (rNum (rNum st).2).2).2).2)
def read (s : List UInt8) : Clm × Bool := if (parts (some s)).2 = some [] ∧ right (parts (some s)).1 = true then ((parts (some s)).1, true) else (zero, false)

theorem parts_back {c : Clm} {r : List UInt8} (h : right c = true) : parts (some (enc c ++ r)) = (c, some r) := by
  obtain ⟨h1, h2, h3, h4, h5, h6, h7⟩ := right_bounds h
  have e : enc c ++ r = numE c.kind ++ (numE c.n ++ (numE c.time ++ (textE c.text ++ r))) := by simp only [enc, List.append_assoc]
  have a1 := Wire.rNum_back (n := c.kind) (r := numE c.n ++ (numE c.time ++ (textE c.text ++ r))) (by unfold Wire.Int64; omega) h1
  have a2 := Wire.rNum_back (n := c.n) (r := numE c.time ++ (textE c.text ++ r)) (by unfold Wire.Int64; omega) h3
  have a3 := Wire.rNum_back (n := c.time) (r := textE c.text ++ r) (by unfold Wire.Int64; omega) h5
  have a4 := Wire.rText_back (s := c.text) (r := r) (by omega)
  rw [e]
  simp only [parts, a1, a2, a3, a4]
theorem rNum_none : rNum none = (0, none) := by rfl
theorem rText_none' : rText none = ([], none) := by rfl
theorem parts_inv {s r : List UInt8} {c : Clm} (h : parts (some s) = (c, some r)) : s = enc c ++ r := by
  cases h1 : rNum (some s) with
  | mk k s1 =>
  cases s1 with
  | none =>
    exfalso
    have := congrArg Prod.snd h
    simp only [parts, h1, rNum_none, rText_none'] at this
    cases this
  | some r1 =>
  cases h2 : rNum (some r1) with
  | mk n s2 =>
  cases s2 with
  | none =>
    exfalso
    have := congrArg Prod.snd h
    simp only [parts, h1, h2, rNum_none, rText_none'] at this
    cases this
  | some r2 =>
  cases h3 : rNum (some r2) with
  | mk tm s3 =>
  cases s3 with
  | none =>
    exfalso
    have := congrArg Prod.snd h
    simp only [parts, h1, h2, h3, rText_none'] at this
    cases this
  | some r3 =>
  cases h4 : rText (some r3) with
  | mk t s4 =>
  have hc := congrArg Prod.fst h
  have hr := congrArg Prod.snd h
  simp only [parts, h1, h2, h3, h4] at hc hr
  subst hc hr
  rw [Wire.rNum_inv h1, Wire.rNum_inv h2, Wire.rNum_inv h3, Wire.rText_inv h4]
  simp only [enc, List.append_assoc]
theorem enc_ne (c : Clm) : enc c ≠ [] := by
  intro h
  have := congrArg List.length h
  simp only [enc, textE, List.length_append, List.length_cons, List.length_nil] at this
  omega
theorem read_text {c : Clm} (h : right c = true) : read (text c) = (c, true) := by
  have hp := parts_back (r := []) h
  rw [List.append_nil] at hp
  rw [text, if_pos h, read, hp, if_pos ⟨rfl, h⟩]
theorem read_inv {s : List UInt8} {c : Clm} (h : read s = (c, true)) : right c = true ∧ text c = s := by
  unfold read at h
  split at h
  · rename_i hh
    obtain ⟨h1, h2⟩ := hh
    simp only [Prod.mk.injEq, and_true] at h
    rw [h] at h2
    have hs := parts_inv (s := s) (r := []) (c := c) (Prod.ext h h1)
    rw [List.append_nil] at hs
    exact ⟨h2, by rw [text, if_pos h2, hs]⟩
  · simp at h
theorem read_no {s : List UInt8} (h : (read s).2 = false) : (read s).1 = zero := by
  unfold read at *
  split at h
  · cases h
  · rw [if_neg (by assumption)]
/-- What begins, or goes on behind, the text of a right claim is no text. -/
theorem read_more {c : Clm} {r : List UInt8} (h : right c = true) (hr : r ≠ []) : read (text c ++ r) = (zero, false) := by
  rw [text, if_pos h, read, parts_back h, if_neg]
  rintro ⟨h1, _⟩
  exact hr (by simpa using h1)
theorem read_less {c : Clm} {s r : List UInt8} (h : right c = true) (e : text c = s ++ r) (hr : r ≠ []) : read s = (zero, false) := by
  cases hb : read s with
  | mk d b =>
  cases b with
  | false => have := read_no (s := s) (by rw [hb]); rw [hb] at this; rw [show d = zero from this]
  | true =>
    obtain ⟨h1, h2⟩ := read_inv hb
    have h3 := read_more h1 hr
    rw [h2, ← e, read_text h] at h3
    simp at h3
theorem text_inj {a b : Clm} (ha : right a = true) : text a = text b ↔ a = b := by
  constructor
  · intro e
    by_cases hb : right b = true
    · have h1 := read_text ha
      rw [e, read_text hb] at h1
      exact (Prod.mk.inj h1).1.symm
    · rw [text, text, if_pos ha, if_neg hb] at e
      exact absurd e (enc_ne a)
  · intro e; rw [e]
/-- The key, as the program finds it. -/
def zeroE : List UInt8 := [48, 58, 44]
theorem zeroE_eq : textE [] = zeroE := by decide +kernel
theorem key_eq (t : List UInt8) : key t = if (rText (some t)).1 = [] then ([], decide (zeroE.length ≤ t.length) && decide (t.take zeroE.length = zeroE)) else ((rText (some t)).1, true) := by
  cases h : rText (some t) with
  | mk k s =>
  cases s with
  | none =>
    have hk : k = [] := by have := Wire.rText_fail (st := some t) (by rw [h]); rw [h] at this; exact this
    subst hk
    have hn : ¬ t.take zeroE.length = zeroE := fun e => by
      have e2 : t = textE [] ++ t.drop zeroE.length := by
        have := List.take_append_drop zeroE.length t
        rw [e] at this
        rw [zeroE_eq]; exact this.symm
      have := Wire.rText_back (s := []) (r := t.drop zeroE.length) (by simp)
      rw [← e2, h] at this
      simp at this
    simp only [key, h, if_true]
    rw [decide_eq_false hn, Bool.and_false]
  | some r =>
    simp only [key, h]
    by_cases hk : k = []
    · subst hk
      have e := Wire.rText_inv h
      rw [zeroE_eq] at e
      rw [if_pos rfl]
      have h1 : zeroE.length ≤ t.length := by rw [e, List.length_append]; omega
      have h2 : t.take zeroE.length = zeroE := by rw [e]; simp
      rw [decide_eq_true h1, decide_eq_true h2]; rfl
    · rw [if_neg hk]
/-- Which claims contradict each other. -/
def refutes (e a : Clm) : Bool := (key e.text).2 && decide (e.n < a.n) && decide ((key e.text).1 = a.text)
def contra (a b : Clm) : Bool :=
  if right a = false ∨ right b = false then false
  else if a.kind = 0 ∧ b.kind = 2 then refutes a b
  else if a.kind = 2 ∧ b.kind = 0 then refutes b a
  else if a.kind ≠ b.kind then false
  else if a.kind = 1 then (if a.time = b.time then decide (a.n ≠ b.n) else (decide (a.time < b.time) != decide (a.n < b.n)) && decide (a.n ≠ b.n))
  else if a.kind = 3 then decide (a.text = b.text) && decide (a.n ≠ b.n)
  else decide (a.kind ≠ 2) && decide (a.n = b.n) && decide (a.time = b.time) && decide (a.text ≠ b.text)
end Go.Proofs.YtjjdmmhlcdfplaaDoor.Cl
