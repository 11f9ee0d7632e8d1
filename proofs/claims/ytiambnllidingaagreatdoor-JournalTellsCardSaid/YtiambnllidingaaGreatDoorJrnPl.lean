/- Layer 3 (journal) in plain words: sums, forms, the records of a string, what a journal's calls make of a disk; torn files. No program stands in this text. -/
import Derived.Test.YtiambnllidingaaGreatDoorDskPl
namespace Go.Proofs.YtiambnllidingaaGreatDoor.Jr
open Go.Lib Go.RowKit
open Wire (textE numE rText rNum rText_inv rNum_inv rText_back rNum_back)
open Dk (Disk)
set_option linter.unusedVariables false
set_option linter.unusedSimpArgs false

/-- Each byte multiplied by its position, from position i + 1 on. -/
def wt (i : Nat) : List UInt8 → Nat
  | [] => 0
  | c :: l => c.toNat * (i + 1) + wt (i + 1) l
def sumN (l : List UInt8) : Int := ((wt 0 l % 2147483647 : Nat) : Int)
theorem wt_append : ∀ (a b : List UInt8) (i : Nat), wt i (a ++ b) = wt i a + wt (i + a.length) b := by
  intro a
  induction a with
  | nil => intro b i; simp [wt]
  | cons c a ih =>
    intro b i
    rw [List.cons_append, wt, wt, ih, List.length_cons, show i + 1 + a.length = i + (a.length + 1) by omega]
    omega
theorem sumN_snoc (l : List UInt8) (c : UInt8) : sumN (l ++ [c]) = (sumN l + c.toNat * ((l.length : Int) + 1)) % 2147483647 := by
  unfold sumN
  rw [wt_append]
  simp only [wt, Nat.zero_add, Nat.add_zero]
  have e : (wt 0 l + c.toNat * (l.length + 1)) % 2147483647 = (wt 0 l % 2147483647 + c.toNat * (l.length + 1)) % 2147483647 := by omega
  rw [e]
  simp only [Int.natCast_emod, Int.natCast_add, Int.natCast_mul]
  rfl
theorem sumN_bd (l : List UInt8) : 0 ≤ sumN l ∧ sumN l < 2147483647 := by unfold sumN; omega
theorem sumN_nil : sumN [] = 0 := rfl
def form (t : List UInt8) : List UInt8 := textE t ++ numE (sumN t)
def forms (l : List (List UInt8)) : List UInt8 := (l.map form).flatten
theorem form_pos (t : List UInt8) : 0 < (form t).length := by
  unfold form textE
  simp only [List.length_append, List.length_cons]
  omega
theorem forms_nil : forms [] = [] := rfl
theorem forms_cons (t : List UInt8) (l : List (List UInt8)) : forms (t :: l) = form t ++ forms l := by simp [forms]
theorem forms_append (a b : List (List UInt8)) : forms (a ++ b) = forms a ++ forms b := by simp [forms]
theorem forms_snoc (a : List (List UInt8)) (t : List UInt8) : forms (a ++ [t]) = forms a ++ form t := by simp [forms]
theorem form_len (t : List UInt8) (h : t.length ≤ 9223372036854775807) : (form t).length ≤ t.length + 43 := by
  have h1 := Wire.itoa_le20 (v := (t.length : Int)) (by omega) (by omega)
  have h2 := sumN_bd t
  have h3 := Wire.itoa_le20 (v := sumN t) (by omega) (by omega)
  unfold form textE numE
  rw [if_neg (by omega)]
  unfold Wire.intE
  simp only [List.length_append, List.length_cons, List.length_nil]
  omega
theorem form_ge (t : List UInt8) : t.length + 3 ≤ (form t).length := by
  have h2 := sumN_bd t
  have hp : 0 < (itoa (t.length : Int)).length := by
    rw [List.length_pos_iff, show itoa (t.length : Int) = decDigits t.length by unfold itoa; rw [if_neg (by omega)]; simp]
    exact Wire.decDigits_ne _
  unfold form textE numE
  rw [if_neg (by omega)]
  unfold Wire.intE
  simp only [List.length_append, List.length_cons, List.length_nil]
  omega
theorem forms_len {n : Nat} : ∀ {l : List (List UInt8)}, (∀ t ∈ l, t.length ≤ n) → n ≤ 9223372036854775807 → (forms l).length ≤ l.length * (n + 43) := by
  intro l
  induction l with
  | nil => intro _ _; simp [forms]
  | cons t l ih =>
    intro h hn
    have h1 := ih (fun x hx => h x (List.mem_cons_of_mem _ hx)) hn
    have h2 := form_len t (Nat.le_trans (h t (List.mem_cons_self ..)) hn)
    have h3 := h t (List.mem_cons_self ..)
    rw [forms_cons, List.length_append, List.length_cons, Nat.succ_mul]
    omega
theorem len_forms (l : List (List UInt8)) : l.length ≤ (forms l).length := by
  induction l with
  | nil => simp [forms]
  | cons t l ih =>
    have := form_pos t
    rw [forms_cons, List.length_append, List.length_cons]
    omega
theorem mem_forms {l : List (List UInt8)} {t : List UInt8} (h : t ∈ l) : t.length ≤ (forms l).length := by
  induction l with
  | nil => cases h
  | cons x l ih =>
    rw [forms_cons, List.length_append]
    rcases List.mem_cons.1 h with rfl | h
    · have := form_ge t; omega
    · have := ih h; omega
/-- The record at the beginning of a string. -/
def one (s : List UInt8) : Option (List UInt8) :=
  if (rNum (rText (some s)).2).2.isSome = true ∧ (rText (some s)).1.length ≤ 20000 ∧ (rNum (rText (some s)).2).1 = sumN (rText (some s)).1 then some (rText (some s)).1 else none
theorem rNum_none : rNum none = (0, none) := by decide
theorem one_inv {s t : List UInt8} (h : one s = some t) : ∃ r, s = form t ++ r ∧ t.length ≤ 20000 := by
  unfold one at h
  split at h
  · rename_i hc
    obtain ⟨h1, h2, h3⟩ := hc
    injection h with h
    rcases hx : rText (some s) with ⟨t', s1⟩
    rw [hx] at h h1 h2 h3
    dsimp only at h h1 h2 h3
    subst h
    cases s1 with
    | none => rw [rNum_none] at h1; cases h1
    | some r1 =>
      rcases hy : rNum (some r1) with ⟨n, s2⟩
      rw [hy] at h1 h3
      dsimp only at h1 h3
      cases s2 with
      | none => cases h1
      | some r2 =>
        refine ⟨r2, ?_, h2⟩
        rw [rText_inv hx, rNum_inv hy, h3, form, List.append_assoc]
  · cases h
theorem rForm {t r : List UInt8} (ht : t.length ≤ 9223372036854775807) : rText (some (form t ++ r)) = (t, some (numE (sumN t) ++ r)) ∧ rNum (some (numE (sumN t) ++ r)) = (sumN t, some r) := by
  have hb := sumN_bd t
  exact ⟨by rw [form, List.append_assoc]; exact rText_back ht, rNum_back ⟨by omega, by omega⟩ hb.1⟩
theorem one_form {t r : List UInt8} (ht : t.length ≤ 20000) : one (form t ++ r) = some t := by
  obtain ⟨h1, h2⟩ := rForm (t := t) (r := r) (by omega)
  unfold one
  rw [h1, h2]
  simp [ht]
theorem one_nil : one [] = none := by
  cases h : one [] with
  | none => rfl
  | some t =>
    obtain ⟨r, e, _⟩ := one_inv h
    have := congrArg List.length e
    have := form_pos t
    simp at *
    omega
/-- The records of a string, at most n of them. -/
def recsGo : Nat → List UInt8 → List (List UInt8)
  | 0, _ => []
  | n + 1, s => match one s with
    | some t => t :: recsGo n (s.drop (form t).length)
    | none => []
def recs (s : List UInt8) : List (List UInt8) := recsGo s.length s
theorem recsGo_more : ∀ (n m : Nat) (s : List UInt8), s.length ≤ n → n ≤ m → recsGo m s = recsGo n s := by
  intro n
  induction n with
  | zero =>
    intro m s h _
    obtain rfl : s = [] := List.length_eq_zero_iff.1 (by omega)
    cases m with
    | zero => rfl
    | succ m => unfold recsGo; rw [one_nil]
  | succ n ih =>
    intro m s h hm
    obtain ⟨m, rfl⟩ : ∃ k, m = k + 1 := ⟨m - 1, by omega⟩
    unfold recsGo
    cases ho : one s with
    | none => rfl
    | some t =>
      dsimp only
      have := form_pos t
      rw [ih m _ (by rw [List.length_drop]; omega) (by omega)]
theorem recs_some {s t : List UInt8} (h : one s = some t) : recs s = t :: recs (s.drop (form t).length) := by
  have hp := form_pos t
  obtain ⟨r, e, _⟩ := one_inv h
  have hl : 0 < s.length := by rw [e, List.length_append]; omega
  have hg : ∀ n, recsGo (n + 1) s = t :: recsGo n (s.drop (form t).length) := fun n => by
    show (match one s with
      | some t => t :: recsGo n (s.drop (form t).length)
      | none => []) = _
    rw [h]
  obtain ⟨n, hn⟩ : ∃ n, s.length = n + 1 := ⟨s.length - 1, by omega⟩
  unfold recs
  rw [hn, hg, recsGo_more (s.drop (form t).length).length n _ (Nat.le_refl _) (by rw [List.length_drop]; omega)]
theorem recs_none {s : List UInt8} (h : one s = none) : recs s = [] := by
  unfold recs
  cases s.length with
  | zero => rfl
  | succ n => unfold recsGo; rw [h]
theorem recs_form {t r : List UInt8} (ht : t.length ≤ 20000) : recs (form t ++ r) = t :: recs r := by
  rw [recs_some (one_form ht), List.drop_left]
theorem recs_forms : ∀ {l : List (List UInt8)} {r : List UInt8}, (∀ t ∈ l, t.length ≤ 20000) → recs (forms l ++ r) = l ++ recs r := by
  intro l
  induction l with
  | nil => intro r _; simp [forms]
  | cons t l ih =>
    intro r h
    rw [forms_cons, List.append_assoc, recs_form (h t (List.mem_cons_self ..)), ih (fun x hx => h x (List.mem_cons_of_mem _ hx))]
    rfl
theorem recs_nil : recs [] = [] := rfl
/-- A string is the forms of its records, and a rest without one. -/
theorem recs_split : ∀ (n : Nat) (s : List UInt8), s.length ≤ n → ∃ r, s = forms (recs s) ++ r ∧ one r = none := by
  intro n
  induction n with
  | zero =>
    intro s h
    obtain rfl : s = [] := List.length_eq_zero_iff.1 (by omega)
    exact ⟨[], rfl, one_nil⟩
  | succ n ih =>
    intro s h
    cases ho : one s with
    | none => exact ⟨s, by rw [recs_none ho]; rfl, ho⟩
    | some t =>
      obtain ⟨r, e, _⟩ := one_inv ho
      have := form_pos t
      obtain ⟨r2, e2, h2⟩ := ih (s.drop (form t).length) (by rw [List.length_drop]; omega)
      refine ⟨r2, ?_, h2⟩
      rw [recs_some ho, forms_cons, List.append_assoc, ← e2]
      conv => lhs; rw [e]
      congr 1
      rw [e, List.drop_left]
theorem recs_pre (s : List UInt8) : forms (recs s) <+: s := by
  obtain ⟨r, e, _⟩ := recs_split s.length s (Nat.le_refl _)
  exact ⟨r, e.symm⟩
theorem recs_len (s : List UInt8) : (forms (recs s)).length ≤ s.length := (recs_pre s).length_le
theorem recs_small (s : List UInt8) : ∀ (n : Nat) (s : List UInt8), s.length ≤ n → ∀ t ∈ recs s, t.length ≤ 20000 := by
  intro n
  induction n with
  | zero =>
    intro s h t ht
    obtain rfl : s = [] := List.length_eq_zero_iff.1 (by omega)
    cases ht
  | succ n ih =>
    intro s h t ht
    cases ho : one s with
    | none => rw [recs_none ho] at ht; cases ht
    | some x =>
      rw [recs_some ho] at ht
      obtain ⟨r, e, hx⟩ := one_inv ho
      have := form_pos x
      rcases List.mem_cons.1 ht with rfl | ht
      · exact hx
      · exact ih _ (by rw [List.length_drop]; omega) t ht
theorem recs_le {s t : List UInt8} (h : t ∈ recs s) : t.length ≤ 20000 := recs_small s s.length s (Nat.le_refl _) t h
/-- Reading again what was read. -/
theorem recs_again (s : List UInt8) : recs (forms (recs s)) = recs s := by
  have := recs_forms (l := recs s) (r := []) (fun t ht => recs_le ht)
  rw [List.append_nil, recs_nil, List.append_nil] at this
  exact this

/-! ### The journal -/
structure Jn where
  file : Int
  recs : List (List UInt8)
  broken : Bool
def openJ (D : Disk) (f : Int) : Disk × Option Jn × Int :=
  if f < 0 ∨ 15 < f then (D, none, 1)
  else if (Dk.sync D f).2 ≠ 0 then ((Dk.sync D f).1, none, (Dk.sync D f).2)
  else if (forms (recs ((Dk.sync D f).1.fs f).now)).length < ((Dk.sync D f).1.fs f).now.length then
    (if (Dk.truncate (Dk.sync D f).1 f (forms (recs ((Dk.sync D f).1.fs f).now)).length).2 ≠ 0 then ((Dk.truncate (Dk.sync D f).1 f (forms (recs ((Dk.sync D f).1.fs f).now)).length).1, none, (Dk.truncate (Dk.sync D f).1 f (forms (recs ((Dk.sync D f).1.fs f).now)).length).2)
      else ((Dk.truncate (Dk.sync D f).1 f (forms (recs ((Dk.sync D f).1.fs f).now)).length).1, some ⟨f, recs ((Dk.sync D f).1.fs f).now, false⟩, 0))
  else ((Dk.sync D f).1, some ⟨f, recs ((Dk.sync D f).1.fs f).now, false⟩, 0)
def append (D : Disk) (j : Jn) (s : List UInt8) : Disk × Jn × Int :=
  if j.broken = true then (D, j, 7) else if 20000 < s.length then (D, j, 3)
  else if 1048576 < (forms j.recs).length + (form s).length then (D, j, 6)
  else if (Dk.write D j.file (forms j.recs).length (form s)).2 ≠ 0 then ((Dk.write D j.file (forms j.recs).length (form s)).1, { j with broken := true }, (Dk.write D j.file (forms j.recs).length (form s)).2)
  else ((Dk.write D j.file (forms j.recs).length (form s)).1, { j with recs := j.recs ++ [s] }, 0)
def syncJ (D : Disk) (j : Jn) : Disk × Jn × Int :=
  if j.broken = true then (D, j, 7) else ((Dk.sync D j.file).1, { j with broken := decide ((Dk.sync D j.file).2 ≠ 0) }, (Dk.sync D j.file).2)
end Go.Proofs.YtiambnllidingaaGreatDoor.Jr
