/- Layer 3 (journal) in plain words: sums, forms, the records of a string, what a journal's calls make of a disk; torn files. No program stands in this text. Layer 3 (journal) in plain words: a file of which bytes are missing at the end, or have become 0, has a beginning of the records. No program stands in this text. Layer 3 (journal) in plain words: what is true of a journal's file whatever fails, crashes and is lost (P3.6). No program stands in this text. What is true of a calm disk (up, no crash scheduled, no sync lost): opening a journal. Plain; no program stands in this text. The law JournalStays in plain words: what holds of a disk on which no crash is scheduled, and of the journal in file 0. No program stands in this text. What JournalTorn needs, in plain words: appending on a calm disk; the greatest beginning of the records whose forms are all there. No program stands in this text. -/
import Derived.Test.YtagmlemlagbfkaaDoorPkFFair2
namespace Go.Proofs.YtagmlemlagbfkaaDoor.Jr
open Go.Lib Go.RowKit
open Wire (textE numE rText rNum rText_inv rNum_inv rText_back rNum_back)
open Dk (Disk)
set_option linter.unusedVariables false
set_option linter.unusedSimpArgs false

/-- Each byte multiplied by its position, from position i + 1 on. -/
def wt (i : Nat) : List UInt8 → Nat
  | [] => 0
  | c :: l => c.toNat * (i + 1) + wt (i + 1) l
def sumN (l : List UInt8) : Int := ((wt 0 l % 2147483647 : Nat) : Int)
theorem wt_append : ∀ (a b : List UInt8) (i : Nat), wt i (a ++ b) = wt i a + wt (i + a.length) b := by
  intro a
  induction a with
  | nil => intro b i; simp [wt]
  | cons c a ih =>
    intro b i
    rw [List.cons_append, wt, wt, ih, List.length_cons, show i + 1 + a.length = i + (a.length + 1) by omega]
    omega
theorem sumN_snoc (l : List UInt8) (c : UInt8) : sumN (l ++ [c]) = (sumN l + c.toNat * ((l.length : Int) + 1)) % 2147483647 := by
  unfold sumN
  rw [wt_append]
  simp only [wt, Nat.zero_add, Nat.add_zero]
  have e : (wt 0 l + c.toNat * (l.length + 1)) % 2147483647 = (wt 0 l % 2147483647 + c.toNat * (l.length + 1)) % 2147483647 := by omega
  rw [e]
  simp only [Int.natCast_emod, Int.natCast_add, Int.natCast_mul]
  rfl
theorem sumN_bd (l : List UInt8) : 0 ≤ sumN l ∧ sumN l < 2147483647 := by unfold sumN; omega
def form (t : List UInt8) : List UInt8 := textE t ++ numE (sumN t)
def forms (l : List (List UInt8)) : List UInt8 := (l.map form).flatten
theorem form_pos (t : List UInt8) : 0 < (form t).length := by
  unfold form textE
  simp only [List.length_append, List.length_cons]
  omega
theorem forms_cons (t : List UInt8) (l : List (List UInt8)) : forms (t :: l) = form t ++ forms l := by simp [forms]
theorem forms_snoc (a : List (List UInt8)) (t : List UInt8) : forms (a ++ [t]) = forms a ++ form t := by simp [forms]
theorem form_len (t : List UInt8) (h : t.length ≤ 9223372036854775807) : (form t).length ≤ t.length + 43 := by
  have h1 := Wire.itoa_le20 (v := (t.length : Int)) (by omega) (by omega)
  have h2 := sumN_bd t
  have h3 := Wire.itoa_le20 (v := sumN t) (by omega) (by omega)
  unfold form textE numE
  rw [if_neg (by omega)]
  unfold Wire.intE
  simp only [List.length_append, List.length_cons, List.length_nil]
  omega
theorem forms_len {n : Nat} : ∀ {l : List (List UInt8)}, (∀ t ∈ l, t.length ≤ n) → n ≤ 9223372036854775807 → (forms l).length ≤ l.length * (n + 43) := by
  intro l
  induction l with
  | nil => intro _ _; simp [forms]
  | cons t l ih =>
    intro h hn
    have h1 := ih (fun x hx => h x (List.mem_cons_of_mem _ hx)) hn
    have h2 := form_len t (Nat.le_trans (h t (List.mem_cons_self ..)) hn)
    have h3 := h t (List.mem_cons_self ..)
    rw [forms_cons, List.length_append, List.length_cons, Nat.succ_mul]
    omega
theorem len_forms (l : List (List UInt8)) : l.length ≤ (forms l).length := by
  induction l with
  | nil => simp [forms]
  | cons t l ih =>
    have := form_pos t
    rw [forms_cons, List.length_append, List.length_cons]
    omega
/-- The record at the beginning of a string. -/
def one (s : List UInt8) : Option (List UInt8) :=
  if (rNum (rText (some s)).2).2.isSome = true ∧ (rText (some s)).1.length ≤ 20000 ∧ (rNum (rText (some s)).2).1 = sumN (rText (some s)).1 then some (rText (some s)).1 else none
theorem rNum_none : rNum none = (0, none) := by decide
theorem one_inv {s t : List UInt8} (h : one s = some t) : ∃ r, s = form t ++ r ∧ t.length ≤ 20000 := by
  unfold one at h
  split at h
  · rename_i hc
    obtain ⟨h1, h2, h3⟩ := hc
    injection h with h
    rcases hx : rText (some s) with ⟨t', s1⟩
    rw [hx] at h h1 h2 h3
    dsimp only at h h1 h2 h3
    subst h
    cases s1 with
    | none => rw [rNum_none] at h1; cases h1
    | some r1 =>
      rcases hy : rNum (some r1) with ⟨n, s2⟩
      rw [hy] at h1 h3
      dsimp only at h1 h3
      cases s2 with
      | none => cases h1
      | some r2 =>
        refine ⟨r2, ?_, h2⟩
        rw [rText_inv hx, rNum_inv hy, h3, form, List.append_assoc]
  · cases h
theorem rForm {t r : List UInt8} (ht : t.length ≤ 9223372036854775807) : rText (some (form t ++ r)) = (t, some (numE (sumN t) ++ r)) ∧ rNum (some (numE (sumN t) ++ r)) = (sumN t, some r) := by
  have hb := sumN_bd t
  exact ⟨by rw [form, List.append_assoc]; exact rText_back ht, rNum_back ⟨by omega, by omega⟩ hb.1⟩
theorem one_form {t r : List UInt8} (ht : t.length ≤ 20000) : one (form t ++ r) = some t := by
  obtain ⟨h1, h2⟩ := rForm (t := t) (r := r) (by omega)
  unfold one
  rw [h1, h2]
  simp [ht]
theorem one_nil : one [] = none := by
  cases h : one [] with
  | none => rfl
  | some t =>
    obtain ⟨r, e, _⟩ := one_inv h
    have := congrArg List.length e
    have := form_pos t
    simp at *
    omega
/-- The records of a string, at most n of them. -/
def recsGo : Nat → List UInt8 → List (List UInt8)
  | 0, _ => []
  | n + 1, s => match one s with
    | some t => t :: recsGo n (s.drop (form t).length)
    | none => []
def recs (s : List UInt8) : List (List UInt8) := recsGo s.length s
theorem recsGo_more : ∀ (n m : Nat) (s : List UInt8), s.length ≤ n → n ≤ m → recsGo m s = recsGo n s := by
  intro n
  induction n with
  | zero =>
    intro m s h _
    obtain rfl : s = [] := List.length_eq_zero_iff.1 (by omega)
    cases m with
    | zero => rfl
    | succ m => unfold recsGo; rw [one_nil]
  | succ n ih =>
    intro m s h hm
    obtain ⟨m, rfl⟩ : ∃ k, m = k + 1 := ⟨m - 1, by omega⟩
    unfold recsGo
    cases ho : one s with
    | none => rfl
    | some t =>
      dsimp only
      have := form_pos t
      rw [ih m _ (by rw [List.length_drop]; omega) (by omega)]
theorem recs_some {s t : List UInt8} (h : one s = some t) : recs s = t :: recs (s.drop (form t).length) := by
  have hp := form_pos t
  obtain ⟨r, e, _⟩ := one_inv h
  have hl : 0 < s.length := by rw [e, List.length_append]; omega
  have hg : ∀ n, recsGo (n + 1) s = t :: recsGo n (s.drop (form t).length) := fun n => by
    show (match one s with
      | some t => t :: recsGo n (s.drop (form t).length)
      | none => []) = _
    rw [h]
  obtain ⟨n, hn⟩ : ∃ n, s.length = n + 1 := ⟨s.length - 1, by omega⟩
  unfold recs
  rw [hn, hg, recsGo_more (s.drop (form t).length).length n _ (Nat.le_refl _) (by rw [List.length_drop]; omega)]
theorem recs_none {s : List UInt8} (h : one s = none) : recs s = [] := by
  unfold recs
  cases s.length with
  | zero => rfl
  | succ n => unfold recsGo; rw [h]
theorem recs_form {t r : List UInt8} (ht : t.length ≤ 20000) : recs (form t ++ r) = t :: recs r := by
  rw [recs_some (one_form ht), List.drop_left]
/-- A string is the forms of its records, and a rest without one. -/
theorem recs_split : ∀ (n : Nat) (s : List UInt8), s.length ≤ n → ∃ r, s = forms (recs s) ++ r ∧ one r = none := by
  intro n
  induction n with
  | zero =>
    intro s h
    obtain rfl : s = [] := List.length_eq_zero_iff.1 (by omega)
    exact ⟨[], rfl, one_nil⟩
  | succ n ih =>
    intro s h
    cases ho : one s with
    | none => exact ⟨s, by rw [recs_none ho]; rfl, ho⟩
    | some t =>
      obtain ⟨r, e, _⟩ := one_inv ho
      have := form_pos t
      obtain ⟨r2, e2, h2⟩ := ih (s.drop (form t).length) (by rw [List.length_drop]; omega)
      refine ⟨r2, ?_, h2⟩
      rw [recs_some ho, forms_cons, List.append_assoc, ← e2]
      conv => lhs; rw [e]
      congr 1
      rw [e, List.drop_left]
theorem recs_pre (s : List UInt8) : forms (recs s) <+: s := by
  obtain ⟨r, e, _⟩ := recs_split s.length s (Nat.le_refl _)
  exact ⟨r, e.symm⟩
theorem recs_len (s : List UInt8) : (forms (recs s)).length ≤ s.length := (recs_pre s).length_le
/-! ### The journal -/
structure Jn where
  file : Int
  recs : List (List UInt8)
  broken : Bool
def openJ (D : Disk) (f : Int) : Disk × Option Jn × Int :=
  if f < 0 ∨ 15 < f then (D, none, 1)
  else if (Dk.sync D f).2 ≠ 0 then ((Dk.sync D f).1, none, (Dk.sync D f).2)
  else if (forms (recs ((Dk.sync D f).1.fs f).now)).length < ((Dk.sync D f).1.fs f).now.length then
    (if (Dk.truncate (Dk.sync D f).1 f (forms (recs ((Dk.sync D f).1.fs f).now)).length).2 ≠ 0 then ((Dk.truncate (Dk.sync D f).1 f (forms (recs ((Dk.sync D f).1.fs f).now)).length).1, none, (Dk.truncate (Dk.sync D f).1 f (forms (recs ((Dk.sync D f).1.fs f).now)).length).2)
      else ((Dk.truncate (Dk.sync D f).1 f (forms (recs ((Dk.sync D f).1.fs f).now)).length).1, some ⟨f, recs ((Dk.sync D f).1.fs f).now, false⟩, 0))
  else ((Dk.sync D f).1, some ⟨f, recs ((Dk.sync D f).1.fs f).now, false⟩, 0)
def append (D : Disk) (j : Jn) (s : List UInt8) : Disk × Jn × Int :=
  if j.broken = true then (D, j, 7) else if 20000 < s.length then (D, j, 3)
  else if 1048576 < (forms j.recs).length + (form s).length then (D, j, 6)
  else if (Dk.write D j.file (forms j.recs).length (form s)).2 ≠ 0 then ((Dk.write D j.file (forms j.recs).length (form s)).1, { j with broken := true }, (Dk.write D j.file (forms j.recs).length (form s)).2)
  else ((Dk.write D j.file (forms j.recs).length (form s)).1, { j with recs := j.recs ++ [s] }, 0)
def syncJ (D : Disk) (j : Jn) : Disk × Jn × Int :=
  if j.broken = true then (D, j, 7) else ((Dk.sync D j.file).1, { j with broken := decide ((Dk.sync D j.file).2 ≠ 0) }, (Dk.sync D j.file).2)
end Go.Proofs.YtagmlemlagbfkaaDoor.Jr
namespace Go.Proofs.YtagmlemlagbfkaaDoor.Jr
open Go.Lib Go.RowKit
open Wire (textE numE rText rNum rText_inv rNum_inv rText_back rNum_back)
open Dk (Disk)
set_option linter.unusedVariables false
set_option linter.unusedSimpArgs false

/-- x is what is left of N: bytes at the end are missing, others are 0. -/
def Tn : List UInt8 → List UInt8 → Prop
  | [], _ => True
  | _ :: _, [] => False
  | c :: x, d :: N => (c = d ∨ c = 0) ∧ Tn x N
theorem tn_refl : ∀ (x : List UInt8), Tn x x
  | [] => trivial
  | c :: x => ⟨Or.inl rfl, tn_refl x⟩
theorem tn_iff : ∀ {x N : List UInt8}, Tn x N ↔ x.length ≤ N.length ∧ ∀ k, k < x.length → x[k]? = N[k]? ∨ x[k]? = some 0 := by
  intro x
  induction x with
  | nil => intro N; simp [Tn]
  | cons c x ih =>
    intro N
    cases N with
    | nil => simp [Tn]
    | cons d N =>
      unfold Tn
      rw [ih]
      constructor
      · rintro ⟨h1, h2, h3⟩
        refine ⟨by simp; omega, fun k hk => ?_⟩
        cases k with
        | zero => simpa using h1
        | succ k => simpa using h3 k (by simpa using hk)
      · rintro ⟨h2, h3⟩
        refine ⟨by simpa using h3 0 (by simp), by simpa using h2, fun k hk => ?_⟩
        simpa using h3 (k + 1) (by simpa using hk)
theorem tn_split : ∀ {p x N : List UInt8}, Tn (p ++ x) N → Tn p N ∧ Tn x (N.drop p.length) := by
  intro p
  induction p with
  | nil => intro x N h; exact ⟨trivial, h⟩
  | cons c p ih =>
    intro x N h
    cases N with
    | nil => cases h
    | cons d N => exact ⟨⟨h.1, (ih h.2).1⟩, (ih h.2).2⟩
theorem tn_nz : ∀ {p N : List UInt8}, Tn p N → (∀ c ∈ p, c ≠ 0) → p <+: N := by
  intro p
  induction p with
  | nil => intro N _ _; exact List.nil_prefix
  | cons c p ih =>
    intro N h hz
    cases N with
    | nil => cases h
    | cons d N =>
      rcases h.1 with h1 | h1
      · rw [h1]
        exact List.cons_prefix_cons.2 ⟨rfl, ih h.2 (fun x hx => hz x (List.mem_cons_of_mem _ hx))⟩
      · exact absurd h1 (hz c (List.mem_cons_self ..))
theorem tn_more : ∀ {x N M : List UInt8}, Tn x N → Tn x (N ++ M) := by
  intro x
  induction x with
  | nil => intro N M _; exact trivial
  | cons c x ih =>
    intro N M h
    cases N with
    | nil => cases h
    | cons d N => exact ⟨h.1, ih h.2⟩
theorem tn_trans : ∀ {x y N : List UInt8}, Tn x y → Tn y N → Tn x N := by
  intro x
  induction x with
  | nil => intro y N _ _; exact trivial
  | cons c x ih =>
    intro y N h k
    cases y with
    | nil => cases h
    | cons d y =>
      cases N with
      | nil => cases k
      | cons e N =>
        refine ⟨?_, ih h.2 k.2⟩
        rcases h.1 with h1 | h1
        · rw [h1]; exact k.1
        · exact Or.inr h1
theorem tn_nil {x : List UInt8} (h : Tn x []) : x = [] := by
  cases x with
  | nil => rfl
  | cons c x => cases h
theorem tn_pre {x N : List UInt8} (h : x <+: N) : Tn x N := by
  obtain ⟨r, rfl⟩ := h
  exact tn_more (tn_refl x)
/-- Of two lists as long as one another the one with zeroes has the lesser sum. -/
theorem wt_tn : ∀ {t a : List UInt8} (i : Nat), Tn t a → t.length = a.length → wt i t ≤ wt i a ∧ (wt i t = wt i a → t = a) := by
  intro t
  induction t with
  | nil => intro a i _ hl; obtain rfl : a = [] := List.length_eq_zero_iff.1 hl.symm; exact ⟨Nat.le_refl _, fun _ => rfl⟩
  | cons c t ih =>
    intro a i h hl
    cases a with
    | nil => cases h
    | cons d a =>
      obtain ⟨h1, h2⟩ := ih (i + 1) h.2 (by simpa using hl)
      unfold wt
      rcases h.1 with h3 | h3
      · subst h3
        exact ⟨by omega, fun e => by rw [h2 (by omega)]⟩
      · subst h3
        have hz : (0 : UInt8).toNat = 0 := rfl
        have hp : (0 : UInt8).toNat * (i + 1) = 0 := by rw [hz, Nat.zero_mul]
        have hd : d.toNat * (i + 1) ≥ d.toNat := Nat.le_mul_of_pos_right _ (by omega)
        rw [hp]
        refine ⟨by omega, fun e => ?_⟩
        have h0 : d.toNat = 0 := by omega
        have : d = 0 := UInt8.toNat_inj.1 (by rw [h0]; rfl)
        rw [this, h2 (by rw [this] at e; rw [hp] at e; omega)]
theorem wt_le : ∀ (l : List UInt8) (i n : Nat), i + l.length ≤ n → wt i l ≤ l.length * (255 * n) := by
  intro l
  induction l with
  | nil => intro i n _; simp [wt]
  | cons c l ih =>
    intro i n h
    rw [List.length_cons] at h
    have h1 := ih (i + 1) n (by omega)
    have h2 : c.toNat * (i + 1) ≤ 255 * n := Nat.mul_le_mul (by have := c.toNat_lt; omega) (by omega)
    rw [wt, List.length_cons, Nat.succ_mul]
    omega
theorem wt_small {l : List UInt8} (h : l.length ≤ 2000) : wt 0 l < 2147483647 := by
  have h1 := wt_le l 0 2000 (by omega)
  have h2 : l.length * (255 * 2000) ≤ 2000 * (255 * 2000) := Nat.mul_le_mul_right _ h
  omega
theorem itoa_nz {n : Int} : ∀ c ∈ itoa n, c ≠ 0 := by
  intro c hc e
  have := Wire.itoa_chars hc
  rw [e] at this
  simp at this
theorem form_eq (t : List UInt8) : form t = (itoa (t.length : Int) ++ [58]) ++ (t ++ (44 :: numE (sumN t))) := by
  unfold form textE
  simp
theorem num_pre {n m : Int} {M r : List UInt8} (hn : 0 ≤ n) (hm : 0 ≤ m) (hn2 : n ≤ 9223372036854775807) (hm2 : m ≤ 9223372036854775807) (h : numE n <+: numE m ++ M) : n = m := by
  obtain ⟨r, e⟩ := h
  have h1 := rNum_back (n := n) (r := r) ⟨by omega, by omega⟩ hn
  have h2 := rNum_back (n := m) (r := M) ⟨by omega, by omega⟩ hm
  rw [e, h2] at h1
  exact (Prod.mk.inj h1).1.symm
/-- The first record of what is left is the first record. -/
theorem one_tn {x a M t : List UInt8} (h : Tn x (form a ++ M)) (ha : a.length ≤ 2000) (ho : one x = some t) : t = a := by
  obtain ⟨r, rfl, ht⟩ := one_inv ho
  rw [form_eq t, form_eq a, List.append_assoc (itoa (t.length : Int) ++ [58]), List.append_assoc (itoa (a.length : Int) ++ [58])] at h
  obtain ⟨h1, h2⟩ := tn_split h
  have hp := tn_nz h1 (fun c hc => by
    rcases List.mem_append.1 hc with hc | hc
    · exact itoa_nz c hc
    · rw [List.mem_singleton.1 hc]; decide)
  obtain ⟨r1, e1⟩ := hp
  have q1 := Wire.rNumber_back (n := (t.length : Int)) (least := 0) (e := 58) (r := r1) ⟨by omega, by omega⟩ (by omega) (by decide)
  have q2 := Wire.rNumber_back (n := (a.length : Int)) (least := 0) (e := 58) (r := (a ++ 44 :: numE (sumN a)) ++ M) ⟨by omega, by omega⟩ (by omega) (by decide)
  have e1' : itoa (t.length : Int) ++ 58 :: r1 = itoa (a.length : Int) ++ 58 :: ((a ++ 44 :: numE (sumN a)) ++ M) := by simpa using e1
  rw [e1', q2] at q1
  have hlen : t.length = a.length := by have := (Prod.mk.inj q1).1; omega
  rw [hlen, List.drop_left] at h2
  rw [List.append_assoc t, List.append_assoc a] at h2
  obtain ⟨h3, h4⟩ := tn_split h2
  rw [hlen, List.drop_left] at h4
  have h3' : Tn t a := by
    rw [tn_iff] at h3 ⊢
    refine ⟨by omega, fun k hk => ?_⟩
    have := h3.2 k hk
    rwa [List.getElem?_append_left (by omega)] at this
  have h5 : Tn (numE (sumN t) ++ r) (numE (sumN a) ++ M) := h4.2
  have hbt := sumN_bd t
  have hba := sumN_bd a
  have h6 := tn_nz (tn_split h5).1 (fun c hc => by
    unfold numE at hc
    rw [if_neg (by omega)] at hc
    rcases List.mem_append.1 hc with hc | hc
    · exact itoa_nz c hc
    · rw [List.mem_singleton.1 hc]; decide)
  have hs : sumN t = sumN a := num_pre (r := []) hbt.1 hba.1 (by omega) (by omega) h6
  obtain ⟨hw, heq⟩ := wt_tn 0 h3' hlen
  have hwa := wt_small ha
  refine heq ?_
  unfold sumN at hs
  omega
/-- The records of what is left: the first m, where all bytes of their forms are there, and not all of the next one's. -/
theorem recs_tn : ∀ {A : List (List UInt8)} {x : List UInt8}, Tn x (forms A) → (∀ a ∈ A, a.length ≤ 2000) →
    ∃ m, m ≤ A.length ∧ recs x = A.take m ∧ forms (A.take m) <+: x ∧ ∀ k, k ≤ A.length → forms (A.take k) <+: x → k ≤ m := by
  intro A
  induction A with
  | nil =>
    intro x h _
    rw [tn_nil h]
    exact ⟨0, Nat.le_refl _, rfl, List.prefix_refl _, fun k hk _ => hk⟩
  | cons a A ih =>
    intro x h hs
    rw [forms_cons] at h
    cases ho : one x with
    | none =>
      refine ⟨0, Nat.zero_le _, recs_none ho, List.nil_prefix, fun k hk hp => ?_⟩
      cases k with
      | zero => exact Nat.le_refl _
      | succ k =>
        rw [List.take_succ_cons, forms_cons] at hp
        obtain ⟨r, e⟩ := hp
        rw [← e, List.append_assoc, one_form (by have := hs a (List.mem_cons_self ..); omega)] at ho
        cases ho
    | some t =>
      obtain rfl := one_tn h (hs a (List.mem_cons_self ..)) ho
      obtain ⟨r, rfl, ht⟩ := one_inv ho
      have h2 := (tn_split h).2
      rw [List.drop_left] at h2
      obtain ⟨m, h3, h4, h5, h6⟩ := ih h2 (fun b hb => hs b (List.mem_cons_of_mem _ hb))
      refine ⟨m + 1, by rw [List.length_cons]; omega, by rw [recs_form ht, h4, List.take_succ_cons], ?_, fun k hk hp => ?_⟩
      · rw [List.take_succ_cons, forms_cons]
        exact (List.prefix_append_right_inj _).2 h5
      · cases k with
        | zero => exact Nat.zero_le _
        | succ k =>
          rw [List.take_succ_cons, forms_cons] at hp
          have := h6 k (by rw [List.length_cons] at hk; omega) ((List.prefix_append_right_inj _).1 hp)
          omega
end Go.Proofs.YtagmlemlagbfkaaDoor.Jr
namespace Go.Proofs.YtagmlemlagbfkaaDoor.Jr
open Go.Lib Go.RowKit
open Dk (Disk Fil)
set_option linter.unusedVariables false
set_option linter.unusedSimpArgs false

theorem get_pre {a b : List UInt8} (h : a <+: b) {k : Nat} (hk : k < a.length) : b[k]? = a[k]? := by
  obtain ⟨r, rfl⟩ := h
  rw [List.getElem?_append_left hk]
theorem pre_get {a b : List UInt8} (hl : a.length ≤ b.length) (h : ∀ k, k < a.length → b[k]? = a[k]?) : a <+: b := by
  rw [List.prefix_iff_eq_take]
  refine List.ext_getElem? (fun k => ?_)
  rw [List.getElem?_take]
  by_cases hk : k < a.length
  · rw [if_pos hk, h k hk]
  · rw [if_neg hk, List.getElem?_eq_none (by omega)]
/-- A sector of N is put into what is left of N. -/
theorem put_tn {s N L : List UInt8} {i : Nat} (h : Tn s N) (h1 : L <+: s) (h2 : L <+: N) (hi : i < N.length) : Tn (Dk.put s i ((N.drop i).take 64)) N ∧ L <+: Dk.put s i ((N.drop i).take 64) := by
  have hl : ((N.drop i).take 64).length = min 64 (N.length - i) := by rw [List.length_take, List.length_drop]
  have hne : (N.drop i).take 64 ≠ [] := fun e => by rw [e] at hl; simp at hl; omega
  have hlen := Dk.put_len s i _ hne
  have hg := Dk.put_get s i _ hne
  rw [tn_iff] at h
  have hin : ∀ k, i ≤ k → k < i + ((N.drop i).take 64).length → ((N.drop i).take 64)[k - i]? = N[k]? := fun k h3 h4 => by
    rw [List.getElem?_take, if_pos (by omega), List.getElem?_drop]
    congr 1
    omega
  refine ⟨?_, ?_⟩
  · rw [tn_iff]
    refine ⟨by omega, fun k hk => ?_⟩
    rw [hg k]
    split
    · split
      · rename_i h4; exact h.2 k h4
      · exact Or.inr rfl
    · split
      · rename_i h3 h4; exact Or.inl (hin k (by omega) h4)
      · rename_i h3 h4; exact h.2 k (by omega)
  · have hll := h1.length_le
    refine pre_get (by omega) (fun k hk => ?_)
    rw [hg k]
    split
    · rw [if_pos (by omega)]; exact get_pre h1 hk
    · split
      · rename_i h3 h4
        rw [hin k (by omega) h4]; exact get_pre h2 hk
      · exact get_pre h1 hk
theorem survives_tn {keep : List Int} {f : Int} {N L : List UInt8} (h2 : L <+: N) : ∀ (q : List (Int × Int)) (i : Nat) (fs : Int → Fil), (fs f).now = N → Tn (fs f).last N → L <+: (fs f).last →
    Tn (Dk.survives keep q i fs f).last N ∧ L <+: (Dk.survives keep q i fs f).last := by
  intro q
  induction q with
  | nil => intro i fs _ h3 h4; exact ⟨h3, h4⟩
  | cons p q ih =>
    intro i fs h1 h3 h4
    have hs : Tn (Dk.survive keep fs p i f).last N ∧ L <+: (Dk.survive keep fs p i f).last := by
      unfold Dk.survive
      split
      · rename_i hc
        by_cases e : f = p.1
        · subst e
          rw [Dk.setF_self]
          dsimp only
          rw [h1] at hc ⊢
          exact put_tn h3 h4 h2 hc.2
        · rw [Dk.setF_ne _ _ e]
          exact ⟨h3, h4⟩
      · exact ⟨h3, h4⟩
    exact ih (i + 1) _ (by rw [Dk.survive_now]; exact h1) hs.1 hs.2
/-- Whatever fails: the file is what is left of the list's forms, and its durable part, a beginning of it, has all that was made sure of. -/
structure Inv (D : Disk) (f : Int) (all sure : List (List UInt8)) : Prop where
  ok : Dk.Ok D
  tn : Tn (D.fs f).now (forms all)
  pre : (D.fs f).last <+: (D.fs f).now
  has : forms sure <+: (D.fs f).last
  small : ∀ a ∈ all, a.length ≤ 2000
  sub : sure <+: all
variable {D : Disk} {f : Int} {all sure : List (List UInt8)}
theorem Inv.of_fs {D' : Disk} (h : Inv D f all sure) (hk : Dk.Ok D') (e : D'.fs = D.fs) : Inv D' f all sure := ⟨hk, by rw [e]; exact h.tn, by rw [e]; exact h.pre, by rw [e]; exact h.has, h.small, h.sub⟩
theorem Inv.more (h : Inv D f all sure) {s : List UInt8} (hs : s.length ≤ 2000) : Inv D f (all ++ [s]) sure :=
  ⟨h.ok, by rw [forms_snoc]; exact tn_more h.tn, h.pre, h.has, fun a ha => by
    rcases List.mem_append.1 ha with ha | ha
    · exact h.small a ha
    · rw [List.mem_singleton.1 ha]; exact hs, h.sub.trans (List.prefix_append _ _)⟩
theorem Inv.crash (h : Inv D f all sure) (keep : List Int) : Inv (Dk.crash D keep) f all sure := by
  have hk := Dk.crash_ok h.ok keep
  unfold Dk.crash at hk ⊢
  split
  · exact h
  · rename_i hd
    rw [if_neg hd] at hk
    obtain ⟨h1, h2⟩ := survives_tn (keep := keep) h.pre D.q 0 D.fs rfl (tn_pre h.pre) (List.prefix_refl _)
    exact ⟨hk, tn_trans h1 h.tn, List.prefix_refl _, h.has.trans h2, h.small, h.sub⟩
theorem counted_fs (D : Disk) : (Dk.counted D).fs = D.fs := by unfold Dk.counted; split <;> rfl
theorem counted_q (D : Disk) : (Dk.counted D).q = D.q := by unfold Dk.counted; split <;> rfl
theorem counted_down (D : Disk) : (Dk.counted D).down = D.down := by unfold Dk.counted; split <;> rfl
theorem counted_keep (D : Disk) : (Dk.counted D).keep = D.keep := by unfold Dk.counted; split <;> rfl
theorem Inv.counted (h : Inv D f all sure) : Inv (Dk.counted D) f all sure := h.of_fs (Dk.counted_ok h.ok) (counted_fs D)
theorem Inv.come (h : Inv D f all sure) : Inv (Dk.come D) f all sure := by
  unfold Dk.come
  split
  · exact h.counted.crash _
  · exact h.counted
theorem put_end (s t : List UInt8) : Dk.put s s.length t = s ++ t := by
  unfold Dk.put
  split
  · rename_i h; rw [h, List.append_nil]
  · rw [List.take_length, Nat.sub_self, List.drop_eq_nil_of_le (by omega)]
    simp
theorem form_ne (s : List UInt8) : form s ≠ [] := fun e => by have := form_pos s; rw [e] at this; cases this
/-- A record's form is added at the end. -/
theorem Inv.write0 (h : Inv D f all sure) (hn : (D.fs f).now = forms all) {s : List UInt8} (hs : s.length ≤ 2000) :
    Inv (Dk.write0 D f (forms all).length (form s)).1 f (all ++ [s]) sure ∧ ((Dk.write0 D f (forms all).length (form s)).2 = 0 → ((Dk.write0 D f (forms all).length (form s)).1.fs f).now = forms (all ++ [s])) := by
  have hk := Dk.write0_ok h.ok f (forms all).length (form s)
  have hm := h.more hs
  unfold Dk.write0 at hk ⊢
  split
  · rename_i h1
    exact ⟨hm, fun e => absurd e h1⟩
  · rename_i h1
    rw [if_neg h1] at hk
    split
    · rename_i h2
      exact ⟨hm, fun e => absurd e h2⟩
    · rename_i h2
      rw [if_neg h2] at hk
      have e1 : ((Dk.add D f (((forms all).length : Int)).toNat (form s)).fs f) = ⟨forms all ++ form s, (D.fs f).last⟩ := by
        unfold Dk.add
        rw [if_neg (form_ne s)]
        dsimp only
        rw [Dk.setF_self, hn, Int.toNat_natCast, put_end]
      refine ⟨⟨hk, ?_, ?_, ?_, hm.small, hm.sub⟩, fun _ => ?_⟩
      · rw [e1, forms_snoc]; exact tn_refl _
      · rw [e1, ← hn]; exact h.pre.trans (List.prefix_append _ _)
      · rw [e1]; exact h.has
      · rw [e1, forms_snoc]
theorem Inv.write (h : Inv D f all sure) (hn : (D.fs f).now = forms all) {s : List UInt8} (hs : s.length ≤ 2000) :
    Inv (Dk.write D f (forms all).length (form s)).1 f (all ++ [s]) sure ∧ ((Dk.write D f (forms all).length (form s)).2 = 0 → ((Dk.write D f (forms all).length (form s)).1.fs f).now = forms (all ++ [s])) := by
  obtain ⟨h1, h2⟩ := h.counted.write0 (by rw [counted_fs]; exact hn) hs
  unfold Dk.write
  split
  · exact ⟨h1.crash _, fun e => by cases e⟩
  · exact ⟨h1, h2⟩
theorem write_up {n : Nat} {s : List UInt8} (hf : 0 ≤ f ∧ f < 16) (hn : n + s.length ≤ 16777216) (hd : D.down = false) (ha : D.armed = 0) :
    (Dk.write D f n s).2 = 0 ∧ (Dk.write D f n s).1 = Dk.add D f n s := by
  have hc : Dk.counted D = D := by unfold Dk.counted; rw [if_pos (Or.inr ha)]
  unfold Dk.write Dk.ends
  rw [hc, hd, ha]
  rw [if_neg (by decide)]
  unfold Dk.write0
  have hm : Dk.may D f = 0 := by unfold Dk.may; rw [hd, if_neg (by decide), if_neg (by omega)]
  have hw : Dk.wErr (n : Int) s.length = 0 := by
    unfold Dk.wErr
    rw [if_neg (by omega), if_neg (by omega)]
  rw [hm, if_neg (by decide), hw, if_neg (by decide)]
  simp
theorem come_down {D : Disk} (h : (Dk.come D).down = false) : Dk.ends D = false ∧ Dk.come D = Dk.counted D ∧ D.down = false := by
  unfold Dk.come at h ⊢
  cases he : Dk.ends D with
  | true =>
    rw [he] at h
    simp only [if_true] at h
    have hd : (Dk.counted D).down = false := by
      rw [counted_down]
      unfold Dk.ends at he
      cases hx : D.down with
      | true => rw [hx] at he; simp at he
      | false => rfl
    unfold Dk.crash at h
    rw [hd] at h
    simp at h
  | false =>
    rw [he, if_neg (by decide)] at h
    rw [counted_down] at h
    exact ⟨rfl, by rw [if_neg (by decide)], h⟩
/-- A sync that is done makes sure of all. -/
theorem sync_done (h : (Dk.sync D f).2 = 0) : ((Dk.sync D f).1.fs f).now = (D.fs f).now ∧ ((Dk.sync D f).1.fs f).last = (D.fs f).now ∧ (Dk.sync D f).1.down = false ∧ 0 ≤ f ∧ f < 16 := by
  unfold Dk.sync at h ⊢
  split at h
  · rename_i h1; exact absurd h h1
  · rename_i h1
    have hm := Dk.may_file (Decidable.not_not.1 h1)
    rw [if_neg h1]
    split at h
    · cases h
    · rename_i h2
      rw [if_neg h2]
      have hc := (come_down hm.1).2.1
      unfold Dk.settle
      dsimp only
      rw [Dk.setF_self, hc, counted_fs]
      exact ⟨rfl, rfl, by rw [← hc]; exact hm.1, hm.2⟩
theorem Inv.settle (h : Inv D f all sure) (hk : Dk.Ok (Dk.settle D f (D.fs f).now)) : Inv (Dk.settle D f (D.fs f).now) f all sure := by
  refine ⟨hk, ?_, ?_, ?_, h.small, h.sub⟩ <;> unfold Dk.settle <;> dsimp only <;> rw [Dk.setF_self]
  · exact h.tn
  · exact List.prefix_refl _
  · exact h.has.trans h.pre
theorem Inv.sync (h : Inv D f all sure) : Inv (Dk.sync D f).1 f all sure := by
  have hk := Dk.sync_ok h.ok f
  have hc := h.come
  unfold Dk.sync at hk ⊢
  split
  · exact hc
  · rename_i h1
    rw [if_neg h1] at hk
    split
    · rename_i h2
      rw [if_pos h2] at hk
      exact hc.of_fs hk rfl
    · rename_i h2
      rw [if_neg h2] at hk
      exact hc.settle hk
theorem sync_err (hf : 0 ≤ f ∧ f < 16) : (Dk.sync D f).2 = 0 ∨ (Dk.sync D f).2 = 8 ∨ (Dk.sync D f).2 = 9 := by
  unfold Dk.sync
  split
  · unfold Dk.may
    split
    · exact Or.inr (Or.inl rfl)
    · rw [if_neg (by omega)]; exact Or.inl rfl
  · split
    · exact Or.inr (Or.inr rfl)
    · exact Or.inl rfl
theorem sync_up (hf : 0 ≤ f ∧ f < 16) (hd : D.down = false) (ha : D.armed = 0) : (Dk.sync D f).2 = (if 0 < D.lost then 9 else 0) ∧ (Dk.sync D f).1.armed = 0 ∧ (Dk.sync D f).1.down = false ∧ (Dk.sync D f).1.lost = (if 0 < D.lost then D.lost - 1 else D.lost) := by
  have hc : Dk.come D = D := by
    unfold Dk.come Dk.ends Dk.counted
    rw [ha, hd]
    simp
  have hm : Dk.may D f = 0 := by unfold Dk.may; rw [hd, if_neg (by decide), if_neg (by omega)]
  unfold Dk.sync
  rw [hc, hm, if_neg (by decide)]
  split
  · exact ⟨rfl, ha, hd, rfl⟩
  · exact ⟨rfl, ha, hd, rfl⟩
/-- The file is cut after its records. -/
theorem trunc_done {n : Int} (hn : 0 ≤ n) (h : (Dk.truncate D f n).2 = 0) : ((Dk.truncate D f n).1.fs f).now = (D.fs f).now.take n.toNat ∧ ((Dk.truncate D f n).1.fs f).last = (D.fs f).now.take n.toNat ∧ (Dk.truncate D f n).1.down = false := by
  unfold Dk.truncate at h ⊢
  split at h
  · rename_i h1; exact absurd h h1
  · rename_i h1
    have hm := Dk.may_file (Decidable.not_not.1 h1)
    rw [if_neg h1]
    split at h
    · cases h
    · rename_i h2
      rw [if_neg h2]
      have hc := (come_down hm.1).2.1
      unfold Dk.settle
      dsimp only
      rw [Dk.setF_self, hc, counted_fs]
      exact ⟨rfl, rfl, by rw [← hc]; exact hm.1⟩
theorem come_now (D : Disk) (f : Int) (h : (D.fs f).last = (D.fs f).now) : ((Dk.come D).fs f).now = (D.fs f).now := by
  unfold Dk.come
  split
  · unfold Dk.crash
    split
    · rw [counted_fs]
    · dsimp only
      rw [counted_fs, counted_q]
      obtain ⟨h1, h2⟩ := survives_tn (keep := D.keep) (f := f) (List.prefix_refl (D.fs f).now) D.q 0 D.fs rfl (by rw [h]; exact tn_refl _) (by rw [h]; exact List.prefix_refl _)
      have := (tn_iff.1 h1).1
      exact (h2.eq_of_length_le this).symm
  · rw [counted_fs]
theorem trunc_err {n : Int} (hf : 0 ≤ f ∧ f < 16) (hn : 0 ≤ n) (hl : (D.fs f).last = (D.fs f).now) (hle : n ≤ (D.fs f).now.length) : (Dk.truncate D f n).2 = 0 ∨ (Dk.truncate D f n).2 = 8 := by
  have hc := come_now D f hl
  unfold Dk.truncate
  split
  · unfold Dk.may
    split
    · exact Or.inr rfl
    · rw [if_neg (by omega)]; exact Or.inl rfl
  · rw [if_neg (by rw [hc]; omega)]
    exact Or.inl rfl
theorem trunc_up {n : Int} (hf : 0 ≤ f ∧ f < 16) (hd : D.down = false) (ha : D.armed = 0) (hn : 0 ≤ n) (hle : n ≤ (D.fs f).now.length) : (Dk.truncate D f n).2 = 0 ∧ (Dk.truncate D f n).1.armed = 0 ∧ (Dk.truncate D f n).1.lost = D.lost := by
  have hc : Dk.come D = D := by
    unfold Dk.come Dk.ends Dk.counted
    rw [ha, hd]
    simp
  have hm : Dk.may D f = 0 := by unfold Dk.may; rw [hd, if_neg (by decide), if_neg (by omega)]
  unfold Dk.truncate
  rw [hc, hm, if_neg (by decide), if_neg (by omega)]
  exact ⟨rfl, ha, rfl⟩
theorem Inv.lists (h : Inv D f all sure) : ∃ m, m ≤ all.length ∧ recs (D.fs f).now = all.take m ∧ sure.length ≤ m := by
  obtain ⟨m, h1, h2, h3, h4⟩ := recs_tn h.tn h.small
  refine ⟨m, h1, h2, h4 sure.length h.sub.length_le ?_⟩
  have e := List.prefix_iff_eq_take.1 h.sub
  rw [← e]
  exact h.has.trans h.pre
/-- What Open leaves, and returns. -/
theorem Inv.open_ (h : Inv D f all sure) (hf : 0 ≤ f ∧ f < 16) :
    ((openJ D f).2.1 = none ∧ ((openJ D f).2.2 = 8 ∨ (openJ D f).2.2 = 9) ∧ Inv (openJ D f).1 f all sure) ∨
    ∃ l, (openJ D f).2.1 = some ⟨f, l, false⟩ ∧ (openJ D f).2.2 = 0 ∧ l <+: all ∧ sure <+: l ∧ Inv (openJ D f).1 f l l ∧ ((openJ D f).1.fs f).now = forms l ∧ (openJ D f).1.down = false := by
  have hs := h.sync
  unfold openJ
  rw [if_neg (by omega)]
  rcases sync_err (D := D) hf with h0 | h0
  · obtain ⟨e1, e2, e3, _⟩ := sync_done h0
    rw [if_neg (by rw [h0]; decide), e1]
    obtain ⟨m, hm, hr, hsm⟩ := h.lists
    rw [hr]
    have hpre : all.take m <+: all := List.take_prefix _ _
    have hsl : sure <+: all.take m := by
      rw [List.prefix_iff_eq_take.1 h.sub]
      exact List.take_prefix_take_left (by omega)
    have hsmall : ∀ a ∈ all.take m, a.length ≤ 2000 := fun a ha => h.small a (List.mem_of_mem_take ha)
    have hfp : forms (all.take m) <+: (D.fs f).now := by rw [← hr]; exact recs_pre _
    have htake : (D.fs f).now.take (forms (all.take m)).length = forms (all.take m) := (List.prefix_iff_eq_take.1 hfp).symm
    split
    · rename_i hlt
      rcases trunc_err (D := (Dk.sync D f).1) (n := ((forms (all.take m)).length : Int)) hf (by omega) (by rw [e1, e2]) (by rw [e1]; omega) with h8 | h8
      · obtain ⟨t1, t2, t3⟩ := trunc_done (by omega) h8
        rw [if_neg (by rw [h8]; decide)]
        rw [e1, Int.toNat_natCast, htake] at t1 t2
        exact Or.inr ⟨all.take m, rfl, rfl, hpre, hsl, ⟨Dk.truncate_ok hs.ok _ _, by rw [t1]; exact tn_refl _, by rw [t1, t2]; exact List.prefix_refl _, by rw [t2]; exact List.prefix_refl _, hsmall, List.prefix_refl _⟩, t1, t3⟩
      · rw [if_pos (by rw [h8]; decide)]
        refine Or.inl ⟨rfl, Or.inl h8, ?_⟩
        have hc := hs.come
        have hk := Dk.truncate_ok hs.ok f ((forms (all.take m)).length : Int)
        unfold Dk.truncate at h8 hk ⊢
        split at h8
        · rename_i h9
          rw [if_pos h9]; exact hc
        · split at h8 <;> cases h8
    · rename_i hlt
      have hle := hfp.length_le
      have heq : forms (all.take m) = (D.fs f).now := hfp.eq_of_length (by omega)
      exact Or.inr ⟨all.take m, rfl, rfl, hpre, hsl, ⟨hs.ok, by rw [e1, heq]; exact tn_refl _, by rw [e1, e2]; exact List.prefix_refl _, by rw [e2, heq]; exact List.prefix_refl _, hsmall, List.prefix_refl _⟩, by rw [e1, heq], e3⟩
  · rw [if_pos (by omega)]
    exact Or.inl ⟨rfl, h0, hs⟩
end Go.Proofs.YtagmlemlagbfkaaDoor.Jr
namespace Go.Proofs.YtagmlemlagbfkaaDoor.Jr
open Dk (Disk)
set_option linter.unusedVariables false
set_option linter.unusedSimpArgs false

structure Calm (D : Disk) : Prop where
  down : D.down = false
  armed : D.armed = 0
  lost : D.lost = 0
theorem Calm.may {D : Disk} (h : Calm D) {f : Int} (hf : 0 ≤ f ∧ f < 16) : Dk.may D f = 0 := by
  unfold Dk.may; rw [h.down, if_neg (by decide), if_neg (by omega)]
theorem Calm.write {D : Disk} (h : Calm D) {f : Int} (hf : 0 ≤ f ∧ f < 16) {n : Nat} {s : List UInt8} (hn : n + s.length ≤ 16777216) :
    (Dk.write D f n s).2 = 0 ∧ Calm (Dk.write D f n s).1 ∧ ((Dk.write D f n s).1.fs f).now = Dk.put (D.fs f).now n s ∧ ∀ g, g ≠ f → ((Dk.write D f n s).1.fs g) = D.fs g := by
  obtain ⟨h1, h2⟩ := write_up (f := f) (n := n) (s := s) hf hn h.down h.armed
  rw [h2]
  refine ⟨h1, ?_⟩
  unfold Dk.add
  split
  · rename_i e
    exact ⟨h, by rw [e]; unfold Dk.put; rw [if_pos rfl], fun _ _ => rfl⟩
  · refine ⟨⟨h.down, h.armed, h.lost⟩, ?_, fun g hg => ?_⟩
    · dsimp only; rw [Dk.setF_self]
    · dsimp only; rw [Dk.setF_ne _ _ hg]
/-- A journal is opened. -/
theorem Calm.open_ {D : Disk} (h : Calm D) {f : Int} (hf : 0 ≤ f ∧ f < 16) :
    ∃ D', openJ D f = (D', some ⟨f, recs (D.fs f).now, false⟩, 0) ∧ Calm D' ∧ (D'.fs f).now = forms (recs (D.fs f).now) := by
  obtain ⟨s1, s2, s3, s4⟩ := sync_up (f := f) hf h.down h.armed
  rw [h.lost, if_neg (by omega)] at s1 s4
  obtain ⟨t1, t2, t3, _⟩ := sync_done s1
  have hl := recs_len (D.fs f).now
  unfold openJ
  rw [if_neg (by omega), s1, if_neg (by omega), t1]
  by_cases hlt : (forms (recs (D.fs f).now)).length < (D.fs f).now.length
  · rw [if_pos hlt]
    obtain ⟨q1, q2, q3⟩ := trunc_up (D := (Dk.sync D f).1) (f := f) (n := ((forms (recs (D.fs f).now)).length : Nat)) hf s3 s2 (by omega) (by rw [t1]; omega)
    obtain ⟨r1, r2, r3⟩ := trunc_done (D := (Dk.sync D f).1) (f := f) (n := ((forms (recs (D.fs f).now)).length : Nat)) (by omega) q1
    rw [q1, if_neg (by omega)]
    refine ⟨_, rfl, ⟨r3, q2, q3.trans s4⟩, ?_⟩
    rw [r1, t1, Int.toNat_natCast]
    obtain ⟨r, e, _⟩ := recs_split _ (D.fs f).now (Nat.le_refl _)
    conv => lhs; arg 2; rw [e]
    rw [List.take_left]
  · rw [if_neg hlt]
    refine ⟨_, rfl, ⟨s3, s2, s4⟩, ?_⟩
    rw [t1]
    exact ((recs_pre _).eq_of_length (by omega)).symm
end Go.Proofs.YtagmlemlagbfkaaDoor.Jr
namespace Go.Proofs.YtagmlemlagbfkaaDoor.Jr
open Dk (Disk)
set_option linter.unusedVariables false
set_option linter.unusedSimpArgs false

/-- The disk is up, no crash is scheduled; the file is what is left of a list of at most n records of at most 200 bytes, and a journal that is not broken has that list. -/
structure St (D : Disk) (jo : Option Jn) (n : Nat) : Prop where
  down : D.down = false
  armed : D.armed = 0
  inv : ∃ all sure, Inv D 0 all sure ∧ all.length ≤ n ∧ (∀ a ∈ all, a.length ≤ 200) ∧
    ∀ j, jo = some j → j.file = 0 ∧ j.recs.length ≤ n ∧ (∀ a ∈ j.recs, a.length ≤ 200) ∧ (j.broken = false → all = j.recs ∧ (D.fs 0).now = forms all)
theorem St.mono {D : Disk} {jo : Option Jn} {n m : Nat} (h : St D jo n) (hm : n ≤ m) : St D jo m := by
  obtain ⟨h1, h2, all, sure, h3, h4, h5, h6⟩ := h
  exact ⟨h1, h2, all, sure, h3, by omega, h5, fun j hj => ⟨(h6 j hj).1, by have := (h6 j hj).2.1; omega, (h6 j hj).2.2⟩⟩
theorem forms_small {l : List (List UInt8)} {n : Nat} (h : ∀ a ∈ l, a.length ≤ 200) (hn : l.length ≤ n) : (forms l).length ≤ n * 243 := by
  have := forms_len (n := 200) h (by omega)
  exact Nat.le_trans this (Nat.mul_le_mul_right _ hn)
/-- Opening. -/
theorem St.open_ {D : Disk} {jo : Option Jn} {n : Nat} (h : St D jo n) : St (openJ D 0).1 (openJ D 0).2.1 n := by
  obtain ⟨h1, h2, all, sure, h3, h4, h5, h6⟩ := h
  have hs := sync_up (f := 0) (by omega) h1 h2
  have hD : (openJ D 0).1.down = false ∧ (openJ D 0).1.armed = 0 := by
    unfold openJ
    rw [if_neg (by omega)]
    split
    · exact ⟨hs.2.2.1, hs.2.1⟩
    · rename_i e0
      have e0 : (Dk.sync D 0).2 = 0 := Decidable.not_not.1 e0
      split
      · rename_i hlt
        obtain ⟨q1, q2, q3⟩ := trunc_up (D := (Dk.sync D 0).1) (f := 0) (n := ((forms (recs ((Dk.sync D 0).1.fs 0).now)).length : Nat)) (by omega) hs.2.2.1 hs.2.1 (by omega) (by omega)
        obtain ⟨_, _, r3⟩ := trunc_done (D := (Dk.sync D 0).1) (f := 0) (n := ((forms (recs ((Dk.sync D 0).1.fs 0).now)).length : Nat)) (by omega) q1
        rw [if_neg (by omega)]
        exact ⟨r3, q2⟩
      · exact ⟨hs.2.2.1, hs.2.1⟩
  rcases h3.open_ (by omega) with ⟨e1, _, e3⟩ | ⟨l, e1, _, e3, e4, e5, e6, _⟩
  · rw [e1]
    exact ⟨hD.1, hD.2, all, sure, e3, h4, h5, fun j hj => by cases hj⟩
  · rw [e1]
    have hl := e3.length_le
    have hsm : ∀ a ∈ l, a.length ≤ 200 := fun a ha => h5 a (e3.subset ha)
    refine ⟨hD.1, hD.2, l, l, e5, by omega, hsm, fun j hj => ?_⟩
    obtain rfl := Option.some.inj hj
    exact ⟨rfl, by dsimp only; omega, hsm, fun _ => ⟨rfl, e6⟩⟩
/-- A record is appended. -/
theorem St.append {D : Disk} {j : Jn} {n : Nat} (h : St D (some j) n) (hn : n ≤ 100) {s : List UInt8} (hs : s.length ≤ 200) :
    St (append D j s).1 (some (append D j s).2.1) (n + 1) ∧ ((j.broken = true ∧ append D j s = (D, j, 7)) ∨ (j.broken = false ∧ (append D j s).2 = ({ j with recs := j.recs ++ [s] }, 0))) := by
  have hall := h
  obtain ⟨h1, h2, all, sure, h3, h4, h5, h6⟩ := h
  obtain ⟨k1, k2, k3, k4⟩ := h6 j rfl
  cases hb : j.broken with
  | true =>
    have e : Jr.append D j s = (D, j, 7) := by unfold Jr.append; rw [if_pos hb]
    rw [e]
    exact ⟨hall.mono (by omega), Or.inl ⟨rfl, rfl⟩⟩
  | false =>
    obtain ⟨rfl, k5⟩ := k4 hb
    have hfl := forms_small k3 k2
    have hf2 := form_len s (by omega)
    have e : Jr.append D j s = ((Dk.write D 0 (forms j.recs).length (form s)).1, { j with recs := j.recs ++ [s] }, 0) := by
      obtain ⟨w1, _⟩ := write_up (D := D) (f := 0) (n := (forms j.recs).length) (s := form s) (by omega) (by omega) h1 h2
      unfold Jr.append
      rw [if_neg (by rw [hb]; decide), if_neg (by omega), if_neg (by omega), k1, w1, if_neg (by omega)]
    obtain ⟨w1, w2⟩ := write_up (D := D) (f := 0) (n := (forms j.recs).length) (s := form s) (by omega) (by omega) h1 h2
    obtain ⟨i1, i2⟩ := h3.write k5 (s := s) (by omega)
    rw [e]
    have hsm : ∀ a ∈ j.recs ++ [s], a.length ≤ 200 := fun a ha => by
      rcases List.mem_append.1 ha with ha | ha
      · exact k3 a ha
      · rw [List.mem_singleton.1 ha]; exact hs
    refine ⟨⟨?_, ?_, j.recs ++ [s], sure, i1, by rw [List.length_append]; simp; omega, hsm, fun j' hj => ?_⟩, Or.inr ⟨rfl, by simp [hb]⟩⟩
    · dsimp only; rw [w2]; unfold Dk.add; split <;> exact h1
    · dsimp only; rw [w2]; unfold Dk.add; split <;> exact h2
    · obtain rfl := Option.some.inj hj
      exact ⟨k1, by dsimp only; rw [List.length_append]; simp; omega, hsm, fun _ => ⟨rfl, i2 w1⟩⟩
theorem St.sync {D : Disk} {j : Jn} {n : Nat} (h : St D (some j) n) : St (syncJ D j).1 (some (syncJ D j).2.1) n ∧ (syncJ D j).2.1.recs = j.recs ∧
    ((syncJ D j).2.2 = 0 → (syncJ D j).2.1.broken = false ∧ Inv (syncJ D j).1 0 j.recs j.recs) := by
  have hall := h
  obtain ⟨h1, h2, all, sure, h3, h4, h5, h6⟩ := h
  obtain ⟨k1, k2, k3, k4⟩ := h6 j rfl
  cases hb : j.broken with
  | true =>
    have e : syncJ D j = (D, j, 7) := by unfold Jr.syncJ; rw [if_pos hb]
    rw [e]
    exact ⟨hall, rfl, fun e => by cases e⟩
  | false =>
    obtain ⟨rfl, k5⟩ := k4 hb
    have e : syncJ D j = ((Dk.sync D 0).1, { j with broken := decide ((Dk.sync D 0).2 ≠ 0) }, (Dk.sync D 0).2) := by unfold Jr.syncJ; rw [if_neg (by rw [hb]; decide), k1]
    have hs := sync_up (f := 0) (by omega) h1 h2
    rw [e]
    refine ⟨⟨hs.2.2.1, hs.2.1, j.recs, sure, h3.sync, h4, h5, fun j' hj => ?_⟩, rfl, fun e0 => ?_⟩
    · obtain rfl := Option.some.inj hj
      refine ⟨k1, k2, k3, fun hbr => ⟨rfl, ?_⟩⟩
      have e0 : (Dk.sync D 0).2 = 0 := by
        have := of_decide_eq_false hbr
        exact Decidable.not_not.1 this
      dsimp only
      rw [(sync_done e0).1]; exact k5
    · obtain ⟨t1, t2, _⟩ := sync_done e0
      have hi := h3.sync
      refine ⟨by dsimp only at e0 ⊢; rw [e0]; rfl, ⟨hi.ok, hi.tn, hi.pre, ?_, hi.small, List.prefix_refl _⟩⟩
      dsimp only
      rw [t2, k5]
      exact List.prefix_refl _
/-- A crash, and the start. -/
theorem St.crash {D : Disk} {jo : Option Jn} {n : Nat} (h : St D jo n) (keep : List Int) : St (Dk.start (Dk.crash D keep)) none n := by
  obtain ⟨h1, h2, all, sure, h3, h4, h5, h6⟩ := h
  have hc := h3.crash keep
  refine ⟨rfl, ?_, all, sure, hc.of_fs (Dk.start_ok hc.ok) rfl, h4, h5, fun j hj => by cases hj⟩
  rw [show (Dk.start (Dk.crash D keep)).armed = (Dk.crash D keep).armed from rfl, Dk.crash_eq h1]
end Go.Proofs.YtagmlemlagbfkaaDoor.Jr
namespace Go.Proofs.YtagmlemlagbfkaaDoor.Jr
open Dk (Disk)
set_option linter.unusedVariables false
set_option linter.unusedSimpArgs false

/-- A record is appended on a calm disk. -/
theorem Calm.append {D : Disk} (h : Calm D) {f : Int} (hf : 0 ≤ f ∧ f < 16) {L : List (List UInt8)} (hn : (D.fs f).now = forms L) {s : List UInt8} (hs : s.length ≤ 200) (hL : (forms L).length ≤ 100000) :
    ∃ D', append D ⟨f, L, false⟩ s = (D', ⟨f, L ++ [s], false⟩, 0) ∧ Calm D' ∧ (D'.fs f).now = forms (L ++ [s]) ∧ ∀ g, g ≠ f → D'.fs g = D.fs g := by
  have hf2 := form_len s (by omega)
  obtain ⟨e1, e2, e3, e4⟩ := h.write (f := f) hf (n := (forms L).length) (s := form s) (by omega)
  refine ⟨(Dk.write D f (forms L).length (form s)).1, ?_, e2, ?_, e4⟩
  · unfold Jr.append
    rw [if_neg (by simp), if_neg (by omega), if_neg (by dsimp only; omega)]
    dsimp only
    rw [if_neg (by omega)]
  · rw [e3, hn, put_end, forms_snoc]
end Go.Proofs.YtagmlemlagbfkaaDoor.Jr
