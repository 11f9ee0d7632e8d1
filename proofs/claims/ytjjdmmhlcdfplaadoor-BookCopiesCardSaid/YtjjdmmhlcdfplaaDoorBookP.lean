/- Layers 5 and 7 in plain words: the ring of signatures, the book, what they answer. No program stands in this text. -/
import Derived.Test.YtjjdmmhlcdfplaaDoorClaimM
namespace Go.Proofs.YtjjdmmhlcdfplaaDoor.Bk
open Go.Lib Go.RowKit
open Cl (Clm)
set_option linter.unusedVariables false
set_option linter.unusedSimpArgs false

/-- An entry of the ring. -/
structure Seal where
  key : Int
  text : List UInt8
deriving DecidableEq
structure Sgn where
  key : Int
  text : List UInt8
  mark : Int
deriving DecidableEq
def noSgn : Sgn := ⟨0, [], 0⟩
def isKey (k : Int) : Bool := decide (0 ≤ k) && decide (k < 200)
/-- The place of an entry. -/
def place : List Seal → Seal → Option Nat
  | [], _ => none
  | x :: l, e => if x = e then some 0 else (place l e).map (· + 1)
def sign (L : List Seal) (k : Int) (t : List UInt8) : Sgn × List Seal :=
  if isKey k then
    match place L ⟨k, t⟩ with
    | some i => (⟨k, t, i⟩, L)
    | none => (⟨k, t, L.length⟩, L ++ [⟨k, t⟩])
  else (noSgn, L)
def valid (L : List Seal) (s : Sgn) : Bool := match place L ⟨s.key, s.text⟩ with
  | some i => decide ((i : Int) = s.mark)
  | none => false
theorem place_some {L : List Seal} {e : Seal} {i : Nat} (h : place L e = some i) : L[i]? = some e := by
  induction L generalizing i with
  | nil => cases h
  | cons x l ih =>
    unfold place at h
    split at h
    · rename_i hx; cases h; rw [hx]; rfl
    · cases hp : place l e with
      | none => rw [hp] at h; cases h
      | some j =>
        rw [hp] at h
        obtain rfl : j + 1 = i := by simpa using h
        simpa using ih hp
theorem place_none {L : List Seal} {e : Seal} : place L e = none ↔ e ∉ L := by
  induction L with
  | nil => simp [place]
  | cons x l ih =>
    unfold place
    by_cases hx : x = e
    · simp [hx]
    · rw [if_neg hx, Option.map_eq_none_iff, ih, List.mem_cons]
      constructor
      · rintro h (h2 | h2)
        · exact hx h2.symm
        · exact h h2
      · exact fun h h2 => h (Or.inr h2)
theorem place_at {L : List Seal} (hn : L.Nodup) {i : Nat} (h : i < L.length) : place L L[i] = some i := by
  induction L generalizing i with
  | nil => simp at h
  | cons x l ih =>
    obtain ⟨h1, h2⟩ := List.nodup_cons.1 hn
    cases i with
    | zero => simp [place]
    | succ i =>
      have hi : i < l.length := by simpa using h
      have hne : ¬ x = l[i] := fun e => h1 (e ▸ List.getElem_mem hi)
      show place (x :: l) l[i] = _
      rw [place, if_neg hne, ih h2 hi]; rfl
theorem place_lt {L : List Seal} {e : Seal} {i : Nat} (h : place L e = some i) : i < L.length := by
  have := place_some h
  exact (List.getElem?_eq_some_iff.1 this).1
theorem place_snoc {L : List Seal} {e x : Seal} : place (L ++ [x]) e = match place L e with
    | some i => some i
    | none => if x = e then some L.length else none := by
  induction L with
  | nil => simp only [List.nil_append, place, List.length_nil]; split <;> rfl
  | cons y l ih =>
    simp only [List.cons_append, place]
    by_cases hy : y = e
    · simp [hy]
    · simp only [hy, if_false, ih]
      cases place l e with
      | some i => rfl
      | none => simp only [Option.map_none]; split <;> simp
theorem sign_nodup {L : List Seal} {k : Int} {t : List UInt8} (h : L.Nodup) : (sign L k t).2.Nodup := by
  unfold sign
  split
  · split
    · exact h
    · rename_i hp
      have := place_none.1 hp
      rw [List.nodup_append]
      exact ⟨h, by simp, fun a ha b hb e => by rw [List.mem_singleton] at hb; subst hb; subst e; exact this ha⟩
  · exact h

/-- A book: its key, its entries, the moment of its last head (-1: none), how many entries that told. -/
structure Book where
  key : Int
  es : List (List UInt8)
  last : Int
  told : Int
deriving DecidableEq
def new (key : Int) : Book := ⟨key, [], -1, 0⟩
/-- Append: the number, the error. -/
def append (b : Book) (t : List UInt8) : (Int × Int) × Book :=
  if (Cl.key t).2 = false then ((0, 2), b)
  else if 20000 < t.length then ((0, 3), b)
  else if 200000 ≤ b.es.length then ((0, 6), b)
  else ((b.es.length, 0), { b with es := b.es ++ [t] })
def textAt (b : Book) (i : Int) : List UInt8 × Bool := if i < 0 ∨ (b.es.length : Int) ≤ i then ([], false) else (b.es.getD i.toNat [], true)
def signC (L : List Seal) (b : Book) (c : Clm) : Sgn × List Seal := sign L b.key (Cl.text c)
def entry (L : List Seal) (b : Book) (i : Int) : (Sgn × Int) × List Seal :=
  if i < 0 ∨ (b.es.length : Int) ≤ i then ((noSgn, 4), L)
  else (((signC L b ⟨0, i, 0, b.es.getD i.toNat []⟩).1, 0), (signC L b ⟨0, i, 0, b.es.getD i.toNat []⟩).2)
def head (L : List Seal) (b : Book) (now : Int) : (Sgn × Int) × List Seal × Book :=
  if now < 0 ∨ 1073741824 < now then ((noSgn, 1), L, b)
  else if now < b.last ∨ (b.last = now ∧ b.told ≠ b.es.length) then ((noSgn, 7), L, b)
  else (((signC L b ⟨1, b.es.length, now, []⟩).1, 0), (signC L b ⟨1, b.es.length, now, []⟩).2, { b with last := now, told := b.es.length })
def absent (L : List Seal) (b : Book) (k : List UInt8) (n : Int) : (Sgn × Int) × List Seal :=
  if n < 0 ∨ (b.es.length : Int) < n ∨ 20000 < k.length then ((noSgn, 1), L)
  else if Cl.absentB b.es n.toNat k = false then ((noSgn, 5), L)
  else (((signC L b ⟨2, n, 0, k⟩).1, 0), (signC L b ⟨2, n, 0, k⟩).2)
end Go.Proofs.YtjjdmmhlcdfplaaDoor.Bk
