/- Layers 5 and 7 in plain words: the ring of signatures, the book, what they answer. No program stands in this text. Layer 7 in plain words: the first entry with a key. No program stands in this text. Layer 7 in plain words: the documentation's example. No program stands in this text. -/
import Derived.Test.YtkhdnfmnnapjlaaGreatDoorClaimPl
namespace Go.Proofs.YtkhdnfmnnapjlaaGreatDoor.Bk
open Go.Lib Go.RowKit
open Cl (Clm)
set_option linter.unusedVariables false
set_option linter.unusedSimpArgs false

/-- An entry of the ring. -/
structure Seal where
  key : Int
  text : List UInt8
deriving DecidableEq
structure Sgn where
  key : Int
  text : List UInt8
  mark : Int
deriving DecidableEq
def noSgn : Sgn := ⟨0, [], 0⟩
def isKey (k : Int) : Bool := decide (0 ≤ k) && decide (k < 200)
/-- The place of an entry. -/
def place : List Seal → Seal → Option Nat
  | [], _ => none
  | x :: l, e => if x = e then some 0 else (place l e).map (· + 1)
def sign (L : List Seal) (k : Int) (t : List UInt8) : Sgn × List Seal :=
  if isKey k then
    match place L ⟨k, t⟩ with
    | some i => (⟨k, t, i⟩, L)
    | none => (⟨k, t, L.length⟩, L ++ [⟨k, t⟩])
  else (noSgn, L)
def valid (L : List Seal) (s : Sgn) : Bool := match place L ⟨s.key, s.text⟩ with
  | some i => decide ((i : Int) = s.mark)
  | none => false
theorem place_some {L : List Seal} {e : Seal} {i : Nat} (h : place L e = some i) : L[i]? = some e := by
  induction L generalizing i with
  | nil => cases h
  | cons x l ih =>
    unfold place at h
    split at h
    · rename_i hx; cases h; rw [hx]; rfl
    · cases hp : place l e with
      | none => rw [hp] at h; cases h
      | some j =>
        rw [hp] at h
        obtain rfl : j + 1 = i := by simpa using h
        simpa using ih hp
theorem place_none {L : List Seal} {e : Seal} : place L e = none ↔ e ∉ L := by
  induction L with
  | nil => simp [place]
  | cons x l ih =>
    unfold place
    by_cases hx : x = e
    · simp [hx]
    · rw [if_neg hx, Option.map_eq_none_iff, ih, List.mem_cons]
      constructor
      · rintro h (h2 | h2)
        · exact hx h2.symm
        · exact h h2
      · exact fun h h2 => h (Or.inr h2)
theorem place_at {L : List Seal} (hn : L.Nodup) {i : Nat} (h : i < L.length) : place L L[i] = some i := by
  induction L generalizing i with
  | nil => simp at h
  | cons x l ih =>
    obtain ⟨h1, h2⟩ := List.nodup_cons.1 hn
    cases i with
    | zero => simp [place]
    | succ i =>
      have hi : i < l.length := by simpa using h
      have hne : ¬ x = l[i] := fun e => h1 (e ▸ List.getElem_mem hi)
      show place (x :: l) l[i] = _
      rw [place, if_neg hne, ih h2 hi]; rfl
theorem place_lt {L : List Seal} {e : Seal} {i : Nat} (h : place L e = some i) : i < L.length := by
  have := place_some h
  exact (List.getElem?_eq_some_iff.1 this).1
theorem place_snoc {L : List Seal} {e x : Seal} : place (L ++ [x]) e = match place L e with
    | some i => some i
    | none => if x = e then some L.length else none := by
  induction L with
  | nil => simp only [List.nil_append, place, List.length_nil]; split <;> rfl
  | cons y l ih =>
    simp only [List.cons_append, place]
    by_cases hy : y = e
    · simp [hy]
    · simp only [hy, if_false, ih]
      cases place l e with
      | some i => rfl
      | none => simp only [Option.map_none]; split <;> simp
theorem sign_nodup {L : List Seal} {k : Int} {t : List UInt8} (h : L.Nodup) : (sign L k t).2.Nodup := by
  unfold sign
  split
  · split
    · exact h
    · rename_i hp
      have := place_none.1 hp
      rw [List.nodup_append]
      exact ⟨h, by simp, fun a ha b hb e => by rw [List.mem_singleton] at hb; subst hb; subst e; exact this ha⟩
  · exact h

/-- A book: its key, its entries, the moment of its last head (-1: none), how many entries that told. -/
structure Book where
  key : Int
  es : List (List UInt8)
  last : Int
  told : Int
deriving DecidableEq
def new (key : Int) : Book := ⟨key, [], -1, 0⟩
/-- Append: the number, the error. -/
def append (b : Book) (t : List UInt8) : (Int × Int) × Book :=
  if (Cl.key t).2 = false then ((0, 2), b)
  else if 20000 < t.length then ((0, 3), b)
  else if 200000 ≤ b.es.length then ((0, 6), b)
  else ((b.es.length, 0), { b with es := b.es ++ [t] })
def textAt (b : Book) (i : Int) : List UInt8 × Bool := if i < 0 ∨ (b.es.length : Int) ≤ i then ([], false) else (b.es.getD i.toNat [], true)
def signC (L : List Seal) (b : Book) (c : Clm) : Sgn × List Seal := sign L b.key (Cl.text c)
def entry (L : List Seal) (b : Book) (i : Int) : (Sgn × Int) × List Seal :=
  if i < 0 ∨ (b.es.length : Int) ≤ i then ((noSgn, 4), L)
  else (((signC L b ⟨0, i, 0, b.es.getD i.toNat []⟩).1, 0), (signC L b ⟨0, i, 0, b.es.getD i.toNat []⟩).2)
def head (L : List Seal) (b : Book) (now : Int) : (Sgn × Int) × List Seal × Book :=
  if now < 0 ∨ 1073741824 < now then ((noSgn, 1), L, b)
  else if now < b.last ∨ (b.last = now ∧ b.told ≠ b.es.length) then ((noSgn, 7), L, b)
  else (((signC L b ⟨1, b.es.length, now, []⟩).1, 0), (signC L b ⟨1, b.es.length, now, []⟩).2, { b with last := now, told := b.es.length })
def absent (L : List Seal) (b : Book) (k : List UInt8) (n : Int) : (Sgn × Int) × List Seal :=
  if n < 0 ∨ (b.es.length : Int) < n ∨ 20000 < k.length then ((noSgn, 1), L)
  else if Cl.absentB b.es n.toNat k = false then ((noSgn, 5), L)
  else (((signC L b ⟨2, n, 0, k⟩).1, 0), (signC L b ⟨2, n, 0, k⟩).2)
end Go.Proofs.YtkhdnfmnnapjlaaGreatDoor.Bk
namespace Go.Proofs.YtkhdnfmnnapjlaaGreatDoor.Bk
open Go.Lib Go.RowKit
set_option linter.unusedVariables false
set_option linter.unusedSimpArgs false

def addF (F : List (List UInt8 × Nat)) (k : List UInt8) (i : Nat) : List (List UInt8 × Nat) := if F.any (fun p => decide (p.1 = k)) then F else F ++ [(k, i)]
/-- The keys of the entries, each with the first entry that has it. -/
def firstL (es : List (List UInt8)) : List (List UInt8 × Nat) := es.zipIdx.foldl (fun F p => addF F (Cl.key p.1).1 p.2) []
theorem first_snoc (es : List (List UInt8)) (t : List UInt8) : firstL (es ++ [t]) = addF (firstL es) (Cl.key t).1 es.length := by
  simp [firstL, List.zipIdx_append, List.foldl_append]
structure FirstOk (es : List (List UInt8)) (F : List (List UInt8 × Nat)) : Prop where
  at_ : ∀ k i, (k, i) ∈ F → ∃ h : i < es.length, (Cl.key es[i]).1 = k ∧ ∀ j (hj : j < i), (Cl.key (es[j]'(by omega))).1 ≠ k
  all : ∀ t ∈ es, ∃ i, ((Cl.key t).1, i) ∈ F
  one : ∀ k i j, (k, i) ∈ F → (k, j) ∈ F → i = j
theorem any_key {F : List (List UInt8 × Nat)} {k : List UInt8} : F.any (fun p => decide (p.1 = k)) = true ↔ ∃ i, (k, i) ∈ F := by
  rw [List.any_eq_true]
  constructor
  · rintro ⟨⟨a, i⟩, h, e⟩
    obtain rfl : a = k := by simpa using e
    exact ⟨i, h⟩
  · rintro ⟨i, h⟩
    exact ⟨(k, i), h, by simp⟩
theorem firstOk_rev (r : List (List UInt8)) : FirstOk r.reverse (firstL r.reverse) := by
  induction r with
  | nil => exact ⟨fun k i h => by simp [firstL] at h, fun t h => by simp at h, fun k i j h => by simp [firstL] at h⟩
  | cons t r ih =>
    rw [List.reverse_cons, first_snoc]
    generalize r.reverse = es at *
    unfold addF
    by_cases h : (firstL es).any (fun p => decide (p.1 = (Cl.key t).1)) = true
    · rw [if_pos h]
      refine ⟨fun k i hk => ?_, fun u hu => ?_, ih.one⟩
      · obtain ⟨h1, h2, h3⟩ := ih.at_ k i hk
        refine ⟨by rw [List.length_append]; omega, by rw [List.getElem_append_left h1]; exact h2, fun j hj => ?_⟩
        rw [List.getElem_append_left (by omega)]
        exact h3 j hj
      · rcases List.mem_append.1 hu with hu | hu
        · exact ih.all u hu
        · rw [List.mem_singleton.1 hu]; exact any_key.1 h
    · rw [if_neg h]
      have hno : ∀ i, ((Cl.key t).1, i) ∉ firstL es := fun i hi => h (any_key.2 ⟨i, hi⟩)
      refine ⟨fun k i hk => ?_, fun u hu => ?_, fun k i j hi hj => ?_⟩
      · rcases List.mem_append.1 hk with hk | hk
        · obtain ⟨h1, h2, h3⟩ := ih.at_ k i hk
          refine ⟨by rw [List.length_append]; omega, by rw [List.getElem_append_left h1]; exact h2, fun j hj => ?_⟩
          rw [List.getElem_append_left (by omega)]
          exact h3 j hj
        · simp only [List.mem_singleton, Prod.mk.injEq] at hk
          obtain ⟨rfl, rfl⟩ := hk
          refine ⟨by simp, by simp, fun j hj => ?_⟩
          rw [List.getElem_append_left hj]
          intro e
          obtain ⟨i, hi⟩ := ih.all _ (List.getElem_mem hj)
          rw [e] at hi
          exact hno i hi
      · rcases List.mem_append.1 hu with hu | hu
        · obtain ⟨i, hi⟩ := ih.all u hu
          exact ⟨i, List.mem_append_left _ hi⟩
        · rw [List.mem_singleton.1 hu]; exact ⟨es.length, List.mem_append_right _ (by simp)⟩
      · rcases List.mem_append.1 hi with hi | hi <;> rcases List.mem_append.1 hj with hj | hj
        · exact ih.one k i j hi hj
        · simp only [List.mem_singleton, Prod.mk.injEq] at hj
          obtain ⟨rfl, rfl⟩ := hj
          exact absurd hi (hno i)
        · simp only [List.mem_singleton, Prod.mk.injEq] at hi
          obtain ⟨rfl, rfl⟩ := hi
          exact absurd hj (hno j)
        · simp only [List.mem_singleton, Prod.mk.injEq] at hi hj
          omega
theorem firstOk (es : List (List UInt8)) : FirstOk es (firstL es) := by
  have := firstOk_rev es.reverse
  rwa [List.reverse_reverse] at this
theorem first_none {es : List (List UInt8)} {k : List UInt8} : (∀ i, (k, i) ∉ firstL es) ↔ ∀ t ∈ es, (Cl.key t).1 ≠ k := by
  constructor
  · intro h t ht e
    obtain ⟨i, hi⟩ := (firstOk es).all t ht
    rw [e] at hi
    exact h i hi
  · intro h i hi
    obtain ⟨h1, h2, _⟩ := (firstOk es).at_ k i hi
    exact h _ (List.getElem_mem h1) h2
theorem absent_first {es : List (List UInt8)} (hk : ∀ t ∈ es, (Cl.key t).2 = true) {k : List UInt8} {n i : Nat} (h : (k, i) ∈ firstL es) : Cl.absentB es n k = decide (n ≤ i) := by
  obtain ⟨h1, h2, h3⟩ := (firstOk es).at_ k i h
  by_cases hn : n ≤ i
  · rw [decide_eq_true hn]
    refine List.all_eq_true.2 fun t ht => ?_
    obtain ⟨j, hj, e⟩ := List.mem_iff_getElem.1 ht
    have hj2 : j < n := by simp at hj; omega
    rw [List.getElem_take] at e
    subst e
    unfold Cl.hasKey
    rw [decide_eq_false (h3 j (by omega))]
    simp
  · rw [decide_eq_false hn, ← Bool.not_eq_true]
    intro ha
    have := Cl.absent_mem ha (i := i) (by omega) h1
    unfold Cl.hasKey at this
    rw [hk _ (List.getElem_mem h1), decide_eq_true h2] at this
    cases this
theorem absent_first_none {es : List (List UInt8)} {k : List UInt8} {n : Nat} (h : ∀ i, (k, i) ∉ firstL es) : Cl.absentB es n k = true := by
  refine List.all_eq_true.2 fun t ht => ?_
  have := first_none.1 h t (List.mem_of_mem_take ht)
  unfold Cl.hasKey
  rw [decide_eq_false this]
  simp
end Go.Proofs.YtkhdnfmnnapjlaaGreatDoor.Bk
namespace Go.Proofs.YtkhdnfmnnapjlaaGreatDoor.Bk
def xt : List UInt8 := [49, 58, 107, 44, 118]
def xj : List UInt8 := [49, 58, 106, 44]
def xb1 : Book := ⟨3, [xt], -1, 0⟩
def xb2 : Book := ⟨3, [xt], 5, 1⟩
def xb3 : Book := ⟨3, [xt, xj], 5, 1⟩
def xb4 : Book := ⟨3, [xt, xj], 6, 2⟩
def xa : List UInt8 := [50, 59, 48, 59, 48, 59, 49, 58, 107, 44]
def xh : List UInt8 := [49, 59, 49, 59, 53, 59, 48, 58, 44]
def xi : List UInt8 := [49, 59, 50, 59, 54, 59, 48, 58, 44]
def xL1 : List Seal := [⟨3, xa⟩]
def xL2 : List Seal := [⟨3, xa⟩, ⟨3, xh⟩]
def xL3 : List Seal := [⟨3, xa⟩, ⟨3, xh⟩, ⟨3, xi⟩]
theorem x1 : append (new 3) xt = ((0, 0), xb1) := by decide +kernel
theorem x2 : absent [] xb1 [107] 0 = ((⟨3, xa, 0⟩, 0), xL1) := by decide +kernel
theorem x3 : absent xL1 xb1 [107] 1 = ((⟨0, [], 0⟩, 5), xL1) := by decide +kernel
theorem x4 : head xL1 xb1 5 = ((⟨3, xh, 1⟩, 0), xL2, xb2) := by decide +kernel
theorem x5 : head xL2 xb2 5 = ((⟨3, xh, 1⟩, 0), xL2, xb2) := by decide +kernel
theorem x6 : append xb2 xj = ((1, 0), xb3) := by decide +kernel
theorem x7 : head xL2 xb3 5 = ((⟨0, [], 0⟩, 7), xL2, xb3) := by decide +kernel
theorem x8 : head xL2 xb3 6 = ((⟨3, xi, 2⟩, 0), xL3, xb4) := by decide +kernel
theorem x9 : valid xL3 ⟨3, xh, 1⟩ = true := by decide +kernel
theorem xk : Wire.textE [107] = [49, 58, 107, 44] := by decide +kernel
theorem xl : Wire.textE [106] = xj := by decide +kernel
end Go.Proofs.YtkhdnfmnnapjlaaGreatDoor.Bk
