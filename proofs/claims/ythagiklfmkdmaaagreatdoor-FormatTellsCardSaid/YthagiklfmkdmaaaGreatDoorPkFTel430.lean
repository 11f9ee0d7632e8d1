/- The encoding of layer 1 and its reader, as plain functions on lists of bytes; no program stands in this text. Decimal forms: what is written is read back; the reference's way of reading a number gives the same. No program stands in this text. The documented examples of layer 1, in the plain words. No program stands in this text. Layer 1 in plain words: what is read has exactly the bytes that were read as its encoding; what is written is read back. No program stands in this text. Layer 1 in plain words: what is written is read back. No program stands in this text. Lemmas on worlds that all the seat's proofs use: what may have changed between two worlds; cells of a block that is known whole; slices that read as a list. Maps in memory, as lists of their entries in the order in which they came: made, looked up, stored into. Ranges over maps in memory, in whatever order the entries come: what has been handed out is a list, at the end a permutation of the map's entries. A region that draws its order: whatever comes first only looks, or calls what keeps a class of worlds; its last operations come in one order alone. One walk serves. The place of the first element of which something holds. Plain: types and values; what is right, fits, is a subtype; zero values; writing and reading. Plain: what is written for a type and read for another one. Contracts of Go's library at this seat's numbers, in the words of this seat's proofs: Itoa, Atoi, IndexByte, CutPrefix, strings.Builder. How the arguments of a statement read: integers, strings, slices of them, structs, slices of structs; from the form's reading to the words of the walks. Slices of structs that a call has made itself: what they read as. Append of one element to a slice of the call's own, with the word on where the result lies: in the old block or in a new one. Types and values in memory, and among a statement's arguments. Names and right types. -/
import Derived.Lib.AtoiAll
import Derived.Lib.ItoaNum
import Derived.Lib.Bytealg
import Derived.Lib.Atoi
import Derived.RowKit
import Derived.Test.YthagiklfmkdmaaaGreatDoorProg
import Derived.WalkKit
import Derived.Lib.Hide
import Derived.Lib.Builder
import Derived.Lib.LaidTab
import Derived.Deep.QuietTactic
import Derived.BigQuiet
import Derived.Outline
import Derived.Deep.RegionHeld3
import Derived.Maps.OwnSet
import Derived.Maps.OwnOps
import Derived.DeepKeys4
import Derived.Maps.RangeWalk
import Derived.StillTail
import Derived.Lib.SliceRun
import Derived.Lib.IndexMore
import Derived.Laws.Cover1
import Derived.Test.YthagiklfmkdmaaaGreatDoorShelf
import Derived.Lib.ItoaLen
import Derived.ProofKit
import Derived.OpenShut
import Derived.ShutString
import Derived.Lib.SmallJoins
import Derived.Deep.AppendLies
namespace Go.Proofs.YthagiklfmkdmaaaGreatDoor.Wire
open Go.Lib
set_option linter.unusedVariables false
set_option linter.unusedSimpArgs false

/-! ### Writing -/
def intE (n : Int) : List UInt8 := itoa n ++ [59]
def numE (n : Int) : List UInt8 := if n < 0 then [] else intE n
def textE (s : List UInt8) : List UInt8 := itoa s.length ++ [58] ++ s ++ [44]
theorem flatten_take_succ {α : Type} (f : α → List UInt8) (l : List α) (k : Nat) (h : k < l.length) : ((l.take (k + 1)).map f).flatten = ((l.take k).map f).flatten ++ f l[k] := by
  rw [List.take_succ_eq_append_getElem h, List.map_append, List.flatten_append]; simp
theorem flatten_take_le {α : Type} (f : α → List UInt8) (l : List α) (k : Nat) : ((l.take k).map f).flatten.length ≤ (l.map f).flatten.length := by
  have h : (l.map f).flatten = ((l.take k).map f).flatten ++ ((l.drop k).map f).flatten := by
    rw [← List.flatten_append, ← List.map_append, List.take_append_drop]
  rw [h, List.length_append]; omega

/-! ### Reading -/
/-- What a reader has left; none: it has failed. -/
abbrev St := Option (List UInt8)
/-- The int of which l is the decimal form. -/
def numOf (l : List UInt8) : Option Int :=
  match atoiAll l with
  | .ok v => if itoa v = l then some v else none
  | _ => none
def rNumber (st : St) (e : UInt8) (least : Int) : Int × St :=
  match st with
  | none => (0, none)
  | some r =>
    if indexByte (r.take 21) e < 0 then (0, none) else
    match numOf (r.take (indexByte (r.take 21) e).toNat) with
    | some n => if n < least then (0, none) else (n, some (r.drop ((indexByte (r.take 21) e).toNat + 1)))
    | none => (0, none)
def rClose (st : St) (e : UInt8) : St :=
  match st with
  | some (c :: r) => if c = e then some r else none
  | _ => none
def rNum (st : St) : Int × St := rNumber st 59 0
def rInt (st : St) : Int × St := rNumber st 59 (-9223372036854775808)
def rText (st : St) : List UInt8 × St :=
  match rNumber st 58 0 with
  | (n, some r) =>
    if r.length < n.toNat then ([], none) else
    match rClose (some (r.drop n.toNat)) 44 with
    | some r' => (r.take n.toNat, some r')
    | none => ([], none)
  | (_, none) => ([], none)
theorem indexByte_lt : ∀ (l : List UInt8) (c : UInt8), indexByte l c < l.length
  | [], c => by simp [indexByte]
  | b :: l, c => by
    have ih := indexByte_lt l c
    simp only [indexByte]
    split
    · simp only [List.length_cons]; omega
    · split <;> (simp only [List.length_cons]; omega)
theorem rNumber_eq (st : St) (e : UInt8) (least : Int) : rNumber st e least =
    if indexByte ((st.getD []).take 21) e < 0 then (0, none) else
    match numOf ((st.getD []).take (indexByte ((st.getD []).take 21) e).toNat) with
    | some n => if n < least then (0, none) else (n, some ((st.getD []).drop ((indexByte ((st.getD []).take 21) e).toNat + 1)))
    | none => (0, none) := by
  cases st with
  | none => rfl
  | some r => rfl
theorem rNumber_neg {st : St} {e : UInt8} {least : Int} (h : indexByte ((st.getD []).take 21) e < 0) : rNumber st e least = (0, none) := by
  rw [rNumber_eq, if_pos h]
theorem rNumber_none {st : St} {e : UInt8} {least i : Int} (hi : indexByte ((st.getD []).take 21) e = i) (h : 0 ≤ i) (hn : numOf ((st.getD []).take i.toNat) = none) : rNumber st e least = (0, none) := by
  rw [rNumber_eq, hi, if_neg (by omega), hn]
theorem rNumber_some {st : St} {e : UInt8} {least i n : Int} (hi : indexByte ((st.getD []).take 21) e = i) (h : 0 ≤ i) (hn : numOf ((st.getD []).take i.toNat) = some n) :
    rNumber st e least = if n < least then (0, none) else (n, some ((st.getD []).drop (i.toNat + 1))) := by
  rw [rNumber_eq, hi, if_neg (by omega), hn]
theorem isSome_of_index {st : St} {i : Int} {e : UInt8} (hi : indexByte ((st.getD []).take 21) e = i) (h : 0 ≤ i) : st.isNone = false := by
  cases st with
  | none => simp [indexByte] at hi; omega
  | some r => rfl
theorem numOf_none {l : List UInt8} (h : ∀ m, atoiAll l ≠ .ok m) : numOf l = none := by
  unfold numOf
  split
  · rename_i v hv; exact absurd hv (h v)
  · rfl
theorem numOf_ne {l : List UInt8} {n : Int} (h : atoiAll l = .ok n) (hn : itoa n ≠ l) : numOf l = none := by
  unfold numOf; rw [h]; exact if_neg hn
theorem numOf_eq {l : List UInt8} {n : Int} (h : atoiAll l = .ok n) (hn : itoa n = l) : numOf l = some n := by
  unfold numOf; rw [h]; exact if_pos hn
theorem numOf_i64 {l : List UInt8} {n : Int} (h : numOf l = some n) : -9223372036854775808 ≤ n ∧ n ≤ 9223372036854775807 := by
  unfold numOf at h
  split at h
  · rename_i v hv
    split at h
    · injection h with h
      subst h
      unfold atoiAll at hv
      split at hv
      · cases hv
      · dsimp only at hv
        split at hv
        · cases hv
        · cases hv
        · split at hv
          · cases hv
          · split at hv
            · cases hv
            · injection hv with hv
              split at hv <;> omega
    · cases h
  · cases h
theorem rNumber_i64 (st : St) (e : UInt8) (least : Int) : -9223372036854775808 ≤ (rNumber st e least).1 ∧ (rNumber st e least).1 ≤ 9223372036854775807 := by
  unfold rNumber
  split
  · exact ⟨by decide, by decide⟩
  · split
    · exact ⟨by decide, by decide⟩
    · split
      · rename_i n hn
        split
        · exact ⟨by decide, by decide⟩
        · exact numOf_i64 hn
      · exact ⟨by decide, by decide⟩
theorem rNumber_least (st : St) (e : UInt8) (least : Int) (h0 : least ≤ 0) : least ≤ (rNumber st e least).1 := by
  unfold rNumber
  split
  · exact h0
  · split
    · exact h0
    · split
      · split
        · exact h0
        · dsimp only; omega
      · exact h0
/-- A number that was read has left less than there was. -/
theorem rNumber_len {r r' : List UInt8} {e : UInt8} {least n : Int} (h : rNumber (some r) e least = (n, some r')) : r'.length < r.length := by
  unfold rNumber at h
  dsimp only at h
  have hl := indexByte_lt (r.take 21) e
  split at h
  · simp at h
  · split at h
    · split at h
      · simp at h
      · simp only [Prod.mk.injEq, Option.some.injEq] at h
        rw [← h.2]
        simp only [List.length_drop, List.length_take] at hl ⊢
        omega
    · simp at h
theorem rClose_no {st : St} {c : UInt8} (h : hasPrefix (st.getD []) [c] = false) : rClose st c = none := by
  match st with
  | none => rfl
  | some [] => rfl
  | some (d :: r) =>
    simp only [hasPrefix, Option.getD_some, List.isPrefixOf, Bool.and_true] at h
    simp only [rClose]
    rw [if_neg]
    rintro rfl
    simp at h
theorem rClose_yes {st : St} {c : UInt8} (h : hasPrefix (st.getD []) [c] = true) : st.isNone = false ∧ rClose st c = some (trimPrefix (st.getD []) [c]) := by
  match st with
  | none => simp [hasPrefix, List.isPrefixOf] at h
  | some [] => simp [hasPrefix, List.isPrefixOf] at h
  | some (d :: r) =>
    refine ⟨rfl, ?_⟩
    have h' := h
    simp only [hasPrefix, Option.getD_some, List.isPrefixOf, Bool.and_true, beq_iff_eq] at h'
    simp only [trimPrefix, h, if_true, rClose]
    rw [if_pos h'.symm]
    rfl
theorem trimPrefix_no {s p : List UInt8} (h : hasPrefix s p = false) : trimPrefix s p = s := by simp [trimPrefix, h]
theorem rNumber_zero {st : St} {e : UInt8} {least n : Int} (h : rNumber st e least = (n, none)) : n = 0 := by
  unfold rNumber at h
  split at h
  · simp at h; exact h.symm
  · split at h
    · simp at h; exact h.symm
    · split at h
      · split at h
        · simp at h; exact h.symm
        · simp at h
      · simp at h; exact h.symm
theorem rText_none {st : St} {n : Int} (h : rNumber st 58 0 = (n, none)) : rText st = ([], none) := by simp [rText, h]
theorem rText_far {st : St} {n : Int} {r : List UInt8} (h : rNumber st 58 0 = (n, some r)) (hn : (r.length : Int) < n) : rText st = ([], none) := by
  simp only [rText, h]; rw [if_pos (by omega)]
theorem rText_open {st : St} {n : Int} {r : List UInt8} (h : rNumber st 58 0 = (n, some r)) (hn : n ≤ r.length) (hc : rClose (some (r.drop n.toNat)) 44 = none) : rText st = ([], none) := by
  simp only [rText, h]; rw [if_neg (by omega), hc]
theorem rText_ok {st : St} {n : Int} {r r' : List UInt8} (h : rNumber st 58 0 = (n, some r)) (hn : n ≤ r.length) (hc : rClose (some (r.drop n.toNat)) 44 = some r') : rText st = (r.take n.toNat, some r') := by
  simp only [rText, h]; rw [if_neg (by omega), hc]
/-- A call leaves no more than there was. -/
theorem rNumber_le (st : St) (e : UInt8) (least : Int) : ((rNumber st e least).2.getD []).length ≤ (st.getD []).length := by
  cases st with
  | none => exact Nat.le_refl _
  | some r =>
    cases h : rNumber (some r) e least with
    | mk n s =>
      cases s with
      | none => exact Nat.zero_le _
      | some r' => have := rNumber_len h; simp only [Option.getD_some]; omega
theorem rClose_le (st : St) (e : UInt8) : ((rClose st e).getD []).length ≤ (st.getD []).length := by
  match st with
  | none => exact Nat.le_refl _
  | some [] => exact Nat.le_refl _
  | some (c :: r) => simp only [rClose]; split <;> simp
theorem rText_le (st : St) : ((rText st).2.getD []).length ≤ (st.getD []).length := by
  have h1 := rNumber_le st 58 0
  cases h : rNumber st 58 0 with
  | mk n s =>
    rw [h] at h1
    cases s with
    | none => rw [rText_none h]; exact Nat.zero_le _
    | some r =>
      by_cases hn : n ≤ r.length
      · have h2 := rClose_le (some (r.drop n.toNat)) 44
        cases hc : rClose (some (r.drop n.toNat)) 44 with
        | none => rw [rText_open h hn hc]; exact Nat.zero_le _
        | some r' => rw [rText_ok h hn hc]; rw [hc] at h2; simp at h1 h2 ⊢; omega
      · rw [rText_far h (by omega)]; exact Nat.zero_le _
theorem rNumber_cost {st : St} {e : UInt8} {least n : Int} {s : St} (h : rNumber st e least = (n, s)) (hs : s.isSome) : (s.getD []).length < (st.getD []).length := by
  match st, s, hs with
  | some r, some r', _ => exact rNumber_len h
  | none, some r', _ => simp [rNumber] at h
theorem rText_cost (st : St) : (rText st).2.isSome → ((rText st).2.getD []).length < (st.getD []).length := fun hs => by
  cases h : rNumber st 58 0 with
  | mk n s =>
    cases s with
    | none => rw [rText_none h] at hs; simp at hs
    | some r =>
      have h1 := rNumber_cost h rfl
      by_cases hn : n ≤ r.length
      · have h2 := rClose_le (some (r.drop n.toNat)) 44
        cases hc : rClose (some (r.drop n.toNat)) 44 with
        | none => rw [rText_open h hn hc] at hs; simp at hs
        | some r' => rw [rText_ok h hn hc]; rw [hc] at h2; simp at h1 h2 ⊢; omega
      · rw [rText_far h (by omega)] at hs; simp at hs
end Go.Proofs.YthagiklfmkdmaaaGreatDoor.Wire
namespace Go.Proofs.YthagiklfmkdmaaaGreatDoor.Wire
open Go.Lib Go.RowKit
set_option linter.unusedVariables false
set_option linter.unusedSimpArgs false

theorem parse_append : ∀ (l r : List UInt8) (a b : Nat), parseUint10 a l = .ok b → parseUint10 a (l ++ r) = parseUint10 b r
  | [], r, a, b, h => by simp only [parseUint10] at h; injection h with h; rw [h]; rfl
  | c :: l, r, a, b, h => by
    simp only [List.cons_append, parseUint10] at h ⊢
    split at h
    · rename_i h1
      rw [if_pos h1]
      split at h
      · cases h
      · rename_i h2
        rw [if_neg h2]
        split at h
        · cases h
        · rename_i h3
          rw [if_neg h3]
          exact parse_append l r _ b h
    · cases h
theorem digit_toNat {d : Nat} (h : d < 10) : (UInt8.ofNat (48 + d)).toNat = 48 + d := by
  simp; omega
theorem decDigits_step' {u : Nat} (h : ¬ u < 10) : decDigits u = decDigits (u / 10) ++ [UInt8.ofNat (48 + u % 10)] := by
  conv => lhs; rw [decDigits, dif_neg h]
theorem parse_decDigits (k : Nat) : ∀ u, u < k → u ≤ 9223372036854775808 → parseUint10 0 (decDigits u) = .ok u := by
  induction k with
  | zero => intro u h; omega
  | succ k ih =>
    intro u h hb
    by_cases h10 : u < 10
    · rw [decDigits_one h10]
      simp only [parseUint10, digit_toNat h10]
      rw [if_pos (by omega), if_neg (by omega), if_neg (by omega)]
      congr 1; omega
    · rw [decDigits_step' h10, parse_append _ _ _ _ (ih (u / 10) (by omega) (by omega))]
      have hd : u % 10 < 10 := by omega
      simp only [parseUint10, digit_toNat hd]
      rw [if_pos (by omega), if_neg (by omega), if_neg (by omega)]
      congr 1; omega
theorem decDigits_digits (k : Nat) : ∀ u, u < k → ∀ c ∈ decDigits u, 48 ≤ c.toNat ∧ c.toNat ≤ 57 := by
  induction k with
  | zero => intro u h; omega
  | succ k ih =>
    intro u h c hc
    by_cases h10 : u < 10
    · rw [decDigits_one h10, List.mem_singleton] at hc
      rw [hc, digit_toNat h10]; omega
    · rw [decDigits_step' h10, List.mem_append] at hc
      rcases hc with hc | hc
      · exact ih (u / 10) (by omega) c hc
      · rw [List.mem_singleton] at hc
        rw [hc, digit_toNat (by omega)]; omega
theorem decDigits_ne (u : Nat) : decDigits u ≠ [] := by
  rw [decDigits]; split <;> simp
theorem atoiAll_neg {r : List UInt8} {u : Nat} (h : parseMag r = .ok u) (hu : u ≤ 9223372036854775808) : atoiAll (45 :: r) = .ok (-(u : Int)) := by
  have e : (if (45 : UInt8).toNat = 43 ∨ (45 : UInt8).toNat = 45 then r else 45 :: r) = r := if_pos (by decide)
  unfold atoiAll
  simp only [e, h]
  rw [if_neg (by simp), if_neg (by omega), if_pos (by decide)]
theorem atoiAll_pos {c : UInt8} {r : List UInt8} {u : Nat} (hc : 48 ≤ c.toNat) (h : parseMag (c :: r) = .ok u) (hu : u < 9223372036854775808) : atoiAll (c :: r) = .ok (u : Int) := by
  have e : (if c.toNat = 43 ∨ c.toNat = 45 then r else c :: r) = c :: r := if_neg (by omega)
  unfold atoiAll
  simp only [e, h]
  rw [if_neg (by omega), if_neg (by omega), if_neg (by omega)]
theorem atoi_itoa {v : Int} (h0 : -9223372036854775808 ≤ v) (h1 : v ≤ 9223372036854775807) : atoiAll (itoa v) = .ok v := by
  by_cases hn : v < 0
  · have hp := parse_decDigits (v.natAbs + 1) v.natAbs (by omega) (by omega)
    have hm : parseMag (decDigits v.natAbs) = .ok v.natAbs := by unfold parseMag; rw [if_neg (decDigits_ne _), hp]
    rw [show itoa v = 45 :: decDigits v.natAbs by simp [itoa, hn], atoiAll_neg hm (by omega)]
    congr 1; omega
  · have hp := parse_decDigits (v.toNat + 1) v.toNat (by omega) (by omega)
    have hm : parseMag (decDigits v.toNat) = .ok v.toNat := by unfold parseMag; rw [if_neg (decDigits_ne _), hp]
    have hd := decDigits_digits (v.toNat + 1) v.toNat (by omega)
    rw [show itoa v = decDigits v.toNat by simp [itoa, hn]]
    cases hl : decDigits v.toNat with
    | nil => exact absurd hl (decDigits_ne _)
    | cons c r =>
      rw [hl] at hm hd
      rw [atoiAll_pos (hd c (by simp)).1 hm (by omega)]
      congr 1; omega
theorem numOf_itoa {v : Int} (h0 : -9223372036854775808 ≤ v) (h1 : v ≤ 9223372036854775807) : numOf (itoa v) = some v := numOf_eq (atoi_itoa h0 h1) rfl
theorem numOf_some {l : List UInt8} {v : Int} (h : numOf l = some v) : itoa v = l ∧ -9223372036854775808 ≤ v ∧ v ≤ 9223372036854775807 := by
  refine ⟨?_, numOf_i64 h⟩
  unfold numOf at h
  split at h
  · split at h
    · injection h with h; subst h; assumption
    · cases h
  · cases h

/-! ### The reference's way -/
def backGo (acc : Int) (i : Nat) : List UInt8 → Option Int
  | [] => some acc
  | c :: r => if c.toNat < 48 ∨ 57 < c.toNat ∨ 20 < i then none else backGo (wrap64 (wrap64 (10 * acc) - ((c.toNat : Int) - 48))) (i + 1) r
def backFrom (l : List UInt8) : Nat := if l.head? = some 45 then 1 else 0
theorem backGo_append : ∀ (l r : List UInt8) (a : Int) (i : Nat), backGo a i (l ++ r) = match backGo a i l with | some b => backGo b (i + l.length) r | none => none
  | [], r, a, i => rfl
  | c :: l, r, a, i => by
    simp only [List.cons_append, backGo]
    split
    · rfl
    · rw [backGo_append l r]; simp [Nat.add_assoc, Nat.add_comm 1]
theorem w64 {n : Int} (h : -9223372036854775808 ≤ n ∧ n ≤ 9223372036854775807) : wrap64 n = n := by unfold wrap64; omega
theorem backGo_dec (k : Nat) : ∀ u, u < k → u ≤ 9223372036854775808 → ∀ i, i + (decDigits u).length ≤ 21 → backGo 0 i (decDigits u) = some (-(u : Int)) := by
  induction k with
  | zero => intro u h; omega
  | succ k ih =>
    intro u h hb i hi
    by_cases h10 : u < 10
    · rw [decDigits_one h10] at hi ⊢
      simp only [backGo, digit_toNat h10]
      simp only [List.length_cons, List.length_nil] at hi
      rw [if_neg (by omega), w64 (n := 10 * 0) (by omega), w64 (by omega)]
      congr 1; omega
    · rw [decDigits_step' h10] at hi ⊢
      simp only [List.length_append, List.length_cons, List.length_nil] at hi
      rw [backGo_append, ih (u / 10) (by omega) (by omega) i (by omega)]
      simp only [backGo, digit_toNat (show u % 10 < 10 by omega)]
      rw [if_neg (by omega), w64 (n := 10 * _) (by omega), w64 (by omega)]
      congr 1; omega
theorem back_itoa {v : Int} (h0 : -9223372036854775808 ≤ v) (h1 : v ≤ 9223372036854775807) (hlen : (itoa v).length ≤ 21) :
    ∃ a, backGo 0 (backFrom (itoa v)) ((itoa v).drop (backFrom (itoa v))) = some a ∧ (if backFrom (itoa v) = 0 then wrap64 (-a) else a) = v := by
  by_cases hn : v < 0
  · have e : itoa v = 45 :: decDigits v.natAbs := by simp [itoa, hn]
    have hf : backFrom (itoa v) = 1 := by rw [e]; rfl
    have hl : 1 + (decDigits v.natAbs).length ≤ 21 := by rw [e] at hlen; simp only [List.length_cons] at hlen; omega
    rw [hf, e]
    refine ⟨_, backGo_dec (v.natAbs + 1) v.natAbs (by omega) (by omega) 1 hl, ?_⟩
    rw [if_neg (by decide)]; omega
  · have e : itoa v = decDigits v.toNat := by simp [itoa, hn]
    have hf : backFrom (itoa v) = 0 := by
      rw [e]
      unfold backFrom
      cases hl : decDigits v.toNat with
      | nil => rfl
      | cons c r =>
        have hc := decDigits_digits (v.toNat + 1) v.toNat (by omega) c (by rw [hl]; simp)
        rw [if_neg]
        intro h
        simp only [List.head?_cons, Option.some.injEq] at h
        rw [h] at hc
        simp at hc
    have hl : 0 + (decDigits v.toNat).length ≤ 21 := by rw [e] at hlen; omega
    rw [hf, e]
    refine ⟨_, backGo_dec (v.toNat + 1) v.toNat (by omega) (by omega) 0 hl, ?_⟩
    rw [if_pos rfl, w64 (by omega)]; omega
theorem back_none {l : List UInt8} (h : backGo 0 (backFrom l) (l.drop (backFrom l)) = none) (hlen : ∀ v, -9223372036854775808 ≤ v → v ≤ 9223372036854775807 → (itoa v).length ≤ 21) : numOf l = none := by
  cases hx : numOf l with
  | none => rfl
  | some v =>
    obtain ⟨e, h0, h1⟩ := numOf_some hx
    obtain ⟨a, ha, _⟩ := back_itoa h0 h1 (hlen v h0 h1)
    rw [e, h] at ha
    cases ha
theorem back_some {l : List UInt8} {a n : Int} (h : backGo 0 (backFrom l) (l.drop (backFrom l)) = some a) (hn : (if backFrom l = 0 then wrap64 (-a) else a) = n) (hi : -9223372036854775808 ≤ n ∧ n ≤ 9223372036854775807)
    (hlen : ∀ v, -9223372036854775808 ≤ v → v ≤ 9223372036854775807 → (itoa v).length ≤ 21) : numOf l = if itoa n = l then some n else none := by
  split
  · rename_i e
    rw [← e]; exact numOf_itoa hi.1 hi.2
  · rename_i e
    cases hx : numOf l with
    | none => rfl
    | some v =>
      obtain ⟨e', h0, h1⟩ := numOf_some hx
      obtain ⟨b, hb, hb'⟩ := back_itoa h0 h1 (hlen v h0 h1)
      rw [e', h] at hb
      injection hb with hb
      rw [e', ← hb, hn] at hb'
      rw [hb', e'] at e
      exact absurd rfl e
/-! ### Where a byte stands -/
def rInt' (st : St) (c : UInt8) : Int × St := rNumber st c (-9223372036854775808)
theorem indexByte_at : ∀ (l : List UInt8) (c : UInt8) (k : Nat), (∀ x ∈ l.take k, x ≠ c) → l[k]? = some c → indexByte l c = k
  | [], c, k, _, h => by simp at h
  | b :: l, c, 0, _, h => by
    simp at h; subst h; simp [indexByte]
  | b :: l, c, k + 1, h0, h => by
    have hb : b ≠ c := h0 b (by simp)
    have ih := indexByte_at l c k (fun x hx => h0 x (by simp [hx])) (by simpa using h)
    simp only [indexByte]
    rw [if_neg (by simpa using hb), ih, if_neg (by simp)]
    omega
theorem indexByte_none : ∀ (l : List UInt8) (c : UInt8), (∀ x ∈ l, x ≠ c) → indexByte l c = -1
  | [], c, _ => rfl
  | b :: l, c, h => by
    have hb : b ≠ c := h b (by simp)
    have ih := indexByte_none l c (fun x hx => h x (by simp [hx]))
    simp only [indexByte]
    rw [if_neg (by simpa using hb), ih, if_pos (by simp)]
theorem nDigits_le : ∀ (k u : Nat), u < 10 ^ (k + 1) → nDigits u ≤ k + 1
  | 0, u, h => by rw [nDigits_small (by simpa using h)]; exact Nat.le_refl _
  | k + 1, u, h => by
    by_cases h10 : u < 10
    · rw [nDigits_small h10]; omega
    · rw [nDigits_big h10]
      have := nDigits_le k (u / 10) (by rw [Nat.pow_succ] at h; omega)
      omega
theorem itoa_le20 {v : Int} (h0 : -9223372036854775808 ≤ v) (h1 : v ≤ 9223372036854775807) : (itoa v).length ≤ 20 := by
  unfold itoa
  split
  · have := nDigits_le 18 v.natAbs (by omega)
    simp only [List.length_cons, decDigits_length]; omega
  · have := nDigits_le 18 v.toNat (by omega)
    simp only [decDigits_length]; omega
theorem numOf_long {l : List UInt8} (h : 20 < l.length) : numOf l = none := by
  cases hx : numOf l with
  | none => rfl
  | some v =>
    obtain ⟨e, h0, h1⟩ := numOf_some hx
    have := itoa_le20 h0 h1
    rw [e] at this
    omega
theorem rNumber_min {st : St} {e : UInt8} {least : Int} (h : least ≤ -9223372036854775808) : rNumber st e least =
    if indexByte ((st.getD []).take 21) e < 0 then (0, none) else
    match numOf ((st.getD []).take (indexByte ((st.getD []).take 21) e).toNat) with
    | some n => (n, some ((st.getD []).drop ((indexByte ((st.getD []).take 21) e).toNat + 1)))
    | none => (0, none) := by
  rw [rNumber_eq]
  split
  · rfl
  · cases hx : numOf ((st.getD []).take (indexByte ((st.getD []).take 21) e).toNat) with
    | none => rfl
    | some n =>
      have := numOf_i64 hx
      simp only []
      rw [if_neg (by omega)]
/-- No end within the first 21 bytes. -/
theorem ahead_no {st : St} {c : UInt8} (h : ∀ x ∈ (st.getD []).take 21, x ≠ c) : rInt' st c = (0, none) := by
  unfold rInt'
  rw [rNumber_min (Int.le_refl _), indexByte_none _ _ h, if_pos (by decide)]
theorem ahead_at {st : St} {c : UInt8} {k : Nat} (hk : k < 21) (h : ∀ x ∈ (st.getD []).take k, x ≠ c) (hc : (st.getD [])[k]? = some c) :
    rInt' st c = match numOf ((st.getD []).take k) with | some n => (n, some ((st.getD []).drop (k + 1))) | none => (0, none) := by
  have e : indexByte ((st.getD []).take 21) c = k := indexByte_at _ _ _ (by rw [List.take_take, Nat.min_eq_left (by omega)]; exact h) (by rw [List.getElem?_take, if_pos hk]; exact hc)
  unfold rInt'
  rw [rNumber_min (Int.le_refl _), e, if_neg (by omega)]
  simp
theorem rNumber_zero_eq (st : St) (c : UInt8) : rNumber st c 0 = if (rInt' st c).1 < 0 then (0, none) else rInt' st c := by
  unfold rInt'
  rw [rNumber_min (Int.le_refl _), rNumber_eq]
  split
  · rfl
  · cases hx : numOf ((st.getD []).take (indexByte ((st.getD []).take 21) c).toNat) with
    | none => rfl
    | some n => rfl
end Go.Proofs.YthagiklfmkdmaaaGreatDoor.Wire
namespace Go.Proofs.YthagiklfmkdmaaaGreatDoor.Wire
open Go.Lib Go.RowKit
set_option linter.unusedVariables false
set_option linter.unusedSimpArgs false
end Go.Proofs.YthagiklfmkdmaaaGreatDoor.Wire
namespace Go.Proofs.YthagiklfmkdmaaaGreatDoor.Wire
open Go.Lib Go.RowKit
set_option linter.unusedVariables false
set_option linter.unusedSimpArgs false

/-! ### What was read is the encoding -/
end Go.Proofs.YthagiklfmkdmaaaGreatDoor.Wire
namespace Go.Proofs.YthagiklfmkdmaaaGreatDoor.Wire
open Go.Lib Go.RowKit
set_option linter.unusedVariables false
set_option linter.unusedSimpArgs false

def Int64 (n : Int) : Prop := -9223372036854775808 ≤ n ∧ n ≤ 9223372036854775807
theorem itoa_chars {n : Int} {c : UInt8} (h : c ∈ itoa n) : c.toNat = 45 ∨ (48 ≤ c.toNat ∧ c.toNat ≤ 57) := by
  unfold itoa at h
  split at h
  · rcases List.mem_cons.1 h with rfl | h
    · exact Or.inl rfl
    · exact Or.inr (decDigits_digits _ _ (Nat.lt_succ_self _) c h)
  · exact Or.inr (decDigits_digits _ _ (Nat.lt_succ_self _) c h)
theorem rNumber_back {n least : Int} {e : UInt8} {r : List UInt8} (h : Int64 n) (hl : least ≤ n) (he : 58 ≤ e.toNat) : rNumber (some (itoa n ++ e :: r)) e least = (n, some r) := by
  have h20 := itoa_le20 h.1 h.2
  have hne : ∀ x ∈ itoa n, x ≠ e := fun x hx heq => by
    have := itoa_chars hx
    rw [heq] at this; omega
  have hi : indexByte ((itoa n ++ e :: r).take 21) e = (itoa n).length := by
    refine indexByte_at _ _ _ ?_ ?_
    · intro x hx
      rw [List.take_take, Nat.min_eq_left (by omega), List.take_left'] at hx
      · exact hne x hx
      · rfl
    · rw [List.getElem?_take, if_pos (by omega), List.getElem?_append_right (Nat.le_refl _)]; simp
  simp only [rNumber, hi]
  rw [if_neg (by omega)]
  have ht : (itoa n ++ e :: r).take (((itoa n).length : Int)).toNat = itoa n := by simp
  rw [ht, numOf_itoa h.1 h.2]
  simp only []
  rw [if_neg (by omega)]
  simp
theorem rNum_back {n : Int} {r : List UInt8} (h : Int64 n) (h0 : 0 ≤ n) : rNum (some (numE n ++ r)) = (n, some r) := by
  have e : numE n ++ r = itoa n ++ 59 :: r := by rw [numE, if_neg (by omega), intE]; simp
  rw [e]; exact rNumber_back h h0 (by decide)
theorem rInt_back {n : Int} {r : List UInt8} (h : Int64 n) : rInt (some (intE n ++ r)) = (n, some r) := by
  have e : intE n ++ r = itoa n ++ 59 :: r := by rw [intE]; simp
  rw [e]; exact rNumber_back h h.1 (by decide)
theorem rText_back {s r : List UInt8} (h : s.length ≤ 9223372036854775807) : rText (some (textE s ++ r)) = (s, some r) := by
  have e : textE s ++ r = itoa (s.length : Int) ++ 58 :: (s ++ 44 :: r) := by rw [textE]; simp
  have hq := rNumber_back (n := s.length) (least := 0) (e := 58) (r := s ++ 44 :: r) ⟨by omega, by omega⟩ (by omega) (by decide)
  rw [e, rText_ok (r' := r) hq (by simp; omega) (by simp [rClose])]
  simp
end Go.Proofs.YthagiklfmkdmaaaGreatDoor.Wire
namespace Go.Proofs.YthagiklfmkdmaaaGreatDoor
open Go.RowKit
set_option linter.unusedVariables false
set_option linter.unusedSimpArgs false

/-- The package-level variables that the walks read lie in blocks below this number. -/
def nG : Nat := 4

/-- Of what was there only blocks in S may have changed, and no package-level variable. -/
structure Upd (S : Nat → Prop) (w w' : World) : Prop where
  os : w'.os = w.os
  tape : w'.tape = w.tape
  output : w'.output = w.output
  size : w.heap.size ≤ w'.heap.size
  block : ∀ k, k < w.heap.size → (k < nG ∨ ¬ S k) → w'.heap[k]? = w.heap[k]?

/-- Nothing that was there has changed. -/
abbrev Nw (w w' : World) : Prop := Upd (fun _ => False) w w'

theorem Upd.refl (S : Nat → Prop) (w : World) : Upd S w w := ⟨rfl, rfl, rfl, Nat.le_refl _, fun _ _ _ => rfl⟩
theorem Upd.mono {S S' : Nat → Prop} {w w' : World} (h : Upd S w w') (hs : ∀ k, k < w.heap.size → S k → S' k) : Upd S' w w' :=
  ⟨h.os, h.tape, h.output, h.size, fun k hk hn => h.block k hk (hn.imp id (fun n s => n (hs k hk s)))⟩
theorem Upd.trans' {S S' : Nat → Prop} {a b c : World} (h : Upd S a b) (k : Upd S' b c) (hs : ∀ x, x < a.heap.size → S' x → S x) : Upd S a c :=
  ⟨k.os.trans h.os, k.tape.trans h.tape, k.output.trans h.output, Nat.le_trans h.size k.size,
    fun i hi hn => (k.block i (Nat.lt_of_lt_of_le hi h.size) (hn.imp id (fun n s => n (hs i hi s)))).trans (h.block i hi hn)⟩
theorem Upd.trans {S : Nat → Prop} {a b c : World} (h : Upd S a b) (k : Upd S b c) : Upd S a c := h.trans' k (fun _ _ s => s)
theorem Upd.nw {S : Nat → Prop} {a b c : World} (h : Upd S a b) (k : Nw b c) : Upd S a c := h.trans' k (fun _ _ s => s.elim)
theorem Nw.upd {w w' : World} (S : Nat → Prop) (h : Nw w w') : Upd S w w' := h.mono (fun _ _ s => s.elim)
theorem Nw.trans {S : Nat → Prop} {a b c : World} (h : Nw a b) (k : Upd S b c) : Upd S a c := (h.upd S).trans k
theorem Upd.of_below {w w' : World} (S : Nat → Prop) (h : Below w.heap.size w w') : Upd S w w' :=
  ⟨h.os, h.tape, h.output, h.size, fun k hk _ => h.block k hk⟩
theorem Nw.below {w w' : World} (h : Nw w w') : Below w.heap.size w w' := ⟨h.os, h.tape, h.output, h.size, fun k hk => h.block k hk (Or.inr id)⟩
theorem Upd.drew {S : Nat → Prop} {a b : World} (h : Upd S a b) : Upd S a b.drew := ⟨h.os, h.tape, h.output, h.size, h.block⟩
theorem Upd.drewN {S : Nat → Prop} {a b : World} (h : Upd S a b) (n : Nat) : Upd S a (b.drewN n) := ⟨h.os, h.tape, h.output, h.size, h.block⟩
theorem heap_alloc (w : World) (o : Obj) (k : Nat) (h : k < w.heap.size) : (w.alloc o).heap[k]? = w.heap[k]? := by
  show (w.heap.push o)[k]? = _
  rw [Array.getElem?_push, if_neg (by omega)]
theorem heap_new (w : World) (o : Obj) : (w.alloc o).heap[w.heap.size]? = some o := by
  show (w.heap.push o)[w.heap.size]? = _
  simp
theorem heap_setCell (w : World) (a : Addr) (u : Value) (k : Nat) (h : k ≠ a.block) : (w.setCell a u).heap[k]? = w.heap[k]? := by
  simp only [World.setCell, Array.getElem?_modify]
  rw [if_neg (by omega)]
theorem Upd.alloc {S : Nat → Prop} {a b : World} (h : Upd S a b) (o : Obj) : Upd S a (b.alloc o) :=
  ⟨h.os, h.tape, h.output, by have := h.size; simp; omega, fun k hk hn => (heap_alloc b o k (by have := h.size; omega)).trans (h.block k hk hn)⟩
theorem Upd.setCell {S : Nat → Prop} {a b : World} (h : Upd S a b) {p : Addr} (hp : S p.block ∨ a.heap.size ≤ p.block) (hg : nG ≤ p.block) (u : Value) : Upd S a (b.setCell p u) :=
  ⟨h.os, h.tape, h.output, by simpa [World.setCell] using h.size, fun k hk hn => by
    refine (heap_setCell b p u k ?_).trans (h.block k hk hn)
    rintro rfl
    rcases hp with hp | hp
    · rcases hn with hn | hn
      · omega
      · exact hn hp
    · omega⟩
theorem Upd.set1 {b : Nat} {a w : World} (h : Upd (fun x => x = b) a w) (hg : nG ≤ b) (i : Nat) (u : Value) : Upd (fun x => x = b) a (w.setCell ⟨b, i, none⟩ u) := h.setCell (Or.inl rfl) hg u
theorem Upd.new {S : Nat → Prop} {a w : World} (h : Upd S a w) {b : Nat} (hb : a.heap.size ≤ b) (hg : nG ≤ b) (i : Nat) (u : Value) : Upd S a (w.setCell ⟨b, i, none⟩ u) := h.setCell (Or.inr hb) hg u

theorem nw_drewN (w : World) (n : Nat) : ∃ w1, w.drewN n = w1 ∧ Nw w w1 := ⟨_, rfl, (Upd.refl _ _).drewN n⟩
/-! ### A region that draws its order, whose operations look at old memory alone and whose callees make new memory at most: one walk serves -/
/-- The worlds that have new blocks alone beyond w. -/
def Later (w : World) : Type := { w' : World // Nw w w' }
instance (w : World) : Nonempty (Later w) := ⟨⟨w, Upd.refl _ _⟩⟩
theorem Later.nw {w : World} (i : Later w) : Nw w i.1 := i.2
theorem wp_region_nw {P : Program} {id : Nat} {Q : Exit → Act → World → Prop} {a : Act} {w : World} {l : List Oper} (hm : P.follows .mixedOrders = true) (hB : Region.lexB .any l.toArray = true)
    (h : wpQuiet P l.toArray (fun w' => ∃ i : Later w, w' = i.1) (fun a' => ∀ w', (∃ i : Later w, w' = i.1) → Q .normal a' w') l a) : (Code.region id l.toArray true).wp P Q a w :=
  wp_region_quiet (C := fun w' => ∃ i : Later w, w' = i.1) hm hB ⟨⟨_, (Upd.refl _ w).drew⟩, rfl⟩ (by simpa using h)
theorem later_out {w w' : World} (h : ∃ i : Later w, w' = i.1) : Nw w w' := by
  obtain ⟨i, rfl⟩ := h
  exact i.2
/-- A callee's contract inside such a region. -/
theorem later_call {P : Program} {f : FuncId} {args : Array Value} {w : World} {i : Later w} {v : Value} (h : Calls P f args i.1 fun e w' => e = .returned v ∧ Nw i.1 w') :
    Calls P f args i.1 fun e w' => e = .returned v ∧ ∃ j : Later w, w' = j.1 :=
  h.mono fun _ _ ⟨he, hu⟩ => ⟨he, ⟨_, Upd.trans i.2 hu⟩, rfl⟩
theorem later_cell {w : World} (i : Later w) {a : Addr} {v : Value} (h : w.cell? a = some v) : i.1.cell? a = some v :=
  (World.cell?_of_block (i.2.block a.block (World.block_lt_of_cell? w a h) (Or.inr id))).trans h

/-! ### A block that is known whole -/
theorem lt_of_block {w : World} {b : Nat} {o : Obj} (h : w.heap[b]? = some o) : b < w.heap.size := by
  rcases Nat.lt_or_ge b w.heap.size with h' | h'
  · exact h'
  · simp [Array.getElem?_eq_none h'] at h
theorem cells_cell {w : World} {b : Nat} {cs : Array Value} {T : TypeId} {fz : Nat × Nat} (h : w.heap[b]? = some (.cells cs T fz)) (i : Nat) : w.cell? ⟨b, i, none⟩ = cs[i]? := by
  simp [World.cell?, h]
theorem cells_frozen {w : World} {b : Nat} {cs : Array Value} {T : TypeId} (h : w.heap[b]? = some (.cells cs T (0, 0))) (i : Nat) : w.frozen? ⟨b, i, none⟩ = false := by
  simp [World.frozen?, h]
theorem setCell_block {w : World} {b : Nat} {cs : Array Value} {T : TypeId} {fz : Nat × Nat} (h : w.heap[b]? = some (.cells cs T fz)) (i : Nat) (v : Value) :
    (w.setCell ⟨b, i, none⟩ v).heap[b]? = some (.cells (cs.setIfInBounds i v) T fz) := by
  simp [World.setCell, Array.getElem?_modify, h]
theorem Upd.keep {S : Nat → Prop} {w w' : World} {b : Nat} {o : Obj} (u : Upd S w w') (h : w.heap[b]? = some o) (hn : ¬ S b) : w'.heap[b]? = some o :=
  (u.block b (lt_of_block h) (Or.inr hn)).trans h
theorem Nw.keep {w w' : World} {b : Nat} {o : Obj} (u : Nw w w') (h : w.heap[b]? = some o) : w'.heap[b]? = some o := Upd.keep u h id

/-! ### Strings as lists of bytes -/
theorem bs_extract (l : List UInt8) (a b : Nat) : (ByteArray.mk l.toArray).extract a b = ByteArray.mk ((l.drop a).take (b - a)).toArray := ByteArray.extract_mk l a b
theorem bs_list (l : List UInt8) : (ByteArray.mk l.toArray).data.toList = l := by simp
theorem bs_extract_list (s : ByteArray) (a b : Nat) : (s.extract a b).data.toList = (s.data.toList.drop a).take (b - a) := by
  cases s with | mk d => rw [show (ByteArray.mk d) = ByteArray.mk d.toList.toArray by simp, bs_extract]
theorem bs_append_list (a b : ByteArray) : (a ++ b).data.toList = a.data.toList ++ b.data.toList := by simp [ByteArray.data_append]
theorem bs_size (s : ByteArray) : s.size = s.data.toList.length := by rw [Array.length_toList]; rfl
theorem bs_toList (s : ByteArray) : s.toList = s.data.toList := ByteArray.toList_eq s
theorem nw_alloc (w : World) (o : Obj) : Nw w (w.alloc o) := (Upd.refl _ w).alloc o
theorem bs_eta (s : ByteArray) : ByteArray.mk (s.data.toList).toArray = s := by cases s; simp
theorem ret_bs {s : ByteArray} {l : List UInt8} (h : s.data.toList = l) : Ending.returned (.string s) = .returned (.string ⟨l.toArray⟩) := by rw [← h, bs_eta]
theorem ret_int {k : IntKind} {a b : Int} (h : a = b) : Ending.returned (.int k a) = .returned (.int k b) := by rw [h]
theorem ret_bool {a b : Bool} (h : a = b) : Ending.returned (.bool a) = .returned (.bool b) := by rw [h]

/-! ### A slice whose elements have one cell each, and that reads as a list -/
/-- The slice v reads as xs; its array lies in a block from lo on, below hi. -/
def Sl (lo hi : Nat) (w : World) (v : Value) (xs : List Value) : Prop :=
  (∃ a cap, v = .slice a 0 cap ∧ xs = []) ∨
  ∃ b off cap, v = .slice (some ⟨b, off, none⟩) xs.length cap ∧ xs.length ≤ cap ∧ cap ≤ maxLen ∧ lo ≤ b ∧ b < hi ∧ b < w.heap.size ∧ ∀ i, i < xs.length → w.cell? ⟨b, off + i, none⟩ = xs[i]?
theorem Sl.nil {α : Type} (lo hi : Nat) (w : World) (f : α → Value) : Sl lo hi w (.slice none 0 0) (List.map f []) := Or.inl ⟨_, _, rfl, rfl⟩
theorem Sl.upd {lo hi : Nat} {S : Nat → Prop} {w w' : World} {v : Value} {xs : List Value} (h : Sl lo hi w v xs) (u : Upd S w w') (hs : ∀ k, lo ≤ k → k < hi → ¬ S k) : Sl lo hi w' v xs := by
  rcases h with h | ⟨b, off, cap, h1, h2, h3, h4, h5, h6, h7⟩
  · exact Or.inl h
  · refine Or.inr ⟨b, off, cap, h1, h2, h3, h4, h5, Nat.lt_of_lt_of_le h6 u.size, fun i hi' => ?_⟩
    rw [← h7 i hi']
    exact World.cell?_of_block (u.block b h6 (Or.inr (hs b h4 h5)))
theorem Sl.nw {lo hi : Nat} {w w' : World} {v : Value} {xs : List Value} (h : Sl lo hi w v xs) (u : Nw w w') : Sl lo hi w' v xs := h.upd u (fun _ _ _ s => s)
theorem Sl.len {lo hi : Nat} {w : World} {v : Value} {xs : List Value} (h : Sl lo hi w v xs) : xs.length ≤ maxLen := by
  rcases h with ⟨_, _, _, rfl⟩ | ⟨b, off, cap, h1, h2, h3, h4, h5, h6, h7⟩
  · exact Nat.zero_le _
  · exact Nat.le_trans h2 h3
/-- A slice that the call owns reads as a list, where each element has one cell. -/
theorem Sl.of_owns {base : Nat} {e : TypeId} {w : World} {v : Value} {n : Nat} {xs : List Value} (h : w.ownsRow base e 1 v n xs) : Sl base w.heap.size w v xs := by
  obtain ⟨h1, h2⟩ := h
  rw [Nat.mul_one] at h1
  rcases h2 with ⟨rfl, rfl⟩ | ⟨g, cap, cur, rfl, hb, hg, hn, hm, hs, ht⟩
  · exact Or.inl ⟨_, _, rfl, List.length_eq_zero_iff.1 h1⟩
  · subst h1
    refine Or.inr ⟨g, 0, cap, rfl, hn, hm, hb, lt_of_block hg, lt_of_block hg, fun i hi => ?_⟩
    rw [cells_cell hg, Nat.zero_add, ← ht, Nat.mul_one, List.getElem?_take, if_pos hi]
    simp
theorem Upd.grown {S : Nat → Prop} {a w w' : World} {row : Option Nat} (h : Upd S a w) (hg : w.grownBy w' row) (hr : ∀ k, row = some k → (S k ∨ a.heap.size ≤ k) ∧ nG ≤ k) : Upd S a w' :=
  ⟨hg.os.trans h.os, hg.tape.trans h.tape, hg.output.trans h.output, Nat.le_trans h.size hg.size, fun k hk hn => by
    refine (hg.block k (Nat.lt_of_lt_of_le hk h.size) (fun e => ?_)).trans (h.block k hk hn)
    obtain ⟨h1, h2⟩ := hr k e.symm
    rcases hn with hn | hn
    · omega
    · rcases h1 with h1 | h1
      · exact hn h1
      · omega⟩
/-- What the walk is told of a slice: an address (if there is an element), a length, a capacity, the cells. -/
theorem Sl.open_ {lo hi : Nat} {w : World} {v : Value} {xs : List Value} (h : Sl lo hi w v xs) :
    ∃ a cap, v = .slice a xs.length cap ∧ xs.length ≤ maxLen ∧ ((True ∧ True ∧ xs = []) ∨ ∃ b off, a = some ⟨b, off, none⟩ ∧ lo ≤ b ∧ b < hi ∧ b < w.heap.size ∧ ∀ i, i < xs.length → w.cell? ⟨b, off + i, none⟩ = xs[i]?) := by
  have hl := h.len
  rcases h with ⟨a, cap, rfl, rfl⟩ | ⟨b, off, cap, h1, h2, h3, h4, h5, h6, h7⟩
  · exact ⟨a, cap, rfl, hl, Or.inl ⟨trivial, trivial, rfl⟩⟩
  · exact ⟨some ⟨b, off, none⟩, cap, h1, hl, Or.inr ⟨b, off, rfl, h4, h5, h6, h7⟩⟩
theorem add_plain (b o j : Nat) : (⟨b, o, none⟩ : Addr).add j = ⟨b, o + j, none⟩ := by
  unfold Addr.add
  split
  · rename_i h; subst h; rfl
  · rfl
/-- 'out = append(out, x)' onto a slice that is nil or the call's own; x's cells lie in the new block that the walk has just made. -/
theorem wpList_app {P : Program} {w : World} {ops : Array Oper} {rest : List Oper} {o : Oper} {a : Act} {Q : Exit → Act → World → Prop} (hgd : o.guard = none) (s x : Operand) (t : TypeId)
    (ho : o.op = .call { callee := .builtin .append, args := #[s, x], argTypes := #[t, t] })
    (base : Nat) (e : TypeId) (z : Value) (size bytes : Nat) (ht : P.underlying t = some (.slice e)) (hinfo : (P.info? e).map (fun i => (i.zero, i.size, i.bytes)) = some (some z, size, bytes)) (hzs : z.cells.size = size) (hsz : 0 < size)
    (v : Value) (n : Nat) (xs : List Value) (hs : a.eval s = v) (hown : w.ownsRow base e size v n xs)
    (news : List Value) (hx : a.eval x = .slice (some ⟨w.heap.size, 0, none⟩) 1 1) (hl : news.length = size) (h1 : ∀ u ∈ news, u.oneCell' = true)
    (h63 : n + 1 ≤ maxLen) (hbytes : (n + 1) * bytes ≤ 140737488355328) (hbase : base ≤ w.heap.size)
    (h : ∀ v' w', w'.ownsRow base e size v' (n + 1) (xs ++ news) → Nw w (w.alloc (.cells news.toArray e)) → (w.alloc (.cells news.toArray e)).grownBy w' v.ownBlock → (∀ k, v.ownBlock = some k → base ≤ k ∧ k < w.heap.size) → wpList P ops Q rest (a.put o.dst v') w') : wpList P ops Q (o :: rest) a (w.alloc (.cells news.toArray e)) := by
  obtain ⟨i0, hi, hz0, hz1, hz2⟩ := info_parts hinfo
  refine wpList_append_own _ hgd s x t ho base e i0 z size bytes ht hi hz0 hz1 hz2 hzs hsz v n xs hs (hown.alloc _) ⟨w.heap.size, 0, none⟩ 1 1 news hx (by omega) ?_ h1 h63 hbytes (by simp; omega) fun v' w' h2 h3 _ => h v' w' h2 (nw_alloc _ _) h3 hown.lt
  intro j u hu
  have hb := heap_new w (.cells news.toArray e)
  rw [add_plain, cells_cell hb, Nat.zero_add]
  simpa using hu
end Go.Proofs.YthagiklfmkdmaaaGreatDoor
namespace Go.Proofs.YthagiklfmkdmaaaGreatDoor
open Go.RowKit Go.MapKept
open Go.Maps (Keyed)
set_option linter.unusedVariables false
set_option linter.unusedSimpArgs false

/-- Block b is a map whose entries are l, in some order; each key can be read, no two are the same. -/
def MapL (P : Program) (k : TypeId) (w : World) (b : Nat) (l : List (Value × Value)) : Prop :=
  ∃ es clock, w.heap[b]? = some (.map es clock) ∧ (es.toList.map (fun e => (e.key, e.val))).Perm l ∧ (∀ p ∈ l, ∃ x, keyOf P k p.1 = some x) ∧ Stamped es clock
theorem MapL.lt {P : Program} {k : TypeId} {w : World} {b : Nat} {l : List (Value × Value)} (h : MapL P k w b l) : b < w.heap.size := by
  obtain ⟨es, clock, hb, _⟩ := h
  exact lt_of_block hb
theorem MapL.upd {P : Program} {k : TypeId} {w w' : World} {b : Nat} {l : List (Value × Value)} {S : Nat → Prop} (h : MapL P k w b l) (u : Upd S w w') (hn : ¬ S b) : MapL P k w' b l := by
  obtain ⟨es, clock, hb, r⟩ := h
  exact ⟨es, clock, u.keep hb hn, r⟩
theorem MapL.nw {P : Program} {k : TypeId} {w w' : World} {b : Nat} {l : List (Value × Value)} (h : MapL P k w b l) (u : Nw w w') : MapL P k w' b l := h.upd u id
theorem MapL.made (P : Program) (k : TypeId) (w : World) : MapL P k (w.alloc (.map #[] 0)) w.heap.size [] :=
  ⟨#[], 0, heap_new w _, List.Perm.refl _, (fun p hp => by cases hp), stamped_empty 0⟩
/-- 'm[k]': an entry is there, or none is. -/
theorem MapL.look {P : Program} {t k e : TypeId} {w : World} {b : Nat} {l : List (Value × Value)} (h : MapL P k w b l) (K : Keyed P k) (ht : P.underlying t = some (.map k e)) {z : Value} (hz : (zeroValue e).run P w = .ok z w) {key : Value} {kl : Lit} (hkey : keyOf P k key = some kl) :
    (∃ v, (key, v) ∈ l ∧ ∀ c, (Instr.lookup t (.map (some b)) key c).run P w = .ok (if c then .tuple #[v, .bool true] else v) w) ∨
    ((∀ p ∈ l, p.1 ≠ key) ∧ ∀ c, (Instr.lookup t (.map (some b)) key c).run P w = .ok (if c then .tuple #[z, .bool false] else z) w) := by
  obtain ⟨es, clock, hb, hpm, hk, hs⟩ := h
  have hke : ∀ x ∈ es.toList, ∃ l, keyOf P k x.key = some l := fun x hx => hk (x.key, x.val) (hpm.mem_iff.1 (List.mem_map.2 ⟨x, hx, rfl⟩))
  rcases K.find w hkey es.toList hke with ⟨h1, h2⟩ | ⟨j, e0, h1, h2, h3⟩
  · refine Or.inr ⟨fun p hp => ?_, fun c => by simp [Instr.lookup, run_underlying ht, MapKept.run_getObj_map hb, K.check w _ hkey, h1, hz, Result.andThen]⟩
    obtain ⟨x, hx, rfl⟩ := List.mem_map.1 (hpm.mem_iff.2 hp)
    exact h2 x hx
  · have hm0 : e0 ∈ es.toList := List.mem_of_getElem? h2
    refine Or.inl ⟨e0.val, hpm.mem_iff.1 (List.mem_map.2 ⟨e0, hm0, by rw [h3]⟩), fun c => by simp [Instr.lookup, run_underlying ht, MapKept.run_getObj_map hb, K.check w _ hkey, h1, Result.andThen]⟩
theorem Upd.setBlock {w : World} {b : Nat} (hg : nG ≤ b) (o : Obj) : Upd (· = b) w { w with heap := w.heap.setIfInBounds b o } :=
  ⟨rfl, rfl, rfl, by simp, fun k hk hn => by
    have hne : b ≠ k := by
      rintro rfl
      rcases hn with hn | hn
      · omega
      · exact hn rfl
    simp [Array.getElem?_setIfInBounds, hne]⟩
/-- 'm[k] = v', the key not there: the entry comes last. -/
theorem MapL.store_new {P : Program} {t k e : TypeId} {w : World} {b : Nat} {l : List (Value × Value)} (h : MapL P k w b l) (K : Keyed P k) (ht : P.underlying t = some (.map k e)) (hg : nG ≤ b) {key : Value} {kl : Lit} (hkey : keyOf P k key = some kl) (hno : ∀ p ∈ l, p.1 ≠ key) (val : Value) :
    ∃ w', (Instr.mapUpdate t (.map (some b)) key val).run P w = .ok () w' ∧ MapL P k w' b (l ++ [(key, val)]) ∧ Upd (· = b) w w' := by
  obtain ⟨es, clock, hb, hpm, hk, hs⟩ := h
  have hke : ∀ x ∈ es.toList, ∃ l, keyOf P k x.key = some l := fun x hx => hk (x.key, x.val) (hpm.mem_iff.1 (List.mem_map.2 ⟨x, hx, rfl⟩))
  have hlt := lt_of_block hb
  have hno2 : ∀ x ∈ es.toList, x.key ≠ key := fun x hx => hno (x.key, x.val) (hpm.mem_iff.1 (List.mem_map.2 ⟨x, hx, rfl⟩))
  rcases K.find w hkey es.toList hke with ⟨h1, h2⟩ | ⟨j, e0, h1, h2, h3⟩
  · refine ⟨{ w with heap := w.heap.setIfInBounds b (.map (es.push ⟨key, val, clock⟩) (clock + 1)) }, ?_, ⟨es.push ⟨key, val, clock⟩, clock + 1, ?_, by simpa using hpm.append_right [(key, val)], ?_, stamped_push hs h2⟩, Upd.setBlock hg _⟩
    · simp [Instr.mapUpdate, run_underlying ht, MapKept.run_getObj_map hb, K.check w false hkey, h1, MapKept.run_setObj_map _ hb, Result.andThen]
    · simp [Array.getElem?_setIfInBounds, hlt]
    · intro p hp
      rcases List.mem_append.1 hp with hp | hp
      · exact hk p hp
      · rw [List.mem_singleton.1 hp]; exact ⟨kl, hkey⟩
  · exact absurd h3 (hno2 e0 (List.mem_of_getElem? h2))
/-- 'm[k]', 'v, ok := m[k]' at the operation, by its run. -/
theorem wpList_lookL {P : Program} {w : World} {ops : Array Oper} {rest : List Oper} {o : Oper} {a : Act} {Q : Exit → Act → World → Prop} (hg : o.guard = none) (m x : Operand) (t : TypeId) (c : Bool) (hop : o.op = Op.lookup t m x c)
    (vm key v : Value) (hm : a.eval m = vm) (hx : a.eval x = key) (hrun : (Instr.lookup t vm key c).run P w = .ok v w) (h : wpList P ops Q rest (a.put o.dst v) w) : wpList P ops Q (o :: rest) a w := by
  refine wpList_plain hg fun K hK => ?_
  unfold Oper.wp
  simp [execOp, hop, hm, hx, hrun, Result.andThen]
  exact hK _ _ h
/-- 'm[k] = v' at the operation, by its run. -/
theorem wpList_storeL {P : Program} {w w' : World} {ops : Array Oper} {rest : List Oper} {o : Oper} {a : Act} {Q : Exit → Act → World → Prop} (hg : o.guard = none) (m x y : Operand) (t : TypeId) (hop : o.op = Op.mapUpdate t m x y)
    (vm key v : Value) (hm : a.eval m = vm) (hx : a.eval x = key) (hy : a.eval y = v) (hrun : (Instr.mapUpdate t vm key v).run P w = .ok () w') (h : wpList P ops Q rest (a.put o.dst undef) w') : wpList P ops Q (o :: rest) a w := by
  refine wpList_plain hg fun K hK => ?_
  unfold Oper.wp
  simp [execOp, hop, hm, hx, hy, hrun, Result.andThen]
  exact hK _ _ h
end Go.Proofs.YthagiklfmkdmaaaGreatDoor
namespace Go.Proofs.YthagiklfmkdmaaaGreatDoor
open Go.RowKit Go.MapKept
open Go.Maps (Keyed)
open Go.ChangeMaps (setBlock)
set_option linter.unusedVariables false
set_option linter.unusedSimpArgs false

def kv (e : MapEntry) : Value × Value := (e.key, e.val)
/-- Block b is a map with the entries l; r is an iterator over it that has handed out d. -/
def RangeL (P : Program) (k : TypeId) (w : World) (b r : Nat) (l d : List (Value × Value)) : Prop :=
  ∃ es clock since seen c0, ∃ D : List MapEntry, w.heap[b]? = some (.map es clock) ∧ (es.toList.map kv).Perm l ∧ (∀ p ∈ l, ∃ x, keyOf P k p.1 = some x) ∧ Stamped es clock ∧
    w.heap[r]? = some (.mapIter (some b) since seen c0) ∧ (∀ x ∈ es.toList, x.born < since) ∧ since ≤ c0 ∧ since ≤ clock ∧ (∀ x ∈ D, x ∈ es.toList) ∧ D.Nodup ∧ seen.toList = D.map (·.born) ∧ D.map kv = d
variable {P : Program} {k : TypeId} {w : World} {b r : Nat} {l d : List (Value × Value)}
theorem RangeL.upd {S : Nat → Prop} {w' : World} (h : RangeL P k w b r l d) (u : Upd S w w') (hb : ¬ S b) (hr : ¬ S r) : RangeL P k w' b r l d ∧ w'.rangeLeft b r = w.rangeLeft b r := by
  obtain ⟨es, clock, since, seen, c0, D, h1, h2, h3, h4, h5, h6⟩ := h
  refine ⟨⟨es, clock, since, seen, c0, D, u.keep h1 hb, h2, h3, h4, u.keep h5 hr, h6⟩, ?_⟩
  unfold World.rangeLeft
  rw [u.keep h1 hb, h1, u.keep h5 hr, h5]
theorem RangeL.lt (h : RangeL P k w b r l d) : b < w.heap.size ∧ r < w.heap.size ∧ r ≠ b := by
  obtain ⟨es, clock, since, seen, c0, D, h1, h2, h3, h4, h5, h6⟩ := h
  refine ⟨lt_of_block h1, lt_of_block h5, fun e => ?_⟩
  rw [e, h1] at h5
  cases h5
theorem RangeL.map (h : RangeL P k w b r l d) : MapL P k w b l := by
  obtain ⟨es, clock, since, seen, c0, D, h1, h2, h3, h4, h5, h6⟩ := h
  exact ⟨es, clock, h1, h2, h3, h4⟩
/-- 'range m'. -/
theorem MapL.range {t e : TypeId} (h : MapL P k w b l) (ht : P.underlying t = some (.map k e)) :
    ∃ w', (Instr.range t (.map (some b))).run P w = .ok (.pointer (some ⟨w.heap.size, 0, none⟩)) w' ∧ RangeL P k w' b w.heap.size l [] ∧ Nw w w' := by
  obtain ⟨es, clock, h1, h2, h3, h4⟩ := h
  refine ⟨_, run_range_map w t k e b es clock ht h1, ⟨es, clock, clock, #[], clock, [], Nw.keep (nw_alloc w _) h1, h2, h3, h4, heap_new w _, h4.1, Nat.le_refl _, Nat.le_refl _, by simp, by simp, by simp, rfl⟩, nw_alloc _ _⟩
theorem stamp_nodup {es : List MapEntry} (h : (es.map (·.born)).Nodup) : es.Nodup := (List.pairwise_map.1 h).imp (fun hne e => hne (by rw [e]))
/-- THE STEP: nothing is left, and all has been handed out; or an entry comes whose key has not. -/
theorem RangeL.next (h : RangeL P k w b r l d) (hg : nG ≤ r) (ty : TypeId) :
    (l.Perm d ∧ (Instr.next (.pointer (some ⟨r, 0, none⟩)) false ty).run P w = .ok (.tuple #[.bool false]) w) ∨
    ∃ p, p ∈ l ∧ (∀ q ∈ d, q.1 ≠ p.1) ∧ ∃ w', (Instr.next (.pointer (some ⟨r, 0, none⟩)) false ty).run P w = .ok (.tuple #[.bool true, p.1, p.2]) w' ∧ RangeL P k w' b r l (d ++ [p]) ∧ Upd (· = r) w w' ∧
      w'.rangeLeft b r < w.rangeLeft b r ∧ (Instr.entry (.pointer (some ⟨r, 0, none⟩))).run P w' = .ok (.tuple #[p.1, p.2]) w' := by
  have hne := h.lt.2.2
  have hrlt := h.lt.2.1
  obtain ⟨es, clock, since, seen, c0, D, h1, h2, h3, h4, h5, h6, h7, h8, h9, h10, h11, rfl⟩ := h
  have hst := (stamped_iff es clock).1 h4
  rcases run_next_at (P := P) w ty r b since c0 seen es clock h5 h1 h6 h7 with ⟨h0, hrun⟩ | ⟨e, he, w1, hal, hrun⟩
  · refine Or.inl ⟨h2.symm.trans (List.Perm.map _ ?_), hrun⟩
    refine (List.perm_ext_iff_of_nodup (stamp_nodup hst.2.1) h10).2 fun x => ⟨fun hx => ?_, h9 x⟩
    have hs := all_seen es seen h0 x hx
    have hm : x.born ∈ D.map (·.born) := by rw [← h11]; simpa using hs
    obtain ⟨y, hy, hyb⟩ := List.mem_map.1 hm
    rw [← born_inj hst.2.1 (h9 y hy) hx hyb]
    exact hy
  · obtain ⟨hem, hes⟩ := mem_left he
    have hnot : e ∉ D := fun hd => by
      have hm : e.born ∈ seen.toList := by rw [h11]; exact List.mem_map.2 ⟨e, hd, rfl⟩
      rw [Array.contains_eq_mem] at hes
      simp at hm hes
      exact hes hm
    have hr1 : w1.heap[r]? = some (.mapIter (some b) since seen c0) := by rcases hal with rfl | rfl <;> exact h5
    have hb1 : w1.heap[b]? = some (.map es clock) := by rcases hal with rfl | rfl <;> exact h1
    have hset := heap_set (o' := .mapIter (some b) since (seen.push e.born) clock) hr1
    have hb' : (setBlock w1 r (.mapIter (some b) since (seen.push e.born) clock)).heap[b]? = some (.map es clock) := (hset.2 b (fun e1 => hne e1.symm)).trans hb1
    refine Or.inr ⟨kv e, h2.mem_iff.1 (List.mem_map.2 ⟨e, hem, rfl⟩), fun q hq hk => ?_, _, hrun, ⟨es, clock, since, seen.push e.born, clock, D ++ [e], hb', h2, h3, h4, hset.1, h6, h8, h8, fun x hx => ?_, ?_, ?_, by simp⟩, ?_, ?_, run_entry_at _ r b since seen es clock e hset.1 hb' hem hst.2.1⟩
    · obtain ⟨x, hx, rfl⟩ := List.mem_map.1 hq
      obtain rfl := entry_eq_of_key hst.2.2 (h9 x hx) hem hk
      exact hnot hx
    · rcases List.mem_append.1 hx with hx | hx
      · exact h9 x hx
      · rw [List.mem_singleton.1 hx]; exact hem
    · rw [List.nodup_append]
      exact ⟨h10, by simp, fun a ha y hy e1 => by rw [List.mem_singleton] at hy; subst hy; subst e1; exact hnot ha⟩
    · simp [h11]
    · rcases hal with rfl | rfl <;> exact ⟨rfl, rfl, rfl, by simp [setBlock], fun i _ hi => hset.2 i (fun e1 => by subst e1; rcases hi with hi | hi; omega; exact hi rfl)⟩
    · unfold World.rangeLeft
      have hr' : (setBlock w1 r (.mapIter (some b) since (seen.push e.born) clock)).heap[r]? = some (.mapIter (some b) since (seen.push e.born) clock) := hset.1
      rw [hb', hr', h1, h5]
      exact left_shrinks es seen e he
end Go.Proofs.YthagiklfmkdmaaaGreatDoor
namespace Go.Proofs.YthagiklfmkdmaaaGreatDoor
open Go.RowKit
set_option linter.unusedVariables false
set_option linter.unusedSimpArgs false
section
variable {P : Program} {md : Region.Mode} {ops : Array Oper} {C : World → Prop}
end
end Go.Proofs.YthagiklfmkdmaaaGreatDoor
namespace Go.Proofs.YthagiklfmkdmaaaGreatDoor
open Go.RowKit
attribute [local irreducible] Calls
set_option linter.unusedVariables false
set_option linter.unusedSimpArgs false

/-- The place of the first one of which p holds, or -1. -/
def idxI {α : Type} (p : α → Bool) (X : List α) : Int := match X.findIdx? p with
  | some i => i
  | none => -1
theorem idx_hit {α : Type} {p : α → Bool} {X : List α} {n : Nat} (hn : n < X.length) (hp : p X[n] = true) (hno : ∀ j (h : j < X.length), j < n → p X[j] = false) : idxI p X = n := by
  have : X.findIdx? p = some n := by
    rw [List.findIdx?_eq_some_iff_getElem]
    exact ⟨hn, hp, fun j hj => by rw [hno j (by omega) hj]; simp⟩
  unfold idxI; rw [this]
theorem idx_miss {α : Type} {p : α → Bool} {X : List α} (hno : ∀ j (h : j < X.length), p X[j] = false) : idxI p X = -1 := by
  have : X.findIdx? p = none := by
    rw [List.findIdx?_eq_none_iff]
    intro x hx
    obtain ⟨j, hj, rfl⟩ := List.mem_iff_getElem.1 hx
    exact hno j hj
  unfold idxI; rw [this]
theorem idx_any {α : Type} (p : α → Bool) (X : List α) : decide (0 ≤ idxI p X) = X.any p := by
  unfold idxI
  cases h : X.findIdx? p with
  | none =>
    have := List.findIdx?_eq_none_iff.1 h
    rw [Bool.eq_iff_iff]
    simp only [decide_eq_true_eq, List.any_eq_true]
    constructor
    · intro h; omega
    · rintro ⟨x, hx, hp⟩; rw [this x hx] at hp; cases hp
  | some i =>
    obtain ⟨hi, hp, _⟩ := List.findIdx?_eq_some_iff_getElem.1 h
    rw [Bool.eq_iff_iff]
    simp only [decide_eq_true_eq, List.any_eq_true]
    exact ⟨fun _ => ⟨X[i], List.getElem_mem hi, hp⟩, fun _ => by omega⟩
theorem own_block {B sz : Nat} {e : TypeId} {w : World} {v : Value} {n : Nat} {xs : List Value} (h : w.ownsRow B e sz v n xs) {k : Nat} (hk : v.ownBlock = some k) : B ≤ k ∧ ∃ cs, w.heap[k]? = some (.cells cs e (0, 0)) := by
  rcases h.2 with ⟨rfl, _⟩ | ⟨g, cap, cur, rfl, hb, hg, _⟩
  · cases hk
  · obtain rfl : g = k := by simpa [Value.ownBlock] using hk
    exact ⟨hb, _, hg⟩
theorem owns_upd' {B sz : Nat} {S : Nat → Prop} {e : TypeId} {w w' : World} {v : Value} {n : Nat} {xs : List Value} (h : w.ownsRow B e sz v n xs) (u : Upd S w w') (hs : ∀ k, v.ownBlock = some k → ¬ S k) : w'.ownsRow B e sz v n xs := by
  obtain ⟨h1, h2⟩ := h
  refine ⟨h1, ?_⟩
  rcases h2 with h2 | ⟨g, cap, cur, rfl, hb, hg, r⟩
  · exact Or.inl h2
  · exact Or.inr ⟨g, cap, cur, rfl, hb, u.keep hg (hs g rfl), r⟩
/-- 'len(m)'. -/
theorem MapL.len {P : Program} {w : World} {k : TypeId} {b : Nat} {l : List (Value × Value)} (h : MapL P k w b l) : ∃ es clock, w.heap[b]? = some (.map es clock) ∧ es.size = l.length := by
  obtain ⟨es, clock, hb, hp, _⟩ := h
  exact ⟨es, clock, hb, by rw [← hp.length_eq, List.length_map, Array.length_toList]⟩
end Go.Proofs.YthagiklfmkdmaaaGreatDoor
namespace Go.Proofs.YthagiklfmkdmaaaGreatDoor
set_option linter.unusedVariables false
set_option linter.unusedSimpArgs false

namespace Fm
abbrev Str := List UInt8
inductive Ty
  | mk (kind : Int) (fs : List (Str × Ty))
inductive Vl
  | mk (kind n : Int) (names : List Str) (vals : List Vl)
def Ty.kind : Ty → Int
  | .mk k _ => k
def Ty.fs : Ty → List (Str × Ty)
  | .mk _ f => f
def Vl.kind : Vl → Int
  | .mk k _ _ _ => k
def Vl.n : Vl → Int
  | .mk _ n _ _ => n
def Vl.names : Vl → List Str
  | .mk _ _ s _ => s
def Vl.vals : Vl → List Vl
  | .mk _ _ _ l => l
def noV : Vl := .mk 0 0 [] []
def noT : Ty := .mk 0 []
theorem Vl.ext {a b : Vl} (h1 : a.kind = b.kind) (h2 : a.n = b.n) (h3 : a.names = b.names) (h4 : a.vals = b.vals) : a = b := by
  cases a; cases b; simp only [Vl.kind, Vl.n, Vl.names, Vl.vals] at *; subst h1 h2 h3 h4; rfl
/-! ### The order of strings -/
abbrev lt (a b : Str) : Bool := Op.bytesLess a b
theorem lt_irr : ∀ a : Str, lt a a = false := by
  intro a
  induction a with
  | nil => rfl
  | cons x a ih => unfold lt Op.bytesLess; simp; exact ih
theorem lt_trans : ∀ {a b c : Str}, lt a b = true → lt b c = true → lt a c = true := by
  intro a
  induction a with
  | nil =>
    intro b c h1 h2
    cases c with
    | nil => cases b <;> simp [lt, Op.bytesLess] at h2
    | cons z c => rfl
  | cons x a ih =>
    intro b c h1 h2
    cases b with
    | nil => simp [lt, Op.bytesLess] at h1
    | cons y b =>
      cases c with
      | nil => simp [lt, Op.bytesLess] at h2
      | cons z c =>
        simp only [lt, Op.bytesLess, Bool.or_eq_true, decide_eq_true_eq, Bool.and_eq_true, beq_iff_eq] at h1 h2 ⊢
        rcases h1 with h1 | ⟨rfl, h1⟩
        · rcases h2 with h2 | ⟨rfl, h2⟩
          · exact Or.inl (UInt8.lt_trans h1 h2)
          · exact Or.inl h1
        · rcases h2 with h2 | ⟨rfl, h2⟩
          · exact Or.inl h2
          · exact Or.inr ⟨rfl, ih h1 h2⟩
def asc : List Str → Bool
  | [] => true
  | [_] => true
  | a :: b :: r => lt a b && asc (b :: r)
theorem asc_tail {a : Str} {l : List Str} (h : asc (a :: l) = true) : asc l = true := by
  cases l with
  | nil => rfl
  | cons b r => unfold asc at h; simp only [Bool.and_eq_true] at h; exact h.2
theorem asc_lt : ∀ {l : List Str} {a : Str}, asc (a :: l) = true → ∀ b ∈ l, lt a b = true := by
  intro l
  induction l with
  | nil => intro a _ b hb; cases hb
  | cons c l ih =>
    intro a h b hb
    have h1 : lt a c = true := by unfold asc at h; simp only [Bool.and_eq_true] at h; exact h.1
    rcases List.mem_cons.1 hb with rfl | hb
    · exact h1
    · exact lt_trans h1 (ih (asc_tail h) b hb)
theorem asc_nodup : ∀ {l : List Str}, asc l = true → l.Nodup := by
  intro l
  induction l with
  | nil => intro _; exact List.nodup_nil
  | cons a l ih =>
    intro h
    refine List.nodup_cons.2 ⟨fun hm => ?_, ih (asc_tail h)⟩
    have := asc_lt h a hm
    rw [lt_irr] at this; cases this
/-- By places: what the programs look at. -/
theorem asc_iff {l : List Str} : asc l = true ↔ ∀ i (h : i + 1 < l.length), lt (l[i]'(by omega)) l[i + 1] = true := by
  induction l with
  | nil => simp [asc]
  | cons a l ih =>
    cases l with
    | nil => simp [asc]
    | cons b r =>
      unfold asc
      rw [Bool.and_eq_true, ih]
      constructor
      · rintro ⟨h1, h2⟩ i hi
        cases i with
        | zero => exact h1
        | succ i => exact h2 i (by simpa using hi)
      · intro h
        exact ⟨h 0 (by simp), fun i hi => h (i + 1) (by simpa using hi)⟩
/-! ### Names -/
def letterB (c : UInt8) : Bool := decide (97 ≤ c.toNat) && decide (c.toNat ≤ 122)
def digitB (c : UInt8) : Bool := decide (48 ≤ c.toNat) && decide (c.toNat ≤ 57)
def wordB (s : Str) : Bool := match s with
  | [] => false
  | c :: r => letterB c && decide (s.length ≤ 20) && s.all (fun c => letterB c || digitB c)
def reservedL : Str := [32, 97, 110, 100, 32, 98, 97, 99, 107, 32, 98, 111, 111, 108, 32, 99, 108, 111, 99, 107, 32, 101, 108, 115, 101, 32, 102, 97, 108, 115, 101, 32, 102, 105, 108, 101, 115, 32, 102, 110, 32, 102, 111, 114, 119, 97, 114, 100, 32, 103, 101, 116, 32, 105, 102, 32, 105, 110, 32, 105, 110, 116, 32, 108, 101, 116, 32, 109, 111, 100, 117, 108, 101, 32, 109, 111, 118, 101, 32, 110, 101, 116, 32, 110, 111, 116, 32, 111, 114, 32, 112, 117, 98, 32, 115, 101, 99, 114, 101, 116, 115, 32, 115, 101, 116, 32, 116, 104, 101, 110, 32, 116, 114, 117, 101, 32, 117, 115, 101, 32, 118, 97, 114, 32]
def nameB (s : Str) : Bool := wordB s && !Lib.contains reservedL ([32] ++ s ++ [32])
theorem word_len {s : Str} (h : wordB s = true) : s.length ≤ 20 := by
  unfold wordB at h
  split at h
  · cases h
  · simp only [Bool.and_eq_true, decide_eq_true_eq] at h; exact h.1.2
theorem name_len {s : Str} (h : nameB s = true) : s.length ≤ 20 := by
  unfold nameB at h
  rw [Bool.and_eq_true] at h
  exact word_len h.1
/-! ### Right types and values -/
def rightTy : Nat → Ty → Bool
  | 0, _ => false
  | d + 1, t => decide (0 ≤ t.kind) && decide (t.kind < 3) && decide (t.fs.length ≤ 8) && (decide (t.kind = 2) || t.fs.isEmpty) && asc (t.fs.map (·.1)) && t.fs.all (fun f => nameB f.1 && rightTy d f.2)
structure Rt (d : Nat) (t : Ty) : Prop where
  k0 : 0 ≤ t.kind
  k3 : t.kind < 3
  len : t.fs.length ≤ 8
  rec_ : t.kind ≠ 2 → t.fs = []
  asc : asc (t.fs.map (·.1)) = true
  name : ∀ f ∈ t.fs, nameB f.1 = true
  sub : ∀ f ∈ t.fs, rightTy d f.2 = true
theorem rt_iff {d : Nat} {t : Ty} : rightTy (d + 1) t = true ↔ Rt d t := by
  unfold rightTy
  simp only [Bool.and_eq_true, decide_eq_true_eq, Bool.or_eq_true, List.isEmpty_iff, List.all_eq_true]
  constructor
  · rintro ⟨⟨⟨⟨⟨h1, h2⟩, h3⟩, h4⟩, h5⟩, h6⟩
    exact ⟨h1, h2, h3, fun h => h4.resolve_left h, h5, fun f hf => (h6 f hf).1, fun f hf => (h6 f hf).2⟩
  · intro h
    exact ⟨⟨⟨⟨⟨h.k0, h.k3⟩, h.len⟩, by by_cases e : t.kind = 2; exact Or.inl e; exact Or.inr (h.rec_ e)⟩, h.asc⟩, fun f hf => ⟨h.name f hf, h.sub f hf⟩⟩
theorem right_mono : ∀ {d : Nat} {t : Ty}, rightTy d t = true → rightTy (d + 1) t = true := by
  intro d
  induction d with
  | zero => intro t h; cases h
  | succ d ih =>
    intro t h
    have h := rt_iff.1 h
    exact rt_iff.2 ⟨h.k0, h.k3, h.len, h.rec_, h.asc, h.name, fun f hf => ih (h.sub f hf)⟩
theorem right_le {d e : Nat} {t : Ty} (h : rightTy d t = true) (hd : d ≤ e) : rightTy e t = true := by
  induction hd with
  | refl => exact h
  | step _ ih => exact right_mono ih
def rightVl : Nat → Vl → Bool
  | 0, _ => false
  | d + 1, v => if v.kind = 0 ∨ v.kind = 1 then v.names.isEmpty && v.vals.isEmpty && (decide (v.kind = 0) || decide (v.n = 0) || decide (v.n = 1))
      else decide (v.kind = 2) && decide (v.n = 0) && decide (v.names.length = v.vals.length) && decide (v.names.length ≤ 8) && asc v.names && v.vals.all (rightVl d)
def idx (s : Str) (l : List Str) : Int := idxI (fun x => decide (x = s)) l
def Vl.at_ (v : Vl) (s : Str) : Vl := v.vals.getD (idx s v.names).toNat noV
def fits : Nat → Ty → Vl → Bool
  | 0, _, _ => false
  | d + 1, t, v => decide (t.kind = v.kind) && t.fs.all (fun f => decide (0 ≤ idx f.1 v.names) && fits d f.2 (v.at_ f.1))
def has (t : Ty) (v : Vl) : Bool := rightTy 4 t && rightVl 4 v && fits 4 t v
def lookup (l : List (Str × Ty)) (s : Str) : Option Ty := (l.reverse.find? (fun f => decide (f.1 = s))).map (·.2)
def sub : Nat → Ty → Ty → Bool
  | 0, _, _ => false
  | d + 1, a, b => decide (a.kind = b.kind) && b.fs.all (fun f => match lookup a.fs f.1 with
    | none => false
    | some t => sub d t f.2)
def zero : Nat → Ty → Vl
  | 0, _ => noV
  | d + 1, t => .mk t.kind 0 (t.fs.map (·.1)) (t.fs.map fun f => zero d f.2)
def writeF : Nat → Ty → Vl → Str
  | 0, _, _ => []
  | d + 1, t, v => Wire.numE t.kind ++ if t.kind = 0 then Wire.intE v.n else if t.kind = 1 then Wire.numE v.n else (t.fs.map fun f => Wire.textE f.1 ++ Wire.textE (writeF d f.2 (v.at_ f.1))).flatten
def proj : Nat → Ty → Vl → Vl
  | 0, _, _ => noV
  | d + 1, b, v => .mk b.kind (if b.kind = 2 then 0 else v.n) (b.fs.map (·.1)) (b.fs.map fun f => proj d f.2 (v.at_ f.1))
/-! ### Entries -/
/-- A name that does not stand behind the last one. -/
def lowE (acc : List (Str × Str)) (s : Str) : Bool := match acc.getLast? with
  | none => false
  | some z => !lt z.1 s
def entF : Nat → List (Str × Str) → Wire.St → Option (List (Str × Str))
  | 0, _, _ => none
  | n + 1, acc, st =>
    match st with
    | none => none
    | some [] => some acc
    | some (c :: r) =>
      let x := Wire.rText (some (c :: r))
      let y := Wire.rText x.2
      if y.2.isNone = true then none
      else if lowE acc x.1 = true then none
      else entF n (acc ++ [(x.1, y.1)]) y.2
def entG (acc : List (Str × Str)) (st : Wire.St) : Option (List (Str × Str)) := entF ((st.getD []).length + 1) acc st
theorem entF_more : ∀ (n m : Nat) (acc : List (Str × Str)) (st : Wire.St), (st.getD []).length < n → (st.getD []).length < m → entF n acc st = entF m acc st := by
  intro n
  induction n with
  | zero => intro m acc st h; omega
  | succ n ih =>
    intro m acc st h1 h2
    cases m with
    | zero => omega
    | succ m =>
      cases st with
      | none => rfl
      | some l =>
        cases l with
        | nil => rfl
        | cons c r =>
          unfold entF
          dsimp only
          split
          · rfl
          · next hy =>
            split
            · rfl
            · have hs : (Wire.rText (Wire.rText (some (c :: r))).2).2.isSome = true := by
                cases h : (Wire.rText (Wire.rText (some (c :: r))).2).2 with
                | none => rw [h] at hy; exact absurd rfl hy
                | some _ => rfl
              have l1 := Wire.rText_cost _ hs
              have l2 := Wire.rText_le (some (c :: r))
              refine ih m _ _ ?_ ?_ <;> omega
theorem entG_end (acc : List (Str × Str)) : entG acc (some []) = some acc := rfl
theorem entG_none (acc : List (Str × Str)) : entG acc none = none := rfl
theorem entG_step (acc : List (Str × Str)) (c : UInt8) (r : Str) : entG acc (some (c :: r)) =
    if (Wire.rText (Wire.rText (some (c :: r))).2).2.isNone = true then none
    else if lowE acc (Wire.rText (some (c :: r))).1 = true then none
    else entG (acc ++ [((Wire.rText (some (c :: r))).1, (Wire.rText (Wire.rText (some (c :: r))).2).1)]) (Wire.rText (Wire.rText (some (c :: r))).2).2 := by
  unfold entG
  show entF ((c :: r).length + 1) acc (some (c :: r)) = _
  rw [show (c :: r).length + 1 = (r.length + 1) + 1 from rfl]
  conv => lhs; unfold entF
  dsimp only
  split
  · rfl
  · next hy =>
    split
    · rfl
    · have hs : (Wire.rText (Wire.rText (some (c :: r))).2).2.isSome = true := by
        cases h : (Wire.rText (Wire.rText (some (c :: r))).2).2 with
        | none => rw [h] at hy; exact absurd rfl hy
        | some _ => rfl
      have l1 := Wire.rText_cost _ hs
      have l2 := Wire.rText_le (some (c :: r))
      have l3 : ((some (c :: r) : Wire.St).getD []).length = r.length + 1 := rfl
      refine entF_more _ _ _ _ ?_ ?_ <;> omega
def getE (l : List (Str × Str)) (s : Str) : Option Str := (l.find? (fun x => decide (x.1 = s))).map (·.2)
/-- Reading a right type. -/
def readF : Nat → Ty → Str → Option Vl
  | 0, _, _ => none
  | d + 1, t, s =>
    let k := Wire.rNum (some s)
    if k.2.isNone = true ∨ k.1 ≠ t.kind then none
    else if t.kind = 0 then (let n := Wire.rInt k.2; if n.2 = some [] then some (.mk 0 n.1 [] []) else none)
    else if t.kind = 1 then (let n := Wire.rNum k.2; if n.2 = some [] ∧ n.1 ≤ 1 then some (.mk 1 n.1 [] []) else none)
    else match entG [] k.2 with
      | none => none
      | some l => if t.fs.all (fun f => (getE l f.1).isSome && (readF d f.2 ((getE l f.1).getD [])).isSome) then some (.mk t.kind 0 (t.fs.map (·.1)) (t.fs.map fun f => (readF d f.2 ((getE l f.1).getD [])).getD noV)) else none
end Fm
end Go.Proofs.YthagiklfmkdmaaaGreatDoor
namespace Go.Proofs.YthagiklfmkdmaaaGreatDoor
set_option linter.unusedVariables false
set_option linter.unusedSimpArgs false

namespace Fm
def okI : Nat → Vl → Prop
  | 0, _ => True
  | d + 1, v => Wire.Int64 v.n ∧ ∀ x ∈ v.vals, okI d x
theorem okI_no : ∀ d, okI d noV := by
  intro d
  cases d with
  | zero => trivial
  | succ d => exact ⟨⟨by decide, by decide⟩, fun x hx => by cases hx⟩
def exactP : Nat → Ty → Vl → Prop
  | 0, _, _ => False
  | d + 1, t, v => v.names.length = t.fs.length ∧ v.vals.length = t.fs.length ∧ ∀ i (h : i < t.fs.length), exactP d (t.fs[i]).2 (v.vals.getD i noV)
/-! ### Look-ups -/
theorem lookup_mem {l : List (Str × Ty)} {s : Str} {t : Ty} (h : lookup l s = some t) : (s, t) ∈ l := by
  unfold lookup at h
  rw [Option.map_eq_some_iff] at h
  obtain ⟨f, h1, h2⟩ := h
  have h3 := List.find?_some h1
  have h4 := List.mem_of_find?_eq_some h1
  have e : f.1 = s := of_decide_eq_true h3
  rw [← e, ← h2]
  exact List.mem_reverse.1 h4
theorem lookup_none {l : List (Str × Ty)} {s : Str} (h : lookup l s = none) : ∀ f ∈ l, f.1 ≠ s := fun f hf e => by
  unfold lookup at h
  rw [Option.map_eq_none_iff] at h
  have := List.find?_eq_none.1 h f (List.mem_reverse.2 hf)
  exact this (decide_eq_true e)
theorem nodup_snd {β : Type} {l : List (Str × β)} (h : (l.map (·.1)).Nodup) {s : Str} {x y : β} (h1 : (s, x) ∈ l) (h2 : (s, y) ∈ l) : x = y := by
  induction l with
  | nil => cases h1
  | cons a l ih =>
    rw [List.map_cons, List.nodup_cons] at h
    rcases List.mem_cons.1 h1 with e1 | h1
    · rcases List.mem_cons.1 h2 with e2 | h2
      · rw [← e1] at e2; exact (Prod.ext_iff.1 e2).2.symm
      · exact absurd (List.mem_map.2 ⟨_, h2, by rw [← e1]⟩) h.1
    · rcases List.mem_cons.1 h2 with e2 | h2
      · exact absurd (List.mem_map.2 ⟨_, h1, by rw [← e2]⟩) h.1
      · exact ih h.2 h1 h2
theorem getE_mem {l : List (Str × Str)} {s b : Str} (h : getE l s = some b) : (s, b) ∈ l := by
  unfold getE at h
  rw [Option.map_eq_some_iff] at h
  obtain ⟨f, h1, h2⟩ := h
  have h3 := List.find?_some h1
  have e : f.1 = s := of_decide_eq_true h3
  rw [← e, ← h2]
  exact List.mem_of_find?_eq_some h1
theorem getE_none {l : List (Str × Str)} {s : Str} (h : getE l s = none) : ∀ f ∈ l, f.1 ≠ s := fun f hf e => by
  unfold getE at h
  rw [Option.map_eq_none_iff] at h
  exact List.find?_eq_none.1 h f hf (decide_eq_true e)
theorem getE_some {l : List (Str × Str)} (h : (l.map (·.1)).Nodup) {s b : Str} (hm : (s, b) ∈ l) : getE l s = some b := by
  cases hl : getE l s with
  | none => exact absurd rfl (getE_none hl _ hm)
  | some u => rw [nodup_snd h (getE_mem hl) hm]
theorem idx_at {l : List Str} {i : Nat} (hi : i < l.length) (hn : l.Nodup) : idx l[i] l = i := by
  refine idx_hit hi (decide_eq_true rfl) (fun j hj hji => decide_eq_false (fun e => ?_))
  exact (List.pairwise_iff_getElem.1 hn) j i hj hi hji e
theorem idx_cases (s : Str) (l : List Str) : (idx s l = -1 ∧ s ∉ l) ∨ ∃ i, ∃ h : i < l.length, idx s l = i ∧ l[i] = s := by
  unfold idx idxI
  cases h : l.findIdx? (fun x => decide (x = s)) with
  | none =>
    refine Or.inl ⟨rfl, fun hm => ?_⟩
    rw [List.findIdx?_eq_none_iff] at h
    have := h s hm
    simp at this
  | some i =>
    obtain ⟨hi, hp, _⟩ := List.findIdx?_eq_some_iff_getElem.1 h
    exact Or.inr ⟨i, hi, rfl, of_decide_eq_true hp⟩
theorem idx_mem {s : Str} {l : List Str} : 0 ≤ idx s l ↔ s ∈ l := by
  rcases idx_cases s l with ⟨h, hn⟩ | ⟨i, hi, h, e⟩
  · rw [h]; exact ⟨fun h => by omega, fun h => absurd h hn⟩
  · rw [h]; exact ⟨fun _ => e ▸ List.getElem_mem hi, fun _ => by omega⟩
theorem at_map {v : Vl} {β : Type} {l : List (Str × β)} {g : Str × β → Vl} (h1 : v.names = l.map (·.1)) (h2 : v.vals = l.map g) (hn : (l.map (·.1)).Nodup) {f : Str × β} (hf : f ∈ l) : 0 ≤ idx f.1 v.names ∧ v.at_ f.1 = g f := by
  obtain ⟨i, hi, rfl⟩ := List.mem_iff_getElem.1 hf
  have e : idx (l[i]).1 v.names = i := by
    rw [h1]
    have := idx_at (l := l.map (·.1)) (i := i) (by simpa using hi) hn
    simpa using this
  refine ⟨by rw [e]; omega, ?_⟩
  unfold Vl.at_
  rw [e, h2]
  simp [hi]
theorem at_mem {v : Vl} {s : Str} (hl : v.names.length = v.vals.length) (h : 0 ≤ idx s v.names) : v.at_ s ∈ v.vals := by
  rcases idx_cases s v.names with ⟨e, _⟩ | ⟨i, hi, e, _⟩
  · omega
  · unfold Vl.at_
    rw [e]
    have : i < v.vals.length := by omega
    simp [this]
/-! ### Facts of right values -/
structure Rv (d : Nat) (v : Vl) : Prop where
  len : v.names.length = v.vals.length
  le : v.names.length ≤ 8
  asc : asc v.names = true
  all : ∀ x ∈ v.vals, rightVl d x = true
  k : v.kind = 0 ∨ v.kind = 1 ∨ v.kind = 2
  flat : v.kind ≠ 2 → v.names = [] ∧ v.vals = []
  n1 : v.kind = 1 → v.n = 0 ∨ v.n = 1
  n2 : v.kind = 2 → v.n = 0
theorem rv_iff {d : Nat} {v : Vl} : rightVl (d + 1) v = true ↔ Rv d v := by
  unfold rightVl
  constructor
  · intro h
    split at h
    · next hk =>
      simp only [Bool.and_eq_true, List.isEmpty_iff, Bool.or_eq_true, decide_eq_true_eq] at h
      obtain ⟨⟨h1, h2⟩, h3⟩ := h
      refine ⟨by rw [h1, h2]; rfl, by rw [h1]; exact Nat.zero_le _, by rw [h1]; rfl, fun x hx => (by rw [h2] at hx; cases hx), by omega, fun _ => ⟨h1, h2⟩, fun e => by omega, fun e => by omega⟩
    · next hk =>
      simp only [Bool.and_eq_true, decide_eq_true_eq, List.all_eq_true] at h
      obtain ⟨⟨⟨⟨⟨h1, h2⟩, h3⟩, h4⟩, h5⟩, h6⟩ := h
      exact ⟨h3, h4, h5, h6, Or.inr (Or.inr h1), fun e => absurd h1 e, fun e => by omega, fun _ => h2⟩
  · intro h
    split
    · next hk =>
      obtain ⟨h1, h2⟩ := h.flat (by omega)
      have := h.n1
      simp only [Bool.and_eq_true, List.isEmpty_iff, Bool.or_eq_true, decide_eq_true_eq]
      exact ⟨⟨h1, h2⟩, by rcases hk with hk | hk; exact Or.inl (Or.inl hk); rcases h.n1 hk with e | e; exact Or.inl (Or.inr e); exact Or.inr e⟩
    · next hk =>
      have h2 : v.kind = 2 := by have := h.k; omega
      simp only [Bool.and_eq_true, decide_eq_true_eq, List.all_eq_true]
      exact ⟨⟨⟨⟨⟨h2, h.n2 h2⟩, h.len⟩, h.le⟩, h.asc⟩, h.all⟩
structure Fit (d : Nat) (t : Ty) (v : Vl) : Prop where
  k : t.kind = v.kind
  i : ∀ f ∈ t.fs, 0 ≤ idx f.1 v.names
  s : ∀ f ∈ t.fs, fits d f.2 (v.at_ f.1) = true
theorem fit_iff {d : Nat} {t : Ty} {v : Vl} : fits (d + 1) t v = true ↔ Fit d t v := by
  unfold fits
  simp only [Bool.and_eq_true, decide_eq_true_eq, List.all_eq_true]
  exact ⟨fun h => ⟨h.1, fun f hf => (h.2 f hf).1, fun f hf => (h.2 f hf).2⟩, fun h => ⟨h.k, fun f hf => ⟨h.i f hf, h.s f hf⟩⟩⟩
structure Sb (d : Nat) (a b : Ty) : Prop where
  k : a.kind = b.kind
  s : ∀ f ∈ b.fs, ∃ t, lookup a.fs f.1 = some t ∧ sub d t f.2 = true
theorem sb_iff {d : Nat} {a b : Ty} : sub (d + 1) a b = true ↔ Sb d a b := by
  unfold sub
  simp only [Bool.and_eq_true, decide_eq_true_eq, List.all_eq_true]
  constructor
  · rintro ⟨h1, h2⟩
    refine ⟨h1, fun f hf => ?_⟩
    have := h2 f hf
    cases hl : lookup a.fs f.1 with
    | none => rw [hl] at this; cases this
    | some t => rw [hl] at this; exact ⟨t, rfl, this⟩
  · intro h
    refine ⟨h.k, fun f hf => ?_⟩
    obtain ⟨t, h1, h2⟩ := h.s f hf
    rw [h1]; exact h2
/-! ### Writing and reading -/
theorem textE_len (s : Str) (h : s.length ≤ 1000000) : (Wire.textE s).length ≤ s.length + 22 := by
  unfold Wire.textE
  have := Wire.itoa_le20 (v := s.length) (by omega) (by omega)
  simp only [List.length_append, List.length_cons, List.length_nil]
  omega
def W : Nat → Nat
  | 0 => 0
  | d + 1 => 44 + 8 * (64 + W d)
theorem flat_len {α : Type} {f : α → Str} {B : Nat} : ∀ {l : List α}, (∀ x ∈ l, (f x).length ≤ B) → (l.map f).flatten.length ≤ l.length * B := by
  intro l
  induction l with
  | nil => intro _; simp
  | cons a l ih =>
    intro h
    have h1 := h a (List.mem_cons_self ..)
    have h2 := ih (fun x hx => h x (List.mem_cons_of_mem _ hx))
    rw [List.map_cons, List.flatten_cons, List.length_append, List.length_cons, Nat.add_mul, Nat.one_mul]
    omega
theorem num_len {n : Int} (h : Wire.Int64 n) : (Wire.numE n).length ≤ 21 := by
  unfold Wire.numE Wire.intE
  have := Wire.itoa_le20 h.1 h.2
  split
  · simp
  · simp; omega
theorem int_len {n : Int} (h : Wire.Int64 n) : (Wire.intE n).length ≤ 21 := by
  unfold Wire.intE
  have := Wire.itoa_le20 h.1 h.2
  simp; omega
theorem W4 : W 4 ≤ 400000 := by decide
theorem W_mono {d e : Nat} (h : d ≤ e) : W d ≤ W e := by
  induction h with
  | refl => exact Nat.le_refl _
  | step _ ih =>
    refine Nat.le_trans ih ?_
    show W _ ≤ 44 + 8 * (64 + W _)
    omega
theorem okI_at {d : Nat} {v : Vl} (h : okI (d + 1) v) (s : Str) : okI d (v.at_ s) := by
  unfold Vl.at_
  rw [List.getD_eq_getElem?_getD]
  cases hc : v.vals[(idx s v.names).toNat]? with
  | none => exact okI_no d
  | some x => exact h.2 x (List.mem_of_getElem? hc)
theorem write_len : ∀ {d : Nat} {t : Ty} {v : Vl}, d ≤ 4 → rightTy d t = true → okI d v → (writeF d t v).length ≤ W d := by
  intro d
  induction d with
  | zero => intro t v _ _ _; exact Nat.zero_le _
  | succ d ih =>
    intro t v hd ht hv
    have hr := rt_iff.1 ht
    have hw : W d ≤ 400000 := Nat.le_trans (W_mono (show d ≤ 4 by omega)) W4
    have hk := num_len (n := t.kind) ⟨by have := hr.k0; omega, by have := hr.k3; omega⟩
    have hi := int_len hv.1
    have hn := num_len hv.1
    have hf : ((t.fs.map fun f => Wire.textE f.1 ++ Wire.textE (writeF d f.2 (v.at_ f.1))).flatten).length ≤ t.fs.length * (64 + W d) := flat_len (fun f hf => by
      have h1 := name_len (hr.name f hf)
      have h2 := ih (t := f.2) (v := v.at_ f.1) (by omega) (hr.sub f hf) (okI_at hv _)
      have h3 := textE_len f.1 (by omega)
      have h4 := textE_len (writeF d f.2 (v.at_ f.1)) (by omega)
      rw [List.length_append]; omega)
    have h8 : t.fs.length * (64 + W d) ≤ 8 * (64 + W d) := Nat.mul_le_mul_right _ hr.len
    show (Wire.numE t.kind ++ if t.kind = 0 then Wire.intE v.n else if t.kind = 1 then Wire.numE v.n else _).length ≤ 44 + 8 * (64 + W d)
    rw [List.length_append]
    split
    · omega
    · split
      · omega
      · omega
theorem ent_written : ∀ (F acc : List (Str × Str)), (∀ f ∈ F, f.1.length ≤ 1000000 ∧ f.2.length ≤ 1000000) → asc (F.map (·.1)) = true → (∀ z, acc.getLast? = some z → ∀ f ∈ F, lt z.1 f.1 = true) →
    entG acc (some ((F.map fun f => Wire.textE f.1 ++ Wire.textE f.2).flatten)) = some (acc ++ F) := by
  intro F
  induction F with
  | nil => intro acc _ _ _; rw [List.map_nil, List.flatten_nil, entG_end, List.append_nil]
  | cons f F ih =>
    intro acc hl ha hz
    obtain ⟨l1, l2⟩ := hl f (List.mem_cons_self ..)
    have e : ((f :: F).map fun f => Wire.textE f.1 ++ Wire.textE f.2).flatten = Wire.textE f.1 ++ (Wire.textE f.2 ++ (F.map fun f => Wire.textE f.1 ++ Wire.textE f.2).flatten) := by simp
    rw [e]
    have b1 := Wire.rText_back (s := f.1) (r := Wire.textE f.2 ++ (F.map fun f => Wire.textE f.1 ++ Wire.textE f.2).flatten) (by omega)
    have b2 := Wire.rText_back (s := f.2) (r := (F.map fun f => Wire.textE f.1 ++ Wire.textE f.2).flatten) (by omega)
    generalize hR : (F.map fun f => Wire.textE f.1 ++ Wire.textE f.2).flatten = R at *
    cases hX : Wire.textE f.1 ++ (Wire.textE f.2 ++ R) with
    | nil =>
      have := congrArg List.length hX
      simp [Wire.textE] at this
    | cons c r =>
      rw [hX] at b1
      rw [entG_step, b1]
      dsimp only
      rw [b2]
      dsimp only
      have hlow : lowE acc f.1 = false := by
        unfold lowE
        cases hg : acc.getLast? with
        | none => rfl
        | some z => show (!lt z.1 f.1) = false; rw [hz z hg f (List.mem_cons_self ..)]; rfl
      rw [hlow]
      simp only [Option.isNone_some, Bool.false_eq_true, if_false]
      rw [ih (acc ++ [(f.1, f.2)]) (fun x hx => hl x (List.mem_cons_of_mem _ hx)) (asc_tail ha) (fun z hg x hx => by
        rw [List.getLast?_append] at hg
        simp at hg
        subst hg
        exact asc_lt (by simpa using ha) x.1 (List.mem_map.2 ⟨x, hx, rfl⟩))]
      simp
theorem read_write : ∀ {d : Nat} {a b : Ty} {v : Vl}, d ≤ 4 → rightTy d a = true → rightTy d b = true → rightVl d v = true → fits d a v = true → okI d v → readF d b (writeF d a v) = if sub d a b = true then some (proj d b v) else none := by
  intro d
  induction d with
  | zero => intro a b v _ h; cases h
  | succ d ih =>
    intro a b v hd ha hb hv hf hi
    have ra := rt_iff.1 ha
    have rb := rt_iff.1 hb
    have rv := rv_iff.1 hv
    have ft := fit_iff.1 hf
    have hw : W d ≤ 400000 := Nat.le_trans (W_mono (show d ≤ 4 by omega)) W4
    have hread : ∀ X, Wire.rNum (some (Wire.numE a.kind ++ X)) = (a.kind, some X) := fun X => Wire.rNum_back ⟨by have := ra.k0; omega, by have := ra.k3; omega⟩ ra.k0
    rw [writeF.eq_2, readF.eq_2, hread]
    dsimp only
    simp only [Option.isNone_some, Bool.false_eq_true, false_or]
    by_cases hk : a.kind = b.kind
    rotate_left
    · rw [if_pos hk, if_neg (fun h => hk (sb_iff.1 h).k)]
    rw [if_neg (fun h => h hk)]
    by_cases h0 : b.kind = 0
    · rw [if_pos h0, if_pos (hk.trans h0)]
      have hbf := rb.rec_ (by omega)
      have := Wire.rInt_back (n := v.n) (r := []) hi.1
      rw [List.append_nil] at this
      rw [this]
      dsimp only
      rw [if_pos rfl, if_pos (sb_iff.2 ⟨hk, fun f hf => by rw [hbf] at hf; cases hf⟩)]
      congr 1
      refine Vl.ext h0.symm ?_ ?_ ?_
      · show v.n = if b.kind = 2 then 0 else v.n
        rw [if_neg (by omega)]
      · show [] = b.fs.map _; rw [hbf]; rfl
      · show [] = b.fs.map _; rw [hbf]; rfl
    rw [if_neg h0, if_neg (fun e => h0 (hk.symm.trans e))]
    by_cases h1 : b.kind = 1
    · rw [if_pos h1, if_pos (hk.trans h1)]
      have hbf := rb.rec_ (by omega)
      have hn := rv.n1 (by rw [← ft.k, hk, h1])
      have := Wire.rNum_back (n := v.n) (r := []) hi.1 (by omega)
      rw [List.append_nil] at this
      rw [this]
      dsimp only
      rw [if_pos ⟨rfl, by omega⟩, if_pos (sb_iff.2 ⟨hk, fun f hf => by rw [hbf] at hf; cases hf⟩)]
      congr 1
      refine Vl.ext h1.symm ?_ ?_ ?_
      · show v.n = if b.kind = 2 then 0 else v.n
        rw [if_neg (by omega)]
      · show [] = b.fs.map _; rw [hbf]; rfl
      · show [] = b.fs.map _; rw [hbf]; rfl
    rw [if_neg h1, if_neg (fun e => h1 (hk.symm.trans e))]
    have h2 : b.kind = 2 := by have := rb.k0; have := rb.k3; omega
    have nda := asc_nodup ra.asc
    -- the entries
    have hE : entG [] (some ((a.fs.map fun f => Wire.textE f.1 ++ Wire.textE (writeF d f.2 (v.at_ f.1))).flatten)) = some (a.fs.map fun f => (f.1, writeF d f.2 (v.at_ f.1))) := by
      have := ent_written (a.fs.map fun f => (f.1, writeF d f.2 (v.at_ f.1))) [] (fun f hf => by
        obtain ⟨g, hg, rfl⟩ := List.mem_map.1 hf
        have h1 := name_len (ra.name g hg)
        have h2 := write_len (t := g.2) (v := v.at_ g.1) (by omega) (ra.sub g hg) (okI_at hi _)
        exact ⟨by dsimp only; omega, by dsimp only; omega⟩) (by rw [List.map_map]; exact ra.asc) (fun z hz => by cases hz)
      rw [List.map_map, List.nil_append] at this
      exact this
    rw [hE]
    dsimp only
    have ndE : ((a.fs.map fun f => (f.1, writeF d f.2 (v.at_ f.1))).map (·.1)).Nodup := by rw [List.map_map]; exact nda
    -- each field of b
    have hfield : ∀ f ∈ b.fs, (lookup a.fs f.1 = none ∧ getE (a.fs.map fun f => (f.1, writeF d f.2 (v.at_ f.1))) f.1 = none) ∨ ∃ t, lookup a.fs f.1 = some t ∧ getE (a.fs.map fun f => (f.1, writeF d f.2 (v.at_ f.1))) f.1 = some (writeF d t (v.at_ f.1)) ∧
        readF d f.2 (writeF d t (v.at_ f.1)) = if sub d t f.2 = true then some (proj d f.2 (v.at_ f.1)) else none := fun f hf => by
      cases hl : lookup a.fs f.1 with
      | none =>
        refine Or.inl ⟨rfl, ?_⟩
        cases hg : getE (a.fs.map fun f => (f.1, writeF d f.2 (v.at_ f.1))) f.1 with
        | none => rfl
        | some x =>
          obtain ⟨g, hg1, hg2⟩ := List.mem_map.1 (getE_mem hg)
          exact absurd (Prod.ext_iff.1 hg2).1 (lookup_none hl g hg1)
      | some t =>
        have hm := lookup_mem hl
        refine Or.inr ⟨t, rfl, getE_some ndE (List.mem_map.2 ⟨_, hm, rfl⟩), ?_⟩
        have hix := ft.i _ hm
        exact ih (by omega) (ra.sub _ hm) (rb.sub _ hf) (rv.all _ (at_mem rv.len hix)) (ft.s _ hm) (okI_at hi _)
    have hall : (b.fs.all fun f => (getE (a.fs.map fun f => (f.1, writeF d f.2 (v.at_ f.1))) f.1).isSome && (readF d f.2 ((getE (a.fs.map fun f => (f.1, writeF d f.2 (v.at_ f.1))) f.1).getD [])).isSome) = sub (d + 1) a b := by
      unfold sub
      rw [decide_eq_true hk, Bool.true_and]
      rw [Bool.eq_iff_iff, List.all_eq_true, List.all_eq_true]
      refine forall_congr' fun f => forall_congr' fun hf => ?_
      rcases hfield f hf with ⟨h1, h2⟩ | ⟨t, h1, h2, h3⟩
      · rw [h1, h2]; simp
      · rw [h1, h2]
        simp only [Option.isSome_some, Bool.true_and, Option.getD_some]
        rw [h3]
        cases sub d t f.2 <;> simp
    rw [hall]
    cases hs : sub (d + 1) a b with
    | false => simp
    | true =>
      simp only [if_true]
      congr 1
      refine Vl.ext rfl ?_ rfl ?_
      · show (0 : Int) = if b.kind = 2 then 0 else v.n
        rw [if_pos h2]
      · show (b.fs.map _) = b.fs.map _
        refine List.map_congr_left fun f hf => ?_
        obtain ⟨t, ht1, ht2⟩ := (sb_iff.1 hs).s f hf
        rcases hfield f hf with ⟨h1, h2⟩ | ⟨t', h1, h2, h3⟩
        · rw [h1] at ht1; cases ht1
        · rw [h1] at ht1
          obtain rfl := Option.some.inj ht1
          rw [h2, Option.getD_some, h3, if_pos ht2]
          rfl
/-! ### Subtypes -/
/-! ### Zero values -/
theorem zero_ok : ∀ {d : Nat} {t : Ty}, rightTy d t = true → rightVl d (zero d t) = true ∧ fits d t (zero d t) = true ∧ okI d (zero d t) := by
  intro d
  induction d with
  | zero => intro t h; cases h
  | succ d ih =>
    intro t h
    have hr := rt_iff.1 h
    have hat : ∀ f ∈ t.fs, 0 ≤ idx f.1 (zero (d + 1) t).names ∧ (zero (d + 1) t).at_ f.1 = zero d f.2 := fun f hf => at_map (v := zero (d + 1) t) (g := fun f => zero d f.2) rfl rfl (asc_nodup hr.asc) hf
    refine ⟨rv_iff.2 ⟨?_, ?_, hr.asc, fun x hx => ?_, ?_, fun hk => ?_, fun _ => Or.inl rfl, fun _ => rfl⟩, fit_iff.2 ⟨rfl, fun f hf => (hat f hf).1, fun f hf => by rw [(hat f hf).2]; exact (ih (hr.sub f hf)).2.1⟩, ⟨⟨by show (-9223372036854775808 : Int) ≤ 0; decide, by show (0 : Int) ≤ 9223372036854775807; decide⟩, fun x hx => ?_⟩⟩
    · show (t.fs.map _).length = (t.fs.map _).length; simp
    · show (t.fs.map _).length ≤ 8; rw [List.length_map]; exact hr.len
    · obtain ⟨f, hf, rfl⟩ := List.mem_map.1 hx
      exact (ih (hr.sub f hf)).1
    · show t.kind = 0 ∨ t.kind = 1 ∨ t.kind = 2; have := hr.k0; have := hr.k3; omega
    · have := hr.rec_ hk
      exact ⟨by show t.fs.map _ = []; rw [this]; rfl, by show t.fs.map _ = []; rw [this]; rfl⟩
    · obtain ⟨f, hf, rfl⟩ := List.mem_map.1 hx
      exact (ih (hr.sub f hf)).2.2
/-! ### What is read -/
theorem read_ok : ∀ {d : Nat} {t : Ty} {s : Str} {w : Vl}, rightTy d t = true → readF d t s = some w → rightVl d w = true ∧ fits d t w = true ∧ okI d w ∧ exactP d t w := by
  intro d
  induction d with
  | zero => intro t s w h; cases h
  | succ d ih =>
    intro t s w ht h
    have hr := rt_iff.1 ht
    unfold readF at h
    dsimp only at h
    split at h
    · cases h
    split at h
    · next h0 =>
      split at h
      · obtain rfl := Option.some.inj h
        have hi := Wire.rNumber_i64 (Wire.rNum (some s)).2 59 (-9223372036854775808)
        have hfs := hr.rec_ (by omega)
        exact ⟨rv_iff.2 ⟨rfl, Nat.zero_le _, rfl, (fun x hx => by cases hx), Or.inl rfl, fun _ => ⟨rfl, rfl⟩, (fun e => absurd e (by show ¬ (0 : Int) = 1; decide)), (fun e => absurd e (by show ¬ (0 : Int) = 2; decide))⟩, fit_iff.2 ⟨h0, (fun f hf => by rw [hfs] at hf; cases hf), (fun f hf => by rw [hfs] at hf; cases hf)⟩, ⟨hi, (fun x hx => by cases hx)⟩, ⟨by rw [hfs]; rfl, by rw [hfs]; rfl, fun i hi => by rw [hfs] at hi; cases hi⟩⟩
      · cases h
    split at h
    · next h1 =>
      split at h
      · next hn =>
        obtain rfl := Option.some.inj h
        have hi := Wire.rNumber_i64 (Wire.rNum (some s)).2 59 0
        have hl := Wire.rNumber_least (Wire.rNum (some s)).2 59 0 (by decide)
        have hfs := hr.rec_ (by omega)
        have hn2 : (Wire.rNum (Wire.rNum (some s)).2).1 ≤ 1 := hn.2
        have hl2 : 0 ≤ (Wire.rNum (Wire.rNum (some s)).2).1 := hl
        exact ⟨rv_iff.2 ⟨rfl, Nat.zero_le _, rfl, (fun x hx => by cases hx), Or.inr (Or.inl rfl), fun _ => ⟨rfl, rfl⟩, (fun e => by show (Wire.rNum (Wire.rNum (some s)).2).1 = 0 ∨ (Wire.rNum (Wire.rNum (some s)).2).1 = 1; omega), (fun e => absurd e (by show ¬ (1 : Int) = 2; decide))⟩, fit_iff.2 ⟨h1, (fun f hf => by rw [hfs] at hf; cases hf), (fun f hf => by rw [hfs] at hf; cases hf)⟩, ⟨hi, (fun x hx => by cases hx)⟩, ⟨by rw [hfs]; rfl, by rw [hfs]; rfl, fun i hi => by rw [hfs] at hi; cases hi⟩⟩
      · cases h
    · next hk0 hk1 =>
      split at h
      · cases h
      · next l hl =>
        split at h
        · next hall =>
          obtain rfl := Option.some.inj h
          have h2 : t.kind = 2 := by have := hr.k0; have := hr.k3; omega
          rw [List.all_eq_true] at hall
          have hsub : ∀ f ∈ t.fs, ∃ x, readF d f.2 ((getE l f.1).getD []) = some x := fun f hf => by
            have := hall f hf
            rw [Bool.and_eq_true] at this
            exact Option.isSome_iff_exists.1 this.2
          have hg : ∀ f ∈ t.fs, rightVl d ((readF d f.2 ((getE l f.1).getD [])).getD noV) = true ∧ fits d f.2 ((readF d f.2 ((getE l f.1).getD [])).getD noV) = true ∧ okI d ((readF d f.2 ((getE l f.1).getD [])).getD noV) ∧ exactP d f.2 ((readF d f.2 ((getE l f.1).getD [])).getD noV) := fun f hf => by
            obtain ⟨x, hx⟩ := hsub f hf
            rw [hx]
            exact ih (hr.sub f hf) hx
          have hat : ∀ f ∈ t.fs, _ := fun f hf => at_map (v := .mk t.kind 0 (t.fs.map (·.1)) (t.fs.map fun f => (readF d f.2 ((getE l f.1).getD [])).getD noV)) (g := fun f => (readF d f.2 ((getE l f.1).getD [])).getD noV) rfl rfl (asc_nodup hr.asc) hf
          refine ⟨rv_iff.2 ⟨?_, ?_, hr.asc, fun x hx => ?_, Or.inr (Or.inr h2), fun hk => absurd h2 hk, fun _ => Or.inl rfl, fun _ => rfl⟩, fit_iff.2 ⟨rfl, fun f hf => (hat f hf).1, fun f hf => by rw [(hat f hf).2]; exact (hg f hf).2.1⟩, ⟨⟨by show (-9223372036854775808 : Int) ≤ 0; decide, by show (0 : Int) ≤ 9223372036854775807; decide⟩, fun x hx => ?_⟩, ⟨?_, ?_, fun i hi => ?_⟩⟩
          · show (t.fs.map _).length = (t.fs.map _).length; simp
          · show (t.fs.map _).length ≤ 8; rw [List.length_map]; exact hr.len
          · obtain ⟨f, hf, rfl⟩ := List.mem_map.1 hx
            exact (hg f hf).1
          · obtain ⟨f, hf, rfl⟩ := List.mem_map.1 hx
            exact (hg f hf).2.2.1
          · show (t.fs.map _).length = _; simp
          · show (t.fs.map _).length = _; simp
          · have e : (Vl.mk t.kind 0 (t.fs.map (·.1)) (t.fs.map fun f => (readF d f.2 ((getE l f.1).getD [])).getD noV)).vals.getD i noV = (readF d (t.fs[i]).2 ((getE l (t.fs[i]).1).getD [])).getD noV := by
              show (t.fs.map _).getD i noV = _
              simp [hi]
            rw [e]
            exact (hg _ (List.getElem_mem hi)).2.2.2
        · cases h
end Fm
end Go.Proofs.YthagiklfmkdmaaaGreatDoor
namespace Go.Proofs.YthagiklfmkdmaaaGreatDoor
open Go.RowKit
set_option linter.unusedVariables false
set_option linter.unusedSimpArgs false
attribute [local irreducible] Calls

/-- What the package-level variables of the library hold, as their initialisers lay them. -/
structure Gl (w : World) : Prop where
  big : nG ≤ w.heap.size
  tab : Lib.TabIs Tryz.prog w "internal/strconv.uint64pow10" .u64 Lib.pow10Tab
  syn : ∃ tp p, w.var? Tryz.prog "strconv.ErrSyntax" = some #[.iface tp p]
  rng : ∃ tp p, w.var? Tryz.prog "strconv.ErrRange" = some #[.iface tp p]
theorem gTab : Tryz.prog.globalNamed "internal/strconv.uint64pow10" = some 0 := by kernel_rfl
theorem gSyn : Tryz.prog.globalNamed "strconv.ErrSyntax" = some 2 := by kernel_rfl
theorem gRng : Tryz.prog.globalNamed "strconv.ErrRange" = some 3 := by kernel_rfl
theorem var_of_block {w w' : World} {name : String} {g : Nat} (hg : Tryz.prog.globalNamed name = some g) (h : w'.heap[g]? = w.heap[g]?) : w'.var? Tryz.prog name = w.var? Tryz.prog name := by
  simp only [World.var?, hg, Option.bind_some, h]
theorem Gl.upd {S : Nat → Prop} {w w' : World} (g : Gl w) (u : Upd S w w') : Gl w' := by
  have hb := g.big
  have h : ∀ k, k < nG → w'.heap[k]? = w.heap[k]? := fun k hk => u.block k (Nat.lt_of_lt_of_le hk hb) (Or.inl hk)
  refine ⟨Nat.le_trans hb u.size, ?_, ?_, ?_⟩
  · show w'.var? Tryz.prog _ = _
    rw [var_of_block gTab (h _ (by decide))]; exact g.tab
  · obtain ⟨tp, p, e⟩ := g.syn
    exact ⟨tp, p, by rw [var_of_block gSyn (h _ (by decide))]; exact e⟩
  · obtain ⟨tp, p, e⟩ := g.rng
    exact ⟨tp, p, by rw [var_of_block gRng (h _ (by decide))]; exact e⟩
theorem Gl.drew {w : World} (g : Gl w) : Gl w.drew := g.upd ((Upd.refl (fun _ => False) w).drew)
theorem Gl.drewN {w : World} (g : Gl w) (n : Nat) : Gl (w.drewN n) := g.upd ((Upd.refl (fun _ => False) w).drewN n)
theorem nw_grow (w : World) (k : Nat) (os : Array Obj) : Nw w (Go.Sort.grow (w.drewN k) os) := by
  refine ⟨rfl, rfl, rfl, by simp [Go.Sort.grow], fun i hi _ => ?_⟩
  show ((w.drewN k).heap ++ os)[i]? = _
  have : (w.drewN k).heap = w.heap := rfl
  rw [this, Array.getElem?_append_left hi]

/-- An int64. -/
def I64 (n : Int) : Prop := -9223372036854775808 ≤ n ∧ n ≤ 9223372036854775807
theorem itoa_le {n : Int} (h : I64 n) : (Lib.itoa n).length ≤ 21 := Lib.itoa_length_le n h.1 h.2

theorem Itoa_c (n : Int) (w : World) (g : Gl w) (h : I64 n) :
    Calls Tryz.prog 77 #[.int .i64 n] w fun e w' => e = .returned (.string ⟨(Lib.itoa n).toArray⟩) ∧ Nw w w' :=
  (Tryz.strconv_Itoa n h.1 h.2 w g.tab).mono fun e w' ⟨he, k, os, hw⟩ => ⟨he, hw ▸ nw_grow w k os⟩
theorem IndexByte_c (s : ByteArray) (c : Int) (w : World) :
    Calls Tryz.prog 158 #[.string s, .int .u8 c] w fun e w' => e = .returned (.int .i64 (Lib.indexByte s.data.toList c.toNat.toUInt8)) ∧ w = w' :=
  (Tryz.strings_IndexByte s c w).mono fun e w' ⟨he, hw⟩ => ⟨he, hw.symm⟩
theorem CutPrefix_c (s p : ByteArray) (w : World) :
    Calls Tryz.prog 181 #[.string s, .string p] w fun e w' => e = .returned (.tuple #[.string ⟨(Lib.trimPrefix s.data.toList p.data.toList).toArray⟩, .bool (Lib.hasPrefix s.data.toList p.data.toList)]) ∧ w = w' :=
  (Tryz.strings_CutPrefix s p w).mono fun e w' ⟨he, hw⟩ => ⟨he, hw.symm⟩
theorem size_freeze (w : World) (a : Addr) (n : Nat) : (w.freeze a n).heap.size = w.heap.size := by
  unfold World.freeze; split <;> simp
theorem heap_freeze (w : World) (a : Addr) (n k : Nat) (h : k ≠ a.block) : (w.freeze a n).heap[k]? = w.heap[k]? := by
  unfold World.freeze
  split
  · rfl
  · simp only [Array.getElem?_modify]; rw [if_neg (by omega)]
theorem os_freeze (w : World) (a : Addr) (n : Nat) : (w.freeze a n).os = w.os ∧ (w.freeze a n).tape = w.tape ∧ (w.freeze a n).output = w.output := by
  unfold World.freeze; split <;> exact ⟨rfl, rfl, rfl⟩
theorem nw_bytes (w : World) (t : ByteArray) : Nw w (Lib.bytesWorld w 5 t) := by
  simp only [Lib.bytesWorld]
  refine ⟨(os_freeze _ _ _).1, (os_freeze _ _ _).2.1, (os_freeze _ _ _).2.2, by rw [size_freeze]; simp, fun i hi _ => ?_⟩
  rw [heap_freeze _ _ _ _ (by show i ≠ w.heap.size; omega)]
  exact heap_alloc w.drew _ i hi
/-- The third way in which a number's reading ends. -/
theorem atoi_rest {x : Lib.NumEnd Int} (h1 : ∀ m, x ≠ .ok m) (h2 : x ≠ .range) : x = Lib.atoiAll [] := by
  cases x with
  | ok v => exact absurd rfl (h1 v)
  | range => exact absurd rfl h2
  | _ => rfl
/-- strconv.Atoi: the number and no error, or some number and an error. -/
theorem Atoi_c (s : ByteArray) (w : World) (g : Gl w) (hs : s.size ≤ 281474976710656) :
    Calls Tryz.prog 160 #[.string s] w fun e w' => ∃ n v, e = .returned (.tuple #[.int .i64 n, v]) ∧ I64 n ∧
      ((v = .nilIface ∧ Lib.atoiAll s.data.toList = .ok n) ∨ (∃ t p, v = .iface t p) ∧ ∀ m, Lib.atoiAll s.data.toList ≠ .ok m) ∧ Nw w w' := by
  by_cases hok : ∃ v, Lib.atoiAll s.data.toList = .ok v
  · obtain ⟨v, h⟩ := hok
    refine (Tryz.strconv_Atoi_ok s (by omega) v h w).mono ?_
    rintro e w' ⟨rfl, hw⟩
    refine ⟨v, _, rfl, ?_, Or.inl ⟨rfl, h⟩, ?_⟩
    · unfold Lib.atoiAll at h
      unfold I64
      split at h
      · cases h
      · dsimp only at h
        split at h
        · cases h
        · cases h
        · split at h
          · cases h
          · split at h
            · cases h
            · injection h with h
              split at h <;> omega
    · rcases hw with rfl | ⟨t, rfl⟩
      · exact Upd.refl _ _
      · exact nw_bytes w t
  · have hno : ∀ m, Lib.atoiAll s.data.toList ≠ .ok m := fun m hm => hok ⟨m, hm⟩
    by_cases hr : Lib.atoiAll s.data.toList = .range
    · obtain ⟨tp, p, hv⟩ := g.rng
      refine Calls.mono (show Calls Tryz.prog 160 #[.string s] w _ from Any.strconv_Atoi_range_var Tryz.laysC172 s hs hr tp p w hv) ?_
      rintro e w' ⟨N, rfl, _, _, hb⟩
      refine ⟨_, _, rfl, ?_, Or.inr ⟨⟨_, _, rfl⟩, hno⟩, Upd.of_below _ hb⟩
      unfold Lib.atoiSat I64
      split <;> omega
    · obtain ⟨tp, p, hv⟩ := g.syn
      refine Calls.mono (show Calls Tryz.prog 160 #[.string s] w _ from Any.strconv_Atoi_syntax_var Tryz.laysC172 s hs (atoi_rest hno hr) tp p w hv) ?_
      rintro e w' ⟨N, rfl, _, _, hb⟩
      exact ⟨0, _, rfl, by unfold I64; omega, Or.inr ⟨⟨_, _, rfl⟩, hno⟩, Upd.of_below _ hb⟩
theorem Atoi_l (s : ByteArray) (l : List UInt8) (hl : s.data.toList = l) (w : World) (g : Gl w) (hs : l.length ≤ 281474976710656) :
    Calls Tryz.prog 160 #[.string s] w fun e w' => ∃ n v, e = .returned (.tuple #[.int .i64 n, v]) ∧ I64 n ∧
      ((v = .nilIface ∧ Lib.atoiAll l = .ok n) ∨ (∃ t p, v = .iface t p) ∧ ∀ m, Lib.atoiAll l ≠ .ok m) ∧ Nw w w' := by
  subst hl
  exact Atoi_c s w g (by rw [bs_size]; exact hs)
theorem IndexByte_l (s : ByteArray) (c : UInt8) (l : List UInt8) (hs : s.data.toList = l) (w : World) :
    Calls Tryz.prog 158 #[.string s, .int .u8 c.toNat] w fun e w' => e = .returned (.int .i64 (Lib.indexByte l c)) ∧ w = w' := by
  have h := IndexByte_c s c.toNat w
  rwa [hs, show ((c.toNat : Int).toNat.toUInt8) = c by simp] at h
end Go.Proofs.YthagiklfmkdmaaaGreatDoor
namespace Go.Proofs.YthagiklfmkdmaaaGreatDoor
open Go.ChangeShapes Go.WideShapes Go.ChangeAt Go.RowKit Go.Joins
set_option linter.unusedVariables false
set_option linter.unusedSimpArgs false

/-- A slice whose elements have sz cells each; xs: the cells of each element. -/
def SlS (sz lo hi : Nat) (w : World) (v : Value) (xs : List (List Value)) : Prop :=
  (∃ a cap, v = .slice a 0 cap ∧ xs = []) ∨
  ∃ b off cap, v = .slice (some ⟨b, off, none⟩) xs.length cap ∧ xs.length ≤ cap ∧ cap ≤ maxLen ∧ lo ≤ b ∧ b < hi ∧ b < w.heap.size ∧
    ∀ i (h : i < xs.length), xs[i].length = sz ∧ ∀ j, j < sz → w.cell? ⟨b, off + i * sz + j, none⟩ = xs[i][j]?
theorem SlS.upd {sz lo hi : Nat} {S : Nat → Prop} {w w' : World} {v : Value} {xs : List (List Value)} (h : SlS sz lo hi w v xs) (u : Upd S w w') (hs : ∀ k, lo ≤ k → k < hi → ¬ S k) : SlS sz lo hi w' v xs := by
  rcases h with h | ⟨b, off, cap, h1, h2, h3, h4, h5, h6, h7⟩
  · exact Or.inl h
  · refine Or.inr ⟨b, off, cap, h1, h2, h3, h4, h5, Nat.lt_of_lt_of_le h6 u.size, fun i hi' => ⟨(h7 i hi').1, fun j hj => ?_⟩⟩
    rw [← (h7 i hi').2 j hj]
    exact World.cell?_of_block (u.block b h6 (Or.inr (hs b h4 h5)))
theorem SlS.nw {sz lo hi : Nat} {w w' : World} {v : Value} {xs : List (List Value)} (h : SlS sz lo hi w v xs) (u : Nw w w') : SlS sz lo hi w' v xs := h.upd u (fun _ _ _ s => s)
theorem SlS.len {sz lo hi : Nat} {w : World} {v : Value} {xs : List (List Value)} (h : SlS sz lo hi w v xs) : xs.length ≤ maxLen := by
  rcases h with ⟨_, _, _, rfl⟩ | ⟨b, off, cap, h1, h2, h3, h4, h5, h6, h7⟩
  · exact Nat.zero_le _
  · exact Nat.le_trans h2 h3
theorem SlS.open_ {sz lo hi : Nat} {w : World} {v : Value} {xs : List (List Value)} (h : SlS sz lo hi w v xs) :
    ∃ a cap, v = .slice a xs.length cap ∧ xs.length ≤ maxLen ∧ (xs = [] ∨ ∃ b off, a = some ⟨b, off, none⟩ ∧ lo ≤ b ∧ b < hi ∧ b < w.heap.size ∧
      ∀ i (h : i < xs.length), xs[i].length = sz ∧ ∀ j, j < sz → w.cell? ⟨b, off + i * sz + j, none⟩ = xs[i][j]?) := by
  have hl := h.len
  rcases h with ⟨a, cap, rfl, rfl⟩ | ⟨b, off, cap, h1, h2, h3, h4, h5, h6, h7⟩
  · exact ⟨a, cap, rfl, hl, Or.inl rfl⟩
  · exact ⟨some ⟨b, off, none⟩, cap, h1, hl, Or.inr ⟨b, off, rfl, h4, h5, h6, h7⟩⟩

theorem cells?_spec {w : World} {base : Nat} {a : Addr} {n : Nat} {cs : List Value} (h : w.cells? base a n = some cs) : cs.length = n ∧ ∀ j, j < n → w.cell? (a.add j) = cs[j]? := by
  unfold World.cells? at h
  split at h
  · refine ⟨by have := Lib.mapM_length h; simpa using this, fun j hj => ?_⟩
    obtain ⟨b, hb, hf⟩ := Lib.mapM_at h j j (by simp [hj])
    rw [hf, hb]
  · cases h

section
variable {H : Type} {enc : TypeId × Value → H} {w : World} {base : Nat} {sp : Nat → Bool} {held : Bool} {n : Nat} {x : DataW H × List MemPlace}

theorem trod_int_cell {P : Program} {t : TypeId} {k : IntKind} {cs : List Value} (ht : P.underlying t = some (.int k)) (h : DataW.trod enc P w base sp held n t cs = some x) : ∃ m : Int, cs = [.int k m] ∧ (Lit.int k m).wf = true := by
  obtain ⟨m, h1, _, h2⟩ := DataW.trod_int ht h
  exact ⟨m, h1, h2⟩
theorem trod_str_cell {P : Program} {t : TypeId} {cs : List Value} (ht : P.underlying t = some .string) (h : DataW.trod enc P w base sp held n t cs = some x) : ∃ l : List UInt8, cs = [.string ⟨l.toArray⟩] ∧ l.length ≤ maxLen := by
  obtain ⟨s, h1, _, h2⟩ := DataW.trod_string ht h
  exact ⟨s.data.toList, by rw [bs_eta]; exact h1, by rw [← bs_size]; exact h2⟩
theorem i64_of_wf {m : Int} (h : (Lit.int .i64 m).wf = true) : I64 m := by
  have := h
  simp [Lit.wf, IntKind.min, IntKind.max, IntKind.signed, IntKind.bits] at this
  unfold I64; omega
/-- A slice whose elements read somehow. -/
theorem trod_slice_cells {P : Program} {t e : TypeId} {sz : Nat} {cs : List Value} (ht : P.underlying t = some (.slice e)) (hc : P.cellsOf e = sz) (hsz : 0 < sz) (h : DataW.trod enc P w base sp held n t cs = some x) :
    ∃ v xs, cs = [v] ∧ SlS sz 0 w.heap.size w v xs ∧ ∀ c ∈ xs, ∃ m y, DataW.trod enc P w base sp held m e c = some y := by
  rcases DataW.trod_slice ht h with ⟨h0, _⟩ | ⟨a, len, cap, elems, rest, m, _, rfl, rfl, hb, hl, hm, hlen, hel, _, _⟩
  · exact ⟨_, [], h0, Or.inl ⟨none, 0, rfl, rfl⟩, fun c hc => by cases hc⟩
  · have hel' : ∀ i, i < len → ∃ c y, w.cells? base (a.add (i * sz)) sz = some c ∧ DataW.trod enc P w base sp held m e c = some y := fun i hi => by
      have := hel i hi
      rw [hc] at this
      have hy : ∃ y, elems[i]? = some y := ⟨elems[i], by rw [List.getElem?_eq_getElem (by omega)]⟩
      obtain ⟨y, hy⟩ := hy
      rw [hy] at this
      obtain ⟨c, h1, h2⟩ := Option.bind_eq_some_iff.1 this
      exact ⟨c, y, h1, h2⟩
    by_cases h0 : len = 0
    · subst h0
      exact ⟨_, [], rfl, Or.inl ⟨some a, cap, rfl, rfl⟩, fun c hc => by cases hc⟩
    · obtain ⟨C, hC⟩ : ∃ C : Nat → List Value, ∀ i, i < len → w.cells? base (a.add (i * sz)) sz = some (C i) ∧ ∃ y, DataW.trod enc P w base sp held m e (C i) = some y := by
        refine ⟨fun i => if hi : i < len then (hel' i hi).choose else [], fun i hi => ?_⟩
        simp only [dif_pos hi]
        obtain ⟨y, h1, h2⟩ := (hel' i hi).choose_spec
        exact ⟨h1, y, h2⟩
      obtain ⟨hz, hcell⟩ := cells?_spec (hC 0 (by omega)).1
      have hc0 : ∃ u, w.cell? ((a.add (0 * sz)).add 0) = some u := by
        have := hcell 0 hsz
        rw [List.getElem?_eq_getElem (by omega)] at this
        exact ⟨_, this⟩
      obtain ⟨u, hu⟩ := hc0
      have hz0 : (a.add (0 * sz)).add 0 = a := by simp [Addr.add]
      rw [hz0] at hu
      obtain ⟨b, off, spot⟩ := a
      have hspot : spot = none := World.cell?_spot hu
      subst hspot
      have hbl := World.block_lt_of_cell? w _ hu
      refine ⟨_, (List.range len).map C, rfl, Or.inr ⟨b, off, cap, by simp, by simpa using hl, hm, Nat.zero_le _, hbl, hbl, fun i hi => ?_⟩, fun c hc => ?_⟩
      · have hi' : i < len := by simpa using hi
        obtain ⟨h1, h2⟩ := cells?_spec (hC i hi').1
        simp only [List.getElem_map, List.getElem_range]
        refine ⟨h1, fun j hj => ?_⟩
        rw [← h2 j hj, add_plain, add_plain]
      · obtain ⟨i, hi, rfl⟩ := List.mem_map.1 hc
        obtain ⟨y, hy⟩ := (hC i (List.mem_range.1 hi)).2
        exact ⟨m, y, hy⟩
/-- .. where an element has one cell, and reads as the value f of something. -/
theorem sl_of_sls {α : Type} {lo hi : Nat} {v : Value} {xs : List (List Value)} (h : SlS 1 lo hi w v xs) (f : α → Value) (Q : α → Prop) (hx : ∀ c ∈ xs, ∃ y, c = [f y] ∧ Q y) : ∃ l : List α, Sl lo hi w v (l.map f) ∧ ∀ y ∈ l, Q y := by
  obtain ⟨l, hl, hq⟩ : ∃ l : List α, xs = l.map (fun y => [f y]) ∧ ∀ y ∈ l, Q y := by
    clear h
    induction xs with
    | nil => exact ⟨[], rfl, fun y hy => by cases hy⟩
    | cons c xs ih =>
      obtain ⟨l, h1, h2⟩ := ih (fun c hc => hx c (List.mem_cons_of_mem _ hc))
      obtain ⟨y, h3, h4⟩ := hx c (List.mem_cons_self ..)
      exact ⟨y :: l, by rw [h1, h3]; rfl, fun z hz => by rcases List.mem_cons.1 hz with rfl | hz; exact h4; exact h2 z hz⟩
  refine ⟨l, ?_, hq⟩
  subst hl
  rcases h with ⟨a, cap, h1, h2⟩ | ⟨b, off, cap, h1, h2, h3, h4, h5, h6, h7⟩
  · exact Or.inl ⟨a, cap, h1, by rw [List.map_eq_nil_iff] at h2; rw [h2]; rfl⟩
  · refine Or.inr ⟨b, off, cap, by simpa using h1, by simpa using h2, h3, h4, h5, h6, fun i hi => ?_⟩
    have hi' : i < l.length := by simpa using hi
    have := (h7 i (by simpa using hi')).2 0 (by omega)
    simp only [Nat.mul_one, Nat.add_zero, List.getElem_map, List.getElem?_cons_zero] at this
    rw [this]
    simp [hi']
theorem trod_strs_cell {P : Program} {t e : TypeId} {cs : List Value} (ht : P.underlying t = some (.slice e)) (he : P.underlying e = some .string) (hc : P.cellsOf e = 1) (h : DataW.trod enc P w base sp held n t cs = some x) :
    ∃ (v : Value) (l : List (List UInt8)), cs = [v] ∧ Sl 0 w.heap.size w v (l.map fun s => Value.string ⟨s.toArray⟩) ∧ ∀ s ∈ l, s.length ≤ maxLen := by
  obtain ⟨v, xs, h1, h2, h3⟩ := trod_slice_cells ht hc (by omega) h
  obtain ⟨l, h4, h5⟩ := sl_of_sls h2 (fun s : List UInt8 => Value.string ⟨s.toArray⟩) (fun s => s.length ≤ maxLen) (fun c hc => by
    obtain ⟨m, y, hy⟩ := h3 c hc
    exact trod_str_cell he hy)
  exact ⟨v, l, h1, h4, h5⟩
end
end Go.Proofs.YthagiklfmkdmaaaGreatDoor
namespace Go.Proofs.YthagiklfmkdmaaaGreatDoor
open Go.RowKit
set_option linter.unusedVariables false
set_option linter.unusedSimpArgs false

theorem flat_at {α : Type} {sz : Nat} : ∀ (xs : List (List α)) (i j : Nat), (∀ x ∈ xs, x.length = sz) → j < sz → ∀ h : i < xs.length, xs.flatten[i * sz + j]? = xs[i][j]? := by
  intro xs
  induction xs with
  | nil => intro i j _ _ h; simp at h
  | cons x xs ih =>
    intro i j hx hj h
    have h0 := hx x (List.mem_cons_self ..)
    rw [List.flatten_cons]
    cases i with
    | zero => rw [List.getElem?_append_left (by omega)]; simp
    | succ i =>
      rw [List.getElem?_append_right (by rw [h0, Nat.succ_mul]; omega), h0, show (i + 1) * sz + j - sz = i * sz + j by rw [Nat.succ_mul]; omega]
      rw [ih i j (fun y hy => hx y (List.mem_cons_of_mem _ hy)) hj (by simpa using h)]
      simp
theorem SlS.of_owns {base sz : Nat} {e : TypeId} {w : World} {v : Value} {n : Nat} {xs : List (List Value)} (h : w.ownsRow base e sz v n xs.flatten) (hn : n = xs.length) (hz : 0 < sz) (hx : ∀ x ∈ xs, x.length = sz) : SlS sz base w.heap.size w v xs := by
  obtain ⟨h1, h2⟩ := h
  rcases h2 with ⟨rfl, rfl⟩ | ⟨g, cap, cur, rfl, hb, hg, hc, hm, hs, ht⟩
  · exact Or.inl ⟨_, _, rfl, List.length_eq_zero_iff.1 hn.symm⟩
  · subst hn
    refine Or.inr ⟨g, 0, cap, rfl, hc, hm, hb, lt_of_block hg, lt_of_block hg, fun i hi => ⟨hx _ (List.getElem_mem hi), fun j hj => ?_⟩⟩
    rw [cells_cell hg, Nat.zero_add, ← flat_at xs i j hx hj hi, ← ht, List.getElem?_take, if_pos]
    · simp
    · have : (i + 1) * sz ≤ xs.length * sz := Nat.mul_le_mul_right _ hi
      rw [Nat.succ_mul] at this; omega
end Go.Proofs.YthagiklfmkdmaaaGreatDoor
namespace Go.Proofs.YthagiklfmkdmaaaGreatDoor
open Go.RowKit
set_option linter.unusedVariables false
set_option linter.unusedSimpArgs false

/-- 'out = append(out, x)' as wpList_app, with the word on the result's block. -/
theorem wpList_appL {P : Program} {w : World} {ops : Array Oper} {rest : List Oper} {o : Oper} {a : Act} {Q : Exit → Act → World → Prop} (hgd : o.guard = none) (s x : Operand) (t : TypeId)
    (ho : o.op = .call { callee := .builtin .append, args := #[s, x], argTypes := #[t, t] })
    (base : Nat) (e : TypeId) (z : Value) (size bytes : Nat) (ht : P.underlying t = some (.slice e)) (hinfo : (P.info? e).map (fun i => (i.zero, i.size, i.bytes)) = some (some z, size, bytes)) (hzs : z.cells.size = size) (hsz : 0 < size)
    (v : Value) (n : Nat) (xs : List Value) (hs : a.eval s = v) (hown : w.ownsRow base e size v n xs)
    (news : List Value) (hx : a.eval x = .slice (some ⟨w.heap.size, 0, none⟩) 1 1) (hl : news.length = size) (h1 : ∀ u ∈ news, u.oneCell' = true)
    (h63 : n + 1 ≤ maxLen) (hbytes : (n + 1) * bytes ≤ 140737488355328) (hbase : base ≤ w.heap.size) (hnG : nG ≤ base)
    (h : ∀ v' w', w'.ownsRow base e size v' (n + 1) (xs ++ news) → Upd (fun k => v.ownBlock = some k) w w' → (∀ k, v'.ownBlock = some k → v.ownBlock = some k ∨ w.heap.size ≤ k) → wpList P ops Q rest (a.put o.dst v') w') : wpList P ops Q (o :: rest) a (w.alloc (.cells news.toArray e)) := by
  obtain ⟨i0, hi, hz0, hz1, hz2⟩ := info_parts hinfo
  refine wpList_append_lies _ hgd s x t ho base e i0 z size bytes ht hi hz0 hz1 hz2 hzs hsz v n xs hs (hown.alloc _) ⟨w.heap.size, 0, none⟩ 1 1 news hx (by omega) ?_ h1 (by omega) h63 hbytes (by simp; omega) (w.heap.size + 1) (by simp) fun g cap w' h2 h3 h4 h5 => ?_
  · intro j u hu
    have hb := heap_new w (.cells news.toArray e)
    rw [add_plain, cells_cell hb, Nat.zero_add]
    simpa using hu
  · refine h _ w' h2 (((nw_alloc w _).upd _).grown h3 fun k hk => ⟨Or.inl hk, ?_⟩) fun k hk => ?_
    · have := (hown.lt k hk).1
      omega
    · obtain rfl : g = k := by simpa [Value.ownBlock] using hk
      rcases h4 with h4 | h4
      · exact Or.inl h4
      · exact Or.inr (by omega)
end Go.Proofs.YthagiklfmkdmaaaGreatDoor
namespace Go.Proofs.YthagiklfmkdmaaaGreatDoor
open Go.ChangeShapes Go.WideShapes Go.ChangeAt Go.RowKit Go.Joins
set_option linter.unusedVariables false
set_option linter.unusedSimpArgs false

open Fm (Ty Vl Str)
abbrev tTy : TypeId := 24
abbrev tFd : TypeId := 75
abbrev tVl : TypeId := 28
def sF (s : Str) : Value := .string ⟨s.toArray⟩
/-- A slice of fields reads as those of a type. -/
inductive TyAt (w : World) : Value → Ty → Prop
  | mk {fv : Value} {k : Int} (lo hi : Nat) (C : List (Str × Value × Ty)) (hs : SlS 3 lo hi w fv (C.map fun c => [sF c.1, .int .i64 c.2.2.kind, c.2.1])) (hk : I64 k) (hl : ∀ c ∈ C, c.1.length ≤ maxLen) (hc : ∀ c ∈ C, TyAt w c.2.1 c.2.2) : TyAt w fv (.mk k (C.map fun c => (c.1, c.2.2)))
theorem TyAt.nw {w w' : World} {fv : Value} {t : Ty} (h : TyAt w fv t) (u : Nw w w') : TyAt w' fv t := by
  induction h with
  | mk lo hi C hs hk hl hc ih => exact .mk lo hi C (hs.nw u) hk hl ih
theorem TyAt.kind {w : World} {fv : Value} {t : Ty} (h : TyAt w fv t) : I64 t.kind := by cases h with | mk lo hi C hs hk hl hc => exact hk
theorem TyAt.open_ {w : World} {fv : Value} {t : Ty} (h : TyAt w fv t) : ∃ (lo hi : Nat) (C : List (Str × Value × Ty)), t.fs = (C.map fun c => (c.1, c.2.2)) ∧ SlS 3 lo hi w fv (C.map fun c => [sF c.1, .int .i64 c.2.2.kind, c.2.1]) ∧ (∀ c ∈ C, c.1.length ≤ maxLen) ∧ ∀ c ∈ C, TyAt w c.2.1 c.2.2 := by
  cases h with | mk lo hi C hs hk hl hc => exact ⟨lo, hi, C, rfl, hs, hl, hc⟩
theorem TyAt.cells {w : World} {fv : Value} {t : Ty} (h : TyAt w fv t) :
    ∃ a cap, fv = .slice a t.fs.length cap ∧ t.fs.length ≤ maxLen ∧ (t.fs = [] ∨ ∃ b off, a = some ⟨b, off, none⟩ ∧ b < w.heap.size ∧ ∀ i (h : i < t.fs.length), ∃ sv, w.cell? ⟨b, off + i * 3, none⟩ = some (.string ⟨(t.fs[i]).1.toArray⟩) ∧ w.cell? ⟨b, off + i * 3 + 1, none⟩ = some (.int .i64 (t.fs[i]).2.kind) ∧ w.cell? ⟨b, off + i * 3 + 2, none⟩ = some sv ∧ TyAt w sv (t.fs[i]).2 ∧ (t.fs[i]).1.length ≤ maxLen) := by
  obtain ⟨lo, hi, C, e, hs, hl, hc⟩ := h.open_
  rw [e]
  obtain ⟨a, cap, rfl, hm, h⟩ := hs.open_
  rw [List.length_map] at hm
  refine ⟨a, cap, by rw [List.length_map, List.length_map], by rw [List.length_map]; exact hm, ?_⟩
  rcases h with h | ⟨b, off, rfl, _, hb1, hb, hcl⟩
  · exact Or.inl (by rw [List.map_eq_nil_iff.1 h]; rfl)
  · refine Or.inr ⟨b, off, rfl, hb, fun i hi => ?_⟩
    rw [List.length_map] at hi
    have h2 := (hcl i (by simpa using hi)).2
    simp only [List.getElem_map] at h2 ⊢
    have hm := List.getElem_mem hi
    refine ⟨C[i].2.1, ?_, ?_, ?_, hc _ hm, hl _ hm⟩
    · exact h2 0 (by omega)
    · exact h2 1 (by omega)
    · exact h2 2 (by omega)
/-! ### Values -/
def SlP (P : Nat → Prop) (w : World) (v : Value) (xs : List Value) : Prop := (∃ a cap, v = .slice a 0 cap ∧ xs = []) ∨ ∃ b, P b ∧ Sl b (b + 1) w v xs
def SlSP (P : Nat → Prop) (sz : Nat) (w : World) (v : Value) (xs : List (List Value)) : Prop := (∃ a cap, v = .slice a 0 cap ∧ xs = []) ∨ ∃ b, P b ∧ SlS sz b (b + 1) w v xs
section
variable {P Q S : Nat → Prop} {w w' : World} {v : Value}
theorem SlP.upd {xs : List Value} (h : SlP P w v xs) (u : Upd S w w') (hs : ∀ k, P k → ¬ S k) : SlP P w' v xs :=
  h.imp id (fun ⟨b, hb, hl⟩ => ⟨b, hb, hl.upd u (fun k h1 h2 => (show k = b by omega) ▸ hs _ hb)⟩)
theorem SlSP.upd {sz : Nat} {xs : List (List Value)} (h : SlSP P sz w v xs) (u : Upd S w w') (hs : ∀ k, P k → ¬ S k) : SlSP P sz w' v xs :=
  h.imp id (fun ⟨b, hb, hl⟩ => ⟨b, hb, hl.upd u (fun k h1 h2 => (show k = b by omega) ▸ hs _ hb)⟩)
theorem SlP.mono {xs : List Value} (h : SlP P w v xs) (hs : ∀ k, k < w.heap.size → P k → Q k) : SlP Q w v xs := by
  rcases h with h | ⟨b, hb, hl⟩
  · exact Or.inl h
  · rcases hl with h | ⟨b', off, cap, h1, h2, h3, h4, h5, h6, h7⟩
    · exact Or.inl h
    · obtain rfl : b' = b := by omega
      exact Or.inr ⟨b', hs _ h6 hb, Or.inr ⟨b', off, cap, h1, h2, h3, h4, h5, h6, h7⟩⟩
theorem SlSP.mono {sz : Nat} {xs : List (List Value)} (h : SlSP P sz w v xs) (hs : ∀ k, k < w.heap.size → P k → Q k) : SlSP Q sz w v xs := by
  rcases h with h | ⟨b, hb, hl⟩
  · exact Or.inl h
  · rcases hl with h | ⟨b', off, cap, h1, h2, h3, h4, h5, h6, h7⟩
    · exact Or.inl h
    · obtain rfl : b' = b := by omega
      exact Or.inr ⟨b', hs _ h6 hb, Or.inr ⟨b', off, cap, h1, h2, h3, h4, h5, h6, h7⟩⟩
theorem SlP.of_sl {lo hi : Nat} {xs : List Value} (h : Sl lo hi w v xs) (hs : ∀ k, lo ≤ k → k < hi → k < w.heap.size → P k) : SlP P w v xs := by
  rcases h with h | ⟨b, off, cap, h1, h2, h3, h4, h5, h6, h7⟩
  · exact Or.inl h
  · exact Or.inr ⟨b, hs b h4 h5 h6, Or.inr ⟨b, off, cap, h1, h2, h3, Nat.le_refl _, Nat.lt_succ_self _, h6, h7⟩⟩
theorem SlSP.of_sls {sz lo hi : Nat} {xs : List (List Value)} (h : SlS sz lo hi w v xs) (hs : ∀ k, lo ≤ k → k < hi → k < w.heap.size → P k) : SlSP P sz w v xs := by
  rcases h with h | ⟨b, off, cap, h1, h2, h3, h4, h5, h6, h7⟩
  · exact Or.inl h
  · exact Or.inr ⟨b, hs b h4 h5 h6, Or.inr ⟨b, off, cap, h1, h2, h3, Nat.le_refl _, Nat.lt_succ_self _, h6, h7⟩⟩
theorem SlP.sl {xs : List Value} (h : SlP P w v xs) : ∃ lo hi, Sl lo hi w v xs := by
  rcases h with h | ⟨b, _, h⟩
  · exact ⟨0, 0, Or.inl h⟩
  · exact ⟨_, _, h⟩
theorem SlSP.sls {sz : Nat} {xs : List (List Value)} (h : SlSP P sz w v xs) : ∃ lo hi, SlS sz lo hi w v xs := by
  rcases h with h | ⟨b, _, h⟩
  · exact ⟨0, 0, Or.inl h⟩
  · exact ⟨_, _, h⟩
end
structure VC where
  nv : Value
  vv : Value
  v : Vl
def vcL (c : VC) : List Value := [.int .i64 c.v.kind, .int .i64 c.v.n, c.nv, c.vv]
/-- The slices of names and values read as those of a value; all of it lies in blocks that P holds of. -/
inductive VlAt (P : Nat → Prop) (w : World) : Value → Value → Vl → Prop
  | mk {nv vv : Value} {k n : Int} (N : List Str) (C : List VC) (hn : SlP P w nv (N.map sF)) (hs : SlSP P 4 w vv (C.map vcL)) (hk : I64 k) (hi : I64 n) (hl : ∀ s ∈ N, s.length ≤ maxLen) (hc : ∀ c ∈ C, VlAt P w c.nv c.vv c.v) : VlAt P w nv vv (.mk k n N (C.map VC.v))
section
variable {P Q S : Nat → Prop} {w w' : World} {nv vv : Value} {v : Vl}
theorem VlAt.upd (h : VlAt P w nv vv v) (u : Upd S w w') (hs : ∀ k, P k → ¬ S k) : VlAt P w' nv vv v := by
  induction h with
  | mk N C hn h2 hk hi hl hc ih => exact .mk N C (hn.upd u hs) (h2.upd u hs) hk hi hl ih
theorem VlAt.nw (h : VlAt P w nv vv v) (u : Nw w w') : VlAt P w' nv vv v := h.upd u (fun _ _ s => s)
theorem VlAt.mono (h : VlAt P w nv vv v) (hs : ∀ k, k < w.heap.size → P k → Q k) : VlAt Q w nv vv v := by
  induction h with
  | mk N C hn h2 hk hi hl hc ih => exact .mk N C (hn.mono hs) (h2.mono hs) hk hi hl ih
theorem VlAt.kind (h : VlAt P w nv vv v) : I64 v.kind := by cases h with | mk N C hn h2 hk hi hl hc => exact hk
theorem VlAt.num (h : VlAt P w nv vv v) : I64 v.n := by cases h with | mk N C hn h2 hk hi hl hc => exact hi
theorem VlAt.okI (h : VlAt P w nv vv v) : ∀ d, Fm.okI d v := by
  induction h with
  | mk N C hn h2 hk hi hl hc ih =>
    intro d
    cases d with
    | zero => trivial
    | succ d => exact ⟨hi, fun x hx => by
        obtain ⟨c, hc, rfl⟩ := List.mem_map.1 hx
        exact ih c hc d⟩
theorem VlAt.open_ (h : VlAt P w nv vv v) : ∃ C : List VC, v.vals = C.map VC.v ∧ SlP P w nv (v.names.map sF) ∧ SlSP P 4 w vv (C.map vcL) ∧ (∀ s ∈ v.names, s.length ≤ maxLen) ∧ ∀ c ∈ C, VlAt P w c.nv c.vv c.v := by
  cases h with | mk N C hn h2 hk hi hl hc => exact ⟨C, rfl, hn, h2, hl, hc⟩
theorem VlAt.names (h : VlAt P w nv vv v) : ∃ a cap, nv = .slice a v.names.length cap ∧ v.names.length ≤ maxLen ∧ (v.names = [] ∨ ∃ b off, a = some ⟨b, off, none⟩ ∧ b < w.heap.size ∧ ∀ i (h : i < v.names.length), w.cell? ⟨b, off + i, none⟩ = some (.string ⟨(v.names[i]).toArray⟩) ∧ (v.names[i]).length ≤ maxLen) := by
  obtain ⟨C, e, hn, h2, hl, hc⟩ := h.open_
  obtain ⟨lo, hi', hs⟩ := hn.sl
  obtain ⟨a, cap, rfl, hm, h⟩ := hs.open_
  rw [List.length_map] at hm
  refine ⟨a, cap, by rw [List.length_map], hm, ?_⟩
  rcases h with ⟨_, _, h⟩ | ⟨b, off, rfl, _, hb1, hb, hcl⟩
  · exact Or.inl (List.map_eq_nil_iff.1 h)
  · refine Or.inr ⟨b, off, rfl, hb, fun i hi => ⟨?_, hl _ (List.getElem_mem hi)⟩⟩
    rw [hcl i (by simpa using hi), List.getElem?_map, List.getElem?_eq_getElem hi]
    rfl
theorem VlAt.vals (h : VlAt P w nv vv v) : ∃ a cap, vv = .slice a v.vals.length cap ∧ v.vals.length ≤ maxLen ∧ (v.vals = [] ∨ ∃ b off, a = some ⟨b, off, none⟩ ∧ b < w.heap.size ∧ ∀ i (h : i < v.vals.length), ∃ nv' vv', w.cell? ⟨b, off + i * 4, none⟩ = some (.int .i64 (v.vals[i]).kind) ∧ w.cell? ⟨b, off + i * 4 + 1, none⟩ = some (.int .i64 (v.vals[i]).n) ∧ w.cell? ⟨b, off + i * 4 + 2, none⟩ = some nv' ∧ w.cell? ⟨b, off + i * 4 + 3, none⟩ = some vv' ∧ VlAt P w nv' vv' (v.vals[i])) := by
  obtain ⟨C, e, hn, h2, hl, hc⟩ := h.open_
  rw [e]
  obtain ⟨lo, hi', hs⟩ := h2.sls
  obtain ⟨a, cap, rfl, hm, h⟩ := hs.open_
  rw [List.length_map] at hm
  refine ⟨a, cap, by rw [List.length_map, List.length_map], by rw [List.length_map]; exact hm, ?_⟩
  rcases h with h | ⟨b, off, rfl, _, hb1, hb, hcl⟩
  · exact Or.inl (by rw [List.map_eq_nil_iff.1 h]; rfl)
  · refine Or.inr ⟨b, off, rfl, hb, fun i hi => ?_⟩
    rw [List.length_map] at hi
    have h2 := (hcl i (by simpa using hi)).2
    simp only [List.getElem_map] at h2 ⊢
    have hm := List.getElem_mem hi
    refine ⟨C[i].nv, C[i].vv, ?_, ?_, ?_, ?_, hc _ hm⟩
    · exact h2 0 (by omega)
    · exact h2 1 (by omega)
    · exact h2 2 (by omega)
    · exact h2 3 (by omega)
theorem VlAt.nil (P : Nat → Prop) (w : World) {k n : Int} (hk : I64 k) (hn : I64 n) : VlAt P w (.slice none 0 0) (.slice none 0 0) (.mk k n [] []) :=
  .mk [] [] (Or.inl ⟨_, _, rfl, rfl⟩) (Or.inl ⟨_, _, rfl, rfl⟩) hk hn (fun s hs => by cases hs) (fun s hs => by cases hs)
/-- Another kind, or number. -/
theorem VlAt.head {k' n' : Int} (h : VlAt P w nv vv v) (hk : I64 k') (hn : I64 n') : VlAt P w nv vv (.mk k' n' v.names v.vals) := by
  cases h with | mk N C h1 h2 _ _ hl hc => exact .mk N C h1 h2 hk hn hl hc
end
/-! ### Among the arguments -/
section
variable {H : Type} {enc : TypeId × Value → H} {w : World} {base : Nat} {sp : Nat → Bool} {held : Bool} {n : Nat} {x : DataW H × List MemPlace}
theorem trod_slice_fuel {P : Program} {t e : TypeId} {sz : Nat} {cs : List Value} (ht : P.underlying t = some (.slice e)) (hc : P.cellsOf e = sz) (hsz : 0 < sz) (h : DataW.trod enc P w base sp held n t cs = some x) :
    ∃ v xs, cs = [v] ∧ SlS sz 0 w.heap.size w v xs ∧ ∀ c ∈ xs, ∃ m y, m < n ∧ DataW.trod enc P w base sp held m e c = some y := by
  rcases DataW.trod_slice ht h with ⟨h0, _⟩ | ⟨a, len, cap, elems, rest, m, hfuel, rfl, rfl, hb, hl, hm, hlen, hel, _, _⟩
  · exact ⟨_, [], h0, Or.inl ⟨none, 0, rfl, rfl⟩, fun c hc => by cases hc⟩
  · have hel' : ∀ i, i < len → ∃ c y, w.cells? base (a.add (i * sz)) sz = some c ∧ DataW.trod enc P w base sp held m e c = some y := fun i hi => by
      have := hel i hi
      rw [hc] at this
      have hy : ∃ y, elems[i]? = some y := ⟨elems[i], by rw [List.getElem?_eq_getElem (by omega)]⟩
      obtain ⟨y, hy⟩ := hy
      rw [hy] at this
      obtain ⟨c, h1, h2⟩ := Option.bind_eq_some_iff.1 this
      exact ⟨c, y, h1, h2⟩
    by_cases h0 : len = 0
    · subst h0
      exact ⟨_, [], rfl, Or.inl ⟨some a, cap, rfl, rfl⟩, fun c hc => by cases hc⟩
    · obtain ⟨C, hC⟩ : ∃ C : Nat → List Value, ∀ i, i < len → w.cells? base (a.add (i * sz)) sz = some (C i) ∧ ∃ y, DataW.trod enc P w base sp held m e (C i) = some y := by
        refine ⟨fun i => if hi : i < len then (hel' i hi).choose else [], fun i hi => ?_⟩
        simp only [dif_pos hi]
        obtain ⟨y, h1, h2⟩ := (hel' i hi).choose_spec
        exact ⟨h1, y, h2⟩
      obtain ⟨hz, hcell⟩ := cells?_spec (hC 0 (by omega)).1
      have hc0 : ∃ u, w.cell? ((a.add (0 * sz)).add 0) = some u := by
        have := hcell 0 hsz
        rw [List.getElem?_eq_getElem (by omega)] at this
        exact ⟨_, this⟩
      obtain ⟨u, hu⟩ := hc0
      have hz0 : (a.add (0 * sz)).add 0 = a := by simp [Addr.add]
      rw [hz0] at hu
      obtain ⟨b, off, spot⟩ := a
      have hspot : spot = none := World.cell?_spot hu
      subst hspot
      have hbl := World.block_lt_of_cell? w _ hu
      refine ⟨_, (List.range len).map C, rfl, Or.inr ⟨b, off, cap, by simp, by simpa using hl, hm, Nat.zero_le _, hbl, hbl, fun i hi => ?_⟩, fun c hc => ?_⟩
      · have hi' : i < len := by simpa using hi
        obtain ⟨h1, h2⟩ := cells?_spec (hC i hi').1
        simp only [List.getElem_map, List.getElem_range]
        refine ⟨h1, fun j hj => ?_⟩
        rw [← h2 j hj, add_plain, add_plain]
      · obtain ⟨i, hi, rfl⟩ := List.mem_map.1 hc
        obtain ⟨y, hy⟩ := (hC i (List.mem_range.1 hi)).2
        exact ⟨m, y, by omega, hy⟩
theorem list_of_relT {α : Type} {f : α → List Value} {Q : α → Prop} : ∀ (xs : List (List Value)), (∀ c ∈ xs, ∃ y, c = f y ∧ Q y) → ∃ l : List α, xs = l.map f ∧ ∀ y ∈ l, Q y := by
  intro xs
  induction xs with
  | nil => exact fun _ => ⟨[], rfl, fun y hy => by cases hy⟩
  | cons c xs ih =>
    intro h
    obtain ⟨l, h1, h2⟩ := ih (fun c hc => h c (List.mem_cons_of_mem _ hc))
    obtain ⟨y, h3, h4⟩ := h c (List.mem_cons_self ..)
    exact ⟨y :: l, by rw [h1, h3]; rfl, fun z hz => by rcases List.mem_cons.1 hz with rfl | hz; exact h4; exact h2 z hz⟩
set_option maxRecDepth 100000 in
theorem trod_ty : ∀ (n : Nat) {cs : List Value} {x : DataW H × List MemPlace}, DataW.trod enc Tryz.prog w base sp held n tTy cs = some x → ∃ (fv : Value) (t : Ty), cs = [.int .i64 t.kind, fv] ∧ TyAt w fv t := by
  intro n
  induction n using Nat.strongRecOn with
  | ind n ih =>
    intro cs x h
    obtain ⟨xs, m, hm, rfl, hl, hlen, hf⟩ := DataW.trod_struct Tryz.underlying24 h
    have hc : Tryz.prog.cellsOf 24 = 2 := by kernel_rfl
    rw [hc] at hl
    match cs, hl with
    | [c0, c1], _ =>
      match xs, hlen with
      | [y0, y1], _ =>
        have k0 : DataW.trod enc Tryz.prog w base sp held m 3 [c0] = some y0 := hf 0 _ rfl
        have k1 : DataW.trod enc Tryz.prog w base sp held m 22 [c1] = some y1 := hf 1 _ rfl
        obtain ⟨z0, e0, w0⟩ := trod_int_cell Tryz.underlying3 k0
        obtain ⟨v, ys, e1, h2, h3⟩ := trod_slice_fuel Tryz.underlying22 (sz := 3) (by kernel_rfl) (by omega) k1
        simp only [List.cons.injEq, and_true] at e0 e1
        subst e0 e1
        obtain ⟨C, rfl, h5⟩ := list_of_relT (f := fun c : Str × Value × Ty => [sF c.1, .int .i64 c.2.2.kind, c.2.1]) (Q := fun c : Str × Value × Ty => c.1.length ≤ maxLen ∧ TyAt w c.2.1 c.2.2) ys (fun c hc => by
          obtain ⟨m2, y, hm2, hy⟩ := h3 c hc
          obtain ⟨xs2, m3, hm3, rfl, hl2, hlen2, hf2⟩ := DataW.trod_struct Tryz.underlying75 hy
          have hc2 : Tryz.prog.cellsOf 75 = 3 := by kernel_rfl
          rw [hc2] at hl2
          match c, hl2 with
          | [d0, d1, d2], _ =>
            match xs2, hlen2 with
            | [q0, q1], _ =>
              have r0 : DataW.trod enc Tryz.prog w base sp held m3 9 [d0] = some q0 := hf2 0 _ rfl
              have r1 : DataW.trod enc Tryz.prog w base sp held m3 24 [d1, d2] = some q1 := hf2 1 _ rfl
              obtain ⟨s, es, ls⟩ := trod_str_cell Tryz.underlying9 r0
              obtain ⟨fv, t, et, ht⟩ := ih m3 (by omega) r1
              simp only [List.cons.injEq, and_true] at es et
              obtain ⟨et1, et2⟩ := et
              subst es et1 et2
              exact ⟨(s, _, t), rfl, ls, ht⟩)
        exact ⟨_, .mk z0 (C.map fun c => (c.1, c.2.2)), rfl, .mk _ _ C h2 (i64_of_wf w0) (fun c hc => (h5 c hc).1) (fun c hc => (h5 c hc).2)⟩
set_option maxRecDepth 100000 in
theorem trod_vl : ∀ (n : Nat) {cs : List Value} {x : DataW H × List MemPlace}, DataW.trod enc Tryz.prog w base sp held n tVl cs = some x → ∃ (nv vv : Value) (v : Vl), cs = [.int .i64 v.kind, .int .i64 v.n, nv, vv] ∧ VlAt (fun k => k < w.heap.size) w nv vv v := by
  intro n
  induction n using Nat.strongRecOn with
  | ind n ih =>
    intro cs x h
    obtain ⟨xs, m, hm, rfl, hl, hlen, hf⟩ := DataW.trod_struct Tryz.underlying28 h
    have hc : Tryz.prog.cellsOf 28 = 4 := by kernel_rfl
    rw [hc] at hl
    match cs, hl with
    | [c0, c1, c2, c3], _ =>
      match xs, hlen with
      | [y0, y1, y2, y3], _ =>
        have k0 : DataW.trod enc Tryz.prog w base sp held m 3 [c0] = some y0 := hf 0 _ rfl
        have k1 : DataW.trod enc Tryz.prog w base sp held m 3 [c1] = some y1 := hf 1 _ rfl
        have k2 : DataW.trod enc Tryz.prog w base sp held m 25 [c2] = some y2 := hf 2 _ rfl
        have k3 : DataW.trod enc Tryz.prog w base sp held m 26 [c3] = some y3 := hf 3 _ rfl
        obtain ⟨z0, e0, w0⟩ := trod_int_cell Tryz.underlying3 k0
        obtain ⟨z1, e1, w1⟩ := trod_int_cell Tryz.underlying3 k1
        obtain ⟨nv, N, e2, s2, l2⟩ := trod_strs_cell Tryz.underlying25 Tryz.underlying9 (by kernel_rfl) k2
        obtain ⟨v, ys, e3, h2, h3⟩ := trod_slice_fuel Tryz.underlying26 (sz := 4) (by kernel_rfl) (by omega) k3
        simp only [List.cons.injEq, and_true] at e0 e1 e2 e3
        subst e0 e1 e2 e3
        obtain ⟨C, rfl, h5⟩ := list_of_relT (f := vcL) (Q := fun c : VC => VlAt (fun k => k < w.heap.size) w c.nv c.vv c.v) ys (fun c hc => by
          obtain ⟨m2, y, hm2, hy⟩ := h3 c hc
          obtain ⟨nv', vv', v', ev, hv⟩ := ih m2 (by omega) hy
          exact ⟨⟨nv', vv', v'⟩, ev, hv⟩)
        exact ⟨_, _, .mk z0 z1 N (C.map VC.v), rfl, .mk N C (SlP.of_sl s2 (fun k _ h _ => h)) (SlSP.of_sls h2 (fun k _ h _ => h)) (i64_of_wf w0) (i64_of_wf w1) l2 h5⟩
end
end Go.Proofs.YthagiklfmkdmaaaGreatDoor
namespace Go.Proofs.YthagiklfmkdmaaaGreatDoor
open Go.RowKit
set_option linter.unusedVariables false
set_option linter.unusedSimpArgs false
attribute [local irreducible] Calls
open Fm (Ty Vl Str nameB wordB letterB digitB)

/-- The library's variables as laid, and one of its numbers, whatever it is. -/
structure Gm (w : World) : Prop where
  g : Gl w
  m : ∃ m : Int, w.cell? ⟨1, 0, none⟩ = some (.int .i64 m)
theorem Gm.upd {w w' : World} (h : Gm w) (u : Nw w w') : Gm w' := by
  obtain ⟨m, hm⟩ := h.m
  exact ⟨h.g.upd u, m, later_cell ⟨w', u⟩ hm⟩
theorem letter_c (c : UInt8) (w : World) : Calls Tryz.prog 165 #[.int .u8 c.toNat] w fun e w' => e = .returned (.bool (letterB c)) ∧ w = w' := by
  have h1 : (c.toNat : Int) ≤ 255 := by have := c.toNat_lt; omega
  have h2 : (0 : Int) ≤ c.toNat := by omega
  have hr : Hid (letterB c = (decide (97 ≤ c.toNat) && decide (c.toNat ≤ 122))) := rfl
  by_cases ha : 97 ≤ c.toNat
  · have d1 : decide ((97 : Int) ≤ (c.toNat : Int)) = true := decide_eq_true (by omega)
    by_cases hb : c.toNat ≤ 122
    · have d2 : decide ((c.toNat : Int) ≤ 122) = true := decide_eq_true (by omega)
      have e : Hid (letterB c = true) := by show _ = _; rw [hr.out, decide_eq_true ha, decide_eq_true hb]; rfl
      clear ha hb hr
      go_enter Tryz.func165, Tryz.ntmps165
      go_wp2_with fail
      go_ret
      exact ⟨by rw [e.out]; rfl, rfl⟩
    · have d2 : decide ((c.toNat : Int) ≤ 122) = false := decide_eq_false (by omega)
      have e : Hid (letterB c = false) := by show _ = _; rw [hr.out, decide_eq_true ha, decide_eq_false hb]; rfl
      clear ha hb hr
      go_enter Tryz.func165, Tryz.ntmps165
      go_wp2_with fail
      go_ret
      exact ⟨by rw [e.out]; rfl, rfl⟩
  · have d1 : decide ((97 : Int) ≤ (c.toNat : Int)) = false := decide_eq_false (by omega)
    have e : Hid (letterB c = false) := by show _ = _; rw [hr.out, decide_eq_false ha]; rfl
    clear ha hr
    go_enter Tryz.func165, Tryz.ntmps165
    go_wp2_with fail
    go_ret
    exact ⟨by rw [e.out]; rfl, rfl⟩
theorem digit_c (c : UInt8) (w : World) : Calls Tryz.prog 168 #[.int .u8 c.toNat] w fun e w' => e = .returned (.bool (digitB c)) ∧ w = w' := by
  have h1 : (c.toNat : Int) ≤ 255 := by have := c.toNat_lt; omega
  have h2 : (0 : Int) ≤ c.toNat := by omega
  have hr : Hid (digitB c = (decide (48 ≤ c.toNat) && decide (c.toNat ≤ 57))) := rfl
  by_cases ha : 48 ≤ c.toNat
  · have d1 : decide ((48 : Int) ≤ (c.toNat : Int)) = true := decide_eq_true (by omega)
    by_cases hb : c.toNat ≤ 57
    · have d2 : decide ((c.toNat : Int) ≤ 57) = true := decide_eq_true (by omega)
      have e : Hid (digitB c = true) := by show _ = _; rw [hr.out, decide_eq_true ha, decide_eq_true hb]; rfl
      clear ha hb hr
      go_enter Tryz.func168, Tryz.ntmps168
      go_wp2_with fail
      go_ret
      exact ⟨by rw [e.out]; rfl, rfl⟩
    · have d2 : decide ((c.toNat : Int) ≤ 57) = false := decide_eq_false (by omega)
      have e : Hid (digitB c = false) := by show _ = _; rw [hr.out, decide_eq_true ha, decide_eq_false hb]; rfl
      clear ha hb hr
      go_enter Tryz.func168, Tryz.ntmps168
      go_wp2_with fail
      go_ret
      exact ⟨by rw [e.out]; rfl, rfl⟩
  · have d1 : decide ((48 : Int) ≤ (c.toNat : Int)) = false := decide_eq_false (by omega)
    have e : Hid (digitB c = false) := by show _ = _; rw [hr.out, decide_eq_false ha]; rfl
    clear ha hr
    go_enter Tryz.func168, Tryz.ntmps168
    go_wp2_with fail
    go_ret
    exact ⟨by rw [e.out]; rfl, rfl⟩
theorem wordf_c (c : UInt8) (w : World) : Calls Tryz.prog 167 #[.int .u8 c.toNat] w fun e w' => e = .returned (.bool (letterB c || digitB c)) ∧ w = w' := by
  have hl := Lib.hid (letter_c c w)
  have hd := Lib.hid (digit_c c w)
  cases h1 : letterB c with
  | true =>
    rw [h1] at hl
    clear h1
    go_enter Tryz.func167, Tryz.ntmps167
    go_wp2_with fail
    (with_reducible refine (hl.out).mono ?_)
    rintro _ _ ⟨rfl, rfl⟩
    go_wp2_with fail
    go_ret
    exact ⟨rfl, rfl⟩
  | false =>
    rw [h1] at hl
    clear h1
    go_enter Tryz.func167, Tryz.ntmps167
    go_wp2_with fail
    (with_reducible refine (hl.out).mono ?_)
    rintro _ _ ⟨rfl, rfl⟩
    go_wp2_with fail
    (with_reducible refine (hd.out).mono ?_)
    rintro _ _ ⟨rfl, rfl⟩
    go_wp2_with fail
    go_ret
    exact ⟨rfl, rfl⟩
theorem tw_all {p : UInt8 → Bool} : ∀ {s : Str}, (∀ x ∈ s, p x = true) → s.takeWhile p = s := by
  intro s
  induction s with
  | nil => intro _; rfl
  | cons a s ih =>
    intro h
    rw [List.takeWhile_cons, h a (List.mem_cons_self ..)]
    simp [ih (fun x hx => h x (List.mem_cons_of_mem _ hx))]
theorem tw_mem {p : UInt8 → Bool} : ∀ {s : Str}, ∀ x ∈ s.takeWhile p, p x = true := by
  intro s
  induction s with
  | nil => intro x hx; cases hx
  | cons a s ih =>
    intro x hx
    rw [List.takeWhile_cons] at hx
    split at hx
    · next h =>
      rcases List.mem_cons.1 hx with rfl | hx
      · exact h
      · exact ih x hx
    · cases hx
/-- How many bytes at the beginning meet a test. -/
def spanN (p : UInt8 → Bool) (s : Str) : Nat := (s.takeWhile p).length
theorem span_at {p : UInt8 → Bool} {s : Str} {n : Nat} (hn : n < s.length) (ha : ∀ j (h : j < s.length), j < n → p s[j] = true) (hp : p s[n] = false) : spanN p s = n := by
  unfold spanN
  have e : s = s.take n ++ s[n] :: s.drop (n + 1) := by rw [List.getElem_cons_drop, List.take_append_drop]
  have h1 : ∀ x ∈ s.take n, p x = true := fun x hx => by
    obtain ⟨j, hj, rfl⟩ := List.mem_iff_getElem.1 hx
    rw [List.length_take] at hj
    rw [List.getElem_take]
    exact ha j (by omega) (by omega)
  rw [e, List.takeWhile_append_of_pos h1, List.takeWhile_cons, hp]
  simp
  omega
theorem span_all {p : UInt8 → Bool} {s : Str} (ha : ∀ j (h : j < s.length), p s[j] = true) : spanN p s = s.length := by
  unfold spanN
  rw [tw_all (fun x hx => by obtain ⟨j, hj, rfl⟩ := List.mem_iff_getElem.1 hx; exact ha j hj)]
theorem span_eq {p : UInt8 → Bool} {s : Str} : decide (spanN p s = s.length) = s.all p := by
  unfold spanN
  rw [Bool.eq_iff_iff, decide_eq_true_iff, List.all_eq_true]
  constructor
  · intro h x hx
    have := (List.takeWhile_sublist p).eq_of_length h
    rw [← this] at hx
    exact tw_mem x hx
  · intro h
    rw [tw_all h]
set_option maxRecDepth 100000 in
theorem span_c (s : Str) (hs : s.length ≤ 1000000) (w : World) : Calls Tryz.prog 166 #[.string ⟨s.toArray⟩, .func (.func 167) #[] #[]] w fun e w' => e = .returned (.int .i64 (spanN (fun c => letterB c || digitB c) s)) ∧ w = w' := by
  have hs1 : (s.length : Int) ≤ 1000000 := by omega
  go_enter Tryz.func166, Tryz.ntmps166
  go_wp2_with fail
  go_loopw [5] (fun i wr => ∃ n : Nat, n ≤ s.length ∧ i = .int .i64 (n : Int) ∧ Hid (∀ j (h : j < s.length), j < n → (letterB s[j] || digitB s[j]) = true) ∧ w = wr) (fun i _ => s.length - (intOf i).toNat)
  case atStart => exact ⟨0, Nat.zero_le _, rfl, fun j _ h => absurd h (Nat.not_lt_zero _), rfl⟩
  case round =>
    obtain ⟨n, hn, rfl, HA, rfl⟩ := hrel
    by_cases hlt : n < s.length
    · have hlt1 : (n : Int) < s.length := by omega
      have hsz : n < (⟨s.toArray⟩ : ByteArray).size := by show n < s.toArray.size; simp; exact hlt
      have hf := Lib.hid (wordf_c ((⟨s.toArray⟩ : ByteArray)[n]'hsz) w)
      cases hb : (letterB s[n] || digitB s[n]) with
      | true =>
        have hz : Hid (∀ j (h : j < s.length), j < n + 1 → (letterB s[j] || digitB s[j]) = true) := fun j h hj => by
          by_cases ej : j = n
          · subst ej; exact hb
          · exact HA.out j h (by omega)
        have hb2 : (letterB ((⟨s.toArray⟩ : ByteArray)[n]'hsz) || digitB ((⟨s.toArray⟩ : ByteArray)[n]'hsz)) = true := hb
        rw [hb2] at hf
        clear hb hb2
        go_wp2_with fail
        (with_reducible refine (hf.out).mono ?_)
        rintro _ _ ⟨rfl, rfl⟩
        go_wp2_with fail
        go_roundw
        case rel => exact ⟨n + 1, by omega, by go_num, hz.out, by first | rfl | trivial⟩
        case measure => simp [intOf]; omega
      | false =>
        have hz : Hid (spanN (fun c => letterB c || digitB c) s = n) := span_at hlt HA.out hb
        have hb2 : (letterB ((⟨s.toArray⟩ : ByteArray)[n]'hsz) || digitB ((⟨s.toArray⟩ : ByteArray)[n]'hsz)) = false := hb
        rw [hb2] at hf
        clear hb hb2
        go_wp2_with fail
        (with_reducible refine (hf.out).mono ?_)
        rintro _ _ ⟨rfl, rfl⟩
        go_wp2_with fail
        go_ret
        exact ⟨by rw [hz.out]; rfl, rfl⟩
    · obtain rfl : n = s.length := by omega
      have hz : Hid (spanN (fun c => letterB c || digitB c) s = s.length) := span_all (fun j h => HA.out j h h)
      go_wp2_with fail
      go_ret
      exact ⟨by rw [hz.out]; rfl, rfl⟩
set_option maxRecDepth 100000 in
theorem Word_c (s : Str) (hs : s.length ≤ maxLen) (w : World) : Calls Tryz.prog 140 #[.string ⟨s.toArray⟩] w fun e w' => e = .returned (.bool (wordB s)) ∧ w = w' := by
  cases s with
  | nil =>
    have e : Hid (wordB [] = false) := rfl
    go_enter Tryz.func140, Tryz.ntmps140
    go_wp2_with fail
    go_ret
    exact ⟨rfl, rfl⟩
  | cons c r =>
    have hsz : 0 < (⟨(c :: r).toArray⟩ : ByteArray).size := by show 0 < (c :: r).toArray.size; simp
    have hf := Lib.hid (letter_c ((⟨(c :: r).toArray⟩ : ByteArray)[0]'hsz) w)
    have hsp : (c :: r).length ≤ 20 → Hid (Calls Tryz.prog 166 #[.string ⟨(c :: r).toArray⟩, .func (.func 167) #[] #[]] w fun e w' => e = .returned (.int .i64 (spanN (fun c => letterB c || digitB c) (c :: r))) ∧ w = w') := fun h => span_c (c :: r) (by omega) w
    have hbs : (⟨(c :: r).toArray⟩ : ByteArray).isEmpty = false := rfl
    have hdef : wordB (c :: r) = (letterB c && decide ((c :: r).length ≤ 20) && (c :: r).all (fun c => letterB c || digitB c)) := rfl
    rw [← span_eq] at hdef
    have HD := Lib.hid hdef
    have e0 : ((c :: r : Str) == []) = false := rfl
    have e2 : ((c :: r : Str).isEmpty) = false := rfl
    unfold maxLen at hs
    have hs1 : ((c :: r).length : Int) ≤ 9223372036854775807 := by omega
    clear hdef
    cases h1 : letterB c with
    | false =>
      have h1' : letterB ((⟨(c :: r).toArray⟩ : ByteArray)[0]'hsz) = false := h1
      rw [h1'] at hf
      have e : Hid (wordB (c :: r) = false) := by show _ = _; rw [HD.out, h1]; rfl
      clear h1 h1' HD hsp
      generalize hX : (c :: r : Str) = X at *
      go_enter Tryz.func140, Tryz.ntmps140
      go_wp2_with fail
      (with_reducible refine (hf.out).mono ?_)
      rintro _ _ ⟨rfl, rfl⟩
      go_wp2_with fail
      go_ret
      exact ⟨by rw [e.out]; rfl, rfl⟩
    | true =>
      have h1' : letterB ((⟨(c :: r).toArray⟩ : ByteArray)[0]'hsz) = true := h1
      rw [h1'] at hf
      by_cases h2 : (c :: r).length ≤ 20
      · have d2 : decide ((20 : Int) < ((c :: r).length : Nat)) = false := decide_eq_false (by omega)
        have hs2 := hsp h2
        have e : Hid (wordB (c :: r) = decide (spanN (fun c => letterB c || digitB c) (c :: r) = (c :: r).length)) := by show _ = _; rw [HD.out, h1, decide_eq_true h2]; rfl
        clear h1 h1' HD hsp
        generalize hX : (c :: r : Str) = X at *
        generalize hsn : spanN (fun c => letterB c || digitB c) X = sn at *
        have e3 : ((sn : Int) == (X.length : Int)) = decide (sn = X.length) := by rw [Bool.eq_iff_iff]; simp; omega
        go_enter Tryz.func140, Tryz.ntmps140
        go_wp2_with fail
        (with_reducible refine (hf.out).mono ?_)
        rintro _ _ ⟨rfl, rfl⟩
        go_wp2_with fail
        (with_reducible refine (hs2.out).mono ?_)
        rintro _ _ ⟨rfl, rfl⟩
        go_wp2_with fail
        go_ret
        exact ⟨by rw [e.out]; first | rfl | (rw [← e3]; rfl), rfl⟩
      · have d2 : decide ((20 : Int) < ((c :: r).length : Nat)) = true := decide_eq_true (by omega)
        have e : Hid (wordB (c :: r) = false) := by show _ = _; rw [HD.out, h1, decide_eq_false h2]; rfl
        clear h1 h1' HD hsp h2
        generalize hX : (c :: r : Str) = X at *
        go_enter Tryz.func140, Tryz.ntmps140
        go_wp2_with fail
        (with_reducible refine (hf.out).mono ?_)
        rintro _ _ ⟨rfl, rfl⟩
        go_wp2_with fail
        go_ret
        exact ⟨by rw [e.out]; rfl, rfl⟩
set_option maxRecDepth 100000 in
theorem Name_c (s : Str) (hs : s.length ≤ maxLen) (w : World) (g : Gm w) : Calls Tryz.prog 113 #[.string ⟨s.toArray⟩] w fun e w' => e = .returned (.bool (nameB s)) ∧ Nw w w' := by
  obtain ⟨m, hm⟩ := g.m
  have hw := Lib.hid (Word_c s hs w)
  have hdef : nameB s = (wordB s && !Lib.contains Fm.reservedL ([32] ++ s ++ [32])) := rfl
  have HD := Lib.hid hdef
  have hcon : Hid (Calls Tryz.prog 141 #[.string ⟨#[32, 97, 110, 100, 32, 98, 97, 99, 107, 32, 98, 111, 111, 108, 32, 99, 108, 111, 99, 107, 32, 101, 108, 115, 101, 32, 102, 97, 108, 115, 101, 32, 102, 105, 108, 101, 115, 32, 102, 110, 32, 102, 111, 114, 119, 97, 114, 100, 32, 103, 101, 116, 32, 105, 102, 32, 105, 110, 32, 105, 110, 116, 32, 108, 101, 116, 32, 109, 111, 100, 117, 108, 101, 32, 109, 111, 118, 101, 32, 110, 101, 116, 32, 110, 111, 116, 32, 111, 114, 32, 112, 117, 98, 32, 115, 101, 99, 114, 101, 116, 115, 32, 115, 101, 116, 32, 116, 104, 101, 110, 32, 116, 114, 117, 101, 32, 117, 115, 101, 32, 118, 97, 114, 32]⟩, .string ({ data := #[32] } ++ { data := List.toArray s } ++ { data := #[32] })] w fun e w' => e = .returned (.bool (Lib.contains Fm.reservedL ([32] ++ s ++ [32]))) ∧ w' = w) := by
    have := Tryz.strings_Contains ⟨Fm.reservedL.toArray⟩ ({ data := #[32] } ++ { data := List.toArray s } ++ { data := #[32] }) m w (by decide) hm
    have e : (({ data := #[32] } ++ { data := List.toArray s } ++ { data := #[32] } : ByteArray)).data.toList = [32] ++ s ++ [32] := by simp
    rw [e] at this
    exact this
  clear hdef g
  cases h1 : wordB s with
  | false =>
    rw [h1] at hw
    have e : Hid (nameB s = false) := by show _ = _; rw [HD.out, h1]; rfl
    clear h1
    go_enter Tryz.func113, Tryz.ntmps113
    go_wp2_with fail
    (with_reducible refine (hw.out).mono ?_)
    rintro _ _ ⟨rfl, rfl⟩
    go_wp2_with fail
    go_ret
    exact ⟨by rw [e.out]; rfl, Upd.refl _ _⟩
  | true =>
    have hl := Fm.word_len h1
    have hl1 : (s.length : Int) ≤ 20 := by omega
    rw [h1] at hw
    have e : Hid (nameB s = !Lib.contains Fm.reservedL ([32] ++ s ++ [32])) := by show _ = _; rw [HD.out, h1]; rfl
    clear h1
    go_enter Tryz.func113, Tryz.ntmps113
    go_wp2_with fail
    (with_reducible refine (hw.out).mono ?_)
    rintro _ _ ⟨rfl, rfl⟩
    go_wp2_with fail
    generalize Lib.contains Fm.reservedL ([32] ++ s ++ [32]) = cb at *
    (with_reducible refine (hcon.out).mono ?_)
    rintro _ _ ⟨rfl, rfl⟩
    go_wp2_with fail
    go_ret
    exact ⟨by rw [e.out]; rfl, Upd.refl _ _⟩
end Go.Proofs.YthagiklfmkdmaaaGreatDoor
