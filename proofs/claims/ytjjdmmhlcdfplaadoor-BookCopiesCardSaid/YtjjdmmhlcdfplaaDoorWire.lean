/- The encoding of layer 1 and its reader, as plain functions on lists of bytes; no program stands in this text. -/
import Derived.Lib.AtoiAll
import Derived.Lib.ItoaNum
import Derived.Lib.Bytealg
import Derived.Lib.Atoi
namespace Go.Proofs.YtjjdmmhlcdfplaaDoor.Wire
open Go.Lib
set_option linter.unusedVariables false
set_option linter.unusedSimpArgs false

/-! ### Writing -/
def intE (n : Int) : List UInt8 := itoa n ++ [59]
def numE (n : Int) : List UInt8 := if n < 0 then [] else intE n
def textE (s : List UInt8) : List UInt8 := itoa s.length ++ [58] ++ s ++ [44]
def listE (es : List (List UInt8)) : List UInt8 := itoa es.length ++ [91] ++ es.flatten ++ [93]
def numsE (l : List Int) : List UInt8 := listE (l.map intE)
def textsE (l : List (List UInt8)) : List UInt8 := listE (l.map textE)

theorem flatten_take_succ {α : Type} (f : α → List UInt8) (l : List α) (k : Nat) (h : k < l.length) : ((l.take (k + 1)).map f).flatten = ((l.take k).map f).flatten ++ f l[k] := by
  rw [List.take_succ_eq_append_getElem h, List.map_append, List.flatten_append]; simp
theorem flatten_take_le {α : Type} (f : α → List UInt8) (l : List α) (k : Nat) : ((l.take k).map f).flatten.length ≤ (l.map f).flatten.length := by
  have h : (l.map f).flatten = ((l.take k).map f).flatten ++ ((l.drop k).map f).flatten := by
    rw [← List.flatten_append, ← List.map_append, List.take_append_drop]
  rw [h, List.length_append]; omega

/-! ### Reading -/
/-- What a reader has left; none: it has failed. -/
abbrev St := Option (List UInt8)
/-- The int of which l is the decimal form. -/
def numOf (l : List UInt8) : Option Int :=
  match atoiAll l with
  | .ok v => if itoa v = l then some v else none
  | _ => none
def rNumber (st : St) (e : UInt8) (least : Int) : Int × St :=
  match st with
  | none => (0, none)
  | some r =>
    if indexByte (r.take 21) e < 0 then (0, none) else
    match numOf (r.take (indexByte (r.take 21) e).toNat) with
    | some n => if n < least then (0, none) else (n, some (r.drop ((indexByte (r.take 21) e).toNat + 1)))
    | none => (0, none)
def rClose (st : St) (e : UInt8) : St :=
  match st with
  | some (c :: r) => if c = e then some r else none
  | _ => none
def rNum (st : St) : Int × St := rNumber st 59 0
def rInt (st : St) : Int × St := rNumber st 59 (-9223372036854775808)
def rText (st : St) : List UInt8 × St :=
  match rNumber st 58 0 with
  | (n, some r) =>
    if r.length < n.toNat then ([], none) else
    match rClose (some (r.drop n.toNat)) 44 with
    | some r' => (r.take n.toNat, some r')
    | none => ([], none)
  | (_, none) => ([], none)
def rLoop {α : Type} (one : St → α × St) : Nat → St → List α → List α × St
  | 0, st, acc => (acc, st)
  | _ + 1, none, acc => (acc, none)
  | n + 1, some r, acc => rLoop one n (one (some r)).2 (acc ++ [(one (some r)).1])
def rItems {α : Type} (one : St → α × St) (st : St) : List α × St :=
  match rNumber st 91 0 with
  | (n, st1) =>
    match rClose (rLoop one n.toNat st1 []).2 93 with
    | some r => ((rLoop one n.toNat st1 []).1, some r)
    | none => ([], none)
def rNums (st : St) : List Int × St := rItems rInt st
def rTexts (st : St) : List (List UInt8) × St := rItems rText st

theorem indexByte_lt : ∀ (l : List UInt8) (c : UInt8), indexByte l c < l.length
  | [], c => by simp [indexByte]
  | b :: l, c => by
    have ih := indexByte_lt l c
    simp only [indexByte]
    split
    · simp only [List.length_cons]; omega
    · split <;> (simp only [List.length_cons]; omega)
theorem rNumber_eq (st : St) (e : UInt8) (least : Int) : rNumber st e least =
    if indexByte ((st.getD []).take 21) e < 0 then (0, none) else
    match numOf ((st.getD []).take (indexByte ((st.getD []).take 21) e).toNat) with
    | some n => if n < least then (0, none) else (n, some ((st.getD []).drop ((indexByte ((st.getD []).take 21) e).toNat + 1)))
    | none => (0, none) := by
  cases st with
  | none => rfl
  | some r => rfl
theorem rNumber_neg {st : St} {e : UInt8} {least : Int} (h : indexByte ((st.getD []).take 21) e < 0) : rNumber st e least = (0, none) := by
  rw [rNumber_eq, if_pos h]
theorem rNumber_none {st : St} {e : UInt8} {least i : Int} (hi : indexByte ((st.getD []).take 21) e = i) (h : 0 ≤ i) (hn : numOf ((st.getD []).take i.toNat) = none) : rNumber st e least = (0, none) := by
  rw [rNumber_eq, hi, if_neg (by omega), hn]
theorem rNumber_some {st : St} {e : UInt8} {least i n : Int} (hi : indexByte ((st.getD []).take 21) e = i) (h : 0 ≤ i) (hn : numOf ((st.getD []).take i.toNat) = some n) :
    rNumber st e least = if n < least then (0, none) else (n, some ((st.getD []).drop (i.toNat + 1))) := by
  rw [rNumber_eq, hi, if_neg (by omega), hn]
theorem isSome_of_index {st : St} {i : Int} {e : UInt8} (hi : indexByte ((st.getD []).take 21) e = i) (h : 0 ≤ i) : st.isNone = false := by
  cases st with
  | none => simp [indexByte] at hi; omega
  | some r => rfl
theorem numOf_none {l : List UInt8} (h : ∀ m, atoiAll l ≠ .ok m) : numOf l = none := by
  unfold numOf
  split
  · rename_i v hv; exact absurd hv (h v)
  · rfl
theorem numOf_ne {l : List UInt8} {n : Int} (h : atoiAll l = .ok n) (hn : itoa n ≠ l) : numOf l = none := by
  unfold numOf; rw [h]; exact if_neg hn
theorem numOf_eq {l : List UInt8} {n : Int} (h : atoiAll l = .ok n) (hn : itoa n = l) : numOf l = some n := by
  unfold numOf; rw [h]; exact if_pos hn
theorem numOf_i64 {l : List UInt8} {n : Int} (h : numOf l = some n) : -9223372036854775808 ≤ n ∧ n ≤ 9223372036854775807 := by
  unfold numOf at h
  split at h
  · rename_i v hv
    split at h
    · injection h with h
      subst h
      unfold atoiAll at hv
      split at hv
      · cases hv
      · dsimp only at hv
        split at hv
        · cases hv
        · cases hv
        · split at hv
          · cases hv
          · split at hv
            · cases hv
            · injection hv with hv
              split at hv <;> omega
    · cases h
  · cases h
theorem rNumber_i64 (st : St) (e : UInt8) (least : Int) : -9223372036854775808 ≤ (rNumber st e least).1 ∧ (rNumber st e least).1 ≤ 9223372036854775807 := by
  unfold rNumber
  split
  · exact ⟨by decide, by decide⟩
  · split
    · exact ⟨by decide, by decide⟩
    · split
      · rename_i n hn
        split
        · exact ⟨by decide, by decide⟩
        · exact numOf_i64 hn
      · exact ⟨by decide, by decide⟩
theorem rNumber_least (st : St) (e : UInt8) (least : Int) (h0 : least ≤ 0) : least ≤ (rNumber st e least).1 := by
  unfold rNumber
  split
  · exact h0
  · split
    · exact h0
    · split
      · split
        · exact h0
        · dsimp only; omega
      · exact h0
/-- A number that was read has left less than there was. -/
theorem rNumber_len {r r' : List UInt8} {e : UInt8} {least n : Int} (h : rNumber (some r) e least = (n, some r')) : r'.length < r.length := by
  unfold rNumber at h
  dsimp only at h
  have hl := indexByte_lt (r.take 21) e
  split at h
  · simp at h
  · split at h
    · split at h
      · simp at h
      · simp only [Prod.mk.injEq, Option.some.injEq] at h
        rw [← h.2]
        simp only [List.length_drop, List.length_take] at hl ⊢
        omega
    · simp at h
theorem rClose_no {st : St} {c : UInt8} (h : hasPrefix (st.getD []) [c] = false) : rClose st c = none := by
  match st with
  | none => rfl
  | some [] => rfl
  | some (d :: r) =>
    simp only [hasPrefix, Option.getD_some, List.isPrefixOf, Bool.and_true] at h
    simp only [rClose]
    rw [if_neg]
    rintro rfl
    simp at h
theorem rClose_yes {st : St} {c : UInt8} (h : hasPrefix (st.getD []) [c] = true) : st.isNone = false ∧ rClose st c = some (trimPrefix (st.getD []) [c]) := by
  match st with
  | none => simp [hasPrefix, List.isPrefixOf] at h
  | some [] => simp [hasPrefix, List.isPrefixOf] at h
  | some (d :: r) =>
    refine ⟨rfl, ?_⟩
    have h' := h
    simp only [hasPrefix, Option.getD_some, List.isPrefixOf, Bool.and_true, beq_iff_eq] at h'
    simp only [trimPrefix, h, if_true, rClose]
    rw [if_pos h'.symm]
    rfl
theorem trimPrefix_no {s p : List UInt8} (h : hasPrefix s p = false) : trimPrefix s p = s := by simp [trimPrefix, h]
theorem rNumber_zero {st : St} {e : UInt8} {least n : Int} (h : rNumber st e least = (n, none)) : n = 0 := by
  unfold rNumber at h
  split at h
  · simp at h; exact h.symm
  · split at h
    · simp at h; exact h.symm
    · split at h
      · split at h
        · simp at h; exact h.symm
        · simp at h
      · simp at h; exact h.symm
theorem rText_none {st : St} {n : Int} (h : rNumber st 58 0 = (n, none)) : rText st = ([], none) := by simp [rText, h]
theorem rText_far {st : St} {n : Int} {r : List UInt8} (h : rNumber st 58 0 = (n, some r)) (hn : (r.length : Int) < n) : rText st = ([], none) := by
  simp only [rText, h]; rw [if_pos (by omega)]
theorem rText_open {st : St} {n : Int} {r : List UInt8} (h : rNumber st 58 0 = (n, some r)) (hn : n ≤ r.length) (hc : rClose (some (r.drop n.toNat)) 44 = none) : rText st = ([], none) := by
  simp only [rText, h]; rw [if_neg (by omega), hc]
theorem rText_ok {st : St} {n : Int} {r r' : List UInt8} (h : rNumber st 58 0 = (n, some r)) (hn : n ≤ r.length) (hc : rClose (some (r.drop n.toNat)) 44 = some r') : rText st = (r.take n.toNat, some r') := by
  simp only [rText, h]; rw [if_neg (by omega), hc]
/-- A call leaves no more than there was. -/
theorem rNumber_le (st : St) (e : UInt8) (least : Int) : ((rNumber st e least).2.getD []).length ≤ (st.getD []).length := by
  cases st with
  | none => exact Nat.le_refl _
  | some r =>
    cases h : rNumber (some r) e least with
    | mk n s =>
      cases s with
      | none => exact Nat.zero_le _
      | some r' => have := rNumber_len h; simp only [Option.getD_some]; omega
theorem rClose_le (st : St) (e : UInt8) : ((rClose st e).getD []).length ≤ (st.getD []).length := by
  match st with
  | none => exact Nat.le_refl _
  | some [] => exact Nat.le_refl _
  | some (c :: r) => simp only [rClose]; split <;> simp
theorem rText_le (st : St) : ((rText st).2.getD []).length ≤ (st.getD []).length := by
  have h1 := rNumber_le st 58 0
  cases h : rNumber st 58 0 with
  | mk n s =>
    rw [h] at h1
    cases s with
    | none => rw [rText_none h]; exact Nat.zero_le _
    | some r =>
      by_cases hn : n ≤ r.length
      · have h2 := rClose_le (some (r.drop n.toNat)) 44
        cases hc : rClose (some (r.drop n.toNat)) 44 with
        | none => rw [rText_open h hn hc]; exact Nat.zero_le _
        | some r' => rw [rText_ok h hn hc]; rw [hc] at h2; simp at h1 h2 ⊢; omega
      · rw [rText_far h (by omega)]; exact Nat.zero_le _
theorem rNumber_cost {st : St} {e : UInt8} {least n : Int} {s : St} (h : rNumber st e least = (n, s)) (hs : s.isSome) : (s.getD []).length < (st.getD []).length := by
  match st, s, hs with
  | some r, some r', _ => exact rNumber_len h
  | none, some r', _ => simp [rNumber] at h
theorem rInt_cost (st : St) : (rInt st).2.isSome → ((rInt st).2.getD []).length < (st.getD []).length := fun hs => rNumber_cost rfl hs
theorem rText_cost (st : St) : (rText st).2.isSome → ((rText st).2.getD []).length < (st.getD []).length := fun hs => by
  cases h : rNumber st 58 0 with
  | mk n s =>
    cases s with
    | none => rw [rText_none h] at hs; simp at hs
    | some r =>
      have h1 := rNumber_cost h rfl
      by_cases hn : n ≤ r.length
      · have h2 := rClose_le (some (r.drop n.toNat)) 44
        cases hc : rClose (some (r.drop n.toNat)) 44 with
        | none => rw [rText_open h hn hc] at hs; simp at hs
        | some r' => rw [rText_ok h hn hc]; rw [hc] at h2; simp at h1 h2 ⊢; omega
      · rw [rText_far h (by omega)] at hs; simp at hs
theorem rLoop_none {α : Type} (one : St → α × St) (n : Nat) (acc : List α) : rLoop one n none acc = (acc, none) := by cases n <;> rfl
theorem rLoop_zero {α : Type} (one : St → α × St) (st : St) (acc : List α) : rLoop one 0 st acc = (acc, st) := rfl
theorem rLoop_step {α : Type} (one : St → α × St) {n : Int} (h : 0 < n) (r : List UInt8) (acc : List α) : rLoop one n.toNat (some r) acc = rLoop one (n - 1).toNat (one (some r)).2 (acc ++ [(one (some r)).1]) := by
  obtain ⟨m, rfl⟩ : ∃ m : Nat, n = m + 1 := ⟨(n - 1).toNat, by omega⟩
  rw [show ((m : Int) + 1).toNat = m + 1 by omega, show ((m : Int) + 1 - 1).toNat = m by omega]
  rfl
theorem rItems_end {α : Type} {one : St → α × St} {st st1 s2 : St} {n : Int} {l : List α} (h : rNumber st 91 0 = (n, st1)) (hl : rLoop one n.toNat st1 [] = (l, s2)) :
    rItems one st = (if (rClose s2 93).isNone then [] else l, rClose s2 93) := by
  simp only [rItems, h, hl]
  cases rClose s2 93 <;> rfl
end Go.Proofs.YtjjdmmhlcdfplaaDoor.Wire
