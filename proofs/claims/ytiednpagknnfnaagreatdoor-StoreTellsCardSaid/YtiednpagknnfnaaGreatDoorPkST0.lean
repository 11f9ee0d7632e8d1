/- The encoding of layer 1 and its reader, as plain functions on lists of bytes; no program stands in and so on. -/
import Derived.Lib.AtoiAll
import Derived.Lib.ItoaNum
import Derived.Lib.Bytealg
import Derived.Lib.Atoi
import Derived.RowKit
import Derived.Test.YtiednpagknnfnaaGreatDoorProg
import Derived.WalkKit
import Derived.Lib.Hide
import Derived.Lib.Builder
import Derived.Lib.LaidTab
import Derived.Deep.QuietTactic
import Derived.BigQuiet
import Derived.Outline
import Derived.Deep.RegionHeld3
import Derived.Maps.OwnSet
import Derived.Maps.OwnOps
import Derived.DeepKeys4
import Derived.Maps.RangeWalk
import Derived.StillTail
import Derived.Lib.SliceRun
import Derived.Lib.IndexMore
import Derived.Laws.Cover1
import Derived.Lib.SplitLaws
import Derived.Lib.SlKeysI
import Derived.Maps.Range
import Derived.Test.YtiednpagknnfnaaGreatDoorShelf
import Derived.Lib.ItoaLen
import Derived.ProofKit
import Derived.OpenShut
import Derived.ShutString
import Derived.Lib.SmallJoins
import Derived.Deep.AppendLies
import Derived.Test.YtiednpagknnfnaaGreatDoorCards
import Derived.Test.YtiednpagknnfnaaGreatDoorTie
import Derived.LaidMore
import Derived.MakeChecks
import Derived.Stop.Joined
import Derived.Stop.LaidErr
import Derived.Deep.DeepHandedRow
import Derived.Deep.DeepWitnessRowRef
import Derived.DeepKeys5
import Derived.OrdersHeld
import Derived.RangeFuncKeeps
import Derived.TacticsInMore
import Derived.Lib.BufferWrite
import Derived.Laws.MakeOwn
import Derived.OwnWalk
set_option linter.unusedVariables false
set_option linter.unusedSimpArgs false
namespace Go.Proofs.YtiednpagknnfnaaGreatDoor.Wire
open Go.Lib
def intE (n : Int) : List UInt8 := itoa n ++ [59]
def numE (n : Int) : List UInt8 := if n < 0 then [] else intE n
def textE (s : List UInt8) : List UInt8 := itoa s.length ++ [58] ++ s ++ [44]
abbrev St := Option (List UInt8)
def numOf (l : List UInt8) : Option Int :=
  match atoiAll l with
  | .ok v => if itoa v = l then some v else none
  | _ => none
def rNumber (st : St) (e : UInt8) (least : Int) : Int × St :=
  match st with
  | none => (0, none)
  | some r =>
    if indexByte (r.take 21) e < 0 then (0, none) else
    match numOf (r.take (indexByte (r.take 21) e).toNat) with
    | some n => if n < least then (0, none) else (n, some (r.drop ((indexByte (r.take 21) e).toNat + 1)))
    | none => (0, none)
def rClose (st : St) (e : UInt8) : St :=
  match st with
  | some (c :: r) => if c = e then some r else none
  | _ => none
def rNum (st : St) : Int × St := rNumber st 59 0
def rText (st : St) : List UInt8 × St :=
  match rNumber st 58 0 with
  | (n, some r) =>
    if r.length < n.toNat then ([], none) else
    match rClose (some (r.drop n.toNat)) 44 with
    | some r' => (r.take n.toNat, some r')
    | none => ([], none)
  | (_, none) => ([], none)
theorem indexByte_lt : ∀ (l : List UInt8) (c : UInt8), indexByte l c < l.length
  | [], c => by simp [indexByte]
  | b :: l, c => by
    have ih := indexByte_lt l c
    simp only [indexByte]
    split
    · simp only [List.length_cons]; omega
    · split <;> (simp only [List.length_cons]; omega)
theorem rNumber_eq (st : St) (e : UInt8) (least : Int) : rNumber st e least =
    if indexByte ((st.getD []).take 21) e < 0 then (0, none) else
    match numOf ((st.getD []).take (indexByte ((st.getD []).take 21) e).toNat) with
    | some n => if n < least then (0, none) else (n, some ((st.getD []).drop ((indexByte ((st.getD []).take 21) e).toNat + 1)))
    | none => (0, none) := by
  cases st with
  | none => rfl
  | some r => rfl
theorem rNumber_neg {st : St} {e : UInt8} {least : Int} (h : indexByte ((st.getD []).take 21) e < 0) : rNumber st e least = (0, none) := by
  rw [rNumber_eq, if_pos h]
theorem rNumber_none {st : St} {e : UInt8} {least i : Int} (hi : indexByte ((st.getD []).take 21) e = i) (h : 0 ≤ i) (hn : numOf ((st.getD []).take i.toNat) = none) : rNumber st e least = (0, none) := by
  rw [rNumber_eq, hi, if_neg (by omega), hn]
theorem rNumber_some {st : St} {e : UInt8} {least i n : Int} (hi : indexByte ((st.getD []).take 21) e = i) (h : 0 ≤ i) (hn : numOf ((st.getD []).take i.toNat) = some n) :
    rNumber st e least = if n < least then (0, none) else (n, some ((st.getD []).drop (i.toNat + 1))) := by
  rw [rNumber_eq, hi, if_neg (by omega), hn]
theorem isSome_of_index {st : St} {i : Int} {e : UInt8} (hi : indexByte ((st.getD []).take 21) e = i) (h : 0 ≤ i) : st.isNone = false := by
  cases st with
  | none => simp [indexByte] at hi; omega
  | some r => rfl
theorem numOf_none {l : List UInt8} (h : ∀ m, atoiAll l ≠ .ok m) : numOf l = none := by
  unfold numOf
  split
  · rename_i v hv; exact absurd hv (h v)
  · rfl
theorem numOf_ne {l : List UInt8} {n : Int} (h : atoiAll l = .ok n) (hn : itoa n ≠ l) : numOf l = none := by
  unfold numOf; rw [h]; exact if_neg hn
theorem numOf_eq {l : List UInt8} {n : Int} (h : atoiAll l = .ok n) (hn : itoa n = l) : numOf l = some n := by
  unfold numOf; rw [h]; exact if_pos hn
theorem numOf_i64 {l : List UInt8} {n : Int} (h : numOf l = some n) : -9223372036854775808 ≤ n ∧ n ≤ 9223372036854775807 := by
  unfold numOf at h
  split at h
  · rename_i v hv
    split at h
    · injection h with h
      subst h
      unfold atoiAll at hv
      split at hv
      · cases hv
      · dsimp only at hv
        split at hv
        · cases hv
        · cases hv
        · split at hv
          · cases hv
          · split at hv
            · cases hv
            · injection hv with hv
              split at hv <;> omega
    · cases h
  · cases h
theorem rNumber_least (st : St) (e : UInt8) (least : Int) (h0 : least ≤ 0) : least ≤ (rNumber st e least).1 := by
  unfold rNumber
  split
  · exact h0
  · split
    · exact h0
    · split
      · split
        · exact h0
        · dsimp only; omega
      · exact h0
theorem rNumber_len {r r' : List UInt8} {e : UInt8} {least n : Int} (h : rNumber (some r) e least = (n, some r')) : r'.length < r.length := by
  unfold rNumber at h
  dsimp only at h
  have hl := indexByte_lt (r.take 21) e
  split at h
  · simp at h
  · split at h
    · split at h
      · simp at h
      · simp only [Prod.mk.injEq, Option.some.injEq] at h
        rw [← h.2]
        simp only [List.length_drop, List.length_take] at hl ⊢
        omega
    · simp at h
theorem rClose_no {st : St} {c : UInt8} (h : hasPrefix (st.getD []) [c] = false) : rClose st c = none := by
  match st with
  | none => rfl
  | some [] => rfl
  | some (d :: r) =>
    simp only [hasPrefix, Option.getD_some, List.isPrefixOf, Bool.and_true] at h
    simp only [rClose]
    rw [if_neg]
    rintro rfl
    simp at h
theorem rClose_yes {st : St} {c : UInt8} (h : hasPrefix (st.getD []) [c] = true) : st.isNone = false ∧ rClose st c = some (trimPrefix (st.getD []) [c]) := by
  match st with
  | none => simp [hasPrefix, List.isPrefixOf] at h
  | some [] => simp [hasPrefix, List.isPrefixOf] at h
  | some (d :: r) =>
    refine ⟨rfl, ?_⟩
    have h' := h
    simp only [hasPrefix, Option.getD_some, List.isPrefixOf, Bool.and_true, beq_iff_eq] at h'
    simp only [trimPrefix, h, if_true, rClose]
    rw [if_pos h'.symm]
    rfl
theorem trimPrefix_no {s p : List UInt8} (h : hasPrefix s p = false) : trimPrefix s p = s := by simp [trimPrefix, h]
theorem rNumber_zero {st : St} {e : UInt8} {least n : Int} (h : rNumber st e least = (n, none)) : n = 0 := by
  unfold rNumber at h
  split at h
  · simp at h; exact h.symm
  · split at h
    · simp at h; exact h.symm
    · split at h
      · split at h
        · simp at h; exact h.symm
        · simp at h
      · simp at h; exact h.symm
theorem rText_none {st : St} {n : Int} (h : rNumber st 58 0 = (n, none)) : rText st = ([], none) := by simp [rText, h]
theorem rText_far {st : St} {n : Int} {r : List UInt8} (h : rNumber st 58 0 = (n, some r)) (hn : (r.length : Int) < n) : rText st = ([], none) := by
  simp only [rText, h]; rw [if_pos (by omega)]
theorem rText_open {st : St} {n : Int} {r : List UInt8} (h : rNumber st 58 0 = (n, some r)) (hn : n ≤ r.length) (hc : rClose (some (r.drop n.toNat)) 44 = none) : rText st = ([], none) := by
  simp only [rText, h]; rw [if_neg (by omega), hc]
theorem rText_ok {st : St} {n : Int} {r r' : List UInt8} (h : rNumber st 58 0 = (n, some r)) (hn : n ≤ r.length) (hc : rClose (some (r.drop n.toNat)) 44 = some r') : rText st = (r.take n.toNat, some r') := by
  simp only [rText, h]; rw [if_neg (by omega), hc]
theorem rNumber_le (st : St) (e : UInt8) (least : Int) : ((rNumber st e least).2.getD []).length ≤ (st.getD []).length := by
  cases st with
  | none => exact Nat.le_refl _
  | some r =>
    cases h : rNumber (some r) e least with
    | mk n s =>
      cases s with
      | none => exact Nat.zero_le _
      | some r' => have := rNumber_len h; simp only [Option.getD_some]; omega
theorem rClose_le (st : St) (e : UInt8) : ((rClose st e).getD []).length ≤ (st.getD []).length := by
  match st with
  | none => exact Nat.le_refl _
  | some [] => exact Nat.le_refl _
  | some (c :: r) => simp only [rClose]; split <;> simp
theorem rText_le (st : St) : ((rText st).2.getD []).length ≤ (st.getD []).length := by
  have h1 := rNumber_le st 58 0
  cases h : rNumber st 58 0 with
  | mk n s =>
    rw [h] at h1
    cases s with
    | none => rw [rText_none h]; exact Nat.zero_le _
    | some r =>
      by_cases hn : n ≤ r.length
      · have h2 := rClose_le (some (r.drop n.toNat)) 44
        cases hc : rClose (some (r.drop n.toNat)) 44 with
        | none => rw [rText_open h hn hc]; exact Nat.zero_le _
        | some r' => rw [rText_ok h hn hc]; rw [hc] at h2; simp at h1 h2 ⊢; omega
      · rw [rText_far h (by omega)]; exact Nat.zero_le _
end Go.Proofs.YtiednpagknnfnaaGreatDoor.Wire
namespace Go.Proofs.YtiednpagknnfnaaGreatDoor.Wire
open Go.Lib Go.RowKit
theorem parse_append : ∀ (l r : List UInt8) (a b : Nat), parseUint10 a l = .ok b → parseUint10 a (l ++ r) = parseUint10 b r
  | [], r, a, b, h => by simp only [parseUint10] at h; injection h with h; rw [h]; rfl
  | c :: l, r, a, b, h => by
    simp only [List.cons_append, parseUint10] at h ⊢
    split at h
    · rename_i h1
      rw [if_pos h1]
      split at h
      · cases h
      · rename_i h2
        rw [if_neg h2]
        split at h
        · cases h
        · rename_i h3
          rw [if_neg h3]
          exact parse_append l r _ b h
    · cases h
theorem digit_toNat {d : Nat} (h : d < 10) : (UInt8.ofNat (48 + d)).toNat = 48 + d := by
  simp; omega
theorem decDigits_step' {u : Nat} (h : ¬ u < 10) : decDigits u = decDigits (u / 10) ++ [UInt8.ofNat (48 + u % 10)] := by
  conv => lhs; rw [decDigits, dif_neg h]
theorem parse_decDigits (k : Nat) : ∀ u, u < k → u ≤ 9223372036854775808 → parseUint10 0 (decDigits u) = .ok u := by
  induction k with
  | zero => intro u h; omega
  | succ k ih =>
    intro u h hb
    by_cases h10 : u < 10
    · rw [decDigits_one h10]
      simp only [parseUint10, digit_toNat h10]
      rw [if_pos (by omega), if_neg (by omega), if_neg (by omega)]
      congr 1; omega
    · rw [decDigits_step' h10, parse_append _ _ _ _ (ih (u / 10) (by omega) (by omega))]
      have hd : u % 10 < 10 := by omega
      simp only [parseUint10, digit_toNat hd]
      rw [if_pos (by omega), if_neg (by omega), if_neg (by omega)]
      congr 1; omega
theorem decDigits_digits (k : Nat) : ∀ u, u < k → ∀ c ∈ decDigits u, 48 ≤ c.toNat ∧ c.toNat ≤ 57 := by
  induction k with
  | zero => intro u h; omega
  | succ k ih =>
    intro u h c hc
    by_cases h10 : u < 10
    · rw [decDigits_one h10, List.mem_singleton] at hc
      rw [hc, digit_toNat h10]; omega
    · rw [decDigits_step' h10, List.mem_append] at hc
      rcases hc with hc | hc
      · exact ih (u / 10) (by omega) c hc
      · rw [List.mem_singleton] at hc
        rw [hc, digit_toNat (by omega)]; omega
theorem decDigits_ne (u : Nat) : decDigits u ≠ [] := by
  rw [decDigits]; split <;> simp
theorem atoiAll_neg {r : List UInt8} {u : Nat} (h : parseMag r = .ok u) (hu : u ≤ 9223372036854775808) : atoiAll (45 :: r) = .ok (-(u : Int)) := by
  have e : (if (45 : UInt8).toNat = 43 ∨ (45 : UInt8).toNat = 45 then r else 45 :: r) = r := if_pos (by decide)
  unfold atoiAll
  simp only [e, h]
  rw [if_neg (by simp), if_neg (by omega), if_pos (by decide)]
theorem atoiAll_pos {c : UInt8} {r : List UInt8} {u : Nat} (hc : 48 ≤ c.toNat) (h : parseMag (c :: r) = .ok u) (hu : u < 9223372036854775808) : atoiAll (c :: r) = .ok (u : Int) := by
  have e : (if c.toNat = 43 ∨ c.toNat = 45 then r else c :: r) = c :: r := if_neg (by omega)
  unfold atoiAll
  simp only [e, h]
  rw [if_neg (by omega), if_neg (by omega), if_neg (by omega)]
theorem atoi_itoa {v : Int} (h0 : -9223372036854775808 ≤ v) (h1 : v ≤ 9223372036854775807) : atoiAll (itoa v) = .ok v := by
  by_cases hn : v < 0
  · have hp := parse_decDigits (v.natAbs + 1) v.natAbs (by omega) (by omega)
    have hm : parseMag (decDigits v.natAbs) = .ok v.natAbs := by unfold parseMag; rw [if_neg (decDigits_ne _), hp]
    rw [show itoa v = 45 :: decDigits v.natAbs by simp [itoa, hn], atoiAll_neg hm (by omega)]
    congr 1; omega
  · have hp := parse_decDigits (v.toNat + 1) v.toNat (by omega) (by omega)
    have hm : parseMag (decDigits v.toNat) = .ok v.toNat := by unfold parseMag; rw [if_neg (decDigits_ne _), hp]
    have hd := decDigits_digits (v.toNat + 1) v.toNat (by omega)
    rw [show itoa v = decDigits v.toNat by simp [itoa, hn]]
    cases hl : decDigits v.toNat with
    | nil => exact absurd hl (decDigits_ne _)
    | cons c r =>
      rw [hl] at hm hd
      rw [atoiAll_pos (hd c (by simp)).1 hm (by omega)]
      congr 1; omega
theorem numOf_itoa {v : Int} (h0 : -9223372036854775808 ≤ v) (h1 : v ≤ 9223372036854775807) : numOf (itoa v) = some v := numOf_eq (atoi_itoa h0 h1) rfl
theorem numOf_some {l : List UInt8} {v : Int} (h : numOf l = some v) : itoa v = l ∧ -9223372036854775808 ≤ v ∧ v ≤ 9223372036854775807 := by
  refine ⟨?_, numOf_i64 h⟩
  unfold numOf at h
  split at h
  · split at h
    · injection h with h; subst h; assumption
    · cases h
  · cases h
def backGo (acc : Int) (i : Nat) : List UInt8 → Option Int
  | [] => some acc
  | c :: r => if c.toNat < 48 ∨ 57 < c.toNat ∨ 20 < i then none else backGo (wrap64 (wrap64 (10 * acc) - ((c.toNat : Int) - 48))) (i + 1) r
def backFrom (l : List UInt8) : Nat := if l.head? = some 45 then 1 else 0
theorem backGo_append : ∀ (l r : List UInt8) (a : Int) (i : Nat), backGo a i (l ++ r) = match backGo a i l with | some b => backGo b (i + l.length) r | none => none
  | [], r, a, i => rfl
  | c :: l, r, a, i => by
    simp only [List.cons_append, backGo]
    split
    · rfl
    · rw [backGo_append l r]; simp [Nat.add_assoc, Nat.add_comm 1]
theorem w64 {n : Int} (h : -9223372036854775808 ≤ n ∧ n ≤ 9223372036854775807) : wrap64 n = n := by unfold wrap64; omega
theorem backGo_dec (k : Nat) : ∀ u, u < k → u ≤ 9223372036854775808 → ∀ i, i + (decDigits u).length ≤ 21 → backGo 0 i (decDigits u) = some (-(u : Int)) := by
  induction k with
  | zero => intro u h; omega
  | succ k ih =>
    intro u h hb i hi
    by_cases h10 : u < 10
    · rw [decDigits_one h10] at hi ⊢
      simp only [backGo, digit_toNat h10]
      simp only [List.length_cons, List.length_nil] at hi
      rw [if_neg (by omega), w64 (n := 10 * 0) (by omega), w64 (by omega)]
      congr 1; omega
    · rw [decDigits_step' h10] at hi ⊢
      simp only [List.length_append, List.length_cons, List.length_nil] at hi
      rw [backGo_append, ih (u / 10) (by omega) (by omega) i (by omega)]
      simp only [backGo, digit_toNat (show u % 10 < 10 by omega)]
      rw [if_neg (by omega), w64 (n := 10 * _) (by omega), w64 (by omega)]
      congr 1; omega
theorem back_itoa {v : Int} (h0 : -9223372036854775808 ≤ v) (h1 : v ≤ 9223372036854775807) (hlen : (itoa v).length ≤ 21) :
    ∃ a, backGo 0 (backFrom (itoa v)) ((itoa v).drop (backFrom (itoa v))) = some a ∧ (if backFrom (itoa v) = 0 then wrap64 (-a) else a) = v := by
  by_cases hn : v < 0
  · have e : itoa v = 45 :: decDigits v.natAbs := by simp [itoa, hn]
    have hf : backFrom (itoa v) = 1 := by rw [e]; rfl
    have hl : 1 + (decDigits v.natAbs).length ≤ 21 := by rw [e] at hlen; simp only [List.length_cons] at hlen; omega
    rw [hf, e]
    refine ⟨_, backGo_dec (v.natAbs + 1) v.natAbs (by omega) (by omega) 1 hl, ?_⟩
    rw [if_neg (by decide)]; omega
  · have e : itoa v = decDigits v.toNat := by simp [itoa, hn]
    have hf : backFrom (itoa v) = 0 := by
      rw [e]
      unfold backFrom
      cases hl : decDigits v.toNat with
      | nil => rfl
      | cons c r =>
        have hc := decDigits_digits (v.toNat + 1) v.toNat (by omega) c (by rw [hl]; simp)
        rw [if_neg]
        intro h
        simp only [List.head?_cons, Option.some.injEq] at h
        rw [h] at hc
        simp at hc
    have hl : 0 + (decDigits v.toNat).length ≤ 21 := by rw [e] at hlen; omega
    rw [hf, e]
    refine ⟨_, backGo_dec (v.toNat + 1) v.toNat (by omega) (by omega) 0 hl, ?_⟩
    rw [if_pos rfl, w64 (by omega)]; omega
theorem back_none {l : List UInt8} (h : backGo 0 (backFrom l) (l.drop (backFrom l)) = none) (hlen : ∀ v, -9223372036854775808 ≤ v → v ≤ 9223372036854775807 → (itoa v).length ≤ 21) : numOf l = none := by
  cases hx : numOf l with
  | none => rfl
  | some v =>
    obtain ⟨e, h0, h1⟩ := numOf_some hx
    obtain ⟨a, ha, _⟩ := back_itoa h0 h1 (hlen v h0 h1)
    rw [e, h] at ha
    cases ha
theorem back_some {l : List UInt8} {a n : Int} (h : backGo 0 (backFrom l) (l.drop (backFrom l)) = some a) (hn : (if backFrom l = 0 then wrap64 (-a) else a) = n) (hi : -9223372036854775808 ≤ n ∧ n ≤ 9223372036854775807)
    (hlen : ∀ v, -9223372036854775808 ≤ v → v ≤ 9223372036854775807 → (itoa v).length ≤ 21) : numOf l = if itoa n = l then some n else none := by
  split
  · rename_i e
    rw [← e]; exact numOf_itoa hi.1 hi.2
  · rename_i e
    cases hx : numOf l with
    | none => rfl
    | some v =>
      obtain ⟨e', h0, h1⟩ := numOf_some hx
      obtain ⟨b, hb, hb'⟩ := back_itoa h0 h1 (hlen v h0 h1)
      rw [e', h] at hb
      injection hb with hb
      rw [e', ← hb, hn] at hb'
      rw [hb', e'] at e
      exact absurd rfl e
def rInt' (st : St) (c : UInt8) : Int × St := rNumber st c (-9223372036854775808)
theorem indexByte_at : ∀ (l : List UInt8) (c : UInt8) (k : Nat), (∀ x ∈ l.take k, x ≠ c) → l[k]? = some c → indexByte l c = k
  | [], c, k, _, h => by simp at h
  | b :: l, c, 0, _, h => by
    simp at h; subst h; simp [indexByte]
  | b :: l, c, k + 1, h0, h => by
    have hb : b ≠ c := h0 b (by simp)
    have ih := indexByte_at l c k (fun x hx => h0 x (by simp [hx])) (by simpa using h)
    simp only [indexByte]
    rw [if_neg (by simpa using hb), ih, if_neg (by simp)]
    omega
theorem indexByte_none : ∀ (l : List UInt8) (c : UInt8), (∀ x ∈ l, x ≠ c) → indexByte l c = -1
  | [], c, _ => rfl
  | b :: l, c, h => by
    have hb : b ≠ c := h b (by simp)
    have ih := indexByte_none l c (fun x hx => h x (by simp [hx]))
    simp only [indexByte]
    rw [if_neg (by simpa using hb), ih, if_pos (by simp)]
theorem nDigits_le : ∀ (k u : Nat), u < 10 ^ (k + 1) → nDigits u ≤ k + 1
  | 0, u, h => by rw [nDigits_small (by simpa using h)]; exact Nat.le_refl _
  | k + 1, u, h => by
    by_cases h10 : u < 10
    · rw [nDigits_small h10]; omega
    · rw [nDigits_big h10]
      have := nDigits_le k (u / 10) (by rw [Nat.pow_succ] at h; omega)
      omega
theorem itoa_le20 {v : Int} (h0 : -9223372036854775808 ≤ v) (h1 : v ≤ 9223372036854775807) : (itoa v).length ≤ 20 := by
  unfold itoa
  split
  · have := nDigits_le 18 v.natAbs (by omega)
    simp only [List.length_cons, decDigits_length]; omega
  · have := nDigits_le 18 v.toNat (by omega)
    simp only [decDigits_length]; omega
theorem numOf_long {l : List UInt8} (h : 20 < l.length) : numOf l = none := by
  cases hx : numOf l with
  | none => rfl
  | some v =>
    obtain ⟨e, h0, h1⟩ := numOf_some hx
    have := itoa_le20 h0 h1
    rw [e] at this
    omega
theorem rNumber_min {st : St} {e : UInt8} {least : Int} (h : least ≤ -9223372036854775808) : rNumber st e least =
    if indexByte ((st.getD []).take 21) e < 0 then (0, none) else
    match numOf ((st.getD []).take (indexByte ((st.getD []).take 21) e).toNat) with
    | some n => (n, some ((st.getD []).drop ((indexByte ((st.getD []).take 21) e).toNat + 1)))
    | none => (0, none) := by
  rw [rNumber_eq]
  split
  · rfl
  · cases hx : numOf ((st.getD []).take (indexByte ((st.getD []).take 21) e).toNat) with
    | none => rfl
    | some n =>
      have := numOf_i64 hx
      simp only []
      rw [if_neg (by omega)]
theorem ahead_no {st : St} {c : UInt8} (h : ∀ x ∈ (st.getD []).take 21, x ≠ c) : rInt' st c = (0, none) := by
  unfold rInt'
  rw [rNumber_min (Int.le_refl _), indexByte_none _ _ h, if_pos (by decide)]
theorem ahead_at {st : St} {c : UInt8} {k : Nat} (hk : k < 21) (h : ∀ x ∈ (st.getD []).take k, x ≠ c) (hc : (st.getD [])[k]? = some c) :
    rInt' st c = match numOf ((st.getD []).take k) with | some n => (n, some ((st.getD []).drop (k + 1))) | none => (0, none) := by
  have e : indexByte ((st.getD []).take 21) c = k := indexByte_at _ _ _ (by rw [List.take_take, Nat.min_eq_left (by omega)]; exact h) (by rw [List.getElem?_take, if_pos hk]; exact hc)
  unfold rInt'
  rw [rNumber_min (Int.le_refl _), e, if_neg (by omega)]
  simp
theorem rNumber_zero_eq (st : St) (c : UInt8) : rNumber st c 0 = if (rInt' st c).1 < 0 then (0, none) else rInt' st c := by
  unfold rInt'
  rw [rNumber_min (Int.le_refl _), rNumber_eq]
  split
  · rfl
  · cases hx : numOf ((st.getD []).take (indexByte ((st.getD []).take 21) c).toNat) with
    | none => rfl
    | some n => rfl
end Go.Proofs.YtiednpagknnfnaaGreatDoor.Wire
namespace Go.Proofs.YtiednpagknnfnaaGreatDoor.Wire
open Go.Lib Go.RowKit
end Go.Proofs.YtiednpagknnfnaaGreatDoor.Wire
namespace Go.Proofs.YtiednpagknnfnaaGreatDoor.Wire
open Go.Lib Go.RowKit
theorem indexByte_get : ∀ (l : List UInt8) (c : UInt8), 0 ≤ indexByte l c → l[(indexByte l c).toNat]? = some c
  | [], c, h => by simp [indexByte] at h
  | b :: l, c, h => by
    simp only [indexByte] at h ⊢
    split
    · rename_i hb
      have : b = c := by simpa using hb
      simp [this]
    · rename_i hb
      rw [if_neg hb] at h
      split at h
      · omega
      · rename_i h1
        have h1' : indexByte l c ≠ -1 := by simpa using h1
        rw [if_neg h1]
        have ih := indexByte_get l c (by have := indexByte_ge l c; omega)
        have e : (indexByte l c + 1).toNat = (indexByte l c).toNat + 1 := by have := indexByte_ge l c; omega
        rw [e, List.getElem?_cons_succ]
        exact ih
theorem rNumber_inv {r r' : List UInt8} {e : UInt8} {least n : Int} (h : rNumber (some r) e least = (n, some r')) :
    r = itoa n ++ e :: r' ∧ least ≤ n ∧ -9223372036854775808 ≤ n ∧ n ≤ 9223372036854775807 := by
  unfold rNumber at h
  dsimp only at h
  split at h
  · simp at h
  · rename_i hi
    split at h
    · rename_i m hm
      split at h
      · simp at h
      · rename_i hl
        simp only [Prod.mk.injEq, Option.some.injEq] at h
        obtain ⟨rfl, rfl⟩ := h
        obtain ⟨e1, h0, h1⟩ := numOf_some hm
        refine ⟨?_, by omega, h0, h1⟩
        have hlt := indexByte_lt (r.take 21) e
        have hg := indexByte_get (r.take 21) e (by omega)
        generalize (indexByte (r.take 21) e).toNat = i at *
        rw [List.getElem?_take] at hg
        split at hg
        · have hil : i < r.length := by
            rcases Nat.lt_or_ge i r.length with h' | h'
            · exact h'
            · rw [List.getElem?_eq_none h'] at hg; cases hg
          rw [e1, ← List.take_append_drop i r]
          congr 1
          · simp
          · rw [List.take_append_drop, List.drop_eq_getElem_cons hil]
            rw [List.getElem?_eq_getElem hil] at hg
            injection hg with hg
            rw [hg]
        · cases hg
    · simp at h
theorem rClose_inv {r r' : List UInt8} {c : UInt8} (h : rClose (some r) c = some r') : r = c :: r' := by
  cases r with
  | nil => simp [rClose] at h
  | cons d r =>
    simp only [rClose] at h
    split at h
    · rename_i hd; injection h with h; rw [hd, h]
    · cases h
theorem rNum_inv {r r' : List UInt8} {n : Int} (h : rNum (some r) = (n, some r')) : r = numE n ++ r' := by
  obtain ⟨e, h0, _⟩ := rNumber_inv h
  rw [e, numE, if_neg (by omega), intE]; simp
theorem rText_inv {r r' t : List UInt8} (h : rText (some r) = (t, some r')) : r = textE t ++ r' := by
  cases hq : rNumber (some r) 58 0 with
  | mk n s =>
    cases s with
    | none => rw [rText_none hq] at h; simp at h
    | some r1 =>
      obtain ⟨e, h0, _⟩ := rNumber_inv hq
      by_cases hn : n ≤ r1.length
      · cases hc : rClose (some (r1.drop n.toNat)) 44 with
        | none => rw [rText_open hq hn hc] at h; simp at h
        | some r2 =>
          rw [rText_ok hq hn hc] at h
          simp only [Prod.mk.injEq, Option.some.injEq] at h
          obtain ⟨rfl, rfl⟩ := h
          have hd := rClose_inv hc
          have hlen : (r1.take n.toNat).length = n.toNat := by rw [List.length_take]; omega
          rw [e, textE, hlen, show ((n.toNat : Nat) : Int) = n by omega]
          conv => lhs; rw [← List.take_append_drop n.toNat r1, hd]
          simp
      · rw [rText_far hq (by omega)] at h; simp at h
theorem rText_fail {st : St} (h : (rText st).2 = none) : (rText st).1 = [] := by
  cases hq : rNumber st 58 0 with
  | mk n s =>
    cases s with
    | none => rw [rText_none hq]
    | some r =>
      by_cases hn : n ≤ r.length
      · cases hc : rClose (some (r.drop n.toNat)) 44 with
        | none => rw [rText_open hq hn hc]
        | some r' => rw [rText_ok hq hn hc] at h; simp at h
      · rw [rText_far hq (by omega)]
end Go.Proofs.YtiednpagknnfnaaGreatDoor.Wire
namespace Go.Proofs.YtiednpagknnfnaaGreatDoor.Wire
open Go.Lib Go.RowKit
def Int64 (n : Int) : Prop := -9223372036854775808 ≤ n ∧ n ≤ 9223372036854775807
theorem itoa_chars {n : Int} {c : UInt8} (h : c ∈ itoa n) : c.toNat = 45 ∨ (48 ≤ c.toNat ∧ c.toNat ≤ 57) := by
  unfold itoa at h
  split at h
  · rcases List.mem_cons.1 h with rfl | h
    · exact Or.inl rfl
    · exact Or.inr (decDigits_digits _ _ (Nat.lt_succ_self _) c h)
  · exact Or.inr (decDigits_digits _ _ (Nat.lt_succ_self _) c h)
theorem rNumber_back {n least : Int} {e : UInt8} {r : List UInt8} (h : Int64 n) (hl : least ≤ n) (he : 58 ≤ e.toNat) : rNumber (some (itoa n ++ e :: r)) e least = (n, some r) := by
  have h20 := itoa_le20 h.1 h.2
  have hne : ∀ x ∈ itoa n, x ≠ e := fun x hx heq => by
    have := itoa_chars hx
    rw [heq] at this; omega
  have hi : indexByte ((itoa n ++ e :: r).take 21) e = (itoa n).length := by
    refine indexByte_at _ _ _ ?_ ?_
    · intro x hx
      rw [List.take_take, Nat.min_eq_left (by omega), List.take_left'] at hx
      · exact hne x hx
      · rfl
    · rw [List.getElem?_take, if_pos (by omega), List.getElem?_append_right (Nat.le_refl _)]; simp
  simp only [rNumber, hi]
  rw [if_neg (by omega)]
  have ht : (itoa n ++ e :: r).take (((itoa n).length : Int)).toNat = itoa n := by simp
  rw [ht, numOf_itoa h.1 h.2]
  simp only []
  rw [if_neg (by omega)]
  simp
theorem rNum_back {n : Int} {r : List UInt8} (h : Int64 n) (h0 : 0 ≤ n) : rNum (some (numE n ++ r)) = (n, some r) := by
  have e : numE n ++ r = itoa n ++ 59 :: r := by rw [numE, if_neg (by omega), intE]; simp
  rw [e]; exact rNumber_back h h0 (by decide)
theorem rText_back {s r : List UInt8} (h : s.length ≤ 9223372036854775807) : rText (some (textE s ++ r)) = (s, some r) := by
  have e : textE s ++ r = itoa (s.length : Int) ++ 58 :: (s ++ 44 :: r) := by rw [textE]; simp
  have hq := rNumber_back (n := s.length) (least := 0) (e := 58) (r := s ++ 44 :: r) ⟨by omega, by omega⟩ (by omega) (by decide)
  rw [e, rText_ok (r' := r) hq (by simp; omega) (by simp [rClose])]
  simp
end Go.Proofs.YtiednpagknnfnaaGreatDoor.Wire
namespace Go.Proofs.YtiednpagknnfnaaGreatDoor
open Go.RowKit
def nG : Nat := 4
structure Upd (S : Nat → Prop) (w w' : World) : Prop where
  os : w'.os = w.os
  tape : w'.tape = w.tape
  output : w'.output = w.output
  size : w.heap.size ≤ w'.heap.size
  block : ∀ k, k < w.heap.size → (k < nG ∨ ¬ S k) → w'.heap[k]? = w.heap[k]?
abbrev Nw (w w' : World) : Prop := Upd (fun _ => False) w w'
theorem Upd.refl (S : Nat → Prop) (w : World) : Upd S w w := ⟨rfl, rfl, rfl, Nat.le_refl _, fun _ _ _ => rfl⟩
theorem Upd.mono {S S' : Nat → Prop} {w w' : World} (h : Upd S w w') (hs : ∀ k, k < w.heap.size → S k → S' k) : Upd S' w w' :=
  ⟨h.os, h.tape, h.output, h.size, fun k hk hn => h.block k hk (hn.imp id (fun n s => n (hs k hk s)))⟩
theorem Upd.trans' {S S' : Nat → Prop} {a b c : World} (h : Upd S a b) (k : Upd S' b c) (hs : ∀ x, x < a.heap.size → S' x → S x) : Upd S a c :=
  ⟨k.os.trans h.os, k.tape.trans h.tape, k.output.trans h.output, Nat.le_trans h.size k.size,
    fun i hi hn => (k.block i (Nat.lt_of_lt_of_le hi h.size) (hn.imp id (fun n s => n (hs i hi s)))).trans (h.block i hi hn)⟩
theorem Upd.trans {S : Nat → Prop} {a b c : World} (h : Upd S a b) (k : Upd S b c) : Upd S a c := h.trans' k (fun _ _ s => s)
theorem Upd.nw {S : Nat → Prop} {a b c : World} (h : Upd S a b) (k : Nw b c) : Upd S a c := h.trans' k (fun _ _ s => s.elim)
theorem Nw.upd {w w' : World} (S : Nat → Prop) (h : Nw w w') : Upd S w w' := h.mono (fun _ _ s => s.elim)
theorem Nw.trans {S : Nat → Prop} {a b c : World} (h : Nw a b) (k : Upd S b c) : Upd S a c := (h.upd S).trans k
theorem Upd.of_below {w w' : World} (S : Nat → Prop) (h : Below w.heap.size w w') : Upd S w w' :=
  ⟨h.os, h.tape, h.output, h.size, fun k hk _ => h.block k hk⟩
theorem Nw.below {w w' : World} (h : Nw w w') : Below w.heap.size w w' := ⟨h.os, h.tape, h.output, h.size, fun k hk => h.block k hk (Or.inr id)⟩
theorem Upd.drew {S : Nat → Prop} {a b : World} (h : Upd S a b) : Upd S a b.drew := ⟨h.os, h.tape, h.output, h.size, h.block⟩
theorem Upd.drewN {S : Nat → Prop} {a b : World} (h : Upd S a b) (n : Nat) : Upd S a (b.drewN n) := ⟨h.os, h.tape, h.output, h.size, h.block⟩
theorem heap_alloc (w : World) (o : Obj) (k : Nat) (h : k < w.heap.size) : (w.alloc o).heap[k]? = w.heap[k]? := by
  show (w.heap.push o)[k]? = _
  rw [Array.getElem?_push, if_neg (by omega)]
theorem heap_new (w : World) (o : Obj) : (w.alloc o).heap[w.heap.size]? = some o := by
  show (w.heap.push o)[w.heap.size]? = _
  simp
theorem heap_setCell (w : World) (a : Addr) (u : Value) (k : Nat) (h : k ≠ a.block) : (w.setCell a u).heap[k]? = w.heap[k]? := by
  simp only [World.setCell, Array.getElem?_modify]
  rw [if_neg (by omega)]
theorem Upd.alloc {S : Nat → Prop} {a b : World} (h : Upd S a b) (o : Obj) : Upd S a (b.alloc o) :=
  ⟨h.os, h.tape, h.output, by have := h.size; simp; omega, fun k hk hn => (heap_alloc b o k (by have := h.size; omega)).trans (h.block k hk hn)⟩
theorem Upd.setCell {S : Nat → Prop} {a b : World} (h : Upd S a b) {p : Addr} (hp : S p.block ∨ a.heap.size ≤ p.block) (hg : nG ≤ p.block) (u : Value) : Upd S a (b.setCell p u) :=
  ⟨h.os, h.tape, h.output, by simpa [World.setCell] using h.size, fun k hk hn => by
    refine (heap_setCell b p u k ?_).trans (h.block k hk hn)
    rintro rfl
    rcases hp with hp | hp
    · rcases hn with hn | hn
      · omega
      · exact hn hp
    · omega⟩
theorem Upd.set1 {b : Nat} {a w : World} (h : Upd (fun x => x = b) a w) (hg : nG ≤ b) (i : Nat) (u : Value) : Upd (fun x => x = b) a (w.setCell ⟨b, i, none⟩ u) := h.setCell (Or.inl rfl) hg u
theorem nw_drewN (w : World) (n : Nat) : ∃ w1, w.drewN n = w1 ∧ Nw w w1 := ⟨_, rfl, (Upd.refl _ _).drewN n⟩
theorem nw_drew (w : World) : ∃ w1, w.drew = w1 ∧ Nw w w1 := ⟨_, rfl, (Upd.refl _ _).drew⟩
def Later (w : World) : Type := { w' : World // Nw w w' }
instance (w : World) : Nonempty (Later w) := ⟨⟨w, Upd.refl _ _⟩⟩
theorem Later.nw {w : World} (i : Later w) : Nw w i.1 := i.2
theorem wp_region_nw {P : Program} {id : Nat} {Q : Exit → Act → World → Prop} {a : Act} {w : World} {l : List Oper} (hm : P.follows .mixedOrders = true) (hB : Region.lexB .any l.toArray = true)
    (h : wpQuiet P l.toArray (fun w' => ∃ i : Later w, w' = i.1) (fun a' => ∀ w', (∃ i : Later w, w' = i.1) → Q .normal a' w') l a) : (Code.region id l.toArray true).wp P Q a w :=
  wp_region_quiet (C := fun w' => ∃ i : Later w, w' = i.1) hm hB ⟨⟨_, (Upd.refl _ w).drew⟩, rfl⟩ (by simpa using h)
theorem later_out {w w' : World} (h : ∃ i : Later w, w' = i.1) : Nw w w' := by
  obtain ⟨i, rfl⟩ := h
  exact i.2
theorem later_call {P : Program} {f : FuncId} {args : Array Value} {w : World} {i : Later w} {v : Value} (h : Calls P f args i.1 fun e w' => e = .returned v ∧ Nw i.1 w') :
    Calls P f args i.1 fun e w' => e = .returned v ∧ ∃ j : Later w, w' = j.1 :=
  h.mono fun _ _ ⟨he, hu⟩ => ⟨he, ⟨_, Upd.trans i.2 hu⟩, rfl⟩
theorem later_cell {w : World} (i : Later w) {a : Addr} {v : Value} (h : w.cell? a = some v) : i.1.cell? a = some v :=
  (World.cell?_of_block (i.2.block a.block (World.block_lt_of_cell? w a h) (Or.inr id))).trans h
theorem lt_of_block {w : World} {b : Nat} {o : Obj} (h : w.heap[b]? = some o) : b < w.heap.size := by
  rcases Nat.lt_or_ge b w.heap.size with h' | h'
  · exact h'
  · simp [Array.getElem?_eq_none h'] at h
theorem cells_cell {w : World} {b : Nat} {cs : Array Value} {T : TypeId} {fz : Nat × Nat} (h : w.heap[b]? = some (.cells cs T fz)) (i : Nat) : w.cell? ⟨b, i, none⟩ = cs[i]? := by
  simp [World.cell?, h]
theorem cells_frozen {w : World} {b : Nat} {cs : Array Value} {T : TypeId} (h : w.heap[b]? = some (.cells cs T (0, 0))) (i : Nat) : w.frozen? ⟨b, i, none⟩ = false := by
  simp [World.frozen?, h]
theorem setCell_block {w : World} {b : Nat} {cs : Array Value} {T : TypeId} {fz : Nat × Nat} (h : w.heap[b]? = some (.cells cs T fz)) (i : Nat) (v : Value) :
    (w.setCell ⟨b, i, none⟩ v).heap[b]? = some (.cells (cs.setIfInBounds i v) T fz) := by
  simp [World.setCell, Array.getElem?_modify, h]
theorem Upd.keep {S : Nat → Prop} {w w' : World} {b : Nat} {o : Obj} (u : Upd S w w') (h : w.heap[b]? = some o) (hn : ¬ S b) : w'.heap[b]? = some o :=
  (u.block b (lt_of_block h) (Or.inr hn)).trans h
theorem Nw.keep {w w' : World} {b : Nat} {o : Obj} (u : Nw w w') (h : w.heap[b]? = some o) : w'.heap[b]? = some o := Upd.keep u h id
theorem bs_extract (l : List UInt8) (a b : Nat) : (ByteArray.mk l.toArray).extract a b = ByteArray.mk ((l.drop a).take (b - a)).toArray := ByteArray.extract_mk l a b
theorem bs_list (l : List UInt8) : (ByteArray.mk l.toArray).data.toList = l := by simp
theorem bs_extract_list (s : ByteArray) (a b : Nat) : (s.extract a b).data.toList = (s.data.toList.drop a).take (b - a) := by
  cases s with | mk d => rw [show (ByteArray.mk d) = ByteArray.mk d.toList.toArray by simp, bs_extract]
theorem bs_append_list (a b : ByteArray) : (a ++ b).data.toList = a.data.toList ++ b.data.toList := by simp [ByteArray.data_append]
theorem bs_size (s : ByteArray) : s.size = s.data.toList.length := by rw [Array.length_toList]; rfl
theorem bs_toList (s : ByteArray) : s.toList = s.data.toList := ByteArray.toList_eq s
theorem nw_alloc (w : World) (o : Obj) : Nw w (w.alloc o) := (Upd.refl _ w).alloc o
theorem bs_eta (s : ByteArray) : ByteArray.mk (s.data.toList).toArray = s := by cases s; simp
theorem ret_bs {s : ByteArray} {l : List UInt8} (h : s.data.toList = l) : Ending.returned (.string s) = .returned (.string ⟨l.toArray⟩) := by rw [← h, bs_eta]
theorem ret_int {k : IntKind} {a b : Int} (h : a = b) : Ending.returned (.int k a) = .returned (.int k b) := by rw [h]
theorem ret_bool {a b : Bool} (h : a = b) : Ending.returned (.bool a) = .returned (.bool b) := by rw [h]
def Sl (lo hi : Nat) (w : World) (v : Value) (xs : List Value) : Prop :=
  (∃ a cap, v = .slice a 0 cap ∧ xs = []) ∨
  ∃ b off cap, v = .slice (some ⟨b, off, none⟩) xs.length cap ∧ xs.length ≤ cap ∧ cap ≤ maxLen ∧ lo ≤ b ∧ b < hi ∧ b < w.heap.size ∧ ∀ i, i < xs.length → w.cell? ⟨b, off + i, none⟩ = xs[i]?
theorem Sl.upd {lo hi : Nat} {S : Nat → Prop} {w w' : World} {v : Value} {xs : List Value} (h : Sl lo hi w v xs) (u : Upd S w w') (hs : ∀ k, lo ≤ k → k < hi → ¬ S k) : Sl lo hi w' v xs := by
  rcases h with h | ⟨b, off, cap, h1, h2, h3, h4, h5, h6, h7⟩
  · exact Or.inl h
  · refine Or.inr ⟨b, off, cap, h1, h2, h3, h4, h5, Nat.lt_of_lt_of_le h6 u.size, fun i hi' => ?_⟩
    rw [← h7 i hi']
    exact World.cell?_of_block (u.block b h6 (Or.inr (hs b h4 h5)))
theorem Sl.nw {lo hi : Nat} {w w' : World} {v : Value} {xs : List Value} (h : Sl lo hi w v xs) (u : Nw w w') : Sl lo hi w' v xs := h.upd u (fun _ _ _ s => s)
theorem Sl.len {lo hi : Nat} {w : World} {v : Value} {xs : List Value} (h : Sl lo hi w v xs) : xs.length ≤ maxLen := by
  rcases h with ⟨_, _, _, rfl⟩ | ⟨b, off, cap, h1, h2, h3, h4, h5, h6, h7⟩
  · exact Nat.zero_le _
  · exact Nat.le_trans h2 h3
theorem Sl.of_owns {base : Nat} {e : TypeId} {w : World} {v : Value} {n : Nat} {xs : List Value} (h : w.ownsRow base e 1 v n xs) : Sl base w.heap.size w v xs := by
  obtain ⟨h1, h2⟩ := h
  rw [Nat.mul_one] at h1
  rcases h2 with ⟨rfl, rfl⟩ | ⟨g, cap, cur, rfl, hb, hg, hn, hm, hs, ht⟩
  · exact Or.inl ⟨_, _, rfl, List.length_eq_zero_iff.1 h1⟩
  · subst h1
    refine Or.inr ⟨g, 0, cap, rfl, hn, hm, hb, lt_of_block hg, lt_of_block hg, fun i hi => ?_⟩
    rw [cells_cell hg, Nat.zero_add, ← ht, Nat.mul_one, List.getElem?_take, if_pos hi]
    simp
theorem Upd.grown {S : Nat → Prop} {a w w' : World} {row : Option Nat} (h : Upd S a w) (hg : w.grownBy w' row) (hr : ∀ k, row = some k → (S k ∨ a.heap.size ≤ k) ∧ nG ≤ k) : Upd S a w' :=
  ⟨hg.os.trans h.os, hg.tape.trans h.tape, hg.output.trans h.output, Nat.le_trans h.size hg.size, fun k hk hn => by
    refine (hg.block k (Nat.lt_of_lt_of_le hk h.size) (fun e => ?_)).trans (h.block k hk hn)
    obtain ⟨h1, h2⟩ := hr k e.symm
    rcases hn with hn | hn
    · omega
    · rcases h1 with h1 | h1
      · exact hn h1
      · omega⟩
theorem Sl.open_ {lo hi : Nat} {w : World} {v : Value} {xs : List Value} (h : Sl lo hi w v xs) :
    ∃ a cap, v = .slice a xs.length cap ∧ xs.length ≤ maxLen ∧ ((True ∧ True ∧ xs = []) ∨ ∃ b off, a = some ⟨b, off, none⟩ ∧ lo ≤ b ∧ b < hi ∧ b < w.heap.size ∧ ∀ i, i < xs.length → w.cell? ⟨b, off + i, none⟩ = xs[i]?) := by
  have hl := h.len
  rcases h with ⟨a, cap, rfl, rfl⟩ | ⟨b, off, cap, h1, h2, h3, h4, h5, h6, h7⟩
  · exact ⟨a, cap, rfl, hl, Or.inl ⟨trivial, trivial, rfl⟩⟩
  · exact ⟨some ⟨b, off, none⟩, cap, h1, hl, Or.inr ⟨b, off, rfl, h4, h5, h6, h7⟩⟩
theorem add_plain (b o j : Nat) : (⟨b, o, none⟩ : Addr).add j = ⟨b, o + j, none⟩ := by
  unfold Addr.add
  split
  · rename_i h; subst h; rfl
  · rfl
theorem wpList_app {P : Program} {w : World} {ops : Array Oper} {rest : List Oper} {o : Oper} {a : Act} {Q : Exit → Act → World → Prop} (hgd : o.guard = none) (s x : Operand) (t : TypeId)
    (ho : o.op = .call { callee := .builtin .append, args := #[s, x], argTypes := #[t, t] })
    (base : Nat) (e : TypeId) (z : Value) (size bytes : Nat) (ht : P.underlying t = some (.slice e)) (hinfo : (P.info? e).map (fun i => (i.zero, i.size, i.bytes)) = some (some z, size, bytes)) (hzs : z.cells.size = size) (hsz : 0 < size)
    (v : Value) (n : Nat) (xs : List Value) (hs : a.eval s = v) (hown : w.ownsRow base e size v n xs)
    (news : List Value) (hx : a.eval x = .slice (some ⟨w.heap.size, 0, none⟩) 1 1) (hl : news.length = size) (h1 : ∀ u ∈ news, u.oneCell' = true)
    (h63 : n + 1 ≤ maxLen) (hbytes : (n + 1) * bytes ≤ 140737488355328) (hbase : base ≤ w.heap.size)
    (h : ∀ v' w', w'.ownsRow base e size v' (n + 1) (xs ++ news) → Nw w (w.alloc (.cells news.toArray e)) → (w.alloc (.cells news.toArray e)).grownBy w' v.ownBlock → (∀ k, v.ownBlock = some k → base ≤ k ∧ k < w.heap.size) → wpList P ops Q rest (a.put o.dst v') w') : wpList P ops Q (o :: rest) a (w.alloc (.cells news.toArray e)) := by
  obtain ⟨i0, hi, hz0, hz1, hz2⟩ := info_parts hinfo
  refine wpList_append_own _ hgd s x t ho base e i0 z size bytes ht hi hz0 hz1 hz2 hzs hsz v n xs hs (hown.alloc _) ⟨w.heap.size, 0, none⟩ 1 1 news hx (by omega) ?_ h1 h63 hbytes (by simp; omega) fun v' w' h2 h3 _ => h v' w' h2 (nw_alloc _ _) h3 hown.lt
  intro j u hu
  have hb := heap_new w (.cells news.toArray e)
  rw [add_plain, cells_cell hb, Nat.zero_add]
  simpa using hu
end Go.Proofs.YtiednpagknnfnaaGreatDoor
namespace Go.Proofs.YtiednpagknnfnaaGreatDoor
open Go.RowKit Go.MapKept
open Go.Maps (Keyed)
def MapL (P : Program) (k : TypeId) (w : World) (b : Nat) (l : List (Value × Value)) : Prop :=
  ∃ es clock, w.heap[b]? = some (.map es clock) ∧ (es.toList.map (fun e => (e.key, e.val))).Perm l ∧ (∀ p ∈ l, ∃ x, keyOf P k p.1 = some x) ∧ Stamped es clock
theorem MapL.lt {P : Program} {k : TypeId} {w : World} {b : Nat} {l : List (Value × Value)} (h : MapL P k w b l) : b < w.heap.size := by
  obtain ⟨es, clock, hb, _⟩ := h
  exact lt_of_block hb
theorem MapL.upd {P : Program} {k : TypeId} {w w' : World} {b : Nat} {l : List (Value × Value)} {S : Nat → Prop} (h : MapL P k w b l) (u : Upd S w w') (hn : ¬ S b) : MapL P k w' b l := by
  obtain ⟨es, clock, hb, r⟩ := h
  exact ⟨es, clock, u.keep hb hn, r⟩
theorem MapL.nw {P : Program} {k : TypeId} {w w' : World} {b : Nat} {l : List (Value × Value)} (h : MapL P k w b l) (u : Nw w w') : MapL P k w' b l := h.upd u id
theorem MapL.made (P : Program) (k : TypeId) (w : World) : MapL P k (w.alloc (.map #[] 0)) w.heap.size [] :=
  ⟨#[], 0, heap_new w _, List.Perm.refl _, (fun p hp => by cases hp), stamped_empty 0⟩
theorem MapL.perm {P : Program} {k : TypeId} {w : World} {b : Nat} {l l' : List (Value × Value)} (h : MapL P k w b l) (hp : l.Perm l') : MapL P k w b l' := by
  obtain ⟨es, clock, hb, h1, h2, h3⟩ := h
  exact ⟨es, clock, hb, h1.trans hp, fun p hq => h2 p (hp.mem_iff.2 hq), h3⟩
theorem MapL.look {P : Program} {t k e : TypeId} {w : World} {b : Nat} {l : List (Value × Value)} (h : MapL P k w b l) (K : Keyed P k) (ht : P.underlying t = some (.map k e)) {z : Value} (hz : (zeroValue e).run P w = .ok z w) {key : Value} {kl : Lit} (hkey : keyOf P k key = some kl) :
    (∃ v, (key, v) ∈ l ∧ ∀ c, (Instr.lookup t (.map (some b)) key c).run P w = .ok (if c then .tuple #[v, .bool true] else v) w) ∨
    ((∀ p ∈ l, p.1 ≠ key) ∧ ∀ c, (Instr.lookup t (.map (some b)) key c).run P w = .ok (if c then .tuple #[z, .bool false] else z) w) := by
  obtain ⟨es, clock, hb, hpm, hk, hs⟩ := h
  have hke : ∀ x ∈ es.toList, ∃ l, keyOf P k x.key = some l := fun x hx => hk (x.key, x.val) (hpm.mem_iff.1 (List.mem_map.2 ⟨x, hx, rfl⟩))
  rcases K.find w hkey es.toList hke with ⟨h1, h2⟩ | ⟨j, e0, h1, h2, h3⟩
  · refine Or.inr ⟨fun p hp => ?_, fun c => by simp [Instr.lookup, run_underlying ht, MapKept.run_getObj_map hb, K.check w _ hkey, h1, hz, Result.andThen]⟩
    obtain ⟨x, hx, rfl⟩ := List.mem_map.1 (hpm.mem_iff.2 hp)
    exact h2 x hx
  · have hm0 : e0 ∈ es.toList := List.mem_of_getElem? h2
    refine Or.inl ⟨e0.val, hpm.mem_iff.1 (List.mem_map.2 ⟨e0, hm0, by rw [h3]⟩), fun c => by simp [Instr.lookup, run_underlying ht, MapKept.run_getObj_map hb, K.check w _ hkey, h1, Result.andThen]⟩
theorem Upd.setBlock {w : World} {b : Nat} (hg : nG ≤ b) (o : Obj) : Upd (· = b) w { w with heap := w.heap.setIfInBounds b o } :=
  ⟨rfl, rfl, rfl, by simp, fun k hk hn => by
    have hne : b ≠ k := by
      rintro rfl
      rcases hn with hn | hn
      · omega
      · exact hn rfl
    simp [Array.getElem?_setIfInBounds, hne]⟩
theorem wpList_lookL {P : Program} {w : World} {ops : Array Oper} {rest : List Oper} {o : Oper} {a : Act} {Q : Exit → Act → World → Prop} (hg : o.guard = none) (m x : Operand) (t : TypeId) (c : Bool) (hop : o.op = Op.lookup t m x c)
    (vm key v : Value) (hm : a.eval m = vm) (hx : a.eval x = key) (hrun : (Instr.lookup t vm key c).run P w = .ok v w) (h : wpList P ops Q rest (a.put o.dst v) w) : wpList P ops Q (o :: rest) a w := by
  refine wpList_plain hg fun K hK => ?_
  unfold Oper.wp
  simp [execOp, hop, hm, hx, hrun, Result.andThen]
  exact hK _ _ h
theorem wpList_storeL {P : Program} {w w' : World} {ops : Array Oper} {rest : List Oper} {o : Oper} {a : Act} {Q : Exit → Act → World → Prop} (hg : o.guard = none) (m x y : Operand) (t : TypeId) (hop : o.op = Op.mapUpdate t m x y)
    (vm key v : Value) (hm : a.eval m = vm) (hx : a.eval x = key) (hy : a.eval y = v) (hrun : (Instr.mapUpdate t vm key v).run P w = .ok () w') (h : wpList P ops Q rest (a.put o.dst undef) w') : wpList P ops Q (o :: rest) a w := by
  refine wpList_plain hg fun K hK => ?_
  unfold Oper.wp
  simp [execOp, hop, hm, hx, hy, hrun, Result.andThen]
  exact hK _ _ h
theorem i64_wf' {k : Int} (h : -9223372036854775808 ≤ k ∧ k ≤ 9223372036854775807) : (Lit.int .i64 k).wf = true := by
  simp [Lit.wf, IntKind.min, IntKind.max, IntKind.signed, IntKind.bits]
  omega
end Go.Proofs.YtiednpagknnfnaaGreatDoor
namespace Go.Proofs.YtiednpagknnfnaaGreatDoor
open Go.RowKit Go.MapKept
open Go.Maps (Keyed)
open Go.ChangeMaps (setBlock)
def kv (e : MapEntry) : Value × Value := (e.key, e.val)
variable {P : Program} {k : TypeId} {w : World} {b r : Nat} {l d : List (Value × Value)}
theorem stamp_nodup {es : List MapEntry} (h : (es.map (·.born)).Nodup) : es.Nodup := (List.pairwise_map.1 h).imp (fun hne e => hne (by rw [e]))
end Go.Proofs.YtiednpagknnfnaaGreatDoor
namespace Go.Proofs.YtiednpagknnfnaaGreatDoor
open Go.RowKit
section
variable {P : Program} {md : Region.Mode} {ops : Array Oper} {C : World → Prop}
def headQ (P : Program) (md : Region.Mode) (ops : Array Oper) (C : World → Prop) (n : Nat) (L : Array Bool → Act → Prop) : Nat → Array Bool → Act → Prop
  | 0, listed, a => L listed a
  | f + 1, listed, a => Region.ready md ops listed ≠ [] ∧ ∀ i ∈ Region.ready md ops listed, i < n ∧ qOp P ops C i (headQ P md ops C n L f (listed.setIfInBounds i true)) a
theorem any_of_headQ {n g : Nat} {L : Array Bool → Act → Prop} {Q' : Exit → Act → World → Prop} (hL : ∀ listed a w, C w → L listed a → wpAny P md ops Q' g listed a w) :
    ∀ (f : Nat) (listed : Array Bool) (a : Act) (w : World), C w → headQ P md ops C n L f listed a → wpAny P md ops Q' (f + g) listed a w
  | 0, listed, a, w, hw, h => by rw [Nat.zero_add]; exact hL _ _ _ hw h
  | f + 1, listed, a, w, hw, h => by
    rw [show f + 1 + g = (f + g) + 1 by omega]
    exact ⟨fun h0 => absurd h0 h.1, fun i hi => wpOp_of_qOp hw (fun a' w' hw' h' => any_of_headQ hL f _ a' w' hw' h') (h.2 i hi).2⟩
theorem headQ_first {n i : Nat} {oi : Oper} {v : Value} {L : Array Bool → Act → Prop} (hi : ops[i]? = some oi) (hsel : ∀ (j : Nat) (o : Oper) cs b, ops[j]? = some o → o.op ≠ .select cs b)
    (hs : Region.sinkB md ops n = true) (hc : Region.chainB md ops n = true) (hn : n < ops.size) (hin : i < n)
    (hdone : ∀ listed a, L listed a → ∀ j ∈ Region.ready md ops listed, n ≤ j) :
    ∀ (f : Nat) (listed : Array Bool) (a : Act), HeadInv md ops n listed →
      (∀ j oj, ops[j]? = some oj → j ≠ i → listed.getD j true = false → (∀ e ∈ oj.after, Region.binds md e = true → e.on ≠ i) → oi.apart ops oj = true) →
      i ∈ Region.ready md ops listed → YieldsIn P ops C oi v a →
      headQ P md ops C n L f (listed.setIfInBounds i true) (a.put oi.dst v) → headQ P md ops C n L (f + 1) listed a := by
  intro f
  induction f with
  | zero =>
    intro listed a inv _ hr hy H
    have hun := (mem_ready.1 hr).1
    refine ⟨fun h => (by rw [h] at hr; cases hr), fun j hj => ?_⟩
    have hjn : j < n := by
      rcases Nat.lt_or_ge j n with h | h
      · exact h
      · exact absurd hj (tail_waits hs hc hn inv _ i rfl hin hun j h)
    refine ⟨hjn, ?_⟩
    by_cases hji : j = i
    · subst hji; exact hy.qOp hi H
    · have := hdone _ _ H j (ready_mono hj hji)
      omega
  | succ f ih =>
    intro listed a inv hfree hr hy H
    have hun := (mem_ready.1 hr).1
    refine ⟨fun h => (by rw [h] at hr; cases hr), fun j hj => ?_⟩
    have hjn : j < n := by
      rcases Nat.lt_or_ge j n with h | h
      · exact h
      · exact absurd hj (tail_waits hs hc hn inv _ i rfl hin hun j h)
    refine ⟨hjn, ?_⟩
    by_cases hji : j = i
    · subst hji; exact hy.qOp hi H
    · have h1 := (H.2 j (ready_mono hj hji)).2
      obtain ⟨hjun, oj, hoj, hall⟩ := mem_ready.1 hj
      have hnot : ∀ e ∈ oj.after, Region.binds md e = true → e.on ≠ i := fun e he hb heq => by
        have h1 := hall e he hb
        rw [heq, getD_both hun] at h1
        cases h1
      have h2 := qOp_put hoj (hfree j oj hoj hji hjun hnot) (fun cs b => hsel i oi cs b hi) (fun cs b => hsel j oj cs b hoj) hy h1
      have hfree' : ∀ k ok, ops[k]? = some ok → k ≠ i → (listed.setIfInBounds j true).getD k true = false →
          (∀ e ∈ ok.after, Region.binds md e = true → e.on ≠ i) → oi.apart ops ok = true := fun k ok hk hki hun hno => by
        refine hfree k ok hk hki ?_ hno
        by_cases hjk : j = k
        · subst hjk; exact hjun
        · rw [getD_set_ne true hjk] at hun; exact hun
      refine qOp_mono (fun a' h3 => ih (listed.setIfInBounds j true) a' (inv.set hj hjn) hfree' (ready_mono hr (Ne.symm hji)) h3.1 ?_) h2
      rw [Array.setIfInBounds_comm _ _ hji]
      exact h3.2
theorem headQ_lex {n g : Nat} {Lq : Act → Prop} (hsel : Region.noSelect ops = true) (hs : Region.sinkB md ops n = true) (hc : Region.chainB md ops n = true) (hn : n < ops.size) :
    ∀ (l : List Oper) (k : Nat) (listed : Array Bool) (a : Act), (∀ j, j < l.length → l[j]? = ops[k + j]?) → k + l.length = n → HeadInv md ops n listed →
    Region.lexHead md ops g l.length k listed = true → wpQuiet P ops C Lq l a →
    headQ P md ops C n (fun listed' a' => Region.seqB md ops g n listed' = true ∧ Lq a') l.length listed a
  | [], k, listed, a, _, hk, _, hB, h => by
    have : k = n := by simpa using hk
    subst this
    exact ⟨by simpa [Region.lexHead] using hB, h⟩
  | o :: l, k, listed, a, hl, hk, inv, hB, h => by
    have h0 : ops[k]? = some o := by simpa using (hl 0 (by simp)).symm
    simp only [List.length_cons, Region.lexHead, Bool.and_eq_true] at hB
    obtain ⟨⟨hr, hf⟩, hB'⟩ := hB
    have hkn : k < n := by simp only [List.length_cons] at hk; omega
    have hr' : k ∈ Region.ready md ops listed := by simpa using hr
    have hst : qOp P ops C k (wpQuiet P ops C Lq l) a := by unfold qOp; simp only [h0]; exact h
    obtain ⟨v, hy, hK⟩ := yieldsIn_of_qOp h0 hst
    exact headQ_first h0 (Region.noSelect_spec hsel) hs hc hn hkn (fun listed' a' hL => seqB_ready hL.1) l.length listed a inv (Region.free_spec h0 hf) hr' hy
      (headQ_lex hsel hs hc hn l (k + 1) _ _ (fun j hj => by have := hl (j + 1) (by simp; omega); simpa [Nat.add_assoc, Nat.add_comm 1 j] using this) (by simp only [List.length_cons] at hk; omega) (inv.set hr' hkn) hB' hK)
theorem wp_region_quiet_tail {id : Nat} {Q : Exit → Act → World → Prop} {a : Act} {w : World} {l : List Oper} (n : Nat) (hm : P.follows .mixedOrders = true) (hB : Region.lexTailB .any l.toArray n = true) (hC : C w.drew)
    (h : wpQuiet P l.toArray C (fun a' => ∀ w', C w' → wpList P l.toArray Q (l.drop n) a' w') (l.take n) a) : (Code.region id l.toArray true).wp P Q a w := by
  simp only [Region.lexTailB, Bool.and_eq_true, decide_eq_true_eq] at hB
  obtain ⟨⟨⟨⟨hsel, hn⟩, hs⟩, hc⟩, hlex⟩ := hB
  have hn' : n < l.length := by simpa using hn
  have htl : (l.take n).length = n := by simp; omega
  have hdl : (l.drop n).length = l.toArray.size - n := by simp
  have inv0 : HeadInv .any l.toArray n (Array.replicate l.toArray.size false) :=
    ⟨by simp, fun j oj _ hl => (by rw [getD_replicate_false] at hl; cases hl), fun t _ ht => getD_in (by simpa using ht) (getD_replicate_false _ _)⟩
  have H := headQ_lex (md := .any) (g := l.toArray.size - n) hsel hs hc hn (l.take n) 0 _ a (fun j hj => by
    have hj' : j < n := by rw [htl] at hj; exact hj
    simp [hj']) (by simpa using htl) inv0 (by rw [htl]; exact hlex) h
  refine wp_region_any hm ?_
  have := any_of_headQ (Q' := Q) (g := l.toArray.size - n) (fun listed a' w' hw' hL => by
    have := wpAny_of_seq (md := .any) (Q' := Q) (l.drop n) n listed a' w' (fun j => by simp [List.getElem?_drop]) (by rw [hdl]; exact hL.1) (hL.2 w' hw')
    rwa [hdl] at this) _ _ _ _ hC H
  rw [htl, show n + (l.toArray.size - n) = l.toArray.size by omega] at this
  exact this
end
theorem wp_region_nw_tail {P : Program} {id : Nat} {Q : Exit → Act → World → Prop} {a : Act} {w : World} {l : List Oper} (n : Nat) (hm : P.follows .mixedOrders = true) (hB : Region.lexTailB .any l.toArray n = true)
    (h : wpQuiet P l.toArray (fun w' => ∃ i : Later w, w' = i.1) (fun a' => ∀ w', (∃ i : Later w, w' = i.1) → wpList P l.toArray Q (l.drop n) a' w') (l.take n) a) : (Code.region id l.toArray true).wp P Q a w :=
  wp_region_quiet_tail (C := fun w' => ∃ i : Later w, w' = i.1) n hm hB ⟨⟨_, (Upd.refl _ w).drew⟩, rfl⟩ h
end Go.Proofs.YtiednpagknnfnaaGreatDoor
namespace Go.Proofs.YtiednpagknnfnaaGreatDoor
open Go.RowKit
attribute [local irreducible] Calls
theorem own_block {B sz : Nat} {e : TypeId} {w : World} {v : Value} {n : Nat} {xs : List Value} (h : w.ownsRow B e sz v n xs) {k : Nat} (hk : v.ownBlock = some k) : B ≤ k ∧ ∃ cs, w.heap[k]? = some (.cells cs e (0, 0)) := by
  rcases h.2 with ⟨rfl, _⟩ | ⟨g, cap, cur, rfl, hb, hg, _⟩
  · cases hk
  · obtain rfl : g = k := by simpa [Value.ownBlock] using hk
    exact ⟨hb, _, hg⟩
theorem owns_upd' {B sz : Nat} {S : Nat → Prop} {e : TypeId} {w w' : World} {v : Value} {n : Nat} {xs : List Value} (h : w.ownsRow B e sz v n xs) (u : Upd S w w') (hs : ∀ k, v.ownBlock = some k → ¬ S k) : w'.ownsRow B e sz v n xs := by
  obtain ⟨h1, h2⟩ := h
  refine ⟨h1, ?_⟩
  rcases h2 with h2 | ⟨g, cap, cur, rfl, hb, hg, r⟩
  · exact Or.inl h2
  · exact Or.inr ⟨g, cap, cur, rfl, hb, u.keep hg (hs g rfl), r⟩
theorem owns_empty (w : World) (e : TypeId) (sz : Nat) : (w.alloc (.cells #[] e)).ownsRow w.heap.size e sz (.slice (some ⟨w.heap.size, 0, none⟩) 0 0) 0 [] :=
  ⟨by simp, Or.inr ⟨w.heap.size, 0, #[], rfl, Nat.le_refl _, heap_new w _, Nat.le_refl _, Nat.zero_le _, by simp, by simp⟩⟩
end Go.Proofs.YtiednpagknnfnaaGreatDoor
namespace Go.Proofs.YtiednpagknnfnaaGreatDoor
namespace Fm
abbrev Str := List UInt8
abbrev lt (a b : Str) : Bool := Op.bytesLess a b
theorem lt_irr : ∀ a : Str, lt a a = false := by
  intro a
  induction a with
  | nil => rfl
  | cons x a ih => unfold lt Op.bytesLess; simp; exact ih
theorem lt_trans : ∀ {a b c : Str}, lt a b = true → lt b c = true → lt a c = true := by
  intro a
  induction a with
  | nil =>
    intro b c h1 h2
    cases c with
    | nil => cases b <;> simp [lt, Op.bytesLess] at h2
    | cons z c => rfl
  | cons x a ih =>
    intro b c h1 h2
    cases b with
    | nil => simp [lt, Op.bytesLess] at h1
    | cons y b =>
      cases c with
      | nil => simp [lt, Op.bytesLess] at h2
      | cons z c =>
        simp only [lt, Op.bytesLess, Bool.or_eq_true, decide_eq_true_eq, Bool.and_eq_true, beq_iff_eq] at h1 h2 ⊢
        rcases h1 with h1 | ⟨rfl, h1⟩
        · rcases h2 with h2 | ⟨rfl, h2⟩
          · exact Or.inl (UInt8.lt_trans h1 h2)
          · exact Or.inl h1
        · rcases h2 with h2 | ⟨rfl, h2⟩
          · exact Or.inl h2
          · exact Or.inr ⟨rfl, ih h1 h2⟩
end Fm
end Go.Proofs.YtiednpagknnfnaaGreatDoor
namespace Go.Proofs.YtiednpagknnfnaaGreatDoor.Sg
open Fm (Str)
open Wire (textE numE)
structure It where
  nm : Str
  a : Int
  b : Int
  c : Int
  pr : Int
structure Pf where
  nm : Str
  its : List It
structure Sta where
  tx : List Str
  th : List Bool
  pf : List Pf
def nil : Sta := ⟨[], [], []⟩
def itE (x : It) : Str := textE x.nm ++ (numE x.a ++ (numE x.b ++ (numE x.c ++ numE x.pr)))
def itsE (l : List It) : Str := (l.map itE).flatten
def pfE (p : Pf) : Str := textE p.nm ++ (numE p.its.length ++ itsE p.its)
inductive Ops
  | put (t : Str)
  | set (p : Pf)
  | drop (n : Str)
  | sweep
def opE : Ops → Str
  | .put t => 112 :: t
  | .set p => 115 :: pfE p
  | .drop n => 100 :: n
  | .sweep => [119]
def doneE : Str := [99]
theorem opE_ne (o : Ops) : opE o ≠ doneE := by
  cases o <;> simp [opE, doneE]
def recE : Option Ops → Str
  | none => doneE
  | some o => opE o
def thereN (S : Sta) (i : Nat) : Bool := S.th.getD i false
def there (S : Sta) (n : Int) : Bool := decide (0 ≤ n) && thereN S n.toNat
def textN (S : Sta) (i : Nat) : Str := S.tx.getD i []
def find (S : Sta) (t : Str) : Option Nat := (List.range S.th.length).find? fun i => thereN S i && decide (textN S i = t)
def usedL (l : List Pf) (n : Int) : Bool := l.any fun p => p.its.any fun x => decide (x.pr = n)
def used (S : Sta) (n : Int) : Bool := usedL S.pf n
def numbers (S : Sta) : List Nat := (List.range S.th.length).filter (thereN S)
def spare (S : Sta) : List Nat := (numbers S).filter fun i => !used S i
def prof (S : Sta) (nm : Str) : Option Pf := S.pf.find? fun p => decide (p.nm = nm)
def without (l : List Pf) (nm : Str) : List Pf := l.filter fun p => !decide (p.nm = nm)
def ins (l : List Pf) (p : Pf) : List Pf := l.takeWhile (fun q => Fm.lt q.nm p.nm) ++ p :: l.dropWhile (fun q => Fm.lt q.nm p.nm)
def after (S : Sta) : Ops → Sta
  | .put t => ⟨S.tx ++ [t], S.th ++ [true], S.pf⟩
  | .set p => ⟨S.tx, S.th, ins (without S.pf p.nm) p⟩
  | .drop n => ⟨S.tx, S.th, without S.pf n⟩
  | .sweep => ⟨S.tx, (List.range S.th.length).map fun i => thereN S i && used S i, S.pf⟩
def letterB (c : UInt8) : Bool := decide (97 ≤ c) && decide (c ≤ 122)
def digitB (c : UInt8) : Bool := decide (48 ≤ c) && decide (c ≤ 57)
def partsN (s : Str) : List Str := Lib.split s [45]
def partN (i : Nat) (p : Str) : Bool := !p.isEmpty && (decide (i ≠ 0) || letterB (p.getD 0 0)) && p.all fun c => letterB c || digitB c
def nameR (s : Str) : Bool := decide (s.length ≤ 20) && (List.range (partsN s).length).all fun i => partN i ((partsN s).getD i [])
def part (n : Int) : Bool := decide (0 ≤ n) && decide (n ≤ 1048576)
def verR (x : It) : Bool := part x.a && part x.b && part x.c
def itR (x : It) : Bool := nameR x.nm && verR x && decide (0 ≤ x.pr)
def rightP (p : Pf) : Bool := nameR p.nm && decide (p.its.length ≤ 60) && (List.range p.its.length).all fun i =>
  match p.its[i]? with
  | none => true
  | some x => itR x && (decide (i = 0) || match p.its[i - 1]? with | none => true | some y => Fm.lt y.nm x.nm)
def adm (S : Sta) : Ops → Prop
  | .put t => find S t = none
  | .set p => rightP p = true ∧ ∀ x ∈ p.its, there S x.pr = true
  | _ => True
def step (q : Option Ops × Sta) (r : Option Ops) : Option Ops × Sta :=
  match r, q.1 with
  | none, some o => (none, after q.2 o)
  | none, none => (none, q.2)
  | some o, _ => (some o, q.2)
def fold (l : List (Option Ops)) : Option Ops × Sta := l.foldl step (none, nil)
def of (l : List (Option Ops)) : Sta := (fold l).2
theorem fold_nil : fold [] = (none, nil) := rfl
theorem fold_snoc (l : List (Option Ops)) (r : Option Ops) : fold (l ++ [r]) = step (fold l) r := by simp [fold, List.foldl_append]
theorem of_done (l : List (Option Ops)) (o : Ops) : of (l ++ [some o, none]) = after (of l) o := by
  unfold of
  rw [show l ++ [some o, none] = (l ++ [some o]) ++ [none] by simp, fold_snoc, fold_snoc]
  rfl
def Gd (l : List (Option Ops)) : Prop := ∀ k o, l[k]? = some (some o) → adm (of (l.take k)) o
theorem gd_nil : Gd [] := fun k o h => by simp at h
theorem gd_take {l : List (Option Ops)} (h : Gd l) (m : Nat) : Gd (l.take m) := fun k o hk => by
  rw [List.getElem?_take] at hk
  split at hk
  · rename_i hlt
    have := h k o hk
    rwa [List.take_take, Nat.min_eq_left (by omega)]
  · cases hk
theorem gd_snoc {l : List (Option Ops)} (h : Gd l) {r : Option Ops} (hr : ∀ o, r = some o → adm (of l) o) : Gd (l ++ [r]) := fun k o hk => by
  rcases Nat.lt_trichotomy k l.length with hlt | rfl | hgt
  · rw [List.getElem?_append_left hlt] at hk
    rw [List.take_append_of_le_length (by omega)]
    exact h k o hk
  · rw [List.take_left']
    · simp at hk
      exact hr o hk
    · rfl
  · rw [List.getElem?_eq_none (by simp; omega)] at hk
    cases hk
structure G (S : Sta) : Prop where
  len : S.tx.length = S.th.length
  dist : ∀ i j, thereN S i = true → thereN S j = true → textN S i = textN S j → i = j
  items : ∀ p ∈ S.pf, ∀ x ∈ p.its, there S x.pr = true
  asc : S.pf.Pairwise fun a b => Fm.lt a.nm b.nm = true
  right : ∀ p ∈ S.pf, rightP p = true
theorem g_nil : G nil := ⟨rfl, fun i j h => by simp [thereN, nil] at h, (fun p hp => by cases hp), List.Pairwise.nil, fun p hp => by cases hp⟩
theorem thereN_lt {S : Sta} {i : Nat} (h : thereN S i = true) : i < S.th.length := by
  unfold thereN at h
  rcases Nat.lt_or_ge i S.th.length with h' | h'
  · exact h'
  · rw [List.getD_eq_getElem?_getD, List.getElem?_eq_none h'] at h; cases h
theorem find_none {S : Sta} {t : Str} (h : find S t = none) {i : Nat} (hi : thereN S i = true) : textN S i ≠ t := fun e => by
  have := List.find?_eq_none.1 h i (List.mem_range.2 (thereN_lt hi))
  simp [hi, e] at this
theorem find_some {S : Sta} {t : Str} {i : Nat} (h : find S t = some i) : thereN S i = true ∧ textN S i = t := by
  have := List.find?_some h
  simpa using this
theorem find_there {S : Sta} (g : G S) {i : Nat} (hi : thereN S i = true) : find S (textN S i) = some i := by
  cases h : find S (textN S i) with
  | none => exact absurd rfl (find_none h hi)
  | some j =>
    obtain ⟨h1, h2⟩ := find_some h
    rw [g.dist j i h1 hi h2]
theorem there_put (S : Sta) (t : Str) (i : Nat) : thereN (after S (.put t)) i = (thereN S i || decide (i = S.th.length)) := by
  show (S.th ++ [true]).getD i false = _
  unfold thereN
  simp only [List.getD_eq_getElem?_getD]
  rcases Nat.lt_trichotomy i S.th.length with h | rfl | h
  · rw [List.getElem?_append_left h]; simp [show ¬ i = S.th.length by omega]
  · simp
  · rw [List.getElem?_eq_none (by simp; omega), List.getElem?_eq_none (by omega)]; simp; omega
theorem text_put {S : Sta} (hl : S.tx.length = S.th.length) (t : Str) (i : Nat) : textN (after S (.put t)) i = if i = S.th.length then t else textN S i := by
  show (S.tx ++ [t]).getD i [] = _
  unfold textN
  simp only [List.getD_eq_getElem?_getD]
  rcases Nat.lt_trichotomy i S.tx.length with h | rfl | h
  · rw [List.getElem?_append_left h, if_neg (by omega)]
  · rw [if_pos hl]; simp
  · rw [List.getElem?_eq_none (by simp; omega), List.getElem?_eq_none (by omega), if_neg (by omega)]
theorem there_sweep (S : Sta) (i : Nat) : thereN (after S .sweep) i = (thereN S i && used S i) := by
  show ((List.range S.th.length).map fun i => thereN S i && used S i).getD i false = _
  rw [List.getD_eq_getElem?_getD, List.getElem?_map]
  rcases Nat.lt_or_ge i S.th.length with h | h
  · rw [List.getElem?_range h]; rfl
  · rw [List.getElem?_eq_none (by simp; exact h)]
    cases ht : thereN S i with
    | false => simp
    | true => have := thereN_lt ht; omega
theorem mem_without {l : List Pf} {nm : Str} {p : Pf} : p ∈ without l nm ↔ p ∈ l ∧ p.nm ≠ nm := by
  unfold without; rw [List.mem_filter]; simp
theorem mem_ins {l : List Pf} {p q : Pf} : q ∈ ins l p ↔ q = p ∨ q ∈ l := by
  unfold ins
  rw [List.mem_append, List.mem_cons]
  have e : l = l.takeWhile (fun q => Fm.lt q.nm p.nm) ++ l.dropWhile (fun q => Fm.lt q.nm p.nm) := List.takeWhile_append_dropWhile.symm
  constructor
  · rintro (h | h | h)
    · exact Or.inr (by rw [e]; exact List.mem_append_left _ h)
    · exact Or.inl h
    · exact Or.inr (by rw [e]; exact List.mem_append_right _ h)
  · rintro (h | h)
    · exact Or.inr (Or.inl h)
    · rw [e] at h
      rcases List.mem_append.1 h with h | h
      · exact Or.inl h
      · exact Or.inr (Or.inr h)
theorem lt_tri {a b : Str} (h : Fm.lt a b = false) (hne : a ≠ b) : Fm.lt b a = true := by
  induction a generalizing b with
  | nil =>
    cases b with
    | nil => exact absurd rfl hne
    | cons y b => simp [Fm.lt, Op.bytesLess] at h
  | cons x a ih =>
    cases b with
    | nil => rfl
    | cons y b =>
      simp only [Fm.lt, Op.bytesLess, Bool.or_eq_false_iff, Bool.and_eq_false_iff, decide_eq_false_iff_not, beq_eq_false_iff_ne, Bool.or_eq_true, Bool.and_eq_true, decide_eq_true_eq, beq_iff_eq] at h ⊢
      rcases Classical.em (x = y) with rfl | hxy
      · rcases h.2 with h2 | h2
        · exact absurd rfl h2
        · exact Or.inr ⟨rfl, ih h2 (fun e => hne (by rw [e]))⟩
      · refine Or.inl ?_
        have h1 : y ≤ x := UInt8.not_lt.1 h.1
        rcases UInt8.lt_or_eq_of_le h1 with h1 | h1
        · exact h1
        · exact absurd h1.symm hxy
theorem asc_ins {l : List Pf} (h : l.Pairwise fun a b => Fm.lt a.nm b.nm = true) {p : Pf} (hp : ∀ q ∈ l, q.nm ≠ p.nm) : (ins l p).Pairwise fun a b => Fm.lt a.nm b.nm = true := by
  induction l with
  | nil => simp [ins]
  | cons a l ih =>
    obtain ⟨h1, h2⟩ := List.pairwise_cons.1 h
    have ih := ih h2 (fun q hq => hp q (List.mem_cons_of_mem _ hq))
    cases ha : Fm.lt a.nm p.nm with
    | true =>
      have e : ins (a :: l) p = a :: ins l p := by simp [ins, List.takeWhile_cons, List.dropWhile_cons, ha]
      rw [e]
      refine List.pairwise_cons.2 ⟨fun q hq => ?_, ih⟩
      rcases mem_ins.1 hq with rfl | hq
      · exact ha
      · exact h1 q hq
    | false =>
      have e : ins (a :: l) p = p :: a :: l := by simp [ins, List.takeWhile_cons, List.dropWhile_cons, ha]
      rw [e]
      have hpa := lt_tri ha (hp a (List.mem_cons_self ..))
      refine List.pairwise_cons.2 ⟨fun q hq => ?_, h⟩
      rcases List.mem_cons.1 hq with rfl | hq
      · exact hpa
      · exact Fm.lt_trans hpa (h1 q hq)
theorem there_of {S S' : Sta} (h : ∀ i, thereN S i = true → thereN S' i = true) {n : Int} (hn : there S n = true) : there S' n = true := by
  unfold there at *
  simp only [Bool.and_eq_true] at *
  exact ⟨hn.1, h _ hn.2⟩
theorem used_of {S : Sta} {p : Pf} (hp : p ∈ S.pf) {x : It} (hx : x ∈ p.its) : used S x.pr = true := by
  unfold used usedL
  exact List.any_eq_true.2 ⟨p, hp, List.any_eq_true.2 ⟨x, hx, by simp⟩⟩
theorem G.after {S : Sta} (g : G S) {o : Ops} (h : adm S o) : G (after S o) := by
  cases o with
  | put t =>
    refine ⟨by simp [Sg.after, g.len], fun i j hi hj e => ?_, fun p hp x hx => there_of (fun i hi => by rw [there_put, hi]; rfl) (g.items p hp x hx), g.asc, g.right⟩
    rw [there_put] at hi hj
    rw [text_put g.len, text_put g.len] at e
    simp only [Bool.or_eq_true, decide_eq_true_eq] at hi hj
    split at e <;> split at e <;> rename_i h1 h2
    · rw [h1, h2]
    · exact absurd e.symm (find_none h (hj.resolve_right h2))
    · exact absurd e (find_none h (hi.resolve_right h1))
    · exact g.dist i j (hi.resolve_right h1) (hj.resolve_right h2) e
  | set p =>
    refine ⟨g.len, g.dist, fun q hq x hx => ?_, asc_ins (g.asc.filter _) (fun q hq => (mem_without.1 hq).2), fun q hq => ?_⟩
    · rcases mem_ins.1 hq with rfl | hq
      · exact h.2 x hx
      · exact g.items q (mem_without.1 hq).1 x hx
    · rcases mem_ins.1 hq with rfl | hq
      · exact h.1
      · exact g.right q (mem_without.1 hq).1
  | drop n => exact ⟨g.len, g.dist, fun q hq x hx => g.items q (mem_without.1 hq).1 x hx, g.asc.filter _, fun q hq => g.right q (mem_without.1 hq).1⟩
  | sweep =>
    refine ⟨by simp [Sg.after, g.len], fun i j hi hj e => ?_, fun p hp x hx => ?_, g.asc, g.right⟩
    · rw [there_sweep] at hi hj
      simp only [Bool.and_eq_true] at hi hj
      exact g.dist i j hi.1 hj.1 e
    · have h1 := g.items p hp x hx
      have h2 := used_of hp hx
      unfold there at *
      simp only [Bool.and_eq_true, decide_eq_true_eq] at h1 ⊢
      refine ⟨h1.1, ?_⟩
      rw [there_sweep, h1.2, Int.toNat_of_nonneg h1.1]
      exact h2
def big (S : Sta) : Nat := S.th.length + S.pf.length
theorem len_ins (l : List Pf) (p : Pf) : (ins l p).length = l.length + 1 := by
  have e : (l.takeWhile (fun q => Fm.lt q.nm p.nm) ++ l.dropWhile (fun q => Fm.lt q.nm p.nm)).length = l.length := by rw [List.takeWhile_append_dropWhile]
  unfold ins
  rw [List.length_append] at e
  rw [List.length_append, List.length_cons]
  omega
theorem big_after (S : Sta) (o : Ops) : big (after S o) ≤ big S + 1 := by
  cases o with
  | put t => simp [big, after]; omega
  | set p =>
    have := List.length_filter_le (fun q : Pf => !decide (q.nm = p.nm)) S.pf
    simp only [big, after, len_ins, without]; omega
  | drop n =>
    have := List.length_filter_le (fun q : Pf => !decide (q.nm = n)) S.pf
    simp only [big, after, without]; omega
  | sweep => simp [big, after]
theorem gd_all : ∀ (l : List (Option Ops)), Gd l → G (of l) ∧ (∀ o, (fold l).1 = some o → adm (of l) o) ∧ big (of l) ≤ l.length := by
  intro l
  induction h : l.length generalizing l with
  | zero =>
    intro hg
    obtain rfl := List.length_eq_zero_iff.1 h
    exact ⟨g_nil, fun o ho => by simp [fold_nil] at ho, Nat.le_refl _⟩
  | succ n ih =>
    intro hg
    have e : l = l.take n ++ [l[n]'(by omega)] := by rw [List.take_append_getElem]; rw [List.take_of_length_le (by omega)]
    have hn : (l.take n).length = n := by simp; omega
    obtain ⟨h1, h2, h3⟩ := ih (l.take n) hn (gd_take hg n)
    rw [e]
    unfold of at *
    rw [fold_snoc]
    cases hr : l[n]'(by omega) with
    | none =>
      cases hq : (fold (l.take n)).1 with
      | none => simp only [step, hq]; exact ⟨h1, (fun o ho => by cases ho), by omega⟩
      | some o =>
        have ha := h2 o hq
        simp only [step, hq]
        exact ⟨h1.after ha, (fun o ho => by cases ho), by have := big_after (fold (l.take n)).2 o; omega⟩
    | some o =>
      simp only [step]
      refine ⟨h1, fun o' ho => ?_, by omega⟩
      obtain rfl := Option.some.inj ho
      exact hg n o (by rw [List.getElem?_eq_getElem (by omega), hr])
theorem gd_g {l : List (Option Ops)} (h : Gd l) : G (of l) := (gd_all l h).1
theorem gd_big {l : List (Option Ops)} (h : Gd l) : big (of l) ≤ l.length := (gd_all l h).2.2
end Go.Proofs.YtiednpagknnfnaaGreatDoor.Sg
namespace Go.Proofs.YtiednpagknnfnaaGreatDoor
open Go.RowKit Go.MapKept
open Go.Maps (Keyed)
open Go.ChangeMaps (setBlock)
section
variable {P : Program} {k : TypeId} {w : World} {b r : Nat} {l : List (Value × Value)}
theorem store_raw {t e : TypeId} {es : Array MapEntry} {clock : Nat} (K : Keyed P k) (ht : P.underlying t = some (.map k e)) (hb : w.heap[b]? = some (.map es clock)) (hs : Stamped es clock) (hk : ∀ x ∈ es.toList, ∃ l, keyOf P k x.key = some l) {key : Value} {kl : Lit} (hkey : keyOf P k key = some kl) (val : Value) :
    ∃ es' clock', (Instr.mapUpdate t (.map (some b)) key val).run P w = .ok () { w with heap := w.heap.setIfInBounds b (.map es' clock') } ∧ Stamped es' clock' ∧ clock ≤ clock' ∧
      (∀ p, p ∈ es'.toList.map kv ↔ (p ∈ es.toList.map kv ∧ p.1 ≠ key) ∨ p = (key, val)) ∧
      ((∃ x ∈ es.toList, x.key = key) → clock' = clock ∧ (∀ x' ∈ es'.toList, ∃ x ∈ es.toList, x.born = x'.born ∧ x.key = x'.key) ∧ es'.toList.map (·.born) = es.toList.map (·.born)) := by
  have hst := (stamped_iff es clock).1 hs
  rcases K.find w hkey es.toList hk with ⟨h1, h2⟩ | ⟨j, e0, h1, h2, h3⟩
  · refine ⟨es.push ⟨key, val, clock⟩, clock + 1, ?_, stamped_push hs h2, by omega, fun p => ?_, fun ⟨x, hx, e⟩ => absurd e (h2 x hx)⟩
    · simp [Instr.mapUpdate, run_underlying ht, MapKept.run_getObj_map hb, K.check w false hkey, h1, MapKept.run_setObj_map _ hb, Result.andThen]
    · rw [Array.toList_push, List.map_append, List.mem_append]
      constructor
      · rintro (h | h)
        · obtain ⟨x, hx, rfl⟩ := List.mem_map.1 h
          exact Or.inl ⟨h, h2 x hx⟩
        · exact Or.inr (by simpa [kv] using h)
      · rintro (h | h)
        · exact Or.inl h.1
        · exact Or.inr (by simp [kv, h])
  · have hj : es[j]? = some e0 := by simpa using h2
    have hjl : j < es.toList.length := (List.getElem?_eq_some_iff.1 h2).1
    have hje : es.toList[j] = e0 := (List.getElem?_eq_some_iff.1 h2).2
    have hlist : (es.modify j (fun e' => { e' with key := key, val := val })).toList = es.toList.set j { e0 with key := key, val := val } := by rw [Array.toList_modify, Go.ChangeMaps.modify_eq_set _ _ _ _ h2]
    have hoth : ∀ i x, es.toList[i]? = some x → i ≠ j → x.key ≠ key := fun i x hi hne e => by
      have hx := List.mem_of_getElem? hi
      have h0 := List.mem_of_getElem? h2
      have := entry_eq_of_key hst.2.2 hx h0 (by rw [e, h3])
      subst this
      have hnd := stamp_nodup hst.2.1
      have hil := (List.getElem?_eq_some_iff.1 hi).1
      have hie := (List.getElem?_eq_some_iff.1 hi).2
      exact hne ((List.getElem_inj hnd).1 (hie.trans hje.symm))
    refine ⟨es.modify j (fun e' => { e' with key := key, val := val }), clock, ?_, stamped_modify hs j _ (fun _ _ => rfl) (fun e he he' => ?_), Nat.le_refl _, fun p => ?_, fun _ => ⟨rfl, fun x' hx' => ?_, ?_⟩⟩
    · simp [Instr.mapUpdate, run_underlying ht, MapKept.run_getObj_map hb, K.check w false hkey, h1, hj, h3, K.stays w hkey, MapKept.run_setObj_map _ hb, Result.andThen]
    · rw [hj] at he'
      cases he'
      exact h3.symm
    · rw [hlist]
      constructor
      · intro h
        obtain ⟨x, hx, rfl⟩ := List.mem_map.1 h
        obtain ⟨i, hi, ex⟩ := List.getElem_of_mem hx
        rw [List.getElem_set] at ex
        split at ex
        · exact Or.inr (by rw [← ex]; rfl)
        · rename_i hne
          have hi' : i < es.toList.length := by simpa using hi
          have hx2 : es.toList[i]? = some x := by rw [List.getElem?_eq_getElem hi', ex]
          exact Or.inl ⟨List.mem_map.2 ⟨x, List.mem_of_getElem? hx2, rfl⟩, hoth i x hx2 (fun e => hne e.symm)⟩
      · rintro (⟨h, hne⟩ | rfl)
        · obtain ⟨x, hx, rfl⟩ := List.mem_map.1 h
          obtain ⟨i, hi, ex⟩ := List.getElem_of_mem hx
          refine List.mem_map.2 ⟨x, List.mem_iff_getElem.2 ⟨i, by simpa using hi, ?_⟩, rfl⟩
          rw [List.getElem_set_ne, ex]
          rintro rfl
          rw [hje] at ex
          subst ex
          exact hne h3
        · exact List.mem_map.2 ⟨{ e0 with key := key, val := val }, List.mem_iff_getElem.2 ⟨j, by simpa using hjl, by simp⟩, rfl⟩
    · rw [hlist] at hx'
      obtain ⟨i, hi, ex⟩ := List.getElem_of_mem hx'
      rw [List.getElem_set] at ex
      split at ex
      · exact ⟨e0, List.mem_of_getElem? h2, by rw [← ex], by rw [← ex]; exact h3⟩
      · have hi' : i < es.toList.length := by simpa using hi
        exact ⟨x', by rw [← ex]; exact List.getElem_mem hi', rfl, rfl⟩
    · rw [hlist, List.map_set]
      refine List.ext_getElem? (fun i => ?_)
      rw [List.getElem?_set]
      split
      · rename_i e
        subst e
        split
        · rw [List.getElem?_map, h2]; rfl
        · rename_i hn; exact absurd (by simpa using hjl) hn
      · rfl
theorem kv_nodup {es : Array MapEntry} {clock : Nat} (hs : Stamped es clock) : (es.toList.map kv).Nodup := by
  have hst := (stamped_iff es clock).1 hs
  refine List.pairwise_map.2 (hst.2.2.imp (fun {a c} hne e => hne ?_))
  exact (Prod.mk.inj e).1
theorem MapL.nodup (h : MapL P k w b l) : l.Nodup := by
  obtain ⟨es, clock, hb, h1, h2, h3⟩ := h
  exact h1.nodup_iff.1 (kv_nodup h3)
theorem MapL.of_mem (h : MapL P k w b l) {l' : List (Value × Value)} (hn : l'.Nodup) (hm : ∀ p, p ∈ l' ↔ p ∈ l) : MapL P k w b l' :=
  h.perm ((List.perm_ext_iff_of_nodup h.nodup hn).2 (fun p => (hm p).symm))
theorem MapL.put {t e : TypeId} (h : MapL P k w b l) (K : Keyed P k) (ht : P.underlying t = some (.map k e)) (hg : nG ≤ b) {key : Value} {kl : Lit} (hkey : keyOf P k key = some kl) (val : Value) :
    ∃ w' l', (Instr.mapUpdate t (.map (some b)) key val).run P w = .ok () w' ∧ MapL P k w' b l' ∧ (∀ p, p ∈ l' ↔ (p ∈ l ∧ p.1 ≠ key) ∨ p = (key, val)) ∧ Upd (· = b) w w' := by
  obtain ⟨es, clock, hb, hpm, hk, hs⟩ := h
  have hpm' : (es.toList.map kv).Perm l := hpm
  obtain ⟨es', clock', hrun, hs', _, hm, _⟩ := store_raw K ht hb hs (fun x hx => hk (x.key, x.val) (hpm.mem_iff.1 (List.mem_map.2 ⟨x, hx, rfl⟩))) hkey val
  refine ⟨_, es'.toList.map kv, hrun, ⟨es', clock', by simp [Array.getElem?_setIfInBounds, lt_of_block hb], List.Perm.refl _, fun p hp => ?_, hs'⟩, fun p => by rw [hm, hpm'.mem_iff], Upd.setBlock hg _⟩
  rcases (hm p).1 hp with ⟨h1, _⟩ | rfl
  · exact hk p (hpm'.mem_iff.1 h1)
  · exact ⟨kl, hkey⟩
def RangeS (P : Program) (k : TypeId) (w : World) (b r : Nat) (l : List (Value × Value)) (done : Value → Prop) : Prop :=
  ∃ es clock since seen c0, w.heap[b]? = some (.map es clock) ∧ (es.toList.map kv).Perm l ∧ (∀ p ∈ l, ∃ x, keyOf P k p.1 = some x) ∧ Stamped es clock ∧
    w.heap[r]? = some (.mapIter (some b) since seen c0) ∧ (∀ x ∈ es.toList, x.born < since) ∧ since ≤ c0 ∧ since ≤ clock ∧ ∀ x ∈ es.toList, x.born ∈ seen.toList → done x.key
variable {done : Value → Prop}
theorem RangeS.lt (h : RangeS P k w b r l done) : b < w.heap.size ∧ r < w.heap.size ∧ r ≠ b := by
  obtain ⟨es, clock, since, seen, c0, h1, h2, h3, h4, h5, h6⟩ := h
  refine ⟨lt_of_block h1, lt_of_block h5, fun e => ?_⟩
  rw [e, h1] at h5
  cases h5
theorem RangeS.map (h : RangeS P k w b r l done) : MapL P k w b l := by
  obtain ⟨es, clock, since, seen, c0, h1, h2, h3, h4, h5, h6⟩ := h
  exact ⟨es, clock, h1, h2, h3, h4⟩
theorem RangeS.upd {S : Nat → Prop} {w' : World} (h : RangeS P k w b r l done) (u : Upd S w w') (hb : ¬ S b) (hr : ¬ S r) : RangeS P k w' b r l done ∧ w'.rangeLeft b r = w.rangeLeft b r := by
  obtain ⟨es, clock, since, seen, c0, h1, h2, h3, h4, h5, h6⟩ := h
  refine ⟨⟨es, clock, since, seen, c0, u.keep h1 hb, h2, h3, h4, u.keep h5 hr, h6⟩, ?_⟩
  unfold World.rangeLeft
  rw [u.keep h1 hb, h1, u.keep h5 hr, h5]
theorem MapL.rangeS {t e : TypeId} (h : MapL P k w b l) (ht : P.underlying t = some (.map k e)) :
    ∃ w', (Instr.range t (.map (some b))).run P w = .ok (.pointer (some ⟨w.heap.size, 0, none⟩)) w' ∧ RangeS P k w' b w.heap.size l (fun _ => False) ∧ Nw w w' := by
  obtain ⟨es, clock, h1, h2, h3, h4⟩ := h
  have hst := (stamped_iff es clock).1 h4
  exact ⟨_, run_range_map w t k e b es clock ht h1, ⟨es, clock, clock, #[], clock, Nw.keep (nw_alloc w _) h1, h2, h3, h4, heap_new w _, hst.1, Nat.le_refl _, Nat.le_refl _, fun x _ hs => by simp at hs⟩, nw_alloc _ _⟩
theorem RangeS.next (h : RangeS P k w b r l done) (hg : nG ≤ r) (ty : TypeId) :
    ((∀ p ∈ l, done p.1) ∧ (Instr.next (.pointer (some ⟨r, 0, none⟩)) false ty).run P w = .ok (.tuple #[.bool false]) w) ∨
    ∃ p, p ∈ l ∧ ∃ w', (Instr.next (.pointer (some ⟨r, 0, none⟩)) false ty).run P w = .ok (.tuple #[.bool true, p.1, p.2]) w' ∧ RangeS P k w' b r l (fun x => done x ∨ x = p.1) ∧ Upd (· = r) w w' ∧
      w'.rangeLeft b r < w.rangeLeft b r ∧ (Instr.entry (.pointer (some ⟨r, 0, none⟩))).run P w' = .ok (.tuple #[p.1, p.2]) w' := by
  have hne := h.lt.2.2
  have hrlt := h.lt.2.1
  obtain ⟨es, clock, since, seen, c0, h1, h2, h3, h4, h5, h6, h7, h8, h9⟩ := h
  have hst := (stamped_iff es clock).1 h4
  rcases run_next_at (P := P) w ty r b since c0 seen es clock h5 h1 h6 h7 with ⟨h0, hrun⟩ | ⟨e, he, w1, hal, hrun⟩
  · refine Or.inl ⟨fun p hp => ?_, hrun⟩
    obtain ⟨x, hx, rfl⟩ := List.mem_map.1 (h2.mem_iff.2 hp)
    have hs := all_seen es seen h0 x hx
    exact h9 x hx (by simpa using hs)
  · obtain ⟨hem, hes⟩ := mem_left he
    have hr1 : w1.heap[r]? = some (.mapIter (some b) since seen c0) := by rcases hal with rfl | rfl <;> exact h5
    have hb1 : w1.heap[b]? = some (.map es clock) := by rcases hal with rfl | rfl <;> exact h1
    have hset := heap_set (o' := .mapIter (some b) since (seen.push e.born) clock) hr1
    have hb' : (setBlock w1 r (.mapIter (some b) since (seen.push e.born) clock)).heap[b]? = some (.map es clock) := (hset.2 b (fun e1 => hne e1.symm)).trans hb1
    refine Or.inr ⟨kv e, h2.mem_iff.1 (List.mem_map.2 ⟨e, hem, rfl⟩), _, hrun, ⟨es, clock, since, seen.push e.born, clock, hb', h2, h3, h4, hset.1, h6, h8, h8, fun x hx hs => ?_⟩, ?_, ?_, run_entry_at _ r b since seen es clock e hset.1 hb' hem hst.2.1⟩
    · rw [Array.toList_push, List.mem_append, List.mem_singleton] at hs
      rcases hs with hs | hs
      · exact Or.inl (h9 x hx hs)
      · rw [born_inj hst.2.1 hx hem hs]; exact Or.inr rfl
    · rcases hal with rfl | rfl <;> exact ⟨rfl, rfl, rfl, by simp [setBlock], fun i _ hi => hset.2 i (fun e1 => by subst e1; rcases hi with hi | hi; omega; exact hi rfl)⟩
    · unfold World.rangeLeft
      have hr' : (setBlock w1 r (.mapIter (some b) since (seen.push e.born) clock)).heap[r]? = some (.mapIter (some b) since (seen.push e.born) clock) := hset.1
      rw [hb', hr', h1, h5]
      exact left_shrinks es seen e he
theorem RangeS.put {t e : TypeId} (h : RangeS P k w b r l done) (K : Keyed P k) (ht : P.underlying t = some (.map k e)) (hg : nG ≤ b) {key v : Value} (hin : (key, v) ∈ l) {kl : Lit} (hkey : keyOf P k key = some kl) (val : Value) :
    ∃ w' l', (Instr.mapUpdate t (.map (some b)) key val).run P w = .ok () w' ∧ RangeS P k w' b r l' done ∧ (∀ p, p ∈ l' ↔ (p ∈ l ∧ p.1 ≠ key) ∨ p = (key, val)) ∧ Upd (· = b) w w' ∧ w'.rangeLeft b r = w.rangeLeft b r := by
  have hne := h.lt.2.2
  obtain ⟨es, clock, since, seen, c0, h1, h2, h3, h4, h5, h6, h7, h8, h9⟩ := h
  obtain ⟨x0, hx0, e0⟩ := List.mem_map.1 (h2.mem_iff.2 hin)
  obtain ⟨es', clock', hrun, hs', _, hm, hold⟩ := store_raw K ht h1 h4 (fun x hx => h3 (kv x) (h2.mem_iff.1 (List.mem_map.2 ⟨x, hx, rfl⟩))) hkey val
  obtain ⟨rfl, hb1, hb2⟩ := hold ⟨x0, hx0, (Prod.mk.inj e0).1⟩
  have hset : ∀ o, ({ w with heap := w.heap.setIfInBounds b o } : World).heap[r]? = w.heap[r]? := fun o => by
    simp only [Array.getElem?_setIfInBounds]
    rw [if_neg (fun e => hne e.symm)]
  refine ⟨_, es'.toList.map kv, hrun, ⟨es', clock', since, seen, c0, by simp [Array.getElem?_setIfInBounds, lt_of_block h1], List.Perm.refl _, fun p hp => ?_, hs', by rw [hset]; exact h5, fun x hx => ?_, h7, h8, fun x hx hs => ?_⟩, fun p => by rw [hm, h2.mem_iff], Upd.setBlock hg _, ?_⟩
  · rcases (hm p).1 hp with ⟨q1, _⟩ | rfl
    · exact h3 p (h2.mem_iff.1 q1)
    · exact ⟨kl, hkey⟩
  · obtain ⟨y, hy, e1, e2⟩ := hb1 x hx
    rw [← e1]; exact h6 y hy
  · obtain ⟨y, hy, e1, e2⟩ := hb1 x hx
    rw [← e2]; exact h9 y hy (by rw [e1]; exact hs)
  · unfold World.rangeLeft
    rw [hset, h5, h1]
    have e1 : ({ w with heap := w.heap.setIfInBounds b (.map es' clock') } : World).heap[b]? = some (.map es' clock') := by simp [Array.getElem?_setIfInBounds, lt_of_block h1]
    rw [e1]
    dsimp only
    have e2 : ∀ a : Array MapEntry, (leftOf a seen).size = ((a.toList.map (·.born)).filter fun n => !seen.contains n).length := fun a => by
      unfold leftOf
      rw [← Array.length_toList, Array.toList_filter, List.filter_map, List.length_map]
      rfl
    rw [e2, e2, hb2]
theorem RangeS.drop {t e ty : TypeId} (h : RangeS P k w b r l done) (K : Keyed P k) (ht : P.underlying t = some (.map k e)) (hg : nG ≤ b) {key : Value} {kl : Lit} (hkey : keyOf P k key = some kl) :
    ∃ w' l', (Builtin.delete_ #[t, k] ty #[.map (some b), key]).run P w = .ok (.tuple #[]) w' ∧ RangeS P k w' b r l' done ∧ (∀ p, p ∈ l' ↔ p ∈ l ∧ p.1 ≠ key) ∧ Upd (· = b) w w' ∧ w'.rangeLeft b r ≤ w.rangeLeft b r := by
  have hne := h.lt.2.2
  obtain ⟨es, clock, since, seen, c0, h1, h2, h3, h4, h5, h6, h7, h8, h9⟩ := h
  have hst := (stamped_iff es clock).1 h4
  have hset : ∀ o, ({ w with heap := w.heap.setIfInBounds b o } : World).heap[r]? = w.heap[r]? := fun o => by
    simp only [Array.getElem?_setIfInBounds]
    rw [if_neg (fun e => hne e.symm)]
  have hcl : ∀ (es' : Array MapEntry), (Builtin.delete_ #[t, k] ty #[.map (some b), key]).run P w = .ok (.tuple #[]) { w with heap := w.heap.setIfInBounds b (.map es' clock) } → Stamped es' clock → es'.toList.Sublist es.toList → (∀ x, x ∈ es'.toList ↔ x ∈ es.toList ∧ x.key ≠ key) →
      ∃ w' l', (Builtin.delete_ #[t, k] ty #[.map (some b), key]).run P w = .ok (.tuple #[]) w' ∧ RangeS P k w' b r l' done ∧ (∀ p, p ∈ l' ↔ p ∈ l ∧ p.1 ≠ key) ∧ Upd (· = b) w w' ∧ w'.rangeLeft b r ≤ w.rangeLeft b r := fun es' hrun hs' hsub hmem => by
    have hmm : ∀ p, p ∈ es'.toList.map kv ↔ p ∈ l ∧ p.1 ≠ key := fun p => by
      rw [← h2.mem_iff]
      constructor
      · intro hp
        obtain ⟨x, hx, rfl⟩ := List.mem_map.1 hp
        obtain ⟨q1, q2⟩ := (hmem x).1 hx
        exact ⟨List.mem_map.2 ⟨x, q1, rfl⟩, q2⟩
      · rintro ⟨hp, hk⟩
        obtain ⟨x, hx, rfl⟩ := List.mem_map.1 hp
        exact List.mem_map.2 ⟨x, (hmem x).2 ⟨hx, hk⟩, rfl⟩
    refine ⟨_, es'.toList.map kv, hrun, ⟨es', clock, since, seen, c0, by simp [Array.getElem?_setIfInBounds, lt_of_block h1], List.Perm.refl _, fun p hp => h3 p ((hmm p).1 hp).1, hs', by rw [hset]; exact h5, fun x hx => h6 x ((hmem x).1 hx).1, h7, h8, fun x hx hs => h9 x ((hmem x).1 hx).1 hs⟩, hmm, Upd.setBlock hg _, ?_⟩
    unfold World.rangeLeft
    rw [hset, h5, h1]
    have e1 : ({ w with heap := w.heap.setIfInBounds b (.map es' clock) } : World).heap[b]? = some (.map es' clock) := by simp [Array.getElem?_setIfInBounds, lt_of_block h1]
    rw [e1]
    dsimp only
    have e2 : ∀ a : Array MapEntry, (leftOf a seen).size = (a.toList.filter fun e => !seen.contains e.born).length := fun a => by
      unfold leftOf
      rw [← Array.toList_filter, Array.length_toList]
    rw [e2, e2]
    exact (hsub.filter _).length_le
  rcases K.find w hkey es.toList (fun x hx => h3 (kv x) (h2.mem_iff.1 (List.mem_map.2 ⟨x, hx, rfl⟩))) with ⟨q1, q2⟩ | ⟨j, e0, q1, q2, q3⟩
  · refine hcl es ?_ h4 (List.Sublist.refl _) (fun x => ⟨fun hx => ⟨hx, q2 x hx⟩, fun hx => hx.1⟩)
    simp [Builtin.delete_, run_underlying ht, MapKept.run_getObj_map h1, K.check w _ hkey, q1, MapKept.run_setObj_map _ h1, Result.andThen]
  · have hjl : j < es.toList.length := (List.getElem?_eq_some_iff.1 q2).1
    have hjs : j < es.size := by simpa using hjl
    have hsub : (es.eraseIdxIfInBounds j).toList = es.toList.eraseIdx j := by
      unfold Array.eraseIdxIfInBounds
      rw [dif_pos hjs]
      simp
    refine hcl (es.eraseIdxIfInBounds j) ?_ (stamped_erase h4 j) (by rw [hsub]; exact List.eraseIdx_sublist _ _) (fun x => ?_)
    · simp [Builtin.delete_, run_underlying ht, MapKept.run_getObj_map h1, K.check w _ hkey, q1, MapKept.run_setObj_map _ h1, Result.andThen]
    · rw [hsub, List.mem_eraseIdx_iff_getElem?]
      constructor
      · rintro ⟨i, hne2, hi⟩
        refine ⟨List.mem_of_getElem? hi, fun e => hne2 ?_⟩
        have := entry_eq_of_key hst.2.2 (List.mem_of_getElem? hi) (List.mem_of_getElem? q2) (by rw [e, q3])
        subst this
        have hil := (List.getElem?_eq_some_iff.1 hi).1
        have hie := (List.getElem?_eq_some_iff.1 hi).2
        exact (List.getElem_inj (stamp_nodup hst.2.1)).1 (hie.trans (List.getElem?_eq_some_iff.1 q2).2.symm)
      · rintro ⟨hx, hne2⟩
        obtain ⟨i, hi⟩ := List.getElem?_of_mem hx
        refine ⟨i, fun e1 => hne2 ?_, hi⟩
        rw [e1, q2] at hi
        cases hi
        exact q3
theorem wpList_rangeS {ops : Array Oper} {rest : List Oper} {o : Oper} {a : Act} {Q : Exit → Act → World → Prop} (hg : o.guard = none) (m : Operand) (t e : TypeId) (hop : o.op = Op.range t m) (ht : P.underlying t = some (.map k e)) (hm : a.eval m = .map (some b)) (h : MapL P k w b l)
    (hK : ∀ w', RangeS P k w' b w.heap.size l (fun _ => False) → Nw w w' → wpList P ops Q rest (a.put o.dst (.pointer (some ⟨w.heap.size, 0, none⟩))) w') : wpList P ops Q (o :: rest) a w := by
  obtain ⟨w', hrun, h1, h2⟩ := h.rangeS ht
  refine wpList_plain hg fun K' hK' => ?_
  unfold Oper.wp
  simp [execOp, hop, hm, hrun, Result.andThen]
  exact hK' _ _ (hK w' h1 h2)
theorem wpList_nextS {ops : Array Oper} {rest : List Oper} {o : Oper} {a : Act} {Q : Exit → Act → World → Prop} (hg : o.guard = none) (it : Operand) (hop : o.op = Op.next it false) (hit : a.eval it = .pointer (some ⟨r, 0, none⟩)) (h : RangeS P k w b r l done) (hr : nG ≤ r)
    (hDone : (∀ p ∈ l, done p.1) → wpList P ops Q rest (a.put o.dst (.tuple #[.bool false])) w)
    (hMore : ∀ p w', p ∈ l → RangeS P k w' b r l (fun x => done x ∨ x = p.1) → Upd (· = r) w w' → w'.rangeLeft b r < w.rangeLeft b r → (Instr.entry (.pointer (some ⟨r, 0, none⟩))).run P w' = .ok (.tuple #[p.1, p.2]) w' →
      wpList P ops Q rest (a.put o.dst (.tuple #[.bool true, p.1, p.2])) w') : wpList P ops Q (o :: rest) a w := by
  refine wpList_plain hg fun K' hK' => ?_
  unfold Oper.wp
  rcases h.next hr o.type with ⟨hd, hrun⟩ | ⟨p, h1, w', hrun, h3, h4, h5, h6⟩
  · simp [execOp, hop, hit, hrun, Result.andThen]
    exact hK' _ _ (hDone hd)
  · simp [execOp, hop, hit, hrun, Result.andThen]
    exact hK' _ _ (hMore p w' h1 h3 h4 h5 h6)
end
end Go.Proofs.YtiednpagknnfnaaGreatDoor
namespace Go.Proofs.YtiednpagknnfnaaGreatDoor
open Go.RowKit Go.MapKept
open Go.Maps (Keyed)
open Go.WideElems (Fit rd rg pl rd_mk rg_of)
section
variable {P : Program} {k : TypeId} {w : World} {b : Nat} {l : List (Value × Value)}
theorem MapL.del {t e ty : TypeId} (h : MapL P k w b l) (K : Keyed P k) (ht : P.underlying t = some (.map k e)) (hg : nG ≤ b) {key : Value} {kl : Lit} (hkey : keyOf P k key = some kl) :
    ∃ w' l', (Builtin.delete_ #[t, k] ty #[.map (some b), key]).run P w = .ok (.tuple #[]) w' ∧ MapL P k w' b l' ∧ (∀ p, p ∈ l' ↔ p ∈ l ∧ p.1 ≠ key) ∧ Upd (· = b) w w' := by
  obtain ⟨es, clock, h1, h2, h3, h4⟩ := h
  have h2 : (es.toList.map kv).Perm l := h2
  have hst := (stamped_iff es clock).1 h4
  have hcl : ∀ (es' : Array MapEntry), (Builtin.delete_ #[t, k] ty #[.map (some b), key]).run P w = .ok (.tuple #[]) { w with heap := w.heap.setIfInBounds b (.map es' clock) } → Stamped es' clock → (∀ x, x ∈ es'.toList ↔ x ∈ es.toList ∧ x.key ≠ key) →
      ∃ w' l', (Builtin.delete_ #[t, k] ty #[.map (some b), key]).run P w = .ok (.tuple #[]) w' ∧ MapL P k w' b l' ∧ (∀ p, p ∈ l' ↔ p ∈ l ∧ p.1 ≠ key) ∧ Upd (· = b) w w' := fun es' hrun hs' hmem => by
    have hmm : ∀ p, p ∈ es'.toList.map kv ↔ p ∈ l ∧ p.1 ≠ key := fun p => by
      rw [← h2.mem_iff]
      constructor
      · intro hp
        obtain ⟨x, hx, rfl⟩ := List.mem_map.1 hp
        obtain ⟨q1, q2⟩ := (hmem x).1 hx
        exact ⟨List.mem_map.2 ⟨x, q1, rfl⟩, q2⟩
      · rintro ⟨hp, hk⟩
        obtain ⟨x, hx, rfl⟩ := List.mem_map.1 hp
        exact List.mem_map.2 ⟨x, (hmem x).2 ⟨hx, hk⟩, rfl⟩
    exact ⟨_, es'.toList.map kv, hrun, ⟨es', clock, by simp [Array.getElem?_setIfInBounds, lt_of_block h1], List.Perm.refl _, fun p hp => h3 p ((hmm p).1 hp).1, hs'⟩, hmm, Upd.setBlock hg _⟩
  rcases K.find w hkey es.toList (fun x hx => h3 (kv x) (h2.mem_iff.1 (List.mem_map.2 ⟨x, hx, rfl⟩))) with ⟨q1, q2⟩ | ⟨j, e0, q1, q2, q3⟩
  · refine hcl es ?_ h4 (fun x => ⟨fun hx => ⟨hx, q2 x hx⟩, fun hx => hx.1⟩)
    simp [Builtin.delete_, run_underlying ht, MapKept.run_getObj_map h1, K.check w _ hkey, q1, MapKept.run_setObj_map _ h1, Result.andThen]
  · have hjl : j < es.toList.length := (List.getElem?_eq_some_iff.1 q2).1
    have hjs : j < es.size := by simpa using hjl
    have hsub : (es.eraseIdxIfInBounds j).toList = es.toList.eraseIdx j := by
      unfold Array.eraseIdxIfInBounds
      rw [dif_pos hjs]
      simp
    refine hcl (es.eraseIdxIfInBounds j) ?_ (stamped_erase h4 j) (fun x => ?_)
    · simp [Builtin.delete_, run_underlying ht, MapKept.run_getObj_map h1, K.check w _ hkey, q1, MapKept.run_setObj_map _ h1, Result.andThen]
    · rw [hsub, List.mem_eraseIdx_iff_getElem?]
      constructor
      · rintro ⟨i, hne2, hi⟩
        refine ⟨List.mem_of_getElem? hi, fun e => hne2 ?_⟩
        have := entry_eq_of_key hst.2.2 (List.mem_of_getElem? hi) (List.mem_of_getElem? q2) (by rw [e, q3])
        subst this
        have hil := (List.getElem?_eq_some_iff.1 hi).1
        have hie := (List.getElem?_eq_some_iff.1 hi).2
        exact (List.getElem_inj (stamp_nodup hst.2.1)).1 (hie.trans (List.getElem?_eq_some_iff.1 q2).2.symm)
      · rintro ⟨hx, hne2⟩
        obtain ⟨i, hi⟩ := List.getElem?_of_mem hx
        refine ⟨i, fun e1 => hne2 ?_, hi⟩
        rw [e1, q2] at hi
        cases hi
        exact q3
def rd0 : Value → Option (DataW Nat × List MemPlace) := fun _ => some (.lit (.bool true), [])
def toI : Value → Int
  | .int _ a => a
  | _ => 0
def toB : Value → List UInt8
  | .string s => s.data.toList
  | _ => []
theorem MapL.owns (h : MapL P k w b l) (hs : l.length ≤ maxLen) : ∃ es : Array MapEntry, (es.toList.map kv).Perm l ∧ w.ownsMap P k rd0 b l.length (.map ((es.toList.map (rg P k rd0)).foldr DataW.insert [])) ∧
    ∀ x ∈ es.toList, ∃ kl, keyOf P k x.key = some kl ∧ (rg P k rd0 x).1 = kl := by
  obtain ⟨es, clock, h1, h2, h3, h4⟩ := h
  have h2 : (es.toList.map kv).Perm l := h2
  have hn : es.size = l.length := by have := h2.length_eq; simpa using this
  have hk : ∀ x ∈ es.toList, ∃ kl, keyOf P k x.key = some kl ∧ rd P k rd0 x = some (kl, .lit (.bool true)) := fun x hx => by
    obtain ⟨kl, hkl⟩ := h3 (kv x) (h2.mem_iff.1 (List.mem_map.2 ⟨x, hx, rfl⟩))
    exact ⟨kl, hkl, rd_mk (R := rd0) (yv := (.lit (.bool true), [])) (key := x.key) (born := x.born) (val := x.val) hkl rfl⟩
  refine ⟨es, h2, ⟨es, clock, h1, ⟨by omega, h4, fun x hx => ?_⟩, by omega, rfl⟩, fun x hx => ?_⟩
  · obtain ⟨kl, _, h⟩ := hk x hx; exact ⟨_, h⟩
  · obtain ⟨kl, h, h'⟩ := hk x hx; exact ⟨kl, h, by rw [rg_of h']⟩
theorem MapL.intKeys (h : MapL P k w b l) (hk : P.underlying k = some (.int .i64)) (hs : l.length ≤ maxLen) {L : List Int} (hL : l.map (·.1) = L.map encZ) :
    ∃ D0, w.ownsMap P k rd0 b l.length D0 ∧ (Go.intKeys D0).Perm L ∧ Maps.size D0 = L.length := by
  obtain ⟨es, h1, h2, h3⟩ := h.owns hs
  have hp : (Go.intKeys (.map ((es.toList.map (rg P k rd0)).foldr DataW.insert []))).Perm L := by
    show (((es.toList.map (rg P k rd0)).foldr DataW.insert []).map fun p => _root_.Go.intOf p.1).Perm L
    refine ((Go.WideShapes.sorted_perm _).map _).trans ?_
    rw [List.map_map]
    have e1 : es.toList.map ((fun p : Lit × DataW Nat => _root_.Go.intOf p.1) ∘ rg P k rd0) = (es.toList.map kv).map (fun p => toI p.1) := by
      rw [List.map_map]
      refine List.map_congr_left fun x hx => ?_
      obtain ⟨kl, hkl, e⟩ := h3 x hx
      obtain ⟨i, e1, e2, _⟩ := Maps.keyOf_i64 hk hkl
      show _root_.Go.intOf (rg P k rd0 x).1 = toI x.key
      rw [e, e1, e2]; rfl
    rw [e1]
    refine (h1.map _).trans ?_
    have e2 : l.map (fun p => toI p.1) = L := by
      rw [show (fun p : Value × Value => toI p.1) = toI ∘ (·.1) from rfl, ← List.map_map, hL, List.map_map]
      exact List.map_id' _
    rw [e2]
  refine ⟨_, h2, hp, ?_⟩
  have := hp.length_eq
  rw [← this]
  show List.length _ = ((List.foldr DataW.insert [] _).map _).length
  rw [List.length_map]
theorem keyOf_str {kl : Lit} {key : Value} (hk : P.underlying k = some .string) (h : keyOf P k key = some kl) : ∃ s : ByteArray, key = .string s ∧ strOf kl = s.data.toList := by
  cases key <;> simp [keyOf, hk, mapKey] at h
  rename_i s
  obtain ⟨h1, rfl⟩ := h
  exact ⟨s, rfl, rfl⟩
theorem MapL.strKeys (h : MapL P k w b l) (hk : P.underlying k = some .string) (hs : l.length ≤ maxLen) {L : List (List UInt8)} (hL : l.map (·.1) = L.map fun s => .string ⟨s.toArray⟩) :
    ∃ D0, w.ownsMap P k rd0 b l.length D0 ∧ (Go.strKeys D0).Perm L ∧ Maps.size D0 = L.length := by
  obtain ⟨es, h1, h2, h3⟩ := h.owns hs
  have hp : (Go.strKeys (.map ((es.toList.map (rg P k rd0)).foldr DataW.insert []))).Perm L := by
    show (((es.toList.map (rg P k rd0)).foldr DataW.insert []).map fun p => strOf p.1).Perm L
    refine ((Go.WideShapes.sorted_perm _).map _).trans ?_
    rw [List.map_map]
    have e1 : es.toList.map ((fun p : Lit × DataW Nat => strOf p.1) ∘ rg P k rd0) = (es.toList.map kv).map (fun p => toB p.1) := by
      rw [List.map_map]
      refine List.map_congr_left fun x hx => ?_
      obtain ⟨kl, hkl, e⟩ := h3 x hx
      obtain ⟨i, e1, e2⟩ := keyOf_str hk hkl
      show strOf (rg P k rd0 x).1 = toB x.key
      rw [e, e1, e2]; rfl
    rw [e1]
    refine (h1.map _).trans ?_
    have e2 : l.map (fun p => toB p.1) = L := by
      rw [show (fun p : Value × Value => toB p.1) = toB ∘ (·.1) from rfl, ← List.map_map, hL, List.map_map]
      exact List.map_id'' (fun s => rfl) _
    rw [e2]
  refine ⟨_, h2, hp, ?_⟩
  have := hp.length_eq
  rw [← this]
  show List.length _ = ((List.foldr DataW.insert [] _).map _).length
  rw [List.length_map]
end
end Go.Proofs.YtiednpagknnfnaaGreatDoor
namespace Go.Proofs.YtiednpagknnfnaaGreatDoor
open Go.RowKit
attribute [local irreducible] Calls
structure Gl (w : World) : Prop where
  big : nG ≤ w.heap.size
  tab : Lib.TabIs Tryz.prog w "internal/strconv.uint64pow10" .u64 Lib.pow10Tab
  syn : ∃ tp p, w.var? Tryz.prog "strconv.ErrSyntax" = some #[.iface tp p]
  rng : ∃ tp p, w.var? Tryz.prog "strconv.ErrRange" = some #[.iface tp p]
theorem gTab : Tryz.prog.globalNamed "internal/strconv.uint64pow10" = some 1 := by kernel_rfl
theorem gSyn : Tryz.prog.globalNamed "strconv.ErrSyntax" = some 2 := by kernel_rfl
theorem gRng : Tryz.prog.globalNamed "strconv.ErrRange" = some 3 := by kernel_rfl
theorem var_of_block {w w' : World} {name : String} {g : Nat} (hg : Tryz.prog.globalNamed name = some g) (h : w'.heap[g]? = w.heap[g]?) : w'.var? Tryz.prog name = w.var? Tryz.prog name := by
  simp only [World.var?, hg, Option.bind_some, h]
theorem Gl.upd {S : Nat → Prop} {w w' : World} (g : Gl w) (u : Upd S w w') : Gl w' := by
  have hb := g.big
  have h : ∀ k, k < nG → w'.heap[k]? = w.heap[k]? := fun k hk => u.block k (Nat.lt_of_lt_of_le hk hb) (Or.inl hk)
  refine ⟨Nat.le_trans hb u.size, ?_, ?_, ?_⟩
  · show w'.var? Tryz.prog _ = _
    rw [var_of_block gTab (h _ (by decide))]; exact g.tab
  · obtain ⟨tp, p, e⟩ := g.syn
    exact ⟨tp, p, by rw [var_of_block gSyn (h _ (by decide))]; exact e⟩
  · obtain ⟨tp, p, e⟩ := g.rng
    exact ⟨tp, p, by rw [var_of_block gRng (h _ (by decide))]; exact e⟩
theorem nw_grow (w : World) (k : Nat) (os : Array Obj) : Nw w (Go.Sort.grow (w.drewN k) os) := by
  refine ⟨rfl, rfl, rfl, by simp [Go.Sort.grow], fun i hi _ => ?_⟩
  show ((w.drewN k).heap ++ os)[i]? = _
  have : (w.drewN k).heap = w.heap := rfl
  rw [this, Array.getElem?_append_left hi]
def I64 (n : Int) : Prop := -9223372036854775808 ≤ n ∧ n ≤ 9223372036854775807
theorem itoa_le {n : Int} (h : I64 n) : (Lib.itoa n).length ≤ 21 := Lib.itoa_length_le n h.1 h.2
theorem Itoa_c (n : Int) (w : World) (g : Gl w) (h : I64 n) :
    Calls Tryz.prog 122 #[.int .i64 n] w fun e w' => e = .returned (.string ⟨(Lib.itoa n).toArray⟩) ∧ Nw w w' :=
  (Tryz.strconv_Itoa n h.1 h.2 w g.tab).mono fun e w' ⟨he, k, os, hw⟩ => ⟨he, hw ▸ nw_grow w k os⟩
theorem IndexByte_c (s : ByteArray) (c : Int) (w : World) :
    Calls Tryz.prog 162 #[.string s, .int .u8 c] w fun e w' => e = .returned (.int .i64 (Lib.indexByte s.data.toList c.toNat.toUInt8)) ∧ w = w' :=
  (Tryz.strings_IndexByte s c w).mono fun e w' ⟨he, hw⟩ => ⟨he, hw.symm⟩
theorem CutPrefix_c (s p : ByteArray) (w : World) :
    Calls Tryz.prog 164 #[.string s, .string p] w fun e w' => e = .returned (.tuple #[.string ⟨(Lib.trimPrefix s.data.toList p.data.toList).toArray⟩, .bool (Lib.hasPrefix s.data.toList p.data.toList)]) ∧ w = w' :=
  (Tryz.strings_CutPrefix s p w).mono fun e w' ⟨he, hw⟩ => ⟨he, hw.symm⟩
theorem size_freeze (w : World) (a : Addr) (n : Nat) : (w.freeze a n).heap.size = w.heap.size := by
  unfold World.freeze; split <;> simp
theorem heap_freeze (w : World) (a : Addr) (n k : Nat) (h : k ≠ a.block) : (w.freeze a n).heap[k]? = w.heap[k]? := by
  unfold World.freeze
  split
  · rfl
  · simp only [Array.getElem?_modify]; rw [if_neg (by omega)]
theorem os_freeze (w : World) (a : Addr) (n : Nat) : (w.freeze a n).os = w.os ∧ (w.freeze a n).tape = w.tape ∧ (w.freeze a n).output = w.output := by
  unfold World.freeze; split <;> exact ⟨rfl, rfl, rfl⟩
theorem nw_bytes (w : World) (t : ByteArray) : Nw w (Lib.bytesWorld w 5 t) := by
  simp only [Lib.bytesWorld]
  refine ⟨(os_freeze _ _ _).1, (os_freeze _ _ _).2.1, (os_freeze _ _ _).2.2, by rw [size_freeze]; simp, fun i hi _ => ?_⟩
  rw [heap_freeze _ _ _ _ (by show i ≠ w.heap.size; omega)]
  exact heap_alloc w.drew _ i hi
theorem atoi_rest {x : Lib.NumEnd Int} (h1 : ∀ m, x ≠ .ok m) (h2 : x ≠ .range) : x = Lib.atoiAll [] := by
  cases x with
  | ok v => exact absurd rfl (h1 v)
  | range => exact absurd rfl h2
  | _ => rfl
theorem Atoi_c (s : ByteArray) (w : World) (g : Gl w) (hs : s.size ≤ 281474976710656) :
    Calls Tryz.prog 163 #[.string s] w fun e w' => ∃ n v, e = .returned (.tuple #[.int .i64 n, v]) ∧ I64 n ∧
      ((v = .nilIface ∧ Lib.atoiAll s.data.toList = .ok n) ∨ (∃ t p, v = .iface t p) ∧ ∀ m, Lib.atoiAll s.data.toList ≠ .ok m) ∧ Nw w w' := by
  by_cases hok : ∃ v, Lib.atoiAll s.data.toList = .ok v
  · obtain ⟨v, h⟩ := hok
    refine (Tryz.strconv_Atoi_ok s (by omega) v h w).mono ?_
    rintro e w' ⟨rfl, hw⟩
    refine ⟨v, _, rfl, ?_, Or.inl ⟨rfl, h⟩, ?_⟩
    · unfold Lib.atoiAll at h
      unfold I64
      split at h
      · cases h
      · dsimp only at h
        split at h
        · cases h
        · cases h
        · split at h
          · cases h
          · split at h
            · cases h
            · injection h with h
              split at h <;> omega
    · rcases hw with rfl | ⟨t, rfl⟩
      · exact Upd.refl _ _
      · exact nw_bytes w t
  · have hno : ∀ m, Lib.atoiAll s.data.toList ≠ .ok m := fun m hm => hok ⟨m, hm⟩
    by_cases hr : Lib.atoiAll s.data.toList = .range
    · obtain ⟨tp, p, hv⟩ := g.rng
      refine Calls.mono (show Calls Tryz.prog 163 #[.string s] w _ from Any.strconv_Atoi_range_var Tryz.laysC172 s hs hr tp p w hv) ?_
      rintro e w' ⟨N, rfl, _, _, hb⟩
      refine ⟨_, _, rfl, ?_, Or.inr ⟨⟨_, _, rfl⟩, hno⟩, Upd.of_below _ hb⟩
      unfold Lib.atoiSat I64
      split <;> omega
    · obtain ⟨tp, p, hv⟩ := g.syn
      refine Calls.mono (show Calls Tryz.prog 163 #[.string s] w _ from Any.strconv_Atoi_syntax_var Tryz.laysC172 s hs (atoi_rest hno hr) tp p w hv) ?_
      rintro e w' ⟨N, rfl, _, _, hb⟩
      exact ⟨0, _, rfl, by unfold I64; omega, Or.inr ⟨⟨_, _, rfl⟩, hno⟩, Upd.of_below _ hb⟩
theorem Atoi_l (s : ByteArray) (l : List UInt8) (hl : s.data.toList = l) (w : World) (g : Gl w) (hs : l.length ≤ 281474976710656) :
    Calls Tryz.prog 163 #[.string s] w fun e w' => ∃ n v, e = .returned (.tuple #[.int .i64 n, v]) ∧ I64 n ∧
      ((v = .nilIface ∧ Lib.atoiAll l = .ok n) ∨ (∃ t p, v = .iface t p) ∧ ∀ m, Lib.atoiAll l ≠ .ok m) ∧ Nw w w' := by
  subst hl
  exact Atoi_c s w g (by rw [bs_size]; exact hs)
theorem IndexByte_l (s : ByteArray) (c : UInt8) (l : List UInt8) (hs : s.data.toList = l) (w : World) :
    Calls Tryz.prog 162 #[.string s, .int .u8 c.toNat] w fun e w' => e = .returned (.int .i64 (Lib.indexByte l c)) ∧ w = w' := by
  have h := IndexByte_c s c.toNat w
  rwa [hs, show ((c.toNat : Int).toNat.toUInt8) = c by simp] at h
end Go.Proofs.YtiednpagknnfnaaGreatDoor
namespace Go.Proofs.YtiednpagknnfnaaGreatDoor
open Go.ChangeShapes Go.WideShapes Go.ChangeAt Go.RowKit Go.Joins
def SlS (sz lo hi : Nat) (w : World) (v : Value) (xs : List (List Value)) : Prop :=
  (∃ a cap, v = .slice a 0 cap ∧ xs = []) ∨
  ∃ b off cap, v = .slice (some ⟨b, off, none⟩) xs.length cap ∧ xs.length ≤ cap ∧ cap ≤ maxLen ∧ lo ≤ b ∧ b < hi ∧ b < w.heap.size ∧
    ∀ i (h : i < xs.length), xs[i].length = sz ∧ ∀ j, j < sz → w.cell? ⟨b, off + i * sz + j, none⟩ = xs[i][j]?
theorem SlS.upd {sz lo hi : Nat} {S : Nat → Prop} {w w' : World} {v : Value} {xs : List (List Value)} (h : SlS sz lo hi w v xs) (u : Upd S w w') (hs : ∀ k, lo ≤ k → k < hi → ¬ S k) : SlS sz lo hi w' v xs := by
  rcases h with h | ⟨b, off, cap, h1, h2, h3, h4, h5, h6, h7⟩
  · exact Or.inl h
  · refine Or.inr ⟨b, off, cap, h1, h2, h3, h4, h5, Nat.lt_of_lt_of_le h6 u.size, fun i hi' => ⟨(h7 i hi').1, fun j hj => ?_⟩⟩
    rw [← (h7 i hi').2 j hj]
    exact World.cell?_of_block (u.block b h6 (Or.inr (hs b h4 h5)))
theorem SlS.nw {sz lo hi : Nat} {w w' : World} {v : Value} {xs : List (List Value)} (h : SlS sz lo hi w v xs) (u : Nw w w') : SlS sz lo hi w' v xs := h.upd u (fun _ _ _ s => s)
theorem SlS.len {sz lo hi : Nat} {w : World} {v : Value} {xs : List (List Value)} (h : SlS sz lo hi w v xs) : xs.length ≤ maxLen := by
  rcases h with ⟨_, _, _, rfl⟩ | ⟨b, off, cap, h1, h2, h3, h4, h5, h6, h7⟩
  · exact Nat.zero_le _
  · exact Nat.le_trans h2 h3
theorem SlS.open_ {sz lo hi : Nat} {w : World} {v : Value} {xs : List (List Value)} (h : SlS sz lo hi w v xs) :
    ∃ a cap, v = .slice a xs.length cap ∧ xs.length ≤ maxLen ∧ (xs = [] ∨ ∃ b off, a = some ⟨b, off, none⟩ ∧ lo ≤ b ∧ b < hi ∧ b < w.heap.size ∧
      ∀ i (h : i < xs.length), xs[i].length = sz ∧ ∀ j, j < sz → w.cell? ⟨b, off + i * sz + j, none⟩ = xs[i][j]?) := by
  have hl := h.len
  rcases h with ⟨a, cap, rfl, rfl⟩ | ⟨b, off, cap, h1, h2, h3, h4, h5, h6, h7⟩
  · exact ⟨a, cap, rfl, hl, Or.inl rfl⟩
  · exact ⟨some ⟨b, off, none⟩, cap, h1, hl, Or.inr ⟨b, off, rfl, h4, h5, h6, h7⟩⟩
theorem cells?_spec {w : World} {base : Nat} {a : Addr} {n : Nat} {cs : List Value} (h : w.cells? base a n = some cs) : cs.length = n ∧ ∀ j, j < n → w.cell? (a.add j) = cs[j]? := by
  unfold World.cells? at h
  split at h
  · refine ⟨by have := Lib.mapM_length h; simpa using this, fun j hj => ?_⟩
    obtain ⟨b, hb, hf⟩ := Lib.mapM_at h j j (by simp [hj])
    rw [hf, hb]
  · cases h
section
variable {H : Type} {enc : TypeId × Value → H} {w : World} {base : Nat} {sp : Nat → Bool} {held : Bool} {n : Nat} {x : DataW H × List MemPlace}
theorem trod_int_cell {P : Program} {t : TypeId} {k : IntKind} {cs : List Value} (ht : P.underlying t = some (.int k)) (h : DataW.trod enc P w base sp held n t cs = some x) : ∃ m : Int, cs = [.int k m] ∧ (Lit.int k m).wf = true := by
  obtain ⟨m, h1, _, h2⟩ := DataW.trod_int ht h
  exact ⟨m, h1, h2⟩
theorem trod_str_cell {P : Program} {t : TypeId} {cs : List Value} (ht : P.underlying t = some .string) (h : DataW.trod enc P w base sp held n t cs = some x) : ∃ l : List UInt8, cs = [.string ⟨l.toArray⟩] ∧ l.length ≤ maxLen := by
  obtain ⟨s, h1, _, h2⟩ := DataW.trod_string ht h
  exact ⟨s.data.toList, by rw [bs_eta]; exact h1, by rw [← bs_size]; exact h2⟩
theorem i64_of_wf {m : Int} (h : (Lit.int .i64 m).wf = true) : I64 m := by
  have := h
  simp [Lit.wf, IntKind.min, IntKind.max, IntKind.signed, IntKind.bits] at this
  unfold I64; omega
theorem trod_slice_cells {P : Program} {t e : TypeId} {sz : Nat} {cs : List Value} (ht : P.underlying t = some (.slice e)) (hc : P.cellsOf e = sz) (hsz : 0 < sz) (h : DataW.trod enc P w base sp held n t cs = some x) :
    ∃ v xs, cs = [v] ∧ SlS sz 0 w.heap.size w v xs ∧ ∀ c ∈ xs, ∃ m y, DataW.trod enc P w base sp held m e c = some y := by
  rcases DataW.trod_slice ht h with ⟨h0, _⟩ | ⟨a, len, cap, elems, rest, m, _, rfl, rfl, hb, hl, hm, hlen, hel, _, _⟩
  · exact ⟨_, [], h0, Or.inl ⟨none, 0, rfl, rfl⟩, fun c hc => by cases hc⟩
  · have hel' : ∀ i, i < len → ∃ c y, w.cells? base (a.add (i * sz)) sz = some c ∧ DataW.trod enc P w base sp held m e c = some y := fun i hi => by
      have := hel i hi
      rw [hc] at this
      have hy : ∃ y, elems[i]? = some y := ⟨elems[i], by rw [List.getElem?_eq_getElem (by omega)]⟩
      obtain ⟨y, hy⟩ := hy
      rw [hy] at this
      obtain ⟨c, h1, h2⟩ := Option.bind_eq_some_iff.1 this
      exact ⟨c, y, h1, h2⟩
    by_cases h0 : len = 0
    · subst h0
      exact ⟨_, [], rfl, Or.inl ⟨some a, cap, rfl, rfl⟩, fun c hc => by cases hc⟩
    · obtain ⟨C, hC⟩ : ∃ C : Nat → List Value, ∀ i, i < len → w.cells? base (a.add (i * sz)) sz = some (C i) ∧ ∃ y, DataW.trod enc P w base sp held m e (C i) = some y := by
        refine ⟨fun i => if hi : i < len then (hel' i hi).choose else [], fun i hi => ?_⟩
        simp only [dif_pos hi]
        obtain ⟨y, h1, h2⟩ := (hel' i hi).choose_spec
        exact ⟨h1, y, h2⟩
      obtain ⟨hz, hcell⟩ := cells?_spec (hC 0 (by omega)).1
      have hc0 : ∃ u, w.cell? ((a.add (0 * sz)).add 0) = some u := by
        have := hcell 0 hsz
        rw [List.getElem?_eq_getElem (by omega)] at this
        exact ⟨_, this⟩
      obtain ⟨u, hu⟩ := hc0
      have hz0 : (a.add (0 * sz)).add 0 = a := by simp [Addr.add]
      rw [hz0] at hu
      obtain ⟨b, off, spot⟩ := a
      have hspot : spot = none := World.cell?_spot hu
      subst hspot
      have hbl := World.block_lt_of_cell? w _ hu
      refine ⟨_, (List.range len).map C, rfl, Or.inr ⟨b, off, cap, by simp, by simpa using hl, hm, Nat.zero_le _, hbl, hbl, fun i hi => ?_⟩, fun c hc => ?_⟩
      · have hi' : i < len := by simpa using hi
        obtain ⟨h1, h2⟩ := cells?_spec (hC i hi').1
        simp only [List.getElem_map, List.getElem_range]
        refine ⟨h1, fun j hj => ?_⟩
        rw [← h2 j hj, add_plain, add_plain]
      · obtain ⟨i, hi, rfl⟩ := List.mem_map.1 hc
        obtain ⟨y, hy⟩ := (hC i (List.mem_range.1 hi)).2
        exact ⟨m, y, hy⟩
theorem sl_of_sls {α : Type} {lo hi : Nat} {v : Value} {xs : List (List Value)} (h : SlS 1 lo hi w v xs) (f : α → Value) (Q : α → Prop) (hx : ∀ c ∈ xs, ∃ y, c = [f y] ∧ Q y) : ∃ l : List α, Sl lo hi w v (l.map f) ∧ ∀ y ∈ l, Q y := by
  obtain ⟨l, hl, hq⟩ : ∃ l : List α, xs = l.map (fun y => [f y]) ∧ ∀ y ∈ l, Q y := by
    clear h
    induction xs with
    | nil => exact ⟨[], rfl, fun y hy => by cases hy⟩
    | cons c xs ih =>
      obtain ⟨l, h1, h2⟩ := ih (fun c hc => hx c (List.mem_cons_of_mem _ hc))
      obtain ⟨y, h3, h4⟩ := hx c (List.mem_cons_self ..)
      exact ⟨y :: l, by rw [h1, h3]; rfl, fun z hz => by rcases List.mem_cons.1 hz with rfl | hz; exact h4; exact h2 z hz⟩
  refine ⟨l, ?_, hq⟩
  subst hl
  rcases h with ⟨a, cap, h1, h2⟩ | ⟨b, off, cap, h1, h2, h3, h4, h5, h6, h7⟩
  · exact Or.inl ⟨a, cap, h1, by rw [List.map_eq_nil_iff] at h2; rw [h2]; rfl⟩
  · refine Or.inr ⟨b, off, cap, by simpa using h1, by simpa using h2, h3, h4, h5, h6, fun i hi => ?_⟩
    have hi' : i < l.length := by simpa using hi
    have := (h7 i (by simpa using hi')).2 0 (by omega)
    simp only [Nat.mul_one, Nat.add_zero, List.getElem_map, List.getElem?_cons_zero] at this
    rw [this]
    simp [hi']
theorem trod_ints_cell {P : Program} {t e : TypeId} {k : IntKind} {cs : List Value} (ht : P.underlying t = some (.slice e)) (he : P.underlying e = some (.int k)) (hc : P.cellsOf e = 1) (h : DataW.trod enc P w base sp held n t cs = some x) :
    ∃ (v : Value) (l : List Int), cs = [v] ∧ Sl 0 w.heap.size w v (l.map (Value.int k)) ∧ ∀ m ∈ l, (Lit.int k m).wf = true := by
  obtain ⟨v, xs, h1, h2, h3⟩ := trod_slice_cells ht hc (by omega) h
  obtain ⟨l, h4, h5⟩ := sl_of_sls h2 (Value.int k) (fun m => (Lit.int k m).wf = true) (fun c hc => by
    obtain ⟨m, y, hy⟩ := h3 c hc
    exact trod_int_cell he hy)
  exact ⟨v, l, h1, h4, h5⟩
end
end Go.Proofs.YtiednpagknnfnaaGreatDoor
namespace Go.Proofs.YtiednpagknnfnaaGreatDoor
open Go.RowKit
theorem flat_at {α : Type} {sz : Nat} : ∀ (xs : List (List α)) (i j : Nat), (∀ x ∈ xs, x.length = sz) → j < sz → ∀ h : i < xs.length, xs.flatten[i * sz + j]? = xs[i][j]? := by
  intro xs
  induction xs with
  | nil => intro i j _ _ h; simp at h
  | cons x xs ih =>
    intro i j hx hj h
    have h0 := hx x (List.mem_cons_self ..)
    rw [List.flatten_cons]
    cases i with
    | zero => rw [List.getElem?_append_left (by omega)]; simp
    | succ i =>
      rw [List.getElem?_append_right (by rw [h0, Nat.succ_mul]; omega), h0, show (i + 1) * sz + j - sz = i * sz + j by rw [Nat.succ_mul]; omega]
      rw [ih i j (fun y hy => hx y (List.mem_cons_of_mem _ hy)) hj (by simpa using h)]
      simp
theorem SlS.of_owns {base sz : Nat} {e : TypeId} {w : World} {v : Value} {n : Nat} {xs : List (List Value)} (h : w.ownsRow base e sz v n xs.flatten) (hn : n = xs.length) (hz : 0 < sz) (hx : ∀ x ∈ xs, x.length = sz) : SlS sz base w.heap.size w v xs := by
  obtain ⟨h1, h2⟩ := h
  rcases h2 with ⟨rfl, rfl⟩ | ⟨g, cap, cur, rfl, hb, hg, hc, hm, hs, ht⟩
  · exact Or.inl ⟨_, _, rfl, List.length_eq_zero_iff.1 hn.symm⟩
  · subst hn
    refine Or.inr ⟨g, 0, cap, rfl, hc, hm, hb, lt_of_block hg, lt_of_block hg, fun i hi => ⟨hx _ (List.getElem_mem hi), fun j hj => ?_⟩⟩
    rw [cells_cell hg, Nat.zero_add, ← flat_at xs i j hx hj hi, ← ht, List.getElem?_take, if_pos]
    · simp
    · have : (i + 1) * sz ≤ xs.length * sz := Nat.mul_le_mul_right _ hi
      rw [Nat.succ_mul] at this; omega
theorem owns_base {base base' sz : Nat} {e : TypeId} {w : World} {v : Value} {n : Nat} {xs : List Value} (h : w.ownsRow base e sz v n xs) (hb : base' ≤ base) : w.ownsRow base' e sz v n xs := by
  obtain ⟨h1, h2⟩ := h
  refine ⟨h1, ?_⟩
  rcases h2 with h2 | ⟨g, cap, cur, hv, hb2, r⟩
  · exact Or.inl h2
  · exact Or.inr ⟨g, cap, cur, hv, Nat.le_trans hb hb2, r⟩
theorem wpList_cat {P : Program} {w : World} {ops : Array Oper} {rest : List Oper} {o : Oper} {a : Act} {Q : Exit → Act → World → Prop} (hgd : o.guard = none) (s x : Operand) (t : TypeId)
    (ho : o.op = .call { callee := .builtin .append, args := #[s, x], argTypes := #[t, t] })
    (base base' : Nat) (e : TypeId) (z : Value) (size bytes : Nat) (ht : P.underlying t = some (.slice e)) (hinfo : (P.info? e).map (fun i => (i.zero, i.size, i.bytes)) = some (some z, size, bytes)) (hzs : z.cells.size = size) (hsz : 0 < size)
    (v vx : Value) (n m : Nat) (xs news : List Value) (hs : a.eval s = v) (hown : w.ownsRow base e size v n xs) (hx : a.eval x = vx) (hsrc : w.ownsRow base' e size vx m news)
    (h1 : ∀ u ∈ news, u.oneCell' = true) (h63 : n + m ≤ maxLen) (hbytes : (n + m) * bytes ≤ 140737488355328) (hbase : base ≤ w.heap.size)
    (h : ∀ v' w', w'.ownsRow base e size v' (n + m) (xs ++ news) → w.grownBy w' v.ownBlock → (∀ k, v.ownBlock = some k → base ≤ k ∧ k < w.heap.size) → wpList P ops Q rest (a.put o.dst v') w') : wpList P ops Q (o :: rest) a w := by
  obtain ⟨i0, hi, hz0, hz1, hz2⟩ := info_parts hinfo
  obtain ⟨hl, hsrc2⟩ := hsrc
  rcases hsrc2 with ⟨rfl, rfl⟩ | ⟨g, cap, cur, rfl, hb, hg, hc, hm, hsz2, htk⟩
  · have hnil : news = [] := List.eq_nil_of_length_eq_zero (by simpa using hl)
    subst hnil
    refine wpList_plain hgd fun K hK => ?_
    have hr : (Builtin.append_ #[t, t] o.type #[v, .slice none 0 0]).run P w = .ok v w := by
      rcases hown.2 with ⟨rfl, rfl⟩ | ⟨g, cap, cur, rfl, _, _, hnc, _⟩
      · simp [Builtin.append_, run_underlying ht, sizeOf, typeInfo, hi, Builtin.lenOf, Builtin.firstCells]
      · simp [Builtin.append_, run_underlying ht, sizeOf, typeInfo, hi, Builtin.lenOf, Builtin.firstCells, hnc, storeCells]
    unfold Oper.wp execOp
    simp only [ho, resolve, invoke, builtin, Sem.run_bind, Sem.run_pure, Result.andThen_ok, List.map_toArray, List.map_cons, List.map_nil, hs, hx, hr]
    exact hK _ _ (h v w (by simpa using hown) ⟨rfl, rfl, rfl, Nat.le_refl _, fun _ _ _ => rfl⟩ hown.lt)
  · refine wpList_append_own _ hgd s x t ho base e i0 z size bytes ht hi hz0 hz1 hz2 hzs hsz v n xs hs hown ⟨g, 0, none⟩ m cap news hx hl ?_ h1 h63 hbytes hbase fun v' w' h2 h3 _ => h v' w' h2 h3 hown.lt
    intro j u hu
    have hj : j < m * size := by
      rw [← hl]
      exact (List.getElem?_eq_some_iff.1 hu).1
    rw [add_plain, cells_cell hg, Nat.zero_add]
    rw [← htk, List.getElem?_take, if_pos hj] at hu
    simpa using hu
end Go.Proofs.YtiednpagknnfnaaGreatDoor
namespace Go.Proofs.YtiednpagknnfnaaGreatDoor
open Go.RowKit
theorem wpList_appL {P : Program} {w : World} {ops : Array Oper} {rest : List Oper} {o : Oper} {a : Act} {Q : Exit → Act → World → Prop} (hgd : o.guard = none) (s x : Operand) (t : TypeId)
    (ho : o.op = .call { callee := .builtin .append, args := #[s, x], argTypes := #[t, t] })
    (base : Nat) (e : TypeId) (z : Value) (size bytes : Nat) (ht : P.underlying t = some (.slice e)) (hinfo : (P.info? e).map (fun i => (i.zero, i.size, i.bytes)) = some (some z, size, bytes)) (hzs : z.cells.size = size) (hsz : 0 < size)
    (v : Value) (n : Nat) (xs : List Value) (hs : a.eval s = v) (hown : w.ownsRow base e size v n xs)
    (news : List Value) (hx : a.eval x = .slice (some ⟨w.heap.size, 0, none⟩) 1 1) (hl : news.length = size) (h1 : ∀ u ∈ news, u.oneCell' = true)
    (h63 : n + 1 ≤ maxLen) (hbytes : (n + 1) * bytes ≤ 140737488355328) (hbase : base ≤ w.heap.size) (hnG : nG ≤ base)
    (h : ∀ v' w', w'.ownsRow base e size v' (n + 1) (xs ++ news) → Upd (fun k => v.ownBlock = some k) w w' → (∀ k, v'.ownBlock = some k → v.ownBlock = some k ∨ w.heap.size ≤ k) → wpList P ops Q rest (a.put o.dst v') w') : wpList P ops Q (o :: rest) a (w.alloc (.cells news.toArray e)) := by
  obtain ⟨i0, hi, hz0, hz1, hz2⟩ := info_parts hinfo
  refine wpList_append_lies _ hgd s x t ho base e i0 z size bytes ht hi hz0 hz1 hz2 hzs hsz v n xs hs (hown.alloc _) ⟨w.heap.size, 0, none⟩ 1 1 news hx (by omega) ?_ h1 (by omega) h63 hbytes (by simp; omega) (w.heap.size + 1) (by simp) fun g cap w' h2 h3 h4 h5 => ?_
  · intro j u hu
    have hb := heap_new w (.cells news.toArray e)
    rw [add_plain, cells_cell hb, Nat.zero_add]
    simpa using hu
  · refine h _ w' h2 (((nw_alloc w _).upd _).grown h3 fun k hk => ⟨Or.inl hk, ?_⟩) fun k hk => ?_
    · have := (hown.lt k hk).1
      omega
    · obtain rfl : g = k := by simpa [Value.ownBlock] using hk
      rcases h4 with h4 | h4
      · exact Or.inl h4
      · exact Or.inr (by omega)
end Go.Proofs.YtiednpagknnfnaaGreatDoor
namespace Go.Proofs.YtiednpagknnfnaaGreatDoor.Dk
structure Fil where
  now : List UInt8
  last : List UInt8
structure Disk where
  fs : Int → Fil
  q : List (Int × Int)
  lost : Int
  down : Bool
  armed : Int
  keep : List Int
def noFil : Fil := ⟨[], []⟩
def new : Disk := ⟨fun _ => noFil, [], 0, false, 0, []⟩
def setF (fs : Int → Fil) (f : Int) (x : Fil) : Int → Fil := fun g => if g = f then x else fs g
theorem setF_self (fs : Int → Fil) (f : Int) (x : Fil) : setF fs f x f = x := by simp [setF]
theorem setF_ne (fs : Int → Fil) {f g : Int} (x : Fil) (h : g ≠ f) : setF fs f x g = fs g := by simp [setF, h]
def put (s : List UInt8) (i : Nat) (t : List UInt8) : List UInt8 :=
  if t = [] then s else s.take i ++ List.replicate (i - s.length) 0 ++ t ++ s.drop (i + t.length)
def may (D : Disk) (f : Int) : Int := if D.down = true then 8 else if f < 0 ∨ 16 ≤ f then 1 else 0
def secs (i n : Nat) : List Int := (List.range ((i + n - 1) / 64 + 1 - i / 64)).map fun k => ((i / 64 + k : Nat) : Int)
def addS (q : List (Int × Int)) (p : Int × Int) : List (Int × Int) := if p ∈ q then q else q ++ [p]
def addQ (q : List (Int × Int)) (f : Int) (ns : List Int) : List (Int × Int) := ns.foldl (fun q n => addS q (f, n)) q
def add (D : Disk) (f : Int) (i : Nat) (s : List UInt8) : Disk :=
  if s = [] then D else { D with fs := setF D.fs f ⟨put (D.fs f).now i s, (D.fs f).last⟩, q := addQ D.q f (secs i s.length) }
def wErr (i : Int) (n : Nat) : Int := if i < 0 then 1 else if 16777216 < i ∨ 16777216 - i < n then 6 else 0
def write0 (D : Disk) (f i : Int) (s : List UInt8) : Disk × Int :=
  if may D f ≠ 0 then (D, may D f) else if wErr i s.length ≠ 0 then (D, wErr i s.length) else (add D f i.toNat s, 0)
def odd (keep : List Int) (i : Nat) : Bool := decide (keep ≠ []) && decide (keep.getD (i % keep.length) 0 % 2 = 1)
def survive (keep : List Int) (fs : Int → Fil) (p : Int × Int) (i : Nat) : Int → Fil :=
  if odd keep i = true ∧ 64 * p.2.toNat < (fs p.1).now.length then setF fs p.1 ⟨(fs p.1).now, put (fs p.1).last (64 * p.2.toNat) (((fs p.1).now.drop (64 * p.2.toNat)).take 64)⟩ else fs
def survives (keep : List Int) : List (Int × Int) → Nat → (Int → Fil) → Int → Fil
  | [], _, fs => fs
  | p :: q, i, fs => survives keep q (i + 1) (survive keep fs p i)
def crash (D : Disk) (keep : List Int) : Disk :=
  if D.down = true then D else { D with fs := fun f => ⟨(survives keep D.q 0 D.fs f).last, (survives keep D.q 0 D.fs f).last⟩, q := [], down := true, armed := 0 }
def ends (D : Disk) : Bool := !D.down && decide (D.armed = 1)
def counted (D : Disk) : Disk := if D.down = true ∨ D.armed = 0 then D else { D with armed := D.armed - 1 }
def write (D : Disk) (f i : Int) (s : List UInt8) : Disk × Int :=
  if ends D = true then (crash (write0 (counted D) f i s).1 (counted D).keep, 8) else write0 (counted D) f i s
def come (D : Disk) : Disk := if ends D = true then crash (counted D) D.keep else counted D
def settle (D : Disk) (f : Int) (s : List UInt8) : Disk := { D with fs := setF D.fs f ⟨s, s⟩, q := D.q.filter fun p => !decide (p.1 = f) }
def sync (D : Disk) (f : Int) : Disk × Int :=
  if may (come D) f ≠ 0 then (come D, may (come D) f)
  else if 0 < (come D).lost then ({ come D with lost := (come D).lost - 1 }, 9) else (settle (come D) f ((come D).fs f).now, 0)
def truncate (D : Disk) (f n : Int) : Disk × Int :=
  if may (come D) f ≠ 0 then (come D, may (come D) f)
  else if n < 0 ∨ ((((come D).fs f).now.length : Nat) : Int) < n then (come D, 1) else (settle (come D) f (((come D).fs f).now.take n.toNat), 0)
def read (D : Disk) (f i n : Int) : List UInt8 × Int :=
  if may D f ≠ 0 then ([], may D f) else if i < 0 ∨ n < 0 then ([], 1) else (((D.fs f).now.drop i.toNat).take n.toNat, 0)
def size (D : Disk) (f : Int) : Int := (D.fs f).now.length
def lose (D : Disk) (n : Int) : Disk := { D with lost := max n 0 }
def arm (D : Disk) (n : Int) (keep : List Int) : Disk := { D with armed := max n 0, keep := keep }
def start (D : Disk) : Disk := { D with down := false }
structure Ok (D : Disk) : Prop where
  now : ∀ f, (D.fs f).now.length ≤ 16777216
  last : ∀ f, (D.fs f).last.length ≤ 16777216
  q : ∀ p ∈ D.q, 0 ≤ p.1 ∧ p.1 < 16 ∧ 0 ≤ p.2 ∧ p.2 < 262144
  nd : D.q.Nodup
  lost : 0 ≤ D.lost ∧ D.lost ≤ 9223372036854775807
  armed : 0 ≤ D.armed ∧ D.armed ≤ 9223372036854775807
theorem new_ok : Ok new := by
  refine ⟨fun f => ?_, fun f => ?_, fun p hp => ?_, List.nodup_nil, ⟨by decide, by decide⟩, ⟨by decide, by decide⟩⟩
  · simp [new, noFil]
  · simp [new, noFil]
  · simp [new] at hp
theorem put_len (s : List UInt8) (i : Nat) (t : List UInt8) (h : t ≠ []) : (put s i t).length = max s.length (i + t.length) := by
  unfold put
  rw [if_neg h]
  simp only [List.length_append, List.length_take, List.length_replicate, List.length_drop]
  omega
theorem put_le {s : List UInt8} {i : Nat} {t : List UInt8} {n : Nat} (hs : s.length ≤ n) (ht : i + t.length ≤ n) : (put s i t).length ≤ n := by
  by_cases h : t = []
  · unfold put; rw [if_pos h]; exact hs
  · rw [put_len s i t h]; omega
theorem put_get (s : List UInt8) (i : Nat) (t : List UInt8) (ht : t ≠ []) (k : Nat) :
    (put s i t)[k]? = if k < i then (if k < s.length then s[k]? else some 0) else if k < i + t.length then t[k - i]? else s[k]? := by
  unfold put
  rw [if_neg ht]
  by_cases h1 : k < i
  · rw [if_pos h1, List.append_assoc, List.append_assoc]
    by_cases h2 : k < s.length
    · rw [if_pos h2, List.getElem?_append_left (by rw [List.length_take]; omega), List.getElem?_take, if_pos h1]
    · rw [if_neg h2, List.getElem?_append_right (by rw [List.length_take]; omega), List.length_take, List.getElem?_append_left (by rw [List.length_replicate]; omega), List.getElem?_replicate, if_pos (by omega)]
  · rw [if_neg h1]
    have hl : (s.take i ++ List.replicate (i - s.length) (0 : UInt8)).length = i := by rw [List.length_append, List.length_take, List.length_replicate]; omega
    by_cases h2 : k < i + t.length
    · rw [if_pos h2, List.append_assoc, List.getElem?_append_right (by omega), hl, List.getElem?_append_left (by omega)]
    · rw [if_neg h2, List.getElem?_append_right (by rw [List.length_append, hl]; omega), List.length_append, hl, List.getElem?_drop]
      congr 1
      omega
theorem nodup_le : ∀ (n : Nat) (l : List Nat), l.Nodup → (∀ x ∈ l, x < n) → l.length ≤ n := by
  intro n
  induction n with
  | zero =>
    intro l _ h
    cases l with
    | nil => simp
    | cons x l => exact absurd (h x (List.mem_cons_self ..)) (Nat.not_lt_zero _)
  | succ n ih =>
    intro l hd h
    have h1 := ih (l.erase n) (hd.erase n) (fun x hx => by
      have hne : x ≠ n := (hd.mem_erase_iff.1 hx).1
      have := h x (List.mem_of_mem_erase hx)
      omega)
    by_cases hm : n ∈ l
    · rw [List.length_erase_of_mem hm] at h1; omega
    · rw [List.erase_of_not_mem hm] at h1; omega
theorem Ok.q_len {D : Disk} (h : Ok D) : D.q.length ≤ 4194304 := by
  have := nodup_le 4194304 (D.q.map fun p => p.1.toNat * 262144 + p.2.toNat) (by
    refine List.pairwise_map.2 (List.Pairwise.imp_of_mem (fun {a b} ha hb hne => ?_) h.nd)
    intro e
    have h1 := h.q a ha
    have h2 := h.q b hb
    apply hne
    have e1 : a.1 = b.1 := by omega
    have e2 : a.2 = b.2 := by omega
    exact Prod.ext e1 e2) (fun x hx => by
    obtain ⟨p, hp, rfl⟩ := List.mem_map.1 hx
    have := h.q p hp
    omega)
  simpa using this
theorem mem_addS {q : List (Int × Int)} {p x : Int × Int} : x ∈ addS q p ↔ x ∈ q ∨ x = p := by
  unfold addS
  split
  · rename_i h
    constructor
    · exact Or.inl
    · rintro (h1 | rfl)
      · exact h1
      · exact h
  · simp
theorem addS_nodup {q : List (Int × Int)} {p : Int × Int} (h : q.Nodup) : (addS q p).Nodup := by
  unfold addS
  split
  · exact h
  · rename_i hn
    rw [List.nodup_append]
    exact ⟨h, by simp, fun a ha b hb e => by rw [List.mem_singleton] at hb; subst hb; subst e; exact hn ha⟩
theorem addQ_cons (q : List (Int × Int)) (f n : Int) (ns : List Int) : addQ q f (n :: ns) = addQ (addS q (f, n)) f ns := rfl
theorem mem_addQ {f : Int} {x : Int × Int} : ∀ {ns : List Int} {q : List (Int × Int)}, x ∈ addQ q f ns ↔ x ∈ q ∨ (x.1 = f ∧ x.2 ∈ ns) := by
  intro ns
  induction ns with
  | nil => intro q; simp [addQ]
  | cons n ns ih =>
    intro q
    rw [addQ_cons, ih, mem_addS]
    constructor
    · rintro ((h | rfl) | h)
      · exact Or.inl h
      · exact Or.inr ⟨rfl, List.mem_cons_self ..⟩
      · exact Or.inr ⟨h.1, List.mem_cons_of_mem _ h.2⟩
    · rintro (h | ⟨h1, h2⟩)
      · exact Or.inl (Or.inl h)
      · rcases List.mem_cons.1 h2 with h3 | h3
        · exact Or.inl (Or.inr (Prod.ext h1 h3))
        · exact Or.inr ⟨h1, h3⟩
theorem addQ_nodup {f : Int} : ∀ {ns : List Int} {q : List (Int × Int)}, q.Nodup → (addQ q f ns).Nodup := by
  intro ns
  induction ns with
  | nil => intro q h; exact h
  | cons n ns ih => intro q h; rw [addQ_cons]; exact ih (addS_nodup h)
theorem addQ_snoc (q : List (Int × Int)) (f : Int) (ns : List Int) (n : Int) : addQ q f (ns ++ [n]) = addS (addQ q f ns) (f, n) := by
  unfold addQ; rw [List.foldl_append]; rfl
theorem mem_secs {i n : Nat} {x : Int} : x ∈ secs i n ↔ ∃ k : Nat, x = k ∧ i / 64 ≤ k ∧ k ≤ (i + n - 1) / 64 := by
  unfold secs
  rw [List.mem_map]
  constructor
  · rintro ⟨k, hk, rfl⟩
    rw [List.mem_range] at hk
    exact ⟨_, rfl, by omega, by omega⟩
  · rintro ⟨k, rfl, h1, h2⟩
    exact ⟨k - i / 64, List.mem_range.2 (by omega), by omega⟩
theorem may_file {D : Disk} {f : Int} (h : may D f = 0) : D.down = false ∧ 0 ≤ f ∧ f < 16 := by
  unfold may at h
  split at h
  · cases h
  · rename_i hd
    split at h
    · cases h
    · exact ⟨by simpa using hd, by omega, by omega⟩
theorem wErr_ok {i : Int} {n : Nat} (h : wErr i n = 0) : 0 ≤ i ∧ i.toNat + n ≤ 16777216 := by
  unfold wErr at h
  split at h
  · cases h
  · split at h
    · cases h
    · exact ⟨by omega, by omega⟩
theorem add_ok {D : Disk} (h : Ok D) {f : Int} {i : Nat} {s : List UInt8} (hf : 0 ≤ f ∧ f < 16) (hi : i + s.length ≤ 16777216) : Ok (add D f i s) := by
  unfold add
  split
  · exact h
  · rename_i hs
    have hl : 0 < s.length := List.length_pos_iff.2 hs
    refine ⟨fun g => ?_, fun g => ?_, fun p hp => ?_, addQ_nodup h.nd, h.lost, h.armed⟩
    · dsimp only [setF]
      split
      · exact put_le (h.now f) hi
      · exact h.now g
    · dsimp only [setF]
      split
      · exact h.last f
      · exact h.last g
    · rcases mem_addQ.1 hp with hp | ⟨h1, h2⟩
      · exact h.q p hp
      · obtain ⟨k, e, h3, h4⟩ := mem_secs.1 h2
        rw [h1, e]
        exact ⟨hf.1, hf.2, by omega, by omega⟩
theorem write0_ok {D : Disk} (h : Ok D) (f i : Int) (s : List UInt8) : Ok (write0 D f i s).1 := by
  unfold write0
  split
  · exact h
  · rename_i h1
    split
    · exact h
    · rename_i h2
      have a := may_file (Decidable.not_not.1 h1)
      have b := wErr_ok (Decidable.not_not.1 h2)
      exact add_ok h a.2 b.2
theorem survive_now (keep : List Int) (fs : Int → Fil) (p : Int × Int) (i : Nat) (f : Int) : (survive keep fs p i f).now = (fs f).now := by
  unfold survive
  split
  · unfold setF
    split
    · rename_i e; subst e; rfl
    · rfl
  · rfl
theorem survives_now (keep : List Int) : ∀ (q : List (Int × Int)) (i : Nat) (fs : Int → Fil) (f : Int), (survives keep q i fs f).now = (fs f).now := by
  intro q
  induction q with
  | nil => intro i fs f; rfl
  | cons p q ih => intro i fs f; rw [survives, ih, survive_now]
theorem survive_last {keep : List Int} {fs : Int → Fil} {p : Int × Int} {i : Nat} {n : Nat} (h1 : ∀ f, (fs f).now.length ≤ n) (h2 : ∀ f, (fs f).last.length ≤ n) (f : Int) : (survive keep fs p i f).last.length ≤ n := by
  unfold survive
  split
  · rename_i hc
    unfold setF
    split
    · have := h1 p.1
      refine put_le (h2 p.1) ?_
      rw [List.length_take, List.length_drop]
      omega
    · exact h2 f
  · exact h2 f
theorem survives_last {keep : List Int} {n : Nat} : ∀ (q : List (Int × Int)) (i : Nat) (fs : Int → Fil), (∀ f, (fs f).now.length ≤ n) → (∀ f, (fs f).last.length ≤ n) → ∀ f, (survives keep q i fs f).last.length ≤ n := by
  intro q
  induction q with
  | nil => intro i fs h1 h2 f; exact h2 f
  | cons p q ih =>
    intro i fs h1 h2 f
    exact ih (i + 1) _ (fun g => by rw [survive_now]; exact h1 g) (fun g => survive_last h1 h2 g) f
theorem crash_ok {D : Disk} (h : Ok D) (keep : List Int) : Ok (crash D keep) := by
  unfold crash
  split
  · exact h
  · have := survives_last D.q 0 D.fs h.now h.last (keep := keep)
    refine ⟨fun f => this f, fun f => this f, fun p hp => ?_, List.nodup_nil, h.lost, ⟨Int.le_refl 0, by dsimp only; omega⟩⟩
    cases hp
theorem counted_ok {D : Disk} (h : Ok D) : Ok (counted D) := by
  unfold counted
  split
  · exact h
  · rename_i hc
    have := h.armed
    refine ⟨h.now, h.last, h.q, h.nd, h.lost, ?_⟩
    dsimp only
    have : D.armed ≠ 0 := fun e => hc (Or.inr e)
    omega
theorem come_ok {D : Disk} (h : Ok D) : Ok (come D) := by
  unfold come
  split
  · exact crash_ok (counted_ok h) _
  · exact counted_ok h
theorem settle_ok {D : Disk} (h : Ok D) (f : Int) {s : List UInt8} (hs : s.length ≤ 16777216) : Ok (settle D f s) := by
  refine ⟨fun g => ?_, fun g => ?_, fun p hp => h.q p (List.mem_filter.1 hp).1, h.nd.filter _, h.lost, h.armed⟩
  · dsimp only [settle, setF]
    split
    · exact hs
    · exact h.now g
  · dsimp only [settle, setF]
    split
    · exact hs
    · exact h.last g
theorem sync_ok {D : Disk} (h : Ok D) (f : Int) : Ok (sync D f).1 := by
  have hc := come_ok h
  unfold sync
  split
  · exact hc
  · split
    · rename_i h0
      have := hc.lost
      exact ⟨hc.now, hc.last, hc.q, hc.nd, ⟨by dsimp only; omega, by dsimp only; omega⟩, hc.armed⟩
    · exact settle_ok hc f (hc.now f)
theorem truncate_ok {D : Disk} (h : Ok D) (f n : Int) : Ok (truncate D f n).1 := by
  have hc := come_ok h
  unfold truncate
  split
  · exact hc
  · split
    · exact hc
    · have := hc.now f
      exact settle_ok hc f (by rw [List.length_take]; omega)
theorem lose_ok {D : Disk} (h : Ok D) {n : Int} (hn : n ≤ 9223372036854775807) : Ok (lose D n) := ⟨h.now, h.last, h.q, h.nd, ⟨by dsimp only [lose]; omega, by dsimp only [lose]; omega⟩, h.armed⟩
theorem arm_ok {D : Disk} (h : Ok D) {n : Int} (hn : n ≤ 9223372036854775807) (keep : List Int) : Ok (arm D n keep) := ⟨h.now, h.last, h.q, h.nd, h.lost, ⟨by dsimp only [arm]; omega, by dsimp only [arm]; omega⟩⟩
theorem start_ok {D : Disk} (h : Ok D) : Ok (start D) := ⟨h.now, h.last, h.q, h.nd, h.lost, h.armed⟩
def addK (D : Disk) (f : Int) (i : Nat) (s : List UInt8) (k : Nat) : Disk := { D with fs := setF D.fs f ⟨put (D.fs f).now i s, (D.fs f).last⟩, q := addQ D.q f ((secs i s.length).take k) }
theorem secs_len (i n : Nat) : (secs i n).length = (i + n - 1) / 64 + 1 - i / 64 := by simp [secs]
theorem secs_get {i n k : Nat} (h : k < (secs i n).length) : (secs i n)[k] = ((i / 64 + k : Nat) : Int) := by simp [secs]
theorem addK_all {D : Disk} {f : Int} {i : Nat} {s : List UInt8} (hs : s ≠ []) : addK D f i s (secs i s.length).length = add D f i s := by
  unfold addK add
  rw [if_neg hs, List.take_length]
theorem addK_succ {D : Disk} {f : Int} {i : Nat} {s : List UInt8} {k : Nat} (h : k < (secs i s.length).length) : addK D f i s (k + 1) = { addK D f i s k with q := addS (addK D f i s k).q (f, ((i / 64 + k : Nat) : Int)) } := by
  unfold addK
  dsimp only
  rw [List.take_succ_eq_append_getElem h, addQ_snoc, secs_get h]
theorem addK_ok {D : Disk} (h : Ok D) {f : Int} {i : Nat} {s : List UInt8} (hs : s ≠ []) (hf : 0 ≤ f ∧ f < 16) (hi : i + s.length ≤ 16777216) (k : Nat) : Ok (addK D f i s k) := by
  have ha := add_ok h hf hi
  unfold add at ha
  rw [if_neg hs] at ha
  refine ⟨ha.now, ha.last, fun p hp => ?_, addQ_nodup h.nd, h.lost, h.armed⟩
  rcases mem_addQ.1 hp with hp | ⟨h1, h2⟩
  · exact h.q p hp
  · exact ha.q p (mem_addQ.2 (Or.inr ⟨h1, List.mem_of_mem_take h2⟩))
theorem addS_in {q : List (Int × Int)} {p : Int × Int} (h : p ∈ q) : addS q p = q := if_pos h
theorem addS_out {q : List (Int × Int)} {p : Int × Int} (h : p ∉ q) : addS q p = q ++ [p] := if_neg h
theorem survives_append (keep : List Int) : ∀ (a b : List (Int × Int)) (i : Nat) (fs : Int → Fil), survives keep (a ++ b) i fs = survives keep b (i + a.length) (survives keep a i fs) := by
  intro a
  induction a with
  | nil => intro b i fs; rfl
  | cons p a ih =>
    intro b i fs
    rw [List.cons_append, survives, ih, survives, List.length_cons]
    congr 1
    omega
def crashK (D : Disk) (keep : List Int) (k : Nat) : Disk := { D with fs := survives keep (D.q.take k) 0 D.fs, down := true, armed := 0 }
theorem crashK_ok {D : Disk} (h : Ok D) (keep : List Int) (k : Nat) : Ok (crashK D keep k) :=
  ⟨fun f => by unfold crashK; dsimp only; rw [survives_now]; exact h.now f, fun f => survives_last _ _ _ h.now h.last f, h.q, h.nd, h.lost, ⟨Int.le_refl 0, by show (0 : Int) ≤ _; omega⟩⟩
theorem crashK_succ {D : Disk} {keep : List Int} {k : Nat} (h : k < D.q.length) : (crashK D keep (k + 1)).fs = survive keep (crashK D keep k).fs D.q[k] k := by
  unfold crashK
  dsimp only
  rw [List.take_succ_eq_append_getElem h, survives_append]
  simp only [survives, Nat.zero_add, List.length_take]
  rw [Nat.min_eq_left (Nat.le_of_lt h)]
theorem crash_eq {D : Disk} (h : D.down = false) (keep : List Int) : crash D keep = { D with fs := fun f => ⟨((crashK D keep D.q.length).fs f).last, ((crashK D keep D.q.length).fs f).last⟩, q := [], down := true, armed := 0 } := by
  unfold crash crashK
  rw [h, if_neg (by decide), List.take_length]
theorem odd_not {keep : List Int} {i : Nat} {fs : Int → Fil} {p : Int × Int} (h : odd keep i = false) : survive keep fs p i = fs := by
  unfold survive; rw [if_neg (by rw [h]; simp)]
theorem far_not {keep : List Int} {i : Nat} {fs : Int → Fil} {p : Int × Int} (h : (fs p.1).now.length ≤ 64 * p.2.toNat) : survive keep fs p i = fs := by
  unfold survive; rw [if_neg (by omega)]
theorem survive_yes {keep : List Int} {i : Nat} {fs : Int → Fil} {p : Int × Int} (h : odd keep i = true) (hl : 64 * p.2.toNat < (fs p.1).now.length) :
    survive keep fs p i = setF fs p.1 ⟨(fs p.1).now, put (fs p.1).last (64 * p.2.toNat) (((fs p.1).now.drop (64 * p.2.toNat)).take 64)⟩ := by
  unfold survive; rw [if_pos ⟨h, hl⟩]
end Go.Proofs.YtiednpagknnfnaaGreatDoor.Dk
namespace Go.Proofs.YtiednpagknnfnaaGreatDoor
open Go.ChangeShapes Go.WideShapes Go.ChangeAt Go.RowKit
theorem own : ownKnob Tryz.prog.godebug = none := by kernel_rfl
theorem laidOut : laidOutB Tryz.prog = true := by kernel_rfl
def laidAll {H : Type} : List (String × DataW H) := [("math/bits.deBruijn32tab", Rows.laid_math_bits_deBruijn32tab), ("math/bits.deBruijn64tab", Rows.laid_math_bits_deBruijn64tab), ("internal/strconv.uint64pow10", Rows.laid_internal_strconv_uint64pow10), ("strconv.ErrRange", Rows.laid_strconv_ErrRange), ("strconv.ErrSyntax", Rows.laid_strconv_ErrSyntax)]
theorem tTab : (Tryz.prog.globals[1]?).map (·.type) = some 238 := by kernel_rfl
theorem tErr1 : (Tryz.prog.globals[3]?).map (·.type) = some 144 := by kernel_rfl
theorem tErr2 : (Tryz.prog.globals[2]?).map (·.type) = some 144 := by kernel_rfl
theorem cTab : Tryz.prog.cellsOf 238 = 20 := by kernel_rfl
theorem cU64 : Tryz.prog.cellsOf 199 = 1 := by kernel_rfl
theorem pow_eq : (Rows.laid_internal_strconv_uint64pow10 : DataW Unit) = Lib.tabData .u64 Lib.pow10Tab := by rfl
theorem rowErr : ∀ u, Tryz.prog.typeName? 3 u = some "*errors.errorString" → u = 252 :=
  fun u h => typeName_ptr_named (nm := "errors.errorString") (by kernel_rfl) (by kernel_rfl) (by decide) u h
theorem lt_of_var {W : World} {n : String} {g : Nat} {cs : Array Value} (hg : Tryz.prog.globalNamed n = some g) (h : W.var? Tryz.prog n = some cs) : g < W.heap.size := by
  simp only [World.var?, hg, Option.bind_some] at h
  rcases Nat.lt_or_ge g W.heap.size with h' | h'
  · exact h'
  · rw [Array.getElem?_eq_none h'] at h; cases h
theorem cErr : Tryz.prog.cellsOf 254 = 1 := by kernel_rfl
theorem cStr : Tryz.prog.cellsOf 9 = 1 := by kernel_rfl
end Go.Proofs.YtiednpagknnfnaaGreatDoor
namespace Go.Proofs.YtiednpagknnfnaaGreatDoor
open Go.RowKit Go.MapKept
open Go.Maps (Keyed)
attribute [local irreducible] Calls
abbrev tDisk : TypeId := 75
abbrev tSec : TypeId := 103
abbrev tFile : TypeId := 105
abbrev tIntD : TypeId := 3
abbrev tFiles : TypeId := 71
abbrev tSet : TypeId := 72
def intD (n : Int) : Value := .int .i64 n
def bsV (s : List UInt8) : Value := .string ⟨s.toArray⟩
theorem bsV_inj {a b : List UInt8} (h : bsV a = bsV b) : a = b := by
  simp [bsV] at h
  exact h
def filV (x : Dk.Fil) : Value := .agg #[.string ⟨x.now.toArray⟩, .string ⟨x.last.toArray⟩]
def secV (p : Int × Int) : Value := .agg #[.int .i64 p.1, .int .i64 p.2]
def secL (p : Int × Int) : List Value := [.int .i64 p.1, .int .i64 p.2]
theorem secV_inj {p q : Int × Int} (h : secV p = secV q) : p = q := by
  simp [secV] at h
  exact Prod.ext h.1 h.2
theorem intKeyD : Keyed Tryz.prog tIntD := Maps.int_keyed Tryz.underlying3
theorem int_keyD {n : Int} (h : I64 n) : keyOf Tryz.prog tIntD (.int .i64 n) = some (.int .i64 n) := by
  unfold keyOf
  rw [Tryz.underlying3]
  unfold I64 at h
  simp [mapKey, Tryz.underlying3, i64_wf' h]
theorem secKeyed : Keyed Tryz.prog tSec := Keyed.of_law (deep_law_laid laidOut (m := 4) (by decide) (of_decide_eq_true (by kernel_rfl)) (by kernel_rfl) (by kernel_rfl))
theorem key_int_int {P : Program} {t ti : TypeId} {f1 f2 : Field} (hu : P.underlying t = some (.struct #[f1, f2])) (hi : P.underlying ti = some (.int .i64))
    (hk : P.keyType t = true) (h0 : 0 < P.types.size) (c : P.cellsOf t = 2) (ci : P.cellsOf ti = 1) (n1 : (f1.name != "_") = true) (n2 : (f2.name != "_") = true)
    (t1 : f1.type = ti) (t2 : f2.type = ti) (o1 : f1.offset = 0) (o2 : f2.offset = 1) (a b : Int) (ha : -9223372036854775808 ≤ a ∧ a ≤ 9223372036854775807) (hb : -9223372036854775808 ≤ b ∧ b ≤ 9223372036854775807) :
    ∃ l, keyOf P t (.agg #[.int .i64 a, .int .i64 b]) = some l := by
  obtain ⟨d, hd⟩ : ∃ d, P.types.size = d + 1 := ⟨P.types.size - 1, by omega⟩
  have n1' : ¬ f1.name = "_" := by simpa using n1
  have n2' : ¬ f2.name = "_" := by simpa using n2
  unfold keyOf
  rw [hu]
  simp [hk, Value.formed, hu, c, hd, Program.keyLits, hi, ci, i64_wf' ha, i64_wf' hb, Value.cells, n1', n2', t1, t2, o1, o2]
theorem sec_key {p : Int × Int} (h1 : I64 p.1) (h2 : I64 p.2) : ∃ l, keyOf Tryz.prog tSec (secV p) = some l :=
  key_int_int Tryz.underlying103 Tryz.underlying3 (by kernel_rfl) (of_decide_eq_true (by kernel_rfl)) (by kernel_rfl) (by kernel_rfl) (by decide) (by decide) rfl rfl rfl rfl _ _ h1 h2
structure SaysF (l : List (Value × Value)) (fs : Int → Dk.Fil) : Prop where
  each : ∀ p ∈ l, ∃ f, I64 f ∧ p = (.int .i64 f, filV (fs f))
  none : ∀ f, (∀ p ∈ l, p.1 ≠ .int .i64 f) → fs f = Dk.noFil
theorem SaysF.put {l l' : List (Value × Value)} {fs : Int → Dk.Fil} (h : SaysF l fs) {f : Int} (hf : I64 f) (x : Dk.Fil) (hm : ∀ p, p ∈ l' ↔ (p ∈ l ∧ p.1 ≠ .int .i64 f) ∨ p = (.int .i64 f, filV x)) : SaysF l' (Dk.setF fs f x) := by
  refine ⟨fun p hp => ?_, fun g hg => ?_⟩
  · rcases (hm p).1 hp with ⟨h1, h2⟩ | rfl
    · obtain ⟨g, hg, rfl⟩ := h.each p h1
      have hne : g ≠ f := fun e => h2 (by rw [e])
      exact ⟨g, hg, by rw [Dk.setF_ne _ _ hne]⟩
    · exact ⟨f, hf, by rw [Dk.setF_self]⟩
  · have hne : g ≠ f := fun e => hg _ ((hm _).2 (Or.inr rfl)) (by rw [e])
    rw [Dk.setF_ne _ _ hne]
    exact h.none g (fun p hp e => hg p ((hm p).2 (Or.inl ⟨hp, fun e2 => hne (by rw [e] at e2; injection e2)⟩)) e)
def FilesL (w : World) (b : Nat) (fs : Int → Dk.Fil) : Prop := ∃ l, MapL Tryz.prog tIntD w b l ∧ SaysF l fs
theorem FilesL.lt {w : World} {b : Nat} {fs : Int → Dk.Fil} (h : FilesL w b fs) : b < w.heap.size := by obtain ⟨l, h1, _⟩ := h; exact h1.lt
theorem FilesL.upd {w w' : World} {b : Nat} {fs : Int → Dk.Fil} {S : Nat → Prop} (h : FilesL w b fs) (u : Upd S w w') (hn : ¬ S b) : FilesL w' b fs := by obtain ⟨l, h1, h2⟩ := h; exact ⟨l, h1.upd u hn, h2⟩
theorem filZero (w : World) : (zeroValue tFile).run Tryz.prog w = .ok (filV Dk.noFil) w := by kernel_rfl
theorem mapl_file {w : World} {b : Nat} {fs : Int → Dk.Fil} {l : List (Value × Value)} (h1 : MapL Tryz.prog tIntD w b l) (h2 : SaysF l fs) {f : Int} (hf : I64 f) :
    (Instr.lookup tFiles (.map (some b)) (.int .i64 f) false).run Tryz.prog w = .ok (filV (fs f)) w := by
  rcases h1.look intKeyD Tryz.underlying71 (filZero w) (int_keyD hf) with ⟨v, hv, hrun⟩ | ⟨hno, hrun⟩
  · obtain ⟨g, hg, e⟩ := h2.each _ hv
    obtain ⟨e1, e2⟩ := Prod.mk.inj e
    obtain rfl : f = g := (Value.int.inj e1).2
    rw [hrun false, e2]; rfl
  · rw [hrun false, h2.none f hno]; rfl
theorem FilesL.look {w : World} {b : Nat} {fs : Int → Dk.Fil} (h : FilesL w b fs) {f : Int} (hf : I64 f) :
    (Instr.lookup tFiles (.map (some b)) (.int .i64 f) false).run Tryz.prog w = .ok (filV (fs f)) w := by
  obtain ⟨l, h1, h2⟩ := h
  exact mapl_file h1 h2 hf
theorem FilesL.put {w : World} {b : Nat} {fs : Int → Dk.Fil} (h : FilesL w b fs) (hg : nG ≤ b) {f : Int} (hf : I64 f) (x : Dk.Fil) :
    ∃ w', (Instr.mapUpdate tFiles (.map (some b)) (.int .i64 f) (filV x)).run Tryz.prog w = .ok () w' ∧ FilesL w' b (Dk.setF fs f x) ∧ Upd (· = b) w w' := by
  obtain ⟨l, h1, h2⟩ := h
  obtain ⟨w', l', hrun, hm, hl, u⟩ := h1.put intKeyD Tryz.underlying71 hg (int_keyD hf) (filV x)
  exact ⟨w', hrun, ⟨l', hm, h2.put hf x hl⟩, u⟩
theorem FilesL.made (w : World) : FilesL (w.alloc (.map #[] 0)) w.heap.size (fun _ => Dk.noFil) :=
  ⟨[], MapL.made Tryz.prog tIntD w, ⟨(fun p hp => by cases hp), fun _ _ => rfl⟩⟩
def secE (p : Int × Int) : Value × Value := (secV p, .bool true)
def SetL (w : World) (b : Nat) (q : List (Int × Int)) : Prop := MapL Tryz.prog tSec w b (q.map secE)
theorem SetL.lt {w : World} {b : Nat} {q : List (Int × Int)} (h : SetL w b q) : b < w.heap.size := MapL.lt h
theorem SetL.upd {w w' : World} {b : Nat} {q : List (Int × Int)} {S : Nat → Prop} (h : SetL w b q) (u : Upd S w w') (hn : ¬ S b) : SetL w' b q := MapL.upd h u hn
theorem SetL.made (w : World) : SetL (w.alloc (.map #[] 0)) w.heap.size [] := MapL.made Tryz.prog tSec w
theorem SetL.look {w : World} {b : Nat} {q : List (Int × Int)} (h : SetL w b q) {p : Int × Int} (h1 : I64 p.1) (h2 : I64 p.2) :
    (Instr.lookup tSet (.map (some b)) (secV p) false).run Tryz.prog w = .ok (.bool (decide (p ∈ q))) w := by
  obtain ⟨l, hl⟩ := sec_key h1 h2
  have hz : (zeroValue 4).run Tryz.prog w = .ok (.bool false) w := by kernel_rfl
  rcases MapL.look h secKeyed Tryz.underlying72 hz hl with ⟨v, hv, hrun⟩ | ⟨hno, hrun⟩
  · obtain ⟨x, hx, e⟩ := List.mem_map.1 hv
    obtain ⟨e1, e2⟩ := Prod.mk.inj e
    have := secV_inj e1
    subst this
    rw [hrun false, ← e2, decide_eq_true hx]; rfl
  · have : p ∉ q := fun hp => hno (secE p) (List.mem_map.2 ⟨p, hp, rfl⟩) rfl
    rw [hrun false, decide_eq_false this]; rfl
structure DiskR where
  db : Nat
  fm : Nat
  sm : Nat
  qv : Value
  kv : Value
def DiskR.foot (r : DiskR) (k : Nat) : Prop := k = r.db ∨ k = r.fm ∨ k = r.sm ∨ r.qv.ownBlock = some k ∨ r.kv.ownBlock = some k
def diskC (r : DiskR) (D : Dk.Disk) : Array Value := #[.map (some r.fm), r.qv, .map (some r.sm), .int .i64 D.lost, .bool D.down, .int .i64 D.armed, r.kv]
def flatQ (q : List (Int × Int)) : List Value := (q.map secL).flatten
theorem flatQ_snoc (q : List (Int × Int)) (p : Int × Int) : flatQ (q ++ [p]) = flatQ q ++ secL p := by simp [flatQ]
structure DiskAt (B : Nat) (w : World) (r : DiskR) (D : Dk.Disk) : Prop where
  hb : nG ≤ B
  db : B ≤ r.db
  fm : B ≤ r.fm
  sm : B ≤ r.sm
  ne : r.fm ≠ r.sm
  blk : w.heap[r.db]? = some (.cells (diskC r D) tDisk (0, 0))
  files : FilesL w r.fm D.fs
  set : SetL w r.sm D.q
  queue : w.ownsRow B tSec 2 r.qv D.q.length (flatQ D.q)
  keep : w.ownsRow B tIntD 1 r.kv D.keep.length (D.keep.map intD)
  ok : Dk.Ok D
  kI : ∀ x ∈ D.keep, I64 x
theorem own_blockD {B sz : Nat} {e : TypeId} {w : World} {v : Value} {n : Nat} {xs : List Value} (h : w.ownsRow B e sz v n xs) {k : Nat} (hk : v.ownBlock = some k) : B ≤ k ∧ ∃ cs, w.heap[k]? = some (.cells cs e (0, 0)) := by
  rcases h.2 with ⟨rfl, _⟩ | ⟨g, cap, cur, rfl, hb, hg, _⟩
  · cases hk
  · obtain rfl : g = k := by simpa [Value.ownBlock] using hk
    exact ⟨hb, _, hg⟩
theorem owns_updD {B sz : Nat} {S : Nat → Prop} {e : TypeId} {w w' : World} {v : Value} {n : Nat} {xs : List Value} (h : w.ownsRow B e sz v n xs) (u : Upd S w w') (hs : ∀ k, v.ownBlock = some k → ¬ S k) : w'.ownsRow B e sz v n xs := by
  obtain ⟨h1, h2⟩ := h
  refine ⟨h1, ?_⟩
  rcases h2 with h2 | ⟨g, cap, cur, rfl, hb, hg, r⟩
  · exact Or.inl h2
  · exact Or.inr ⟨g, cap, cur, rfl, hb, u.keep hg (hs g rfl), r⟩
section
variable {B : Nat} {w w' : World} {r : DiskR} {D : Dk.Disk}
theorem DiskAt.foot_lt (h : DiskAt B w r D) {k : Nat} (hk : r.foot k) : B ≤ k ∧ k < w.heap.size := by
  rcases hk with rfl | rfl | rfl | hk | hk
  · exact ⟨h.db, lt_of_block h.blk⟩
  · exact ⟨h.fm, h.files.lt⟩
  · exact ⟨h.sm, h.set.lt⟩
  · obtain ⟨h1, cs, h2⟩ := own_blockD h.queue hk
    exact ⟨h1, lt_of_block h2⟩
  · obtain ⟨h1, cs, h2⟩ := own_blockD h.keep hk
    exact ⟨h1, lt_of_block h2⟩
theorem DiskAt.upd {S : Nat → Prop} (h : DiskAt B w r D) (u : Upd S w w') (hs : ∀ k, r.foot k → ¬ S k) : DiskAt B w' r D :=
  ⟨h.hb, h.db, h.fm, h.sm, h.ne, u.keep h.blk (hs _ (Or.inl rfl)), h.files.upd u (hs _ (Or.inr (Or.inl rfl))), h.set.upd u (hs _ (Or.inr (Or.inr (Or.inl rfl)))),
    owns_updD h.queue u (fun k hk => hs k (Or.inr (Or.inr (Or.inr (Or.inl hk))))), owns_updD h.keep u (fun k hk => hs k (Or.inr (Or.inr (Or.inr (Or.inr hk))))), h.ok, h.kI⟩
theorem DiskAt.nw (h : DiskAt B w r D) (u : Nw w w') : DiskAt B w' r D := h.upd u (fun _ _ s => s)
theorem DiskAt.cells (h : DiskAt B w r D) :
    w.cell? ⟨r.db, 0, none⟩ = some (.map (some r.fm)) ∧ w.cell? ⟨r.db, 1, none⟩ = some r.qv ∧ w.cell? ⟨r.db, 2, none⟩ = some (.map (some r.sm)) ∧ w.cell? ⟨r.db, 3, none⟩ = some (.int .i64 D.lost) ∧
    w.cell? ⟨r.db, 4, none⟩ = some (.bool D.down) ∧ w.cell? ⟨r.db, 5, none⟩ = some (.int .i64 D.armed) ∧ w.cell? ⟨r.db, 6, none⟩ = some r.kv := by
  refine ⟨?_, ?_, ?_, ?_, ?_, ?_, ?_⟩ <;> (rw [cells_cell h.blk]; rfl)
theorem DiskAt.frozen (h : DiskAt B w r D) (i : Nat) : w.frozen? ⟨r.db, i, none⟩ = false := cells_frozen h.blk i
theorem DiskAt.apart (h : DiskAt B w r D) : r.db ≠ r.fm ∧ r.db ≠ r.sm ∧ r.qv.ownBlock ≠ some r.db ∧ r.qv.ownBlock ≠ some r.fm ∧ r.qv.ownBlock ≠ some r.sm ∧ r.kv.ownBlock ≠ some r.db ∧ r.kv.ownBlock ≠ some r.fm ∧ r.kv.ownBlock ≠ some r.sm ∧ (∀ k, r.qv.ownBlock = some k → r.kv.ownBlock ≠ some k) := by
  have hm : ∀ {b : Nat} {k : TypeId} {l : List (Value × Value)} {cs : Array Value} {T : TypeId}, MapL Tryz.prog k w b l → w.heap[b]? = some (.cells cs T (0, 0)) → False := fun {b k l cs T} hl e => by
    obtain ⟨es, clock, e2, _⟩ := hl
    rw [e] at e2
    cases e2
  have hf : ∃ l, MapL Tryz.prog tIntD w r.fm l := by obtain ⟨l, h1, _⟩ := h.files; exact ⟨l, h1⟩
  obtain ⟨lf, hf⟩ := hf
  have hs : MapL Tryz.prog tSec w r.sm _ := h.set
  have hb := h.blk
  refine ⟨fun e => hm hf (by rw [← e]; exact hb), fun e => hm hs (by rw [← e]; exact hb), fun e => ?_, fun e => ?_, fun e => ?_, fun e => ?_, fun e => ?_, fun e => ?_, fun k e1 e2 => ?_⟩
  · obtain ⟨_, cs, e2⟩ := own_blockD h.queue e
    rw [hb] at e2
    injection e2 with e2
    injection e2 with _ e2
    exact absurd e2 (by decide)
  · obtain ⟨_, cs, e2⟩ := own_blockD h.queue e
    exact hm hf e2
  · obtain ⟨_, cs, e2⟩ := own_blockD h.queue e
    exact hm hs e2
  · obtain ⟨_, cs, e2⟩ := own_blockD h.keep e
    rw [hb] at e2
    injection e2 with e2
    injection e2 with _ e2
    exact absurd e2 (by decide)
  · obtain ⟨_, cs, e2⟩ := own_blockD h.keep e
    exact hm hf e2
  · obtain ⟨_, cs, e2⟩ := own_blockD h.keep e
    exact hm hs e2
  · obtain ⟨_, cs, e3⟩ := own_blockD h.queue e1
    obtain ⟨_, cs', e4⟩ := own_blockD h.keep e2
    rw [e3] at e4
    injection e4 with e4
    injection e4 with _ e4
    exact absurd e4 (by decide)
def DiskTo (B : Nat) (r : DiskR) (D' : Dk.Disk) (w w' : World) : Prop :=
  ∃ r', DiskAt B w' r' D' ∧ r'.db = r.db ∧ Upd r.foot w w' ∧ ∀ j, r'.foot j → r.foot j ∨ w.heap.size ≤ j
theorem DiskTo.refl (h : DiskAt B w r D) : DiskTo B r D w w := ⟨r, h, rfl, Upd.refl _ _, fun j hj => Or.inl hj⟩
theorem DiskTo.of_nw (h : DiskAt B w r D) (u : Nw w w') : DiskTo B r D w w' := ⟨r, h.nw u, rfl, Nw.upd _ u, fun j hj => Or.inl hj⟩
theorem DiskTo.after {D' : Dk.Disk} {w0 : World} (u : Nw w0 w) (h : DiskTo B r D' w w') : DiskTo B r D' w0 w' := by
  obtain ⟨r', h1, h2, h3, h4⟩ := h
  exact ⟨r', h1, h2, Nw.trans u h3, fun j hj => (h4 j hj).imp id (fun e => by have := u.size; omega)⟩
end
end Go.Proofs.YtiednpagknnfnaaGreatDoor
namespace Go.Proofs.YtiednpagknnfnaaGreatDoor
open Go.RowKit
open Go.Maps (Keyed)
abbrev tIntS : TypeId := 3
abbrev tStrS : TypeId := 9
abbrev tPl : TypeId := 70
theorem strKeyedS : Keyed Tryz.prog tStrS := Maps.string_keyed Tryz.underlying9
theorem str_keyS {s : List UInt8} (h : s.length ≤ 1000000) : keyOf Tryz.prog tStrS (bsV s) = some (.string s) := by
  have := WideMaps.keyOf_string_mk (P := Tryz.prog) (k := tStrS) Tryz.underlying9 (s := ⟨s.toArray⟩) (by rw [bs_size, bs_list]; unfold maxLen; omega)
  rw [bs_list] at this
  exact this
def itC (x : Sg.It) : List Value := [bsV x.nm, .int .i64 x.a, .int .i64 x.b, .int .i64 x.c, .int .i64 x.pr]
def itL (l : List Sg.It) : List Value := (l.map itC).flatten
theorem itL_one (l : List Sg.It) : ∀ u ∈ itL l, u.oneCell' = true := by
  intro u hu
  obtain ⟨c, hc, hu⟩ := List.mem_flatten.1 hu
  obtain ⟨y, _, rfl⟩ := List.mem_map.1 hc
  simp only [itC, List.mem_cons, List.not_mem_nil, or_false] at hu
  rcases hu with rfl | rfl | rfl | rfl | rfl <;> rfl
def ItsAt (B : Nat) (P : Nat → Prop) (w : World) (v : Value) (l : List Sg.It) : Prop := w.ownsRow B tPl 5 v l.length (itL l) ∧ ∀ k, v.ownBlock = some k → P k
theorem ItsAt.upd {B : Nat} {P S : Nat → Prop} {w w' : World} {v : Value} {l : List Sg.It} (h : ItsAt B P w v l) (u : Upd S w w') (hs : ∀ k, P k → ¬ S k) : ItsAt B P w' v l := ⟨owns_upd' h.1 u (fun k hk => hs k (h.2 k hk)), h.2⟩
theorem own_slS {B sz : Nat} {e : TypeId} {w : World} {v : Value} {n : Nat} {xs : List Value} (h : w.ownsRow B e sz v n xs) : ∃ a cap, v = .slice a n cap := by
  rcases h.2 with ⟨h1, h2⟩ | ⟨g, cap, cur, h1, _⟩
  · exact ⟨none, 0, by rw [h1, h2]⟩
  · exact ⟨_, _, h1⟩
theorem ItsAt.nil (B : Nat) (P : Nat → Prop) (w : World) : ItsAt B P w (.slice none 0 0) [] := ⟨World.ownsRow_nil _ _ _ _, fun k hk => by cases hk⟩
def pfV (nm : List UInt8) (v : Value) : Value := .agg #[bsV nm, v]
def tE (S : Sg.Sta) : List (Value × Value) := (Sg.numbers S).map fun i => (.int .i64 (i : Nat), bsV (Sg.textN S i))
def nE (S : Sg.Sta) : List (Value × Value) := (Sg.numbers S).map fun i => (bsV (Sg.textN S i), .int .i64 (i : Nat))
def pE (C : List (Sg.Pf × Value)) : List (Value × Value) := C.map fun q => (bsV q.1.nm, pfV q.1.nm q.2)
structure SgR where
  sb : Nat
  jb : Nat
  mT : Nat
  mN : Nat
  mP : Nat
  it : Nat → Prop
def SgR.foot (x : SgR) (k : Nat) : Prop := k = x.sb ∨ k = x.mT ∨ k = x.mN ∨ k = x.mP ∨ x.it k
structure SgAt (B : Nat) (z : World) (x : SgR) (S : Sg.Sta) : Prop where
  g : Sg.G S
  big : Sg.big S ≤ 1000
  tl : ∀ t ∈ S.tx, t.length ≤ 20000
  blk : z.heap[x.sb]? = some (.cells #[.pointer (some ⟨x.jb, 0, none⟩), .int .i64 (S.th.length : Nat), .map (some x.mT), .map (some x.mN), .map (some x.mP)] 87 (0, 0))
  mt : MapL Tryz.prog tIntS z x.mT (tE S)
  mn : MapL Tryz.prog tStrS z x.mN (nE S)
  mp : ∃ C, S.pf = C.map (·.1) ∧ MapL Tryz.prog tStrS z x.mP (pE C) ∧ ∀ q ∈ C, ItsAt B x.it z q.2 q.1.its
  lt : ∀ k, x.foot k → B ≤ k ∧ k < z.heap.size
  gl : nG ≤ B
  ap : x.sb ≠ x.mT ∧ x.sb ≠ x.mN ∧ x.sb ≠ x.mP ∧ x.mT ≠ x.mN ∧ x.mT ≠ x.mP ∧ x.mN ≠ x.mP ∧ ∀ k, x.it k → k ≠ x.sb ∧ k ≠ x.mT ∧ k ≠ x.mN ∧ k ≠ x.mP
section
variable {B : Nat} {z z' : World} {x : SgR} {S : Sg.Sta} {U : Nat → Prop}
theorem SgAt.upd (h : SgAt B z x S) (u : Upd U z z') (hs : ∀ k, x.foot k → ¬ U k) : SgAt B z' x S := by
  obtain ⟨g, h1, h2, h3, h4, h5, ⟨C, h6, h7, h8⟩, h9, h10, h11⟩ := h
  exact ⟨g, h1, h2, u.keep h3 (hs _ (Or.inl rfl)), h4.upd u (hs _ (Or.inr (Or.inl rfl))), h5.upd u (hs _ (Or.inr (Or.inr (Or.inl rfl)))), ⟨C, h6, h7.upd u (hs _ (Or.inr (Or.inr (Or.inr (Or.inl rfl))))), fun q hq => (h8 q hq).upd u (fun k hk => hs k (Or.inr (Or.inr (Or.inr (Or.inr hk)))))⟩,
    fun k hk => ⟨(h9 k hk).1, Nat.lt_of_lt_of_le (h9 k hk).2 u.size⟩, h10, h11⟩
theorem SgAt.nw (h : SgAt B z x S) (u : Nw z z') : SgAt B z' x S := h.upd u (fun _ _ s => s)
theorem SgAt.cells (h : SgAt B z x S) : z.cell? ⟨x.sb, 0, none⟩ = some (.pointer (some ⟨x.jb, 0, none⟩)) ∧ z.cell? ⟨x.sb, 1, none⟩ = some (.int .i64 (S.th.length : Nat)) ∧ z.cell? ⟨x.sb, 2, none⟩ = some (.map (some x.mT)) ∧ z.cell? ⟨x.sb, 3, none⟩ = some (.map (some x.mN)) ∧ z.cell? ⟨x.sb, 4, none⟩ = some (.map (some x.mP)) := by
  refine ⟨?_, ?_, ?_, ?_, ?_⟩ <;> simp [World.cell?, h.blk]
theorem mem_numbers {i : Nat} : i ∈ Sg.numbers S ↔ Sg.thereN S i = true := by
  unfold Sg.numbers
  rw [List.mem_filter, List.mem_range]
  exact ⟨fun h => h.2, fun h => ⟨Sg.thereN_lt h, h⟩⟩
theorem numbers_nodup (S : Sg.Sta) : (Sg.numbers S).Nodup := List.nodup_range.filter _
theorem numbers_asc (S : Sg.Sta) : (Sg.numbers S).Pairwise (· < ·) := List.pairwise_lt_range.filter _
theorem numbers_len (S : Sg.Sta) : (Sg.numbers S).length ≤ S.th.length := by
  have := List.length_filter_le (Sg.thereN S) (List.range S.th.length)
  rw [List.length_range] at this
  exact this
theorem text_len (h : SgAt B z x S) (i : Nat) : (Sg.textN S i).length ≤ 20000 := by
  unfold Sg.textN
  rw [List.getD_eq_getElem?_getD]
  cases hi : S.tx[i]? with
  | none => exact Nat.zero_le _
  | some t => exact h.tl t (List.mem_of_getElem? hi)
theorem intN_inj {i j : Nat} (h : (Value.int .i64 (i : Int)) = .int .i64 (j : Int)) : i = j := by
  simp only [Value.int.injEq, true_and] at h
  omega
theorem look_t (h : SgAt B z x S) {n : Int} (hn : I64 n) :
    (Instr.lookup 83 (.map (some x.mT)) (.int .i64 n) true).run Tryz.prog z = .ok (.tuple #[bsV (if Sg.there S n then Sg.textN S n.toNat else []), .bool (Sg.there S n)]) z := by
  have hz : (zeroValue 9).run Tryz.prog z = .ok (bsV []) z := by kernel_rfl
  rcases h.mt.look intKeyD Tryz.underlying83 hz (int_keyD hn) with ⟨v, hm, hrun⟩ | ⟨hno, hrun⟩
  · obtain ⟨i, hi, e⟩ := List.mem_map.1 hm
    have e1 : (Value.int .i64 (i : Int)) = .int .i64 n := (Prod.mk.inj e).1
    simp only [Value.int.injEq, true_and] at e1
    subst e1
    have e2 : v = bsV (Sg.textN S i) := (Prod.mk.inj e).2.symm
    have ht : Sg.there S (i : Nat) = true := by
      unfold Sg.there
      rw [Int.toNat_natCast, mem_numbers.1 hi]
      simp
    rw [hrun, ht, e2]
    rfl
  · have ht : Sg.there S n = false := by
      cases ht : Sg.there S n with
      | false => rfl
      | true =>
        unfold Sg.there at ht
        simp only [Bool.and_eq_true, decide_eq_true_eq] at ht
        refine absurd ?_ (hno (.int .i64 (n.toNat : Nat), bsV (Sg.textN S n.toNat)) (List.mem_map.2 ⟨n.toNat, mem_numbers.2 ht.2, rfl⟩))
        show Value.int .i64 (n.toNat : Int) = _
        rw [Int.toNat_of_nonneg ht.1]
    rw [hrun, ht]
    rfl
theorem look_n (h : SgAt B z x S) {t : List UInt8} (ht : t.length ≤ 1000000) :
    (Instr.lookup 84 (.map (some x.mN)) (bsV t) true).run Tryz.prog z = .ok (.tuple #[.int .i64 ((Sg.find S t).getD 0 : Nat), .bool (Sg.find S t).isSome]) z := by
  have hz : (zeroValue 3).run Tryz.prog z = .ok (.int .i64 0) z := by kernel_rfl
  rcases h.mn.look strKeyedS Tryz.underlying84 hz (str_keyS ht) with ⟨v, hm, hrun⟩ | ⟨hno, hrun⟩
  · obtain ⟨i, hi, e⟩ := List.mem_map.1 hm
    have e1 := bsV_inj (Prod.mk.inj e).1
    have e2 : v = .int .i64 (i : Nat) := (Prod.mk.inj e).2.symm
    subst e1
    rw [hrun, Sg.find_there h.g (mem_numbers.1 hi), e2]
    rfl
  · cases hf : Sg.find S t with
    | none => rw [hrun]; rfl
    | some i =>
      obtain ⟨h1, h2⟩ := Sg.find_some hf
      exact absurd (by rw [h2]) (hno (bsV (Sg.textN S i), .int .i64 (i : Nat)) (List.mem_map.2 ⟨i, mem_numbers.2 h1, rfl⟩))
theorem asc_uniq {l : List Sg.Pf} (h : l.Pairwise fun a b => Fm.lt a.nm b.nm = true) {p q : Sg.Pf} (hp : p ∈ l) (hq : q ∈ l) (e : p.nm = q.nm) : p = q := by
  induction l with
  | nil => cases hp
  | cons a l ih =>
    obtain ⟨h1, h2⟩ := List.pairwise_cons.1 h
    rcases List.mem_cons.1 hp with hp' | hp' <;> rcases List.mem_cons.1 hq with hq' | hq'
    · rw [hp', hq']
    · have := h1 q hq'; rw [← hp', e, Fm.lt_irr] at this; cases this
    · have := h1 p hp'; rw [← hq', ← e, Fm.lt_irr] at this; cases this
    · exact ih h2 hp' hq'
theorem prof_mem (g : Sg.G S) {p : Sg.Pf} (hp : p ∈ S.pf) : Sg.prof S p.nm = some p := by
  unfold Sg.prof
  cases hf : S.pf.find? (fun q => decide (q.nm = p.nm)) with
  | none => have := List.find?_eq_none.1 hf p hp; simp at this
  | some q =>
    have h1 := List.mem_of_find?_eq_some hf
    have h2 := List.find?_some hf
    rw [asc_uniq g.asc h1 hp (by simpa using h2)]
theorem prof_some {nm : List UInt8} {p : Sg.Pf} (h : Sg.prof S nm = some p) : p ∈ S.pf ∧ p.nm = nm := ⟨List.mem_of_find?_eq_some h, by have := List.find?_some h; simpa using this⟩
theorem look_p (h : SgAt B z x S) {nm : List UInt8} (hn : nm.length ≤ 1000000) :
    ∃ v, (Instr.lookup 85 (.map (some x.mP)) (bsV nm) true).run Tryz.prog z = .ok (.tuple #[pfV ((Sg.prof S nm).elim [] fun p => p.nm) v, .bool (Sg.prof S nm).isSome]) z ∧ ItsAt B x.it z v ((Sg.prof S nm).elim [] fun p => p.its) := by
  have hz : (zeroValue 47).run Tryz.prog z = .ok (pfV [] (.slice none 0 0)) z := by kernel_rfl
  obtain ⟨C, h6, h7, h8⟩ := h.mp
  rcases h7.look strKeyedS Tryz.underlying85 hz (str_keyS hn) with ⟨v, hm, hrun⟩ | ⟨hno, hrun⟩
  · obtain ⟨q, hq, e⟩ := List.mem_map.1 hm
    have e1 := bsV_inj (Prod.mk.inj e).1
    have e2 : v = pfV q.1.nm q.2 := (Prod.mk.inj e).2.symm
    subst e1
    have hp : Sg.prof S q.1.nm = some q.1 := prof_mem h.g (by rw [h6]; exact List.mem_map.2 ⟨q, hq, rfl⟩)
    refine ⟨q.2, ?_, ?_⟩
    · rw [hrun, hp, e2]; rfl
    · rw [hp]; exact h8 q hq
  · cases hp : Sg.prof S nm with
    | none => exact ⟨_, by rw [hrun]; rfl, ItsAt.nil _ _ _⟩
    | some p =>
      obtain ⟨h1, h2⟩ := prof_some hp
      rw [h6] at h1
      obtain ⟨q, hq, e⟩ := List.mem_map.1 h1
      exact absurd (by rw [← h2, ← e]) (hno (bsV q.1.nm, pfV q.1.nm q.2) (List.mem_map.2 ⟨q, hq, rfl⟩))
end
end Go.Proofs.YtiednpagknnfnaaGreatDoor
namespace Go.Proofs.YtiednpagknnfnaaGreatDoor
open Go.RowKit
section
variable {P : Program} {ops : Array Oper} {Q : Exit → Act → World → Prop} {md : Region.Mode} {S : World → Prop} {k : Nat}
def Closed (md : Region.Mode) (ops : Array Oper) (listed : Array Bool) : Prop := ∀ j oj, ops[j]? = some oj → listed.getD j false = true → ∀ e ∈ oj.after, Region.binds md e = true → listed.getD e.on false = true
def closedB (md : Region.Mode) (ops : Array Oper) (listed : Array Bool) : Bool :=
  (List.range ops.size).all fun j => !listed.getD j false || (match ops[j]? with | some oj => oj.after.all fun e => !Region.binds md e || listed.getD e.on false | none => true)
theorem closed_of {listed : Array Bool} (h : closedB md ops listed = true) : Closed md ops listed := by
  intro j oj hj hl e he hb
  unfold closedB at h
  rw [List.all_eq_true] at h
  have h1 := h j (List.mem_range.2 (Array.getElem?_eq_some_iff.1 hj).1)
  rw [hl, hj] at h1
  simp only [Bool.not_true, Bool.false_or] at h1
  have h2 := Array.all_eq_true'.1 h1 e he
  rw [hb] at h2
  simpa using h2
theorem Closed.set {i : Nat} {listed : Array Bool} (inv : Closed md ops listed) (hi : i ∈ Region.ready md ops listed) : Closed md ops (listed.setIfInBounds i true) := by
  obtain ⟨_, oi, hoi, hall⟩ := mem_ready.1 hi
  intro j oj hj hl e he hb
  by_cases hij : i = j
  · subst hij
    have : oj = oi := Option.some.inj (hj.symm.trans hoi)
    subst this
    exact getD_set_true (hall e he hb)
  · rw [getD_set_ne false hij] at hl
    exact getD_set_true (inv j oj hj hl e he hb)
def leads (md : Region.Mode) (ops : Array Oper) : Nat → List Nat → Nat → Bool
  | k, [], i => Region.waitsFor md ops k i
  | k, j :: p, i => Region.waitsFor md ops k j && leads md ops j p i
theorem leads_spec {listed : Array Bool} (hc : Closed md ops listed) {i : Nat} : ∀ (p : List Nat) (k : Nat), leads md ops k p i = true → listed.getD k false = true → listed.getD i false = true
  | [], k, h, hk => by
    obtain ⟨oj, hoj, e, he, hb, hon⟩ := Region.waitsFor_spec h
    have := hc k oj hoj hk e he hb
    rwa [hon] at this
  | j :: p, k, h, hk => by
    unfold leads at h
    rw [Bool.and_eq_true] at h
    obtain ⟨oj, hoj, e, he, hb, hon⟩ := Region.waitsFor_spec h.1
    have := hc k oj hoj hk e he hb
    rw [hon] at this
    exact leads_spec hc p j h.2 this
def wpAnyG (P : Program) (md : Region.Mode) (ops : Array Oper) (Q : Exit → Act → World → Prop) (S : World → Prop) (k : Nat) : Nat → Array Bool → Act → World → Prop
  | 0, listed, a, w => Region.ready md ops listed = [] ∧ Q .normal a w
  | fuel + 1, listed, a, w =>
    (Region.ready md ops listed = [] → Q .normal a w) ∧
    ∀ i ∈ Region.ready md ops listed, wpOp P ops Q i (fun a' w' => ((listed.setIfInBounds i true).getD k false = false → S w') ∧ wpAnyG P md ops Q S k fuel (listed.setIfInBounds i true) a' w') a w
theorem wpAny_of_G : ∀ (fuel : Nat) (listed : Array Bool) (a : Act) (w : World), wpAnyG P md ops Q S k fuel listed a w → wpAny P md ops Q fuel listed a w
  | 0, _, _, _, h => h
  | fuel + 1, _, _, _, h => ⟨h.1, fun i hi => wpOp_mono (fun a' w' h' => wpAny_of_G fuel _ a' w' h'.2) (h.2 i hi)⟩
theorem wpAnyG_first {S' : World → Prop} {i : Nat} {oi : Oper} {v : Value} (hi : ops[i]? = some oi) (hik : i ≠ k) (hsel : ∀ (j : Nat) (o : Oper) cs b, ops[j]? = some o → o.op ≠ .select cs b)
    (hQ : ∀ c a w, Q (.panic c) (a.put oi.dst v) w → Q (.panic c) a w) (hT : ∀ listed w, Closed md ops listed → listed.getD i true = false → (listed.getD k false = false → S w) → S' w) :
    ∀ (fuel : Nat) (listed : Array Bool) (a : Act) (w : World),
      (∀ j oj, ops[j]? = some oj → j ≠ i → listed.getD j true = false → (∀ e ∈ oj.after, Region.binds md e = true → e.on ≠ i) → oi.apart ops oj = true) →
      Closed md ops listed → i ∈ Region.ready md ops listed → YieldsIf P ops S' oi v a → (listed.getD k false = false → S w) →
      wpAnyG P md ops Q S k fuel (listed.setIfInBounds i true) (a.put oi.dst v) w → wpAnyG P md ops Q S k (fuel + 1) listed a w := by
  intro fuel
  induction fuel with
  | zero =>
    intro listed a w _ hc hr hy hS H
    refine ⟨fun h => (by rw [h] at hr; cases hr), fun j hj => ?_⟩
    by_cases hji : j = i
    · subst hji
      exact hy.wpOp hi (hT _ _ hc (mem_ready.1 hr).1 hS) ⟨fun h => hS (by rwa [getD_set_ne false hik] at h), H⟩
    · have := ready_mono hj hji
      rw [H.1] at this
      cases this
  | succ fuel ih =>
    intro listed a w hfree hc hr hy hS H
    refine ⟨fun h => (by rw [h] at hr; cases hr), fun j hj => ?_⟩
    by_cases hji : j = i
    · subst hji
      exact hy.wpOp hi (hT _ _ hc (mem_ready.1 hr).1 hS) ⟨fun h => hS (by rwa [getD_set_ne false hik] at h), H⟩
    · have h1 := H.2 j (ready_mono hj hji)
      obtain ⟨hjun, oj, hoj, hall⟩ := mem_ready.1 hj
      have hiun := (mem_ready.1 hr).1
      have hnot : ∀ e ∈ oj.after, Region.binds md e = true → e.on ≠ i := fun e he hb heq => by
        have h1 := hall e he hb
        rw [heq, getD_both hiun] at h1
        cases h1
      have h2 := wpOp_putIf hoj (hfree j oj hoj hji hjun hnot) (fun cs b => hsel i oi cs b hi) (fun cs b => hsel j oj cs b hoj) hQ hy h1
      have hfree' : ∀ k ok, ops[k]? = some ok → k ≠ i → (listed.setIfInBounds j true).getD k true = false →
          (∀ e ∈ ok.after, Region.binds md e = true → e.on ≠ i) → oi.apart ops ok = true := fun k ok hk hki hun hno => by
        refine hfree k ok hk hki ?_ hno
        by_cases hjk : j = k
        · subst hjk; exact hjun
        · rw [getD_set_ne true hjk] at hun; exact hun
      refine wpOp_mono (fun a' w' h3 => ?_) h2
      have hS' : (listed.setIfInBounds j true).getD k false = false → S w' := fun h => h3.2.1 (by
        rw [Array.setIfInBounds_comm _ _ (Ne.symm hji), getD_set_ne false hik]
        exact h)
      refine ⟨hS', ih (listed.setIfInBounds j true) a' w' hfree' (hc.set hj) (ready_mono hr (Ne.symm hji)) h3.1 hS' ?_⟩
      rw [Array.setIfInBounds_comm _ _ hji]
      exact h3.2.2
theorem wpAnyG_pure {i : Nat} {oi : Oper} {v : Value} {fuel : Nat} {listed : Array Bool} {a : Act} {w : World} (hi : ops[i]? = some oi) (hik : (i == k) = false)
    (hs : Region.noSelect ops = true) (hf : Region.free md ops listed i = true) (hr : (Region.ready md ops listed).contains i = true) (hc : closedB md ops listed = true)
    (hQ : ∀ c a w, Q (.panic c) (a.put oi.dst v) w → Q (.panic c) a w) (hw : Region.wanted oi (yielded ops a.tmps) = true) (hy : ∀ w, (execOp a.eval oi).run P w = .ok (.value v) w) (hS : listed.getD k false = false → S w)
    (h : wpAnyG P md ops Q S k fuel (listed.setIfInBounds i true) (a.put oi.dst v) w) : wpAnyG P md ops Q S k (fuel + 1) listed a w :=
  wpAnyG_first (S' := fun _ => True) hi (by simpa using hik) (Region.noSelect_spec hs) hQ (fun _ _ _ _ _ => trivial) fuel listed a w (Region.free_spec hi hf) (closed_of hc) (by simpa using hr) (Or.inl ⟨hw, fun w _ => hy w⟩) hS h
theorem wpAnyG_load {i : Nat} {oi : Oper} {v : Value} {fuel : Nat} {listed : Array Bool} {a : Act} {w : World} (p : List Nat) (hi : ops[i]? = some oi) (hik : (i == k) = false) (hp : leads md ops k p i = true)
    (hs : Region.noSelect ops = true) (hf : Region.free md ops listed i = true) (hr : (Region.ready md ops listed).contains i = true) (hc : closedB md ops listed = true)
    (hQ : ∀ c a w, Q (.panic c) (a.put oi.dst v) w → Q (.panic c) a w) (hw : Region.wanted oi (yielded ops a.tmps) = true) (hy : ∀ w, S w → (execOp a.eval oi).run P w = .ok (.value v) w) (hS : listed.getD k false = false → S w)
    (h : wpAnyG P md ops Q S k fuel (listed.setIfInBounds i true) (a.put oi.dst v) w) : wpAnyG P md ops Q S k (fuel + 1) listed a w :=
  wpAnyG_first (S' := S) hi (by simpa using hik) (Region.noSelect_spec hs) hQ (fun l w hcl hun hSw => hSw (by
    cases hb : l.getD k false with
    | false => rfl
    | true =>
      have := leads_spec hcl p k hp hb
      rw [getD_both hun] at this
      cases this)) fuel listed a w (Region.free_spec hi hf) (closed_of hc) (by simpa using hr) (Or.inl ⟨hw, hy⟩) hS h
theorem wp_region_G {id : Nat} {a : Act} {w : World} (S : World → Prop) (k : Nat) (hm : P.follows .mixedOrders = true) (h : wpAnyG P .any ops Q S k ops.size (Array.replicate ops.size false) a w.drew) : (Code.region id ops true).wp P Q a w :=
  wp_region_any hm (wpAny_of_G _ _ _ _ h)
def AllG (P : Program) (md : Region.Mode) (ops : Array Oper) (Q : Exit → Act → World → Prop) (S : World → Prop) (k : Nat) (fuel : Nat) (listed : Array Bool) (a : Act) (w : World) (rs : List Nat) : Prop :=
  ∀ i ∈ rs, wpOp P ops Q i (fun a' w' => ((listed.setIfInBounds i true).getD k false = false → S w') ∧ wpAnyG P md ops Q S k fuel (listed.setIfInBounds i true) a' w') a w
theorem AllG.nil {fuel : Nat} {listed : Array Bool} {a : Act} {w : World} : AllG P md ops Q S k fuel listed a w [] := fun _ h => by cases h
theorem AllG.cons {fuel : Nat} {listed : Array Bool} {a : Act} {w : World} {i : Nat} {o : Oper} {rs : List Nat} (ho : ops[i]? = some o)
    (h : ∀ K' : Act → World → Prop, Hid (∀ a w, ((listed.setIfInBounds i true).getD k false = false → S w) → wpAnyG P md ops Q S k fuel (listed.setIfInBounds i true) a w → K' a w) → if Region.wanted o (yielded ops a.tmps) = true then Oper.wp P o a w K' Q else K' (a.put o.dst undef) w)
    (hs : AllG P md ops Q S k fuel listed a w rs) : AllG P md ops Q S k fuel listed a w (i :: rs) := fun j hj => by
  rcases List.mem_cons.1 hj with rfl | hj
  · exact wpOp_step ho (fun K' hK => h K' (fun a w hS hW => hK a w ⟨hS, hW⟩))
  · exact hs j hj
theorem wpAnyG_ready {fuel : Nat} {listed : Array Bool} {a : Act} {w : World} (rs : List Nat) (hr : Region.ready md ops listed = rs) (hne : rs ≠ [])
    (h : AllG P md ops Q S k fuel listed a w rs) : wpAnyG P md ops Q S k (fuel + 1) listed a w := ⟨fun h0 => absurd (hr ▸ h0) hne, hr ▸ h⟩
theorem wpAnyG_done {listed : Array Bool} {a : Act} {w : World} (hr : Region.ready md ops listed = []) (h : Q .normal a w) :
    ∀ fuel, wpAnyG P md ops Q S k fuel listed a w
  | 0 => ⟨hr, h⟩
  | _ + 1 => ⟨fun _ => h, by rw [hr]; simp⟩
end
section
variable {P : Program} {ops : Array Oper} {Q : Exit → Act → World → Prop} {md : Region.Mode} {S1 S2 : World → Prop} {k : Nat}
def SH (k : Nat) (S1 S2 : World → Prop) (listed : Array Bool) (w : World) : Prop := (listed.getD k false = false → S1 w) ∧ S2 w
theorem SH.iff {i : Nat} (hik : i ≠ k) (listed : Array Bool) (w : World) : SH k S1 S2 (listed.setIfInBounds i true) w ↔ SH k S1 S2 listed w := by
  unfold SH
  rw [getD_set_ne false hik]
def wpAnyH (P : Program) (md : Region.Mode) (ops : Array Oper) (Q : Exit → Act → World → Prop) (k : Nat) (S1 S2 : World → Prop) : Nat → Array Bool → Act → World → Prop
  | 0, listed, a, w => Region.ready md ops listed = [] ∧ Q .normal a w
  | fuel + 1, listed, a, w =>
    (Region.ready md ops listed = [] → Q .normal a w) ∧
    ∀ i ∈ Region.ready md ops listed, wpOp P ops Q i (fun a' w' => SH k S1 S2 (listed.setIfInBounds i true) w' ∧ wpAnyH P md ops Q k S1 S2 fuel (listed.setIfInBounds i true) a' w') a w
theorem wpAny_of_H : ∀ (fuel : Nat) (listed : Array Bool) (a : Act) (w : World), wpAnyH P md ops Q k S1 S2 fuel listed a w → wpAny P md ops Q fuel listed a w
  | 0, _, _, _, h => h
  | fuel + 1, _, _, _, h => ⟨h.1, fun i hi => wpOp_mono (fun a' w' h' => wpAny_of_H fuel _ a' w' h'.2) (h.2 i hi)⟩
theorem wpAnyH_first {S' : World → Prop} {i : Nat} {oi : Oper} {v : Value} (hi : ops[i]? = some oi) (hik : i ≠ k) (hsel : ∀ (j : Nat) (o : Oper) cs b, ops[j]? = some o → o.op ≠ .select cs b)
    (hQ : ∀ c a w, Q (.panic c) (a.put oi.dst v) w → Q (.panic c) a w) (hT : ∀ listed w, Closed md ops listed → listed.getD i true = false → SH k S1 S2 listed w → S' w) :
    ∀ (fuel : Nat) (listed : Array Bool) (a : Act) (w : World),
      (∀ j oj, ops[j]? = some oj → j ≠ i → listed.getD j true = false → (∀ e ∈ oj.after, Region.binds md e = true → e.on ≠ i) → oi.apart ops oj = true) →
      Closed md ops listed → i ∈ Region.ready md ops listed → YieldsIf P ops S' oi v a → SH k S1 S2 listed w →
      wpAnyH P md ops Q k S1 S2 fuel (listed.setIfInBounds i true) (a.put oi.dst v) w → wpAnyH P md ops Q k S1 S2 (fuel + 1) listed a w := by
  intro fuel
  induction fuel with
  | zero =>
    intro listed a w _ hc hr hy hS H
    refine ⟨fun h => (by rw [h] at hr; cases hr), fun j hj => ?_⟩
    by_cases hji : j = i
    · subst hji
      exact hy.wpOp hi (hT _ _ hc (mem_ready.1 hr).1 hS) ⟨(SH.iff hik _ _).2 hS, H⟩
    · have := ready_mono hj hji
      rw [H.1] at this
      cases this
  | succ fuel ih =>
    intro listed a w hfree hc hr hy hS H
    refine ⟨fun h => (by rw [h] at hr; cases hr), fun j hj => ?_⟩
    by_cases hji : j = i
    · subst hji
      exact hy.wpOp hi (hT _ _ hc (mem_ready.1 hr).1 hS) ⟨(SH.iff hik _ _).2 hS, H⟩
    · have h1 := H.2 j (ready_mono hj hji)
      obtain ⟨hjun, oj, hoj, hall⟩ := mem_ready.1 hj
      have hiun := (mem_ready.1 hr).1
      have hnot : ∀ e ∈ oj.after, Region.binds md e = true → e.on ≠ i := fun e he hb heq => by
        have h1 := hall e he hb
        rw [heq, getD_both hiun] at h1
        cases h1
      have h2 := wpOp_putIf hoj (hfree j oj hoj hji hjun hnot) (fun cs b => hsel i oi cs b hi) (fun cs b => hsel j oj cs b hoj) hQ hy h1
      have hfree' : ∀ k ok, ops[k]? = some ok → k ≠ i → (listed.setIfInBounds j true).getD k true = false →
          (∀ e ∈ ok.after, Region.binds md e = true → e.on ≠ i) → oi.apart ops ok = true := fun k ok hk hki hun hno => by
        refine hfree k ok hk hki ?_ hno
        by_cases hjk : j = k
        · subst hjk; exact hjun
        · rw [getD_set_ne true hjk] at hun; exact hun
      refine wpOp_mono (fun a' w' h3 => ?_) h2
      have hS' : SH k S1 S2 (listed.setIfInBounds j true) w' := by
        have := h3.2.1
        rw [Array.setIfInBounds_comm _ _ (Ne.symm hji)] at this
        exact (SH.iff hik _ _).1 this
      refine ⟨hS', ih (listed.setIfInBounds j true) a' w' hfree' (hc.set hj) (ready_mono hr (Ne.symm hji)) h3.1 hS' ?_⟩
      rw [Array.setIfInBounds_comm _ _ hji]
      exact h3.2.2
theorem wpAnyH_pure {i : Nat} {oi : Oper} {v : Value} {fuel : Nat} {listed : Array Bool} {a : Act} {w : World} (hi : ops[i]? = some oi) (hik : (i == k) = false)
    (hs : Region.noSelect ops = true) (hf : Region.free md ops listed i = true) (hr : (Region.ready md ops listed).contains i = true) (hc : closedB md ops listed = true)
    (hQ : ∀ c a w, Q (.panic c) (a.put oi.dst v) w → Q (.panic c) a w) (hw : Region.wanted oi (yielded ops a.tmps) = true) (hy : ∀ w, (execOp a.eval oi).run P w = .ok (.value v) w) (hS : SH k S1 S2 listed w)
    (h : wpAnyH P md ops Q k S1 S2 fuel (listed.setIfInBounds i true) (a.put oi.dst v) w) : wpAnyH P md ops Q k S1 S2 (fuel + 1) listed a w :=
  wpAnyH_first (S' := fun _ => True) hi (by simpa using hik) (Region.noSelect_spec hs) hQ (fun _ _ _ _ _ => trivial) fuel listed a w (Region.free_spec hi hf) (closed_of hc) (by simpa using hr) (Or.inl ⟨hw, fun w _ => hy w⟩) hS h
theorem wpAnyH_load1 {i : Nat} {oi : Oper} {v : Value} {fuel : Nat} {listed : Array Bool} {a : Act} {w : World} (p : List Nat) (hi : ops[i]? = some oi) (hik : (i == k) = false) (hp : leads md ops k p i = true)
    (hs : Region.noSelect ops = true) (hf : Region.free md ops listed i = true) (hr : (Region.ready md ops listed).contains i = true) (hc : closedB md ops listed = true)
    (hQ : ∀ c a w, Q (.panic c) (a.put oi.dst v) w → Q (.panic c) a w) (hw : Region.wanted oi (yielded ops a.tmps) = true) (hy : ∀ w, S1 w → S2 w → (execOp a.eval oi).run P w = .ok (.value v) w) (hS : SH k S1 S2 listed w)
    (h : wpAnyH P md ops Q k S1 S2 fuel (listed.setIfInBounds i true) (a.put oi.dst v) w) : wpAnyH P md ops Q k S1 S2 (fuel + 1) listed a w :=
  wpAnyH_first (S' := fun w => S1 w ∧ S2 w) hi (by simpa using hik) (Region.noSelect_spec hs) hQ (fun l w hcl hun hSw => ⟨hSw.1 (by
    cases hb : l.getD k false with
    | false => rfl
    | true =>
      have := leads_spec hcl p k hp hb
      rw [getD_both hun] at this
      cases this), hSw.2⟩) fuel listed a w (Region.free_spec hi hf) (closed_of hc) (by simpa using hr) (Or.inl ⟨hw, fun w h => hy w h.1 h.2⟩) hS h
theorem wpAnyH_load2 {i : Nat} {oi : Oper} {v : Value} {fuel : Nat} {listed : Array Bool} {a : Act} {w : World} (hi : ops[i]? = some oi) (hik : (i == k) = false)
    (hs : Region.noSelect ops = true) (hf : Region.free md ops listed i = true) (hr : (Region.ready md ops listed).contains i = true) (hc : closedB md ops listed = true)
    (hQ : ∀ c a w, Q (.panic c) (a.put oi.dst v) w → Q (.panic c) a w) (hw : Region.wanted oi (yielded ops a.tmps) = true) (hy : ∀ w, S2 w → (execOp a.eval oi).run P w = .ok (.value v) w) (hS : SH k S1 S2 listed w)
    (h : wpAnyH P md ops Q k S1 S2 fuel (listed.setIfInBounds i true) (a.put oi.dst v) w) : wpAnyH P md ops Q k S1 S2 (fuel + 1) listed a w :=
  wpAnyH_first (S' := S2) hi (by simpa using hik) (Region.noSelect_spec hs) hQ (fun l w _ _ hSw => hSw.2) fuel listed a w (Region.free_spec hi hf) (closed_of hc) (by simpa using hr) (Or.inl ⟨hw, hy⟩) hS h
theorem wp_region_H {id : Nat} {a : Act} {w : World} (k : Nat) (S1 S2 : World → Prop) (hm : P.follows .mixedOrders = true) (h : wpAnyH P .any ops Q k S1 S2 ops.size (Array.replicate ops.size false) a w.drew) : (Code.region id ops true).wp P Q a w :=
  wp_region_any hm (wpAny_of_H _ _ _ _ h)
theorem wpAnyH_one {fuel : Nat} {listed : Array Bool} {a : Act} {w : World} {i : Nat} {o : Oper} (hr : Region.ready md ops listed = [i]) (ho : ops[i]? = some o)
    (h : ∀ K' : Act → World → Prop, Hid (∀ a w, SH k S1 S2 (listed.setIfInBounds i true) w → wpAnyH P md ops Q k S1 S2 fuel (listed.setIfInBounds i true) a w → K' a w) → if Region.wanted o (yielded ops a.tmps) = true then Oper.wp P o a w K' Q else K' (a.put o.dst undef) w) :
    wpAnyH P md ops Q k S1 S2 (fuel + 1) listed a w :=
  ⟨(fun h0 => by rw [hr] at h0; cases h0), fun j hj => by
    rw [hr] at hj
    obtain rfl := List.mem_singleton.1 hj
    exact wpOp_step ho (fun K' hK => h K' (fun a w hS hW => hK a w ⟨hS, hW⟩))⟩
theorem wpAnyH_done {listed : Array Bool} {a : Act} {w : World} (hr : Region.ready md ops listed = []) (h : Q .normal a w) :
    ∀ fuel, wpAnyH P md ops Q k S1 S2 fuel listed a w
  | 0 => ⟨hr, h⟩
  | _ + 1 => ⟨fun _ => h, by rw [hr]; simp⟩
end
end Go.Proofs.YtiednpagknnfnaaGreatDoor
namespace Go.Proofs.YtiednpagknnfnaaGreatDoor
open Go.RowKit
attribute [local irreducible] Calls
section
variable {B : Nat} {z z' : World} {x : SgR} {S : Sg.Sta}
set_option maxHeartbeats 2000000 in
set_option maxRecDepth 100000 in
theorem sText_c (h : SgAt B z x S) {n : Int} (hn : I64 n) :
    Calls Tryz.prog 30 #[.pointer (some ⟨x.sb, 0, none⟩), .int .i64 n] z fun e z' => e = .returned (.tuple #[bsV (if Sg.there S n then Sg.textN S n.toNat else []), .bool (Sg.there S n)]) ∧ z = z' := by
  obtain ⟨c0, c1, c2, c3, c4⟩ := h.cells
  have HL := Lib.hid (look_t h hn)
  clear h
  generalize bsV (if Sg.there S n then Sg.textN S n.toNat else []) = tv at HL ⊢
  generalize Sg.there S n = b at HL ⊢
  go_enter Tryz.func30, Tryz.ntmps30
  go_wp2_with (at_lookup; refine wpList_lookL rfl _ _ 83 true rfl _ _ _ rfl rfl HL.out ?_)
  go_ret2
  exact ⟨rfl, rfl⟩
set_option maxHeartbeats 2000000 in
set_option maxRecDepth 100000 in
theorem sFind_c (h : SgAt B z x S) {t : List UInt8} (ht : t.length ≤ 1000000) :
    Calls Tryz.prog 36 #[.pointer (some ⟨x.sb, 0, none⟩), bsV t] z fun e z' => e = .returned (.tuple #[.int .i64 ((Sg.find S t).getD 0 : Nat), .bool (Sg.find S t).isSome]) ∧ z = z' := by
  obtain ⟨c0, c1, c2, c3, c4⟩ := h.cells
  have HL := Lib.hid (look_n h ht)
  clear h
  generalize bsV t = tv at HL ⊢
  generalize (Sg.find S t).isSome = b at HL ⊢
  generalize (Sg.find S t).getD 0 = m at HL ⊢
  go_enter Tryz.func36, Tryz.ntmps36
  go_wp2_with (at_lookup; refine wpList_lookL rfl _ _ 84 true rfl _ _ _ rfl rfl HL.out ?_)
  go_ret2
  exact ⟨rfl, rfl⟩
end
set_option maxHeartbeats 2000000 in
set_option maxRecDepth 100000 in
theorem version_c (a b c : Int) (w : World) (ha : I64 a) (hb : I64 b) (hc : I64 c) :
    Calls Tryz.prog 81 #[.agg #[.int .i64 a, .int .i64 b, .int .i64 c]] w fun e w' => e = .returned (.bool (Sg.part a && Sg.part b && Sg.part c)) ∧ Nw w w' := by
  unfold I64 at ha hb hc
  go_enter Tryz.func81, Tryz.ntmps81
  go_wp2_with fail
  all_goals (go_ret; refine ⟨congrArg (fun b => Ending.returned (.bool b)) ?_, nw_alloc _ _⟩; rw [Bool.eq_iff_iff]; simp only [Sg.part, Bool.and_eq_true, decide_eq_true_eq, Bool.false_eq_true]; first | omega | (simp; omega))
theorem infoPl : (Tryz.prog.info? tPl).map (fun i => (i.zero, i.size, i.bytes)) = some (some (.agg #[.string ⟨#[]⟩, .int .i64 0, .int .i64 0, .int .i64 0, .int .i64 0]), 5, 48) := by kernel_rfl
set_option maxHeartbeats 2000000 in
set_option maxRecDepth 100000 in
theorem cloneP_c {B : Nat} {P : Nat → Prop} {w : World} {v : Value} {l : List Sg.It} (hgb : nG ≤ w.heap.size) (h : ItsAt B P w v l) (hl : l.length ≤ 1000) :
    Calls Tryz.prog 69 #[v] w fun e w' => ∃ v', e = .returned v' ∧ ItsAt w.heap.size (fun k => w.heap.size ≤ k) w' v' l ∧ Nw w w' := by
  have h' := h.1
  have HL := Lib.hid hl; clear hl
  have hnil := fun (w : World) (a : Option Addr) (n c : Nat) => Lib.run_eql_slice_nil (P := Tryz.prog) w 45 _ a n c 0 0 Tryz.underlying45
  rcases h.1.2 with ⟨rfl, hn⟩ | ⟨gg, cap, cur, rfl, _, _, _⟩
  · have hn' := Lib.hid hn
    obtain rfl : l = [] := List.length_eq_zero_iff.1 hn
    clear h h' hn
    go_enter Tryz.func69, Tryz.ntmps69
    go_wp2_with fail
    go_ret
    exact ⟨_, rfl, ItsAt.nil _ _ _, Upd.refl _ _⟩
  · have Hn := Lib.hid (h'.alloc (.cells #[] tPl))
    clear h h'
    have n1 := nw_alloc w (.cells #[] tPl)
    have o1 := owns_empty w tPl 5
    go_enter Tryz.func69, Tryz.ntmps69
    go_wp2_with (at_builtin; refine wpList_cat rfl _ _ 45 rfl w.heap.size B tPl _ 5 48 Tryz.underlying45 infoPl rfl (by decide) _ _ _ _ _ _ rfl o1 rfl Hn.out ?c1 ?c2 ?c3 ?c4 ?_)
    case c1 => exact itL_one l
    case c2 => have := HL.out; unfold maxLen; omega
    case c3 => have := HL.out; omega
    case c4 => simp
    intro v' w2 hown hgrow hob
    have u2 : Nw w w2 := n1.grown hgrow (fun k hk => ⟨Or.inr (hob k hk).1, by have := (hob k hk).1; omega⟩)
    go_wp2_with fail
    go_ret
    have hown : w2.ownsRow w.heap.size tPl 5 v' l.length (itL l) := by simpa using hown
    exact ⟨_, rfl, ⟨hown, fun k hk => (hown.lt k hk).1⟩, u2⟩
theorem pf_results (tmps : Array Value) (w : World) {r : Nat} {s : ByteArray} {nv : Value} {b : Bool} {T : TypeId} (hr : tmps.getD 4 undef = .pointer (some ⟨r, 0, none⟩)) (h5 : tmps.getD 5 undef = .bool b) (hb : w.heap[r]? = some (.cells #[.string s, nv] T (0, 0))) :
    (results Tryz.f39 tmps).run Tryz.prog w = .ok (.tuple #[.agg #[.string s, nv], .bool b]) w := by
  have c0 : w.cell? ⟨r, 0, none⟩ = some (.string s) := by rw [cells_cell hb]; rfl
  have c1 : w.cell? ⟨r, 1, none⟩ = some nv := by rw [cells_cell hb]; rfl
  rw [Array.getD_eq_getD_getElem?] at hr h5
  simp [results, Tryz.results39, go_sem, hr, h5, c0, c1]
set_option maxHeartbeats 2000000 in
set_option maxRecDepth 100000 in
theorem sProfile_c {B : Nat} {z : World} {x : SgR} {S : Sg.Sta} (h : SgAt B z x S) {nm : List UInt8} (hn : nm.length ≤ 1000000) :
    Calls Tryz.prog 39 #[.pointer (some ⟨x.sb, 0, none⟩), bsV nm] z fun e z' => ∃ v', e = .returned (.tuple #[.agg #[bsV ((Sg.prof S nm).elim [] fun p => p.nm), v'], .bool (Sg.prof S nm).isSome]) ∧ ItsAt z.heap.size (fun k => z.heap.size ≤ k) z' v' ((Sg.prof S nm).elim [] fun p => p.its) ∧ Nw z z' := by
  have n1 := nw_alloc z (.cells #[.string ⟨#[]⟩, .slice none 0 0] 47)
  obtain ⟨c0, c1, c2, c3, c4⟩ := h.cells
  obtain ⟨v, hl, hv⟩ := look_p (h.nw n1) hn
  unfold pfV at hl
  have hlen : ((Sg.prof S nm).elim [] fun p => p.its).length ≤ 60 := by
    cases hp : Sg.prof S nm with
    | none => exact Nat.zero_le _
    | some p =>
      have := h.g.right p (prof_some hp).1
      unfold Sg.rightP at this
      simp only [Bool.and_eq_true, decide_eq_true_eq] at this
      exact this.1.2
  have hgb : nG ≤ z.heap.size := by have := h.gl; have := h.lt x.sb (Or.inl rfl); omega
  have hsb := (h.lt x.sb (Or.inl rfl)).2
  clear h
  generalize bsV nm = nv at hl ⊢
  unfold bsV at hl ⊢
  generalize (⟨((Sg.prof S nm).elim [] fun p => p.nm).toArray⟩ : ByteArray) = nm' at hl ⊢
  generalize ((Sg.prof S nm).elim [] fun p => p.its) = its at hv hlen ⊢
  generalize (Sg.prof S nm).isSome = b at hl ⊢
  obtain ⟨va, vc, rfl⟩ := own_slS hv.1
  have HL := Lib.hid hl
  clear hl
  have HV := Lib.hid hv
  have HB := Lib.hid hlen
  clear hv hlen
  go_enter Tryz.func39, Tryz.ntmps39
  have hn2 := nw_alloc (z.alloc (.cells #[.string ⟨#[]⟩, .slice none 0 0] 47)) (.cells #[.string nm', .slice va its.length vc] 47)
  have hb0 := Nw.keep hn2 (heap_new z (.cells #[.string ⟨#[]⟩, .slice none 0 0] 47))
  have hb1 := heap_new (z.alloc (.cells #[.string ⟨#[]⟩, .slice none 0 0] 47)) (.cells #[.string nm', .slice va its.length vc] 47)
  rw [World.size_alloc] at hb1
  have HC := Lib.hid (cloneP_c (by rw [World.size_alloc, World.size_alloc]; omega) (HV.out.upd hn2 (fun _ _ s => s)) (Nat.le_trans HB.out (by decide)))
  have hn12 := n1.trans hn2
  generalize hW : (z.alloc (.cells #[.string ⟨#[]⟩, .slice none 0 0] 47)).alloc (.cells #[.string nm', .slice va its.length vc] 47) = W at hb0 hb1 HC hn12
  have hWs : W.heap.size = z.heap.size + 2 := by rw [← hW, World.size_alloc, World.size_alloc]
  have HB0 := Lib.hid hb0
  have HB1 := Lib.hid hb1
  have HN := Lib.hid hn12
  have HW := Lib.hid hW
  have HWs := Lib.hid hWs
  clear hn2 n1 hb0 hb1 hn12 hW hWs HV
  go_wp2_with (at_lookup; refine wpList_lookL rfl _ _ 85 true rfl _ _ _ rfl rfl HL.out ?_)
  rw [HW.out]
  clear HW
  (with_reducible refine (HC.out).mono ?_)
  rintro _ w2 ⟨v', rfl, hv', u'⟩
  have q0 := Nw.keep u' HB0.out
  have q1 := Nw.keep u' HB1.out
  obtain ⟨va', vc', rfl⟩ := own_slS hv'.1
  have HV' := Lib.hid hv'
  have HU := Lib.hid (HN.out.trans u')
  have HS := Lib.hid u'.size
  clear hv' u'
  have g0 : w2.cell? ⟨z.heap.size, 0, none⟩ = some (.string ⟨#[]⟩) := cells_cell q0 0
  have g1 : w2.cell? ⟨z.heap.size, 1, none⟩ = some (.slice none 0 0) := cells_cell q0 1
  have g2 : w2.cell? ⟨z.heap.size + 1, 0, none⟩ = some (.string nm') := cells_cell q1 0
  have g3 : w2.cell? ⟨z.heap.size + 1, 1, none⟩ = some (.slice va its.length vc) := cells_cell q1 1
  have f0 := cells_frozen q0 0
  have f1 := cells_frozen q0 1
  have f2 := cells_frozen q1 0
  have f3 := cells_frozen q1 1
  have Q0 := Lib.hid q0
  clear q0 q1
  go_wp2_with fail
  have hs1 : z.heap.size ≠ z.heap.size + 1 := by omega
  have hz1 := setCell_block (setCell_block ((heap_setCell w2 ⟨z.heap.size + 1, 1, none⟩ (.slice va' its.length vc') z.heap.size hs1).trans Q0.out) 0 (.string nm')) 1 (.slice va' its.length vc')
  have hu9 : Upd (fun k => z.heap.size ≤ k ∧ k < z.heap.size + 2) w2 (((w2.setCell ⟨z.heap.size + 1, 1, none⟩ (.slice va' its.length vc')).setCell ⟨z.heap.size, 0, none⟩ (.string nm')).setCell ⟨z.heap.size, 1, none⟩ (.slice va' its.length vc')) := by
    refine Upd.trans' (S' := fun k => k = z.heap.size) (Upd.mono (S := fun k => k = z.heap.size + 1) (Upd.set1 (Upd.refl _ w2) (by omega) 1 _) (fun k _ e => by omega)) (Upd.set1 (Upd.set1 (Upd.refl _ _) hgb 0 _) hgb 1 _) (fun k _ e => by omega)
  refine bodyPost_ret (pf_results _ _ (by simp) (by simp) hz1) rfl ⟨_, rfl, ?_, HU.out.trans' hu9 (fun k hk e => by omega)⟩
  have h9 := HV'.out.upd hu9 (fun k hk e => by have := HWs.out; omega)
  exact ⟨ownsRow_base_a h9.1 (by have := HWs.out; omega), fun k hk => by have := h9.2 k hk; have := HWs.out; omega⟩
end Go.Proofs.YtiednpagknnfnaaGreatDoor
namespace Go.Proofs.YtiednpagknnfnaaGreatDoor
open Go.RowKit Go.Maps Go.Sort Go.Shelf
attribute [local irreducible] Calls CallsIn
theorem sortsI (m : Nat) : AnyZI.SortsIn Tryz.prog Tryz.sortedI_ren Fence.wide m :=
  ⟨fun blk off cap ss W hH hblk hsz => callsIn_wide.2 (Tryz.slices_Sort_int blk off cap ss W hH hblk hsz), fun p cap W => callsIn_wide.2 (Tryz.slices_Sort_int_none p cap W)⟩
theorem sortsS (m : Nat) : AnyZ.SortsIn Tryz.prog Tryz.sortedS_ren Fence.wide m :=
  ⟨fun blk off cap ss W hH hblk hsz => callsIn_wide.2 (Tryz.slices_Sort_string blk off cap ss W hH hblk hsz), fun p cap W => callsIn_wide.2 (Tryz.slices_Sort_string_none p cap W)⟩
theorem nw_below {w w' : World} (h : Below w.heap.size w w') : Nw w w' := ⟨h.os, h.tape, h.output, h.size, fun k hk _ => h.block k hk⟩
theorem sortI {ss L : List Int} (hp : ss.Perm L) (hL : L.Pairwise (· ≤ ·)) : ss.mergeSort (fun x y => decide (x ≤ y)) = L :=
  (mergeSort_of_perm_i hp).trans (List.mergeSort_of_pairwise (hL.imp fun h => decide_eq_true h))
theorem sortS {ss L : List (List UInt8)} (hp : ss.Perm L) (hL : L.Pairwise fun a b => Fm.lt a b = true) : ss.mergeSort (fun x y => decide (x ≤ y)) = L := by
  have hle : L.Pairwise fun a b => decide (a ≤ b) = true := hL.imp fun {a b} h => by
    rw [show Fm.lt a b = decide (a < b) from bytesLess_eq a b] at h
    exact decide_eq_true (List.le_of_lt (of_decide_eq_true h))
  exact (mergeSort_of_perm hp).trans (List.mergeSort_of_pairwise hle)
section
variable {B : Nat} {z : World} {x : SgR} {S : Sg.Sta}
def numI (S : Sg.Sta) : List Int := (Sg.numbers S).map fun i : Nat => (i : Int)
theorem numI_asc (S : Sg.Sta) : (numI S).Pairwise (· ≤ ·) := List.pairwise_map.2 ((numbers_asc S).imp fun h => by omega)
def nmsS (S : Sg.Sta) : List (List UInt8) := S.pf.map (·.nm)
set_option maxHeartbeats 4000000 in
set_option maxRecDepth 100000 in
theorem sNumbers_c (h : SgAt B z x S) : Calls Tryz.prog 29 #[.pointer (some ⟨x.sb, 0, none⟩)] z fun e z' => ∃ v, e = .returned v ∧ z'.ownsRow z.heap.size 3 1 v (numI S).length ((numI S).map intD) ∧ Nw z z' := by
  obtain ⟨c0, c1, c2, c3, c4⟩ := h.cells
  have hb := h.big
  unfold Sg.big at hb
  have hnl := numbers_len S
  obtain ⟨D0, hown, hperm, hsz⟩ := h.mt.intKeys Tryz.underlying3 (by rw [tE, List.length_map]; unfold maxLen; omega) (L := numI S) (by unfold tE numI; rw [List.map_map, List.map_map]; rfl)
  have hl : (numI S).length ≤ 1000 := by unfold numI; rw [List.length_map]; omega
  have hasc := numI_asc S
  generalize numI S = L at hperm hsz hl hasc ⊢
  generalize (tE S).length = nn at hown
  have hbl := hown.lt
  have hseq : SeqGives Fence.wide 2 Tryz.prog 90 #[.pointer (some ⟨z.heap.size, 0, none⟩)] encZ (fun ss => ss.Perm (intKeys D0)) (Maps.size D0) (z.alloc (.cells #[.map (some x.mT)] 83)) :=
    AnyZI.keys_gives (ρ := Tryz.keysI_ren) { Tryz.keysI with } Fence.wide _ trivial rfl (by omega) z.heap.size x.mT nn D0 _ (by simp) (by simp) (by
      obtain ⟨es, clock, hb, Ft, hs, hD⟩ := hown
      exact ⟨es, clock, (Below.heap_alloc _ _ x.mT hbl).trans hb, Ft, hs, hD⟩)
  have cK : ∀ mb W, CallsIn Fence.wide 5 Tryz.prog 57 #[.map mb] W fun e w' => e = .returned (.func (.func 90) #[] #[.pointer (some ⟨W.heap.size, 0, none⟩)]) ∧ w' = W.alloc (.cells #[.map mb] 83) := fun mb W => AnyZI.keys_in Tryz.keysI Fence.wide 5 trivial rfl mb W
  have cS := AnyZI.sorted_in Tryz.sortedI Fence.wide 5 trivial trivial trivial trivial rfl (by omega) (sortsI _) (enters_of Tryz.func89 (by kernel_rfl) rfl) 90 #[.pointer (some ⟨z.heap.size, 0, none⟩)] trivial (enters_of Tryz.func90 (by kernel_rfl) rfl) _ _ (by unfold maxLen; omega) (by omega) _ hseq
  change CallsIn _ _ Tryz.prog 56 _ _ _ at cS
  have hfK : Fence.wide.fn 57 := trivial
  have hfS : Fence.wide.fn 56 := trivial
  clear h hown hseq
  refine (callsIn_wide (n := 6)).1 ?_
  refine callsIn_of_wp Tryz.func29 rfl trivial ?_ rfl
  simp only [Tryz.ntmps29, List.size_toArray, List.length_cons, List.length_nil, Nat.reduceAdd, Nat.reduceSub, Array.replicate_succ, Array.replicate_zero, List.push_toArray, List.append_toArray, List.nil_append, List.cons_append]
  gi_wp2_with (first
    | (gi_at_call 57; refine (cK _ _).mono ?_; rintro e w' ⟨rfl, rfl⟩)
    | (gi_at_call 56; refine cS.mono ?_; rintro e w' ⟨v, ss, rfl, hS, hrow, hnil, hb⟩))
  go_ret
  rw [sortI (hS.trans hperm) hasc, (hS.trans hperm).length_eq] at hrow
  exact ⟨v, rfl, ownsRow_base_a hrow (by simp), nw_below (((Below.refl _ z).alloc (Nat.le_refl _) _).trans (hb.mono (by simp)))⟩
set_option maxHeartbeats 4000000 in
set_option maxRecDepth 100000 in
theorem sProfiles_c (h : SgAt B z x S) : Calls Tryz.prog 38 #[.pointer (some ⟨x.sb, 0, none⟩)] z fun e z' => ∃ v, e = .returned v ∧ z'.ownsRow z.heap.size 9 1 v (nmsS S).length ((nmsS S).map bsV) ∧ Nw z z' := by
  obtain ⟨c0, c1, c2, c3, c4⟩ := h.cells
  have hb := h.big
  unfold Sg.big at hb
  obtain ⟨C, h6, h7, _⟩ := h.mp
  have hC : C.length = S.pf.length := by rw [h6, List.length_map]
  obtain ⟨D0, hown, hperm, hsz⟩ := h7.strKeys Tryz.underlying9 (by rw [pE, List.length_map]; unfold maxLen; omega) (L := nmsS S) (by unfold pE nmsS; rw [h6, List.map_map, List.map_map, List.map_map]; rfl)
  have hl : (nmsS S).length ≤ 1000 := by unfold nmsS; rw [List.length_map]; omega
  have hasc : (nmsS S).Pairwise fun a b => Fm.lt a b = true := List.pairwise_map.2 h.g.asc
  generalize nmsS S = L at hperm hsz hl hasc ⊢
  generalize (pE C).length = nn at hown
  have hbl := hown.lt
  have hseq : SeqGives Fence.wide 2 Tryz.prog 112 #[.pointer (some ⟨z.heap.size, 0, none⟩)] encStr (fun ss => ss.Perm (strKeys D0)) (Maps.size D0) (z.alloc (.cells #[.map (some x.mP)] 85)) :=
    AnyZ.keys_gives (ρ := Tryz.keysS_ren) { Tryz.keysS with } Fence.wide _ trivial rfl (by omega) z.heap.size x.mP nn D0 _ (by simp) (by simp) (by
      obtain ⟨es, clock, hb, Ft, hs, hD⟩ := hown
      exact ⟨es, clock, (Below.heap_alloc _ _ x.mP hbl).trans hb, Ft, hs, hD⟩)
  have cK : ∀ mb W, CallsIn Fence.wide 5 Tryz.prog 68 #[.map mb] W fun e w' => e = .returned (.func (.func 112) #[] #[.pointer (some ⟨W.heap.size, 0, none⟩)]) ∧ w' = W.alloc (.cells #[.map mb] 85) := fun mb W => AnyZ.keys_in Tryz.keysS Fence.wide 5 trivial rfl mb W
  have cS := AnyZ.sorted_in Tryz.sortedS Fence.wide 5 trivial trivial trivial trivial rfl (by omega) (sortsS _) (enters_of Tryz.func111 (by kernel_rfl) rfl) 112 #[.pointer (some ⟨z.heap.size, 0, none⟩)] trivial (enters_of Tryz.func112 (by kernel_rfl) rfl) _ _ (by unfold maxLen; omega) (by omega) _ hseq
  change CallsIn _ _ Tryz.prog 67 _ _ _ at cS
  have hfK : Fence.wide.fn 68 := trivial
  have hfS : Fence.wide.fn 67 := trivial
  clear h hown hseq h6 h7 hC
  refine (callsIn_wide (n := 6)).1 ?_
  refine callsIn_of_wp Tryz.func38 rfl trivial ?_ rfl
  simp only [Tryz.ntmps38, List.size_toArray, List.length_cons, List.length_nil, Nat.reduceAdd, Nat.reduceSub, Array.replicate_succ, Array.replicate_zero, List.push_toArray, List.append_toArray, List.nil_append, List.cons_append]
  gi_wp2_with (first
    | (gi_at_call 68; refine (cK _ _).mono ?_; rintro e w' ⟨rfl, rfl⟩)
    | (gi_at_call 67; refine cS.mono ?_; rintro e w' ⟨v, ss, rfl, hS, hrow, hnil, hb⟩))
  go_ret
  rw [sortS (hS.trans hperm) hasc, (hS.trans hperm).length_eq] at hrow
  exact ⟨v, rfl, ownsRow_base_a hrow (by simp), nw_below (((Below.refl _ z).alloc (Nat.le_refl _) _).trans (hb.mono (by simp)))⟩
end
end Go.Proofs.YtiednpagknnfnaaGreatDoor
namespace Go.Proofs.YtiednpagknnfnaaGreatDoor
open Go.RowKit
attribute [local irreducible] Calls
theorem byteCells_append (a b : List UInt8) : Lib.byteCells (a ++ b) = Lib.byteCells a ++ Lib.byteCells b := by simp [Lib.byteCells]
theorem byteCells_take (a : List UInt8) (n : Nat) : (Lib.byteCells a).take n = Lib.byteCells (a.take n) := by simp [Lib.byteCells]
theorem byteCells_drop (a : List UInt8) (n : Nat) : (Lib.byteCells a).drop n = Lib.byteCells (a.drop n) := by simp [Lib.byteCells]
theorem byteCells_get (a : List UInt8) (j : Nat) (h : j < a.length) : (Lib.byteCells a)[j]? = some (.int .u8 (a[j].toNat : Int)) := by simp [Lib.byteCells, h]
theorem madeB (n : Nat) : madeCells (Value.int .u8 0).cells n = (Lib.byteCells (List.replicate n 0)).toArray := by
  apply Array.ext'
  refine List.ext_getElem? (fun j => ?_)
  simp only [madeCells, Value.cells, Lib.byteCells, Array.toList_map, Array.toList_range, List.getElem?_map]
  by_cases hj : j < n
  · rw [List.getElem?_range hj, List.getElem?_replicate, if_pos hj]
    simp [Nat.mod_one]
  · rw [List.getElem?_eq_none (by simpa using hj), List.getElem?_eq_none (by simpa using hj)]
    rfl
section
variable {P : Program} {w : World} {ops : Array Oper} {rest : List Oper} {o : Oper} {a : Act} {Q : Exit → Act → World → Prop}
theorem wpList_makeB (hgd : o.guard = none) (l c : Operand) (t e : TypeId) (hop : o.op = Op.makeSlice t l c) (ht : P.underlying t = some (.slice e)) (hinfo : (P.info? e).map (fun i => (i.zero, i.size, i.bytes)) = some (some (.int .u8 0), 1, 1))
    (n : Nat) (hl : a.eval l = .int .i64 n) (hc : a.eval c = .int .i64 n) (hn : n ≤ 281474976710656)
    (h : ∀ w', w'.heap[w.heap.size]? = some (.cells (Lib.byteCells (List.replicate n 0)).toArray e (0, 0)) → Nw w w' → wpList P ops Q rest (a.put o.dst (.slice (some ⟨w.heap.size, 0, none⟩) n n)) w') : wpList P ops Q (o :: rest) a w := by
  obtain ⟨i0, hi, hz0, hz1, hz2⟩ := info_parts hinfo
  have hrun := run_make (P := P) w t e i0 (.int .u8 0) ht hi hz0 .i64 .i64 n n (by omega) (Int.le_refl _) (by rw [hz2]; omega) (by omega)
  rw [Int.toNat_natCast, hz1, Nat.mul_one, madeB] at hrun
  refine wpList_plain hgd fun K hK => ?_
  unfold Oper.wp
  simp [execOp, hop, hl, hc, hrun, Result.andThen]
  exact hK _ _ (h _ (heap_new w _) (nw_alloc w _))
theorem wpList_copyB (hgd : o.guard = none) (d s : Operand) (dT sT : TypeId) (ho : o.op = .call { callee := .builtin .copy, args := #[d, s], argTypes := #[dT, sT] }) (elem : TypeId) (hu : P.underlying dT = some (.slice elem)) (hsz : (P.info? elem).map (·.size) = some 1)
    (g off dLen dCap : Nat) (hd : a.eval d = .slice (some ⟨g, off, none⟩) dLen dCap) (t : ByteArray) (hs : a.eval s = .string t) (cur : List UInt8) (T : TypeId) (hg : w.heap[g]? = some (.cells (Lib.byteCells cur).toArray T (0, 0))) (hle : t.size ≤ dLen) (hfit : off + t.size ≤ cur.length) (hG : nG ≤ g)
    (h : ∀ w', w'.heap[g]? = some (.cells (Lib.byteCells (cur.take off ++ t.data.toList ++ cur.drop (off + t.size))).toArray T (0, 0)) → Upd (fun x => x = g) w w' → wpList P ops Q rest (a.put o.dst (goInt t.size)) w') : wpList P ops Q (o :: rest) a w := by
  have hrun := Lib.run_copy_row_string (P := P) w dT sT o.type elem g off dLen dCap t (Lib.byteCells cur).toArray T hu hsz hg hle (by simpa [Lib.byteCells] using hfit)
  refine wpList_plain hgd fun K hK => ?_
  unfold Oper.wp
  simp [execOp, ho, resolve, invoke, builtin, hd, hs, hrun, Result.andThen]
  refine hK _ _ (h _ ?_ ?_)
  · have e : List.take off (Lib.byteCells cur) ++ (Lib.byteCells t.data.toList ++ List.drop (off + t.size) (Lib.byteCells cur)) = Lib.byteCells (cur.take off ++ t.data.toList ++ cur.drop (off + t.size)) := by
      rw [byteCells_take, byteCells_drop, ← byteCells_append, ← byteCells_append, List.append_assoc]
    rw [e]
    exact setRow_heap w g _ _ T _ hg
  · refine ⟨rfl, rfl, rfl, by simp [World.setRow], fun k hk hn => setRow_other w g k _ ?_⟩
    rintro rfl
    rcases hn with hn | hn
    · omega
    · exact hn rfl
end
namespace Dk
theorem put_fill (s t : List UInt8) (i n : Nat) (ht : t ≠ []) (hn : n = max s.length (i + t.length)) :
    ((s ++ List.replicate (n - s.length) 0).take i ++ t ++ (s ++ List.replicate (n - s.length) 0).drop (i + t.length)) = put s i t := by
  unfold put
  rw [if_neg ht, List.take_append, List.drop_append, List.take_replicate, List.drop_replicate]
  rw [show min (i - s.length) (n - s.length) = i - s.length by omega, show n - s.length - (i + t.length - s.length) = 0 by omega]
  simp
end Dk
theorem infoByte : (Tryz.prog.info? 5).map (fun i => (i.zero, i.size, i.bytes)) = some (some (.int .u8 0), 1, 1) := by kernel_rfl
set_option maxHeartbeats 1000000 in
theorem put_c (s t : List UInt8) (i : Nat) (w : World) (g : Gl w) (hs : s.length ≤ 16777216) (hi : i + t.length ≤ 16777216) :
    Calls Tryz.prog 47 #[.string ⟨s.toArray⟩, .int .i64 i, .string ⟨t.toArray⟩] w fun e w' => e = .returned (.string ⟨(Dk.put s i t).toArray⟩) ∧ Nw w w' := by
  have hgb := g.big
  by_cases ht : t = []
  · subst ht
    have hr : Hid (Dk.put s i [] = s) := by show _ = _; unfold Dk.put; rw [if_pos rfl]
    go_enter Tryz.func47, Tryz.ntmps47
    go_wp2_with fail
    go_ret
    exact ⟨by rw [hr.out]; rfl, Upd.refl _ _⟩
  · have htl : 0 < t.length := List.length_pos_iff.2 ht
    have hT : Hid (t ≠ []) := ht
    have hte : t.isEmpty = false := by cases t with | nil => exact absurd rfl ht | cons _ _ => rfl
    have hte2 : (t == ([] : List UInt8)) = false := by cases t with | nil => exact absurd rfl ht | cons _ _ => rfl
    obtain ⟨n, hn⟩ : ∃ n, n = max s.length (i + t.length) := ⟨_, rfl⟩
    have hfn := Dk.put_fill s t i n ht hn
    have hmx : max (s.length : Int) ((i : Int) + t.length) = (n : Int) := by rw [hn]; omega
    have hn1 : s.length ≤ n := by omega
    have hn2 : i + t.length ≤ n := by omega
    have hn3 : n ≤ 16777216 := by omega
    have Hfn := Lib.hid hfn
    have Hn := Lib.hid hn
    have Hn1 := Lib.hid hn1
    have Hn2 := Lib.hid hn2
    have Hn3 := Lib.hid hn3
    have Htl := Lib.hid htl
    have b1 : (s.length : Int) ≤ 16777216 := by omega
    have b2 : (i : Int) + t.length ≤ 16777216 := by omega
    have Hmx := Lib.hid hmx
    clear hfn hn hn1 hn2 hn3 hs hi htl hmx ht
    go_enter Tryz.func47, Tryz.ntmps47
    have hsz1 : ((⟨s.toArray⟩ : ByteArray).size) = s.length := by simp [ByteArray.size]
    have Hsz1 := Lib.hid hsz1
    have hsz2 : ((⟨t.toArray⟩ : ByteArray).size) = t.length := by simp [ByteArray.size]
    have Hsz2 := Lib.hid hsz2
    have hlr : (Lib.byteCells (List.replicate n 0)).length = n := by simp [Lib.byteCells]
    clear hsz1 hsz2 hlr
    go_wp2_with (at_make; refine wpList_makeB rfl _ _ 135 5 rfl Tryz.underlying135 infoByte n (congrArg (Value.int .i64) Hmx.out) (congrArg (Value.int .i64) Hmx.out) (by have := Hn3.out; omega) ?_)
    intro w1 hb1 u1
    have Hb1 := Lib.hid hb1
    clear hb1
    go_wp2_with (refine wpList_copyB rfl _ _ 135 9 rfl 5 Tryz.underlying135 (by kernel_rfl) w.heap.size 0 n n rfl ⟨s.toArray⟩ rfl (List.replicate n 0) 5 Hb1.out (by rw [Hsz1.out]; exact Hn1.out) (by rw [Hsz1.out, List.length_replicate]; have := Hn1.out; omega) hgb ?_)
    intro w2 hb2 u2
    have Hb2 := Lib.hid hb2
    clear hb2
    have hlt : i < n := by have := Hn2.out; have := Htl.out; omega
    have hle : (i : Int) ≤ n := by omega
    have HU2 : Hid (Nw w w2) := u1.trans' u2 (fun k hk e => by omega)
    have hb2' : w2.heap[w.heap.size]? = some (.cells (Lib.byteCells (s ++ List.replicate (n - s.length) 0)).toArray 5 (0, 0)) := by simpa using Hb2.out
    have Hb3 := Lib.hid hb2'
    clear u2 Hb2 Hb1 u1 hb2'
    go_wp2_with (refine wpList_copyB rfl _ _ 135 9 rfl 5 Tryz.underlying135 (by kernel_rfl) w.heap.size i _ _ rfl ⟨t.toArray⟩ rfl (s ++ List.replicate (n - s.length) 0) 5 Hb3.out (by rw [Hsz2.out]; have := Hn2.out; omega) (by rw [Hsz2.out, List.length_append, List.length_replicate]; have := Hn2.out; have := Hn1.out; omega) hgb ?_)
    intro w3 hb3 u3
    have HU3 : Hid (Nw w w3) := HU2.out.trans' u3 (fun k hk e => by omega)
    have hb3' : w3.heap[w.heap.size]? = some (.cells (Lib.byteCells (Dk.put s i t)).toArray 5 (0, 0)) := by
      rw [← Hfn.out, hb3, List.append_assoc]
    have hpl : (Dk.put s i t).length = n := by rw [Dk.put_len s i t hT.out, Hn.out]
    have hcv := run_convert_bytes_back (P := Tryz.prog) w3 135 9 5 ⟨w.heap.size, 0, none⟩ n (Dk.put s i t) Tryz.underlying135 Tryz.underlying5 Tryz.underlying9 (fun j hj => by
      rw [add_plain, cells_cell hb3', Nat.zero_add]
      simpa using byteCells_get (Dk.put s i t) j hj)
    rw [hpl] at hcv
    clear u3 Hb3 hb3 hb3' hpl Hfn
    go_wp2_with fail
    go_ret
    exact ⟨rfl, HU3.out⟩
theorem dnew_c (w : World) (g : Gl w) : Calls Tryz.prog 6 #[] w fun e w' => ∃ r, e = .returned (.pointer (some ⟨r.db, 0, none⟩)) ∧ DiskAt w.heap.size w' r Dk.new ∧ Nw w w' := by
  have hmm := @run_makeMap Tryz.prog
  have hgb := g.big
  have f1 := FilesL.made w
  have n1 := nw_alloc w (.map #[] 0)
  have s2 := SetL.made (w.alloc (.map #[] 0))
  have n2 := nw_alloc (w.alloc (.map #[] 0)) (.map #[] 0)
  have n3 := nw_alloc ((w.alloc (.map #[] 0)).alloc (.map #[] 0)) (.cells #[.map (some w.heap.size), .slice none 0 0, .map (some (w.heap.size + 1)), .int .i64 0, .bool false, .int .i64 0, .slice none 0 0] tDisk)
  have k3 := heap_new ((w.alloc (.map #[] 0)).alloc (.map #[] 0)) (.cells #[.map (some w.heap.size), .slice none 0 0, .map (some (w.heap.size + 1)), .int .i64 0, .bool false, .int .i64 0, .slice none 0 0] tDisk)
  have F := Lib.hid ((f1.upd n2 id).upd n3 id)
  have S := Lib.hid (s2.upd n3 id)
  have U := Lib.hid ((n1.trans n2).trans n3)
  have K := Lib.hid k3
  clear f1 s2 n1 n2 n3 k3
  go_enter Tryz.func6, Tryz.ntmps6
  go_wp2_with fail
  go_ret
  refine ⟨⟨w.heap.size + 1 + 1, w.heap.size, w.heap.size + 1, .slice none 0 0, .slice none 0 0⟩, by simp, ⟨g.big, (by show w.heap.size ≤ w.heap.size + 1 + 1; omega), (by show w.heap.size ≤ w.heap.size; omega), (by show w.heap.size ≤ w.heap.size + 1; omega), (by show w.heap.size ≠ w.heap.size + 1; omega), ?_, F.out, ?_, World.ownsRow_nil _ _ _ _, World.ownsRow_nil _ _ _ _, Dk.new_ok, fun x hx => by cases hx⟩, U.out⟩
  · have := K.out
    rw [show ((w.alloc (.map #[] 0)).alloc (.map #[] 0)).heap.size = w.heap.size + 1 + 1 by simp] at this
    exact this
  · have := S.out
    rw [show (w.alloc (.map #[] 0)).heap.size = w.heap.size + 1 by simp] at this
    exact this
section
variable {B : Nat} {w : World} {r : DiskR} {D : Dk.Disk}
theorem may_c (h : DiskAt B w r D) (f : Int) :
    Calls Tryz.prog 50 #[.pointer (some ⟨r.db, 0, none⟩), .int .i64 f] w fun e w' => e = .returned (.int .i64 (Dk.may D f)) ∧ w = w' := by
  obtain ⟨_, _, _, _, c4, _, _⟩ := h.cells
  cases hd : D.down with
  | true =>
    rw [hd] at c4
    have hr : Hid (Dk.may D f = 8) := by show _ = _; unfold Dk.may; rw [hd, if_pos rfl]
    clear h hd
    go_enter Tryz.func50, Tryz.ntmps50
    go_wp2_with fail
    go_ret
    exact ⟨by rw [hr.out]; rfl, rfl⟩
  | false =>
    rw [hd] at c4
    have hr0 : Dk.may D f = if f < 0 ∨ 16 ≤ f then 1 else 0 := by unfold Dk.may; rw [hd, if_neg (by decide)]
    by_cases h1 : f < 0
    · have hr : Hid (Dk.may D f = 1) := by show _ = _; rw [hr0, if_pos (Or.inl h1)]
      clear h hd hr0
      go_enter Tryz.func50, Tryz.ntmps50
      go_wp2_with fail
      go_ret
      exact ⟨by rw [hr.out]; rfl, rfl⟩
    by_cases h2 : 16 ≤ f
    · have hr : Hid (Dk.may D f = 1) := by show _ = _; rw [hr0, if_pos (Or.inr h2)]
      clear h hd hr0
      go_enter Tryz.func50, Tryz.ntmps50
      go_wp2_with fail
      go_ret
      exact ⟨by rw [hr.out]; rfl, rfl⟩
    · have hr : Hid (Dk.may D f = 0) := by show _ = _; rw [hr0, if_neg (by omega)]
      clear h hd hr0
      go_enter Tryz.func50, Tryz.ntmps50
      go_wp2_with fail
      go_ret
      exact ⟨by rw [hr.out]; rfl, rfl⟩
theorem DiskAt.store {D' : Dk.Disk} (h : DiskAt B w r D) (i : Nat) (v : Value) (hc : (diskC r D).setIfInBounds i v = diskC r D') (e1 : D'.fs = D.fs) (e2 : D'.q = D.q) (e3 : D'.keep = D.keep) (hk : Dk.Ok D') :
    DiskAt B (w.setCell ⟨r.db, i, none⟩ v) r D' ∧ Upd (fun k => k = r.db) w (w.setCell ⟨r.db, i, none⟩ v) := by
  obtain ⟨a1, a2, a3, a4, a5, a6, a7, a8, a9⟩ := h.apart
  have hb := h.hb
  have hdb := h.db
  have u : Upd (fun k => k = r.db) w (w.setCell ⟨r.db, i, none⟩ v) := Upd.set1 (Upd.refl _ _) (by omega) i v
  refine ⟨⟨h.hb, h.db, h.fm, h.sm, h.ne, by rw [← hc]; exact setCell_block h.blk i v, ?_, ?_, ?_, ?_, hk, by rw [e3]; exact h.kI⟩, u⟩
  · rw [e1]; exact h.files.upd u (fun e => a1 e.symm)
  · rw [e2]; exact h.set.upd u (fun e => a2 e.symm)
  · rw [e2]; exact owns_updD h.queue u (fun k hk2 e => by subst e; exact a3 hk2)
  · rw [e3]; exact owns_updD h.keep u (fun k hk2 e => by subst e; exact a6 hk2)
theorem DiskTo.set {D' : Dk.Disk} (h : DiskAt B w r D) (i : Nat) (v : Value) (hc : (diskC r D).setIfInBounds i v = diskC r D') (e1 : D'.fs = D.fs) (e2 : D'.q = D.q) (e3 : D'.keep = D.keep) (hk : Dk.Ok D') :
    DiskTo B r D' w (w.setCell ⟨r.db, i, none⟩ v) := by
  obtain ⟨h1, u⟩ := h.store i v hc e1 e2 e3 hk
  exact ⟨r, h1, rfl, u.mono (fun k _ e => Or.inl e), fun j hj => Or.inl hj⟩
theorem ends_c (h : DiskAt B w r D) :
    Calls Tryz.prog 91 #[.pointer (some ⟨r.db, 0, none⟩)] w fun e w' => e = .returned (.bool (Dk.ends D)) ∧ DiskTo B r (Dk.counted D) w w' := by
  obtain ⟨_, _, _, _, c4, c5, _⟩ := h.cells
  have f5 := h.frozen 5
  have hok := Dk.counted_ok h.ok
  have har := h.ok.armed
  have hset := fun (hd : ¬ (D.down = true ∨ D.armed = 0)) => DiskTo.set (D' := Dk.counted D) h 5 (.int .i64 (D.armed - 1)) (by unfold Dk.counted; rw [if_neg hd]; rfl) (by unfold Dk.counted; rw [if_neg hd]) (by unfold Dk.counted; rw [if_neg hd]) (by unfold Dk.counted; rw [if_neg hd]) hok
  have Hset := Lib.hid hset
  have H := Lib.hid h
  have har1 : 0 ≤ D.armed := har.1
  have har2 : D.armed ≤ 9223372036854775807 := har.2
  clear hset h hok har
  cases hd : D.down with
  | true =>
    rw [hd] at c4
    have hr : Hid (Dk.ends D = false) := by show _ = _; unfold Dk.ends; rw [hd]; rfl
    have hc : Hid (Dk.counted D = D) := by show _ = _; unfold Dk.counted; rw [if_pos (Or.inl hd)]
    clear hd Hset
    go_enter Tryz.func91, Tryz.ntmps91
    go_wp2_with fail
    go_ret
    exact ⟨by rw [hr.out]; rfl, by rw [hc.out]; exact DiskTo.refl H.out⟩
  | false =>
    rw [hd] at c4
    by_cases h0 : D.armed = 0
    · have hr : Hid (Dk.ends D = false) := by show _ = _; unfold Dk.ends; rw [hd, h0]; rfl
      have hc : Hid (Dk.counted D = D) := by show _ = _; unfold Dk.counted; rw [if_pos (Or.inr h0)]
      have d0 : (D.armed == 0) = true := beq_iff_eq.2 h0
      clear hd Hset h0
      go_enter Tryz.func91, Tryz.ntmps91
      go_wp2_with fail
      go_ret
      exact ⟨by rw [hr.out]; rfl, by rw [hc.out]; exact DiskTo.refl H.out⟩
    · have d0 : (D.armed == 0) = false := beq_eq_false_iff_ne.2 h0
      have hs := Hset.out (by rw [hd]; simp [h0])
      have Hs := Lib.hid hs
      have ha : 0 ≤ D.armed - 1 := by omega
      have he : Dk.ends D = (D.armed - 1 == 0) := by
        unfold Dk.ends
        rw [hd]
        by_cases h1 : D.armed = 1
        · rw [h1]; rfl
        · rw [decide_eq_false h1, beq_eq_false_iff_ne.2 (show D.armed - 1 ≠ 0 by omega)]; rfl
      have He := Lib.hid he
      clear hd Hset hs he h0
      go_enter Tryz.func91, Tryz.ntmps91
      go_wp2_with fail
      go_ret
      exact ⟨by rw [He.out]; rfl, Hs.out⟩
theorem field_now (x : Dk.Fil) (w : World) : (Instr.field tFile (.agg #[.string ⟨x.now.toArray⟩, .string ⟨x.last.toArray⟩]) 0).run Tryz.prog w = .ok (.string ⟨x.now.toArray⟩) w := by
  simp [Instr.field, run_underlying Tryz.underlying105, part, asAgg]
  done
theorem wpList_fieldL {P : Program} {w : World} {ops : Array Oper} {rest : List Oper} {o : Oper} {a : Act} {Q : Exit → Act → World → Prop} (hg : o.guard = none) (x : Operand) (t : TypeId) (i : Nat) (hop : o.op = Op.field t x i)
    (vx v : Value) (hrun : (Instr.field t vx i).run P w = .ok v w) (hx : a.eval x = vx) (h : wpList P ops Q rest (a.put o.dst v) w) : wpList P ops Q (o :: rest) a w := by
  refine wpList_plain hg fun K hK => ?_
  unfold Oper.wp
  simp [execOp, hop, hx, hrun, Result.andThen]
  exact hK _ _ h
theorem size_c (h : DiskAt B w r D) {f : Int} (hf : I64 f) :
    Calls Tryz.prog 21 #[.pointer (some ⟨r.db, 0, none⟩), .int .i64 f] w fun e w' => e = .returned (.int .i64 (Dk.size D f)) ∧ w = w' := by
  obtain ⟨c0, _, _, _, _, _, _⟩ := h.cells
  have hl := h.files.look hf
  unfold filV at hl
  have hr : Hid (Dk.size D f = (D.fs f).now.length) := rfl
  have Hl := Lib.hid hl
  have Hf := Lib.hid (field_now (D.fs f) w)
  clear h hl
  go_enter Tryz.func21, Tryz.ntmps21
  go_wp2_with (first | (at_lookup; refine wpList_lookL rfl _ _ tFiles false rfl _ _ _ rfl rfl Hl.out ?_) | (with_reducible refine wpList_fieldL (o := ⟨some 11, _, _, _, _, _⟩) rfl _ tFile 0 rfl _ _ Hf.out (by with_unfolding_all rfl) ?_))
  go_ret
  exact ⟨by rw [hr.out]; rfl, rfl⟩
theorem start_c (h : DiskAt B w r D) : Calls Tryz.prog 19 #[.pointer (some ⟨r.db, 0, none⟩)] w fun e w' => e = .returned (.tuple #[]) ∧ DiskTo B r (Dk.start D) w w' := by
  obtain ⟨_, _, _, _, c4, _, _⟩ := h.cells
  have f4 := h.frozen 4
  have hs := Lib.hid (DiskTo.set (D' := Dk.start D) h 4 (.bool false) rfl rfl rfl rfl (Dk.start_ok h.ok))
  clear h
  go_enter Tryz.func19, Tryz.ntmps19
  go_wp2_with fail
  go_end0
  exact ⟨rfl, hs.out⟩
theorem lose_c (h : DiskAt B w r D) {n : Int} (hn : I64 n) : Calls Tryz.prog 13 #[.pointer (some ⟨r.db, 0, none⟩), .int .i64 n] w fun e w' => e = .returned (.tuple #[]) ∧ DiskTo B r (Dk.lose D n) w w' := by
  obtain ⟨_, _, _, c3, _, _, _⟩ := h.cells
  have f3 := h.frozen 3
  have hs := Lib.hid (DiskTo.set (D' := Dk.lose D n) h 3 (.int .i64 (max n 0)) rfl rfl rfl rfl (Dk.lose_ok h.ok hn.2))
  clear h
  go_enter Tryz.func13, Tryz.ntmps13
  go_wp2_with fail
  go_end0
  exact ⟨rfl, hs.out⟩
theorem read_ret (s : List UInt8) (i n : Nat) : Ending.returned (.tuple #[.string (((⟨s.toArray⟩ : ByteArray).extract (min (i : Int) s.length).toNat s.length).extract 0 (min (n : Int) ↑(s.length - (min (i : Int) s.length).toNat)).toNat), .int .i64 0]) =
    Ending.returned (.tuple #[.string ⟨((s.drop (i : Int).toNat).take (n : Int).toNat).toArray⟩, .int .i64 0]) := by
  rw [bs_extract, bs_extract]
  have e : List.take ((min (n : Int) ↑(s.length - (min (i : Int) s.length).toNat)).toNat - 0) (List.drop 0 (List.take (s.length - (min (i : Int) s.length).toNat) (List.drop (min (i : Int) s.length).toNat s))) = (s.drop (i : Int).toNat).take (n : Int).toNat := by
    refine List.ext_getElem? (fun k => ?_)
    simp only [List.drop_zero, List.getElem?_take, List.getElem?_drop, Int.toNat_natCast]
    by_cases hi : i ≤ s.length
    · have ha : (min (i : Int) s.length).toNat = i := by omega
      rw [ha]
      by_cases hk : k < n
      · rw [if_pos hk]
        by_cases h2 : i + k < s.length
        · rw [if_pos (by omega), if_pos (by omega)]
        · rw [List.getElem?_eq_none (by omega)]; split <;> (try split) <;> rfl
      · rw [if_neg hk, if_neg (by omega)]
    · have h0 : s[i + k]? = none := List.getElem?_eq_none (by omega)
      rw [h0, if_neg (by omega)]; split <;> rfl
  rw [e]
set_option maxHeartbeats 400000 in
set_option maxRecDepth 100000 in
theorem read_c (h : DiskAt B w r D) {f i n : Int} (hf : I64 f) (hi : I64 i) (hn : I64 n) :
    Calls Tryz.prog 23 #[.pointer (some ⟨r.db, 0, none⟩), .int .i64 f, .int .i64 i, .int .i64 n] w fun e w' => e = .returned (.tuple #[.string ⟨(Dk.read D f i n).1.toArray⟩, .int .i64 (Dk.read D f i n).2]) ∧ w = w' := by
  obtain ⟨c0, _, _, _, _, _, _⟩ := h.cells
  have hl := h.files.look hf
  have hm := Lib.hid (may_c h f)
  have hnow := h.ok.now f
  unfold filV at hl
  have hfn := field_now (D.fs f) w
  generalize hA : (D.fs f).now = s at *
  generalize (D.fs f).last = s2 at *
  have Hl := Lib.hid hl
  have Hf := Lib.hid hfn
  clear hl hfn
  have Hnow := Lib.hid hnow
  clear h hnow
  by_cases hm0 : Dk.may D f = 0
  rotate_left
  · have hr : Hid (Dk.read D f i n = ([], Dk.may D f)) := by show _ = _; unfold Dk.read; rw [if_pos hm0]
    have d0 : (Dk.may D f == 0) = false := beq_eq_false_iff_ne.2 hm0
    have d1 : (Dk.may D f != 0) = true := by simp [hm0]
    clear hm0 hA
    go_enter Tryz.func23, Tryz.ntmps23
    go_wp2_with fail
    (with_reducible refine (hm.out).mono ?_)
    rintro _ _ ⟨rfl, rfl⟩
    go_wp2_with fail
    go_ret2
    exact ⟨by rw [hr.out]; rfl, rfl⟩
  have hr0 : Dk.read D f i n = if i < 0 ∨ n < 0 then ([], 1) else ((s.drop i.toNat).take n.toNat, 0) := by unfold Dk.read; rw [if_neg (by omega), hA]
  rw [hm0] at hm
  clear hA hm0
  by_cases h1 : i < 0
  · have hr : Hid (Dk.read D f i n = ([], 1)) := by show _ = _; rw [hr0, if_pos (Or.inl h1)]
    clear hr0
    go_enter Tryz.func23, Tryz.ntmps23
    go_wp2_with fail
    (with_reducible refine (hm.out).mono ?_)
    rintro _ _ ⟨rfl, rfl⟩
    go_wp2_with fail
    go_ret2
    exact ⟨by rw [hr.out]; rfl, rfl⟩
  by_cases h2 : n < 0
  · have hr : Hid (Dk.read D f i n = ([], 1)) := by show _ = _; rw [hr0, if_pos (Or.inr h2)]
    clear hr0
    go_enter Tryz.func23, Tryz.ntmps23
    go_wp2_with fail
    (with_reducible refine (hm.out).mono ?_)
    rintro _ _ ⟨rfl, rfl⟩
    go_wp2_with fail
    go_ret2
    exact ⟨by rw [hr.out]; rfl, rfl⟩
  have hr : Hid (Dk.read D f i n = ((s.drop i.toNat).take n.toNat, 0)) := by show _ = _; rw [hr0, if_neg (by omega)]
  clear hr0
  obtain ⟨i, rfl⟩ : ∃ m : Nat, i = m := ⟨i.toNat, by omega⟩
  obtain ⟨n, rfl⟩ : ∃ m : Nat, n = m := ⟨n.toNat, by omega⟩
  go_enter Tryz.func23, Tryz.ntmps23
  go_wp2_with fail
  (with_reducible refine (hm.out).mono ?_)
  rintro _ _ ⟨rfl, rfl⟩
  go_wp2_with (first | (at_lookup; refine wpList_lookL rfl _ _ tFiles false rfl _ _ _ rfl rfl Hl.out ?_) | (with_reducible refine wpList_fieldL (o := ⟨some 30, _, _, _, _, _⟩) rfl _ tFile 0 rfl _ _ Hf.out (by with_unfolding_all rfl) ?_))
  go_ret2
  exact ⟨by rw [hr.out]; exact read_ret s i n, rfl⟩
end
end Go.Proofs.YtiednpagknnfnaaGreatDoor
