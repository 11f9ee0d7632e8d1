/- Decimal forms: what is written is read back; the reference's way of reading a number gives the same. No program stands in this text. -/
import Derived.Test.YtjjdmmhlcdfplaaDoorWire
import Derived.RowKit
namespace Go.Proofs.YtjjdmmhlcdfplaaDoor.Wire
open Go.Lib Go.RowKit
set_option linter.unusedVariables false
set_option linter.unusedSimpArgs false

theorem parse_append : ∀ (l r : List UInt8) (a b : Nat), parseUint10 a l = .ok b → parseUint10 a (l ++ r) = parseUint10 b r
  | [], r, a, b, h => by simp only [parseUint10] at h; injection h with h; rw [h]; rfl
  | c :: l, r, a, b, h => by
    simp only [List.cons_append, parseUint10] at h ⊢
    split at h
    · rename_i h1
      rw [if_pos h1]
      split at h
      · cases h
      · rename_i h2
        rw [if_neg h2]
        split at h
        · cases h
        · rename_i h3
          rw [if_neg h3]
          exact parse_append l r _ b h
    · cases h
theorem digit_toNat {d : Nat} (h : d < 10) : (UInt8.ofNat (48 + d)).toNat = 48 + d := by
  simp; omega
theorem decDigits_step' {u : Nat} (h : ¬ u < 10) : decDigits u = decDigits (u / 10) ++ [UInt8.ofNat (48 + u % 10)] := by
  conv => lhs; rw [decDigits, dif_neg h]
theorem parse_decDigits (k : Nat) : ∀ u, u < k → u ≤ 9223372036854775808 → parseUint10 0 (decDigits u) = .ok u := by
  induction k with
  | zero => intro u h; omega
  | succ k ih =>
    intro u h hb
    by_cases h10 : u < 10
    · rw [decDigits_one h10]
      simp only [parseUint10, digit_toNat h10]
      rw [if_pos (by omega), if_neg (by omega), if_neg (by omega)]
      congr 1; omega
    · rw [decDigits_step' h10, parse_append _ _ _ _ (ih (u / 10) (by omega) (by omega))]
      have hd : u % 10 < 10 := by omega
      simp only [parseUint10, digit_toNat hd]
      rw [if_pos (by omega), if_neg (by omega), if_neg (by omega)]
      congr 1; omega
theorem decDigits_digits (k : Nat) : ∀ u, u < k → ∀ c ∈ decDigits u, 48 ≤ c.toNat ∧ c.toNat ≤ 57 := by
  induction k with
  | zero => intro u h; omega
  | succ k ih =>
    intro u h c hc
    by_cases h10 : u < 10
    · rw [decDigits_one h10, List.mem_singleton] at hc
      rw [hc, digit_toNat h10]; omega
    · rw [decDigits_step' h10, List.mem_append] at hc
      rcases hc with hc | hc
      · exact ih (u / 10) (by omega) c hc
      · rw [List.mem_singleton] at hc
        rw [hc, digit_toNat (by omega)]; omega
theorem decDigits_ne (u : Nat) : decDigits u ≠ [] := by
  rw [decDigits]; split <;> simp
theorem atoiAll_neg {r : List UInt8} {u : Nat} (h : parseMag r = .ok u) (hu : u ≤ 9223372036854775808) : atoiAll (45 :: r) = .ok (-(u : Int)) := by
  have e : (if (45 : UInt8).toNat = 43 ∨ (45 : UInt8).toNat = 45 then r else 45 :: r) = r := if_pos (by decide)
  unfold atoiAll
  simp only [e, h]
  rw [if_neg (by simp), if_neg (by omega), if_pos (by decide)]
theorem atoiAll_pos {c : UInt8} {r : List UInt8} {u : Nat} (hc : 48 ≤ c.toNat) (h : parseMag (c :: r) = .ok u) (hu : u < 9223372036854775808) : atoiAll (c :: r) = .ok (u : Int) := by
  have e : (if c.toNat = 43 ∨ c.toNat = 45 then r else c :: r) = c :: r := if_neg (by omega)
  unfold atoiAll
  simp only [e, h]
  rw [if_neg (by omega), if_neg (by omega), if_neg (by omega)]
theorem atoi_itoa {v : Int} (h0 : -9223372036854775808 ≤ v) (h1 : v ≤ 9223372036854775807) : atoiAll (itoa v) = .ok v := by
  by_cases hn : v < 0
  · have hp := parse_decDigits (v.natAbs + 1) v.natAbs (by omega) (by omega)
    have hm : parseMag (decDigits v.natAbs) = .ok v.natAbs := by unfold parseMag; rw [if_neg (decDigits_ne _), hp]
    rw [show itoa v = 45 :: decDigits v.natAbs by simp [itoa, hn], atoiAll_neg hm (by omega)]
    congr 1; omega
  · have hp := parse_decDigits (v.toNat + 1) v.toNat (by omega) (by omega)
    have hm : parseMag (decDigits v.toNat) = .ok v.toNat := by unfold parseMag; rw [if_neg (decDigits_ne _), hp]
    have hd := decDigits_digits (v.toNat + 1) v.toNat (by omega)
    rw [show itoa v = decDigits v.toNat by simp [itoa, hn]]
    cases hl : decDigits v.toNat with
    | nil => exact absurd hl (decDigits_ne _)
    | cons c r =>
      rw [hl] at hm hd
      rw [atoiAll_pos (hd c (by simp)).1 hm (by omega)]
      congr 1; omega
theorem numOf_itoa {v : Int} (h0 : -9223372036854775808 ≤ v) (h1 : v ≤ 9223372036854775807) : numOf (itoa v) = some v := numOf_eq (atoi_itoa h0 h1) rfl
theorem numOf_some {l : List UInt8} {v : Int} (h : numOf l = some v) : itoa v = l ∧ -9223372036854775808 ≤ v ∧ v ≤ 9223372036854775807 := by
  refine ⟨?_, numOf_i64 h⟩
  unfold numOf at h
  split at h
  · split at h
    · injection h with h; subst h; assumption
    · cases h
  · cases h

/-! ### The reference's way -/
def backGo (acc : Int) (i : Nat) : List UInt8 → Option Int
  | [] => some acc
  | c :: r => if c.toNat < 48 ∨ 57 < c.toNat ∨ 20 < i then none else backGo (wrap64 (wrap64 (10 * acc) - ((c.toNat : Int) - 48))) (i + 1) r
def backFrom (l : List UInt8) : Nat := if l.head? = some 45 then 1 else 0
theorem backGo_append : ∀ (l r : List UInt8) (a : Int) (i : Nat), backGo a i (l ++ r) = match backGo a i l with | some b => backGo b (i + l.length) r | none => none
  | [], r, a, i => rfl
  | c :: l, r, a, i => by
    simp only [List.cons_append, backGo]
    split
    · rfl
    · rw [backGo_append l r]; simp [Nat.add_assoc, Nat.add_comm 1]
theorem w64 {n : Int} (h : -9223372036854775808 ≤ n ∧ n ≤ 9223372036854775807) : wrap64 n = n := by unfold wrap64; omega
theorem backGo_dec (k : Nat) : ∀ u, u < k → u ≤ 9223372036854775808 → ∀ i, i + (decDigits u).length ≤ 21 → backGo 0 i (decDigits u) = some (-(u : Int)) := by
  induction k with
  | zero => intro u h; omega
  | succ k ih =>
    intro u h hb i hi
    by_cases h10 : u < 10
    · rw [decDigits_one h10] at hi ⊢
      simp only [backGo, digit_toNat h10]
      simp only [List.length_cons, List.length_nil] at hi
      rw [if_neg (by omega), w64 (n := 10 * 0) (by omega), w64 (by omega)]
      congr 1; omega
    · rw [decDigits_step' h10] at hi ⊢
      simp only [List.length_append, List.length_cons, List.length_nil] at hi
      rw [backGo_append, ih (u / 10) (by omega) (by omega) i (by omega)]
      simp only [backGo, digit_toNat (show u % 10 < 10 by omega)]
      rw [if_neg (by omega), w64 (n := 10 * _) (by omega), w64 (by omega)]
      congr 1; omega
theorem back_itoa {v : Int} (h0 : -9223372036854775808 ≤ v) (h1 : v ≤ 9223372036854775807) (hlen : (itoa v).length ≤ 21) :
    ∃ a, backGo 0 (backFrom (itoa v)) ((itoa v).drop (backFrom (itoa v))) = some a ∧ (if backFrom (itoa v) = 0 then wrap64 (-a) else a) = v := by
  by_cases hn : v < 0
  · have e : itoa v = 45 :: decDigits v.natAbs := by simp [itoa, hn]
    have hf : backFrom (itoa v) = 1 := by rw [e]; rfl
    have hl : 1 + (decDigits v.natAbs).length ≤ 21 := by rw [e] at hlen; simp only [List.length_cons] at hlen; omega
    rw [hf, e]
    refine ⟨_, backGo_dec (v.natAbs + 1) v.natAbs (by omega) (by omega) 1 hl, ?_⟩
    rw [if_neg (by decide)]; omega
  · have e : itoa v = decDigits v.toNat := by simp [itoa, hn]
    have hf : backFrom (itoa v) = 0 := by
      rw [e]
      unfold backFrom
      cases hl : decDigits v.toNat with
      | nil => rfl
      | cons c r =>
        have hc := decDigits_digits (v.toNat + 1) v.toNat (by omega) c (by rw [hl]; simp)
        rw [if_neg]
        intro h
        simp only [List.head?_cons, Option.some.injEq] at h
        rw [h] at hc
        simp at hc
    have hl : 0 + (decDigits v.toNat).length ≤ 21 := by rw [e] at hlen; omega
    rw [hf, e]
    refine ⟨_, backGo_dec (v.toNat + 1) v.toNat (by omega) (by omega) 0 hl, ?_⟩
    rw [if_pos rfl, w64 (by omega)]; omega
theorem back_none {l : List UInt8} (h : backGo 0 (backFrom l) (l.drop (backFrom l)) = none) (hlen : ∀ v, -9223372036854775808 ≤ v → v ≤ 9223372036854775807 → (itoa v).length ≤ 21) : numOf l = none := by
  cases hx : numOf l with
  | none => rfl
  | some v =>
    obtain ⟨e, h0, h1⟩ := numOf_some hx
    obtain ⟨a, ha, _⟩ := back_itoa h0 h1 (hlen v h0 h1)
    rw [e, h] at ha
    cases ha
theorem back_some {l : List UInt8} {a n : Int} (h : backGo 0 (backFrom l) (l.drop (backFrom l)) = some a) (hn : (if backFrom l = 0 then wrap64 (-a) else a) = n) (hi : -9223372036854775808 ≤ n ∧ n ≤ 9223372036854775807)
    (hlen : ∀ v, -9223372036854775808 ≤ v → v ≤ 9223372036854775807 → (itoa v).length ≤ 21) : numOf l = if itoa n = l then some n else none := by
  split
  · rename_i e
    rw [← e]; exact numOf_itoa hi.1 hi.2
  · rename_i e
    cases hx : numOf l with
    | none => rfl
    | some v =>
      obtain ⟨e', h0, h1⟩ := numOf_some hx
      obtain ⟨b, hb, hb'⟩ := back_itoa h0 h1 (hlen v h0 h1)
      rw [e', h] at hb
      injection hb with hb
      rw [e', ← hb, hn] at hb'
      rw [hb', e'] at e
      exact absurd rfl e
/-! ### Where a byte stands -/
def rInt' (st : St) (c : UInt8) : Int × St := rNumber st c (-9223372036854775808)
theorem indexByte_at : ∀ (l : List UInt8) (c : UInt8) (k : Nat), (∀ x ∈ l.take k, x ≠ c) → l[k]? = some c → indexByte l c = k
  | [], c, k, _, h => by simp at h
  | b :: l, c, 0, _, h => by
    simp at h; subst h; simp [indexByte]
  | b :: l, c, k + 1, h0, h => by
    have hb : b ≠ c := h0 b (by simp)
    have ih := indexByte_at l c k (fun x hx => h0 x (by simp [hx])) (by simpa using h)
    simp only [indexByte]
    rw [if_neg (by simpa using hb), ih, if_neg (by simp)]
    omega
theorem indexByte_none : ∀ (l : List UInt8) (c : UInt8), (∀ x ∈ l, x ≠ c) → indexByte l c = -1
  | [], c, _ => rfl
  | b :: l, c, h => by
    have hb : b ≠ c := h b (by simp)
    have ih := indexByte_none l c (fun x hx => h x (by simp [hx]))
    simp only [indexByte]
    rw [if_neg (by simpa using hb), ih, if_pos (by simp)]
theorem nDigits_le : ∀ (k u : Nat), u < 10 ^ (k + 1) → nDigits u ≤ k + 1
  | 0, u, h => by rw [nDigits_small (by simpa using h)]; exact Nat.le_refl _
  | k + 1, u, h => by
    by_cases h10 : u < 10
    · rw [nDigits_small h10]; omega
    · rw [nDigits_big h10]
      have := nDigits_le k (u / 10) (by rw [Nat.pow_succ] at h; omega)
      omega
theorem itoa_le20 {v : Int} (h0 : -9223372036854775808 ≤ v) (h1 : v ≤ 9223372036854775807) : (itoa v).length ≤ 20 := by
  unfold itoa
  split
  · have := nDigits_le 18 v.natAbs (by omega)
    simp only [List.length_cons, decDigits_length]; omega
  · have := nDigits_le 18 v.toNat (by omega)
    simp only [decDigits_length]; omega
theorem numOf_long {l : List UInt8} (h : 20 < l.length) : numOf l = none := by
  cases hx : numOf l with
  | none => rfl
  | some v =>
    obtain ⟨e, h0, h1⟩ := numOf_some hx
    have := itoa_le20 h0 h1
    rw [e] at this
    omega
theorem rNumber_min {st : St} {e : UInt8} {least : Int} (h : least ≤ -9223372036854775808) : rNumber st e least =
    if indexByte ((st.getD []).take 21) e < 0 then (0, none) else
    match numOf ((st.getD []).take (indexByte ((st.getD []).take 21) e).toNat) with
    | some n => (n, some ((st.getD []).drop ((indexByte ((st.getD []).take 21) e).toNat + 1)))
    | none => (0, none) := by
  rw [rNumber_eq]
  split
  · rfl
  · cases hx : numOf ((st.getD []).take (indexByte ((st.getD []).take 21) e).toNat) with
    | none => rfl
    | some n =>
      have := numOf_i64 hx
      simp only []
      rw [if_neg (by omega)]
/-- No end within the first 21 bytes. -/
theorem ahead_no {st : St} {c : UInt8} (h : ∀ x ∈ (st.getD []).take 21, x ≠ c) : rInt' st c = (0, none) := by
  unfold rInt'
  rw [rNumber_min (Int.le_refl _), indexByte_none _ _ h, if_pos (by decide)]
theorem ahead_at {st : St} {c : UInt8} {k : Nat} (hk : k < 21) (h : ∀ x ∈ (st.getD []).take k, x ≠ c) (hc : (st.getD [])[k]? = some c) :
    rInt' st c = match numOf ((st.getD []).take k) with | some n => (n, some ((st.getD []).drop (k + 1))) | none => (0, none) := by
  have e : indexByte ((st.getD []).take 21) c = k := indexByte_at _ _ _ (by rw [List.take_take, Nat.min_eq_left (by omega)]; exact h) (by rw [List.getElem?_take, if_pos hk]; exact hc)
  unfold rInt'
  rw [rNumber_min (Int.le_refl _), e, if_neg (by omega)]
  simp
theorem rNumber_zero_eq (st : St) (c : UInt8) : rNumber st c 0 = if (rInt' st c).1 < 0 then (0, none) else rInt' st c := by
  unfold rInt'
  rw [rNumber_min (Int.le_refl _), rNumber_eq]
  split
  · rfl
  · cases hx : numOf ((st.getD []).take (indexByte ((st.getD []).take 21) c).toNat) with
    | none => rfl
    | some n => rfl
theorem rInt'_i64 (st : St) (c : UInt8) : -9223372036854775808 ≤ (rInt' st c).1 ∧ (rInt' st c).1 ≤ 9223372036854775807 := rNumber_i64 st c _
theorem rInt'_le (st : St) (c : UInt8) : ((rInt' st c).2.getD []).length ≤ (st.getD []).length := rNumber_le st c _
end Go.Proofs.YtjjdmmhlcdfplaaDoor.Wire
