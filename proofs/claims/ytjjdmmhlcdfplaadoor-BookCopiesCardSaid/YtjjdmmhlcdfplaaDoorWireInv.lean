/- Layer 1 in plain words: what is read has exactly the bytes that were read as its encoding; what is written is read back. No program stands in this text. -/
import Derived.Test.YtjjdmmhlcdfplaaDoorWireNum
namespace Go.Proofs.YtjjdmmhlcdfplaaDoor.Wire
open Go.Lib Go.RowKit
set_option linter.unusedVariables false
set_option linter.unusedSimpArgs false

/-! ### What was read is the encoding -/
theorem indexByte_get : ∀ (l : List UInt8) (c : UInt8), 0 ≤ indexByte l c → l[(indexByte l c).toNat]? = some c
  | [], c, h => by simp [indexByte] at h
  | b :: l, c, h => by
    simp only [indexByte] at h ⊢
    split
    · rename_i hb
      have : b = c := by simpa using hb
      simp [this]
    · rename_i hb
      rw [if_neg hb] at h
      split at h
      · omega
      · rename_i h1
        have h1' : indexByte l c ≠ -1 := by simpa using h1
        rw [if_neg h1]
        have ih := indexByte_get l c (by have := indexByte_ge l c; omega)
        have e : (indexByte l c + 1).toNat = (indexByte l c).toNat + 1 := by have := indexByte_ge l c; omega
        rw [e, List.getElem?_cons_succ]
        exact ih
theorem rNumber_inv {r r' : List UInt8} {e : UInt8} {least n : Int} (h : rNumber (some r) e least = (n, some r')) :
    r = itoa n ++ e :: r' ∧ least ≤ n ∧ -9223372036854775808 ≤ n ∧ n ≤ 9223372036854775807 := by
  unfold rNumber at h
  dsimp only at h
  split at h
  · simp at h
  · rename_i hi
    split at h
    · rename_i m hm
      split at h
      · simp at h
      · rename_i hl
        simp only [Prod.mk.injEq, Option.some.injEq] at h
        obtain ⟨rfl, rfl⟩ := h
        obtain ⟨e1, h0, h1⟩ := numOf_some hm
        refine ⟨?_, by omega, h0, h1⟩
        have hlt := indexByte_lt (r.take 21) e
        have hg := indexByte_get (r.take 21) e (by omega)
        generalize (indexByte (r.take 21) e).toNat = i at *
        rw [List.getElem?_take] at hg
        split at hg
        · have hil : i < r.length := by
            rcases Nat.lt_or_ge i r.length with h' | h'
            · exact h'
            · rw [List.getElem?_eq_none h'] at hg; cases hg
          rw [e1, ← List.take_append_drop i r]
          congr 1
          · simp
          · rw [List.take_append_drop, List.drop_eq_getElem_cons hil]
            rw [List.getElem?_eq_getElem hil] at hg
            injection hg with hg
            rw [hg]
        · cases hg
    · simp at h
theorem rClose_inv {r r' : List UInt8} {c : UInt8} (h : rClose (some r) c = some r') : r = c :: r' := by
  cases r with
  | nil => simp [rClose] at h
  | cons d r =>
    simp only [rClose] at h
    split at h
    · rename_i hd; injection h with h; rw [hd, h]
    · cases h
theorem rNum_inv {r r' : List UInt8} {n : Int} (h : rNum (some r) = (n, some r')) : r = numE n ++ r' := by
  obtain ⟨e, h0, _⟩ := rNumber_inv h
  rw [e, numE, if_neg (by omega), intE]; simp
theorem rInt_inv {r r' : List UInt8} {n : Int} (h : rInt (some r) = (n, some r')) : r = intE n ++ r' := by
  obtain ⟨e, _⟩ := rNumber_inv h
  rw [e, intE]; simp
theorem rText_inv {r r' t : List UInt8} (h : rText (some r) = (t, some r')) : r = textE t ++ r' := by
  cases hq : rNumber (some r) 58 0 with
  | mk n s =>
    cases s with
    | none => rw [rText_none hq] at h; simp at h
    | some r1 =>
      obtain ⟨e, h0, _⟩ := rNumber_inv hq
      by_cases hn : n ≤ r1.length
      · cases hc : rClose (some (r1.drop n.toNat)) 44 with
        | none => rw [rText_open hq hn hc] at h; simp at h
        | some r2 =>
          rw [rText_ok hq hn hc] at h
          simp only [Prod.mk.injEq, Option.some.injEq] at h
          obtain ⟨rfl, rfl⟩ := h
          have hd := rClose_inv hc
          have hlen : (r1.take n.toNat).length = n.toNat := by rw [List.length_take]; omega
          rw [e, textE, hlen, show ((n.toNat : Nat) : Int) = n by omega]
          conv => lhs; rw [← List.take_append_drop n.toNat r1, hd]
          simp
      · rw [rText_far hq (by omega)] at h; simp at h
theorem rLoop_inv {α : Type} {one : St → α × St} {E : α → List UInt8} (h1 : ∀ r r' x, one (some r) = (x, some r') → r = E x ++ r') :
    ∀ (n : Nat) (r r' : List UInt8) (acc l : List α), rLoop one n (some r) acc = (l, some r') → ∃ xs, l = acc ++ xs ∧ xs.length = n ∧ r = (xs.map E).flatten ++ r'
  | 0, r, r', acc, l, h => by
    simp only [rLoop, Prod.mk.injEq, Option.some.injEq] at h
    exact ⟨[], by simp [h.1], rfl, by simp [h.2]⟩
  | n + 1, r, r', acc, l, h => by
    simp only [rLoop] at h
    cases hx : one (some r) with
    | mk x s =>
      rw [hx] at h
      cases s with
      | none => simp only [rLoop_none] at h; simp at h
      | some r1 =>
        obtain ⟨xs, e1, e2, e3⟩ := rLoop_inv h1 n r1 r' _ l h
        exact ⟨x :: xs, by rw [e1]; simp, by simp [e2], by rw [h1 _ _ _ hx, e3]; simp⟩
theorem rItems_inv {α : Type} {one : St → α × St} {E : α → List UInt8} (h1 : ∀ r r' x, one (some r) = (x, some r') → r = E x ++ r') {r r' : List UInt8} {l : List α} (h : rItems one (some r) = (l, some r')) :
    r = listE (l.map E) ++ r' := by
  cases hq : rNumber (some r) 91 0 with
  | mk n s1 =>
    cases hl : rLoop one n.toNat s1 [] with
    | mk l' s2 =>
      rw [rItems_end hq hl] at h
      cases hc : rClose s2 93 with
      | none => rw [hc] at h; simp at h
      | some r3 =>
        rw [hc] at h
        simp only [Option.isNone_some, Bool.false_eq_true, if_false, Prod.mk.injEq, Option.some.injEq] at h
        obtain ⟨rfl, rfl⟩ := h
        cases s2 with
        | none => simp [rClose] at hc
        | some r2 =>
          cases s1 with
          | none => rw [rLoop_none] at hl; simp at hl
          | some r1 =>
            obtain ⟨e, h0, _⟩ := rNumber_inv hq
            obtain ⟨xs, e1, e2, e3⟩ := rLoop_inv h1 _ _ _ _ _ hl
            have hd := rClose_inv hc
            rw [List.nil_append] at e1
            subst e1
            rw [e, e3, hd, listE]
            rw [List.length_map, e2, show ((n.toNat : Nat) : Int) = n by omega]
            simp
theorem rNums_inv {r r' : List UInt8} {l : List Int} (h : rNums (some r) = (l, some r')) : r = numsE l ++ r' := rItems_inv (fun _ _ _ => rInt_inv) h
theorem rTexts_inv {r r' : List UInt8} {l : List (List UInt8)} (h : rTexts (some r) = (l, some r')) : r = textsE l ++ r' := rItems_inv (fun _ _ _ => rText_inv) h
theorem rLoop_le {α : Type} (one : St → α × St) (h1 : ∀ st, ((one st).2.getD []).length ≤ (st.getD []).length) : ∀ (n : Nat) (st : St) (acc : List α), ((rLoop one n st acc).2.getD []).length ≤ (st.getD []).length
  | 0, st, acc => Nat.le_refl _
  | n + 1, none, acc => Nat.le_refl _
  | n + 1, some r, acc => Nat.le_trans (rLoop_le one h1 n _ _) (h1 _)
theorem rItems_le {α : Type} (one : St → α × St) (h1 : ∀ st, ((one st).2.getD []).length ≤ (st.getD []).length) (st : St) : ((rItems one st).2.getD []).length ≤ (st.getD []).length := by
  cases hq : rNumber st 91 0 with
  | mk n s1 =>
    cases hl : rLoop one n.toNat s1 [] with
    | mk l s2 =>
      have a := rNumber_le st 91 0
      have b := rLoop_le one h1 n.toNat s1 []
      have c := rClose_le s2 93
      rw [hq] at a
      rw [hl] at b
      rw [rItems_end hq hl]
      exact Nat.le_trans c (Nat.le_trans b a)
theorem rInt_le (st : St) : ((rInt st).2.getD []).length ≤ (st.getD []).length := rNumber_le st _ _
theorem rItems_fail {α : Type} {one : St → α × St} {st : St} (h : (rItems one st).2 = none) : (rItems one st).1 = [] := by
  cases hq : rNumber st 91 0 with
  | mk n s1 =>
    cases hl : rLoop one n.toNat s1 [] with
    | mk l' s2 =>
      rw [rItems_end hq hl] at h ⊢
      dsimp only at h ⊢
      rw [h]; rfl
theorem rText_fail {st : St} (h : (rText st).2 = none) : (rText st).1 = [] := by
  cases hq : rNumber st 58 0 with
  | mk n s =>
    cases s with
    | none => rw [rText_none hq]
    | some r =>
      by_cases hn : n ≤ r.length
      · cases hc : rClose (some (r.drop n.toNat)) 44 with
        | none => rw [rText_open hq hn hc]
        | some r' => rw [rText_ok hq hn hc] at h; simp at h
      · rw [rText_far hq (by omega)]
theorem rLoop_all {α : Type} {one : St → α × St} {P : α → Prop} (h1 : ∀ st, P (one st).1) : ∀ (n : Nat) (st : St) (acc : List α), (∀ x ∈ acc, P x) → ∀ x ∈ (rLoop one n st acc).1, P x
  | 0, st, acc, h => h
  | n + 1, none, acc, h => h
  | n + 1, some r, acc, h => rLoop_all h1 n _ _ (fun x hx => by
      rcases List.mem_append.1 hx with hx | hx
      · exact h x hx
      · rw [List.mem_singleton.1 hx]; exact h1 _)
theorem rItems_all {α : Type} {one : St → α × St} {P : α → Prop} (h1 : ∀ st, P (one st).1) (st : St) : ∀ x ∈ (rItems one st).1, P x := by
  cases hq : rNumber st 91 0 with
  | mk n s1 =>
    have h := rLoop_all h1 n.toNat s1 [] (fun x hx => by cases hx)
    cases hl : rLoop one n.toNat s1 [] with
    | mk l' s2 =>
      rw [hl] at h
      rw [rItems_end hq hl]
      dsimp only
      split
      · intro x hx; cases hx
      · exact h
end Go.Proofs.YtjjdmmhlcdfplaaDoor.Wire
