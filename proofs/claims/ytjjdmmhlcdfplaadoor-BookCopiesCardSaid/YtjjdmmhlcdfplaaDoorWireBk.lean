/- Layer 1 in plain words: what is written is read back. No program stands in this text. -/
import Derived.Test.YtjjdmmhlcdfplaaDoorWireInv
namespace Go.Proofs.YtjjdmmhlcdfplaaDoor.Wire
open Go.Lib Go.RowKit
set_option linter.unusedVariables false
set_option linter.unusedSimpArgs false

def Int64 (n : Int) : Prop := -9223372036854775808 ≤ n ∧ n ≤ 9223372036854775807
theorem itoa_chars {n : Int} {c : UInt8} (h : c ∈ itoa n) : c.toNat = 45 ∨ (48 ≤ c.toNat ∧ c.toNat ≤ 57) := by
  unfold itoa at h
  split at h
  · rcases List.mem_cons.1 h with rfl | h
    · exact Or.inl rfl
    · exact Or.inr (decDigits_digits _ _ (Nat.lt_succ_self _) c h)
  · exact Or.inr (decDigits_digits _ _ (Nat.lt_succ_self _) c h)
theorem rNumber_back {n least : Int} {e : UInt8} {r : List UInt8} (h : Int64 n) (hl : least ≤ n) (he : 58 ≤ e.toNat) : rNumber (some (itoa n ++ e :: r)) e least = (n, some r) := by
  have h20 := itoa_le20 h.1 h.2
  have hne : ∀ x ∈ itoa n, x ≠ e := fun x hx heq => by
    have := itoa_chars hx
    rw [heq] at this; omega
  have hi : indexByte ((itoa n ++ e :: r).take 21) e = (itoa n).length := by
    refine indexByte_at _ _ _ ?_ ?_
    · intro x hx
      rw [List.take_take, Nat.min_eq_left (by omega), List.take_left'] at hx
      · exact hne x hx
      · rfl
    · rw [List.getElem?_take, if_pos (by omega), List.getElem?_append_right (Nat.le_refl _)]; simp
  simp only [rNumber, hi]
  rw [if_neg (by omega)]
  have ht : (itoa n ++ e :: r).take (((itoa n).length : Int)).toNat = itoa n := by simp
  rw [ht, numOf_itoa h.1 h.2]
  simp only []
  rw [if_neg (by omega)]
  simp
theorem rNum_back {n : Int} {r : List UInt8} (h : Int64 n) (h0 : 0 ≤ n) : rNum (some (numE n ++ r)) = (n, some r) := by
  have e : numE n ++ r = itoa n ++ 59 :: r := by rw [numE, if_neg (by omega), intE]; simp
  rw [e]; exact rNumber_back h h0 (by decide)
theorem rInt_back {n : Int} {r : List UInt8} (h : Int64 n) : rInt (some (intE n ++ r)) = (n, some r) := by
  have e : intE n ++ r = itoa n ++ 59 :: r := by rw [intE]; simp
  rw [e]; exact rNumber_back h h.1 (by decide)
theorem rText_back {s r : List UInt8} (h : s.length ≤ 9223372036854775807) : rText (some (textE s ++ r)) = (s, some r) := by
  have e : textE s ++ r = itoa (s.length : Int) ++ 58 :: (s ++ 44 :: r) := by rw [textE]; simp
  have hq := rNumber_back (n := s.length) (least := 0) (e := 58) (r := s ++ 44 :: r) ⟨by omega, by omega⟩ (by omega) (by decide)
  rw [e, rText_ok (r' := r) hq (by simp; omega) (by simp [rClose])]
  simp
theorem rLoop_back {α : Type} {one : St → α × St} {E : α → List UInt8} {P : α → Prop} (h1 : ∀ x r, P x → one (some (E x ++ r)) = (x, some r)) :
    ∀ (xs : List α) (r : List UInt8) (acc : List α), (∀ x ∈ xs, P x) → rLoop one xs.length (some ((xs.map E).flatten ++ r)) acc = (acc ++ xs, some r)
  | [], r, acc, h => by simp [rLoop]
  | x :: xs, r, acc, h => by
    have hx := h1 x ((xs.map E).flatten ++ r) (h x (by simp))
    have e : ((x :: xs).map E).flatten ++ r = E x ++ ((xs.map E).flatten ++ r) := by simp
    rw [e]
    simp only [List.length_cons, rLoop, hx]
    rw [rLoop_back h1 xs r _ (fun y hy => h y (List.mem_cons_of_mem _ hy))]
    simp
theorem rItems_back {α : Type} {one : St → α × St} {E : α → List UInt8} {P : α → Prop} (h1 : ∀ x r, P x → one (some (E x ++ r)) = (x, some r)) {xs : List α} {r : List UInt8} (h : ∀ x ∈ xs, P x) (hl : xs.length ≤ 9223372036854775807) :
    rItems one (some (listE (xs.map E) ++ r)) = (xs, some r) := by
  have e : listE (xs.map E) ++ r = itoa (xs.length : Int) ++ 91 :: ((xs.map E).flatten ++ 93 :: r) := by rw [listE]; simp
  have hq := rNumber_back (n := xs.length) (least := 0) (e := 91) (r := (xs.map E).flatten ++ 93 :: r) ⟨by omega, by omega⟩ (by omega) (by decide)
  have hb := rLoop_back h1 xs (93 :: r) [] h
  have hl2 : rLoop one ((xs.length : Int)).toNat (some ((xs.map E).flatten ++ 93 :: r)) [] = (xs, some (93 :: r)) := by
    simpa using hb
  rw [e, rItems_end hq hl2]
  simp [rClose]
theorem rNums_back {l : List Int} {r : List UInt8} (h : ∀ n ∈ l, Int64 n) (hl : l.length ≤ 9223372036854775807) : rNums (some (numsE l ++ r)) = (l, some r) :=
  rItems_back (P := Int64) (fun x r hx => rInt_back hx) h hl
theorem rTexts_back {l : List (List UInt8)} {r : List UInt8} (h : ∀ s ∈ l, s.length ≤ 9223372036854775807) (hl : l.length ≤ 9223372036854775807) : rTexts (some (textsE l ++ r)) = (l, some r) :=
  rItems_back (P := fun s => s.length ≤ 9223372036854775807) (fun x r hx => rText_back hx) h hl
end Go.Proofs.YtjjdmmhlcdfplaaDoor.Wire
