/- Layer 7 in plain words: what a book of given entries answers, for BookSays. No program stands in this text. -/
import Derived.Test.YtjjdmmhlcdfplaaDoorBookY
namespace Go.Proofs.YtjjdmmhlcdfplaaDoor.Bk
open Go.Lib Go.RowKit Cl
set_option linter.unusedVariables false
set_option linter.unusedSimpArgs false

/-- The book with the entries K, of the key 0. -/
def bk (K : List (List UInt8)) : Book := ⟨0, K, -1, 0⟩
def KeptOk (K : List (List UInt8)) : Prop := K.length ≤ 25 ∧ ∀ t ∈ K, (Cl.key t).2 = true ∧ t.length ≤ 300
theorem KeptOk.nil : KeptOk [] := ⟨by simp, fun t h => by cases h⟩
theorem append_no {K : List (List UInt8)} {t : List UInt8} (h : (Cl.key t).2 = false) : append (bk K) t = ((0, 2), bk K) := by unfold append; rw [if_pos h]
theorem append_yes {K : List (List UInt8)} {t : List UInt8} (h : (Cl.key t).2 = true) (hk : KeptOk K) (ht : t.length ≤ 300) : append (bk K) t = (((K.length : Int), 0), bk (K ++ [t])) := by
  have := hk.1
  unfold append
  rw [if_neg (by simp [h]), if_neg (by omega), if_neg (by show ¬ 200000 ≤ K.length; omega)]
  rfl
theorem sign_again {L : List Seal} {k : Int} {t : List UInt8} : sign (sign L k t).2 k t = sign L k t := by
  unfold sign
  by_cases hk : isKey k = true
  · rw [if_pos hk, if_pos hk]
    cases hp : place L ⟨k, t⟩ with
    | some i => simp only [hp]
    | none => simp [place_snoc, hp]
  · rw [if_neg hk, if_neg hk]
/-- What is answered of an absence. -/
theorem absent_r {K : List (List UInt8)} (hk : KeptOk K) {key : List UInt8} (hkey : key.length ≤ 300) (L : List Seal) {i : Nat} (hi : i ≤ K.length) :
    ∃ s e L', absent L (bk K) key i = ((s, e), L') ∧ L'.length ≤ L.length + 1 ∧ (absentB K i key = true → e = 0 ∧ s.text = text ⟨2, i, 0, key⟩ ∧ Cl.read s.text = (⟨2, i, 0, key⟩, true)) ∧ (absentB K i key = false → e = 5 ∧ s = noSgn) := by
  have h25 := hk.1
  unfold absent
  rw [if_neg (by show ¬ ((i : Int) < 0 ∨ (K.length : Int) < i ∨ 20000 < key.length); omega)]
  show ∃ s e L', (if absentB K (i : Int).toNat key = false then _ else _) = _ ∧ _
  rw [Int.toNat_natCast]
  cases hab : absentB K i key with
  | false => exact ⟨noSgn, 5, L, rfl, Nat.le_succ _, fun h => (by cases h), fun _ => ⟨rfl, rfl⟩⟩
  | true =>
    rw [if_neg (by simp)]
    refine ⟨_, _, _, rfl, sign_len _ _ _, fun _ => ⟨rfl, (sign_good (by rfl)).2.1, ?_⟩, fun h => (by cases h)⟩
    have hr : right ⟨2, i, 0, key⟩ = true := by
      simp [right, Cl.within]
      omega
    show Cl.read (sign L 0 (text ⟨2, i, 0, key⟩)).1.text = _
    rw [(sign_good (by rfl)).2.1]
    exact read_text hr
/-- What is answered of an entry, twice. -/
theorem entry_r {K : List (List UInt8)} (hk : KeptOk K) (L : List Seal) {i : Nat} (hi : i < K.length) :
    ∃ s L', entry L (bk K) i = ((s, 0), L') ∧ entry L' (bk K) i = ((s, 0), L') ∧ L'.length ≤ L.length + 1 ∧ s.text = text ⟨0, i, 0, K[i]⟩ ∧ Cl.read s.text = (⟨0, i, 0, K[i]⟩, true) := by
  have h25 := hk.1
  obtain ⟨h1, h2⟩ := hk.2 K[i] (List.getElem_mem hi)
  have he : ∀ L, entry L (bk K) i = (((sign L 0 (text ⟨0, i, 0, K[i]⟩)).1, 0), (sign L 0 (text ⟨0, i, 0, K[i]⟩)).2) := fun L => by
    unfold entry
    rw [if_neg (by show ¬ ((i : Int) < 0 ∨ (K.length : Int) ≤ i); omega)]
    have hg : K.getD i [] = K[i] := by simp [hi]
    rw [Int.toNat_natCast, show (bk K).es.getD i [] = K[i] from hg]
    rfl
  refine ⟨_, _, he L, ?_, sign_len _ _ _, (sign_good (by rfl)).2.1, ?_⟩
  · rw [he, sign_again]
  · have hr : right ⟨0, i, 0, K[i]⟩ = true := by
      simp [right, Cl.within, h1]
      omega
    rw [(sign_good (by rfl)).2.1]
    exact read_text hr
theorem read_nil : Cl.read [] = (⟨0, 0, 0, []⟩, false) := by decide
theorem entry_out {K : List (List UInt8)} (L : List Seal) : entry L (bk K) K.length = ((noSgn, 4), L) := by
  unfold entry
  rw [if_pos (Or.inr (by show (K.length : Int) ≤ _; omega))]
theorem absent_out {K : List (List UInt8)} (L : List Seal) (key : List UInt8) : absent L (bk K) key ((K.length : Int) + 1) = ((noSgn, 1), L) := by
  unfold absent
  rw [if_pos (Or.inr (Or.inl (by show (K.length : Int) < _; omega)))]
theorem there_succ {K : List (List UInt8)} (hk : KeptOk K) (key : List UInt8) {i : Nat} (hi : i < K.length) : absentB K (i + 1) key = (absentB K i key && !decide ((Cl.key K[i]).1 = key)) := by
  rw [absentB_succ K i key hi, hasKey, (hk.2 K[i] (List.getElem_mem hi)).1, Bool.true_and]
theorem there_zero (K : List (List UInt8)) (key : List UInt8) : absentB K 0 key = true := by simp [absentB]
theorem textAt_r {K : List (List UInt8)} {i : Nat} (hi : i < K.length) : textAt (bk K) i = (K[i], true) := by
  unfold textAt
  rw [if_neg (by show ¬ ((i : Int) < 0 ∨ (K.length : Int) ≤ i); omega), Int.toNat_natCast]
  show (K.getD i [], true) = _
  simp [hi]
end Go.Proofs.YtjjdmmhlcdfplaaDoor.Bk
