/- What JournalTorn needs, in plain words: appending on a calm disk; the greatest beginning of the records whose forms are all there. No program stands in this text. -/
import Derived.Test.YtjfcclhhonicnaaDoorJrnRd
import Derived.Test.YtjfcclhhonicnaaDoorJrnSt
namespace Go.Proofs.YtjfcclhhonicnaaDoor.Jr
open Dk (Disk)
set_option linter.unusedVariables false
set_option linter.unusedSimpArgs false

/-- A record is appended on a calm disk. -/
theorem Calm.append {D : Disk} (h : Calm D) {f : Int} (hf : 0 ≤ f ∧ f < 16) {L : List (List UInt8)} (hn : (D.fs f).now = forms L) {s : List UInt8} (hs : s.length ≤ 200) (hL : (forms L).length ≤ 100000) :
    ∃ D', append D ⟨f, L, false⟩ s = (D', ⟨f, L ++ [s], false⟩, 0) ∧ Calm D' ∧ (D'.fs f).now = forms (L ++ [s]) ∧ ∀ g, g ≠ f → D'.fs g = D.fs g := by
  have hf2 := form_len s (by omega)
  obtain ⟨e1, e2, e3, e4⟩ := h.write (f := f) hf (n := (forms L).length) (s := form s) (by omega)
  refine ⟨(Dk.write D f (forms L).length (form s)).1, ?_, e2, ?_, e4⟩
  · unfold Jr.append
    rw [if_neg (by simp), if_neg (by omega), if_neg (by dsimp only; omega)]
    dsimp only
    rw [if_neg (by omega)]
  · rw [e3, hn, put_end, forms_snoc]
/-- Too long a record. -/
theorem append_long (D : Disk) (j : Jn) (hb : j.broken = false) {s : List UInt8} (hs : 20000 < s.length) : append D j s = (D, j, 3) := by
  unfold Jr.append
  rw [if_neg (by rw [hb]; decide), if_pos hs]
theorem forms_take_add (A : List (List UInt8)) (k : Nat) : forms A = forms (A.take k) ++ forms (A.drop k) := by rw [← forms_append, List.take_append_drop]
theorem forms_take_pre (A : List (List UInt8)) {k m : Nat} (h : k ≤ m) : forms (A.take k) <+: forms (A.take m) := by
  have : A.take k = (A.take m).take k := by rw [List.take_take, Nat.min_eq_left h]
  rw [this]
  exact ⟨_, (forms_take_add (A.take m) k).symm⟩
theorem forms_take_eq (A : List (List UInt8)) (k : Nat) : (forms A).take (forms (A.take k)).length = forms (A.take k) := by rw [forms_take_add A k, List.take_left]
/-- The end of record k. -/
def endOf (A : List (List UInt8)) (k : Nat) : Nat := (forms (A.take (k + 1))).length
def endsOf (A : List (List UInt8)) (n : Nat) : List Int := (List.range n).map fun k => (endOf A k : Int)
theorem endsOf_len (A : List (List UInt8)) (n : Nat) : (endsOf A n).length = n := by simp [endsOf]
theorem endsOf_succ (A : List (List UInt8)) (n : Nat) : endsOf A (n + 1) = endsOf A n ++ [(endOf A n : Int)] := by simp [endsOf, List.range_succ]
theorem endsOf_get (A : List (List UInt8)) {n k : Nat} (h : k < (endsOf A n).length) : (endsOf A n)[k] = (endOf A k : Int) := by simp [endsOf]
/-- What the loop asks. -/
def holdsB (A : List (List UInt8)) (x : List UInt8) (k : Nat) : Bool := decide (endOf A k ≤ x.length) && (x.take (endOf A k) == (forms A).take (endOf A k))
theorem holdsB_iff {A : List (List UInt8)} {x : List UInt8} {k : Nat} : holdsB A x k = true ↔ forms (A.take (k + 1)) <+: x := by
  unfold holdsB endOf
  rw [forms_take_eq, Bool.and_eq_true, decide_eq_true_eq, beq_iff_eq]
  constructor
  · rintro ⟨h1, h2⟩
    exact h2 ▸ List.take_prefix _ _
  · intro h
    exact ⟨h.length_le, (List.prefix_iff_eq_take.1 h).symm⟩
theorem many_eq {A : List (List UInt8)} {x : List UInt8} (h : Tn x (forms A)) (hs : ∀ a ∈ A, a.length ≤ 2000) {k : Nat} (hk : k ≤ A.length) (hp : forms (A.take k) <+: x) (hn : k = A.length ∨ holdsB A x k = false) : recs x = A.take k := by
  obtain ⟨m, h1, h2, h3, h4⟩ := recs_tn h hs
  have hkm := h4 k hk hp
  rcases Nat.lt_or_ge k m with hlt | hge
  · rcases hn with hn | hn
    · omega
    · have : holdsB A x k = true := holdsB_iff.2 ((forms_take_pre A (show k + 1 ≤ m by omega)).trans h3)
      rw [this] at hn; cases hn
  · obtain rfl : k = m := by omega
    exact h2
theorem tn_take {x N : List UInt8} (h : Tn x N) (n : Nat) : Tn (x.take n) N := tn_trans (tn_pre (List.take_prefix n x)) h
/-- One byte becomes 0. -/
theorem tn_set {x N : List UInt8} (h : Tn x N) (i : Nat) : Tn (x.set i 0) N := by
  rw [tn_iff] at h ⊢
  refine ⟨by rw [List.length_set]; exact h.1, fun k hk => ?_⟩
  rw [List.length_set] at hk
  by_cases e : i = k
  · subst e
    exact Or.inr (by rw [List.getElem?_set_self hk])
  · rw [List.getElem?_set_ne e]
    exact h.2 k hk
end Go.Proofs.YtjfcclhhonicnaaDoor.Jr
