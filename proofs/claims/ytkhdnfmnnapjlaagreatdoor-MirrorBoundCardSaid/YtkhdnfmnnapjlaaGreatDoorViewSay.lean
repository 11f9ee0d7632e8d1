/- What the statements of layer 8 let keys sign, in plain words. No program stands in this text. -/
import Derived.Test.YtkhdnfmnnapjlaaGreatDoorViewPl
namespace Go.Proofs.YtkhdnfmnnapjlaaGreatDoor.Vw
open Go.Lib Go.RowKit Wire
open Bk (Seal Sgn noSgn isKey place valid)
open Cl (Clm contra)
set_option linter.unusedVariables false
set_option linter.unusedSimpArgs false

structure Say where
  key : Int
  c : Clm
  raw : List UInt8
  odd : Int
def words (x : Say) : List UInt8 := if x.raw = [] then Cl.text x.c else x.raw
def turned (s : Sgn) (odd : Int) : Sgn :=
  if odd = 1 then ⟨s.key, s.text, s.mark + 1⟩ else if odd = 2 then ⟨s.key, s.text ++ [120], s.mark⟩ else if odd = 3 then ⟨s.key + 1, s.text, s.mark⟩ else s
def signStep (st : List Seal × List Sgn) (x : Say) : List Seal × List Sgn := ((Bk.sign st.1 x.key (words x)).2, st.2 ++ [turned (Bk.sign st.1 x.key (words x)).1 x.odd])
def signedL (Lr : List Seal) (l : List Say) : List Seal × List Sgn := l.foldl signStep (Lr, [])
theorem signed_snoc (Lr : List Seal) (l : List Say) (x : Say) : signedL Lr (l ++ [x]) = signStep (signedL Lr l) x := by unfold signedL; rw [List.foldl_append]; rfl
theorem signed_take (Lr : List Seal) (l : List Say) (k : Nat) (h : k < l.length) : signedL Lr (l.take (k + 1)) = signStep (signedL Lr (l.take k)) l[k] := by
  rw [List.take_succ_eq_append_getElem h, signed_snoc]
theorem sign_len (Lr : List Seal) (k : Int) (t : List UInt8) : (Bk.sign Lr k t).2.length ≤ Lr.length + 1 := by
  unfold Bk.sign
  split
  · split <;> simp
  · simp
theorem sign_sgn (Lr : List Seal) (k : Int) (t : List UInt8) : 0 ≤ (Bk.sign Lr k t).1.key ∧ (Bk.sign Lr k t).1.key < 200 ∧ 0 ≤ (Bk.sign Lr k t).1.mark ∧ (Bk.sign Lr k t).1.mark ≤ Lr.length ∧ (Bk.sign Lr k t).1.text.length ≤ t.length := by
  unfold Bk.sign
  split
  · rename_i hk
    have hk2 : 0 ≤ k ∧ k < 200 := by unfold isKey at hk; simpa using hk
    split
    · rename_i i hi
      have := Bk.place_lt hi
      exact ⟨hk2.1, hk2.2, by show (0 : Int) ≤ i; omega, by show (i : Int) ≤ _; omega, Nat.le_refl _⟩
    · exact ⟨hk2.1, hk2.2, by show (0 : Int) ≤ Lr.length; omega, by show (Lr.length : Int) ≤ _; omega, Nat.le_refl _⟩
  · exact ⟨by show (0 : Int) ≤ 0; omega, by show (0 : Int) < 200; omega, by show (0 : Int) ≤ 0; omega, by show (0 : Int) ≤ _; omega, Nat.zero_le _⟩
/-- A signature of modest size. -/
structure Mod (s : Sgn) : Prop where
  k0 : 0 ≤ s.key
  k1 : s.key ≤ 1000
  m0 : 0 ≤ s.mark
  m1 : s.mark ≤ 1000000
  t : s.text.length ≤ 100000
theorem turned_mod {s : Sgn} {odd : Int} (k0 : 0 ≤ s.key) (k1 : s.key < 200) (m0 : 0 ≤ s.mark) (m1 : s.mark ≤ 1000) (t : s.text.length ≤ 30000) : Mod (turned s odd) := by
  unfold turned
  split
  · exact ⟨k0, by show s.key ≤ 1000; omega, by show 0 ≤ s.mark + 1; omega, by show s.mark + 1 ≤ _; omega, by show s.text.length ≤ _; omega⟩
  split
  · exact ⟨k0, by show s.key ≤ 1000; omega, m0, by show s.mark ≤ _; omega, by show (s.text ++ [120]).length ≤ _; simp; omega⟩
  split
  · exact ⟨by show 0 ≤ s.key + 1; omega, by show s.key + 1 ≤ 1000; omega, m0, by show s.mark ≤ _; omega, by show s.text.length ≤ _; omega⟩
  · exact ⟨k0, by omega, m0, by omega, by omega⟩
theorem signed_facts {Lr : List Seal} (hn : Lr.Nodup) {l : List Say} (hl : Lr.length + l.length ≤ 1000) (hw : ∀ x ∈ l, (words x).length ≤ 30000) :
    (signedL Lr l).1.length ≤ Lr.length + l.length ∧ (signedL Lr l).1.Nodup ∧ (signedL Lr l).2.length = l.length ∧ ∀ s ∈ (signedL Lr l).2, Mod s := by
  suffices ∀ (R : List Say), Lr.length + R.length ≤ 1000 → (∀ x ∈ R, (words x).length ≤ 30000) → (signedL Lr R.reverse).1.length ≤ Lr.length + R.length ∧ (signedL Lr R.reverse).1.Nodup ∧ (signedL Lr R.reverse).2.length = R.length ∧ ∀ s ∈ (signedL Lr R.reverse).2, Mod s by
    have h := this l.reverse (by simpa using hl) (fun x hx => hw x (List.mem_reverse.1 hx))
    simpa using h
  intro R
  induction R with
  | nil => intro _ _; exact ⟨Nat.le_refl _, hn, rfl, fun s h => by cases h⟩
  | cons x R ih =>
    intro h1 h2
    rw [List.length_cons] at h1
    obtain ⟨i1, i2, i3, i4⟩ := ih (by omega) (fun y hy => h2 y (List.mem_cons_of_mem _ hy))
    have hx := h2 x (List.mem_cons_self ..)
    rw [List.reverse_cons, signed_snoc]
    unfold signStep
    have hs := sign_len (signedL Lr R.reverse).1 x.key (words x)
    obtain ⟨g1, g2, g3, g4, g5⟩ := sign_sgn (signedL Lr R.reverse).1 x.key (words x)
    dsimp only
    refine ⟨by rw [List.length_cons]; omega, Bk.sign_nodup i2, by rw [List.length_append, i3]; rfl, fun s hs' => ?_⟩
    rcases List.mem_append.1 hs' with hs' | hs'
    · exact i4 s hs'
    · rw [List.mem_singleton.1 hs']
      exact turned_mod g1 g2 g3 (by omega) (by omega)
end Go.Proofs.YtkhdnfmnnapjlaaGreatDoor.Vw
