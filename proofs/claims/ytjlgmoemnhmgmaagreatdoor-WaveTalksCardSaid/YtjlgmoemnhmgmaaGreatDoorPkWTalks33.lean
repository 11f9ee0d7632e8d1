/- Plain: a rollout that is through, moment by moment; who is heard. -/
import Derived.Test.YtjlgmoemnhmgmaaGreatDoorPkWTalks32
import Derived.Test.YtjlgmoemnhmgmaaGreatDoorPkWTalks19
namespace Go.Proofs.YtjlgmoemnhmgmaaGreatDoor
set_option linter.unusedVariables false
set_option linter.unusedSimpArgs false

namespace Wv
open Fm (Ty Vl Str rightTy rightVl)
/-- The state after the first waves. -/
def stAt (d : List Bool) (ws : List Wave) (n : Nat) : List Bool := (ws.take n).foldl (fun d w => setAll d w.ms) d
theorem stAt_zero (d : List Bool) (ws : List Wave) : stAt d ws 0 = d := by unfold stAt; rw [List.take_zero]; rfl
theorem stAt_succ {d : List Bool} {ws : List Wave} {n : Nat} (h : n < ws.length) : stAt d ws (n + 1) = setAll (stAt d ws n) (ws[n]).ms := by
  unfold stAt
  rw [List.take_succ_eq_append_getElem h, List.foldl_append]; rfl
structure WOk (f : FL) (q : Int) (h : List Int) (w : Wave) (prev : Option Int) (now : Int) (d : List Bool) : Prop where
  quota : ¬ q < w.ms.length
  held : ∀ x ∈ w.ms, held h (run f x.toNat) now = false
  after : w.after ≤ now
  asc : ∀ m, prev = some m → m < now
  talk : firstBad f d = none
theorem nowOf_le (w : Wave) (mo : List Int) : w.after ≤ nowOf w mo := by
  unfold nowOf; split
  · exact Int.le_refl _
  · exact Int.le_max_left _ _
theorem nowOf_lt (w : Wave) (mo : List Int) (m : Int) (h : mo.getLast? = some m) : m < nowOf w mo := by
  unfold nowOf; rw [h]
  have := Int.le_max_right w.after (m + 1)
  show m < max w.after (m + 1)
  omega
theorem isSome_no {α : Type} {o : Option α} (h : ¬ o.isSome = true) : o = none := by cases o with | none => rfl | some x => exact absurd rfl h
theorem runL_ok {f : FL} {q : Int} {h : List Int} : ∀ {ws : List Wave} {d : List Bool} {mo m : List Int}, runL f q h ws d mo = (m, 0) →
    ∀ i (hi : i < ws.length), WOk f q h ws[i] (if mo.length + i = 0 then none else some (m.getD (mo.length + i - 1) 0)) (m.getD (mo.length + i) 0) (stAt d ws (i + 1))
  | [], d, mo, m, e, i, hi => by simp at hi
  | w :: r, d, mo, m, e, i, hi => by
    have e0 := e
    unfold runL at e
    split at e
    · injection e with e1 e2; cases e2
    · rename_i h1
      split at e
      · injection e with e1 e2; cases e2
      · rename_i h2
        split at e
        · injection e with e1 e2; cases e2
        · rename_i h3
          have hp := runL_pre e
          rw [List.length_append, List.length_singleton] at hp
          have hnow : m.getD mo.length 0 = nowOf w mo := by
            have h5 := congrArg (fun l => l.getD mo.length 0) hp.2
            simp only [List.getD_eq_getElem?_getD] at h5 ⊢
            rw [List.getElem?_take, if_pos (by omega), List.getElem?_append_right (Nat.le_refl _), Nat.sub_self] at h5
            simpa using h5
          cases i with
          | zero =>
            rw [Nat.add_zero, hnow]
            refine ⟨h1, fun x hx => ?_, nowOf_le _ _, fun m' hm => ?_, ?_⟩
            · have h4 : (w.ms.any fun m => held h (run f m.toNat) (nowOf w mo)) = false := by simpa using h2
              exact by simpa using List.any_eq_false.1 h4 x hx
            · by_cases h0 : mo.length = 0
              · rw [if_pos h0] at hm; cases hm
              · rw [if_neg h0] at hm
                injection hm with hm
                subst hm
                refine nowOf_lt _ _ _ ?_
                have h6 := congrArg (fun l => l.getD (mo.length - 1) 0) hp.2
                simp only [List.getD_eq_getElem?_getD] at h6 ⊢
                rw [List.getElem?_take, if_pos (by omega), List.getElem?_append_left (by omega)] at h6
                rw [List.getLast?_eq_getElem?, h6, List.getElem?_eq_getElem (by omega)]; rfl
            · rw [stAt_succ (by simp), stAt_zero]
              exact isSome_no h3
          | succ i =>
            have h7 := runL_ok e i (by simpa using hi)
            rw [List.length_append, List.length_singleton] at h7
            rw [show mo.length + (i + 1) = mo.length + 1 + i by omega]
            exact h7
/-- What a rollout that is through says of each wave. -/
theorem run_ok {f : FL} {ws : List Wave} {q : Int} {h m : List Int} (e : runF f ws q h = (m, 0)) :
    right f = true ∧ 1 ≤ q ∧ formedW f ws = true ∧ m.length = ws.length ∧ firstBad f (none_ f) = none ∧ ∀ i (hi : i < ws.length), WOk f q h ws[i] (if i = 0 then none else some (m.getD (i - 1) 0)) (m.getD i 0) (stAt (none_ f) ws (i + 1)) := by
  unfold runF at e
  by_cases hc : right f = true ∧ 1 ≤ q ∧ formedW f ws = true
  · rw [if_pos hc] at e
    unfold runG at e
    by_cases hb : (firstBad f (none_ f)).isSome = true
    · rw [if_pos hb] at e; injection e with e1 e2; cases e2
    · rw [if_neg hb] at e
      refine ⟨hc.1, hc.2.1, hc.2.2, by have := runL_len e; simpa using this, isSome_no hb, fun i hi => ?_⟩
      have := runL_ok e i hi
      simpa using this
  · rw [if_neg hc] at e; injection e with e1 e2; cases e2
theorem runL_fail {f : FL} {q : Int} {h : List Int} : ∀ {ws : List Wave} {d : List Bool} {mo m : List Int} {c : Int}, runL f q h ws d mo = (m, c) → c ≠ 0 → m.length < mo.length + ws.length
  | [], d, mo, m, c, e, hc => by
    unfold runL at e
    injection e with e1 e2
    exact absurd e2.symm hc
  | w :: r, d, mo, m, c, e, hc => by
    unfold runL at e
    rw [List.length_cons]
    split at e
    · injection e with e1 e2; subst e1; omega
    · split at e
      · injection e with e1 e2; subst e1; omega
      · split at e
        · injection e with e1 e2; subst e1; omega
        · have := runL_fail e hc
          rw [List.length_append, List.length_singleton] at this
          omega
theorem run_fail {f : FL} {ws : List Wave} {q : Int} {h m : List Int} {c : Int} (e : runF f ws q h = (m, c)) (hc : c ≠ 0) :
    m.length ≤ ws.length ∧ (m.length < ws.length ∨ c = 1 ∨ c = 27) := by
  unfold runF at e
  by_cases h1 : right f = true ∧ 1 ≤ q ∧ formedW f ws = true
  · rw [if_pos h1] at e
    unfold runG at e
    by_cases hb : (firstBad f (none_ f)).isSome = true
    · rw [if_pos hb] at e
      injection e with e1 e2
      subst e1
      exact ⟨Nat.zero_le _, Or.inr (Or.inr e2.symm)⟩
    · rw [if_neg hb] at e
      have := runL_fail e hc
      simp only [List.length_nil, Nat.zero_add] at this
      exact ⟨by omega, Or.inl this⟩
  · rw [if_neg h1] at e
    injection e with e1 e2
    subst e1
    exact ⟨Nat.zero_le _, Or.inr (Or.inl e2.symm)⟩
/-- A value that has what one service writes is read by those that it sends to. -/
theorem heard_ok {f : FL} {d : List Bool} (hr : Rg f) (hno : firstBad f d = none) {i k : Nat} (hi : i < f.runs.length) (hk : k < f.runs.length) (hs : ((run f k : Nat) : Int) ∈ (svcAt f (run f i) (ver d i)).sends)
    {v : Vl} (hv : Fm.okI 4 v) (hh : Fm.has (svcAt f (run f i) (ver d i)).wr v = true) :
    fWrite (svcAt f (run f i) (ver d i)).wr v = (Fm.writeF 4 (svcAt f (run f i) (ver d i)).wr v, 0) ∧ (Fm.writeF 4 (svcAt f (run f i) (ver d i)).wr v).length ≤ 1000000 ∧ (fRead (svcAt f (run f k) (ver d k)).rd (Fm.writeF 4 (svcAt f (run f i) (ver d i)).wr v)).2 = 0 := by
  have hb := first_none_iff.1 hno i hi k hk
  unfold bad can at hb
  rw [decide_eq_true hs] at hb
  have hreads : fReads (svcAt f (run f i) (ver d i)).wr (svcAt f (run f k) (ver d k)).rd = true := by simpa using hb
  unfold fReads at hreads
  simp only [Bool.and_eq_true] at hreads
  obtain ⟨⟨hw, hrd⟩, hsub⟩ := hreads
  have hh2 := hh
  unfold Fm.has at hh2
  simp only [Bool.and_eq_true] at hh2
  obtain ⟨⟨_, hrv⟩, hfit⟩ := hh2
  generalize svcAt f (run f i) (ver d i) = a at *
  generalize svcAt f (run f k) (ver d k) = b at *
  have hrw := Fm.read_write (Nat.le_refl 4) hw hrd hrv hfit hv
  rw [if_pos hsub] at hrw
  refine ⟨?_, ?_, ?_⟩
  · unfold fWrite
    rw [hw, hh]; simp
  · have := Fm.write_len (Nat.le_refl 4) hw hv
    have := Fm.W4
    omega
  · unfold fRead
    rw [hrd, hrw]; simp
end Wv
end Go.Proofs.YtjlgmoemnhmgmaaGreatDoor
