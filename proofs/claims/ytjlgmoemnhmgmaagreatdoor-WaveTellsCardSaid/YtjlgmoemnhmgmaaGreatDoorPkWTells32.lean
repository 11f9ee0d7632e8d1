/- The reference's Has (of ints) and Is; the depth of a value. The reference's words (ladingref14). Plain: the reserved words as one string and as a list. The reference's names (ladingref15). The reference's right types (ladingref15): labels. The reference's right types (ladingref15): ascending. The reference's right types (ladingref15): shape, RightType; ladingref16.Right. -/
import Derived.Test.YtjlgmoemnhmgmaaGreatDoorPkWTells30
import Derived.Test.YtjlgmoemnhmgmaaGreatDoorPkWTells31
import Derived.Test.YtjlgmoemnhmgmaaGreatDoorPkWTells8
import Derived.Deep.Quiet
import Derived.Test.YtjlgmoemnhmgmaaGreatDoorPkWTells6
import Derived.Test.YtjlgmoemnhmgmaaGreatDoorPkWTells4
import Derived.Test.YtjlgmoemnhmgmaaGreatDoorPkWTells10
namespace Go.Proofs.YtjlgmoemnhmgmaaGreatDoor
open Go.RowKit
set_option linter.unusedVariables false
set_option linter.unusedSimpArgs false
attribute [local irreducible] Calls
open Fm (Ty Vl Str)
open Wv (Svc FL)

set_option maxHeartbeats 1000000 in
theorem has_ic (a : Option Addr) (cap : Nat) (l : List Int) (n : Int) (w : World) (h : IC w a l) (hl : l.length ≤ maxLen) :
    Calls Tryz.prog 20 #[.slice a l.length cap, .int .i64 n] w fun e w' => e = .returned (.bool (decide (n ∈ l))) ∧ Nw w w' := by
  have HC := Lib.hid h
  unfold maxLen at hl
  have hl1 : (l.length : Int) ≤ 9223372036854775807 := by omega
  clear h
  go_enter Tryz.func20, Tryz.ntmps20
  go_wp2_with fail
  go_loopw [5] (fun iv wr => ∃ k : Nat, k ≤ l.length ∧ iv = .int .i64 k ∧ Hid (∀ j (h : j < l.length), j < k → ¬ l[j] = n) ∧ Hid (Nw w wr)) (fun iv _ => l.length - (intOf iv).toNat)
  case atStart => exact ⟨0, Nat.zero_le _, rfl, fun j _ h => absurd h (Nat.not_lt_zero _), Upd.refl _ _⟩
  case round =>
    obtain ⟨k, hk, rfl, hall, u⟩ := hrel
    by_cases hlt : k < l.length
    · have hlt1 : (k : Int) < l.length := by omega
      rcases HC.out with hnil | ⟨b, o, rfl, hb, hc⟩
      · simp [hnil] at hlt
      have d0 := nw_cellF u.out (hc k hlt)
      have hnext : ¬ l[k] = n → Hid (∀ j (h : j < l.length), j < k + 1 → ¬ l[j] = n) := fun e j h hj => by
        by_cases ej : j = k
        · subst ej; exact e
        · exact hall.out j h (by omega)
      have hyes : l[k] = n → Hid (decide (n ∈ l) = true) := fun e => decide_eq_true (by rw [← e]; exact List.getElem_mem hlt)
      clear hc
      generalize l[k] = x at *
      by_cases hx : x = n
      · have hy := hyes hx
        have dx : (x == n) = true := beq_iff_eq.2 hx
        clear hnext hyes hx
        go_wp2_with fail
        go_ret
        exact ⟨ret_bool hy.out.symm, u.out⟩
      · have hy := hnext hx
        have dx : (x == n) = false := beq_eq_false_iff_ne.2 hx
        clear hnext hyes hx
        go_wp2_with fail
        go_roundw
        case rel => exact ⟨k + 1, by omega, by go_num, hy, u.out⟩
        case measure => simp [intOf]; omega
    · have hy : Hid (decide (n ∈ l) = false) := decide_eq_false fun hm => by
        obtain ⟨j, hj, e⟩ := List.mem_iff_getElem.1 hm
        exact hall.out j hj (by omega) e
      have hlt1 : ¬ (k : Int) < l.length := by omega
      go_wp2_with fail
      go_ret
      exact ⟨ret_bool hy.out.symm, u.out⟩
theorem is_results (tmps : Array Value) (w : World) (p : Nat) (x0 x1 x2 x3 x4 x5 : Value) (h2 : tmps.getD 6 undef = .pointer (some ⟨p, 0, none⟩)) (hb : w.heap[p]? = some (.cells #[x0, x1, x2, x3, x4, x5] tSv (0, 0))) :
    (results Tryz.f32 tmps).run Tryz.prog w = .ok (.agg #[x0, x1, x2, x3, x4, x5]) w := by
  have e0 : w.cell? ⟨p, 0, none⟩ = some x0 := by rw [cells_cell hb]; rfl
  have e1 : w.cell? ⟨p, 1, none⟩ = some x1 := by rw [cells_cell hb]; rfl
  have e2 : w.cell? ⟨p, 2, none⟩ = some x2 := by rw [cells_cell hb]; rfl
  have e3 : w.cell? ⟨p, 3, none⟩ = some x3 := by rw [cells_cell hb]; rfl
  have e4 : w.cell? ⟨p, 4, none⟩ = some x4 := by rw [cells_cell hb]; rfl
  have e5 : w.cell? ⟨p, 5, none⟩ = some x5 := by rw [cells_cell hb]; rfl
  rw [Array.getD_eq_getD_getElem?] at h2
  simp [results, Tryz.results32, h2, go_sem, e0, e1, e2, e3, e4, e5]
end Go.Proofs.YtjlgmoemnhmgmaaGreatDoor
namespace Go.Proofs.YtjlgmoemnhmgmaaGreatDoor
open Go.RowKit
set_option linter.unusedVariables false
set_option linter.unusedSimpArgs false
attribute [local irreducible] Calls
open Fm (Ty Vl Str nameB rightTy rightVl letterB digitB wordB)

theorem letter_r (c : UInt8) (w : World) : Calls Tryz.prog 107 #[.int .u8 c.toNat] w fun e w' => e = .returned (.bool (letterB c)) ∧ w = w' := by
  have h1 : (c.toNat : Int) ≤ 255 := by have := c.toNat_lt; omega
  have h2 : (0 : Int) ≤ c.toNat := by omega
  have hr : Hid (letterB c = (decide (97 ≤ c.toNat) && decide (c.toNat ≤ 122))) := rfl
  by_cases ha : 97 ≤ c.toNat
  · have d1 : decide ((97 : Int) ≤ (c.toNat : Int)) = true := decide_eq_true (by omega)
    by_cases hb : c.toNat ≤ 122
    · have d2 : decide ((c.toNat : Int) ≤ 122) = true := decide_eq_true (by omega)
      have e : Hid (letterB c = true) := by show _ = _; rw [hr.out, decide_eq_true ha, decide_eq_true hb]; rfl
      clear ha hb hr
      go_enter Tryz.func107, Tryz.ntmps107
      go_wp2_with fail
      go_ret
      exact ⟨by rw [e.out]; rfl, rfl⟩
    · have d2 : decide ((c.toNat : Int) ≤ 122) = false := decide_eq_false (by omega)
      have e : Hid (letterB c = false) := by show _ = _; rw [hr.out, decide_eq_true ha, decide_eq_false hb]; rfl
      clear ha hb hr
      go_enter Tryz.func107, Tryz.ntmps107
      go_wp2_with fail
      go_ret
      exact ⟨by rw [e.out]; rfl, rfl⟩
  · have d1 : decide ((97 : Int) ≤ (c.toNat : Int)) = false := decide_eq_false (by omega)
    have e : Hid (letterB c = false) := by show _ = _; rw [hr.out, decide_eq_false ha]; rfl
    clear ha hr
    go_enter Tryz.func107, Tryz.ntmps107
    go_wp2_with fail
    go_ret
    exact ⟨by rw [e.out]; rfl, rfl⟩
theorem digit_r (c : UInt8) (w : World) : Calls Tryz.prog 108 #[.int .u8 c.toNat] w fun e w' => e = .returned (.bool (digitB c)) ∧ w = w' := by
  have h1 : (c.toNat : Int) ≤ 255 := by have := c.toNat_lt; omega
  have h2 : (0 : Int) ≤ c.toNat := by omega
  have hr : Hid (digitB c = (decide (48 ≤ c.toNat) && decide (c.toNat ≤ 57))) := rfl
  by_cases ha : 48 ≤ c.toNat
  · have d1 : decide ((48 : Int) ≤ (c.toNat : Int)) = true := decide_eq_true (by omega)
    by_cases hb : c.toNat ≤ 57
    · have d2 : decide ((c.toNat : Int) ≤ 57) = true := decide_eq_true (by omega)
      have e : Hid (digitB c = true) := by show _ = _; rw [hr.out, decide_eq_true ha, decide_eq_true hb]; rfl
      clear ha hb hr
      go_enter Tryz.func108, Tryz.ntmps108
      go_wp2_with fail
      go_ret
      exact ⟨by rw [e.out]; rfl, rfl⟩
    · have d2 : decide ((c.toNat : Int) ≤ 57) = false := decide_eq_false (by omega)
      have e : Hid (digitB c = false) := by show _ = _; rw [hr.out, decide_eq_true ha, decide_eq_false hb]; rfl
      clear ha hb hr
      go_enter Tryz.func108, Tryz.ntmps108
      go_wp2_with fail
      go_ret
      exact ⟨by rw [e.out]; rfl, rfl⟩
  · have d1 : decide ((48 : Int) ≤ (c.toNat : Int)) = false := decide_eq_false (by omega)
    have e : Hid (digitB c = false) := by show _ = _; rw [hr.out, decide_eq_false ha]; rfl
    clear ha hr
    go_enter Tryz.func108, Tryz.ntmps108
    go_wp2_with fail
    go_ret
    exact ⟨by rw [e.out]; rfl, rfl⟩

theorem word_no {s : Str} {i : Nat} (hi : i < s.length) (h : (letterB s[i] || digitB s[i]) = false) : wordB s = false := by
  cases s with
  | nil => simp at hi
  | cons c r =>
    show (letterB c && decide ((c :: r).length ≤ 20) && (c :: r).all (fun c => letterB c || digitB c)) = false
    have : (c :: r).all (fun c => letterB c || digitB c) = false := by
      rw [List.all_eq_false]
      exact ⟨_, List.getElem_mem hi, by rw [h]; simp⟩
    rw [this]; simp
theorem word_yes {c : UInt8} {r : Str} (h1 : letterB c = true) (h2 : (c :: r).length ≤ 20) (h : ∀ i (h : i < (c :: r).length), 0 < i → (letterB (c :: r)[i] || digitB (c :: r)[i]) = true) : wordB (c :: r) = true := by
  show (letterB c && decide ((c :: r).length ≤ 20) && (c :: r).all (fun c => letterB c || digitB c)) = true
  rw [h1, decide_eq_true h2, List.all_eq_true.2 (fun x hx => ?_)]
  · rfl
  · obtain ⟨i, hi, e⟩ := List.mem_iff_getElem.1 hx
    by_cases h0 : i = 0
    · subst h0; rw [← e]; show (letterB c || _) = true; rw [h1]; rfl
    · have := h i hi (by omega); rw [e] at this; exact this
set_option maxHeartbeats 4000000 in
set_option maxRecDepth 100000 in
theorem Word_r (s : Str) (hs : s.length ≤ maxLen) (w : World) : Calls Tryz.prog 80 #[.string ⟨s.toArray⟩] w fun e w' => e = .returned (.bool (wordB s)) ∧ w = w' := by
  cases s with
  | nil =>
    go_enter Tryz.func80, Tryz.ntmps80
    go_wp2_with fail
    go_ret
    exact ⟨rfl, rfl⟩
  | cons c r =>
    have hsz : 0 < (⟨(c :: r).toArray⟩ : ByteArray).size := by show 0 < (c :: r).toArray.size; simp
    have hf := Lib.hid (letter_r ((⟨(c :: r).toArray⟩ : ByteArray)[0]'hsz) w)
    have h1 : letterB ((⟨(c :: r).toArray⟩ : ByteArray)[0]'hsz) = letterB c := rfl
    have hl0 : decide (((c :: r).length : Int) < 1) = false := decide_eq_false (by simp; omega)
    have hl1 : decide (((r.length : Int) + 1) < 1) = false := decide_eq_false (by omega)
    by_cases h20 : 20 < (c :: r).length
    · have e : Hid (wordB (c :: r) = false) := by
        show (letterB c && decide ((c :: r).length ≤ 20) && _) = false
        rw [decide_eq_false (by omega)]; simp
      have h20' : (20 : Int) < (c :: r).length := by omega
      have h20'' : (20 : Int) < (r.length : Int) + 1 := by simpa using h20'
      go_enter Tryz.func80, Tryz.ntmps80
      go_wp2_with fail
      go_ret
      exact ⟨by rw [e.out]; rfl, rfl⟩
    · have h20' : (r.length : Int) + 1 ≤ 20 := by simp at h20; omega
      rw [h1] at hf
      cases hc : letterB c with
      | false =>
        have e : Hid (wordB (c :: r) = false) := by
          show (letterB c && _ && _) = false
          rw [hc]; rfl
        rw [hc] at hf
        go_enter Tryz.func80, Tryz.ntmps80
        go_wp2_with fail
        (with_reducible refine (hf.out).mono ?_)
        rintro _ _ ⟨rfl, rfl⟩
        go_wp2_with fail
        go_ret
        exact ⟨by rw [e.out]; rfl, rfl⟩
      | true =>
        rw [hc] at hf
        have HC := Lib.hid hc
        have HL : Hid ((c :: r).length ≤ 20) := by show _ ≤ _; omega
        clear hc h1
        go_enter Tryz.func80, Tryz.ntmps80
        go_wp2_with fail
        (with_reducible refine (hf.out).mono ?_)
        rintro _ _ ⟨rfl, rfl⟩
        go_wp2_with fail
        go_loopw [3] (fun iv wr => ∃ i : Nat, 0 < i ∧ i ≤ (c :: r).length ∧ iv = .int .i64 (i : Int) ∧ Hid (∀ j (h : j < (c :: r).length), 0 < j → j < i → (letterB (c :: r)[j] || digitB (c :: r)[j]) = true) ∧ w = wr) (fun iv _ => (c :: r).length - (intOf iv).toNat)
        case atStart => exact ⟨1, by omega, by simp, rfl, (fun j h h0 h1 => by omega), rfl⟩
        case round =>
          obtain ⟨i, hi0, hi, rfl, hall, rfl⟩ := hrel
          by_cases hlt : i < (c :: r).length
          · have hlt1 : (i : Int) < (r.length : Int) + 1 := by simp at hlt; omega
            have hi9 : (i : Int) ≤ 20 := by omega
            have hi0' : (0 : Int) ≤ (i : Int) := by omega
            have hsz2 : i < (⟨(c :: r).toArray⟩ : ByteArray).size := by show i < (c :: r).toArray.size; simpa using hlt
            have hf1 := Lib.hid (letter_r ((⟨(c :: r).toArray⟩ : ByteArray)[i]'hsz2) w)
            have hf2 := Lib.hid (digit_r ((⟨(c :: r).toArray⟩ : ByteArray)[i]'hsz2) w)
            have ha : (c :: r)[i]'hlt = (⟨(c :: r).toArray⟩ : ByteArray)[i]'hsz2 := rfl
            have hstep : Hid ((letterB ((⟨(c :: r).toArray⟩ : ByteArray)[i]'hsz2) || digitB ((⟨(c :: r).toArray⟩ : ByteArray)[i]'hsz2)) = true → ∀ j (h : j < (c :: r).length), 0 < j → j < i + 1 → (letterB (c :: r)[j] || digitB (c :: r)[j]) = true) := fun e j h h0 hj => by
              by_cases ej : j = i
              · subst ej; exact e
              · exact hall.out j h h0 (by omega)
            have hbad : Hid ((letterB ((⟨(c :: r).toArray⟩ : ByteArray)[i]'hsz2) || digitB ((⟨(c :: r).toArray⟩ : ByteArray)[i]'hsz2)) = false → wordB (c :: r) = false) := fun e => word_no hlt e
            clear ha
            cases h1 : letterB ((⟨(c :: r).toArray⟩ : ByteArray)[i]'hsz2) with
            | true =>
              rw [h1] at hf1 hstep
              have HS := Lib.hid (hstep.out rfl)
              clear hstep hbad h1 hf2
              go_wp2_with fail
              (with_reducible refine (hf1.out).mono ?_)
              rintro _ _ ⟨rfl, rfl⟩
              go_wp2_with fail
              go_roundw
              case rel => exact ⟨i + 1, by omega, by simp at hlt ⊢; omega, by go_num, HS.out, by first | rfl | trivial⟩
              case measure => simp [intOf] at hlt ⊢; omega
            | false =>
              rw [h1] at hf1 hstep hbad
              cases h2 : digitB ((⟨(c :: r).toArray⟩ : ByteArray)[i]'hsz2) with
              | true =>
                rw [h2] at hf2 hstep
                have HS := Lib.hid (hstep.out rfl)
                clear hstep hbad h1 h2
                go_wp2_with fail
                (with_reducible refine (hf1.out).mono ?_)
                rintro _ _ ⟨rfl, rfl⟩
                go_wp2_with fail
                (with_reducible refine (hf2.out).mono ?_)
                rintro _ _ ⟨rfl, rfl⟩
                go_wp2_with fail
                go_roundw
                case rel => exact ⟨i + 1, by omega, by simp at hlt ⊢; omega, by go_num, HS.out, by first | rfl | trivial⟩
                case measure => simp [intOf] at hlt ⊢; omega
              | false =>
                rw [h2] at hf2 hbad
                have HB := Lib.hid (hbad.out rfl)
                clear hstep hbad h1 h2
                go_wp2_with fail
                (with_reducible refine (hf1.out).mono ?_)
                rintro _ _ ⟨rfl, rfl⟩
                go_wp2_with fail
                (with_reducible refine (hf2.out).mono ?_)
                rintro _ _ ⟨rfl, rfl⟩
                go_wp2_with fail
                go_ret
                exact ⟨by rw [HB.out]; rfl, rfl⟩
          · obtain rfl : i = (c :: r).length := by omega
            have e := Lib.hid (word_yes HC.out HL.out (fun j h h0 => hall.out j h h0 h))
            go_wp2_with fail
            go_ret
            exact ⟨by rw [e.out]; rfl, rfl⟩
end Go.Proofs.YtjlgmoemnhmgmaaGreatDoor
namespace Go.Proofs.YtjlgmoemnhmgmaaGreatDoor
set_option linter.unusedVariables false
set_option linter.unusedSimpArgs false
namespace Fm

def wordsL : List Str := [[97, 110, 100], [98, 97, 99, 107], [98, 111, 111, 108], [99, 108, 111, 99, 107], [101, 108, 115, 101], [102, 97, 108, 115, 101], [102, 105, 108, 101, 115], [102, 110], [102, 111, 114, 119, 97, 114, 100], [103, 101, 116], [105, 102], [105, 110], [105, 110, 116], [108, 101, 116], [109, 111, 100, 117, 108, 101], [109, 111, 118, 101], [110, 101, 116], [110, 111, 116], [111, 114], [112, 117, 98], [115, 101, 99, 114, 101, 116, 115], [115, 101, 116], [116, 104, 101, 110], [116, 114, 117, 101], [117, 115, 101], [118, 97, 114]]
theorem reserved_eq : reservedL = 32 :: (wordsL.map (· ++ [32])).flatten := by decide +kernel
theorem words_plain : ∀ x ∈ wordsL, (32 : UInt8) ∉ x := by decide +kernel
theorem split_at {x s r b : List UInt8} (hx : (32 : UInt8) ∉ x) (hs : (32 : UInt8) ∉ s) (h : s ++ 32 :: b = x ++ 32 :: r) : s = x := by
  induction s generalizing x with
  | nil =>
    cases x with
    | nil => rfl
    | cons c x => simp at h; exact absurd (List.mem_cons.2 (Or.inl h.1)) hx
  | cons d s ih =>
    cases x with
    | nil => simp at h; exact absurd (List.mem_cons.2 (Or.inl h.1.symm)) hs
    | cons c x =>
      simp at h
      rw [h.1, ih (fun m => hx (List.mem_cons_of_mem _ m)) (fun m => hs (List.mem_cons_of_mem _ m)) h.2]
theorem skip_word {x a p r : List UInt8} (hx : (32 : UInt8) ∉ x) (h : a ++ 32 :: p = x ++ 32 :: r) : ∃ a', a' ++ 32 :: p = 32 :: r := by
  induction x generalizing a with
  | nil => exact ⟨a, h⟩
  | cons c x ih =>
    cases a with
    | nil => simp at h; exact absurd (List.mem_cons.2 (Or.inl h.1)) hx
    | cons d a => simp at h; exact ih (fun m => hx (List.mem_cons_of_mem _ m)) h.2
theorem among_words {s : List UInt8} (hs : (32 : UInt8) ∉ s) (hne : s ≠ []) : ∀ {L : List (List UInt8)}, (∀ x ∈ L, (32 : UInt8) ∉ x) → ((∃ a b, a ++ 32 :: (s ++ 32 :: b) = 32 :: (L.map (· ++ [32])).flatten) ↔ s ∈ L) := by
  intro L
  induction L with
  | nil =>
    intro _
    constructor
    · rintro ⟨a, b, h⟩
      have := congrArg List.length h
      simp at this
      omega
    · intro h; cases h
  | cons x L ih =>
    intro hL
    have hx := hL x (List.mem_cons_self ..)
    have ih := ih (fun y hy => hL y (List.mem_cons_of_mem _ hy))
    have e : ((x :: L).map (· ++ [32])).flatten = x ++ 32 :: (L.map (· ++ [(32 : UInt8)])).flatten := by simp
    rw [e]
    constructor
    · rintro ⟨a, b, h⟩
      cases a with
      | nil =>
        have h : s ++ 32 :: b = x ++ 32 :: (L.map (· ++ [(32 : UInt8)])).flatten := by simpa using h
        rw [split_at hx hs h]; exact List.mem_cons_self ..
      | cons d a =>
        have h : a ++ 32 :: (s ++ 32 :: b) = x ++ 32 :: (L.map (· ++ [(32 : UInt8)])).flatten := by simp at h ⊢; exact h.2
        obtain ⟨a', h2⟩ := skip_word hx h
        exact List.mem_cons_of_mem _ (ih.1 ⟨a', b, h2⟩)
    · intro hm
      rcases List.mem_cons.1 hm with rfl | hm
      · exact ⟨[], (L.map (· ++ [(32 : UInt8)])).flatten, by simp⟩
      · obtain ⟨a, b, h⟩ := ih.2 hm
        exact ⟨32 :: (x ++ a), b, by simp; exact h⟩
theorem contains_iff {l p : List UInt8} : Lib.contains l p = true ↔ ∃ a b, a ++ (p ++ b) = l := by
  unfold Lib.contains
  rw [decide_eq_true_eq]
  rcases Lib.index_spec l p with ⟨h1, h2⟩ | ⟨i, h1, h2, h3, -⟩
  · rw [h1]
    constructor
    · intro h; omega
    · rintro ⟨a, b, e⟩
      have := h2 a.length (by rw [← e]; simp)
      unfold Lib.occAt at this
      rw [← e, List.drop_left, List.isPrefixOf_iff_prefix.2 (List.prefix_append p b)] at this
      cases this
  · rw [h1]
    constructor
    · intro _
      unfold Lib.occAt at h3
      obtain ⟨b, hb⟩ := List.isPrefixOf_iff_prefix.1 h3
      exact ⟨l.take i, b, by rw [hb, List.take_append_drop]⟩
    · intro _; omega
theorem letter_no {c : UInt8} (h : (letterB c || digitB c) = true) : c ≠ 32 := by
  rintro rfl
  exact absurd h (by decide)
theorem word_plain {s : Str} (h : wordB s = true) : (32 : UInt8) ∉ s ∧ s ≠ [] := by
  cases s with
  | nil => cases h
  | cons c r =>
    have h' : (letterB c && decide ((c :: r).length ≤ 20) && (c :: r).all (fun c => letterB c || digitB c)) = true := h
    rw [Bool.and_eq_true, List.all_eq_true] at h'
    exact ⟨fun m => letter_no (h'.2 _ m) rfl, by simp⟩
theorem name_list (s : Str) : nameB s = (wordB s && !decide (s ∈ wordsL)) := by
  unfold nameB
  cases hw : wordB s with
  | false => rfl
  | true =>
    obtain ⟨h1, h2⟩ := word_plain hw
    have : Lib.contains reservedL ([32] ++ s ++ [32]) = decide (s ∈ wordsL) := by
      rw [Bool.eq_iff_iff, contains_iff, decide_eq_true_eq, ← among_words h1 h2 words_plain, reserved_eq]
      constructor
      · rintro ⟨a, b, e⟩; exact ⟨a, b, by rw [← e]; simp⟩
      · rintro ⟨a, b, e⟩; exact ⟨a, b, by rw [← e]; simp⟩
    rw [this]
end Fm
end Go.Proofs.YtjlgmoemnhmgmaaGreatDoor
namespace Go.Proofs.YtjlgmoemnhmgmaaGreatDoor
open Go.RowKit
set_option linter.unusedVariables false
set_option linter.unusedSimpArgs false
attribute [local irreducible] Calls
open Fm (Ty Vl Str nameB rightTy rightVl letterB digitB wordB)

set_option maxHeartbeats 1000000 in
set_option maxRecDepth 100000 in
theorem find_r (a : Option Addr) (cap : Nat) (l : List Str) (s : Str) (w : World) (h : StrC w a l) (hl : l.length ≤ maxLen) :
    Calls Tryz.prog 81 #[.slice a l.length cap, .string ⟨s.toArray⟩] w fun e w' => e = .returned (.int .i64 (Fm.idx s l)) ∧ w = w' := by
  have HC := Lib.hid h
  unfold maxLen at hl
  have hl1 : (l.length : Int) ≤ 9223372036854775807 := by omega
  clear h hl
  go_enter Tryz.func81, Tryz.ntmps81
  go_wp2_with fail
  go_loopw [5] (fun i wr => ∃ n : Nat, n ≤ l.length ∧ i = .int .i64 (n : Int) ∧ Hid (∀ j (h : j < l.length), j < n → (decide (l[j] = s)) = false) ∧ w = wr) (fun i _ => l.length - (intOf i).toNat)
  case atStart => exact ⟨0, Nat.zero_le _, rfl, fun j _ h => absurd h (Nat.not_lt_zero _), rfl⟩
  case round =>
    obtain ⟨n, hn, rfl, hall, rfl⟩ := hrel
    by_cases hlt : n < l.length
    · have hlt1 : (n : Int) < l.length := by omega
      have hn9 : (n : Int) ≤ 9223372036854775806 := by omega
      have hn0 : decide ((n : Int) < 0) = false := decide_eq_false (by omega)
      rcases HC.out with hnil | ⟨b, off, rfl, _, hcell⟩
      · simp [hnil] at hlt
      have c0 := (hcell n hlt).1
      have hnext : l[n] ≠ s → Hid (∀ j (h : j < l.length), j < n + 1 → (decide (l[j] = s)) = false) := fun e j h hj => by
        by_cases ej : j = n
        · subst ej; exact decide_eq_false e
        · exact hall.out j h (by omega)
      have hstop : l[n] = s → Hid (Fm.idx s l = n) := fun e => idx_hit hlt (decide_eq_true e) hall.out
      clear hcell
      generalize l[n] = x at *
      by_cases he : x = s
      · have hr := hstop he
        clear hstop hnext
        subst he
        go_wp2_with fail
        go_ret
        rw [hr.out]
        exact ⟨rfl, rfl⟩
      · have hz := hnext he
        have htt : (x == s) = false := by simp; exact he
        clear hstop hnext he
        go_wp2_with fail
        go_roundw
        case rel => exact ⟨n + 1, by omega, by go_num, hz, by first | rfl | trivial⟩
        case measure => simp [intOf]; omega
    · obtain rfl : n = l.length := by omega
      have hr : Hid (Fm.idx s l = -1) := idx_miss (fun j h => hall.out j h h)
      clear hall
      go_wp2_with fail
      go_ret
      rw [hr.out]
      exact ⟨rfl, rfl⟩
theorem Reserved_r (w : World) : Calls Tryz.prog 82 #[] w fun e w' => e = .returned (.slice (some ⟨w.heap.size, 0, none⟩) 26 26) ∧ w' = w.alloc (.cells (Fm.wordsL.map sF).toArray 9) := by
  go_enter Tryz.func82, Tryz.ntmps82
  go_wp2_with fail
  go_ret
  exact ⟨rfl, rfl⟩
theorem words_at (w : World) : StrC (w.alloc (.cells (Fm.wordsL.map sF).toArray 9)) (some ⟨w.heap.size, 0, none⟩) Fm.wordsL := by
  have hb := heap_new w (.cells (Fm.wordsL.map sF).toArray 9)
  refine Or.inr ⟨w.heap.size, 0, rfl, by simp, fun i hi => ⟨?_, ?_⟩⟩
  · rw [cells_cell hb, Nat.zero_add]
    simp [hi, sF]
  · have : ∀ x ∈ Fm.wordsL, x.length ≤ 20 := by decide +kernel
    have := this _ (List.getElem_mem hi)
    unfold maxLen; omega
theorem idx_words (s : Str) : (decide (Fm.idx s Fm.wordsL < 0)) = !decide (s ∈ Fm.wordsL) := by
  have := Fm.idx_mem (s := s) (l := Fm.wordsL)
  by_cases h : s ∈ Fm.wordsL
  · rw [decide_eq_true h, decide_eq_false (by have := this.2 h; omega)]; rfl
  · rw [decide_eq_false h, decide_eq_true (by have : ¬ (0 ≤ Fm.idx s Fm.wordsL) := fun e => h (this.1 e); omega)]; rfl
theorem Name_r (s : Str) (hs : s.length ≤ maxLen) (w : World) : Calls Tryz.prog 64 #[.string ⟨s.toArray⟩] w fun e w' => e = .returned (.bool (nameB s)) ∧ Nw w w' := by
  have hw := Lib.hid (Word_r s hs w)
  have hn := Lib.hid (Fm.name_list s)
  cases h1 : wordB s with
  | false =>
    rw [h1] at hw
    have e : Hid (nameB s = false) := by show _ = _; rw [hn.out, h1]; rfl
    go_enter Tryz.func64, Tryz.ntmps64
    go_wp2_with fail
    (with_reducible refine (hw.out).mono ?_)
    rintro _ _ ⟨rfl, rfl⟩
    go_wp2_with fail
    go_ret
    exact ⟨by rw [e.out]; rfl, Upd.refl _ _⟩
  | true =>
    rw [h1] at hw
    have e : Hid (nameB s = decide (Fm.idx s Fm.wordsL < 0)) := by show _ = _; rw [hn.out, h1, idx_words]; rfl
    have n1 := nw_alloc w (.cells (Fm.wordsL.map sF).toArray 9)
    have hf := Lib.hid (find_r (some ⟨w.heap.size, 0, none⟩) 26 Fm.wordsL s _ (words_at w) (by unfold maxLen; decide))
    have hf' : Hid (Calls Tryz.prog 81 #[.slice (some ⟨w.heap.size, 0, none⟩) 26 26, .string ⟨s.toArray⟩] (w.alloc (.cells (Fm.wordsL.map sF).toArray 9)) fun e w' => e = .returned (.int .i64 (Fm.idx s Fm.wordsL)) ∧ (w.alloc (.cells (Fm.wordsL.map sF).toArray 9)) = w') := hf.out
    have HN := Lib.hid n1
    have hr := Lib.hid (Reserved_r w)
    clear n1 h1 hn hf
    generalize Fm.idx s Fm.wordsL = ix at *
    generalize w.alloc (.cells (Fm.wordsL.map sF).toArray 9) = W at *
    go_enter Tryz.func64, Tryz.ntmps64
    go_wp2_with fail
    (with_reducible refine (hw.out).mono ?_)
    rintro _ _ ⟨rfl, rfl⟩
    go_wp2_with fail
    (with_reducible refine (hr.out).mono ?_)
    rintro _ _ ⟨rfl, rfl⟩
    go_wp2_with fail
    (with_reducible refine (hf'.out).mono ?_)
    rintro _ _ ⟨rfl, rfl⟩
    go_wp2_with fail
    go_ret
    exact ⟨by rw [e.out]; rfl, HN.out⟩
end Go.Proofs.YtjlgmoemnhmgmaaGreatDoor
namespace Go.Proofs.YtjlgmoemnhmgmaaGreatDoor
open Go.RowKit
set_option linter.unusedVariables false
set_option linter.unusedSimpArgs false
attribute [local irreducible] Calls
open Fm (Ty Vl Str nameB rightTy rightVl letterB digitB wordB)

set_option maxHeartbeats 1000000 in
set_option maxRecDepth 100000 in
theorem labels_r (a : Option Addr) (cap : Nat) (l : List (Str × Ty)) (w : World) (hgb : nG ≤ w.heap.size) (h : FdC w a l) (hl : l.length ≤ 8) :
    Calls Tryz.prog 122 #[.slice a l.length cap] w fun e w' => ∃ v, e = .returned v ∧ Hid (w'.ownsRow w.heap.size 9 1 v l.length ((l.map (·.1)).map sF) ∧ Nw w w') := by
  have HC := Lib.hid h
  have hl1 : (l.length : Int) ≤ 8 := by omega
  clear h
  go_enter Tryz.func122, Tryz.ntmps122
  go_wp2_with fail
  go_loopw [3, 4] (fun sv iv wr => ∃ n : Nat, n ≤ l.length ∧ iv = .int .i64 (n : Int) ∧ Hid (wr.ownsRow w.heap.size 9 1 sv n (((l.take n).map (·.1)).map sF) ∧ Nw w wr)) (fun _ iv _ => l.length - (intOf iv).toNat)
  case atStart => exact ⟨0, Nat.zero_le _, rfl, World.ownsRow_nil _ _ _ _, Upd.refl _ _⟩
  case round =>
    obtain ⟨n, hn, rfl, HO⟩ := hrel
    obtain ⟨oa, oc, rfl⟩ := own_slF HO.out.1
    by_cases hlt : n < l.length
    · have hlt1 : (n : Int) < l.length := by omega
      have hn9 : (n : Int) ≤ 8 := by omega
      rcases HC.out with hnil | ⟨b, off, rfl, _, hcell⟩
      · simp [hnil] at hlt
      obtain ⟨sv, p0, -⟩ := hcell n hlt
      have c0 := nw_cellF HO.out.2 p0
      have hst : ((l.take (n + 1)).map (·.1)).map sF = ((l.take n).map (·.1)).map sF ++ [sF (l[n]).1] := by rw [List.take_succ_eq_append_getElem hlt, List.map_append, List.map_append]; rfl
      have HST := Lib.hid hst
      have hz : w.heap.size ≤ wr.heap.size := HO.out.2.size
      clear hcell p0 hst
      generalize (l[n]).1 = s at *
      go_wp2_with (at_builtin; refine wpList_appL rfl _ _ 56 rfl w.heap.size 9 _ 1 16 Tryz.underlying56 infoStrF rfl (by decide) (.slice oa n oc) n _ rfl HO.out.1 [.string ⟨s.toArray⟩] rfl rfl (by intro u hu; rw [List.mem_singleton.1 hu]; rfl) (by unfold maxLen; omega) (by omega) hz hgb ?_)
      intro v' w4 ho hu hb
      have HO4 : Hid (w4.ownsRow w.heap.size 9 1 v' (n + 1) (((l.take (n + 1)).map (·.1)).map sF) ∧ Nw w w4) := ⟨by rw [HST.out, List.map_map, List.map_take]; exact ho, HO.out.2.trans' hu (fun k hk e => by have := (HO.out.1.lt k e).1; omega)⟩
      clear ho hu hb
      go_wp2_with fail
      go_roundw
      case rel => exact ⟨n + 1, by omega, by go_num, HO4.out⟩
      case measure => simp [intOf]; omega
    · obtain rfl : n = l.length := by omega
      go_wp2_with fail
      go_ret
      refine ⟨_, rfl, ?_, HO.out.2⟩
      have := HO.out.1
      rw [List.take_length] at this
      exact this
end Go.Proofs.YtjlgmoemnhmgmaaGreatDoor
namespace Go.Proofs.YtjlgmoemnhmgmaaGreatDoor
open Go.RowKit
set_option linter.unusedVariables false
set_option linter.unusedSimpArgs false
attribute [local irreducible] Calls
open Fm (Ty Vl Str nameB rightTy rightVl letterB digitB wordB)

/-- Names in ascending order. -/
def ascN (l : List Str) : Bool := l.all nameB && Fm.asc l
theorem ascN_no1 {l : List Str} {i : Nat} (h : i < l.length) (e : nameB l[i] = false) : ascN l = false := by
  unfold ascN
  rw [show l.all nameB = false from List.all_eq_false.2 ⟨_, List.getElem_mem h, by rw [e]; simp⟩]; rfl
theorem ascN_no2 {l : List Str} {i : Nat} (h : i + 1 < l.length) (e : Op.bytesLess (l[i]'(by omega)) l[i + 1] = false) : ascN l = false := by
  unfold ascN
  cases ha : Fm.asc l with
  | false => simp
  | true =>
    have := Fm.asc_iff.1 ha i h
    rw [show Fm.lt (l[i]'(by omega)) l[i + 1] = Op.bytesLess (l[i]'(by omega)) l[i + 1] from rfl, e] at this
    cases this
theorem ascN_yes {l : List Str} (h1 : ∀ i (h : i < l.length), nameB l[i] = true) (h2 : ∀ i (h : i + 1 < l.length), Op.bytesLess (l[i]'(by omega)) l[i + 1] = true) : ascN l = true := by
  unfold ascN
  rw [Fm.asc_iff.2 h2, List.all_eq_true.2 (fun x hx => by obtain ⟨i, hi, rfl⟩ := List.mem_iff_getElem.1 hx; exact h1 i hi)]; rfl
set_option maxHeartbeats 4000000 in
set_option maxRecDepth 100000 in
theorem ascending_r (a : Option Addr) (cap : Nat) (l : List Str) (w : World) (h : StrC w a l) (hl : l.length ≤ 8) :
    Calls Tryz.prog 121 #[.slice a l.length cap] w fun e w' => e = .returned (.bool (ascN l)) ∧ Nw w w' := by
  have HC := Lib.hid h
  have hl1 : (l.length : Int) ≤ 8 := by omega
  clear h
  go_enter Tryz.func121, Tryz.ntmps121
  go_wp2_with fail
  go_loopw [3] (fun iv wr => ∃ n : Nat, n ≤ l.length ∧ iv = .int .i64 (n : Int) ∧ Hid (∀ i (h : i < l.length), i < n → nameB l[i] = true) ∧ Hid (∀ i (h : i + 1 < l.length), i + 1 < n → Op.bytesLess (l[i]'(by omega)) l[i + 1] = true) ∧ Hid (Nw w wr)) (fun iv _ => l.length - (intOf iv).toNat)
  case atStart => exact ⟨0, Nat.zero_le _, rfl, (fun i h h2 => by omega), (fun i h h2 => by omega), Upd.refl _ _⟩
  case round =>
    obtain ⟨n, hn, rfl, hA, hB, hw⟩ := hrel
    by_cases hlt : n < l.length
    · have hlt1 : (n : Int) < l.length := by omega
      have hn9 : (n : Int) ≤ 8 := by omega
      have hn0 : decide ((n : Int) < 0) = false := decide_eq_false (by omega)
      rcases HC.out with hnil | ⟨b, off, rfl, _, hcell⟩
      · simp [hnil] at hlt
      have c0 : ∀ j : Later wr, j.1.cell? ⟨b, off + n, none⟩ = some (.string ⟨(l[n]).toArray⟩) := fun j => nw_cellF (hw.out.trans j.nw) (hcell n hlt).1
      have hnm := Lib.hid (fun z (uz : Nw wr z) => Name_r (l[n]) (hcell n hlt).2 z)
      have HB1 := Lib.hid (ascN_no1 hlt)
      have HA1 : Hid (nameB l[n] = true → ∀ i (h : i < l.length), i < n + 1 → nameB l[i] = true) := fun e i h h2 => by
        by_cases ei : i = n
        · subst ei; exact e
        · exact hA.out i h (by omega)
      by_cases h0 : n = 0
      · subst h0
        have c1 : ∀ j : Later wr, j.1.cell? ⟨b, off, none⟩ = some (.string ⟨(l[0]).toArray⟩) := c0
        clear hcell c0
        generalize l[0] = s at *
        cases hs : nameB s with
        | true =>
          rw [hs] at hnm HA1
          have HA2 := Lib.hid (HA1.out rfl)
          go_wp2_with fail
          refine wp_region_nw (by kernel_rfl) (by kernel_rfl) ?_
          repeat (go_big_quiet_step ((go_at_call 64; exact later_call (hnm.out _ (Later.nw _)))))
          refine wpQuiet_nil ?_
          intro w3 u3
          replace u3 := later_out u3
          have hw3 := Lib.hid (hw.out.trans u3)
          clear u3 c1
          go_wp2_with fail
          go_roundw
          case rel => exact ⟨1, by omega, by go_num, HA2.out, (fun i h h2 => by omega), hw3.out⟩
          case measure => simp [intOf]; omega
        | false =>
          rw [hs] at hnm HB1
          have HB2 := Lib.hid (HB1.out rfl)
          go_wp2_with fail
          refine wp_region_nw (by kernel_rfl) (by kernel_rfl) ?_
          repeat (go_big_quiet_step ((go_at_call 64; exact later_call (hnm.out _ (Later.nw _)))))
          refine wpQuiet_nil ?_
          intro w3 u3
          replace u3 := later_out u3
          have hw3 := Lib.hid (hw.out.trans u3)
          clear u3 c1
          go_wp2_with fail
          go_ret
          exact ⟨by rw [HB2.out]; rfl, hw3.out⟩
      · obtain ⟨m, rfl⟩ : ∃ m, n = m + 1 := ⟨n - 1, by omega⟩
        have c1 : ∀ j : Later wr, j.1.cell? ⟨b, off + m, none⟩ = some (.string ⟨(l[m]'(by omega)).toArray⟩) := fun j => nw_cellF (hw.out.trans j.nw) (hcell m (by omega)).1
        have hcast : ((m + 1 : Nat) : Int) = (m : Int) + 1 := by omega
        have hm0 : decide ((m : Int) < 0) = false := decide_eq_false (by omega)
        have hm9 : (m : Int) ≤ 7 := by omega
        have hmp : (0 : Int) ≤ (m : Int) := by omega
        have hml : (m : Int) < l.length := by omega
        have HL1 := Lib.hid (ascN_no2 hlt)
        have HL2 : Hid (Op.bytesLess (l[m]'(by omega)) l[m + 1] = true → ∀ i (h : i + 1 < l.length), i + 1 < m + 1 + 1 → Op.bytesLess (l[i]'(by omega)) l[i + 1] = true) := fun e i h h2 => by
          by_cases ei : i = m
          · subst ei; exact e
          · exact hB.out i h (by omega)
        clear hcell
        generalize (l[m]'(by omega)) = sp at *
        generalize l[m + 1] = s at *
        cases hs : nameB s with
        | false =>
          rw [hs] at hnm HB1
          have HB2 := Lib.hid (HB1.out rfl)
          go_wp2_with fail
          refine wp_region_nw (by kernel_rfl) (by kernel_rfl) ?_
          repeat (go_big_quiet_step ((go_at_call 64; exact later_call (hnm.out _ (Later.nw _)))))
          refine wpQuiet_nil ?_
          intro w3 u3
          replace u3 := later_out u3
          have hw3 := Lib.hid (hw.out.trans u3)
          clear u3 c0 c1
          go_wp2_with fail
          go_ret
          exact ⟨by rw [HB2.out]; rfl, hw3.out⟩
        | true =>
          rw [hs] at hnm HA1
          have HA2 := Lib.hid (HA1.out rfl)
          cases hlt2 : Op.bytesLess sp s with
          | true =>
            rw [hlt2] at HL2
            have HB3 := Lib.hid (HL2.out rfl)
            go_wp2_with fail
            refine wp_region_nw (by kernel_rfl) (by kernel_rfl) ?_
            repeat (go_big_quiet_step ((go_at_call 64; exact later_call (hnm.out _ (Later.nw _)))))
            refine wpQuiet_nil ?_
            intro w3 u3
            replace u3 := later_out u3
            have hw3 := Lib.hid (hw.out.trans u3)
            clear u3 c0 c1
            go_wp2_with fail
            go_roundw
            case rel => exact ⟨m + 1 + 1, by omega, by go_num, HA2.out, HB3.out, hw3.out⟩
            case measure => simp [intOf]; omega
          | false =>
            rw [hlt2] at HL1
            have HB4 := Lib.hid (HL1.out rfl)
            go_wp2_with fail
            refine wp_region_nw (by kernel_rfl) (by kernel_rfl) ?_
            repeat (go_big_quiet_step ((go_at_call 64; exact later_call (hnm.out _ (Later.nw _)))))
            refine wpQuiet_nil ?_
            intro w3 u3
            replace u3 := later_out u3
            have hw3 := Lib.hid (hw.out.trans u3)
            clear u3 c0 c1
            go_wp2_with fail
            go_ret
            exact ⟨by rw [HB4.out]; rfl, hw3.out⟩
    · obtain rfl : n = l.length := by omega
      have e := Lib.hid (ascN_yes (fun i h => hA.out i h h) (fun i h => hB.out i h h))
      go_wp2_with fail
      go_ret
      exact ⟨by rw [e.out]; rfl, hw.out⟩
end Go.Proofs.YtjlgmoemnhmgmaaGreatDoor
namespace Go.Proofs.YtjlgmoemnhmgmaaGreatDoor
open Go.RowKit
set_option linter.unusedVariables false
set_option linter.unusedSimpArgs false
attribute [local irreducible] Calls
open Fm (Ty Vl Str nameB rightTy rightVl letterB digitB wordB)

/-- A slice of the call's own with names. -/
theorem strC_owns {w : World} {base n : Nat} {a : Option Addr} {cap : Nat} {l : List Str} (h : w.ownsRow base 9 1 (.slice a n cap) n (l.map sF)) (hl : ∀ s ∈ l, s.length ≤ maxLen) : n = l.length ∧ StrC w a l := by
  obtain ⟨a', cap', e, hm, hc⟩ := (Sl.of_owns h).open_
  rw [List.length_map] at e hm
  injection e with e1 e2 e3
  subst e1
  refine ⟨e2, ?_⟩
  rcases hc with ⟨_, _, h0⟩ | ⟨b, off, rfl, _, _, hb, hcl⟩
  · exact Or.inl (List.map_eq_nil_iff.1 h0)
  · refine Or.inr ⟨b, off, rfl, hb, fun i hi => ⟨?_, hl _ (List.getElem_mem hi)⟩⟩
    rw [hcl i (by simpa using hi), List.getElem?_map, List.getElem?_eq_getElem hi]; rfl
theorem fdc_len {w : World} {a : Option Addr} {l : List (Str × Ty)} (h : FdC w a l) : ∀ s ∈ l.map (·.1), s.length ≤ maxLen := fun s hs => by
  obtain ⟨f, hf, rfl⟩ := List.mem_map.1 hs
  rcases h with rfl | ⟨b, off, _, _, hc⟩
  · cases hf
  · obtain ⟨i, hi, rfl⟩ := List.mem_iff_getElem.1 hf
    obtain ⟨sv, _, _, _, _, h5⟩ := hc i hi
    exact h5
theorem right_eq {d : Nat} {t : Ty} : rightTy (d + 1) t = (decide (0 ≤ t.kind) && decide (t.kind ≤ 2) && (decide (t.kind = 2) || t.fs.isEmpty) && decide (t.fs.length ≤ 8) && ascN (t.fs.map (·.1)) && t.fs.all (fun f => rightTy d f.2)) := by
  rw [Bool.eq_iff_iff, Fm.rt_iff]
  unfold ascN
  simp only [Bool.and_eq_true, decide_eq_true_eq, Bool.or_eq_true, List.all_eq_true, List.mem_map, List.isEmpty_iff]
  constructor
  · intro h
    exact ⟨⟨⟨⟨⟨h.k0, by have := h.k3; omega⟩, by by_cases e : t.kind = 2; exact Or.inl e; exact Or.inr (h.rec_ e)⟩, h.len⟩, fun x hx => by obtain ⟨f, hf, rfl⟩ := hx; exact h.name f hf, h.asc⟩, h.sub⟩
  · rintro ⟨⟨⟨⟨⟨h1, h2⟩, h4⟩, h3⟩, h7, h5⟩, h6⟩
    exact ⟨h1, by omega, h3, fun e => h4.resolve_left e, h5, fun f hf => h7 _ ⟨f, hf, rfl⟩, h6⟩
theorem within_r (n : Int) (w : World) : Calls Tryz.prog 120 #[.int .i64 n, .int .i64 0, .int .i64 2] w fun e w' => e = .returned (.bool (decide (0 ≤ n) && decide (n ≤ 2))) ∧ w = w' := by
  by_cases h1 : 0 ≤ n
  · by_cases h2 : n ≤ 2
    · have d1 : decide (n ≤ 2) = true := decide_eq_true h2
      have d0 : decide (0 ≤ n) = true := decide_eq_true h1
      go_enter Tryz.func120, Tryz.ntmps120
      go_wp2_with fail
      go_ret
      exact ⟨by first | rfl | (rw [d0, d1]; rfl), rfl⟩
    · have d1 : decide (n ≤ 2) = false := decide_eq_false h2
      have d0 : decide (0 ≤ n) = true := decide_eq_true h1
      have h3 : 2 < n := by omega
      go_enter Tryz.func120, Tryz.ntmps120
      go_wp2_with fail
      go_ret
      exact ⟨by first | rfl | (rw [d0, d1]; rfl), rfl⟩
  · have d0 : decide (0 ≤ n) = false := decide_eq_false h1
    have h3 : n < 0 := by omega
    go_enter Tryz.func120, Tryz.ntmps120
    go_wp2_with fail
    go_ret
    exact ⟨by first | rfl | (rw [d0]; rfl), rfl⟩
set_option maxHeartbeats 4000000 in
set_option maxRecDepth 100000 in
theorem shape_r : ∀ (d : Nat), d ≤ 4 → ∀ (t : Ty) (fv : Value) (w : World), nG ≤ w.heap.size → TyAt w fv t →
    Calls Tryz.prog 109 #[.agg #[.int .i64 t.kind, fv], .int .i64 (d : Int)] w fun e w' => e = .returned (.bool (rightTy d t)) ∧ Nw w w' := by
  intro d
  induction d with
  | zero =>
    intro _ t fv w hgb ht
    obtain ⟨fa, fc, rfl, -, -⟩ := ht.cells
    have HN := Lib.hid (nw_alloc w (.cells #[.int .i64 t.kind, .slice fa t.fs.length fc] tTy))
    change Calls Tryz.prog 109 #[.agg #[.int .i64 t.kind, .slice fa t.fs.length fc], .int .i64 0] w _
    go_enter Tryz.func109, Tryz.ntmps109
    go_wp2_with fail
    go_ret
    exact ⟨rfl, HN.out⟩
  | succ d ih =>
    intro hd t fv w hgb ht
    have IH := Lib.hid (ih (by omega))
    obtain ⟨fa, fc, rfl, hfl, hfc⟩ := ht.cells
    have HFC : Hid (FdC w fa t.fs) := hfc
    have n1 := nw_alloc w (.cells #[.int .i64 t.kind, .slice fa t.fs.length fc] tTy)
    have b1 := heap_new w (.cells #[.int .i64 t.kind, .slice fa t.fs.length fc] tTy)
    obtain ⟨W, hW⟩ : ∃ W, W = w.alloc (.cells #[.int .i64 t.kind, .slice fa t.fs.length fc] tTy) := ⟨_, rfl⟩
    rw [← hW] at n1 b1
    have HW := Lib.hid hW
    have HN := Lib.hid n1
    have HC : Hid (∀ y, Nw W y → y.cell? ⟨w.heap.size, 0, none⟩ = some (.int .i64 t.kind) ∧ y.cell? ⟨w.heap.size, 1, none⟩ = some (.slice fa t.fs.length fc)) := fun y u => ⟨by rw [cells_cell (Nw.keep u b1)]; rfl, by rw [cells_cell (Nw.keep u b1)]; rfl⟩
    have HGB : Hid (nG ≤ W.heap.size) := Nat.le_trans hgb n1.size
    obtain ⟨x0, x1⟩ := HC.out W (Upd.refl _ _)
    have hd0 : (((d : Int) + 1) == 0) = false := by simp; omega
    have hd6 : (d : Int) ≤ 6 := by omega
    have hdp : (0 : Int) ≤ (d : Int) := by omega
    have hcast : ((d + 1 : Nat) : Int) = (d : Int) + 1 := by omega
    have HE := Lib.hid (right_eq (d := d) (t := t))
    have hwi := Lib.hid (within_r t.kind W)
    rw [hcast]
    clear ih ht hfc n1 b1 hW hgb
    cases hk : (decide (0 ≤ t.kind) && decide (t.kind ≤ 2)) with
    | false =>
      rw [hk] at hwi
      have e : Hid (rightTy (d + 1) t = false) := by show _ = _; rw [HE.out, hk]; rfl
      clear hk
      go_enter Tryz.func109, Tryz.ntmps109
      go_upto_region 1 with fail
      rw [← HW.out]
      clear HW
      go_wp2_with fail
      (with_reducible refine (hwi.out).mono ?_)
      rintro _ _ ⟨rfl, rfl⟩
      go_wp2_with fail
      go_ret
      exact ⟨by rw [e.out]; rfl, HN.out⟩
    | true =>
    rw [hk] at hwi
    have HK := Lib.hid hk
    clear hk
    by_cases hb : t.kind ≠ 2 ∧ t.fs ≠ []
    · have hk2 : (t.kind == 2) = false := by simp; exact hb.1
      have hk3 : (t.kind != 2) = true := by simp; exact hb.1
      have hlp1 : decide (0 < t.fs.length) = true := decide_eq_true (by have : t.fs.length ≠ 0 := fun e => hb.2 (List.length_eq_zero_iff.1 e); omega)
      have e : Hid (rightTy (d + 1) t = false) := by
        show _ = _
        rw [HE.out, HK.out, decide_eq_false hb.1, show t.fs.isEmpty = false by cases h : t.fs with | nil => exact absurd h hb.2 | cons x r => rfl]; rfl
      clear hb
      go_enter Tryz.func109, Tryz.ntmps109
      go_upto_region 1 with fail
      rw [← HW.out]
      clear HW
      go_wp2_with fail
      (with_reducible refine (hwi.out).mono ?_)
      rintro _ _ ⟨rfl, rfl⟩
      go_wp2_with fail
      go_ret
      exact ⟨by rw [e.out]; rfl, HN.out⟩
    by_cases hk2' : t.kind = 2
    · have hk2 : (t.kind == 2) = true := by simp; exact hk2'
      have hk3 : (t.kind != 2) = false := by simp; exact hk2'
      have e2 : Hid (rightTy (d + 1) t = (decide (t.fs.length ≤ 8) && ascN (t.fs.map (·.1)) && t.fs.all (fun f => rightTy d f.2))) := by
        show _ = _
        rw [HE.out, HK.out, decide_eq_true hk2']; simp
      clear hb hk2' HE HK
      by_cases h8 : 8 < t.fs.length
      · have h8' : (8 : Int) < t.fs.length := by omega
        have e : Hid (rightTy (d + 1) t = false) := by
          show _ = _
          rw [e2.out, decide_eq_false (show ¬ t.fs.length ≤ 8 by omega)]; simp
        clear e2
        go_enter Tryz.func109, Tryz.ntmps109
        go_upto_region 1 with fail
        rw [← HW.out]
        clear HW
        go_wp2_with fail
        (with_reducible refine (hwi.out).mono ?_)
        rintro _ _ ⟨rfl, rfl⟩
        go_wp2_with fail
        go_ret
        exact ⟨by rw [e.out]; rfl, HN.out⟩
      have h8' : (t.fs.length : Int) ≤ 8 := by omega
      have e3 : Hid (rightTy (d + 1) t = (ascN (t.fs.map (·.1)) && t.fs.all (fun f => rightTy d f.2))) := by
        show _ = _
        rw [e2.out, decide_eq_true (show t.fs.length ≤ 8 by omega)]; simp
      clear e2
      have hlab := Lib.hid (labels_r fa fc t.fs W HGB.out (FdC.nw HFC.out HN.out) (by omega))
      go_enter Tryz.func109, Tryz.ntmps109
      go_upto_region 1 with fail
      rw [← HW.out]
      clear HW
      go_wp2_with fail
      (with_reducible refine (hwi.out).mono ?_)
      rintro _ _ ⟨rfl, rfl⟩
      go_wp2_with fail
      (with_reducible refine (hlab.out).mono ?_)
      rintro _ w2 ⟨lv, rfl, HL⟩
      obtain ⟨oa, oc, rfl⟩ := own_slF HL.out.1
      obtain ⟨-, hst⟩ := strC_owns HL.out.1 (fdc_len HFC.out)
      have hasc := ascending_r oa oc (t.fs.map (·.1)) w2 hst (by rw [List.length_map]; omega)
      rw [List.length_map] at hasc
      have HASC := Lib.hid hasc
      have U2 := Lib.hid HL.out.2
      clear hst hasc x0 x1 hlab
      obtain ⟨x0, x1⟩ := HC.out w2 U2.out
      cases has : ascN (t.fs.map (·.1)) with
      | false =>
        rw [has] at HASC
        have e : Hid (rightTy (d + 1) t = false) := by show _ = _; rw [e3.out, has]; rfl
        clear has
        go_wp2_with fail
        (with_reducible refine (HASC.out).mono ?_)
        rintro _ w3 ⟨rfl, u3⟩
        have U3 := Lib.hid (U2.out.trans u3)
        clear u3
        go_wp2_with fail
        go_ret
        exact ⟨by rw [e.out]; rfl, HN.out.trans U3.out⟩
      | true =>
      rw [has] at HASC
      have e4 : Hid (rightTy (d + 1) t = t.fs.all (fun f => rightTy d f.2)) := by show _ = _; rw [e3.out, has]; rfl
      clear has e3
      go_wp2_with fail
      (with_reducible refine (HASC.out).mono ?_)
      rintro _ w3 ⟨rfl, u3⟩
      have U3 := Lib.hid (U2.out.trans u3)
      clear u3 x0 x1
      go_wp2_with fail
      go_loopw [5] (fun iv wr => ∃ n : Nat, n ≤ t.fs.length ∧ iv = .int .i64 (n : Int) ∧ Hid (∀ i (h : i < t.fs.length), i < n → rightTy d (t.fs[i]).2 = true) ∧ Hid (Nw W wr)) (fun iv _ => t.fs.length - (intOf iv).toNat)
      case atStart => exact ⟨0, Nat.zero_le _, rfl, (fun i h h2 => by omega), U3.out⟩
      case round =>
        obtain ⟨n, hn, rfl, hA, hw⟩ := hrel
        obtain ⟨x0, x1⟩ := HC.out wr hw.out
        by_cases hlt : n < t.fs.length
        · have hlt1 : (n : Int) < t.fs.length := by omega
          have hn9 : (n : Int) ≤ 8 := by omega
          have hn0 : decide ((n : Int) < 0) = false := decide_eq_false (by omega)
          rcases HFC.out with hnil | ⟨b, off, rfl, hb, hcell⟩
          · rw [hnil] at hlt; simp at hlt
          obtain ⟨sv, p0, p1, p2, hty, hsl⟩ := hcell n hlt
          obtain ⟨sa, sc, hsv, -⟩ := hty.cells
          subst hsv
          have y1 := nw_cellF (HN.out.trans hw.out) p1
          have y2 := nw_cellF (HN.out.trans hw.out) p2
          have hrec := Lib.hid (IH.out _ _ wr (Nat.le_trans HGB.out hw.out.size) (hty.nw (HN.out.trans hw.out)))
          have hnx : Hid (rightTy d (t.fs[n]).2 = true → ∀ i (h : i < t.fs.length), i < n + 1 → rightTy d (t.fs[i]).2 = true) := fun e i h h2 => by
            by_cases ei : i = n
            · subst ei; exact e
            · exact hA.out i h (by omega)
          have hst : Hid (rightTy d (t.fs[n]).2 = false → rightTy (d + 1) t = false) := fun e => by
            rw [e4.out]
            exact List.all_eq_false.2 ⟨_, List.getElem_mem hlt, by rw [e]; simp⟩
          clear hcell p0 p1 p2 hty hsl
          generalize (t.fs[n]).2 = ft at *
          cases hr : rightTy d ft with
          | true =>
            rw [hr] at hrec hnx
            have hB := Lib.hid (hnx.out rfl)
            clear hr hnx hst
            go_wp2_with fail
            (with_reducible refine (hrec.out).mono ?_)
            rintro _ w4 ⟨rfl, u4⟩
            have U4 := Lib.hid (hw.out.trans u4)
            clear u4
            go_wp2_with fail
            go_roundw
            case rel => exact ⟨n + 1, by omega, by go_num, hB.out, U4.out⟩
            case measure => simp [intOf]; omega
          | false =>
            rw [hr] at hrec hst
            have e := Lib.hid (hst.out rfl)
            clear hr hnx hst
            go_wp2_with fail
            (with_reducible refine (hrec.out).mono ?_)
            rintro _ w4 ⟨rfl, u4⟩
            have U4 := Lib.hid (hw.out.trans u4)
            clear u4
            go_wp2_with fail
            go_ret
            exact ⟨by rw [e.out]; rfl, HN.out.trans U4.out⟩
        · obtain rfl : n = t.fs.length := by omega
          have e : Hid (rightTy (d + 1) t = true) := by
            show _ = _
            rw [e4.out]
            exact List.all_eq_true.2 (fun x hx => by obtain ⟨i, hi, rfl⟩ := List.mem_iff_getElem.1 hx; exact hA.out i hi hi)
          go_wp2_with fail
          go_ret
          exact ⟨by rw [e.out]; rfl, HN.out.trans hw.out⟩
    · have hk2 : (t.kind == 2) = false := by simp; exact hk2'
      have hk3 : (t.kind != 2) = true := by simp; exact hk2'
      have hnil : t.fs = [] := by
        by_cases h : t.fs = []
        · exact h
        · exact absurd ⟨hk2', h⟩ hb
      have hlp1 : decide (0 < t.fs.length) = false := decide_eq_false (by rw [hnil]; simp)
      have e2 : Hid (rightTy (d + 1) t = (decide (t.fs.length ≤ 8) && ascN (t.fs.map (·.1)) && t.fs.all (fun f => rightTy d f.2))) := by
        show _ = _
        rw [HE.out, HK.out, decide_eq_false hk2', hnil]; simp
      clear hb hk2' hnil HE HK
      by_cases h8 : 8 < t.fs.length
      · have h8' : (8 : Int) < t.fs.length := by omega
        have e : Hid (rightTy (d + 1) t = false) := by
          show _ = _
          rw [e2.out, decide_eq_false (show ¬ t.fs.length ≤ 8 by omega)]; simp
        clear e2
        go_enter Tryz.func109, Tryz.ntmps109
        go_upto_region 1 with fail
        rw [← HW.out]
        clear HW
        go_wp2_with fail
        (with_reducible refine (hwi.out).mono ?_)
        rintro _ _ ⟨rfl, rfl⟩
        go_wp2_with fail
        go_ret
        exact ⟨by rw [e.out]; rfl, HN.out⟩
      have h8' : (t.fs.length : Int) ≤ 8 := by omega
      have e3 : Hid (rightTy (d + 1) t = (ascN (t.fs.map (·.1)) && t.fs.all (fun f => rightTy d f.2))) := by
        show _ = _
        rw [e2.out, decide_eq_true (show t.fs.length ≤ 8 by omega)]; simp
      clear e2
      have hlab := Lib.hid (labels_r fa fc t.fs W HGB.out (FdC.nw HFC.out HN.out) (by omega))
      go_enter Tryz.func109, Tryz.ntmps109
      go_upto_region 1 with fail
      rw [← HW.out]
      clear HW
      go_wp2_with fail
      (with_reducible refine (hwi.out).mono ?_)
      rintro _ _ ⟨rfl, rfl⟩
      go_wp2_with fail
      (with_reducible refine (hlab.out).mono ?_)
      rintro _ w2 ⟨lv, rfl, HL⟩
      obtain ⟨oa, oc, rfl⟩ := own_slF HL.out.1
      obtain ⟨-, hst⟩ := strC_owns HL.out.1 (fdc_len HFC.out)
      have hasc := ascending_r oa oc (t.fs.map (·.1)) w2 hst (by rw [List.length_map]; omega)
      rw [List.length_map] at hasc
      have HASC := Lib.hid hasc
      have U2 := Lib.hid HL.out.2
      clear hst hasc x0 x1 hlab
      obtain ⟨x0, x1⟩ := HC.out w2 U2.out
      cases has : ascN (t.fs.map (·.1)) with
      | false =>
        rw [has] at HASC
        have e : Hid (rightTy (d + 1) t = false) := by show _ = _; rw [e3.out, has]; rfl
        clear has
        go_wp2_with fail
        (with_reducible refine (HASC.out).mono ?_)
        rintro _ w3 ⟨rfl, u3⟩
        have U3 := Lib.hid (U2.out.trans u3)
        clear u3
        go_wp2_with fail
        go_ret
        exact ⟨by rw [e.out]; rfl, HN.out.trans U3.out⟩
      | true =>
      rw [has] at HASC
      have e4 : Hid (rightTy (d + 1) t = t.fs.all (fun f => rightTy d f.2)) := by show _ = _; rw [e3.out, has]; rfl
      clear has e3
      go_wp2_with fail
      (with_reducible refine (HASC.out).mono ?_)
      rintro _ w3 ⟨rfl, u3⟩
      have U3 := Lib.hid (U2.out.trans u3)
      clear u3 x0 x1
      go_wp2_with fail
      go_loopw [5] (fun iv wr => ∃ n : Nat, n ≤ t.fs.length ∧ iv = .int .i64 (n : Int) ∧ Hid (∀ i (h : i < t.fs.length), i < n → rightTy d (t.fs[i]).2 = true) ∧ Hid (Nw W wr)) (fun iv _ => t.fs.length - (intOf iv).toNat)
      case atStart => exact ⟨0, Nat.zero_le _, rfl, (fun i h h2 => by omega), U3.out⟩
      case round =>
        obtain ⟨n, hn, rfl, hA, hw⟩ := hrel
        obtain ⟨x0, x1⟩ := HC.out wr hw.out
        by_cases hlt : n < t.fs.length
        · have hlt1 : (n : Int) < t.fs.length := by omega
          have hn9 : (n : Int) ≤ 8 := by omega
          have hn0 : decide ((n : Int) < 0) = false := decide_eq_false (by omega)
          rcases HFC.out with hnil | ⟨b, off, rfl, hb, hcell⟩
          · rw [hnil] at hlt; simp at hlt
          obtain ⟨sv, p0, p1, p2, hty, hsl⟩ := hcell n hlt
          obtain ⟨sa, sc, hsv, -⟩ := hty.cells
          subst hsv
          have y1 := nw_cellF (HN.out.trans hw.out) p1
          have y2 := nw_cellF (HN.out.trans hw.out) p2
          have hrec := Lib.hid (IH.out _ _ wr (Nat.le_trans HGB.out hw.out.size) (hty.nw (HN.out.trans hw.out)))
          have hnx : Hid (rightTy d (t.fs[n]).2 = true → ∀ i (h : i < t.fs.length), i < n + 1 → rightTy d (t.fs[i]).2 = true) := fun e i h h2 => by
            by_cases ei : i = n
            · subst ei; exact e
            · exact hA.out i h (by omega)
          have hst : Hid (rightTy d (t.fs[n]).2 = false → rightTy (d + 1) t = false) := fun e => by
            rw [e4.out]
            exact List.all_eq_false.2 ⟨_, List.getElem_mem hlt, by rw [e]; simp⟩
          clear hcell p0 p1 p2 hty hsl
          generalize (t.fs[n]).2 = ft at *
          cases hr : rightTy d ft with
          | true =>
            rw [hr] at hrec hnx
            have hB := Lib.hid (hnx.out rfl)
            clear hr hnx hst
            go_wp2_with fail
            (with_reducible refine (hrec.out).mono ?_)
            rintro _ w4 ⟨rfl, u4⟩
            have U4 := Lib.hid (hw.out.trans u4)
            clear u4
            go_wp2_with fail
            go_roundw
            case rel => exact ⟨n + 1, by omega, by go_num, hB.out, U4.out⟩
            case measure => simp [intOf]; omega
          | false =>
            rw [hr] at hrec hst
            have e := Lib.hid (hst.out rfl)
            clear hr hnx hst
            go_wp2_with fail
            (with_reducible refine (hrec.out).mono ?_)
            rintro _ w4 ⟨rfl, u4⟩
            have U4 := Lib.hid (hw.out.trans u4)
            clear u4
            go_wp2_with fail
            go_ret
            exact ⟨by rw [e.out]; rfl, HN.out.trans U4.out⟩
        · obtain rfl : n = t.fs.length := by omega
          have e : Hid (rightTy (d + 1) t = true) := by
            show _ = _
            rw [e4.out]
            exact List.all_eq_true.2 (fun x hx => by obtain ⟨i, hi, rfl⟩ := List.mem_iff_getElem.1 hx; exact hA.out i hi hi)
          go_wp2_with fail
          go_ret
          exact ⟨by rw [e.out]; rfl, HN.out.trans hw.out⟩
set_option maxRecDepth 100000 in
theorem RightType_r (fv : Value) (t : Ty) (w : World) (hgb : nG ≤ w.heap.size) (ht : TyAt w fv t) :
    Calls Tryz.prog 83 #[.agg #[.int .i64 t.kind, fv]] w fun e w' => e = .returned (.bool (rightTy 4 t)) ∧ Nw w w' := by
  obtain ⟨fa, fc, rfl, -, -⟩ := ht.cells
  have n1 := nw_alloc w (.cells #[.int .i64 t.kind, .slice fa t.fs.length fc] tTy)
  have b1 := heap_new w (.cells #[.int .i64 t.kind, .slice fa t.fs.length fc] tTy)
  obtain ⟨W, hW⟩ : ∃ W, W = w.alloc (.cells #[.int .i64 t.kind, .slice fa t.fs.length fc] tTy) := ⟨_, rfl⟩
  rw [← hW] at n1 b1
  have HW := Lib.hid hW
  have HN := Lib.hid n1
  have x0 : W.cell? ⟨w.heap.size, 0, none⟩ = some (.int .i64 t.kind) := by rw [cells_cell b1]; rfl
  have x1 : W.cell? ⟨w.heap.size, 1, none⟩ = some (.slice fa t.fs.length fc) := by rw [cells_cell b1]; rfl
  have hr : Hid (Calls Tryz.prog 109 #[.agg #[.int .i64 t.kind, .slice fa t.fs.length fc], .int .i64 4] W fun e w' => e = .returned (.bool (rightTy 4 t)) ∧ Nw W w') := shape_r 4 (Nat.le_refl _) t _ W (Nat.le_trans hgb n1.size) (ht.nw n1)
  clear n1 b1 hW ht hgb
  go_enter Tryz.func83, Tryz.ntmps83
  go_upto_region 1 with fail
  rw [← HW.out]
  clear HW
  go_wp2_with fail
  (with_reducible refine (hr.out).mono ?_)
  rintro _ w2 ⟨rfl, u2⟩
  have U2 := Lib.hid (HN.out.trans u2)
  clear u2
  go_wp2_with fail
  go_ret
  exact ⟨rfl, U2.out⟩
set_option maxRecDepth 100000 in
theorem tyRight_r (fv : Value) (t : Ty) (w : World) (hgb : nG ≤ w.heap.size) (ht : TyAt w fv t) :
    Calls Tryz.prog 65 #[.agg #[.int .i64 t.kind, fv]] w fun e w' => e = .returned (.bool (rightTy 4 t)) ∧ Nw w w' := by
  obtain ⟨fa, fc, rfl, -, -⟩ := ht.cells
  have n1 := nw_alloc w (.cells #[.int .i64 t.kind, .slice fa t.fs.length fc] tTy)
  have b1 := heap_new w (.cells #[.int .i64 t.kind, .slice fa t.fs.length fc] tTy)
  obtain ⟨W, hW⟩ : ∃ W, W = w.alloc (.cells #[.int .i64 t.kind, .slice fa t.fs.length fc] tTy) := ⟨_, rfl⟩
  rw [← hW] at n1 b1
  have HW := Lib.hid hW
  have HN := Lib.hid n1
  have x0 : W.cell? ⟨w.heap.size, 0, none⟩ = some (.int .i64 t.kind) := by rw [cells_cell b1]; rfl
  have x1 : W.cell? ⟨w.heap.size, 1, none⟩ = some (.slice fa t.fs.length fc) := by rw [cells_cell b1]; rfl
  have hr := Lib.hid (RightType_r _ t W (Nat.le_trans hgb n1.size) (ht.nw n1))
  clear n1 b1 hW ht hgb
  go_enter Tryz.func65, Tryz.ntmps65
  go_upto_region 1 with fail
  rw [← HW.out]
  clear HW
  go_wp2_with fail
  (with_reducible refine (hr.out).mono ?_)
  rintro _ w2 ⟨rfl, u2⟩
  have U2 := Lib.hid (HN.out.trans u2)
  clear u2
  go_wp2_with fail
  go_ret
  exact ⟨rfl, U2.out⟩
end Go.Proofs.YtjlgmoemnhmgmaaGreatDoor
