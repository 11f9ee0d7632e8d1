/- Names and right types. -/
import Derived.Test.YtcelfjoopagmlaaGreatDoorPkFKChains8
import Derived.Test.YtcelfjoopagmlaaGreatDoorPkFKChains6
namespace Go.Proofs.YtcelfjoopagmlaaGreatDoor
open Go.RowKit
set_option linter.unusedVariables false
set_option linter.unusedSimpArgs false
attribute [local irreducible] Calls
open Fm (Ty Vl Str nameB wordB letterB digitB)

/-- The library's variables as laid, and one of its numbers, whatever it is. -/
structure Gm (w : World) : Prop where
  g : Gl w
  m : ∃ m : Int, w.cell? ⟨1, 0, none⟩ = some (.int .i64 m)
theorem Gm.upd {w w' : World} (h : Gm w) (u : Nw w w') : Gm w' := by
  obtain ⟨m, hm⟩ := h.m
  exact ⟨h.g.upd u, m, later_cell ⟨w', u⟩ hm⟩
theorem letter_c (c : UInt8) (w : World) : Calls Tryz.prog 125 #[.int .u8 c.toNat] w fun e w' => e = .returned (.bool (letterB c)) ∧ w = w' := by
  have h1 : (c.toNat : Int) ≤ 255 := by have := c.toNat_lt; omega
  have h2 : (0 : Int) ≤ c.toNat := by omega
  have hr : Hid (letterB c = (decide (97 ≤ c.toNat) && decide (c.toNat ≤ 122))) := rfl
  by_cases ha : 97 ≤ c.toNat
  · have d1 : decide ((97 : Int) ≤ (c.toNat : Int)) = true := decide_eq_true (by omega)
    by_cases hb : c.toNat ≤ 122
    · have d2 : decide ((c.toNat : Int) ≤ 122) = true := decide_eq_true (by omega)
      have e : Hid (letterB c = true) := by show _ = _; rw [hr.out, decide_eq_true ha, decide_eq_true hb]; rfl
      clear ha hb hr
      go_enter Tryz.func125, Tryz.ntmps125
      go_wp2_with fail
      go_ret
      exact ⟨by rw [e.out]; rfl, rfl⟩
    · have d2 : decide ((c.toNat : Int) ≤ 122) = false := decide_eq_false (by omega)
      have e : Hid (letterB c = false) := by show _ = _; rw [hr.out, decide_eq_true ha, decide_eq_false hb]; rfl
      clear ha hb hr
      go_enter Tryz.func125, Tryz.ntmps125
      go_wp2_with fail
      go_ret
      exact ⟨by rw [e.out]; rfl, rfl⟩
  · have d1 : decide ((97 : Int) ≤ (c.toNat : Int)) = false := decide_eq_false (by omega)
    have e : Hid (letterB c = false) := by show _ = _; rw [hr.out, decide_eq_false ha]; rfl
    clear ha hr
    go_enter Tryz.func125, Tryz.ntmps125
    go_wp2_with fail
    go_ret
    exact ⟨by rw [e.out]; rfl, rfl⟩
theorem digit_c (c : UInt8) (w : World) : Calls Tryz.prog 128 #[.int .u8 c.toNat] w fun e w' => e = .returned (.bool (digitB c)) ∧ w = w' := by
  have h1 : (c.toNat : Int) ≤ 255 := by have := c.toNat_lt; omega
  have h2 : (0 : Int) ≤ c.toNat := by omega
  have hr : Hid (digitB c = (decide (48 ≤ c.toNat) && decide (c.toNat ≤ 57))) := rfl
  by_cases ha : 48 ≤ c.toNat
  · have d1 : decide ((48 : Int) ≤ (c.toNat : Int)) = true := decide_eq_true (by omega)
    by_cases hb : c.toNat ≤ 57
    · have d2 : decide ((c.toNat : Int) ≤ 57) = true := decide_eq_true (by omega)
      have e : Hid (digitB c = true) := by show _ = _; rw [hr.out, decide_eq_true ha, decide_eq_true hb]; rfl
      clear ha hb hr
      go_enter Tryz.func128, Tryz.ntmps128
      go_wp2_with fail
      go_ret
      exact ⟨by rw [e.out]; rfl, rfl⟩
    · have d2 : decide ((c.toNat : Int) ≤ 57) = false := decide_eq_false (by omega)
      have e : Hid (digitB c = false) := by show _ = _; rw [hr.out, decide_eq_true ha, decide_eq_false hb]; rfl
      clear ha hb hr
      go_enter Tryz.func128, Tryz.ntmps128
      go_wp2_with fail
      go_ret
      exact ⟨by rw [e.out]; rfl, rfl⟩
  · have d1 : decide ((48 : Int) ≤ (c.toNat : Int)) = false := decide_eq_false (by omega)
    have e : Hid (digitB c = false) := by show _ = _; rw [hr.out, decide_eq_false ha]; rfl
    clear ha hr
    go_enter Tryz.func128, Tryz.ntmps128
    go_wp2_with fail
    go_ret
    exact ⟨by rw [e.out]; rfl, rfl⟩
theorem wordf_c (c : UInt8) (w : World) : Calls Tryz.prog 127 #[.int .u8 c.toNat] w fun e w' => e = .returned (.bool (letterB c || digitB c)) ∧ w = w' := by
  have hl := Lib.hid (letter_c c w)
  have hd := Lib.hid (digit_c c w)
  cases h1 : letterB c with
  | true =>
    rw [h1] at hl
    clear h1
    go_enter Tryz.func127, Tryz.ntmps127
    go_wp2_with fail
    (with_reducible refine (hl.out).mono ?_)
    rintro _ _ ⟨rfl, rfl⟩
    go_wp2_with fail
    go_ret
    exact ⟨rfl, rfl⟩
  | false =>
    rw [h1] at hl
    clear h1
    go_enter Tryz.func127, Tryz.ntmps127
    go_wp2_with fail
    (with_reducible refine (hl.out).mono ?_)
    rintro _ _ ⟨rfl, rfl⟩
    go_wp2_with fail
    (with_reducible refine (hd.out).mono ?_)
    rintro _ _ ⟨rfl, rfl⟩
    go_wp2_with fail
    go_ret
    exact ⟨rfl, rfl⟩
theorem tw_all {p : UInt8 → Bool} : ∀ {s : Str}, (∀ x ∈ s, p x = true) → s.takeWhile p = s := by
  intro s
  induction s with
  | nil => intro _; rfl
  | cons a s ih =>
    intro h
    rw [List.takeWhile_cons, h a (List.mem_cons_self ..)]
    simp [ih (fun x hx => h x (List.mem_cons_of_mem _ hx))]
theorem tw_mem {p : UInt8 → Bool} : ∀ {s : Str}, ∀ x ∈ s.takeWhile p, p x = true := by
  intro s
  induction s with
  | nil => intro x hx; cases hx
  | cons a s ih =>
    intro x hx
    rw [List.takeWhile_cons] at hx
    split at hx
    · next h =>
      rcases List.mem_cons.1 hx with rfl | hx
      · exact h
      · exact ih x hx
    · cases hx
/-- How many bytes at the beginning meet a test. -/
def spanN (p : UInt8 → Bool) (s : Str) : Nat := (s.takeWhile p).length
theorem span_at {p : UInt8 → Bool} {s : Str} {n : Nat} (hn : n < s.length) (ha : ∀ j (h : j < s.length), j < n → p s[j] = true) (hp : p s[n] = false) : spanN p s = n := by
  unfold spanN
  have e : s = s.take n ++ s[n] :: s.drop (n + 1) := by rw [List.getElem_cons_drop, List.take_append_drop]
  have h1 : ∀ x ∈ s.take n, p x = true := fun x hx => by
    obtain ⟨j, hj, rfl⟩ := List.mem_iff_getElem.1 hx
    rw [List.length_take] at hj
    rw [List.getElem_take]
    exact ha j (by omega) (by omega)
  rw [e, List.takeWhile_append_of_pos h1, List.takeWhile_cons, hp]
  simp
  omega
theorem span_all {p : UInt8 → Bool} {s : Str} (ha : ∀ j (h : j < s.length), p s[j] = true) : spanN p s = s.length := by
  unfold spanN
  rw [tw_all (fun x hx => by obtain ⟨j, hj, rfl⟩ := List.mem_iff_getElem.1 hx; exact ha j hj)]
theorem span_eq {p : UInt8 → Bool} {s : Str} : decide (spanN p s = s.length) = s.all p := by
  unfold spanN
  rw [Bool.eq_iff_iff, decide_eq_true_iff, List.all_eq_true]
  constructor
  · intro h x hx
    have := (List.takeWhile_sublist p).eq_of_length h
    rw [← this] at hx
    exact tw_mem x hx
  · intro h
    rw [tw_all h]
set_option maxRecDepth 100000 in
theorem span_c (s : Str) (hs : s.length ≤ 1000000) (w : World) : Calls Tryz.prog 126 #[.string ⟨s.toArray⟩, .func (.func 127) #[] #[]] w fun e w' => e = .returned (.int .i64 (spanN (fun c => letterB c || digitB c) s)) ∧ w = w' := by
  have hs1 : (s.length : Int) ≤ 1000000 := by omega
  go_enter Tryz.func126, Tryz.ntmps126
  go_wp2_with fail
  go_loopw [5] (fun i wr => ∃ n : Nat, n ≤ s.length ∧ i = .int .i64 (n : Int) ∧ Hid (∀ j (h : j < s.length), j < n → (letterB s[j] || digitB s[j]) = true) ∧ w = wr) (fun i _ => s.length - (intOf i).toNat)
  case atStart => exact ⟨0, Nat.zero_le _, rfl, fun j _ h => absurd h (Nat.not_lt_zero _), rfl⟩
  case round =>
    obtain ⟨n, hn, rfl, HA, rfl⟩ := hrel
    by_cases hlt : n < s.length
    · have hlt1 : (n : Int) < s.length := by omega
      have hsz : n < (⟨s.toArray⟩ : ByteArray).size := by show n < s.toArray.size; simp; exact hlt
      have hf := Lib.hid (wordf_c ((⟨s.toArray⟩ : ByteArray)[n]'hsz) w)
      cases hb : (letterB s[n] || digitB s[n]) with
      | true =>
        have hz : Hid (∀ j (h : j < s.length), j < n + 1 → (letterB s[j] || digitB s[j]) = true) := fun j h hj => by
          by_cases ej : j = n
          · subst ej; exact hb
          · exact HA.out j h (by omega)
        have hb2 : (letterB ((⟨s.toArray⟩ : ByteArray)[n]'hsz) || digitB ((⟨s.toArray⟩ : ByteArray)[n]'hsz)) = true := hb
        rw [hb2] at hf
        clear hb hb2
        go_wp2_with fail
        (with_reducible refine (hf.out).mono ?_)
        rintro _ _ ⟨rfl, rfl⟩
        go_wp2_with fail
        go_roundw
        case rel => exact ⟨n + 1, by omega, by go_num, hz.out, by first | rfl | trivial⟩
        case measure => simp [intOf]; omega
      | false =>
        have hz : Hid (spanN (fun c => letterB c || digitB c) s = n) := span_at hlt HA.out hb
        have hb2 : (letterB ((⟨s.toArray⟩ : ByteArray)[n]'hsz) || digitB ((⟨s.toArray⟩ : ByteArray)[n]'hsz)) = false := hb
        rw [hb2] at hf
        clear hb hb2
        go_wp2_with fail
        (with_reducible refine (hf.out).mono ?_)
        rintro _ _ ⟨rfl, rfl⟩
        go_wp2_with fail
        go_ret
        exact ⟨by rw [hz.out]; rfl, rfl⟩
    · obtain rfl : n = s.length := by omega
      have hz : Hid (spanN (fun c => letterB c || digitB c) s = s.length) := span_all (fun j h => HA.out j h h)
      go_wp2_with fail
      go_ret
      exact ⟨by rw [hz.out]; rfl, rfl⟩
set_option maxRecDepth 100000 in
theorem Word_c (s : Str) (hs : s.length ≤ maxLen) (w : World) : Calls Tryz.prog 112 #[.string ⟨s.toArray⟩] w fun e w' => e = .returned (.bool (wordB s)) ∧ w = w' := by
  cases s with
  | nil =>
    have e : Hid (wordB [] = false) := rfl
    go_enter Tryz.func112, Tryz.ntmps112
    go_wp2_with fail
    go_ret
    exact ⟨rfl, rfl⟩
  | cons c r =>
    have hsz : 0 < (⟨(c :: r).toArray⟩ : ByteArray).size := by show 0 < (c :: r).toArray.size; simp
    have hf := Lib.hid (letter_c ((⟨(c :: r).toArray⟩ : ByteArray)[0]'hsz) w)
    have hsp : (c :: r).length ≤ 20 → Hid (Calls Tryz.prog 126 #[.string ⟨(c :: r).toArray⟩, .func (.func 127) #[] #[]] w fun e w' => e = .returned (.int .i64 (spanN (fun c => letterB c || digitB c) (c :: r))) ∧ w = w') := fun h => span_c (c :: r) (by omega) w
    have hbs : (⟨(c :: r).toArray⟩ : ByteArray).isEmpty = false := rfl
    have hdef : wordB (c :: r) = (letterB c && decide ((c :: r).length ≤ 20) && (c :: r).all (fun c => letterB c || digitB c)) := rfl
    rw [← span_eq] at hdef
    have HD := Lib.hid hdef
    have e0 : ((c :: r : Str) == []) = false := rfl
    have e2 : ((c :: r : Str).isEmpty) = false := rfl
    unfold maxLen at hs
    have hs1 : ((c :: r).length : Int) ≤ 9223372036854775807 := by omega
    clear hdef
    cases h1 : letterB c with
    | false =>
      have h1' : letterB ((⟨(c :: r).toArray⟩ : ByteArray)[0]'hsz) = false := h1
      rw [h1'] at hf
      have e : Hid (wordB (c :: r) = false) := by show _ = _; rw [HD.out, h1]; rfl
      clear h1 h1' HD hsp
      generalize hX : (c :: r : Str) = X at *
      go_enter Tryz.func112, Tryz.ntmps112
      go_wp2_with fail
      (with_reducible refine (hf.out).mono ?_)
      rintro _ _ ⟨rfl, rfl⟩
      go_wp2_with fail
      go_ret
      exact ⟨by rw [e.out]; rfl, rfl⟩
    | true =>
      have h1' : letterB ((⟨(c :: r).toArray⟩ : ByteArray)[0]'hsz) = true := h1
      rw [h1'] at hf
      by_cases h2 : (c :: r).length ≤ 20
      · have d2 : decide ((20 : Int) < ((c :: r).length : Nat)) = false := decide_eq_false (by omega)
        have hs2 := hsp h2
        have e : Hid (wordB (c :: r) = decide (spanN (fun c => letterB c || digitB c) (c :: r) = (c :: r).length)) := by show _ = _; rw [HD.out, h1, decide_eq_true h2]; rfl
        clear h1 h1' HD hsp
        generalize hX : (c :: r : Str) = X at *
        generalize hsn : spanN (fun c => letterB c || digitB c) X = sn at *
        have e3 : ((sn : Int) == (X.length : Int)) = decide (sn = X.length) := by rw [Bool.eq_iff_iff]; simp; omega
        go_enter Tryz.func112, Tryz.ntmps112
        go_wp2_with fail
        (with_reducible refine (hf.out).mono ?_)
        rintro _ _ ⟨rfl, rfl⟩
        go_wp2_with fail
        (with_reducible refine (hs2.out).mono ?_)
        rintro _ _ ⟨rfl, rfl⟩
        go_wp2_with fail
        go_ret
        exact ⟨by rw [e.out]; first | rfl | (rw [← e3]; rfl), rfl⟩
      · have d2 : decide ((20 : Int) < ((c :: r).length : Nat)) = true := decide_eq_true (by omega)
        have e : Hid (wordB (c :: r) = false) := by show _ = _; rw [HD.out, h1, decide_eq_false h2]; rfl
        clear h1 h1' HD hsp h2
        generalize hX : (c :: r : Str) = X at *
        go_enter Tryz.func112, Tryz.ntmps112
        go_wp2_with fail
        (with_reducible refine (hf.out).mono ?_)
        rintro _ _ ⟨rfl, rfl⟩
        go_wp2_with fail
        go_ret
        exact ⟨by rw [e.out]; rfl, rfl⟩
set_option maxRecDepth 100000 in
theorem Name_c (s : Str) (hs : s.length ≤ maxLen) (w : World) (g : Gm w) : Calls Tryz.prog 95 #[.string ⟨s.toArray⟩] w fun e w' => e = .returned (.bool (nameB s)) ∧ Nw w w' := by
  obtain ⟨m, hm⟩ := g.m
  have hw := Lib.hid (Word_c s hs w)
  have hdef : nameB s = (wordB s && !Lib.contains Fm.reservedL ([32] ++ s ++ [32])) := rfl
  have HD := Lib.hid hdef
  have hcon : Hid (Calls Tryz.prog 113 #[.string ⟨#[32, 97, 110, 100, 32, 98, 97, 99, 107, 32, 98, 111, 111, 108, 32, 99, 108, 111, 99, 107, 32, 101, 108, 115, 101, 32, 102, 97, 108, 115, 101, 32, 102, 105, 108, 101, 115, 32, 102, 110, 32, 102, 111, 114, 119, 97, 114, 100, 32, 103, 101, 116, 32, 105, 102, 32, 105, 110, 32, 105, 110, 116, 32, 108, 101, 116, 32, 109, 111, 100, 117, 108, 101, 32, 109, 111, 118, 101, 32, 110, 101, 116, 32, 110, 111, 116, 32, 111, 114, 32, 112, 117, 98, 32, 115, 101, 99, 114, 101, 116, 115, 32, 115, 101, 116, 32, 116, 104, 101, 110, 32, 116, 114, 117, 101, 32, 117, 115, 101, 32, 118, 97, 114, 32]⟩, .string ({ data := #[32] } ++ { data := List.toArray s } ++ { data := #[32] })] w fun e w' => e = .returned (.bool (Lib.contains Fm.reservedL ([32] ++ s ++ [32]))) ∧ w' = w) := by
    have := Tryz.strings_Contains ⟨Fm.reservedL.toArray⟩ ({ data := #[32] } ++ { data := List.toArray s } ++ { data := #[32] }) m w (by decide) hm
    have e : (({ data := #[32] } ++ { data := List.toArray s } ++ { data := #[32] } : ByteArray)).data.toList = [32] ++ s ++ [32] := by simp
    rw [e] at this
    exact this
  clear hdef g
  cases h1 : wordB s with
  | false =>
    rw [h1] at hw
    have e : Hid (nameB s = false) := by show _ = _; rw [HD.out, h1]; rfl
    clear h1
    go_enter Tryz.func95, Tryz.ntmps95
    go_wp2_with fail
    (with_reducible refine (hw.out).mono ?_)
    rintro _ _ ⟨rfl, rfl⟩
    go_wp2_with fail
    go_ret
    exact ⟨by rw [e.out]; rfl, Upd.refl _ _⟩
  | true =>
    have hl := Fm.word_len h1
    have hl1 : (s.length : Int) ≤ 20 := by omega
    rw [h1] at hw
    have e : Hid (nameB s = !Lib.contains Fm.reservedL ([32] ++ s ++ [32])) := by show _ = _; rw [HD.out, h1]; rfl
    clear h1
    go_enter Tryz.func95, Tryz.ntmps95
    go_wp2_with fail
    (with_reducible refine (hw.out).mono ?_)
    rintro _ _ ⟨rfl, rfl⟩
    go_wp2_with fail
    generalize Lib.contains Fm.reservedL ([32] ++ s ++ [32]) = cb at *
    (with_reducible refine (hcon.out).mono ?_)
    rintro _ _ ⟨rfl, rfl⟩
    go_wp2_with fail
    go_ret
    exact ⟨by rw [e.out]; rfl, Upd.refl _ _⟩
end Go.Proofs.YtcelfjoopagmlaaGreatDoor
