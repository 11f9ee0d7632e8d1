/- The contracts of the reader's methods Num, Int, Text, Left, Done, Rest, and of Open. -/
import Derived.Test.YtjjdmmhlcdfplaaDoorRdrA
namespace Go.Proofs.YtjjdmmhlcdfplaaDoor
open Go.RowKit
set_option linter.unusedVariables false
set_option linter.unusedSimpArgs false
attribute [local irreducible] Calls

theorem Num_r (b : Nat) (st : Wire.St) (w : World) (g : Gl w) (h : Rdr tR w b st) (hl : (st.getD []).length ≤ 9223372036854775807) :
    Calls Tryd.prog 43 #[.pointer (some ⟨b, 0, none⟩)] w fun e w' =>
      e = .returned (.int .i64 (Wire.rNum st).1) ∧ Rdr tR w' b (Wire.rNum st).2 ∧ Upd (· = b) w w' := by
  go_enter Tryd.func43, Tryd.ntmps43
  go_wp2_with fail
  (with_reducible refine (number_c b st 59 59 _ c59 _ g h hl).mono ?_)
  rintro _ w' ⟨rfl, h', u'⟩
  go_wp2_with fail
  go_ret
  exact ⟨rfl, h', u'⟩
set_option maxHeartbeats 400000 in
theorem Text_r (b : Nat) (st : Wire.St) (w : World) (g : Gl w) (h : Rdr tR w b st) (hl : (st.getD []).length ≤ 9223372036854775807) :
    Calls Tryd.prog 41 #[.pointer (some ⟨b, 0, none⟩)] w fun e w' =>
      e = .returned (.string ⟨(Wire.rText st).1.toArray⟩) ∧ Rdr tR w' b (Wire.rText st).2 ∧ Upd (· = b) w w' := by
  have hle := Wire.rNumber_le st 58 0
  have hn0 := Wire.rNumber_least st 58 0 (Int.le_refl 0)
  go_enter Tryd.func41, Tryd.ntmps41
  go_wp2_with fail
  (with_reducible refine (number_c b st 58 58 _ c58 _ g h hl).mono ?_)
  rintro _ w1 ⟨rfl, h1, u1⟩
  cases hq : Wire.rNumber st 58 0 with
  | mk n s1 =>
  rw [hq] at hle hn0 h1
  have Hq := Lib.hid hq; clear hq
  replace hle : (s1.getD []).length ≤ (st.getD []).length := hle
  replace hn0 : 0 ≤ n := hn0
  replace h1 : Rdr tR w1 b s1 := h1
  have c0 := h1.c0
  have c1 := h1.c1
  have f0 := h1.fz 0
  have f1 := h1.fz 1
  by_cases hfar : ((s1.getD []).length : Int) < n
  · go_wp2_with fail
    (with_reducible refine (fail_c b s1 _ h1).mono ?_)
    rintro _ w2 ⟨rfl, h2, u2⟩
    go_wp2_with fail
    go_ret
    have e : Wire.rText st = ([], none) := by
      cases s1 with
      | none => exact Wire.rText_none Hq.out
      | some r => exact Wire.rText_far Hq.out hfar
    rw [e]
    exact ⟨rfl, h2, u1.trans u2⟩
  · have hs1 : s1 = none → n = 0 := fun e => Wire.rNumber_zero (by rw [Hq.out, e])
    have h2 : ∀ s : ByteArray, s.data.toList = (s1.getD []).drop n.toNat → Rdr tR (w1.setCell ⟨b, 0, none⟩ (.string s)) b (s1.map fun r => r.drop n.toNat) := fun s hs => by
      refine h1.setr s _ (by cases s1 <;> rfl) ?_
      rw [hs]
      cases s1 <;> simp
    have Hs1 := Lib.hid hs1; clear hs1
    have H2 := Lib.hid h2; clear h2
    go_wp2_with fail
    (with_reducible refine (close_c b (s1.map fun r => r.drop n.toNat) 44 _ (H2.out _ (by rw [bs_extract_list, bs_list, List.take_of_length_le (by simp)]))).mono ?_)
    rintro _ w3 ⟨rfl, h3, u3⟩
    have d1 := h3.c1
    have hc : Wire.rText st = ((if (Wire.rClose (s1.map fun r => r.drop n.toNat) 44).isNone then [] else (s1.getD []).take n.toNat), Wire.rClose (s1.map fun r => r.drop n.toNat) 44) := by
      cases s1 with
      | none => exact Wire.rText_none Hq.out
      | some r =>
        cases hx : Wire.rClose (some (r.drop n.toNat)) 44 with
        | none => rw [Wire.rText_open Hq.out (by simpa using hfar) hx]; simp [hx]
        | some r' => rw [Wire.rText_ok Hq.out (by simpa using hfar) hx]; simp [hx]
    have Hc := Lib.hid hc; clear hc
    generalize Wire.rClose (s1.map fun r => r.drop n.toNat) 44 = s3 at *
    cases s3 with
    | none =>
      go_wp2_with fail
      go_ret
      rw [Hc.out]
      exact ⟨rfl, h3, u1.trans (((Upd.refl _ _).set1 h1.1 _ _).trans u3)⟩
    | some r3 =>
      go_wp2_with fail
      go_ret
      rw [Hc.out]
      refine ⟨?_, h3, u1.trans (((Upd.refl _ _).set1 h1.1 _ _).trans u3)⟩
      rw [show (Value.string (ByteArray.extract ⟨(s1.getD []).toArray⟩ 0 n.toNat)) = .string ⟨((s1.getD []).take n.toNat).toArray⟩ by rw [bs_extract]; simp]
      rfl
theorem Done_r (b : Nat) (st : Wire.St) (w : World) (h : Rdr tR w b st) :
    Calls Tryd.prog 44 #[.pointer (some ⟨b, 0, none⟩)] w fun e w' => e = .returned (.bool (decide (st = some []))) ∧ w = w' := by
  have c0 := h.c0
  have c1 := h.c1
  rcases st with _ | r
  · go_enter Tryd.func44, Tryd.ntmps44
    go_wp2
    go_ret
    exact ⟨rfl, rfl⟩
  · go_enter Tryd.func44, Tryd.ntmps44
    go_wp2
    go_ret
    refine ⟨?_, rfl⟩
    cases r <;> rfl
theorem Open_r (s : ByteArray) (l : List UInt8) (hs : s.data.toList = l) (w : World) (g : Gl w) :
    Calls Tryd.prog 40 #[.string s] w fun e w' => ∃ b, e = .returned (.pointer (some ⟨b, 0, none⟩)) ∧ w.heap.size ≤ b ∧ Rdr tR w' b (some l) ∧ Nw w w' := by
  go_enter Tryd.func40, Tryd.ntmps40
  go_wp2
  go_ret
  refine ⟨_, rfl, Nat.le_refl _, ⟨g.big, ?_⟩, (Upd.refl _ _).alloc _⟩
  rw [heap_new, ← bs_eta s, hs]
  rfl
end Go.Proofs.YtjjdmmhlcdfplaaDoor
