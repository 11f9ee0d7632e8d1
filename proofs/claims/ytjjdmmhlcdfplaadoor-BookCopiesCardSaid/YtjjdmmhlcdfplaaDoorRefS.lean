/- The contracts of the reference's reader (layer 1), second part: number, Num, Int, close, Text, Tail, Left, Done, Open. -/
import Derived.Test.YtjjdmmhlcdfplaaDoorRefR
namespace Go.Proofs.YtjjdmmhlcdfplaaDoor
open Go.RowKit
set_option linter.unusedVariables false
set_option linter.unusedSimpArgs false
attribute [local irreducible] Calls

theorem numberQ (b : Nat) (st : Wire.St) (c : UInt8) (ci : Int) (hci : ci = c.toNat) (w : World) (h : Rdr tQ w b st) (hl : (st.getD []).length ≤ 9223372036854775807) :
    Calls Tryd.prog 68 #[.pointer (some ⟨b, 0, none⟩), .int .u8 ci] w fun e w' =>
      e = .returned (.int .i64 (Wire.rNumber st c 0).1) ∧ Rdr tQ w' b (Wire.rNumber st c 0).2 ∧ Upd (· = b) w w' := by
  have hz := Lib.hid (Wire.rNumber_zero_eq st c)
  have hci' := Lib.hid hci; clear hci
  go_enter Tryd.func68, Tryd.ntmps68
  go_wp2_with fail
  (with_reducible refine (ahead_q b st c _ hci'.out _ h hl).mono ?_)
  rintro _ w1 ⟨rfl, h1, u1⟩
  generalize Wire.rInt' st c = q at *
  obtain ⟨n, s1⟩ := q
  by_cases hn : n < 0
  · go_wp2_with fail
    (with_reducible refine (fail_q b s1 _ h1).mono ?_)
    rintro _ w2 ⟨rfl, h2, u2⟩
    go_wp2_with fail
    go_ret
    rw [hz.out, if_pos hn]
    exact ⟨rfl, h2, u1.trans u2⟩
  · go_wp2_with fail
    go_ret
    rw [hz.out, if_neg (by omega)]
    exact ⟨rfl, h1, u1⟩
theorem closeQ (b : Nat) (st : Wire.St) (c : UInt8) (ci : Int) (hci : ci = c.toNat) (w : World) (h : Rdr tQ w b st) (hl : (st.getD []).length ≤ 9223372036854775807) :
    Calls Tryd.prog 70 #[.pointer (some ⟨b, 0, none⟩), .int .u8 ci] w fun e w' =>
      e = .returned (.bool (Wire.rClose st c).isSome) ∧ Rdr tQ w' b (Wire.rClose st c) ∧ Upd (· = b) w w' := by
  subst hci
  rcases st with _ | (_ | ⟨d, r⟩)
  · have c0 := h.c0
    have c1 := h.c1
    have f0 := h.fz 0
    go_enter Tryd.func70, Tryd.ntmps70
    go_wp2_with fail
    (with_reducible refine (fail_q b none _ h).mono ?_)
    rintro _ w2 ⟨rfl, h2, u2⟩
    go_wp2_with fail
    go_ret
    exact ⟨rfl, h2, u2⟩
  · have c0 := h.c0
    have c1 := h.c1
    have f0 := h.fz 0
    go_enter Tryd.func70, Tryd.ntmps70
    go_wp2_with fail
    (with_reducible refine (fail_q b (some []) _ h).mono ?_)
    rintro _ w2 ⟨rfl, h2, u2⟩
    go_wp2_with fail
    go_ret
    exact ⟨rfl, h2, u2⟩
  · have c0 := h.c0
    have c1 := h.c1
    have f0 := h.fz 0
    obtain ⟨s, hs⟩ : ∃ s : ByteArray, (⟨(d :: r).toArray⟩ : ByteArray) = s := ⟨_, rfl⟩
    have Hs : Hid (s.data.toList = d :: r) := by rw [← hs]; exact bs_list _
    rw [show (some (d :: r)).getD [] = d :: r from rfl, hs] at c0
    clear hs
    have hz : s.size = r.length + 1 := by rw [bs_size, Hs.out]; rfl
    simp only [Option.getD_some, List.length_cons] at hl
    have h0 : 0 < s.size := by omega
    have hz' : s.size ≤ 9223372036854775807 := by omega
    have Hz := Lib.hid hz; clear hz
    have hd : s[0] = d := by obtain ⟨hk, e⟩ := byte_list Hs.out 0 h0; rw [e]; rfl
    by_cases hc : d = c
    · have hb : ((s[0].toNat : Int) != (c.toNat : Int)) = false := by rw [hd, hc]; simp
      have Hc := Lib.hid hc
      have Hd := Lib.hid hd
      clear hc hd
      go_enter Tryd.func70, Tryd.ntmps70
      go_wp2_with fail
      go_ret
      rw [show Wire.rClose (some (d :: r)) c = some r from if_pos Hc.out]
      exact ⟨rfl, h.setr _ _ rfl (by rw [bs_extract_list, Hs.out, List.take_of_length_le (by have := Hz.out; simp <;> omega)]; rfl), (Upd.refl _ _).set1 h.1 _ _⟩
    · have hb : ((s[0].toNat : Int) != (c.toNat : Int)) = true := by
        rw [hd, bne_iff_ne]; intro e; exact hc (UInt8.toNat_inj.1 (by omega))
      have Hc := Lib.hid hc
      have Hd := Lib.hid hd
      clear hc hd
      go_enter Tryd.func70, Tryd.ntmps70
      go_wp2_with fail
      (with_reducible refine (fail_q b _ _ h).mono ?_)
      rintro _ w2 ⟨rfl, h2, u2⟩
      go_wp2_with fail
      go_ret
      rw [show Wire.rClose (some (d :: r)) c = none from if_neg Hc.out]
      exact ⟨rfl, h2, u2⟩
set_option maxHeartbeats 400000 in
theorem TextQ (b : Nat) (st : Wire.St) (w : World) (h : Rdr tQ w b st) (hl : (st.getD []).length ≤ 9223372036854775807) :
    Calls Tryd.prog 61 #[.pointer (some ⟨b, 0, none⟩)] w fun e w' =>
      e = .returned (.string ⟨(Wire.rText st).1.toArray⟩) ∧ Rdr tQ w' b (Wire.rText st).2 ∧ Upd (· = b) w w' := by
  have hle := Wire.rNumber_le st 58 0
  have hn0 := Wire.rNumber_least st 58 0 (Int.le_refl 0)
  go_enter Tryd.func61, Tryd.ntmps61
  go_wp2_with fail
  (with_reducible refine (numberQ b st 58 58 c58 _ h hl).mono ?_)
  rintro _ w1 ⟨rfl, h1, u1⟩
  cases hq : Wire.rNumber st 58 0 with
  | mk n s1 =>
  rw [hq] at hle hn0 h1
  have Hq := Lib.hid hq; clear hq
  replace hle : (s1.getD []).length ≤ (st.getD []).length := hle
  replace hn0 : 0 ≤ n := hn0
  replace h1 : Rdr tQ w1 b s1 := h1
  have c0 := h1.c0
  have c1 := h1.c1
  have f0 := h1.fz 0
  cases s1 with
  | none =>
    have e := Lib.hid (Wire.rText_none Hq.out)
    go_wp2_with fail
    (with_reducible refine (fail_q b _ _ h1).mono ?_)
    rintro _ w2 ⟨rfl, h2, u2⟩
    go_wp2_with fail
    go_ret
    rw [e.out]
    exact ⟨rfl, h2, u1.trans u2⟩
  | some r =>
    by_cases hfar : (r.length : Int) ≤ n
    · have e : Hid (Wire.rText st = ([], none)) := by
        by_cases hx : (r.length : Int) < n
        · exact Wire.rText_far Hq.out hx
        · refine Wire.rText_open Hq.out (by omega) ?_
          rw [List.drop_of_length_le (by omega)]; rfl
      go_wp2_with fail
      (with_reducible refine (fail_q b _ _ h1).mono ?_)
      rintro _ w2 ⟨rfl, h2, u2⟩
      go_wp2_with fail
      go_ret
      rw [e.out]
      exact ⟨rfl, h2, u1.trans u2⟩
    · replace hle : r.length ≤ (st.getD []).length := hle
      have H2 : Hid (∀ s : ByteArray, s.data.toList = r.drop n.toNat → Rdr tQ (w1.setCell ⟨b, 0, none⟩ (.string s)) b (some (r.drop n.toNat))) := fun s hs => h1.setr s _ rfl hs
      have Hc := Lib.hid (Wire.rText_open Hq.out (by omega))
      have Hy := Lib.hid (fun r' => Wire.rText_ok (r' := r') Hq.out (by omega))
      go_wp2_with fail
      (with_reducible refine (closeQ b (some (r.drop n.toNat)) 44 44 c44 _ (H2.out _ (by rw [bs_extract_list, bs_list, List.take_of_length_le (by simp)])) (by simp; omega)).mono ?_)
      rintro _ w3 ⟨rfl, h3, u3⟩
      generalize Wire.rClose (some (r.drop n.toNat)) 44 = s3 at *
      cases s3 with
      | none =>
        replace Hc := Lib.hid (Hc.out rfl)
        clear Hy
        go_wp2_with fail
        go_ret
        rw [Hc.out]
        exact ⟨rfl, h3, u1.trans (((Upd.refl _ _).set1 h1.1 _ _).trans u3)⟩
      | some r3 =>
        replace Hy := Lib.hid (Hy.out r3 rfl)
        clear Hc
        go_wp2_with fail
        go_ret
        rw [Hy.out]
        exact ⟨ret_bs (by rw [bs_extract_list, bs_list]; simp), h3, u1.trans (((Upd.refl _ _).set1 h1.1 _ _).trans u3)⟩
theorem OpenQ (s : ByteArray) (l : List UInt8) (hs : s.data.toList = l) (w : World) (g : Gl w) :
    Calls Tryd.prog 60 #[.string s] w fun e w' => ∃ b, e = .returned (.pointer (some ⟨b, 0, none⟩)) ∧ w.heap.size ≤ b ∧ Rdr tQ w' b (some l) ∧ Nw w w' := by
  go_enter Tryd.func60, Tryd.ntmps60
  go_wp2
  go_ret
  refine ⟨_, rfl, Nat.le_refl _, ⟨g.big, ?_⟩, (Upd.refl _ _).alloc _⟩
  rw [heap_new, ← bs_eta s, hs]
  rfl
end Go.Proofs.YtjjdmmhlcdfplaaDoor
