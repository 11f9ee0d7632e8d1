/- The contracts of the reference's reader (layer 1): it does what the plain reader does. -/
import Derived.Test.YtjjdmmhlcdfplaaDoorRefE
import Derived.Test.YtjjdmmhlcdfplaaDoorRdrA
import Derived.Test.YtjjdmmhlcdfplaaDoorWireNum
namespace Go.Proofs.YtjjdmmhlcdfplaaDoor
open Go.RowKit
set_option linter.unusedVariables false
set_option linter.unusedSimpArgs false
attribute [local irreducible] Calls
abbrev tQ : TypeId := 109

set_option maxHeartbeats 400000 in
theorem fail_q (b : Nat) (st : Wire.St) (w : World) (h : Rdr tQ w b st) :
    Calls Tryd.prog 69 #[.pointer (some ⟨b, 0, none⟩)] w fun e w' => e = .returned (.int .i64 0) ∧ Rdr tQ w' b none ∧ Upd (· = b) w w' := by
  have c0 := h.c0
  have c1 := h.c1
  have f0 := h.fz 0
  have f1 := h.fz 1
  go_enter Tryd.func69, Tryd.ntmps69
  go_wp2
  go_ret
  exact ⟨rfl, h.set_fail, ((Upd.refl _ _).set1 h.1 _ _).set1 h.1 _ _⟩
def BackPost (l : List UInt8) (w : World) (e : Ending) (w' : World) : Prop :=
  ∃ (n : Int) (ok : Bool), e = .returned (.tuple #[.int .i64 n, .bool ok]) ∧ I64 n ∧ (ok = true → Wire.numOf l = some n) ∧ (ok = false → Wire.numOf l = none) ∧ Nw w w'
theorem byte_list {s : ByteArray} {l : List UInt8} (hs : s.data.toList = l) (k : Nat) (h : k < s.size) : ∃ hk : k < l.length, s[k] = l[k] := by
  subst hs
  exact ⟨by rw [← bs_size]; exact h, by show s.data[k] = _; simp⟩
theorem back_cmp {s : ByteArray} {l : List UInt8} (hs : s.data.toList = l) (n : Int) : (Wire.intE n == (s ++ { data := #[59] }).toList) = decide (Lib.itoa n = l) := by
  rw [bs_toList, bs_append_list, hs]
  apply Bool.eq_iff_iff.2
  simp [Wire.intE]
theorem back_end {s : ByteArray} {l : List UInt8} {w w1 : World} {a n : Int} (hs : s.data.toList = l) (h : Wire.backGo 0 (Wire.backFrom l) (l.drop (Wire.backFrom l)) = some a) (hn : (if Wire.backFrom l = 0 then wrap64 (-a) else a) = n) (hi : I64 n) (u : Nw w w1) :
    BackPost l w (.returned (.tuple #[.int .i64 n, .bool (Wire.intE n == (s ++ { data := #[59] }).toList)])) w1 := by
  have h2 := Wire.back_some h hn hi (fun v h0 h1 => itoa_le ⟨h0, h1⟩)
  refine ⟨n, _, rfl, hi, ?_, ?_, u⟩
  · intro hb
    rw [back_cmp hs] at hb
    rw [h2, if_pos (of_decide_eq_true hb)]
  · intro hb
    rw [back_cmp hs] at hb
    rw [h2, if_neg (of_decide_eq_false hb)]
set_option maxHeartbeats 800000 in
theorem Back_q (s : ByteArray) (l : List UInt8) (hs : s.data.toList = l) (w : World) (hl : l.length ≤ 140737488351232) :
    Calls Tryd.prog 99 #[.string s] w (BackPost l w) := by
  have Hl := Lib.hid hs
  have hz : s.size ≤ 140737488351232 := by rw [bs_size, hs]; exact hl
  by_cases h0 : 0 < s.size
  · obtain ⟨h0l, h0c⟩ := byte_list hs 0 h0
    by_cases hc : l[0] = 45
    · have hf : Wire.backFrom l = 1 := by
        cases l with
        | nil => simp at h0l
        | cons c r => simp at hc; simp [Wire.backFrom, hc]
      have Hf := Lib.hid hf; clear hf
      have hcb : (((s[0]).toNat : Int) == 45) = true := by rw [h0c, hc]; rfl
      clear hs h0c hc
      go_enter Tryd.func99, Tryd.ntmps99
      go_wp2_with fail
      go_loop [5, 6] (fun n i => ∃ (k : Nat) (a : Int), k ≤ s.size ∧ i = .int .i64 k ∧ n = .int .i64 a ∧ -9223372036854775808 ≤ a ∧ a ≤ 9223372036854775807 ∧ Hid (Wire.backGo 0 1 (l.drop 1) = Wire.backGo a k (l.drop k))) (fun _ i => s.size - (intOf i).toNat)
      case atStart => exact ⟨1, 0, by omega, rfl, rfl, by omega, by omega, rfl⟩
      case round =>
        obtain ⟨k, a, hk, rfl, rfl, ha0, ha1, hB⟩ := hrel
        by_cases hlt : k < s.size
        · obtain ⟨hkl, hc⟩ := byte_list Hl.out k hlt
          have hdrop := Lib.hid (List.drop_eq_getElem_cons hkl)
          rw [← hc] at hdrop
          clear hc
          have hcb : s[k].toNat ≤ 255 := by have := s[k].toNat_lt; omega
          by_cases hbad : s[k].toNat < 48 ∨ 57 < s[k].toNat ∨ 20 < k
          · have hno : Hid (Wire.numOf l = none) := by
              refine Wire.back_none (l := l) ?_ (fun v h0 h1 => itoa_le ⟨h0, h1⟩)
              rw [Hf.out, hB.out, hdrop.out]
              exact if_pos hbad
            go_wp2_with fail
            all_goals go_ret2
            all_goals exact ⟨0, false, rfl, (by unfold I64; omega), (fun h => by cases h), (fun _ => hno.out), Upd.refl _ _⟩
          · have hgo : Hid (Wire.backGo 0 1 (l.drop 1) = Wire.backGo (wrap64 (wrap64 (10 * a) - ((s[k].toNat : Int) - 48))) (k + 1) (l.drop (k + 1))) := by
              rw [hB.out, hdrop.out]
              exact if_neg hbad
            go_wp2_with fail
            refine ⟨⟨k + 1, _, by omega, by go_num, rfl, ?_, ?_, hgo⟩, by simp [intOf]; omega⟩
            · unfold wrap64; omega
            · unfold wrap64; omega
        · have hB2 : Hid (Wire.backGo 0 1 (l.drop 1) = some a) := by
            rw [hB.out, List.drop_of_length_le (by rw [← Hl.out, ← bs_size]; omega)]; rfl
          go_wp2_with fail
          (with_reducible refine (Int_q _ _ (by unfold I64; omega)).mono ?_)
          rintro _ w1 ⟨rfl, u1⟩
          go_wp2_with fail
          go_ret2
          exact back_end Hl.out (by rw [Hf.out]; exact hB2.out) (by rw [Hf.out]; rfl) (by unfold I64; omega) u1
    · have hf : Wire.backFrom l = 0 := by
        cases l with
        | nil => rfl
        | cons c r => simp at hc; simp [Wire.backFrom, hc]
      have Hf := Lib.hid hf; clear hf
      have hcb : (((s[0]).toNat : Int) == 45) = false := by
        rw [h0c, beq_eq_false_iff_ne]
        intro e
        exact hc (UInt8.toNat_inj.1 (by have : l[0].toNat = 45 := by omega
                                        rw [this]; rfl))
      clear hs h0c hc
      go_enter Tryd.func99, Tryd.ntmps99
      go_wp2_with fail
      go_loop [5, 6] (fun n i => ∃ (k : Nat) (a : Int), k ≤ s.size ∧ i = .int .i64 k ∧ n = .int .i64 a ∧ -9223372036854775808 ≤ a ∧ a ≤ 9223372036854775807 ∧ Hid (Wire.backGo 0 0 (l.drop 0) = Wire.backGo a k (l.drop k))) (fun _ i => s.size - (intOf i).toNat)
      case atStart => exact ⟨0, 0, by omega, rfl, rfl, by omega, by omega, rfl⟩
      case round =>
        obtain ⟨k, a, hk, rfl, rfl, ha0, ha1, hB⟩ := hrel
        by_cases hlt : k < s.size
        · obtain ⟨hkl, hc⟩ := byte_list Hl.out k hlt
          have hdrop := Lib.hid (List.drop_eq_getElem_cons hkl)
          rw [← hc] at hdrop
          clear hc
          have hcb : s[k].toNat ≤ 255 := by have := s[k].toNat_lt; omega
          by_cases hbad : s[k].toNat < 48 ∨ 57 < s[k].toNat ∨ 20 < k
          · have hno : Hid (Wire.numOf l = none) := by
              refine Wire.back_none (l := l) ?_ (fun v h0 h1 => itoa_le ⟨h0, h1⟩)
              rw [Hf.out, hB.out, hdrop.out]
              exact if_pos hbad
            go_wp2_with fail
            all_goals go_ret2
            all_goals exact ⟨0, false, rfl, (by unfold I64; omega), (fun h => by cases h), (fun _ => hno.out), Upd.refl _ _⟩
          · have hgo : Hid (Wire.backGo 0 0 (l.drop 0) = Wire.backGo (wrap64 (wrap64 (10 * a) - ((s[k].toNat : Int) - 48))) (k + 1) (l.drop (k + 1))) := by
              rw [hB.out, hdrop.out]
              exact if_neg hbad
            go_wp2_with fail
            refine ⟨⟨k + 1, _, by omega, by go_num, rfl, ?_, ?_, hgo⟩, by simp [intOf]; omega⟩
            · unfold wrap64; omega
            · unfold wrap64; omega
        · have hB2 : Hid (Wire.backGo 0 0 (l.drop 0) = some a) := by
            rw [hB.out, List.drop_of_length_le (by rw [← Hl.out, ← bs_size]; omega)]; rfl
          go_wp2_with fail
          (with_reducible refine (Int_q _ _ (by unfold I64; (unfold wrap64; omega))).mono ?_)
          rintro _ w1 ⟨rfl, u1⟩
          go_wp2_with fail
          go_ret2
          exact back_end Hl.out (by rw [Hf.out]; exact hB2.out) (by rw [Hf.out]; rfl) (by unfold I64; (unfold wrap64; omega)) u1
  · have hf : Wire.backFrom l = 0 := by
      have : l = [] := List.length_eq_zero_iff.1 (by rw [← hs, ← bs_size]; omega)
      rw [this]; rfl
    have Hf := Lib.hid hf; clear hf
    clear hs
    go_enter Tryd.func99, Tryd.ntmps99
    go_wp2_with fail
    go_loop [5, 6] (fun n i => ∃ (k : Nat) (a : Int), k ≤ s.size ∧ i = .int .i64 k ∧ n = .int .i64 a ∧ -9223372036854775808 ≤ a ∧ a ≤ 9223372036854775807 ∧ Hid (Wire.backGo 0 0 (l.drop 0) = Wire.backGo a k (l.drop k))) (fun _ i => s.size - (intOf i).toNat)
    case atStart => exact ⟨0, 0, by omega, rfl, rfl, by omega, by omega, rfl⟩
    case round =>
      obtain ⟨k, a, hk, rfl, rfl, ha0, ha1, hB⟩ := hrel
      by_cases hlt : k < s.size
      · omega
      · have hB2 : Hid (Wire.backGo 0 0 (l.drop 0) = some a) := by
          rw [hB.out, List.drop_of_length_le (by rw [← Hl.out, ← bs_size]; omega)]; rfl
        go_wp2_with fail
        (with_reducible refine (Int_q _ _ (by unfold I64; (unfold wrap64; omega))).mono ?_)
        rintro _ w1 ⟨rfl, u1⟩
        go_wp2_with fail
        go_ret2
        exact back_end Hl.out (by rw [Hf.out]; exact hB2.out) (by rw [Hf.out]; rfl) (by unfold I64; (unfold wrap64; omega)) u1
set_option maxHeartbeats 800000 in
theorem ahead_q (b : Nat) (st : Wire.St) (c : UInt8) (ci : Int) (hci : ci = c.toNat) (w : World) (h : Rdr tQ w b st) (hl : (st.getD []).length ≤ 9223372036854775807) :
    Calls Tryd.prog 83 #[.pointer (some ⟨b, 0, none⟩), .int .u8 ci] w fun e w' =>
      e = .returned (.int .i64 (Wire.rInt' st c).1) ∧ Rdr tQ w' b (Wire.rInt' st c).2 ∧ Upd (· = b) w w' := by
  subst hci
  have c0 := h.c0
  obtain ⟨s, hs⟩ : ∃ s : ByteArray, (⟨(st.getD []).toArray⟩ : ByteArray) = s := ⟨_, rfl⟩
  have Hs : Hid (s.data.toList = st.getD []) := by rw [← hs]; exact bs_list _
  rw [hs] at c0
  clear hs
  have hz : s.size = (st.getD []).length := by rw [bs_size, Hs.out]
  have Hz := Lib.hid hz
  replace hz : s.size ≤ 9223372036854775807 := by omega
  go_enter Tryd.func83, Tryd.ntmps83
  go_wp2_with fail
  go_loop [5] (fun i => ∃ k : Nat, k ≤ 21 ∧ k ≤ s.size ∧ i = .int .i64 k ∧ Hid (∀ x ∈ (st.getD []).take k, x ≠ c)) (fun i => s.size - (intOf i).toNat)
  case atStart => exact ⟨0, by omega, by omega, rfl, by show ∀ x ∈ _, _; simp⟩
  case round =>
    obtain ⟨k, hk21, hks, rfl, hne⟩ := hrel
    by_cases hlt : k < s.size
    · obtain ⟨hkl, hck⟩ := byte_list Hs.out k hlt
      have Hck := Lib.hid hck; clear hck
      by_cases hc : s[k] = c
      · have hb : ((s[k].toNat : Int) != (c.toNat : Int)) = false := by rw [hc]; simp
        have hat : Hid ((st.getD [])[k]? = some c) := by show _ = _; rw [List.getElem?_eq_getElem hkl, ← Hck.out, hc]
        clear hc
        have hns : st.isNone = false := by cases st with | none => simp at hkl | some r => rfl
        have hx : (s.extract 0 k).data.toList = (st.getD []).take k := by rw [bs_extract_list, Hs.out]; simp
        have Hx := Lib.hid hx; clear hx
        by_cases h21 : k < 21
        · have hsp := Lib.hid (Wire.ahead_at h21 hne.out hat.out)
          go_wp2_with fail
          (with_reducible refine (Back_q (s.extract 0 k) _ Hx.out _ (by simp; omega)).mono ?_)
          rintro _ w1 ⟨n, ok, rfl, hn, hyes, hno, u1⟩
          replace h := h.nw u1
          replace c0 := h.c0
          have c1 := h.c1
          have f0 := h.fz 0
          cases ok with
          | true =>
            replace hsp := Lib.hid (hsp.out.trans (by rw [hyes rfl]))
            go_wp2_with fail
            go_ret
            rw [hsp.out]
            exact ⟨rfl, h.setr _ _ (by rw [hns]; rfl) (by rw [bs_extract_list, bs_list, List.take_of_length_le (by simp <;> omega)]; rfl), Nw.trans u1 ((Upd.refl _ _).set1 h.1 _ _)⟩
          | false =>
            replace hsp := Lib.hid (hsp.out.trans (by rw [hno rfl]))
            go_wp2_with fail
            (with_reducible refine (fail_q b st _ h).mono ?_)
            rintro _ w2 ⟨rfl, h2, u2⟩
            go_wp2_with fail
            go_ret
            rw [hsp.out]
            exact ⟨rfl, h2, Nw.trans u1 u2⟩
        · have hk : k = 21 := by omega
          have hsp := Lib.hid (Wire.ahead_no (st := st) (c := c) (by rw [← hk]; exact hne.out))
          have hln := Lib.hid (Wire.numOf_long (l := (st.getD []).take k) (by rw [List.length_take]; omega))
          clear hk
          go_wp2_with fail
          (with_reducible refine (Back_q (s.extract 0 k) _ Hx.out _ (by simp; omega)).mono ?_)
          rintro _ w1 ⟨n, ok, rfl, hn, hyes, hno, u1⟩
          replace h := h.nw u1
          cases ok with
          | true => have := hyes rfl; rw [hln.out] at this; cases this
          | false =>
            go_wp2_with fail
            (with_reducible refine (fail_q b st _ h).mono ?_)
            rintro _ w2 ⟨rfl, h2, u2⟩
            go_wp2_with fail
            go_ret
            rw [hsp.out]
            exact ⟨rfl, h2, Nw.trans u1 u2⟩
      · have hb : ((s[k].toNat : Int) != (c.toNat : Int)) = true := by
          rw [bne_iff_ne]; intro e; exact hc (UInt8.toNat_inj.1 (by omega))
        by_cases h21 : k < 21
        · have hne' : Hid (∀ x ∈ (st.getD []).take (k + 1), x ≠ c) := by
            intro x hx
            rw [List.take_succ_eq_append_getElem hkl, List.mem_append] at hx
            rcases hx with hx | hx
            · exact hne.out x hx
            · rw [List.mem_singleton] at hx; rw [hx, ← Hck.out]; exact hc
          have Hc := Lib.hid hc; clear hc
          go_wp2_with fail
          exact ⟨⟨k + 1, by omega, by omega, by go_num, hne'⟩, by simp [intOf]; omega⟩
        · have hk : k = 21 := by omega
          have hsp := Lib.hid (Wire.ahead_no (st := st) (c := c) (by rw [← hk]; exact hne.out))
          have Hc := Lib.hid hc; clear hc hk
          go_wp2_with fail
          (with_reducible refine (fail_q b st _ h).mono ?_)
          rintro _ w2 ⟨rfl, h2, u2⟩
          go_wp2_with fail
          go_ret
          rw [hsp.out]
          exact ⟨rfl, h2, u2⟩
    · have hsp := Lib.hid (Wire.ahead_no (st := st) (c := c) (fun x hx => hne.out x (by
        have : (st.getD []).length ≤ k := by rw [← Hz.out]; omega
        rw [List.take_of_length_le this]
        exact List.mem_of_mem_take hx)))
      go_wp2_with fail
      (with_reducible refine (fail_q b st _ h).mono ?_)
      rintro _ w2 ⟨rfl, h2, u2⟩
      go_wp2_with fail
      go_ret
      rw [hsp.out]
      exact ⟨rfl, h2, u2⟩
end Go.Proofs.YtjjdmmhlcdfplaaDoor
