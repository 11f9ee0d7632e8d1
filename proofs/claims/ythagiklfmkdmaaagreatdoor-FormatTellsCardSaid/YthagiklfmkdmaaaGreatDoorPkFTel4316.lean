/- The contracts of the reference's encoders (layer 1). The contracts of the reference's reader (layer 1): it does what the plain reader does. The contracts of the reference's reader (layer 1), second part: number, Num, Int, close, Text, Tail, Left, Done, Open. -/
import Derived.Test.YthagiklfmkdmaaaGreatDoorPkFTel430
import Derived.Test.YthagiklfmkdmaaaGreatDoorPkFTel432
namespace Go.Proofs.YthagiklfmkdmaaaGreatDoor
open Go.RowKit
set_option linter.unusedVariables false
set_option linter.unusedSimpArgs false
attribute [local irreducible] Calls

theorem conv1 (w : World) (x : Int) (h0 : 0 ≤ x) (h1 : x < 256) :
    (convert 109 9 (.slice (some ⟨w.heap.size, 0, none⟩) 1 1)).run Tryz.prog (w.alloc (.cells #[.int .u8 x] 5)) = .ok (.string ⟨#[UInt8.ofNat x.toNat]⟩) (w.alloc (.cells #[.int .u8 x] 5)) := by
  refine run_convert_bytes_back (P := Tryz.prog) _ 109 9 5 ⟨w.heap.size, 0, none⟩ 1 [UInt8.ofNat x.toNat] Tryz.underlying109 Tryz.underlying5 Tryz.underlying9 fun j hj => ?_
  have hj0 : j = 0 := by simpa using hj
  subst hj0
  rw [add_plain, cells_cell (heap_new w _)]
  simp
  omega
theorem decDigits_step {u : Nat} (h : ¬ u < 10) : Lib.decDigits u = Lib.decDigits (u / 10) ++ [UInt8.ofNat (48 + u % 10)] := by
  conv => lhs; rw [Lib.decDigits, dif_neg h]
theorem decDigits_len {u : Nat} (h : u ≤ 9223372036854775808) : (Lib.decDigits u).length ≤ 21 := by
  have h2 : I64 (-(u : Int)) := by unfold I64; omega
  have := itoa_le h2
  by_cases h0 : u = 0
  · subst h0; rw [Lib.decDigits_one (by omega)]; simp
  · rw [Lib.itoa_neg u (by omega)] at this; simp at this; omega
set_option maxHeartbeats 400000 in
set_option maxRecDepth 100000 in
theorem digits_q (k : Nat) : ∀ (u : Nat) (n : Int) (w : World), u < k → n = -(u : Int) → u ≤ 9223372036854775808 →
    Calls Tryz.prog 128 #[.int .i64 n] w fun e w' => e = .returned (.string ⟨(Lib.decDigits u).toArray⟩) ∧ Nw w w' := by
  induction k with
  | zero => intro u n w hu; omega
  | succ k ih =>
    intro u n w hu hn hb
    have h0 : n ≤ 0 := by omega
    have h1 : -9223372036854775808 ≤ n := by omega
    have hd : n.tmod 10 = -((u % 10 : Nat) : Int) := by rw [hn, Int.neg_tmod]; rfl
    have hq : n.tdiv 10 = -((u / 10 : Nat) : Int) := by rw [hn, Int.neg_tdiv]; rfl
    have hd0 : -9 ≤ n.tmod 10 := by omega
    have hd1 : n.tmod 10 ≤ 0 := by omega
    have hcv := conv1 w (48 - n.tmod 10) (by omega) (by omega)
    have Hn := Lib.hid hn; clear hn
    have Hb := Lib.hid hb; clear hb
    have Ih := Lib.hid ih; clear ih
    have Hd := Lib.hid hd; clear hd
    have Hq := Lib.hid hq; clear hq
    have Hch : Hid (UInt8.ofNat (48 - n.tmod 10).toNat = UInt8.ofNat (48 + u % 10)) := by
      show _ = _
      rw [Hd.out]; congr 1; omega
    by_cases hs : n > -10
    · go_enter Tryz.func128, Tryz.ntmps128
      go_wp2_with fail
      go_ret
      refine ⟨ret_bs ?_, nw_alloc _ _⟩
      have := Hn.out
      rw [Lib.decDigits_one (by omega), Hch.out, show u % 10 = u by omega]
    · have hlen : (Lib.decDigits (u / 10)).length ≤ 21 := decDigits_len (by have := Hb.out; omega)
      go_enter Tryz.func128, Tryz.ntmps128
      go_wp2_with fail
      (with_reducible refine (Ih.out (u / 10) _ _ (by have := Hn.out; omega) Hq.out (by have := Hb.out; omega)).mono ?_)
      rintro _ w1 ⟨rfl, u1⟩
      go_wp2_with fail
      go_ret
      refine ⟨ret_bs ?_, (nw_alloc _ _).trans u1⟩
      have := Hn.out
      rw [bs_append_list, bs_list, Hch.out, decDigits_step (u := u) (by omega)]
theorem digitsTo_q (u : Nat) (n : Int) (w : World) (hn : n = -(u : Int)) (hb : u ≤ 9223372036854775808) :
    Calls Tryz.prog 128 #[.int .i64 n] w fun e w' => e = .returned (.string ⟨(Lib.decDigits u).toArray⟩) ∧ Nw w w' :=
  digits_q (u + 1) u n w (Nat.lt_succ_self u) hn hb
set_option maxRecDepth 100000 in
theorem Int_q (n : Int) (w : World) (h : I64 n) :
    Calls Tryz.prog 90 #[.int .i64 n] w fun e w' => e = .returned (.string ⟨(Wire.intE n).toArray⟩) ∧ Nw w w' := by
  by_cases hn : n < 0
  · have hl := decDigits_len (u := n.natAbs) (by unfold I64 at h; omega)
    go_enter Tryz.func90, Tryz.ntmps90
    go_wp2_with fail
    (with_reducible refine (digitsTo_q n.natAbs _ _ (by omega) (by unfold I64 at h; omega)).mono ?_)
    rintro _ w1 ⟨rfl, u1⟩
    go_wp2_with fail
    go_ret
    refine ⟨ret_bs ?_, u1⟩
    simp only [bs_append_list, bs_list, Wire.intE, Lib.itoa, if_pos hn]
    rfl
  · have hl := decDigits_len (u := n.toNat) (by unfold I64 at h; omega)
    have h2 : -n = -((n.toNat : Nat) : Int) := by omega
    have H2 := Lib.hid h2; clear h2
    have h3 : -9223372036854775808 ≤ -n ∧ -n ≤ 9223372036854775807 := by unfold I64 at h; omega
    obtain ⟨h4, h5⟩ := h3
    go_enter Tryz.func90, Tryz.ntmps90
    go_wp2_with fail
    (with_reducible refine (digitsTo_q n.toNat _ _ H2.out (by unfold I64 at h; omega)).mono ?_)
    rintro _ w1 ⟨rfl, u1⟩
    go_wp2_with fail
    go_ret
    refine ⟨ret_bs ?_, u1⟩
    simp only [bs_append_list, bs_list, Wire.intE, Lib.itoa, if_neg (show ¬ n < 0 by omega)]
theorem Num_q (n : Int) (w : World) (h : I64 n) :
    Calls Tryz.prog 89 #[.int .i64 n] w fun e w' => e = .returned (.string ⟨(Wire.numE n).toArray⟩) ∧ Nw w w' := by
  by_cases hn : n < 0
  · go_enter Tryz.func89, Tryz.ntmps89
    go_wp2_with fail
    go_ret
    rw [show Wire.numE n = [] from if_pos hn]
    exact ⟨rfl, Upd.refl _ _⟩
  · go_enter Tryz.func89, Tryz.ntmps89
    go_wp2_with fail
    (with_reducible refine (Int_q n _ h).mono ?_)
    rintro _ w1 ⟨rfl, u1⟩
    go_wp2_with fail
    go_ret
    rw [show Wire.numE n = Wire.intE n from if_neg (by omega)]
    exact ⟨rfl, u1⟩
theorem decDigits_pos (u : Nat) : Lib.decDigits u = Lib.itoa (u : Int) := (Lib.itoa_nonneg u).symm
theorem Text_q (s : ByteArray) (l : List UInt8) (hs : s.data.toList = l) (w : World) (h : l.length ≤ 140737488351232) :
    Calls Tryz.prog 92 #[.string s] w fun e w' => e = .returned (.string ⟨(Wire.textE l).toArray⟩) ∧ Nw w w' := by
  have hz := bs_size s
  rw [hs] at hz
  have hl := decDigits_len (u := s.size) (by omega)
  have Hz := Lib.hid hz
  replace hz : s.size ≤ 140737488351232 := by omega
  go_enter Tryz.func92, Tryz.ntmps92
  go_wp2_with fail
  (with_reducible refine (digitsTo_q s.size _ _ rfl (by omega)).mono ?_)
  rintro _ w1 ⟨rfl, u1⟩
  go_wp2_with fail
  go_ret
  refine ⟨ret_bs ?_, u1⟩
  simp only [bs_append_list, bs_list, hs, Hz.out, decDigits_pos]
  rfl
end Go.Proofs.YthagiklfmkdmaaaGreatDoor
namespace Go.Proofs.YthagiklfmkdmaaaGreatDoor
open Go.RowKit
set_option linter.unusedVariables false
set_option linter.unusedSimpArgs false
attribute [local irreducible] Calls
abbrev tQ : TypeId := 130

set_option maxHeartbeats 400000 in
theorem fail_q (b : Nat) (st : Wire.St) (w : World) (h : Rdr tQ w b st) :
    Calls Tryz.prog 162 #[.pointer (some ⟨b, 0, none⟩)] w fun e w' => e = .returned (.int .i64 0) ∧ Rdr tQ w' b none ∧ Upd (· = b) w w' := by
  have c0 := h.c0
  have c1 := h.c1
  have f0 := h.fz 0
  have f1 := h.fz 1
  go_enter Tryz.func162, Tryz.ntmps162
  go_wp2
  go_ret
  exact ⟨rfl, h.set_fail, ((Upd.refl _ _).set1 h.1 _ _).set1 h.1 _ _⟩
def BackPost (l : List UInt8) (w : World) (e : Ending) (w' : World) : Prop :=
  ∃ (n : Int) (ok : Bool), e = .returned (.tuple #[.int .i64 n, .bool ok]) ∧ I64 n ∧ (ok = true → Wire.numOf l = some n) ∧ (ok = false → Wire.numOf l = none) ∧ Nw w w'
theorem byte_list {s : ByteArray} {l : List UInt8} (hs : s.data.toList = l) (k : Nat) (h : k < s.size) : ∃ hk : k < l.length, s[k] = l[k] := by
  subst hs
  exact ⟨by rw [← bs_size]; exact h, by show s.data[k] = _; simp⟩
theorem back_cmp {s : ByteArray} {l : List UInt8} (hs : s.data.toList = l) (n : Int) : (Wire.intE n == (s ++ { data := #[59] }).toList) = decide (Lib.itoa n = l) := by
  rw [bs_toList, bs_append_list, hs]
  apply Bool.eq_iff_iff.2
  simp [Wire.intE]
theorem back_end {s : ByteArray} {l : List UInt8} {w w1 : World} {a n : Int} (hs : s.data.toList = l) (h : Wire.backGo 0 (Wire.backFrom l) (l.drop (Wire.backFrom l)) = some a) (hn : (if Wire.backFrom l = 0 then wrap64 (-a) else a) = n) (hi : I64 n) (u : Nw w w1) :
    BackPost l w (.returned (.tuple #[.int .i64 n, .bool (Wire.intE n == (s ++ { data := #[59] }).toList)])) w1 := by
  have h2 := Wire.back_some h hn hi (fun v h0 h1 => itoa_le ⟨h0, h1⟩)
  refine ⟨n, _, rfl, hi, ?_, ?_, u⟩
  · intro hb
    rw [back_cmp hs] at hb
    rw [h2, if_pos (of_decide_eq_true hb)]
  · intro hb
    rw [back_cmp hs] at hb
    rw [h2, if_neg (of_decide_eq_false hb)]
set_option maxHeartbeats 800000 in
theorem Back_q (s : ByteArray) (l : List UInt8) (hs : s.data.toList = l) (w : World) (hl : l.length ≤ 140737488351232) :
    Calls Tryz.prog 163 #[.string s] w (BackPost l w) := by
  have Hl := Lib.hid hs
  have hz : s.size ≤ 140737488351232 := by rw [bs_size, hs]; exact hl
  by_cases h0 : 0 < s.size
  · obtain ⟨h0l, h0c⟩ := byte_list hs 0 h0
    by_cases hc : l[0] = 45
    · have hf : Wire.backFrom l = 1 := by
        cases l with
        | nil => simp at h0l
        | cons c r => simp at hc; simp [Wire.backFrom, hc]
      have Hf := Lib.hid hf; clear hf
      have hcb : (((s[0]).toNat : Int) == 45) = true := by rw [h0c, hc]; rfl
      clear hs h0c hc
      go_enter Tryz.func163, Tryz.ntmps163
      go_wp2_with fail
      go_loop [5, 6] (fun n i => ∃ (k : Nat) (a : Int), k ≤ s.size ∧ i = .int .i64 k ∧ n = .int .i64 a ∧ -9223372036854775808 ≤ a ∧ a ≤ 9223372036854775807 ∧ Hid (Wire.backGo 0 1 (l.drop 1) = Wire.backGo a k (l.drop k))) (fun _ i => s.size - (intOf i).toNat)
      case atStart => exact ⟨1, 0, by omega, rfl, rfl, by omega, by omega, rfl⟩
      case round =>
        obtain ⟨k, a, hk, rfl, rfl, ha0, ha1, hB⟩ := hrel
        by_cases hlt : k < s.size
        · obtain ⟨hkl, hc⟩ := byte_list Hl.out k hlt
          have hdrop := Lib.hid (List.drop_eq_getElem_cons hkl)
          rw [← hc] at hdrop
          clear hc
          have hcb : s[k].toNat ≤ 255 := by have := s[k].toNat_lt; omega
          by_cases hbad : s[k].toNat < 48 ∨ 57 < s[k].toNat ∨ 20 < k
          · have hno : Hid (Wire.numOf l = none) := by
              refine Wire.back_none (l := l) ?_ (fun v h0 h1 => itoa_le ⟨h0, h1⟩)
              rw [Hf.out, hB.out, hdrop.out]
              exact if_pos hbad
            go_wp2_with fail
            all_goals go_ret2
            all_goals exact ⟨0, false, rfl, (by unfold I64; omega), (fun h => by cases h), (fun _ => hno.out), Upd.refl _ _⟩
          · have hgo : Hid (Wire.backGo 0 1 (l.drop 1) = Wire.backGo (wrap64 (wrap64 (10 * a) - ((s[k].toNat : Int) - 48))) (k + 1) (l.drop (k + 1))) := by
              rw [hB.out, hdrop.out]
              exact if_neg hbad
            go_wp2_with fail
            refine ⟨⟨k + 1, _, by omega, by go_num, rfl, ?_, ?_, hgo⟩, by simp [intOf]; omega⟩
            · unfold wrap64; omega
            · unfold wrap64; omega
        · have hB2 : Hid (Wire.backGo 0 1 (l.drop 1) = some a) := by
            rw [hB.out, List.drop_of_length_le (by rw [← Hl.out, ← bs_size]; omega)]; rfl
          go_wp2_with fail
          (with_reducible refine (Int_q _ _ (by unfold I64; omega)).mono ?_)
          rintro _ w1 ⟨rfl, u1⟩
          go_wp2_with fail
          go_ret2
          exact back_end Hl.out (by rw [Hf.out]; exact hB2.out) (by rw [Hf.out]; rfl) (by unfold I64; omega) u1
    · have hf : Wire.backFrom l = 0 := by
        cases l with
        | nil => rfl
        | cons c r => simp at hc; simp [Wire.backFrom, hc]
      have Hf := Lib.hid hf; clear hf
      have hcb : (((s[0]).toNat : Int) == 45) = false := by
        rw [h0c, beq_eq_false_iff_ne]
        intro e
        exact hc (UInt8.toNat_inj.1 (by have : l[0].toNat = 45 := by omega
                                        rw [this]; rfl))
      clear hs h0c hc
      go_enter Tryz.func163, Tryz.ntmps163
      go_wp2_with fail
      go_loop [5, 6] (fun n i => ∃ (k : Nat) (a : Int), k ≤ s.size ∧ i = .int .i64 k ∧ n = .int .i64 a ∧ -9223372036854775808 ≤ a ∧ a ≤ 9223372036854775807 ∧ Hid (Wire.backGo 0 0 (l.drop 0) = Wire.backGo a k (l.drop k))) (fun _ i => s.size - (intOf i).toNat)
      case atStart => exact ⟨0, 0, by omega, rfl, rfl, by omega, by omega, rfl⟩
      case round =>
        obtain ⟨k, a, hk, rfl, rfl, ha0, ha1, hB⟩ := hrel
        by_cases hlt : k < s.size
        · obtain ⟨hkl, hc⟩ := byte_list Hl.out k hlt
          have hdrop := Lib.hid (List.drop_eq_getElem_cons hkl)
          rw [← hc] at hdrop
          clear hc
          have hcb : s[k].toNat ≤ 255 := by have := s[k].toNat_lt; omega
          by_cases hbad : s[k].toNat < 48 ∨ 57 < s[k].toNat ∨ 20 < k
          · have hno : Hid (Wire.numOf l = none) := by
              refine Wire.back_none (l := l) ?_ (fun v h0 h1 => itoa_le ⟨h0, h1⟩)
              rw [Hf.out, hB.out, hdrop.out]
              exact if_pos hbad
            go_wp2_with fail
            all_goals go_ret2
            all_goals exact ⟨0, false, rfl, (by unfold I64; omega), (fun h => by cases h), (fun _ => hno.out), Upd.refl _ _⟩
          · have hgo : Hid (Wire.backGo 0 0 (l.drop 0) = Wire.backGo (wrap64 (wrap64 (10 * a) - ((s[k].toNat : Int) - 48))) (k + 1) (l.drop (k + 1))) := by
              rw [hB.out, hdrop.out]
              exact if_neg hbad
            go_wp2_with fail
            refine ⟨⟨k + 1, _, by omega, by go_num, rfl, ?_, ?_, hgo⟩, by simp [intOf]; omega⟩
            · unfold wrap64; omega
            · unfold wrap64; omega
        · have hB2 : Hid (Wire.backGo 0 0 (l.drop 0) = some a) := by
            rw [hB.out, List.drop_of_length_le (by rw [← Hl.out, ← bs_size]; omega)]; rfl
          go_wp2_with fail
          (with_reducible refine (Int_q _ _ (by unfold I64; (unfold wrap64; omega))).mono ?_)
          rintro _ w1 ⟨rfl, u1⟩
          go_wp2_with fail
          go_ret2
          exact back_end Hl.out (by rw [Hf.out]; exact hB2.out) (by rw [Hf.out]; rfl) (by unfold I64; (unfold wrap64; omega)) u1
  · have hf : Wire.backFrom l = 0 := by
      have : l = [] := List.length_eq_zero_iff.1 (by rw [← hs, ← bs_size]; omega)
      rw [this]; rfl
    have Hf := Lib.hid hf; clear hf
    clear hs
    go_enter Tryz.func163, Tryz.ntmps163
    go_wp2_with fail
    go_loop [5, 6] (fun n i => ∃ (k : Nat) (a : Int), k ≤ s.size ∧ i = .int .i64 k ∧ n = .int .i64 a ∧ -9223372036854775808 ≤ a ∧ a ≤ 9223372036854775807 ∧ Hid (Wire.backGo 0 0 (l.drop 0) = Wire.backGo a k (l.drop k))) (fun _ i => s.size - (intOf i).toNat)
    case atStart => exact ⟨0, 0, by omega, rfl, rfl, by omega, by omega, rfl⟩
    case round =>
      obtain ⟨k, a, hk, rfl, rfl, ha0, ha1, hB⟩ := hrel
      by_cases hlt : k < s.size
      · omega
      · have hB2 : Hid (Wire.backGo 0 0 (l.drop 0) = some a) := by
          rw [hB.out, List.drop_of_length_le (by rw [← Hl.out, ← bs_size]; omega)]; rfl
        go_wp2_with fail
        (with_reducible refine (Int_q _ _ (by unfold I64; (unfold wrap64; omega))).mono ?_)
        rintro _ w1 ⟨rfl, u1⟩
        go_wp2_with fail
        go_ret2
        exact back_end Hl.out (by rw [Hf.out]; exact hB2.out) (by rw [Hf.out]; rfl) (by unfold I64; (unfold wrap64; omega)) u1
set_option maxHeartbeats 800000 in
theorem ahead_q (b : Nat) (st : Wire.St) (c : UInt8) (ci : Int) (hci : ci = c.toNat) (w : World) (h : Rdr tQ w b st) (hl : (st.getD []).length ≤ 9223372036854775807) :
    Calls Tryz.prog 133 #[.pointer (some ⟨b, 0, none⟩), .int .u8 ci] w fun e w' =>
      e = .returned (.int .i64 (Wire.rInt' st c).1) ∧ Rdr tQ w' b (Wire.rInt' st c).2 ∧ Upd (· = b) w w' := by
  subst hci
  have c0 := h.c0
  obtain ⟨s, hs⟩ : ∃ s : ByteArray, (⟨(st.getD []).toArray⟩ : ByteArray) = s := ⟨_, rfl⟩
  have Hs : Hid (s.data.toList = st.getD []) := by rw [← hs]; exact bs_list _
  rw [hs] at c0
  clear hs
  have hz : s.size = (st.getD []).length := by rw [bs_size, Hs.out]
  have Hz := Lib.hid hz
  replace hz : s.size ≤ 9223372036854775807 := by omega
  go_enter Tryz.func133, Tryz.ntmps133
  go_wp2_with fail
  go_loop [5] (fun i => ∃ k : Nat, k ≤ 21 ∧ k ≤ s.size ∧ i = .int .i64 k ∧ Hid (∀ x ∈ (st.getD []).take k, x ≠ c)) (fun i => s.size - (intOf i).toNat)
  case atStart => exact ⟨0, by omega, by omega, rfl, by show ∀ x ∈ _, _; simp⟩
  case round =>
    obtain ⟨k, hk21, hks, rfl, hne⟩ := hrel
    by_cases hlt : k < s.size
    · obtain ⟨hkl, hck⟩ := byte_list Hs.out k hlt
      have Hck := Lib.hid hck; clear hck
      by_cases hc : s[k] = c
      · have hb : ((s[k].toNat : Int) != (c.toNat : Int)) = false := by rw [hc]; simp
        have hat : Hid ((st.getD [])[k]? = some c) := by show _ = _; rw [List.getElem?_eq_getElem hkl, ← Hck.out, hc]
        clear hc
        have hns : st.isNone = false := by cases st with | none => simp at hkl | some r => rfl
        have hx : (s.extract 0 k).data.toList = (st.getD []).take k := by rw [bs_extract_list, Hs.out]; simp
        have Hx := Lib.hid hx; clear hx
        by_cases h21 : k < 21
        · have hsp := Lib.hid (Wire.ahead_at h21 hne.out hat.out)
          go_wp2_with fail
          (with_reducible refine (Back_q (s.extract 0 k) _ Hx.out _ (by simp; omega)).mono ?_)
          rintro _ w1 ⟨n, ok, rfl, hn, hyes, hno, u1⟩
          replace h := h.nw u1
          replace c0 := h.c0
          have c1 := h.c1
          have f0 := h.fz 0
          cases ok with
          | true =>
            replace hsp := Lib.hid (hsp.out.trans (by rw [hyes rfl]))
            go_wp2_with fail
            go_ret
            rw [hsp.out]
            exact ⟨rfl, h.setr _ _ (by rw [hns]; rfl) (by rw [bs_extract_list, bs_list, List.take_of_length_le (by simp <;> omega)]; rfl), Nw.trans u1 ((Upd.refl _ _).set1 h.1 _ _)⟩
          | false =>
            replace hsp := Lib.hid (hsp.out.trans (by rw [hno rfl]))
            go_wp2_with fail
            (with_reducible refine (fail_q b st _ h).mono ?_)
            rintro _ w2 ⟨rfl, h2, u2⟩
            go_wp2_with fail
            go_ret
            rw [hsp.out]
            exact ⟨rfl, h2, Nw.trans u1 u2⟩
        · have hk : k = 21 := by omega
          have hsp := Lib.hid (Wire.ahead_no (st := st) (c := c) (by rw [← hk]; exact hne.out))
          have hln := Lib.hid (Wire.numOf_long (l := (st.getD []).take k) (by rw [List.length_take]; omega))
          clear hk
          go_wp2_with fail
          (with_reducible refine (Back_q (s.extract 0 k) _ Hx.out _ (by simp; omega)).mono ?_)
          rintro _ w1 ⟨n, ok, rfl, hn, hyes, hno, u1⟩
          replace h := h.nw u1
          cases ok with
          | true => have := hyes rfl; rw [hln.out] at this; cases this
          | false =>
            go_wp2_with fail
            (with_reducible refine (fail_q b st _ h).mono ?_)
            rintro _ w2 ⟨rfl, h2, u2⟩
            go_wp2_with fail
            go_ret
            rw [hsp.out]
            exact ⟨rfl, h2, Nw.trans u1 u2⟩
      · have hb : ((s[k].toNat : Int) != (c.toNat : Int)) = true := by
          rw [bne_iff_ne]; intro e; exact hc (UInt8.toNat_inj.1 (by omega))
        by_cases h21 : k < 21
        · have hne' : Hid (∀ x ∈ (st.getD []).take (k + 1), x ≠ c) := by
            intro x hx
            rw [List.take_succ_eq_append_getElem hkl, List.mem_append] at hx
            rcases hx with hx | hx
            · exact hne.out x hx
            · rw [List.mem_singleton] at hx; rw [hx, ← Hck.out]; exact hc
          have Hc := Lib.hid hc; clear hc
          go_wp2_with fail
          exact ⟨⟨k + 1, by omega, by omega, by go_num, hne'⟩, by simp [intOf]; omega⟩
        · have hk : k = 21 := by omega
          have hsp := Lib.hid (Wire.ahead_no (st := st) (c := c) (by rw [← hk]; exact hne.out))
          have Hc := Lib.hid hc; clear hc hk
          go_wp2_with fail
          (with_reducible refine (fail_q b st _ h).mono ?_)
          rintro _ w2 ⟨rfl, h2, u2⟩
          go_wp2_with fail
          go_ret
          rw [hsp.out]
          exact ⟨rfl, h2, u2⟩
    · have hsp := Lib.hid (Wire.ahead_no (st := st) (c := c) (fun x hx => hne.out x (by
        have : (st.getD []).length ≤ k := by rw [← Hz.out]; omega
        rw [List.take_of_length_le this]
        exact List.mem_of_mem_take hx)))
      go_wp2_with fail
      (with_reducible refine (fail_q b st _ h).mono ?_)
      rintro _ w2 ⟨rfl, h2, u2⟩
      go_wp2_with fail
      go_ret
      rw [hsp.out]
      exact ⟨rfl, h2, u2⟩
end Go.Proofs.YthagiklfmkdmaaaGreatDoor
namespace Go.Proofs.YthagiklfmkdmaaaGreatDoor
open Go.RowKit
set_option linter.unusedVariables false
set_option linter.unusedSimpArgs false
attribute [local irreducible] Calls

theorem numberQ (b : Nat) (st : Wire.St) (c : UInt8) (ci : Int) (hci : ci = c.toNat) (w : World) (h : Rdr tQ w b st) (hl : (st.getD []).length ≤ 9223372036854775807) :
    Calls Tryz.prog 132 #[.pointer (some ⟨b, 0, none⟩), .int .u8 ci] w fun e w' =>
      e = .returned (.int .i64 (Wire.rNumber st c 0).1) ∧ Rdr tQ w' b (Wire.rNumber st c 0).2 ∧ Upd (· = b) w w' := by
  have hz := Lib.hid (Wire.rNumber_zero_eq st c)
  have hci' := Lib.hid hci; clear hci
  go_enter Tryz.func132, Tryz.ntmps132
  go_wp2_with fail
  (with_reducible refine (ahead_q b st c _ hci'.out _ h hl).mono ?_)
  rintro _ w1 ⟨rfl, h1, u1⟩
  generalize Wire.rInt' st c = q at *
  obtain ⟨n, s1⟩ := q
  by_cases hn : n < 0
  · go_wp2_with fail
    (with_reducible refine (fail_q b s1 _ h1).mono ?_)
    rintro _ w2 ⟨rfl, h2, u2⟩
    go_wp2_with fail
    go_ret
    rw [hz.out, if_pos hn]
    exact ⟨rfl, h2, u1.trans u2⟩
  · go_wp2_with fail
    go_ret
    rw [hz.out, if_neg (by omega)]
    exact ⟨rfl, h1, u1⟩
theorem NumQ (b : Nat) (st : Wire.St) (w : World) (h : Rdr tQ w b st) (hl : (st.getD []).length ≤ 9223372036854775807) :
    Calls Tryz.prog 100 #[.pointer (some ⟨b, 0, none⟩)] w fun e w' =>
      e = .returned (.int .i64 (Wire.rNum st).1) ∧ Rdr tQ w' b (Wire.rNum st).2 ∧ Upd (· = b) w w' := by
  go_enter Tryz.func100, Tryz.ntmps100
  go_wp2_with fail
  (with_reducible refine (numberQ b st 59 59 c59 _ h hl).mono ?_)
  rintro _ w' ⟨rfl, h', u'⟩
  go_wp2_with fail
  go_ret
  exact ⟨rfl, h', u'⟩
theorem IntQ (b : Nat) (st : Wire.St) (w : World) (h : Rdr tQ w b st) (hl : (st.getD []).length ≤ 9223372036854775807) :
    Calls Tryz.prog 101 #[.pointer (some ⟨b, 0, none⟩)] w fun e w' =>
      e = .returned (.int .i64 (Wire.rInt st).1) ∧ Rdr tQ w' b (Wire.rInt st).2 ∧ Upd (· = b) w w' := by
  go_enter Tryz.func101, Tryz.ntmps101
  go_wp2_with fail
  (with_reducible refine (ahead_q b st 59 59 c59 _ h hl).mono ?_)
  rintro _ w' ⟨rfl, h', u'⟩
  go_wp2_with fail
  go_ret
  exact ⟨rfl, h', u'⟩
theorem closeQ (b : Nat) (st : Wire.St) (c : UInt8) (ci : Int) (hci : ci = c.toNat) (w : World) (h : Rdr tQ w b st) (hl : (st.getD []).length ≤ 9223372036854775807) :
    Calls Tryz.prog 164 #[.pointer (some ⟨b, 0, none⟩), .int .u8 ci] w fun e w' =>
      e = .returned (.bool (Wire.rClose st c).isSome) ∧ Rdr tQ w' b (Wire.rClose st c) ∧ Upd (· = b) w w' := by
  subst hci
  rcases st with _ | (_ | ⟨d, r⟩)
  · have c0 := h.c0
    have c1 := h.c1
    have f0 := h.fz 0
    go_enter Tryz.func164, Tryz.ntmps164
    go_wp2_with fail
    (with_reducible refine (fail_q b none _ h).mono ?_)
    rintro _ w2 ⟨rfl, h2, u2⟩
    go_wp2_with fail
    go_ret
    exact ⟨rfl, h2, u2⟩
  · have c0 := h.c0
    have c1 := h.c1
    have f0 := h.fz 0
    go_enter Tryz.func164, Tryz.ntmps164
    go_wp2_with fail
    (with_reducible refine (fail_q b (some []) _ h).mono ?_)
    rintro _ w2 ⟨rfl, h2, u2⟩
    go_wp2_with fail
    go_ret
    exact ⟨rfl, h2, u2⟩
  · have c0 := h.c0
    have c1 := h.c1
    have f0 := h.fz 0
    obtain ⟨s, hs⟩ : ∃ s : ByteArray, (⟨(d :: r).toArray⟩ : ByteArray) = s := ⟨_, rfl⟩
    have Hs : Hid (s.data.toList = d :: r) := by rw [← hs]; exact bs_list _
    rw [show (some (d :: r)).getD [] = d :: r from rfl, hs] at c0
    clear hs
    have hz : s.size = r.length + 1 := by rw [bs_size, Hs.out]; rfl
    simp only [Option.getD_some, List.length_cons] at hl
    have h0 : 0 < s.size := by omega
    have hz' : s.size ≤ 9223372036854775807 := by omega
    have Hz := Lib.hid hz; clear hz
    have hd : s[0] = d := by obtain ⟨hk, e⟩ := byte_list Hs.out 0 h0; rw [e]; rfl
    by_cases hc : d = c
    · have hb : ((s[0].toNat : Int) != (c.toNat : Int)) = false := by rw [hd, hc]; simp
      have Hc := Lib.hid hc
      have Hd := Lib.hid hd
      clear hc hd
      go_enter Tryz.func164, Tryz.ntmps164
      go_wp2_with fail
      go_ret
      rw [show Wire.rClose (some (d :: r)) c = some r from if_pos Hc.out]
      exact ⟨rfl, h.setr _ _ rfl (by rw [bs_extract_list, Hs.out, List.take_of_length_le (by have := Hz.out; simp <;> omega)]; rfl), (Upd.refl _ _).set1 h.1 _ _⟩
    · have hb : ((s[0].toNat : Int) != (c.toNat : Int)) = true := by
        rw [hd, bne_iff_ne]; intro e; exact hc (UInt8.toNat_inj.1 (by omega))
      have Hc := Lib.hid hc
      have Hd := Lib.hid hd
      clear hc hd
      go_enter Tryz.func164, Tryz.ntmps164
      go_wp2_with fail
      (with_reducible refine (fail_q b _ _ h).mono ?_)
      rintro _ w2 ⟨rfl, h2, u2⟩
      go_wp2_with fail
      go_ret
      rw [show Wire.rClose (some (d :: r)) c = none from if_neg Hc.out]
      exact ⟨rfl, h2, u2⟩
set_option maxHeartbeats 400000 in
theorem TextQ (b : Nat) (st : Wire.St) (w : World) (h : Rdr tQ w b st) (hl : (st.getD []).length ≤ 9223372036854775807) :
    Calls Tryz.prog 135 #[.pointer (some ⟨b, 0, none⟩)] w fun e w' =>
      e = .returned (.string ⟨(Wire.rText st).1.toArray⟩) ∧ Rdr tQ w' b (Wire.rText st).2 ∧ Upd (· = b) w w' := by
  have hle := Wire.rNumber_le st 58 0
  have hn0 := Wire.rNumber_least st 58 0 (Int.le_refl 0)
  go_enter Tryz.func135, Tryz.ntmps135
  go_wp2_with fail
  (with_reducible refine (numberQ b st 58 58 c58 _ h hl).mono ?_)
  rintro _ w1 ⟨rfl, h1, u1⟩
  cases hq : Wire.rNumber st 58 0 with
  | mk n s1 =>
  rw [hq] at hle hn0 h1
  have Hq := Lib.hid hq; clear hq
  replace hle : (s1.getD []).length ≤ (st.getD []).length := hle
  replace hn0 : 0 ≤ n := hn0
  replace h1 : Rdr tQ w1 b s1 := h1
  have c0 := h1.c0
  have c1 := h1.c1
  have f0 := h1.fz 0
  cases s1 with
  | none =>
    have e := Lib.hid (Wire.rText_none Hq.out)
    go_wp2_with fail
    (with_reducible refine (fail_q b _ _ h1).mono ?_)
    rintro _ w2 ⟨rfl, h2, u2⟩
    go_wp2_with fail
    go_ret
    rw [e.out]
    exact ⟨rfl, h2, u1.trans u2⟩
  | some r =>
    by_cases hfar : (r.length : Int) ≤ n
    · have e : Hid (Wire.rText st = ([], none)) := by
        by_cases hx : (r.length : Int) < n
        · exact Wire.rText_far Hq.out hx
        · refine Wire.rText_open Hq.out (by omega) ?_
          rw [List.drop_of_length_le (by omega)]; rfl
      go_wp2_with fail
      (with_reducible refine (fail_q b _ _ h1).mono ?_)
      rintro _ w2 ⟨rfl, h2, u2⟩
      go_wp2_with fail
      go_ret
      rw [e.out]
      exact ⟨rfl, h2, u1.trans u2⟩
    · replace hle : r.length ≤ (st.getD []).length := hle
      have H2 : Hid (∀ s : ByteArray, s.data.toList = r.drop n.toNat → Rdr tQ (w1.setCell ⟨b, 0, none⟩ (.string s)) b (some (r.drop n.toNat))) := fun s hs => h1.setr s _ rfl hs
      have Hc := Lib.hid (Wire.rText_open Hq.out (by omega))
      have Hy := Lib.hid (fun r' => Wire.rText_ok (r' := r') Hq.out (by omega))
      go_wp2_with fail
      (with_reducible refine (closeQ b (some (r.drop n.toNat)) 44 44 c44 _ (H2.out _ (by rw [bs_extract_list, bs_list, List.take_of_length_le (by simp)])) (by simp; omega)).mono ?_)
      rintro _ w3 ⟨rfl, h3, u3⟩
      generalize Wire.rClose (some (r.drop n.toNat)) 44 = s3 at *
      cases s3 with
      | none =>
        replace Hc := Lib.hid (Hc.out rfl)
        clear Hy
        go_wp2_with fail
        go_ret
        rw [Hc.out]
        exact ⟨rfl, h3, u1.trans (((Upd.refl _ _).set1 h1.1 _ _).trans u3)⟩
      | some r3 =>
        replace Hy := Lib.hid (Hy.out r3 rfl)
        clear Hc
        go_wp2_with fail
        go_ret
        rw [Hy.out]
        exact ⟨ret_bs (by rw [bs_extract_list, bs_list]; simp), h3, u1.trans (((Upd.refl _ _).set1 h1.1 _ _).trans u3)⟩
theorem LeftQ (b : Nat) (st : Wire.St) (w : World) (h : Rdr tQ w b st) :
    Calls Tryz.prog 134 #[.pointer (some ⟨b, 0, none⟩)] w fun e w' => e = .returned (.int .i64 ((st.getD []).length : Int)) ∧ w = w' := by
  have c0 := h.c0
  go_enter Tryz.func134, Tryz.ntmps134
  go_wp2
  go_ret
  exact ⟨rfl, rfl⟩
theorem DoneQ (b : Nat) (st : Wire.St) (w : World) (h : Rdr tQ w b st) :
    Calls Tryz.prog 102 #[.pointer (some ⟨b, 0, none⟩)] w fun e w' => e = .returned (.bool (decide (st = some []))) ∧ w = w' := by
  have c0 := h.c0
  have c1 := h.c1
  rcases st with _ | r
  · go_enter Tryz.func102, Tryz.ntmps102
    go_wp2
    go_ret
    exact ⟨rfl, rfl⟩
  · go_enter Tryz.func102, Tryz.ntmps102
    go_wp2
    go_ret
    refine ⟨?_, rfl⟩
    cases r <;> rfl
theorem OpenQ (s : ByteArray) (l : List UInt8) (hs : s.data.toList = l) (w : World) (g : Gl w) :
    Calls Tryz.prog 99 #[.string s] w fun e w' => ∃ b, e = .returned (.pointer (some ⟨b, 0, none⟩)) ∧ w.heap.size ≤ b ∧ Rdr tQ w' b (some l) ∧ Nw w w' := by
  go_enter Tryz.func99, Tryz.ntmps99
  go_wp2
  go_ret
  refine ⟨_, rfl, Nat.le_refl _, ⟨g.big, ?_⟩, (Upd.refl _ _).alloc _⟩
  rw [heap_new, ← bs_eta s, hs]
  rfl
end Go.Proofs.YthagiklfmkdmaaaGreatDoor
