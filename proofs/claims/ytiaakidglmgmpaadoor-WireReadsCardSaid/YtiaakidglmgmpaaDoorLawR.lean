/- The walk of the statement WireReads. -/
import Derived.Test.YtiaakidglmgmpaaDoorLawA
import Derived.Test.YtiaakidglmgmpaaDoorRefT
namespace Go.Proofs.YtiaakidglmgmpaaDoor
open Go.RowKit
set_option linter.unusedVariables false
set_option linter.unusedSimpArgs false
attribute [local irreducible] Calls

set_option maxHeartbeats 2000000 in
set_option maxRecDepth 100000 in
theorem wireReads_c (s : ByteArray) (lo hi : Nat) (v : Value) (calls : List Int) (w : World) (g : Gl w) (hv : Sl lo hi w v (calls.map (Value.int .i64))) :
    Calls Tryd.prog 7 #[.string s, v] w fun e w' => e = .returned (.bool true) ∧ Nw w w' := by
  obtain ⟨a, cap, rfl, hm, ha⟩ := hv.open_
  rw [List.length_map] at hm ⊢
  unfold maxLen at hm
  have Ha := Lib.hid ha; clear ha
  have g0 := g
  by_cases hbig : s.size > 400
  · go_enter Tryd.func7, Tryd.ntmps7
    go_wp2_with fail
    (with_reducible refine (small_c _ g).mono ?_)
    rintro _ w1 ⟨rfl, u1⟩
    go_wp2_with fail
    go_ret
    exact ⟨rfl, u1⟩
  by_cases hbig2 : calls.length > 20
  · go_enter Tryd.func7, Tryd.ntmps7
    go_wp2_with fail
    (with_reducible refine (small_c _ g).mono ?_)
    rintro _ w1 ⟨rfl, u1⟩
    go_wp2_with fail
    go_ret
    exact ⟨rfl, u1⟩
  obtain ⟨l, hl⟩ : ∃ l, s.data.toList = l := ⟨_, rfl⟩
  have hll : l.length ≤ 400 := by rw [← hl, ← bs_size]; omega
  have Hs := Lib.hid hl; clear hl
  go_enter Tryd.func7, Tryd.ntmps7
  go_wp2_with fail
  (with_reducible refine (small_c _ g).mono ?_)
  rintro _ w1 ⟨rfl, u1⟩
  have g1 := g.upd u1
  go_wp2_with fail
  (with_reducible refine (Open_r s l Hs.out _ g1).mono ?_)
  rintro _ w2 ⟨b1, rfl, hb1, h1, u2⟩
  have g2 := g1.upd u2
  have hb1w : w.heap.size ≤ b1 := Nat.le_trans u1.size hb1
  replace u2 := u1.trans u2; clear u1 g1 hb1
  go_wp2_with fail
  (with_reducible refine (OpenQ s l Hs.out _ g2).mono ?_)
  rintro _ w3 ⟨b2, rfl, hb2, h2, u3⟩
  have hb2w : w.heap.size ≤ b2 := Nat.le_trans u2.size hb2
  have hb12 : b1 ≠ b2 := by have := h1.lt; omega
  replace h1 := h1.nw u3
  replace u3 := u2.trans u3; clear u2 g2 hb2
  go_wp2_with fail
  go_loopw [8] (fun i wr => ∃ (k : Nat) (st : Wire.St), k ≤ calls.length ∧ i = .int .i64 k ∧ Rdr tR wr b1 st ∧ Rdr tQ wr b2 st ∧ (st.getD []).length ≤ 400 ∧ Nw w wr) (fun i _ => calls.length - (intOf i).toNat)
  case atStart => exact ⟨0, some l, Nat.zero_le _, rfl, h1, h2, hll, u3⟩
  case round =>
    clear h1 h2 u3 g
    obtain ⟨k, st, hk, rfl, h1, h2, hst, u⟩ := hrel
    have gk := g0.upd u
    by_cases hlt : k < calls.length
    · rcases Ha.out with ⟨_, _, hnil⟩ | ⟨b, off, rfl, _, _, hbl, hcell⟩
      · rw [List.map_eq_nil_iff] at hnil; simp [hnil] at hlt
      · have hc : wr.cell? ⟨b, off + k, none⟩ = some (.int .i64 calls[k]) := by
          rw [u.below.cell hbl, hcell k (by simpa using hlt)]; simp [hlt]
        generalize calls[k] = what at *
        clear hcell
        have hkr := kindOf_range what
        go_wp2_with fail
        (with_reducible refine (kind_c what _ _ _ _ _).mono ?_)
        rintro _ w5 ⟨rfl, u5⟩
        generalize kindOf what = q at *
        replace h1 := h1.nw u5
        replace h2 := h2.nw u5
        replace gk := gk.upd u5
        replace u := u.trans u5
        clear u5 hc
        by_cases hk0 : q = 0
        · subst hk0
          have hl2 := Wire.rNumber_le st 59 0
          replace hl2 := Nat.le_trans hl2 hst
          go_wp2_with fail
          (with_reducible refine (Num_r b1 st _ gk h1 (by omega)).mono ?_)
          rintro _ w3 ⟨rfl, h1, u3⟩
          replace h2 := h2.upd u3 (fun e => by omega)
          have g3 := gk.upd u3
          replace u : Nw w w3 := u.trans' u3 (fun x hx e => by omega)
          go_wp2_with fail
          (with_reducible refine (NumQ b2 st _ h2 (by omega)).mono ?_)
          rintro _ w4 ⟨rfl, h2, u4⟩
          replace h1 := h1.upd u4 (fun e => by omega)
          replace u : Nw w w4 := u.trans' u4 (fun x hx e => by omega)
          clear u3 u4 g3 gk
          cases hq : Wire.rNum st with
          | mk n s2 =>
          rw [show Wire.rNumber st 59 0 = (n, s2) from hq] at hl2
          rw [hq] at h1 h2
          clear hq
          replace h1 : Rdr tR w4 b1 s2 := h1
          replace h2 : Rdr tQ w4 b2 s2 := h2
          replace hl2 : (s2.getD []).length ≤ 400 := hl2
          go_wp2_with fail
          (with_reducible refine (Left_r tR b1 s2 _ h1).mono ?_)
          rintro _ _ ⟨rfl, rfl⟩
          go_wp2_with fail
          (with_reducible refine (LeftQ b2 s2 _ h2).mono ?_)
          rintro _ _ ⟨rfl, rfl⟩
          go_wp2_with fail
          (with_reducible refine (Done_r b1 s2 _ h1).mono ?_)
          rintro _ _ ⟨rfl, rfl⟩
          go_wp2_with fail
          (with_reducible refine (DoneQ b2 s2 _ h2).mono ?_)
          rintro _ _ ⟨rfl, rfl⟩
          go_wp2_with fail
          go_roundw
          case rel => exact ⟨k + 1, s2, by omega, by go_num, h1, h2, hl2, u⟩
          case measure => simp [intOf]; omega
        by_cases hk1 : q = 1
        · subst hk1
          have hl2 := Wire.rNumber_le st 59 (-9223372036854775808)
          replace hl2 := Nat.le_trans hl2 hst
          go_wp2_with fail
          (with_reducible refine (Int_r b1 st _ gk h1 (by omega)).mono ?_)
          rintro _ w3 ⟨rfl, h1, u3⟩
          replace h2 := h2.upd u3 (fun e => by omega)
          have g3 := gk.upd u3
          replace u : Nw w w3 := u.trans' u3 (fun x hx e => by omega)
          go_wp2_with fail
          (with_reducible refine (IntQ b2 st _ h2 (by omega)).mono ?_)
          rintro _ w4 ⟨rfl, h2, u4⟩
          replace h1 := h1.upd u4 (fun e => by omega)
          replace u : Nw w w4 := u.trans' u4 (fun x hx e => by omega)
          clear u3 u4 g3 gk
          cases hq : Wire.rInt st with
          | mk n s2 =>
          rw [show Wire.rNumber st 59 (-9223372036854775808) = (n, s2) from hq] at hl2
          rw [hq] at h1 h2
          clear hq
          replace h1 : Rdr tR w4 b1 s2 := h1
          replace h2 : Rdr tQ w4 b2 s2 := h2
          replace hl2 : (s2.getD []).length ≤ 400 := hl2
          go_wp2_with fail
          (with_reducible refine (Left_r tR b1 s2 _ h1).mono ?_)
          rintro _ _ ⟨rfl, rfl⟩
          go_wp2_with fail
          (with_reducible refine (LeftQ b2 s2 _ h2).mono ?_)
          rintro _ _ ⟨rfl, rfl⟩
          go_wp2_with fail
          (with_reducible refine (Done_r b1 s2 _ h1).mono ?_)
          rintro _ _ ⟨rfl, rfl⟩
          go_wp2_with fail
          (with_reducible refine (DoneQ b2 s2 _ h2).mono ?_)
          rintro _ _ ⟨rfl, rfl⟩
          go_wp2_with fail
          go_roundw
          case rel => exact ⟨k + 1, s2, by omega, by go_num, h1, h2, hl2, u⟩
          case measure => simp [intOf]; omega
        by_cases hk2 : q = 2
        · subst hk2
          have hl2 := Nat.le_trans (Wire.rText_le st) hst
          go_wp2_with fail
          (with_reducible refine (Text_r b1 st _ gk h1 (by omega)).mono ?_)
          rintro _ w3 ⟨rfl, h1, u3⟩
          replace h2 := h2.upd u3 (fun e => by omega)
          have g3 := gk.upd u3
          replace u : Nw w w3 := u.trans' u3 (fun x hx e => by omega)
          go_wp2_with fail
          (with_reducible refine (TextQ b2 st _ h2 (by omega)).mono ?_)
          rintro _ w4 ⟨rfl, h2, u4⟩
          replace h1 := h1.upd u4 (fun e => by omega)
          replace u : Nw w w4 := u.trans' u4 (fun x hx e => by omega)
          clear u3 u4 g3 gk
          cases hq : Wire.rText st with
          | mk n s2 =>
          rw [hq] at h1 h2 hl2
          clear hq
          replace h1 : Rdr tR w4 b1 s2 := h1
          replace h2 : Rdr tQ w4 b2 s2 := h2
          replace hl2 : (s2.getD []).length ≤ 400 := hl2
          go_wp2_with fail
          (with_reducible refine (Left_r tR b1 s2 _ h1).mono ?_)
          rintro _ _ ⟨rfl, rfl⟩
          go_wp2_with fail
          (with_reducible refine (LeftQ b2 s2 _ h2).mono ?_)
          rintro _ _ ⟨rfl, rfl⟩
          go_wp2_with fail
          (with_reducible refine (Done_r b1 s2 _ h1).mono ?_)
          rintro _ _ ⟨rfl, rfl⟩
          go_wp2_with fail
          (with_reducible refine (DoneQ b2 s2 _ h2).mono ?_)
          rintro _ _ ⟨rfl, rfl⟩
          go_wp2_with fail
          go_roundw
          case rel => exact ⟨k + 1, s2, by omega, by go_num, h1, h2, hl2, u⟩
          case measure => simp [intOf]; omega
        by_cases hk3 : q = 3
        · subst hk3
          have hb2z := h2.lt
          have hl2 := Nat.le_trans (Wire.rItems_le Wire.rInt Wire.rInt_le st) hst
          go_wp2_with fail
          (with_reducible refine (Nums_r b1 st _ gk h1 (by omega)).mono ?_)
          rintro _ w3 ⟨v1, rfl, o1, h1, u3⟩
          replace h2 := h2.upd u3 (fun e => by omega)
          have s1 := Sl.of_owns o1
          replace u : Nw w w3 := u.trans' u3 (fun x hx e => by omega)
          go_wp2_with fail
          (with_reducible refine (NumsQ b2 st _ (gk.upd u3) h2 (by omega)).mono ?_)
          rintro _ w4 ⟨v2, rfl, o2, h2, u4⟩
          have s3 := Sl.of_owns o2
          replace h1 := h1.upd u4 (fun e => by omega)
          replace o1 := owns_upd o1 u4 (fun x hx hx2 e => by omega)
          replace s1 := Sl.of_owns o1
          replace u : Nw w w4 := u.trans' u4 (fun x hx e => by omega)
          clear u3 u4 gk o1 o2
          rw [show Wire.rNums st = Wire.rItems Wire.rInt st from rfl] at h1 s1
          cases hq : Wire.rItems Wire.rInt st with
          | mk n s2 =>
          rw [hq] at h1 h2 s1 s3 hl2
          clear hq
          replace h1 : Rdr tR w4 b1 s2 := h1
          replace h2 : Rdr tQ w4 b2 s2 := h2
          replace hl2 : (s2.getD []).length ≤ 400 := hl2
          go_wp2_with fail
          (with_reducible refine (SameNumsQ _ _ _ _ v1 v2 n n _ s1 s3).mono ?_)
          rintro _ w6 ⟨rfl, u6⟩
          replace h1 := h1.nw u6
          replace h2 := h2.nw u6
          replace u := u.trans u6
          clear s1 s3 u6
          go_wp2_with fail
          (with_reducible refine (Left_r tR b1 s2 _ h1).mono ?_)
          rintro _ _ ⟨rfl, rfl⟩
          go_wp2_with fail
          (with_reducible refine (LeftQ b2 s2 _ h2).mono ?_)
          rintro _ _ ⟨rfl, rfl⟩
          go_wp2_with fail
          (with_reducible refine (Done_r b1 s2 _ h1).mono ?_)
          rintro _ _ ⟨rfl, rfl⟩
          go_wp2_with fail
          (with_reducible refine (DoneQ b2 s2 _ h2).mono ?_)
          rintro _ _ ⟨rfl, rfl⟩
          go_wp2_with fail
          go_roundw
          case rel => exact ⟨k + 1, s2, by omega, by go_num, h1, h2, hl2, u⟩
          case measure => simp [intOf]; omega
        · obtain rfl : q = 4 := by omega
          have hb2z := h2.lt
          have hl2 := Nat.le_trans (Wire.rItems_le Wire.rText Wire.rText_le st) hst
          go_wp2_with fail
          (with_reducible refine (Texts_r b1 st _ gk h1 (by omega)).mono ?_)
          rintro _ w3 ⟨v1, rfl, o1, h1, u3⟩
          replace h2 := h2.upd u3 (fun e => by omega)
          have s1 := Sl.of_owns o1
          replace u : Nw w w3 := u.trans' u3 (fun x hx e => by omega)
          go_wp2_with fail
          (with_reducible refine (TextsQ b2 st _ (gk.upd u3) h2 (by omega)).mono ?_)
          rintro _ w4 ⟨v2, rfl, o2, h2, u4⟩
          have s3 := Sl.of_owns o2
          replace h1 := h1.upd u4 (fun e => by omega)
          replace o1 := owns_upd o1 u4 (fun x hx hx2 e => by omega)
          replace s1 := Sl.of_owns o1
          replace u : Nw w w4 := u.trans' u4 (fun x hx e => by omega)
          clear u3 u4 gk o1 o2
          rw [show Wire.rTexts st = Wire.rItems Wire.rText st from rfl] at h1 s1
          cases hq : Wire.rItems Wire.rText st with
          | mk n s2 =>
          rw [hq] at h1 h2 s1 s3 hl2
          clear hq
          replace h1 : Rdr tR w4 b1 s2 := h1
          replace h2 : Rdr tQ w4 b2 s2 := h2
          replace hl2 : (s2.getD []).length ≤ 400 := hl2
          go_wp2_with fail
          (with_reducible refine (SameTextsQ _ _ _ _ v1 v2 n n _ s1 s3).mono ?_)
          rintro _ w6 ⟨rfl, u6⟩
          replace h1 := h1.nw u6
          replace h2 := h2.nw u6
          replace u := u.trans u6
          clear s1 s3 u6
          go_wp2_with fail
          (with_reducible refine (Left_r tR b1 s2 _ h1).mono ?_)
          rintro _ _ ⟨rfl, rfl⟩
          go_wp2_with fail
          (with_reducible refine (LeftQ b2 s2 _ h2).mono ?_)
          rintro _ _ ⟨rfl, rfl⟩
          go_wp2_with fail
          (with_reducible refine (Done_r b1 s2 _ h1).mono ?_)
          rintro _ _ ⟨rfl, rfl⟩
          go_wp2_with fail
          (with_reducible refine (DoneQ b2 s2 _ h2).mono ?_)
          rintro _ _ ⟨rfl, rfl⟩
          go_wp2_with fail
          go_roundw
          case rel => exact ⟨k + 1, s2, by omega, by go_num, h1, h2, hl2, u⟩
          case measure => simp [intOf]; omega
    · go_wp2_with fail
      (with_reducible refine (Rest_r b1 st _ h1).mono ?_)
      rintro _ w3 ⟨rfl, h1, u3⟩
      replace h2 := h2.upd u3 (fun e => by omega)
      replace u : Nw w w3 := u.trans' u3 (fun x hx e => by omega)
      go_wp2_with fail
      (with_reducible refine (TailQ b2 st _ h2).mono ?_)
      rintro _ w4 ⟨rfl, h2, u4⟩
      replace h1 := h1.upd u4 (fun e => by omega)
      replace u : Nw w w4 := u.trans' u4 (fun x hx e => by omega)
      clear u3 u4 gk
      go_wp2_with fail
      (with_reducible refine (Left_r tR b1 _ _ h1).mono ?_)
      rintro _ _ ⟨rfl, rfl⟩
      go_wp2_with fail
      (with_reducible refine (LeftQ b2 _ _ h2).mono ?_)
      rintro _ _ ⟨rfl, rfl⟩
      go_wp2_with fail
      (with_reducible refine (Done_r b1 _ _ h1).mono ?_)
      rintro _ _ ⟨rfl, rfl⟩
      go_wp2_with fail
      (with_reducible refine (DoneQ b2 _ _ h2).mono ?_)
      rintro _ _ ⟨rfl, rfl⟩
      go_wp2_with fail
      go_ret
      exact ⟨rfl, u⟩
end Go.Proofs.YtiaakidglmgmpaaDoor
