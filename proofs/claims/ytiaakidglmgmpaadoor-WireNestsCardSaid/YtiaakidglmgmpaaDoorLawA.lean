/- The walk of the statement WireAgain. -/
import Derived.Test.YtiaakidglmgmpaaDoorSmall
import Derived.Test.YtiaakidglmgmpaaDoorWireInv
namespace Go.Proofs.YtiaakidglmgmpaaDoor
open Go.RowKit
set_option linter.unusedVariables false
set_option linter.unusedSimpArgs false
attribute [local irreducible] Calls

def kindOf (k : Int) : Int := if k.tmod 5 < 0 then k.tmod 5 + 5 else k.tmod 5
theorem kindOf_range (k : Int) : 0 ≤ kindOf k ∧ kindOf k ≤ 4 := by
  unfold kindOf
  have h1 : k.tmod 5 < 5 := Int.tmod_lt_of_pos k (by decide)
  have h2 : -5 < k.tmod 5 := by
    have := Int.tmod_lt_of_pos (-k) (b := 5) (by decide)
    rw [Int.neg_tmod] at this
    omega
  split <;> omega
theorem kind_c (k : Int) (a b c d : Value) (w : World) :
    Calls Tryd.prog 22 #[.agg #[.int .i64 k, a, b, c, d]] w fun e w' => e = .returned (.int .i64 (kindOf k)) ∧ Nw w w' := by
  have h1 : k.tmod 5 < 5 := Int.tmod_lt_of_pos k (by decide)
  have h2 : -5 < k.tmod 5 := by
    have := Int.tmod_lt_of_pos (-k) (b := 5) (by decide)
    rw [Int.neg_tmod] at this
    omega
  by_cases hn : k.tmod 5 < 0
  · go_enter Tryd.func22, Tryd.ntmps22
    go_wp2_with fail
    go_ret
    refine ⟨?_, nw_alloc _ _⟩
    rw [show kindOf k = k.tmod 5 + 5 from if_pos hn]
    rfl
  · go_enter Tryd.func22, Tryd.ntmps22
    go_wp2_with fail
    go_ret
    refine ⟨?_, nw_alloc _ _⟩
    rw [show kindOf k = k.tmod 5 from if_neg (by omega)]
    rfl

/-- What was read, as the law tests it. -/
def AgainOk (s t : List UInt8) (st : Wire.St) : Prop := ∀ r, st = some r → s = t ++ r
set_option maxHeartbeats 1000000 in
theorem wireAgain_c (s : ByteArray) (what : Int) (w : World) (g : Gl w) :
    Calls Tryd.prog 4 #[.string s, .int .i64 what] w fun e w' => e = .returned (.bool true) ∧ Nw w w' := by
  by_cases hbig : s.size > 400
  · go_enter Tryd.func4, Tryd.ntmps4
    go_wp2_with fail
    (with_reducible refine (small_c _ g).mono ?_)
    rintro _ w1 ⟨rfl, u1⟩
    go_wp2_with fail
    go_ret
    exact ⟨rfl, u1⟩
  · have hk := kindOf_range what
    obtain ⟨l, hl⟩ : ∃ l, s.data.toList = l := ⟨_, rfl⟩
    have hll : l.length ≤ 400 := by rw [← hl, ← bs_size]; omega
    have Hs := Lib.hid hl; clear hl
    go_enter Tryd.func4, Tryd.ntmps4
    go_wp2_with fail
    (with_reducible refine (small_c _ g).mono ?_)
    rintro _ w1 ⟨rfl, u1⟩
    have g1 := g.upd u1
    go_wp2_with fail
    (with_reducible refine (Open_r s l Hs.out _ g1).mono ?_)
    rintro _ w2 ⟨b, rfl, hb, hr, u2⟩
    have g2 := g1.upd u2
    have hb0 : w.heap.size ≤ b := Nat.le_trans u1.size hb
    replace u2 := u1.trans u2; clear u1 g1
    go_wp2_with fail
    (with_reducible refine (kind_c what _ _ _ _ _).mono ?_)
    rintro _ w3 ⟨rfl, u3⟩
    have g3 := g2.upd u3
    replace hr := hr.nw u3
    replace u3 := u2.trans u3; clear u2 g2 hb
    generalize kindOf what = k at *
    by_cases hk0 : k = 0
    · subst hk0
      have hlen : ((some l : Wire.St).getD []).length ≤ 400 := hll
      go_wp2_with fail
      (with_reducible refine (Num_r b _ _ g3 hr (by omega)).mono ?_)
      rintro _ w4 ⟨rfl, h4, u4⟩
      have g4 := g3.upd u4
      replace u4 : Nw w w4 := u3.trans' u4 (fun k hk e => by omega)
      have hI := Wire.rNumber_i64 (some l) 59 0
      cases hq : Wire.rNum (some l) with
      | mk n s2 =>
      rw [show Wire.rNumber (some l) 59 0 = (n, s2) from hq] at hI
      rw [hq] at h4
      replace hI : I64 n := hI
      have hok : Hid (AgainOk l (Wire.numE n) s2) := by intro r hr; exact Wire.rNum_inv (by rw [hq, hr])
      clear hq
      replace h4 : Rdr tR w4 b s2 := h4
      go_wp2_with fail
      (with_reducible refine (Num_e n _ g4 hI).mono ?_)
      rintro _ w5 ⟨rfl, u5⟩
      have h2 := h4.nw u5
      have u2 := u4.trans u5
      generalize Wire.numE n = t at *
      clear u4 u5 u3 h4 hr g3 g4
      cases s2 with
      | none =>
        go_wp2_with fail
        (with_reducible refine (Left_r tR b none _ h2).mono ?_)
        rintro _ _ ⟨rfl, rfl⟩
        go_wp2_with fail
        (with_reducible refine (Done_r b none _ h2).mono ?_)
        rintro _ _ ⟨rfl, rfl⟩
        go_wp2_with fail
        go_ret
        exact ⟨rfl, u2⟩
      | some r =>
        have hs2 : s.size = t.length + r.length := by rw [bs_size, Hs.out, hok.out r rfl, List.length_append]
        have hex : (s.extract 0 t.length).toList = t := by
          rw [bs_toList, bs_extract_list, Hs.out, hok.out r rfl]; simp
        have Hok := Lib.hid hok.out; clear hok
        have Hfin : Hid (∀ k, k = t.length → (t == (s.extract 0 k).toList) = true) := fun k e => by rw [e, hex]; simp
        clear hex
        have Hs2 := Lib.hid hs2
        rcases r with _ | ⟨x, r⟩
        · have hst : Hid ((t == s.toList) = true) := by show _ = _; rw [bs_toList, Hs.out, Hok.out [] rfl]; simp
          clear hs2
          go_wp2_with fail
          (with_reducible refine (Left_r tR b (some []) _ h2).mono ?_)
          rintro _ _ ⟨rfl, rfl⟩
          go_wp2_with fail
          (with_reducible refine (Done_r b (some []) _ h2).mono ?_)
          rintro _ _ ⟨rfl, rfl⟩
          go_wp2_with fail
          (with_reducible refine (Left_r tR b (some []) _ h2).mono ?_)
          rintro _ _ ⟨rfl, rfl⟩
          go_wp2_with fail
          go_ret
          exact ⟨ret_bool hst.out, u2⟩
        · have hi1 : (t.length : Int) + (r.length + 1) ≤ s.size := by simp only [List.length_cons] at hs2; omega
          have hi2 : (s.size : Int) ≤ (t.length : Int) + (r.length + 1) := by simp only [List.length_cons] at hs2; omega
          have hi3 : (0 : Int) ≤ (t.length : Int) := by omega
          clear hs2
          go_wp2_with fail
          (with_reducible refine (Left_r tR b (some (x :: r)) _ h2).mono ?_)
          rintro _ _ ⟨rfl, rfl⟩
          go_wp2_with fail
          (with_reducible refine (Left_r tR b (some (x :: r)) _ h2).mono ?_)
          rintro _ _ ⟨rfl, rfl⟩
          go_wp2_with fail
          go_ret
          exact ⟨ret_bool (Hfin.out _ (by omega)), u2⟩
    · by_cases hk1 : k = 1
      · subst hk1
        have hlen : ((some l : Wire.St).getD []).length ≤ 400 := hll
        go_wp2_with fail
        (with_reducible refine (Int_r b _ _ g3 hr (by omega)).mono ?_)
        rintro _ w4 ⟨rfl, h4, u4⟩
        have g4 := g3.upd u4
        replace u4 : Nw w w4 := u3.trans' u4 (fun k hk e => by omega)
        have hI := Wire.rNumber_i64 (some l) 59 (-9223372036854775808)
        cases hq : Wire.rInt (some l) with
        | mk n s2 =>
        rw [show Wire.rNumber (some l) 59 (-9223372036854775808) = (n, s2) from hq] at hI
        rw [hq] at h4
        replace hI : I64 n := hI
        have hok : Hid (AgainOk l (Wire.intE n) s2) := by intro r hr; exact Wire.rInt_inv (by rw [hq, hr])
        clear hq
        replace h4 : Rdr tR w4 b s2 := h4
        go_wp2_with fail
        (with_reducible refine (Int_e n _ g4 hI).mono ?_)
        rintro _ w5 ⟨rfl, u5⟩
        have h2 := h4.nw u5
        have u2 := u4.trans u5
        generalize Wire.intE n = t at *
        clear u4 u5 u3 h4 hr g3 g4
        cases s2 with
        | none =>
          go_wp2_with fail
          (with_reducible refine (Left_r tR b none _ h2).mono ?_)
          rintro _ _ ⟨rfl, rfl⟩
          go_wp2_with fail
          (with_reducible refine (Done_r b none _ h2).mono ?_)
          rintro _ _ ⟨rfl, rfl⟩
          go_wp2_with fail
          go_ret
          exact ⟨rfl, u2⟩
        | some r =>
          have hs2 : s.size = t.length + r.length := by rw [bs_size, Hs.out, hok.out r rfl, List.length_append]
          have hex : (s.extract 0 t.length).toList = t := by
            rw [bs_toList, bs_extract_list, Hs.out, hok.out r rfl]; simp
          have Hok := Lib.hid hok.out; clear hok
          have Hfin : Hid (∀ k, k = t.length → (t == (s.extract 0 k).toList) = true) := fun k e => by rw [e, hex]; simp
          clear hex
          have Hs2 := Lib.hid hs2
          rcases r with _ | ⟨x, r⟩
          · have hst : Hid ((t == s.toList) = true) := by show _ = _; rw [bs_toList, Hs.out, Hok.out [] rfl]; simp
            clear hs2
            go_wp2_with fail
            (with_reducible refine (Left_r tR b (some []) _ h2).mono ?_)
            rintro _ _ ⟨rfl, rfl⟩
            go_wp2_with fail
            (with_reducible refine (Done_r b (some []) _ h2).mono ?_)
            rintro _ _ ⟨rfl, rfl⟩
            go_wp2_with fail
            (with_reducible refine (Left_r tR b (some []) _ h2).mono ?_)
            rintro _ _ ⟨rfl, rfl⟩
            go_wp2_with fail
            go_ret
            exact ⟨ret_bool hst.out, u2⟩
          · have hi1 : (t.length : Int) + (r.length + 1) ≤ s.size := by simp only [List.length_cons] at hs2; omega
            have hi2 : (s.size : Int) ≤ (t.length : Int) + (r.length + 1) := by simp only [List.length_cons] at hs2; omega
            have hi3 : (0 : Int) ≤ (t.length : Int) := by omega
            clear hs2
            go_wp2_with fail
            (with_reducible refine (Left_r tR b (some (x :: r)) _ h2).mono ?_)
            rintro _ _ ⟨rfl, rfl⟩
            go_wp2_with fail
            (with_reducible refine (Left_r tR b (some (x :: r)) _ h2).mono ?_)
            rintro _ _ ⟨rfl, rfl⟩
            go_wp2_with fail
            go_ret
            exact ⟨ret_bool (Hfin.out _ (by omega)), u2⟩
      · by_cases hk2 : k = 2
        · subst hk2
          have hlen : ((some l : Wire.St).getD []).length ≤ 400 := hll
          go_wp2_with fail
          (with_reducible refine (Text_r b _ _ g3 hr (by omega)).mono ?_)
          rintro _ w4 ⟨rfl, h4, u4⟩
          have g4 := g3.upd u4
          replace u4 : Nw w w4 := u3.trans' u4 (fun k hk e => by omega)
          have hf := Wire.rText_fail (st := some l)
          cases hq : Wire.rText (some l) with
          | mk n s2 =>
          rw [hq] at h4 hf
          have hok : Hid (AgainOk l (Wire.textE n) s2) := by intro r hr; exact Wire.rText_inv (by rw [hq, hr])
          clear hq
          have hnl : n.length ≤ 400 := by
            cases s2 with
            | none => rw [show n = [] from hf rfl]; simp
            | some r => have := hok.out r rfl; rw [this] at hll; simp only [Wire.textE, List.length_append] at hll; omega
          clear hf
          replace h4 : Rdr tR w4 b s2 := h4
          go_wp2_with fail
          (with_reducible refine (Text_e _ n (bs_list _) _ g4 (by omega)).mono ?_)
          rintro _ w5 ⟨rfl, u5⟩
          have h2 := h4.nw u5
          have u2 := u4.trans u5
          generalize Wire.textE n = t at *
          clear u4 u5 u3 h4 hr g3 g4
          cases s2 with
          | none =>
            go_wp2_with fail
            (with_reducible refine (Left_r tR b none _ h2).mono ?_)
            rintro _ _ ⟨rfl, rfl⟩
            go_wp2_with fail
            (with_reducible refine (Done_r b none _ h2).mono ?_)
            rintro _ _ ⟨rfl, rfl⟩
            go_wp2_with fail
            go_ret
            exact ⟨rfl, u2⟩
          | some r =>
            have hs2 : s.size = t.length + r.length := by rw [bs_size, Hs.out, hok.out r rfl, List.length_append]
            have hex : (s.extract 0 t.length).toList = t := by
              rw [bs_toList, bs_extract_list, Hs.out, hok.out r rfl]; simp
            have Hok := Lib.hid hok.out; clear hok
            have Hfin : Hid (∀ k, k = t.length → (t == (s.extract 0 k).toList) = true) := fun k e => by rw [e, hex]; simp
            clear hex
            have Hs2 := Lib.hid hs2
            rcases r with _ | ⟨x, r⟩
            · have hst : Hid ((t == s.toList) = true) := by show _ = _; rw [bs_toList, Hs.out, Hok.out [] rfl]; simp
              clear hs2
              go_wp2_with fail
              (with_reducible refine (Left_r tR b (some []) _ h2).mono ?_)
              rintro _ _ ⟨rfl, rfl⟩
              go_wp2_with fail
              (with_reducible refine (Done_r b (some []) _ h2).mono ?_)
              rintro _ _ ⟨rfl, rfl⟩
              go_wp2_with fail
              (with_reducible refine (Left_r tR b (some []) _ h2).mono ?_)
              rintro _ _ ⟨rfl, rfl⟩
              go_wp2_with fail
              go_ret
              exact ⟨ret_bool hst.out, u2⟩
            · have hi1 : (t.length : Int) + (r.length + 1) ≤ s.size := by simp only [List.length_cons] at hs2; omega
              have hi2 : (s.size : Int) ≤ (t.length : Int) + (r.length + 1) := by simp only [List.length_cons] at hs2; omega
              have hi3 : (0 : Int) ≤ (t.length : Int) := by omega
              clear hs2
              go_wp2_with fail
              (with_reducible refine (Left_r tR b (some (x :: r)) _ h2).mono ?_)
              rintro _ _ ⟨rfl, rfl⟩
              go_wp2_with fail
              (with_reducible refine (Left_r tR b (some (x :: r)) _ h2).mono ?_)
              rintro _ _ ⟨rfl, rfl⟩
              go_wp2_with fail
              go_ret
              exact ⟨ret_bool (Hfin.out _ (by omega)), u2⟩
        · by_cases hk3 : k = 3
          · subst hk3
            have hlen : ((some l : Wire.St).getD []).length ≤ 400 := hll
            go_wp2_with fail
            (with_reducible refine (Nums_r b _ _ g3 hr (by omega)).mono ?_)
            rintro _ w4 ⟨v, rfl, ho, h4, u4⟩
            have g4 := g3.upd u4
            have hsl := Sl.of_owns ho
            replace u4 : Nw w w4 := u3.trans' u4 (fun k hk e => by omega)
            have hf := Wire.rItems_fail (one := Wire.rInt) (st := some l)
            have hI := Wire.rItems_all (one := Wire.rInt) (P := I64) (fun st => Wire.rNumber_i64 st 59 (-9223372036854775808)) (some l)
            cases hq : Wire.rNums (some l) with
            | mk n s2 =>
            rw [show Wire.rItems Wire.rInt (some l) = (n, s2) from hq] at hf hI
            rw [hq] at h4 hsl
            have hok : Hid (AgainOk l (Wire.numsE n) s2) := by intro r hr; exact Wire.rNums_inv (by rw [hq, hr])
            clear hq ho
            have hnl : (Wire.numsE n).length ≤ 400 := by
              cases s2 with
              | none => rw [show n = [] from hf rfl, show Wire.numsE [] = Wire.textsE [] from rfl, Wire.ex_texts]; decide
              | some r => have := hok.out r rfl; rw [this, List.length_append] at hll; omega
            clear hf
            replace h4 : Rdr tR w4 b s2 := h4
            have HI := Lib.hid hI; clear hI
            go_wp2_with fail
            (with_reducible refine (Nums_e _ _ _ n _ g4 hsl HI.out (by omega)).mono ?_)
            rintro _ w5 ⟨rfl, u5⟩
            have h2 := h4.nw u5
            have u2 := u4.trans u5
            generalize Wire.numsE n = t at *
            clear u4 u5 u3 h4 hr g3 g4 hsl
            cases s2 with
            | none =>
              go_wp2_with fail
              (with_reducible refine (Left_r tR b none _ h2).mono ?_)
              rintro _ _ ⟨rfl, rfl⟩
              go_wp2_with fail
              (with_reducible refine (Done_r b none _ h2).mono ?_)
              rintro _ _ ⟨rfl, rfl⟩
              go_wp2_with fail
              go_ret
              exact ⟨rfl, u2⟩
            | some r =>
              have hs2 : s.size = t.length + r.length := by rw [bs_size, Hs.out, hok.out r rfl, List.length_append]
              have hex : (s.extract 0 t.length).toList = t := by
                rw [bs_toList, bs_extract_list, Hs.out, hok.out r rfl]; simp
              have Hok := Lib.hid hok.out; clear hok
              have Hfin : Hid (∀ k, k = t.length → (t == (s.extract 0 k).toList) = true) := fun k e => by rw [e, hex]; simp
              clear hex
              have Hs2 := Lib.hid hs2
              rcases r with _ | ⟨x, r⟩
              · have hst : Hid ((t == s.toList) = true) := by show _ = _; rw [bs_toList, Hs.out, Hok.out [] rfl]; simp
                clear hs2
                go_wp2_with fail
                (with_reducible refine (Left_r tR b (some []) _ h2).mono ?_)
                rintro _ _ ⟨rfl, rfl⟩
                go_wp2_with fail
                (with_reducible refine (Done_r b (some []) _ h2).mono ?_)
                rintro _ _ ⟨rfl, rfl⟩
                go_wp2_with fail
                (with_reducible refine (Left_r tR b (some []) _ h2).mono ?_)
                rintro _ _ ⟨rfl, rfl⟩
                go_wp2_with fail
                go_ret
                exact ⟨ret_bool hst.out, u2⟩
              · have hi1 : (t.length : Int) + (r.length + 1) ≤ s.size := by simp only [List.length_cons] at hs2; omega
                have hi2 : (s.size : Int) ≤ (t.length : Int) + (r.length + 1) := by simp only [List.length_cons] at hs2; omega
                have hi3 : (0 : Int) ≤ (t.length : Int) := by omega
                clear hs2
                go_wp2_with fail
                (with_reducible refine (Left_r tR b (some (x :: r)) _ h2).mono ?_)
                rintro _ _ ⟨rfl, rfl⟩
                go_wp2_with fail
                (with_reducible refine (Left_r tR b (some (x :: r)) _ h2).mono ?_)
                rintro _ _ ⟨rfl, rfl⟩
                go_wp2_with fail
                go_ret
                exact ⟨ret_bool (Hfin.out _ (by omega)), u2⟩
          · obtain rfl : k = 4 := by omega
            have hlen : ((some l : Wire.St).getD []).length ≤ 400 := hll
            go_wp2_with fail
            (with_reducible refine (Texts_r b _ _ g3 hr (by omega)).mono ?_)
            rintro _ w4 ⟨v, rfl, ho, h4, u4⟩
            have g4 := g3.upd u4
            have hsl := Sl.of_owns ho
            replace u4 : Nw w w4 := u3.trans' u4 (fun k hk e => by omega)
            have hf := Wire.rItems_fail (one := Wire.rText) (st := some l)
            have hI := Wire.rItems_all (one := Wire.rText) (P := fun _ => True) (fun st => trivial) (some l)
            cases hq : Wire.rTexts (some l) with
            | mk n s2 =>
            rw [show Wire.rItems Wire.rText (some l) = (n, s2) from hq] at hf hI
            rw [hq] at h4 hsl
            have hok : Hid (AgainOk l (Wire.textsE n) s2) := by intro r hr; exact Wire.rTexts_inv (by rw [hq, hr])
            clear hq ho
            have hnl : (Wire.textsE n).length ≤ 400 := by
              cases s2 with
              | none => rw [show n = [] from hf rfl, show Wire.textsE [] = Wire.textsE [] from rfl, Wire.ex_texts]; decide
              | some r => have := hok.out r rfl; rw [this, List.length_append] at hll; omega
            clear hf
            replace h4 : Rdr tR w4 b s2 := h4
            have HI := Lib.hid hI; clear hI
            go_wp2_with fail
            (with_reducible refine (Texts_e _ _ _ n _ g4 hsl (by omega)).mono ?_)
            rintro _ w5 ⟨rfl, u5⟩
            have h2 := h4.nw u5
            have u2 := u4.trans u5
            generalize Wire.textsE n = t at *
            clear u4 u5 u3 h4 hr g3 g4 hsl
            cases s2 with
            | none =>
              go_wp2_with fail
              (with_reducible refine (Left_r tR b none _ h2).mono ?_)
              rintro _ _ ⟨rfl, rfl⟩
              go_wp2_with fail
              (with_reducible refine (Done_r b none _ h2).mono ?_)
              rintro _ _ ⟨rfl, rfl⟩
              go_wp2_with fail
              go_ret
              exact ⟨rfl, u2⟩
            | some r =>
              have hs2 : s.size = t.length + r.length := by rw [bs_size, Hs.out, hok.out r rfl, List.length_append]
              have hex : (s.extract 0 t.length).toList = t := by
                rw [bs_toList, bs_extract_list, Hs.out, hok.out r rfl]; simp
              have Hok := Lib.hid hok.out; clear hok
              have Hfin : Hid (∀ k, k = t.length → (t == (s.extract 0 k).toList) = true) := fun k e => by rw [e, hex]; simp
              clear hex
              have Hs2 := Lib.hid hs2
              rcases r with _ | ⟨x, r⟩
              · have hst : Hid ((t == s.toList) = true) := by show _ = _; rw [bs_toList, Hs.out, Hok.out [] rfl]; simp
                clear hs2
                go_wp2_with fail
                (with_reducible refine (Left_r tR b (some []) _ h2).mono ?_)
                rintro _ _ ⟨rfl, rfl⟩
                go_wp2_with fail
                (with_reducible refine (Done_r b (some []) _ h2).mono ?_)
                rintro _ _ ⟨rfl, rfl⟩
                go_wp2_with fail
                (with_reducible refine (Left_r tR b (some []) _ h2).mono ?_)
                rintro _ _ ⟨rfl, rfl⟩
                go_wp2_with fail
                go_ret
                exact ⟨ret_bool hst.out, u2⟩
              · have hi1 : (t.length : Int) + (r.length + 1) ≤ s.size := by simp only [List.length_cons] at hs2; omega
                have hi2 : (s.size : Int) ≤ (t.length : Int) + (r.length + 1) := by simp only [List.length_cons] at hs2; omega
                have hi3 : (0 : Int) ≤ (t.length : Int) := by omega
                clear hs2
                go_wp2_with fail
                (with_reducible refine (Left_r tR b (some (x :: r)) _ h2).mono ?_)
                rintro _ _ ⟨rfl, rfl⟩
                go_wp2_with fail
                (with_reducible refine (Left_r tR b (some (x :: r)) _ h2).mono ?_)
                rintro _ _ ⟨rfl, rfl⟩
                go_wp2_with fail
                go_ret
                exact ⟨ret_bool (Hfin.out _ (by omega)), u2⟩
end Go.Proofs.YtiaakidglmgmpaaDoor
