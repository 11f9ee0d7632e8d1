/- The walk of the statement ClaimCanonical. -/
import Derived.Test.YtnfjkojckffhmaaDoorClaimF
namespace Go.Proofs.YtnfjkojckffhmaaDoor
open Go.RowKit
set_option linter.unusedVariables false
set_option linter.unusedSimpArgs false
attribute [local irreducible] Calls

theorem key_yes {t k : List UInt8} (h : Cl.key t = (k, true)) : ∃ r, t = Wire.textE k ++ r := by
  unfold Cl.key at h
  split at h
  · rename_i k' r e
    obtain rfl : k' = k := by simpa using h
    exact ⟨r, Wire.rText_inv e⟩
  · simp at h
theorem key_none {t k : List UInt8} (h : Cl.key t = (k, false)) : k = [] := by
  unfold Cl.key at h
  split at h
  · simp at h
  · simp at h; exact h
structure KeyOk (c : Cl.Clm) (k T : List UInt8) (is : Bool) : Prop where
  le : k.length ≤ 20000
  tle : is = true → T.length ≤ c.text.length
  take : is = true → c.text.take T.length = T
  ent : c.kind = 0 → is = true
  txt : c.text.length ≤ 20000
theorem keyOk {c : Cl.Clm} (h : Cl.right c = true) {k : List UInt8} {is : Bool} (hk : Cl.key c.text = (k, is)) : KeyOk c k (Wire.textE k) is := by
  have hb := Cl.right_bounds h
  cases is with
  | true =>
    obtain ⟨r, e⟩ := key_yes hk
    have hl : (Wire.textE k).length ≤ c.text.length := by rw [e, List.length_append]; omega
    refine ⟨?_, fun _ => hl, fun _ => by rw [e]; simp, fun _ => rfl, by omega⟩
    have : k.length ≤ (Wire.textE k).length := by simp only [Wire.textE, List.length_append]; omega
    omega
  | false =>
    have := key_none hk
    subst this
    refine ⟨by simp, (fun h => by cases h), (fun h => by cases h), fun h0 => ?_, by omega⟩
    unfold Cl.right at h
    rw [if_pos h0, hk] at h
    simp at h
theorem read_cases (l : List UInt8) : Cl.read l = (Cl.zero, false) ∨ ∃ c, Cl.read l = (c, true) ∧ Cl.right c = true ∧ Cl.text c = l := by
  cases h : Cl.read l with
  | mk c b =>
    cases b with
    | false => exact Or.inl (by have := Cl.read_no (s := l) (by rw [h]); rw [h] at this; rw [show c = Cl.zero from this])
    | true => exact Or.inr ⟨c, rfl, Cl.read_inv h⟩
set_option maxHeartbeats 2000000 in
set_option maxRecDepth 100000 in
theorem canon_law (s : ByteArray) (hz : s.size ≤ 9223372036854775807) (w : World) (g : Gl w) :
    Calls Tryd.prog 5 #[.string s] w fun e w' => e = .returned (.bool true) ∧ Nw w w' := by
  obtain ⟨l, hs⟩ : ∃ l, s.data.toList = l := ⟨_, rfl⟩
  have hl : l.length ≤ 9223372036854775807 := by rw [← hs, ← bs_size]; exact hz
  clear hz
  obtain rfl : s = ⟨l.toArray⟩ := by rw [← hs, bs_eta]
  clear hs
  rcases read_cases l with hr | ⟨c, hr, hrc, htx⟩
  · have Hr := Lib.hid hr; clear hr
    go_enter Tryd.func5, Tryd.ntmps5
    go_wp2_with fail
    (with_reducible refine (small_c _ g).mono ?_)
    rintro _ w1 ⟨rfl, u1⟩
    have g1 := g.upd u1
    go_wp2_with fail
    (with_reducible refine (read_not _ l (bs_list _) Hr.out hl _ g1).mono ?_)
    rintro _ w2 ⟨rfl, u2⟩
    replace u2 := u1.trans u2
    obtain ⟨_, _, _, _⟩ := one_claim (heap_new w2 (.cells #[.int .i64 0, .int .i64 0, .int .i64 0, .string ⟨#[]⟩] tC))
    go_wp2_with fail
    go_ret
    exact ⟨rfl, u2.trans (nw_alloc _ _)⟩
  · obtain ⟨k, is, hk⟩ : ∃ k is, Cl.key c.text = (k, is) := ⟨_, _, rfl⟩
    have ok := keyOk hrc hk
    have Hr := Lib.hid hr; clear hr
    have Hk := Lib.hid hk; clear hk
    have Hrc := Lib.hid hrc; clear hrc
    have Htx := Lib.hid htx; clear htx
    have i1 : I64C c := by
      have := parts_ok hl
      have h2 := Hr.out
      rw [read_eq] at h2
      split at h2
      · simp at h2; rw [← h2]; exact this
      · simp at h2
    go_enter Tryd.func5, Tryd.ntmps5
    go_wp2_with fail
    (with_reducible refine (small_c _ g).mono ?_)
    rintro _ w1 ⟨rfl, u1⟩
    have g1 := g.upd u1
    go_wp2_with fail
    (with_reducible refine (read_yes _ l c (bs_list _) Hr.out hl _ g1).mono ?_)
    rintro _ w2 ⟨rfl, u2⟩
    replace u2 := u1.trans (u2.trans (nw_alloc _ (.cells #[.int .i64 c.kind, .int .i64 c.n, .int .i64 c.time, .string ⟨c.text.toArray⟩] tC)))
    have k2 := heap_new w2 (.cells #[.int .i64 c.kind, .int .i64 c.n, .int .i64 c.time, .string ⟨c.text.toArray⟩] tC)
    have g2 := g.upd u2
    obtain ⟨_, _, _, _⟩ := one_claim k2
    have q := key_c ⟨c.text.toArray⟩ c.text (bs_list _) i1.z _ g2
    rw [Hk.out] at q
    have Q := Lib.hid q; clear q
    go_wp2_with fail
    (with_reducible refine (Q.out).mono ?_)
    rintro _ w3 ⟨rfl, u3⟩
    have k3 := u3.keep k2
    replace u3 := u2.trans u3
    have g3 := g.upd u3
    clear u1 g1 u2 g2 Q k2
    have hkl := ok.le
    go_wp2_with fail
    (with_reducible refine (Text_e ⟨k.toArray⟩ k (bs_list _) _ g3 (by omega)).mono ?_)
    rintro _ w4 ⟨rfl, u4⟩
    have k4 := u4.keep k3
    replace u4 := u3.trans u4
    have g4 := g.upd u4
    clear u3 g3 k3
    obtain ⟨_, _, _, _⟩ := one_claim k4
    generalize Wire.textE k = T at *
    have h1 := ok.tle
    have h2 := Lib.hid ok.take
    have h3 := ok.ent
    have htl := ok.txt
    clear ok
    cases is with
    | false =>
      have hk0 : c.kind ≠ 0 := fun e => by have := h3 e; cases this
      clear h1 h2 h3
      go_wp2_with fail
      (with_reducible refine (right_c c _ (bs_list _) i1 _ g4).mono ?_)
      rintro _ w5 ⟨rfl, u5⟩
      rw [Hrc.out]
      have k5 := u5.keep k4
      replace u5 := u4.trans u5
      have g5 := g.upd u5
      clear u4 g4 k4
      obtain ⟨_, _, _, _⟩ := one_claim k5
      go_wp2_with fail
      (with_reducible refine (text_c c _ (bs_list _) i1 _ g5).mono ?_)
      rintro _ w6 ⟨rfl, u6⟩
      rw [Htx.out]
      have k6 := u6.keep k5
      replace u6 := u5.trans u6
      obtain ⟨_, _, _, _⟩ := one_claim k6
      go_wp2_with fail
      all_goals go_ret
      all_goals exact ⟨rfl, u6⟩
    | true =>
      have h1' := h1 rfl
      have h2' := h2.out rfl
      clear h1 h2 h3
      have hm1 : (!(ByteArray.extract { data := c.text.toArray } 0 (min (T.length : Int) (c.text.length : Int)).toNat).toList == T) = false := by
        rw [show (min (T.length : Int) (c.text.length : Int)).toNat = T.length by omega, bs_toList, bs_extract_list, bs_list, List.drop_zero, Nat.sub_zero, h2']
        simp
      clear h2'
      go_wp2_with fail
      (with_reducible refine (right_c c _ (bs_list _) i1 _ g4).mono ?_)
      rintro _ w5 ⟨rfl, u5⟩
      rw [Hrc.out]
      have k5 := u5.keep k4
      replace u5 := u4.trans u5
      have g5 := g.upd u5
      clear u4 g4 k4
      obtain ⟨_, _, _, _⟩ := one_claim k5
      go_wp2_with fail
      (with_reducible refine (text_c c _ (bs_list _) i1 _ g5).mono ?_)
      rintro _ w6 ⟨rfl, u6⟩
      rw [Htx.out]
      have k6 := u6.keep k5
      replace u6 := u5.trans u6
      obtain ⟨_, _, _, _⟩ := one_claim k6
      go_wp2_with fail
      all_goals go_ret
      all_goals exact ⟨rfl, u6⟩
end Go.Proofs.YtnfjkojckffhmaaDoor
