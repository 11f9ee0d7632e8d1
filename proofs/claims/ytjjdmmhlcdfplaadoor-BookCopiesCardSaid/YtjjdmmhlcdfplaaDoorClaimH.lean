/- The contracts of the reference of layer 6: Key, within, Right, Text, Read. -/
import Derived.Test.YtjjdmmhlcdfplaaDoorClaimD
import Derived.Test.YtjjdmmhlcdfplaaDoorRefS
namespace Go.Proofs.YtjjdmmhlcdfplaaDoor
open Go.RowKit
set_option linter.unusedVariables false
set_option linter.unusedSimpArgs false
attribute [local irreducible] Calls

theorem key_q (s : ByteArray) (l : List UInt8) (hs : s.data.toList = l) (hl : l.length ≤ 9223372036854775807) (w : World) (g : Gl w) :
    Calls Tryd.prog 51 #[.string s] w fun e w' => e = .returned (.tuple #[.string ⟨(Cl.key l).1.toArray⟩, .bool (Cl.key l).2]) ∧ Nw w w' := by
  have Hs := Lib.hid hs; clear hs
  replace hl : ((some l : Wire.St).getD []).length ≤ 9223372036854775807 := hl
  have hke : Cl.key l = match Wire.rText (some l) with
    | (k, some _) => (k, true)
    | (_, none) => ([], false) := rfl
  have Hke := Lib.hid hke; clear hke
  go_enter Tryd.func51, Tryd.ntmps51
  go_wp2_with fail
  (with_reducible refine (OpenQ s l Hs.out _ g).mono ?_)
  rintro _ w1 ⟨b, rfl, hb, h1, u1⟩
  have hbw : w.heap.size ≤ b := hb
  go_wp2_with fail
  (with_reducible refine (TextQ b _ _ h1 hl).mono ?_)
  rintro _ w2 ⟨rfl, h2, u2⟩
  replace u2 : Nw w w2 := u1.trans' u2 (fun k hk e => by omega)
  clear h1 u1 hb
  cases hr : Wire.rText (some l) with
  | mk k st =>
  rw [hr] at Hke h2
  clear hr
  have c1 := h2.c1
  cases st with
  | none =>
    go_wp2_with fail
    go_ret2
    exact ⟨by rw [Hke.out]; rfl, u2⟩
  | some r =>
    go_wp2_with fail
    go_ret2
    exact ⟨by rw [Hke.out]; rfl, u2⟩
theorem within_q (n a b : Int) (x : Bool) (h : Cl.within n a b = x) (w : World) :
    Calls Tryd.prog 84 #[.int .i64 n, .int .i64 a, .int .i64 b] w fun e w' => e = .returned (.bool x) ∧ Nw w w' := by
  subst h
  by_cases h1 : a ≤ n
  · by_cases h2 : n ≤ b
    · have hw : Hid (Cl.within n a b = true) := by show _ = _; unfold Cl.within; simp [h1, h2]
      go_enter Tryd.func84, Tryd.ntmps84
      go_wp2_with fail
      go_ret
      exact ⟨by rw [hw.out]; rfl, Upd.refl _ _⟩
    · have hw : Hid (Cl.within n a b = false) := by show _ = _; unfold Cl.within; simp [h1, h2]
      go_enter Tryd.func84, Tryd.ntmps84
      go_wp2_with fail
      go_ret
      exact ⟨by rw [hw.out]; rfl, Upd.refl _ _⟩
  · have hw : Hid (Cl.within n a b = false) := by show _ = _; unfold Cl.within; simp [h1]
    go_enter Tryd.func84, Tryd.ntmps84
    go_wp2_with fail
    go_ret
    exact ⟨by rw [hw.out]; rfl, Upd.refl _ _⟩
theorem right_long {c : Cl.Clm} (h : ¬ c.text.length ≤ 20000) : Cl.right c = false := by
  rw [← Bool.not_eq_true]
  exact fun e => h (Cl.right_bounds e).2.2.2.2.2.2
set_option maxHeartbeats 2000000 in
theorem right_q (c : Cl.Clm) (s : ByteArray) (hs : s.data.toList = c.text) (hi : I64C c) (w : World) (g : Gl w) :
    Calls Tryd.prog 71 #[.agg #[.int .i64 c.kind, .int .i64 c.n, .int .i64 c.time, .string s]] w fun e w' => e = .returned (.bool (Cl.right c)) ∧ Nw w w' := by
  obtain rfl : s = ⟨c.text.toArray⟩ := by rw [← hs, bs_eta]
  clear hs
  have g1 := g.upd (nw_alloc w (.cells #[.int .i64 c.kind, .int .i64 c.n, .int .i64 c.time, .string ⟨c.text.toArray⟩] tC))
  have u1 := nw_alloc w (.cells #[.int .i64 c.kind, .int .i64 c.n, .int .i64 c.time, .string ⟨c.text.toArray⟩] tC)
  have k1 := heap_new w (.cells #[.int .i64 c.kind, .int .i64 c.n, .int .i64 c.time, .string ⟨c.text.toArray⟩] tC)
  by_cases hl : c.text.length ≤ 20000
  · obtain ⟨k, n, t, x⟩ := c
    dsimp only at hl g1 u1 k1
    have hiz := hi.z
    dsimp only at hiz
    have K1 := Lib.hid k1; clear k1
    by_cases h0 : k = 0
    · subst h0
      have Hr : Hid (Cl.right ⟨0, n, t, x⟩ = (Cl.within n 0 199999 && decide (t = 0) && (Cl.key x).2)) := by show _ = _; unfold Cl.right; simp [hl]
      go_enter Tryd.func71, Tryd.ntmps71
      go_wp2_with fail
      (with_reducible refine (key_q ⟨x.toArray⟩ x (bs_list _) hiz _ g1).mono ?_)
      rintro _ w2 ⟨rfl, u2⟩
      have k2 := u2.keep K1.out
      replace u2 := u1.trans u2
      obtain ⟨_, _, _, _⟩ := one_claim k2
      generalize (Cl.key x).2 = ok at *
      go_wp2_with fail
      (with_reducible refine (within_q n 0 199999 _ rfl _).mono ?_)
      rintro _ w3 ⟨rfl, u3⟩
      have k3 := u3.keep k2
      replace u3 := u2.trans u3
      obtain ⟨_, _, _, _⟩ := one_claim k3
      generalize Cl.within n 0 199999 = x1 at *
      by_cases ht : t = 0
      · subst ht
        cases x1 <;> cases ok
        all_goals go_wp2_with fail
        all_goals go_ret
        all_goals exact ⟨ret_bool (by rw [Hr.out]; first | rfl | simp [*]), u3⟩
      · cases x1
        all_goals go_wp2_with fail
        all_goals go_ret
        all_goals exact ⟨ret_bool (by rw [Hr.out]; first | rfl | simp [*]), u3⟩
    by_cases h1 : k = 1
    · subst h1
      have Hr : Hid (Cl.right ⟨1, n, t, x⟩ = (Cl.within n 0 200000 && Cl.within t 0 1073741824 && decide (x = []))) := by show _ = _; unfold Cl.right; simp
      obtain ⟨_, _, _, _⟩ := one_claim K1.out
      go_enter Tryd.func71, Tryd.ntmps71
      go_wp2_with fail
      (with_reducible refine (within_q n 0 200000 _ rfl _).mono ?_)
      rintro _ w3 ⟨rfl, u3⟩
      have k3 := u3.keep K1.out
      replace u3 := u1.trans u3
      obtain ⟨_, _, _, _⟩ := one_claim k3
      generalize Cl.within n 0 200000 = x1 at *
      cases x1 with
      | false => 
        go_wp2_with fail
        go_ret
        exact ⟨ret_bool (by rw [Hr.out]; first | rfl | simp [*]), u3⟩
      | true =>
        go_wp2_with fail
        (with_reducible refine (within_q t 0 1073741824 _ rfl _).mono ?_)
        rintro _ w4 ⟨rfl, u4⟩
        have k4 := u4.keep k3
        replace u3 := u3.trans u4
        obtain ⟨_, _, _, _⟩ := one_claim k4
        generalize Cl.within t 0 1073741824 = x2 at *
        cases x2 <;> cases x
        all_goals go_wp2_with fail
        all_goals go_ret
        all_goals exact ⟨ret_bool (by rw [Hr.out]; first | rfl | simp [*]), u3⟩
    by_cases h2 : k = 2
    · subst h2
      have Hr : Hid (Cl.right ⟨2, n, t, x⟩ = (Cl.within n 0 200000 && decide (t = 0))) := by show _ = _; unfold Cl.right; simp [hl]
      obtain ⟨_, _, _, _⟩ := one_claim K1.out
      go_enter Tryd.func71, Tryd.ntmps71
      go_wp2_with fail
      (with_reducible refine (within_q n 0 200000 _ rfl _).mono ?_)
      rintro _ w3 ⟨rfl, u3⟩
      have k3 := u3.keep K1.out
      replace u3 := u1.trans u3
      obtain ⟨_, _, _, _⟩ := one_claim k3
      generalize Cl.within n 0 200000 = x1 at *
      by_cases ht : t = 0
      · subst ht
        cases x1
        all_goals go_wp2_with fail
        all_goals go_ret
        all_goals exact ⟨ret_bool (by rw [Hr.out]; first | rfl | simp [*]), u3⟩
      · cases x1
        all_goals go_wp2_with fail
        all_goals go_ret
        all_goals exact ⟨ret_bool (by rw [Hr.out]; first | rfl | simp [*]), u3⟩
    by_cases h3 : k = 3
    · subst h3
      have Hr : Hid (Cl.right ⟨3, n, t, x⟩ = (Cl.within n 0 1073741824 && decide (t = 0))) := by show _ = _; unfold Cl.right; simp [hl]
      obtain ⟨_, _, _, _⟩ := one_claim K1.out
      go_enter Tryd.func71, Tryd.ntmps71
      go_wp2_with fail
      (with_reducible refine (within_q n 0 1073741824 _ rfl _).mono ?_)
      rintro _ w3 ⟨rfl, u3⟩
      have k3 := u3.keep K1.out
      replace u3 := u1.trans u3
      obtain ⟨_, _, _, _⟩ := one_claim k3
      generalize Cl.within n 0 1073741824 = x1 at *
      by_cases ht : t = 0
      · subst ht
        cases x1
        all_goals go_wp2_with fail
        all_goals go_ret
        all_goals exact ⟨ret_bool (by rw [Hr.out]; first | rfl | simp [*]), u3⟩
      · cases x1
        all_goals go_wp2_with fail
        all_goals go_ret
        all_goals exact ⟨ret_bool (by rw [Hr.out]; first | rfl | simp [*]), u3⟩
    by_cases h4 : k = 4
    · subst h4
      have Hr : Hid (Cl.right ⟨4, n, t, x⟩ = (Cl.within n 0 1073741824 && Cl.within t 0 1073741824)) := by show _ = _; unfold Cl.right; simp [hl]
      obtain ⟨_, _, _, _⟩ := one_claim K1.out
      go_enter Tryd.func71, Tryd.ntmps71
      go_wp2_with fail
      (with_reducible refine (within_q n 0 1073741824 _ rfl _).mono ?_)
      rintro _ w3 ⟨rfl, u3⟩
      have k3 := u3.keep K1.out
      replace u3 := u1.trans u3
      obtain ⟨_, _, _, _⟩ := one_claim k3
      generalize Cl.within n 0 1073741824 = x1 at *
      cases x1 with
      | false => 
        go_wp2_with fail
        go_ret
        exact ⟨ret_bool (by rw [Hr.out]; first | rfl | simp [*]), u3⟩
      | true =>
        go_wp2_with fail
        (with_reducible refine (within_q t 0 1073741824 _ rfl _).mono ?_)
        rintro _ w4 ⟨rfl, u4⟩
        have k4 := u4.keep k3
        replace u3 := u3.trans u4
        generalize Cl.within t 0 1073741824 = x2 at *
        cases x2
        all_goals go_wp2_with fail
        all_goals go_ret
        all_goals exact ⟨ret_bool (by rw [Hr.out]; first | rfl | simp [*]), u3⟩
    have Hr : Hid (Cl.right ⟨k, n, t, x⟩ = false) := by show _ = _; unfold Cl.right; simp [h0, h1, h2, h3, h4]
    obtain ⟨_, _, _, _⟩ := one_claim K1.out
    go_enter Tryd.func71, Tryd.ntmps71
    go_wp2_with fail
    go_ret
    exact ⟨ret_bool Hr.out.symm, u1⟩
  · have Hr := Lib.hid (right_long hl)
    replace hl : 20000 < c.text.length := by omega
    go_enter Tryd.func71, Tryd.ntmps71
    go_wp2_with fail
    go_ret
    exact ⟨ret_bool Hr.out.symm, u1⟩
end Go.Proofs.YtjjdmmhlcdfplaaDoor
