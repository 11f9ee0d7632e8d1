/- The contracts of the reference of layer 6: Key, within, Right, Text, Read. The contracts of the reference of layer 6: Text, Read. -/
import Derived.Test.YtidmehiboceobaaDoorClaimW
import Derived.Test.YtidmehiboceobaaDoorRef
namespace Go.Proofs.YtidmehiboceobaaDoor
open Go.RowKit
set_option linter.unusedVariables false
set_option linter.unusedSimpArgs false
attribute [local irreducible] Calls

theorem key_q (s : ByteArray) (l : List UInt8) (hs : s.data.toList = l) (hl : l.length ≤ 9223372036854775807) (w : World) (g : Gl w) :
    Calls Tryd.prog 67 #[.string s] w fun e w' => e = .returned (.tuple #[.string ⟨(Cl.key l).1.toArray⟩, .bool (Cl.key l).2]) ∧ Nw w w' := by
  have Hs := Lib.hid hs; clear hs
  replace hl : ((some l : Wire.St).getD []).length ≤ 9223372036854775807 := hl
  have hke : Cl.key l = match Wire.rText (some l) with
    | (k, some _) => (k, true)
    | (_, none) => ([], false) := rfl
  have Hke := Lib.hid hke; clear hke
  go_enter Tryd.func67, Tryd.ntmps67
  go_wp2_with fail
  (with_reducible refine (OpenQ s l Hs.out _ g).mono ?_)
  rintro _ w1 ⟨b, rfl, hb, h1, u1⟩
  have hbw : w.heap.size ≤ b := hb
  go_wp2_with fail
  (with_reducible refine (TextQ b _ _ h1 hl).mono ?_)
  rintro _ w2 ⟨rfl, h2, u2⟩
  replace u2 : Nw w w2 := u1.trans' u2 (fun k hk e => by omega)
  clear h1 u1 hb
  cases hr : Wire.rText (some l) with
  | mk k st =>
  rw [hr] at Hke h2
  clear hr
  have c1 := h2.c1
  cases st with
  | none =>
    go_wp2_with fail
    go_ret2
    exact ⟨by rw [Hke.out]; rfl, u2⟩
  | some r =>
    go_wp2_with fail
    go_ret2
    exact ⟨by rw [Hke.out]; rfl, u2⟩
theorem within_q (n a b : Int) (x : Bool) (h : Cl.within n a b = x) (w : World) :
    Calls Tryd.prog 68 #[.int .i64 n, .int .i64 a, .int .i64 b] w fun e w' => e = .returned (.bool x) ∧ Nw w w' := by
  subst h
  by_cases h1 : a ≤ n
  · by_cases h2 : n ≤ b
    · have hw : Hid (Cl.within n a b = true) := by show _ = _; unfold Cl.within; simp [h1, h2]
      go_enter Tryd.func68, Tryd.ntmps68
      go_wp2_with fail
      go_ret
      exact ⟨by rw [hw.out]; rfl, Upd.refl _ _⟩
    · have hw : Hid (Cl.within n a b = false) := by show _ = _; unfold Cl.within; simp [h1, h2]
      go_enter Tryd.func68, Tryd.ntmps68
      go_wp2_with fail
      go_ret
      exact ⟨by rw [hw.out]; rfl, Upd.refl _ _⟩
  · have hw : Hid (Cl.within n a b = false) := by show _ = _; unfold Cl.within; simp [h1]
    go_enter Tryd.func68, Tryd.ntmps68
    go_wp2_with fail
    go_ret
    exact ⟨by rw [hw.out]; rfl, Upd.refl _ _⟩
theorem right_long {c : Cl.Clm} (h : ¬ c.text.length ≤ 20000) : Cl.right c = false := by
  rw [← Bool.not_eq_true]
  exact fun e => h (Cl.right_bounds e).2.2.2.2.2.2
set_option maxHeartbeats 2000000 in
theorem right_q (c : Cl.Clm) (s : ByteArray) (hs : s.data.toList = c.text) (hi : I64C c) (w : World) (g : Gl w) :
    Calls Tryd.prog 58 #[.agg #[.int .i64 c.kind, .int .i64 c.n, .int .i64 c.time, .string s]] w fun e w' => e = .returned (.bool (Cl.right c)) ∧ Nw w w' := by
  obtain rfl : s = ⟨c.text.toArray⟩ := by rw [← hs, bs_eta]
  clear hs
  have g1 := g.upd (nw_alloc w (.cells #[.int .i64 c.kind, .int .i64 c.n, .int .i64 c.time, .string ⟨c.text.toArray⟩] tC))
  have u1 := nw_alloc w (.cells #[.int .i64 c.kind, .int .i64 c.n, .int .i64 c.time, .string ⟨c.text.toArray⟩] tC)
  have k1 := heap_new w (.cells #[.int .i64 c.kind, .int .i64 c.n, .int .i64 c.time, .string ⟨c.text.toArray⟩] tC)
  by_cases hl : c.text.length ≤ 20000
  · obtain ⟨k, n, t, x⟩ := c
    dsimp only at hl g1 u1 k1
    have hiz := hi.z
    dsimp only at hiz
    have K1 := Lib.hid k1; clear k1
    by_cases h0 : k = 0
    · subst h0
      have Hr : Hid (Cl.right ⟨0, n, t, x⟩ = (Cl.within n 0 199999 && decide (t = 0) && (Cl.key x).2)) := by show _ = _; unfold Cl.right; simp [hl]
      go_enter Tryd.func58, Tryd.ntmps58
      go_wp2_with fail
      (with_reducible refine (key_q ⟨x.toArray⟩ x (bs_list _) hiz _ g1).mono ?_)
      rintro _ w2 ⟨rfl, u2⟩
      have k2 := u2.keep K1.out
      replace u2 := u1.trans u2
      obtain ⟨_, _, _, _⟩ := one_claim k2
      generalize (Cl.key x).2 = ok at *
      go_wp2_with fail
      (with_reducible refine (within_q n 0 199999 _ rfl _).mono ?_)
      rintro _ w3 ⟨rfl, u3⟩
      have k3 := u3.keep k2
      replace u3 := u2.trans u3
      obtain ⟨_, _, _, _⟩ := one_claim k3
      generalize Cl.within n 0 199999 = x1 at *
      by_cases ht : t = 0
      · subst ht
        cases x1 <;> cases ok
        all_goals go_wp2_with fail
        all_goals go_ret
        all_goals exact ⟨ret_bool (by rw [Hr.out]; first | rfl | simp [*]), u3⟩
      · cases x1
        all_goals go_wp2_with fail
        all_goals go_ret
        all_goals exact ⟨ret_bool (by rw [Hr.out]; first | rfl | simp [*]), u3⟩
    by_cases h1 : k = 1
    · subst h1
      have Hr : Hid (Cl.right ⟨1, n, t, x⟩ = (Cl.within n 0 200000 && Cl.within t 0 1073741824 && decide (x = []))) := by show _ = _; unfold Cl.right; simp
      obtain ⟨_, _, _, _⟩ := one_claim K1.out
      go_enter Tryd.func58, Tryd.ntmps58
      go_wp2_with fail
      (with_reducible refine (within_q n 0 200000 _ rfl _).mono ?_)
      rintro _ w3 ⟨rfl, u3⟩
      have k3 := u3.keep K1.out
      replace u3 := u1.trans u3
      obtain ⟨_, _, _, _⟩ := one_claim k3
      generalize Cl.within n 0 200000 = x1 at *
      cases x1 with
      | false => 
        go_wp2_with fail
        go_ret
        exact ⟨ret_bool (by rw [Hr.out]; first | rfl | simp [*]), u3⟩
      | true =>
        go_wp2_with fail
        (with_reducible refine (within_q t 0 1073741824 _ rfl _).mono ?_)
        rintro _ w4 ⟨rfl, u4⟩
        have k4 := u4.keep k3
        replace u3 := u3.trans u4
        obtain ⟨_, _, _, _⟩ := one_claim k4
        generalize Cl.within t 0 1073741824 = x2 at *
        cases x2 <;> cases x
        all_goals go_wp2_with fail
        all_goals go_ret
        all_goals exact ⟨ret_bool (by rw [Hr.out]; first | rfl | simp [*]), u3⟩
    by_cases h2 : k = 2
    · subst h2
      have Hr : Hid (Cl.right ⟨2, n, t, x⟩ = (Cl.within n 0 200000 && decide (t = 0))) := by show _ = _; unfold Cl.right; simp [hl]
      obtain ⟨_, _, _, _⟩ := one_claim K1.out
      go_enter Tryd.func58, Tryd.ntmps58
      go_wp2_with fail
      (with_reducible refine (within_q n 0 200000 _ rfl _).mono ?_)
      rintro _ w3 ⟨rfl, u3⟩
      have k3 := u3.keep K1.out
      replace u3 := u1.trans u3
      obtain ⟨_, _, _, _⟩ := one_claim k3
      generalize Cl.within n 0 200000 = x1 at *
      by_cases ht : t = 0
      · subst ht
        cases x1
        all_goals go_wp2_with fail
        all_goals go_ret
        all_goals exact ⟨ret_bool (by rw [Hr.out]; first | rfl | simp [*]), u3⟩
      · cases x1
        all_goals go_wp2_with fail
        all_goals go_ret
        all_goals exact ⟨ret_bool (by rw [Hr.out]; first | rfl | simp [*]), u3⟩
    by_cases h3 : k = 3
    · subst h3
      have Hr : Hid (Cl.right ⟨3, n, t, x⟩ = (Cl.within n 0 1073741824 && decide (t = 0))) := by show _ = _; unfold Cl.right; simp [hl]
      obtain ⟨_, _, _, _⟩ := one_claim K1.out
      go_enter Tryd.func58, Tryd.ntmps58
      go_wp2_with fail
      (with_reducible refine (within_q n 0 1073741824 _ rfl _).mono ?_)
      rintro _ w3 ⟨rfl, u3⟩
      have k3 := u3.keep K1.out
      replace u3 := u1.trans u3
      obtain ⟨_, _, _, _⟩ := one_claim k3
      generalize Cl.within n 0 1073741824 = x1 at *
      by_cases ht : t = 0
      · subst ht
        cases x1
        all_goals go_wp2_with fail
        all_goals go_ret
        all_goals exact ⟨ret_bool (by rw [Hr.out]; first | rfl | simp [*]), u3⟩
      · cases x1
        all_goals go_wp2_with fail
        all_goals go_ret
        all_goals exact ⟨ret_bool (by rw [Hr.out]; first | rfl | simp [*]), u3⟩
    by_cases h4 : k = 4
    · subst h4
      have Hr : Hid (Cl.right ⟨4, n, t, x⟩ = (Cl.within n 0 1073741824 && Cl.within t 0 1073741824)) := by show _ = _; unfold Cl.right; simp [hl]
      obtain ⟨_, _, _, _⟩ := one_claim K1.out
      go_enter Tryd.func58, Tryd.ntmps58
      go_wp2_with fail
      (with_reducible refine (within_q n 0 1073741824 _ rfl _).mono ?_)
      rintro _ w3 ⟨rfl, u3⟩
      have k3 := u3.keep K1.out
      replace u3 := u1.trans u3
      obtain ⟨_, _, _, _⟩ := one_claim k3
      generalize Cl.within n 0 1073741824 = x1 at *
      cases x1 with
      | false => 
        go_wp2_with fail
        go_ret
        exact ⟨ret_bool (by rw [Hr.out]; first | rfl | simp [*]), u3⟩
      | true =>
        go_wp2_with fail
        (with_reducible refine (within_q t 0 1073741824 _ rfl _).mono ?_)
        rintro _ w4 ⟨rfl, u4⟩
        have k4 := u4.keep k3
        replace u3 := u3.trans u4
        generalize Cl.within t 0 1073741824 = x2 at *
        cases x2
        all_goals go_wp2_with fail
        all_goals go_ret
        all_goals exact ⟨ret_bool (by rw [Hr.out]; first | rfl | simp [*]), u3⟩
    have Hr : Hid (Cl.right ⟨k, n, t, x⟩ = false) := by show _ = _; unfold Cl.right; simp [h0, h1, h2, h3, h4]
    obtain ⟨_, _, _, _⟩ := one_claim K1.out
    go_enter Tryd.func58, Tryd.ntmps58
    go_wp2_with fail
    go_ret
    exact ⟨ret_bool Hr.out.symm, u1⟩
  · have Hr := Lib.hid (right_long hl)
    replace hl : 20000 < c.text.length := by omega
    go_enter Tryd.func58, Tryd.ntmps58
    go_wp2_with fail
    go_ret
    exact ⟨ret_bool Hr.out.symm, u1⟩
end Go.Proofs.YtidmehiboceobaaDoor
namespace Go.Proofs.YtidmehiboceobaaDoor
open Go.RowKit
set_option linter.unusedVariables false
set_option linter.unusedSimpArgs false
attribute [local irreducible] Calls

set_option maxHeartbeats 1000000 in
theorem ctext_q (c : Cl.Clm) (s : ByteArray) (hs : s.data.toList = c.text) (hi : I64C c) (w : World) (g : Gl w) :
    Calls Tryd.prog 47 #[.agg #[.int .i64 c.kind, .int .i64 c.n, .int .i64 c.time, .string s]] w fun e w' => e = .returned (.string ⟨(Cl.text c).toArray⟩) ∧ Nw w w' := by
  have hb := heap_new w (.cells #[.int .i64 c.kind, .int .i64 c.n, .int .i64 c.time, .string s] 75)
  have Hb := Lib.hid hb; clear hb
  have Hs := Lib.hid hs; clear hs
  have g0 := g.upd (nw_alloc w (.cells #[.int .i64 c.kind, .int .i64 c.n, .int .i64 c.time, .string s] 75))
  have hrb := Lib.hid (Cl.right_bounds (c := c))
  have htx : Cl.text c = if Cl.right c then Cl.enc c else [] := rfl
  have Htx := Lib.hid htx; clear htx
  go_enter Tryd.func47, Tryd.ntmps47
  go_wp2_with fail
  (with_reducible refine (right_q c s Hs.out hi _ g0).mono ?_)
  rintro _ w1 ⟨rfl, u1⟩
  have hb1 := u1.keep Hb.out
  replace u1 := (nw_alloc _ _).trans u1
  clear g0 Hb
  cases hr : Cl.right c with
  | false =>
    rw [hr] at Htx hrb
    go_wp2_with fail
    go_ret
    exact ⟨by rw [Htx.out]; rfl, u1⟩
  | true =>
    have hbd := hrb.out hr
    rw [hr] at Htx
    clear hrb hr
    have g1 := g.upd u1
    have c0 : ∀ i : Later w1, i.1.cell? ⟨w.heap.size, 0, none⟩ = some (.int .i64 c.kind) := fun i => by rw [cells_cell (i.nw.keep hb1)]; rfl
    have c1 : ∀ i : Later w1, i.1.cell? ⟨w.heap.size, 1, none⟩ = some (.int .i64 c.n) := fun i => by rw [cells_cell (i.nw.keep hb1)]; rfl
    have c2 : ∀ i : Later w1, i.1.cell? ⟨w.heap.size, 2, none⟩ = some (.int .i64 c.time) := fun i => by rw [cells_cell (i.nw.keep hb1)]; rfl
    have c3 : ∀ i : Later w1, i.1.cell? ⟨w.heap.size, 3, none⟩ = some (.string s) := fun i => by rw [cells_cell (i.nw.keep hb1)]; rfl
    have i1 : I64 c.kind := hi.k
    have i2 : I64 c.n := hi.n
    have i3 : I64 c.time := hi.t
    have hz : c.text.length ≤ 140737488351232 := by omega
    have l1 : (ByteArray.mk (Wire.numE c.kind).toArray).size ≤ 22 := by rw [bs_size, bs_list, Wire.numE, if_neg (by omega)]; have := itoa_le i1; simp only [Wire.intE, List.length_append, List.length_cons, List.length_nil]; omega
    have l2 : (ByteArray.mk (Wire.numE c.n).toArray).size ≤ 22 := by rw [bs_size, bs_list, Wire.numE, if_neg (by omega)]; have := itoa_le i2; simp only [Wire.intE, List.length_append, List.length_cons, List.length_nil]; omega
    have l3 : (ByteArray.mk (Wire.numE c.time).toArray).size ≤ 22 := by rw [bs_size, bs_list, Wire.numE, if_neg (by omega)]; have := itoa_le i3; simp only [Wire.intE, List.length_append, List.length_cons, List.length_nil]; omega
    have l4 : (ByteArray.mk (Wire.textE c.text).toArray).size ≤ 20100 := by rw [bs_size, bs_list]; have := itoa_le (n := (c.text.length : Int)) (by unfold I64; omega); simp only [Wire.textE, List.length_append, List.length_cons, List.length_nil]; omega
    have henc : Cl.enc c = (ByteArray.mk (Wire.numE c.kind).toArray).data.toList ++ ((ByteArray.mk (Wire.numE c.n).toArray).data.toList ++ ((ByteArray.mk (Wire.numE c.time).toArray).data.toList ++ (ByteArray.mk (Wire.textE c.text).toArray).data.toList)) := by simp only [bs_list]; rfl
    have q1 := Num_q c.kind
    have q2 := Num_q c.n
    have q3 := Num_q c.time
    have q4 := Text_q s c.text Hs.out
    generalize ByteArray.mk (Wire.numE c.kind).toArray = t1 at *
    generalize ByteArray.mk (Wire.numE c.n).toArray = t2 at *
    generalize ByteArray.mk (Wire.numE c.time).toArray = t3 at *
    generalize ByteArray.mk (Wire.textE c.text).toArray = t4 at *
    have Henc := Lib.hid henc; clear henc hbd
    have Q1 := Lib.hid q1; clear q1
    have Q2 := Lib.hid q2; clear q2
    have Q3 := Lib.hid q3; clear q3
    have Q4 := Lib.hid q4; clear q4
    go_wp2_with fail
    refine wp_region_nw (by kernel_rfl) (by kernel_rfl) ?_
    repeat (go_big_quiet_step ((first | (go_at_call 59; first | exact later_call (Q1.out _ i1) | exact later_call (Q2.out _ i2) | exact later_call (Q3.out _ i3)) | (go_at_call 60; exact later_call (Q4.out _ hz)))))
    refine wpQuiet_nil ?_
    intro w3 u3
    replace u3 := later_out u3
    go_wp2_with fail
    go_ret
    refine ⟨ret_bs ?_, u1.trans u3⟩
    rw [Htx.out, if_pos trivial, Henc.out]
    simp only [bs_append_list, List.append_assoc]
end Go.Proofs.YtidmehiboceobaaDoor
