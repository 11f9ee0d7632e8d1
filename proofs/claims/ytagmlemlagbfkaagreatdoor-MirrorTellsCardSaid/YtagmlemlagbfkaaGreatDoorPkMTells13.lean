/- The contracts of the reference of layer 6: Key, within, Right, Text, Read. The contracts of the reference of layer 6: Text, Read. -/
import Derived.Test.YtagmlemlagbfkaaGreatDoorPkMTells1
import Derived.Test.YtagmlemlagbfkaaGreatDoorPkMTells12
namespace Go.Proofs.YtagmlemlagbfkaaGreatDoor
open Go.RowKit
set_option linter.unusedVariables false
set_option linter.unusedSimpArgs false
attribute [local irreducible] Calls

theorem key_q (s : ByteArray) (l : List UInt8) (hs : s.data.toList = l) (hl : l.length ≤ 9223372036854775807) (w : World) (g : Gl w) :
    Calls Tryz.prog 79 #[.string s] w fun e w' => e = .returned (.tuple #[.string ⟨(Cl.key l).1.toArray⟩, .bool (Cl.key l).2]) ∧ Nw w w' := by
  have Hs := Lib.hid hs; clear hs
  replace hl : ((some l : Wire.St).getD []).length ≤ 9223372036854775807 := hl
  have hke : Cl.key l = match Wire.rText (some l) with
    | (k, some _) => (k, true)
    | (_, none) => ([], false) := rfl
  have Hke := Lib.hid hke; clear hke
  go_enter Tryz.func79, Tryz.ntmps79
  go_wp2_with fail
  (with_reducible refine (OpenQ s l Hs.out _ g).mono ?_)
  rintro _ w1 ⟨b, rfl, hb, h1, u1⟩
  have hbw : w.heap.size ≤ b := hb
  go_wp2_with fail
  (with_reducible refine (TextQ b _ _ h1 hl).mono ?_)
  rintro _ w2 ⟨rfl, h2, u2⟩
  replace u2 : Nw w w2 := u1.trans' u2 (fun k hk e => by omega)
  clear h1 u1 hb
  cases hr : Wire.rText (some l) with
  | mk k st =>
  rw [hr] at Hke h2
  clear hr
  have c1 := h2.c1
  cases st with
  | none =>
    go_wp2_with fail
    go_ret2
    exact ⟨by rw [Hke.out]; rfl, u2⟩
  | some r =>
    go_wp2_with fail
    go_ret2
    exact ⟨by rw [Hke.out]; rfl, u2⟩
theorem within_q (n a b : Int) (x : Bool) (h : Cl.within n a b = x) (w : World) :
    Calls Tryz.prog 190 #[.int .i64 n, .int .i64 a, .int .i64 b] w fun e w' => e = .returned (.bool x) ∧ Nw w w' := by
  subst h
  by_cases h1 : a ≤ n
  · by_cases h2 : n ≤ b
    · have hw : Hid (Cl.within n a b = true) := by show _ = _; unfold Cl.within; simp [h1, h2]
      go_enter Tryz.func190, Tryz.ntmps190
      go_wp2_with fail
      go_ret
      exact ⟨by rw [hw.out]; rfl, Upd.refl _ _⟩
    · have hw : Hid (Cl.within n a b = false) := by show _ = _; unfold Cl.within; simp [h1, h2]
      go_enter Tryz.func190, Tryz.ntmps190
      go_wp2_with fail
      go_ret
      exact ⟨by rw [hw.out]; rfl, Upd.refl _ _⟩
  · have hw : Hid (Cl.within n a b = false) := by show _ = _; unfold Cl.within; simp [h1]
    go_enter Tryz.func190, Tryz.ntmps190
    go_wp2_with fail
    go_ret
    exact ⟨by rw [hw.out]; rfl, Upd.refl _ _⟩
theorem right_long {c : Cl.Clm} (h : ¬ c.text.length ≤ 20000) : Cl.right c = false := by
  rw [← Bool.not_eq_true]
  exact fun e => h (Cl.right_bounds e).2.2.2.2.2.2
set_option maxHeartbeats 2000000 in
theorem right_q (c : Cl.Clm) (s : ByteArray) (hs : s.data.toList = c.text) (hi : I64C c) (w : World) (g : Gl w) :
    Calls Tryz.prog 143 #[.agg #[.int .i64 c.kind, .int .i64 c.n, .int .i64 c.time, .string s]] w fun e w' => e = .returned (.bool (Cl.right c)) ∧ Nw w w' := by
  obtain rfl : s = ⟨c.text.toArray⟩ := by rw [← hs, bs_eta]
  clear hs
  have g1 := g.upd (nw_alloc w (.cells #[.int .i64 c.kind, .int .i64 c.n, .int .i64 c.time, .string ⟨c.text.toArray⟩] tC))
  have u1 := nw_alloc w (.cells #[.int .i64 c.kind, .int .i64 c.n, .int .i64 c.time, .string ⟨c.text.toArray⟩] tC)
  have k1 := heap_new w (.cells #[.int .i64 c.kind, .int .i64 c.n, .int .i64 c.time, .string ⟨c.text.toArray⟩] tC)
  by_cases hl : c.text.length ≤ 20000
  · obtain ⟨k, n, t, x⟩ := c
    dsimp only at hl g1 u1 k1
    have hiz := hi.z
    dsimp only at hiz
    have K1 := Lib.hid k1; clear k1
    by_cases h0 : k = 0
    · subst h0
      have Hr : Hid (Cl.right ⟨0, n, t, x⟩ = (Cl.within n 0 199999 && decide (t = 0) && (Cl.key x).2)) := by show _ = _; unfold Cl.right; simp [hl]
      go_enter Tryz.func143, Tryz.ntmps143
      go_wp2_with fail
      (with_reducible refine (key_q ⟨x.toArray⟩ x (bs_list _) hiz _ g1).mono ?_)
      rintro _ w2 ⟨rfl, u2⟩
      have k2 := u2.keep K1.out
      replace u2 := u1.trans u2
      obtain ⟨_, _, _, _⟩ := one_claim k2
      generalize (Cl.key x).2 = ok at *
      go_wp2_with fail
      (with_reducible refine (within_q n 0 199999 _ rfl _).mono ?_)
      rintro _ w3 ⟨rfl, u3⟩
      have k3 := u3.keep k2
      replace u3 := u2.trans u3
      obtain ⟨_, _, _, _⟩ := one_claim k3
      generalize Cl.within n 0 199999 = x1 at *
      by_cases ht : t = 0
      · subst ht
        cases x1 <;> cases ok
        all_goals go_wp2_with fail
        all_goals go_ret
        all_goals exact ⟨ret_bool (by rw [Hr.out]; first | rfl | simp [*]), u3⟩
      · cases x1
        all_goals go_wp2_with fail
        all_goals go_ret
        all_goals exact ⟨ret_bool (by rw [Hr.out]; first | rfl | simp [*]), u3⟩
    by_cases h1 : k = 1
    · subst h1
      have Hr : Hid (Cl.right ⟨1, n, t, x⟩ = (Cl.within n 0 200000 && Cl.within t 0 1073741824 && decide (x = []))) := by show _ = _; unfold Cl.right; simp
      obtain ⟨_, _, _, _⟩ := one_claim K1.out
      go_enter Tryz.func143, Tryz.ntmps143
      go_wp2_with fail
      (with_reducible refine (within_q n 0 200000 _ rfl _).mono ?_)
      rintro _ w3 ⟨rfl, u3⟩
      have k3 := u3.keep K1.out
      replace u3 := u1.trans u3
      obtain ⟨_, _, _, _⟩ := one_claim k3
      generalize Cl.within n 0 200000 = x1 at *
      cases x1 with
      | false => 
        go_wp2_with fail
        go_ret
        exact ⟨ret_bool (by rw [Hr.out]; first | rfl | simp [*]), u3⟩
      | true =>
        go_wp2_with fail
        (with_reducible refine (within_q t 0 1073741824 _ rfl _).mono ?_)
        rintro _ w4 ⟨rfl, u4⟩
        have k4 := u4.keep k3
        replace u3 := u3.trans u4
        obtain ⟨_, _, _, _⟩ := one_claim k4
        generalize Cl.within t 0 1073741824 = x2 at *
        cases x2 <;> cases x
        all_goals go_wp2_with fail
        all_goals go_ret
        all_goals exact ⟨ret_bool (by rw [Hr.out]; first | rfl | simp [*]), u3⟩
    by_cases h2 : k = 2
    · subst h2
      have Hr : Hid (Cl.right ⟨2, n, t, x⟩ = (Cl.within n 0 200000 && decide (t = 0))) := by show _ = _; unfold Cl.right; simp [hl]
      obtain ⟨_, _, _, _⟩ := one_claim K1.out
      go_enter Tryz.func143, Tryz.ntmps143
      go_wp2_with fail
      (with_reducible refine (within_q n 0 200000 _ rfl _).mono ?_)
      rintro _ w3 ⟨rfl, u3⟩
      have k3 := u3.keep K1.out
      replace u3 := u1.trans u3
      obtain ⟨_, _, _, _⟩ := one_claim k3
      generalize Cl.within n 0 200000 = x1 at *
      by_cases ht : t = 0
      · subst ht
        cases x1
        all_goals go_wp2_with fail
        all_goals go_ret
        all_goals exact ⟨ret_bool (by rw [Hr.out]; first | rfl | simp [*]), u3⟩
      · cases x1
        all_goals go_wp2_with fail
        all_goals go_ret
        all_goals exact ⟨ret_bool (by rw [Hr.out]; first | rfl | simp [*]), u3⟩
    by_cases h3 : k = 3
    · subst h3
      have Hr : Hid (Cl.right ⟨3, n, t, x⟩ = (Cl.within n 0 1073741824 && decide (t = 0))) := by show _ = _; unfold Cl.right; simp [hl]
      obtain ⟨_, _, _, _⟩ := one_claim K1.out
      go_enter Tryz.func143, Tryz.ntmps143
      go_wp2_with fail
      (with_reducible refine (within_q n 0 1073741824 _ rfl _).mono ?_)
      rintro _ w3 ⟨rfl, u3⟩
      have k3 := u3.keep K1.out
      replace u3 := u1.trans u3
      obtain ⟨_, _, _, _⟩ := one_claim k3
      generalize Cl.within n 0 1073741824 = x1 at *
      by_cases ht : t = 0
      · subst ht
        cases x1
        all_goals go_wp2_with fail
        all_goals go_ret
        all_goals exact ⟨ret_bool (by rw [Hr.out]; first | rfl | simp [*]), u3⟩
      · cases x1
        all_goals go_wp2_with fail
        all_goals go_ret
        all_goals exact ⟨ret_bool (by rw [Hr.out]; first | rfl | simp [*]), u3⟩
    by_cases h4 : k = 4
    · subst h4
      have Hr : Hid (Cl.right ⟨4, n, t, x⟩ = (Cl.within n 0 1073741824 && Cl.within t 0 1073741824)) := by show _ = _; unfold Cl.right; simp [hl]
      obtain ⟨_, _, _, _⟩ := one_claim K1.out
      go_enter Tryz.func143, Tryz.ntmps143
      go_wp2_with fail
      (with_reducible refine (within_q n 0 1073741824 _ rfl _).mono ?_)
      rintro _ w3 ⟨rfl, u3⟩
      have k3 := u3.keep K1.out
      replace u3 := u1.trans u3
      obtain ⟨_, _, _, _⟩ := one_claim k3
      generalize Cl.within n 0 1073741824 = x1 at *
      cases x1 with
      | false => 
        go_wp2_with fail
        go_ret
        exact ⟨ret_bool (by rw [Hr.out]; first | rfl | simp [*]), u3⟩
      | true =>
        go_wp2_with fail
        (with_reducible refine (within_q t 0 1073741824 _ rfl _).mono ?_)
        rintro _ w4 ⟨rfl, u4⟩
        have k4 := u4.keep k3
        replace u3 := u3.trans u4
        generalize Cl.within t 0 1073741824 = x2 at *
        cases x2
        all_goals go_wp2_with fail
        all_goals go_ret
        all_goals exact ⟨ret_bool (by rw [Hr.out]; first | rfl | simp [*]), u3⟩
    have Hr : Hid (Cl.right ⟨k, n, t, x⟩ = false) := by show _ = _; unfold Cl.right; simp [h0, h1, h2, h3, h4]
    obtain ⟨_, _, _, _⟩ := one_claim K1.out
    go_enter Tryz.func143, Tryz.ntmps143
    go_wp2_with fail
    go_ret
    exact ⟨ret_bool Hr.out.symm, u1⟩
  · have Hr := Lib.hid (right_long hl)
    replace hl : 20000 < c.text.length := by omega
    go_enter Tryz.func143, Tryz.ntmps143
    go_wp2_with fail
    go_ret
    exact ⟨ret_bool Hr.out.symm, u1⟩
end Go.Proofs.YtagmlemlagbfkaaGreatDoor
namespace Go.Proofs.YtagmlemlagbfkaaGreatDoor
open Go.RowKit
set_option linter.unusedVariables false
set_option linter.unusedSimpArgs false
attribute [local irreducible] Calls

set_option maxHeartbeats 1000000 in
theorem ctext_q (c : Cl.Clm) (s : ByteArray) (hs : s.data.toList = c.text) (hi : I64C c) (w : World) (g : Gl w) :
    Calls Tryz.prog 189 #[.agg #[.int .i64 c.kind, .int .i64 c.n, .int .i64 c.time, .string s]] w fun e w' => e = .returned (.string ⟨(Cl.text c).toArray⟩) ∧ Nw w w' := by
  have hb := heap_new w (.cells #[.int .i64 c.kind, .int .i64 c.n, .int .i64 c.time, .string s] 138)
  have Hb := Lib.hid hb; clear hb
  have Hs := Lib.hid hs; clear hs
  have g0 := g.upd (nw_alloc w (.cells #[.int .i64 c.kind, .int .i64 c.n, .int .i64 c.time, .string s] 138))
  have hrb := Lib.hid (Cl.right_bounds (c := c))
  have htx : Cl.text c = if Cl.right c then Cl.enc c else [] := rfl
  have Htx := Lib.hid htx; clear htx
  go_enter Tryz.func189, Tryz.ntmps189
  go_wp2_with fail
  (with_reducible refine (right_q c s Hs.out hi _ g0).mono ?_)
  rintro _ w1 ⟨rfl, u1⟩
  have hb1 := u1.keep Hb.out
  replace u1 := (nw_alloc _ _).trans u1
  clear g0 Hb
  cases hr : Cl.right c with
  | false =>
    rw [hr] at Htx hrb
    go_wp2_with fail
    go_ret
    exact ⟨by rw [Htx.out]; rfl, u1⟩
  | true =>
    have hbd := hrb.out hr
    rw [hr] at Htx
    clear hrb hr
    have g1 := g.upd u1
    have c0 : ∀ i : Later w1, i.1.cell? ⟨w.heap.size, 0, none⟩ = some (.int .i64 c.kind) := fun i => by rw [cells_cell (i.nw.keep hb1)]; rfl
    have c1 : ∀ i : Later w1, i.1.cell? ⟨w.heap.size, 1, none⟩ = some (.int .i64 c.n) := fun i => by rw [cells_cell (i.nw.keep hb1)]; rfl
    have c2 : ∀ i : Later w1, i.1.cell? ⟨w.heap.size, 2, none⟩ = some (.int .i64 c.time) := fun i => by rw [cells_cell (i.nw.keep hb1)]; rfl
    have c3 : ∀ i : Later w1, i.1.cell? ⟨w.heap.size, 3, none⟩ = some (.string s) := fun i => by rw [cells_cell (i.nw.keep hb1)]; rfl
    have i1 : I64 c.kind := hi.k
    have i2 : I64 c.n := hi.n
    have i3 : I64 c.time := hi.t
    have hz : c.text.length ≤ 140737488351232 := by omega
    have l1 : (ByteArray.mk (Wire.numE c.kind).toArray).size ≤ 22 := by rw [bs_size, bs_list, Wire.numE, if_neg (by omega)]; have := itoa_le i1; simp only [Wire.intE, List.length_append, List.length_cons, List.length_nil]; omega
    have l2 : (ByteArray.mk (Wire.numE c.n).toArray).size ≤ 22 := by rw [bs_size, bs_list, Wire.numE, if_neg (by omega)]; have := itoa_le i2; simp only [Wire.intE, List.length_append, List.length_cons, List.length_nil]; omega
    have l3 : (ByteArray.mk (Wire.numE c.time).toArray).size ≤ 22 := by rw [bs_size, bs_list, Wire.numE, if_neg (by omega)]; have := itoa_le i3; simp only [Wire.intE, List.length_append, List.length_cons, List.length_nil]; omega
    have l4 : (ByteArray.mk (Wire.textE c.text).toArray).size ≤ 20100 := by rw [bs_size, bs_list]; have := itoa_le (n := (c.text.length : Int)) (by unfold I64; omega); simp only [Wire.textE, List.length_append, List.length_cons, List.length_nil]; omega
    have henc : Cl.enc c = (ByteArray.mk (Wire.numE c.kind).toArray).data.toList ++ ((ByteArray.mk (Wire.numE c.n).toArray).data.toList ++ ((ByteArray.mk (Wire.numE c.time).toArray).data.toList ++ (ByteArray.mk (Wire.textE c.text).toArray).data.toList)) := by simp only [bs_list]; rfl
    have q1 := Num_q c.kind
    have q2 := Num_q c.n
    have q3 := Num_q c.time
    have q4 := Text_q s c.text Hs.out
    generalize ByteArray.mk (Wire.numE c.kind).toArray = t1 at *
    generalize ByteArray.mk (Wire.numE c.n).toArray = t2 at *
    generalize ByteArray.mk (Wire.numE c.time).toArray = t3 at *
    generalize ByteArray.mk (Wire.textE c.text).toArray = t4 at *
    have Henc := Lib.hid henc; clear henc hbd
    have Q1 := Lib.hid q1; clear q1
    have Q2 := Lib.hid q2; clear q2
    have Q3 := Lib.hid q3; clear q3
    have Q4 := Lib.hid q4; clear q4
    go_wp2_with fail
    refine wp_region_nw (by kernel_rfl) (by kernel_rfl) ?_
    repeat (go_big_quiet_step ((first | (go_at_call 101; first | exact later_call (Q1.out _ i1) | exact later_call (Q2.out _ i2) | exact later_call (Q3.out _ i3)) | (go_at_call 80; exact later_call (Q4.out _ hz)))))
    refine wpQuiet_nil ?_
    intro w3 u3
    replace u3 := later_out u3
    go_wp2_with fail
    go_ret
    refine ⟨ret_bs ?_, u1.trans u3⟩
    rw [Htx.out, if_pos trivial, Henc.out]
    simp only [bs_append_list, List.append_assoc]
theorem read_results_q {w : World} {bp : Nat} {tmps : Array Value} {v0 v1 v2 v3 : Value} {T : TypeId} {fz : Nat × Nat} (h : w.heap[bp]? = some (.cells #[v0, v1, v2, v3] T fz)) (ht : tmps.getD 2 undef = .pointer (some ⟨bp, 0, none⟩)) :
    (results Tryz.f89 tmps).run Tryz.prog w = .ok (.tuple #[.agg #[v0, v1, v2, v3], tmps.getD 3 undef]) w := by
  have c0 : w.cell? ⟨bp, 0, none⟩ = some v0 := by rw [cells_cell h]; rfl
  have c1 : w.cell? ⟨bp, 1, none⟩ = some v1 := by rw [cells_cell h]; rfl
  have c2 : w.cell? ⟨bp, 2, none⟩ = some v2 := by rw [cells_cell h]; rfl
  have c3 : w.cell? ⟨bp, 3, none⟩ = some v3 := by rw [cells_cell h]; rfl
  clear h
  have ht2 : tmps[2]?.getD undef = .pointer (some ⟨bp, 0, none⟩) := by simpa using ht
  clear ht
  simp [results, Tryz.results89, go_sem, ht2, c0, c1, c2, c3]
set_option maxHeartbeats 1000000 in
theorem cread_q (s : ByteArray) (l : List UInt8) (hs : s.data.toList = l) (hl : l.length ≤ 9223372036854775807) (w : World) (g : Gl w) :
    Calls Tryz.prog 89 #[.string s] w fun e w' => e = .returned (.tuple #[clmV (Cl.read l).1, errV (Cl.read l).2]) ∧ Nw w w' := by
  have Hs := Lib.hid hs; clear hs
  have hre := Lib.hid (read_eq l)
  have hp := parts_ok hl
  have hpe : Cl.parts (some l) = (⟨(Wire.rNum (some l)).1, (Wire.rNum (Wire.rNum (some l)).2).1, (Wire.rNum (Wire.rNum (Wire.rNum (some l)).2).2).1, (Wire.rText (Wire.rNum (Wire.rNum (Wire.rNum (some l)).2).2).2).1⟩, (Wire.rText (Wire.rNum (Wire.rNum (Wire.rNum (some l)).2).2).2).2) := rfl
  have q1 := Wire.rNumber_le (some l) 59 0
  have q2 := Wire.rNumber_le (Wire.rNum (some l)).2 59 0
  have q3 := Wire.rNumber_le (Wire.rNum (Wire.rNum (some l)).2).2 59 0
  have hl0 : ((some l : Wire.St).getD []).length ≤ 9223372036854775807 := hl
  have g0 := g.upd (nw_alloc w (.cells #[.int .i64 0, .int .i64 0, .int .i64 0, .string ⟨#[]⟩] 138))
  have hl1 : ((Wire.rNum (some l)).2.getD []).length ≤ 9223372036854775807 := Nat.le_trans q1 hl0
  have hl2 : ((Wire.rNum (Wire.rNum (some l)).2).2.getD []).length ≤ 9223372036854775807 := Nat.le_trans q2 hl1
  have hl3 : ((Wire.rNum (Wire.rNum (Wire.rNum (some l)).2).2).2.getD []).length ≤ 9223372036854775807 := Nat.le_trans q3 hl2
  clear q1 q2 q3
  have hbr := heap_new w (.cells #[.int .i64 0, .int .i64 0, .int .i64 0, .string ⟨#[]⟩] 138)
  have Hbr := Lib.hid hbr; clear hbr
  go_enter Tryz.func89, Tryz.ntmps89
  go_wp2_with fail
  (with_reducible refine (OpenQ s l Hs.out _ g0).mono ?_)
  rintro _ w1 ⟨b, rfl, hb, h1, u1⟩
  have hbr1 := Nw.keep u1 Hbr.out
  have hbw : w.heap.size < b := by have : w.heap.size + 1 ≤ b := by simpa using hb
                                   omega
  replace u1 := (nw_alloc _ _).trans u1
  have g1 := g.upd u1
  clear g0 Hbr hb
  go_wp2_with fail
  (with_reducible refine (NumQ b _ _ h1 hl0).mono ?_)
  rintro _ w2 ⟨rfl, h2, u2⟩
  have hbr2 := Upd.keep u2 hbr1 (fun e => by omega)
  replace u2 : Nw w w2 := u1.trans' u2 (fun k hk e => by omega)
  have m2 := nw_alloc w2 (.cells #[.int .i64 (Wire.rNum (some l)).1, .int .i64 0, .int .i64 0, .string ⟨#[]⟩] 138)
  have k2 := heap_new w2 (.cells #[.int .i64 (Wire.rNum (some l)).1, .int .i64 0, .int .i64 0, .string ⟨#[]⟩] 138)
  replace h2 := h2.nw m2
  have hbc : b < w2.heap.size := by have := h2.lt; have hne : b ≠ w2.heap.size := fun e => by
                                      have e2 := h2.2
                                      rw [e, k2] at e2
                                      cases e2
                                    simp at this; omega
  replace u2 := u2.trans m2
  replace hbr2 := m2.keep hbr2
  have K2 := Lib.hid k2; clear k2
  clear hbr1 h1 u1 g1 m2
  go_wp2_with fail
  (with_reducible refine (NumQ b _ _ h2 hl1).mono ?_)
  rintro _ w3 ⟨rfl, h3, u3⟩
  have hbw2 : w.heap.size ≤ w2.heap.size := by omega
  generalize w2.heap.size = bc at *
  have k3 := Upd.keep u3 K2.out (fun e => by omega)
  have hbr3 := Upd.keep u3 hbr2 (fun e => by omega)
  replace u3 : Nw w w3 := u2.trans' u3 (fun k hk e => by omega)
  clear h2 u2 hbr2 K2
  have hgb := g.big
  have hf1 := cells_frozen k3 1
  have hc1 := cells_cell k3 1
  have s1 : (w3.setCell ⟨bc, 1, none⟩ (.int .i64 (Wire.rNum (Wire.rNum (some l)).2).1)).heap[bc]? = some (.cells #[.int .i64 (Wire.rNum (some l)).1, .int .i64 (Wire.rNum (Wire.rNum (some l)).2).1, .int .i64 0, .string ⟨#[]⟩] 138 (0, 0)) := setCell_block k3 1 _
  have m1 : Upd (· = bc) w3 (w3.setCell ⟨bc, 1, none⟩ (.int .i64 (Wire.rNum (Wire.rNum (some l)).2).1)) := (Upd.refl _ w3).set1 (by omega) 1 _
  replace h3 := h3.upd m1 (fun e => by omega)
  replace hbr3 := m1.keep hbr3 (fun e => by omega)
  replace u3 : Nw w (w3.setCell ⟨bc, 1, none⟩ (.int .i64 (Wire.rNum (Wire.rNum (some l)).2).1)) := u3.trans' m1 (fun k hk e => by omega)
  replace k3 := s1
  clear s1 m1
  go_wp2_with fail
  clear hf1 hc1
  (with_reducible refine (NumQ b _ _ h3 hl2).mono ?_)
  rintro _ w4 ⟨rfl, h4, u4⟩
  have k4 := Upd.keep u4 k3 (fun e => by omega)
  have hbr4 := Upd.keep u4 hbr3 (fun e => by omega)
  replace u4 : Nw w w4 := u3.trans' u4 (fun k hk e => by omega)
  clear h3 u3 hbr3 k3
  have hf2 := cells_frozen k4 2
  have hc2 := cells_cell k4 2
  have s2 : (w4.setCell ⟨bc, 2, none⟩ (.int .i64 (Wire.rNum (Wire.rNum (Wire.rNum (some l)).2).2).1)).heap[bc]? = some (.cells #[.int .i64 (Wire.rNum (some l)).1, .int .i64 (Wire.rNum (Wire.rNum (some l)).2).1, .int .i64 (Wire.rNum (Wire.rNum (Wire.rNum (some l)).2).2).1, .string ⟨#[]⟩] 138 (0, 0)) := setCell_block k4 2 _
  have m2 : Upd (· = bc) w4 (w4.setCell ⟨bc, 2, none⟩ (.int .i64 (Wire.rNum (Wire.rNum (Wire.rNum (some l)).2).2).1)) := (Upd.refl _ w4).set1 (by omega) 2 _
  replace h4 := h4.upd m2 (fun e => by omega)
  replace hbr4 := m2.keep hbr4 (fun e => by omega)
  replace u4 : Nw w (w4.setCell ⟨bc, 2, none⟩ (.int .i64 (Wire.rNum (Wire.rNum (Wire.rNum (some l)).2).2).1)) := u4.trans' m2 (fun k hk e => by omega)
  replace k4 := s2
  clear s2 m2
  go_wp2_with fail
  clear hf2 hc2
  (with_reducible refine (TextQ b _ _ h4 hl3).mono ?_)
  rintro _ w5 ⟨rfl, h5, u5⟩
  have k5 := Upd.keep u5 k4 (fun e => by omega)
  have hbr5 := Upd.keep u5 hbr4 (fun e => by omega)
  replace u5 : Nw w w5 := u4.trans' u5 (fun k hk e => by omega)
  clear h4 u4 hbr4 k4
  have hf3 := cells_frozen k5 3
  have hc3 := cells_cell k5 3
  have s3 : (w5.setCell ⟨bc, 3, none⟩ (.string ⟨(Wire.rText (Wire.rNum (Wire.rNum (Wire.rNum (some l)).2).2).2).1.toArray⟩)).heap[bc]? = some (.cells #[.int .i64 (Wire.rNum (some l)).1, .int .i64 (Wire.rNum (Wire.rNum (some l)).2).1, .int .i64 (Wire.rNum (Wire.rNum (Wire.rNum (some l)).2).2).1, .string ⟨(Wire.rText (Wire.rNum (Wire.rNum (Wire.rNum (some l)).2).2).2).1.toArray⟩] 138 (0, 0)) := setCell_block k5 3 _
  have m3 : Upd (· = bc) w5 (w5.setCell ⟨bc, 3, none⟩ (.string ⟨(Wire.rText (Wire.rNum (Wire.rNum (Wire.rNum (some l)).2).2).2).1.toArray⟩)) := (Upd.refl _ w5).set1 (by omega) 3 _
  replace h5 := h5.upd m3 (fun e => by omega)
  replace hbr5 := m3.keep hbr5 (fun e => by omega)
  replace u5 : Nw w (w5.setCell ⟨bc, 3, none⟩ (.string ⟨(Wire.rText (Wire.rNum (Wire.rNum (Wire.rNum (some l)).2).2).2).1.toArray⟩)) := u5.trans' m3 (fun k hk e => by omega)
  replace k5 := s3
  clear s3 m3
  go_wp2_with fail
  clear hf3 hc3
  (with_reducible refine (DoneQ b _ _ h5).mono ?_)
  rintro _ _ ⟨rfl, rfl⟩
  have hc6 := k5
  have h6 := h5
  have hbr6 := hbr5
  have u6 := u5
  have hne : bc ≠ w.heap.size := by omega
  clear k5 h5 hbr5 u5
  generalize w5.setCell ⟨bc, 3, none⟩ (.string ⟨(Wire.rText (Wire.rNum (Wire.rNum (Wire.rNum (some l)).2).2).2).1.toArray⟩) = w6 at *
  generalize (Wire.rNum (some l)).1 = x1 at *
  generalize (Wire.rNum (Wire.rNum (some l)).2).1 = x2 at *
  generalize (Wire.rNum (Wire.rNum (Wire.rNum (some l)).2).2).1 = x3 at *
  generalize (Wire.rText (Wire.rNum (Wire.rNum (Wire.rNum (some l)).2).2).2).1 = x4 at *
  generalize (Wire.rText (Wire.rNum (Wire.rNum (Wire.rNum (some l)).2).2).2).2 = st at *
  rw [hpe] at hre hp
  clear hpe
  have g6 := g.upd u6
  have c0 : w6.cell? ⟨bc, 0, none⟩ = some (.int .i64 x1) := by rw [cells_cell hc6]; rfl
  have c1 : w6.cell? ⟨bc, 1, none⟩ = some (.int .i64 x2) := by rw [cells_cell hc6]; rfl
  have c2 : w6.cell? ⟨bc, 2, none⟩ = some (.int .i64 x3) := by rw [cells_cell hc6]; rfl
  have c3 : w6.cell? ⟨bc, 3, none⟩ = some (.string ⟨x4.toArray⟩) := by rw [cells_cell hc6]; rfl
  have e0 : w6.cell? ⟨w.heap.size, 0, none⟩ = some (.int .i64 0) := by rw [cells_cell hbr6]; rfl
  have e1 : w6.cell? ⟨w.heap.size, 1, none⟩ = some (.int .i64 0) := by rw [cells_cell hbr6]; rfl
  have e2 : w6.cell? ⟨w.heap.size, 2, none⟩ = some (.int .i64 0) := by rw [cells_cell hbr6]; rfl
  have e3 : w6.cell? ⟨w.heap.size, 3, none⟩ = some (.string ⟨#[]⟩) := by rw [cells_cell hbr6]; rfl
  have f0 := cells_frozen hbr6 0
  have f1 := cells_frozen hbr6 1
  have f2 := cells_frozen hbr6 2
  have f3 := cells_frozen hbr6 3
  by_cases hst : st = some []
  · subst hst
    go_wp2_with fail
    (with_reducible refine (right_q ⟨x1, x2, x3, x4⟩ _ (bs_list _) hp _ g6).mono ?_)
    rintro _ w7 ⟨rfl, u7⟩
    have hc7 := Nw.keep u7 hc6
    have hbr7 := Nw.keep u7 hbr6
    have d0 : w7.cell? ⟨bc, 0, none⟩ = some (.int .i64 x1) := by rw [cells_cell hc7]; rfl
    have d1 : w7.cell? ⟨bc, 1, none⟩ = some (.int .i64 x2) := by rw [cells_cell hc7]; rfl
    have d2 : w7.cell? ⟨bc, 2, none⟩ = some (.int .i64 x3) := by rw [cells_cell hc7]; rfl
    have d3 : w7.cell? ⟨bc, 3, none⟩ = some (.string ⟨x4.toArray⟩) := by rw [cells_cell hc7]; rfl
    have k0 : w7.cell? ⟨w.heap.size, 0, none⟩ = some (.int .i64 0) := by rw [cells_cell hbr7]; rfl
    have k1 : w7.cell? ⟨w.heap.size, 1, none⟩ = some (.int .i64 0) := by rw [cells_cell hbr7]; rfl
    have k2 : w7.cell? ⟨w.heap.size, 2, none⟩ = some (.int .i64 0) := by rw [cells_cell hbr7]; rfl
    have k3 : w7.cell? ⟨w.heap.size, 3, none⟩ = some (.string ⟨#[]⟩) := by rw [cells_cell hbr7]; rfl
    replace f0 := cells_frozen hbr7 0
    replace f1 := cells_frozen hbr7 1
    replace f2 := cells_frozen hbr7 2
    replace f3 := cells_frozen hbr7 3
    replace u7 := u6.trans u7
    cases hr : Cl.right ⟨x1, x2, x3, x4⟩ with
    | false =>
      rw [hr] at hre
      go_wp2_with fail
      (try simp only [Exit.inBlock, Exit.then])
      refine bodyPost_ret (read_results_q (set4 hbr7) rfl) rfl ?_
      refine ⟨?_, set4_nw u7 (Nat.le_refl _) hgb _ _ _ _⟩
      rw [hre.out, if_neg (by simp)]; rfl
    | true =>
      rw [hr] at hre
      go_wp2_with fail
      (try simp only [Exit.inBlock, Exit.then])
      refine bodyPost_ret (read_results_q (set4 hbr7) rfl) rfl ?_
      refine ⟨?_, set4_nw u7 (Nat.le_refl _) hgb _ _ _ _⟩
      rw [hre.out, if_pos (by simp)]; rfl
  · go_wp2_with fail
    (try simp only [Exit.inBlock, Exit.then])
    refine bodyPost_ret (read_results_q (set4 hbr6) rfl) rfl ?_
    refine ⟨?_, set4_nw u6 (Nat.le_refl _) hgb _ _ _ _⟩
    rw [hre.out, if_neg (fun h => hst h.1)]; rfl
end Go.Proofs.YtagmlemlagbfkaaGreatDoor
