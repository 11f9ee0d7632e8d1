/- small, of chapter 03. -/
import Derived.Test.YtiambnllidingaaGreatDoorLawJ0
namespace Go.Proofs.YtiambnllidingaaGreatDoor
open Go.RowKit
set_option linter.unusedVariables false
set_option linter.unusedSimpArgs false
attribute [local irreducible] Calls

theorem I64_s {n : Int} (h : -1000000 ≤ n ∧ n ≤ 1000000) : I64 n := by unfold I64; omega
theorem OS.some_ {w : World} {db : Nat} {D' : Dk.Disk} {j : Jr.Jn} {F : Nat → Prop} {pv : Value} {z : World} (h : OS w db D' (some j) F pv z) : ∃ jb, pv = .pointer (some ⟨jb, 0, none⟩) ∧ GS w db (some (jb, j)) D' F z := by
  obtain ⟨jp, h1, h2, h3⟩ := h
  cases jp with
  | none => cases h1
  | some p =>
    obtain ⟨jb, j'⟩ := p
    obtain rfl : j' = j := by simpa using h1
    exact ⟨jb, h2, h3⟩
theorem OS.none_ {w : World} {db : Nat} {D' : Dk.Disk} {F : Nat → Prop} {pv : Value} {z : World} (h : OS w db D' none F pv z) : pv = .pointer none ∧ GS w db none D' F z := by
  obtain ⟨jp, h1, h2, h3⟩ := h
  cases jp with
  | none => exact ⟨h2, h3⟩
  | some p => cases h1
/-- The journal's blocks are kept from now on. -/
theorem GS.freeze {w : World} {db : Nat} {p : Nat × Jr.Jn} {D : Dk.Disk} {F : Nat → Prop} {z : World} (h : GS w db (some p) D F z) : ∃ x, x.jb = p.1 ∧ JrnAt w.heap.size z db x p.2 ∧ GS w db none D (fun k => F k ∨ x.foot k) z := by
  obtain ⟨d, e, h1, h2, h3, h4⟩ := h
  obtain ⟨x, e2, h5, h6, h7⟩ := h4 p rfl
  exact ⟨x, e2, h5, d, e, h1, h2, fun k hk => hk.elim (h3 k) (fun s => ⟨(h5.foot_lt s).2, fun q => h6 k q s⟩), fun q hq => by cases hq⟩
theorem bs_lit (a : Array UInt8) : (⟨a⟩ : ByteArray) = ⟨a.toList.toArray⟩ := by simp
set_option maxHeartbeats 1000000 in
set_option maxRecDepth 100000 in
theorem small_c (w : World) (g : Gl w) : Calls Tryz.prog 7 #[] w fun e w' => e = .returned (.bool true) ∧ Nw w w' := by
  have hn := Lib.hid (new_t w g)
  go_enter Tryz.func7, Tryz.ntmps7
  go_wp2_with fail
  (with_reducible refine (hn.out).mono ?_)
  rintro _ w1 ⟨db, rfl, s1⟩
  have ho := open_t s1 g (f := 3) (I64_s (by decide))
  rw [Jr.x1] at ho
  have Ho := Lib.hid ho
  clear ho hn
  go_wp2_with fail
  (with_reducible refine (Ho.out).mono ?_)
  rintro _ w2 ⟨pv, rfl, o2, _⟩
  obtain ⟨jb, rfl, s2⟩ := o2.some_
  have ha := append_t s2 g Jr.bAB (by decide)
  dsimp only at ha
  rw [Jr.x2] at ha
  have Ha : Hid (Calls Tryz.prog 15 #[.pointer (some ⟨jb, 0, none⟩), .string ⟨#[97, 98]⟩] w2 _) := ha
  clear ha Ho
  go_wp2_with fail
  (with_reducible refine (Ha.out).mono ?_)
  rintro _ w3 ⟨rfl, s3, _⟩
  have ha := append_t s3 g [] (by decide)
  dsimp only at ha
  rw [Jr.x3] at ha
  have Ha2 : Hid (Calls Tryz.prog 15 #[.pointer (some ⟨jb, 0, none⟩), .string ⟨#[]⟩] w3 _) := ha
  clear ha Ha
  go_wp2_with fail
  (with_reducible refine (Ha2.out).mono ?_)
  rintro _ w4 ⟨rfl, s4, _⟩
  have hr := read_t s4 (f := 3) (i := 0) (n := 99) (I64_s (by decide)) (I64_s (by decide)) (I64_s (by decide))
  rw [Jr.x4] at hr
  have Hr := Lib.hid hr
  have hw := write_t s4 g (f := 4) (i := 0) (I64_s (by decide)) (I64_s (by decide)) Jr.xBytes (by decide)
  rw [Jr.x5] at hw
  have Hw : Hid (Calls Tryz.prog 54 #[.pointer (some ⟨db, 0, none⟩), .int .i64 4, .int .i64 0, .string ⟨#[50, 58, 97, 98, 44, 50, 57, 51, 59, 49, 58, 97, 44, 57, 56, 59]⟩] w4 _) := hw
  clear hr hw Ha2
  go_wp2_with fail
  (with_reducible refine (Hr.out).mono ?_)
  rintro _ _ ⟨rfl, rfl⟩
  go_wp2_with fail
  (with_reducible refine (Hw.out).mono ?_)
  rintro _ w5 ⟨rfl, s5, _⟩
  obtain ⟨x, e5, j5, t5⟩ := s5.freeze
  dsimp only at e5 j5
  subst e5
  have ho := open_t t5 g (f := 4) (I64_s (by decide))
  rw [Jr.x6] at ho
  have Ho := Lib.hid ho
  clear ho Hr Hw
  go_wp2_with fail
  (with_reducible refine (Ho.out).mono ?_)
  rintro _ w6 ⟨pv, rfl, o6, u6⟩
  obtain ⟨kb, rfl, s6⟩ := o6.some_
  have j6 := j5.upd u6 (fun k hk s => s.1 (Or.inr hk))
  have hl := Len_c j6
  have hg := Get_c j6 0 (I64_s (by decide))
  have hz := size_t s6 (f := 4) (I64_s (by decide))
  rw [Jr.x7] at hz
  have Hz := Lib.hid hz
  have Hl := Lib.hid hl
  have Hg := Lib.hid hg
  have ha := all_t s6 g
  have Ha3 := Lib.hid ha
  have q0 := Sum_c [] (by decide) w6
  have q1 := Sum_c [97] (by decide) w6
  have q2 := Sum_c [97, 98] (by decide) w6
  rw [Jr.x8.1] at q0
  rw [Jr.x8.2.1] at q1
  rw [Jr.x8.2.2] at q2
  have Q0 : Hid (Calls Tryz.prog 13 #[.string ⟨#[]⟩] w6 _) := q0
  have Q1 : Hid (Calls Tryz.prog 13 #[.string ⟨#[97]⟩] w6 _) := q1
  have Q2 : Hid (Calls Tryz.prog 13 #[.string ⟨#[97, 98]⟩] w6 _) := q2
  have S6 := Lib.hid s6
  clear hl hg hz ha q0 q1 q2 Ho s6 o6 j5 j6 s5 t5
  go_wp2_with (first | (go_at_call 13; first | ((with_reducible refine Q0.out.mono ?_); rintro _ _ ⟨rfl, rfl⟩) | ((with_reducible refine Q1.out.mono ?_); rintro _ _ ⟨rfl, rfl⟩) | ((with_reducible refine Q2.out.mono ?_); rintro _ _ ⟨rfl, rfl⟩)) | (go_at_call 55; (with_reducible refine Hl.out.mono ?_); rintro _ _ ⟨rfl, rfl⟩) | (go_at_call 56; (with_reducible refine Hg.out.mono ?_); rintro _ _ ⟨rfl, rfl⟩))
  (with_reducible refine (Ha3.out).mono ?_)
  rintro _ w7 ⟨v7, rfl, own7, u7⟩
  have o8 := owns_emptyD
  have sl7 := Sl.of_owns own7
  obtain ⟨av, cv, rfl⟩ := own_slD own7
  have hst := fun (z : World) (u : Nw (w7.alloc (.cells #[.string ⟨#[97, 98]⟩] tStrJ)) z) => SameTextsQ w6.heap.size w7.heap.size 0 (w7.heap.size + 1) (.slice av 1 cv) (.slice (some ⟨w7.heap.size, 0, none⟩) 1 1) [Jr.bAB] [Jr.bAB] z ((Sl.nw sl7 (nw_alloc w7 _)).nw u) (Or.inr ⟨w7.heap.size, 0, 1, rfl, Nat.le_refl _, by decide, Nat.zero_le _, Nat.lt_succ_self _, by have := u.size; simp at this; omega, fun i hi => by
    obtain rfl : i = 0 := by simp at hi; exact hi
    rw [cells_cell (Nw.keep u (heap_new w7 _))]; rfl⟩)
  have Hst := Lib.hid hst
  have S7 := Lib.hid (S6.out.nw (u7.trans (nw_alloc w7 (.cells #[.string ⟨#[97, 98]⟩] tStrJ))))
  clear hst sl7 own7 o8
  go_wp2_with (go_at_call 27; (with_reducible refine (Hst.out _ (Upd.refl _ _)).mono ?_); rintro _ w8 ⟨rfl, u8⟩)
  have s8 := Lib.hid (S7.out.nw u8)
  have hz8 := size_t s8.out (f := 4) (I64_s (by decide))
  rw [Jr.x7] at hz8
  have Hz8 := Lib.hid hz8
  clear hz8
  go_wp2_with (go_at_call 30; (with_reducible refine Hz8.out.mono ?_); rintro _ _ ⟨rfl, rfl⟩)
  go_ret
  exact ⟨rfl, s8.out.nw0⟩
end Go.Proofs.YtiambnllidingaaGreatDoor
