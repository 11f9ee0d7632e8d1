/- The walk of FormatBack. -/
import Derived.Test.YtcelfjoopagmlaaGreatDoorPkFKBack32
import Derived.Test.YtcelfjoopagmlaaGreatDoorPkFKBack33
import Derived.Test.YtcelfjoopagmlaaGreatDoorPkFKBack35
namespace Go.Proofs.YtcelfjoopagmlaaGreatDoor
open Go.RowKit Go.MapKept
set_option linter.unusedVariables false
set_option linter.unusedSimpArgs false
attribute [local irreducible] Calls
open Fm (Ty Vl Str nameB rightTy rightVl)

theorem has_iff {t : Ty} {v : Vl} : Fm.has t v = true ↔ rightTy 4 t = true ∧ rightVl 4 v = true ∧ Fm.fits 4 t v = true := by
  unfold Fm.has
  simp only [Bool.and_eq_true]
  exact ⟨fun h => ⟨h.1.1, h.1.2, h.2⟩, fun h => ⟨⟨h.1, h.2.1⟩, h.2.2⟩⟩
theorem fWrite_has {t : Ty} {v : Vl} (h : Fm.has t v = true) : fWrite t v = (Fm.writeF 4 t v, 0) := by
  unfold fWrite; rw [if_neg (by rw [(has_iff.1 h).1]; simp), if_neg (by rw [h]; simp)]
theorem fWrite_not {t : Ty} {v : Vl} (h1 : rightTy 4 t = true) (h : Fm.has t v = false) : fWrite t v = ([], 13) := by
  unfold fWrite; rw [if_neg (by rw [h1]; simp), if_pos h]
theorem fWrite_bad {t : Ty} {v : Vl} (h1 : rightTy 4 t = false) : fWrite t v = ([], 1) := by
  unfold fWrite; rw [if_pos h1]
theorem fRead_bad {t : Ty} {s : Str} (h1 : rightTy 4 t = false) : fRead t s = (Fm.noV, 1) := by
  unfold fRead; rw [if_pos h1]
theorem fRead_none {t : Ty} {s : Str} (h1 : rightTy 4 t = true) (h : Fm.readF 4 t s = none) : fRead t s = (Fm.noV, 34) := by
  unfold fRead; rw [if_neg (by rw [h1]; simp), h]
theorem fRead_some {t : Ty} {s : Str} {v : Vl} (h1 : rightTy 4 t = true) (h : Fm.readF 4 t s = some v) : fRead t s = (v, 0) := by
  unfold fRead; rw [if_neg (by rw [h1]; simp), h]
theorem has_bad {t : Ty} {v : Vl} (h1 : rightTy 4 t = false) : Fm.has t v = false := by unfold Fm.has; rw [h1]; rfl
/-- What is written for a type is read for one that it is a subtype of. -/
theorem back_read {a b : Ty} {v : Vl} (h : Fm.has a v = true) (hok : Fm.okI 4 v) (hb : rightTy 4 b = true) (hs : Fm.sub 4 a b = true) : fRead b (Fm.writeF 4 a v) = (Fm.proj 4 b v, 0) := by
  obtain ⟨h1, h2, h3⟩ := has_iff.1 h
  refine fRead_some hb ?_
  rw [Fm.read_write (Nat.le_refl _) h1 hb h2 h3 hok, if_pos hs]
theorem proj_has {b : Ty} {v : Vl} (hb : rightTy 4 b = true) (h2 : rightVl 4 v = true) (h3 : Fm.fits 4 b v = true) (hok : Fm.okI 4 v) : Fm.has b (Fm.proj 4 b v) = true :=
  have h := Fm.proj_ok hb h2 h3 hok
  has_iff.2 ⟨hb, h.1, h.2.1⟩
set_option maxHeartbeats 16000000 in
set_option maxRecDepth 100000 in
theorem formatBack_c (P : Nat → Prop) (fv : Value) (t : Ty) (nv vv : Value) (v : Vl) (s : Str) (w : World) (g : Gm w) (ht : TyAt w fv t) (hv : VlAt P w nv vv v) (hsl : s.length ≤ maxLen) :
    Calls Tryz.prog 4 #[.agg #[.int .i64 t.kind, fv], .agg #[.int .i64 v.kind, .int .i64 v.n, nv, vv], .string ⟨s.toArray⟩] w fun e w' => e = .returned (.bool true) ∧ Nw w w' := by
  obtain ⟨fa, fc, rfl, -, -⟩ := ht.cells
  obtain ⟨na, nc, rfl, -, -⟩ := hv.names
  obtain ⟨va, vc, rfl, -, -⟩ := hv.vals
  have n1 := nw_alloc w (.cells #[.int .i64 t.kind, .slice fa t.fs.length fc] tTy)
  have n2 := nw_alloc (w.alloc (.cells #[.int .i64 t.kind, .slice fa t.fs.length fc] tTy)) (.cells #[.int .i64 v.kind, .int .i64 v.n, .slice na v.names.length nc, .slice va v.vals.length vc] tVl)
  have b1 := n2.keep (heap_new w (.cells #[.int .i64 t.kind, .slice fa t.fs.length fc] tTy))
  have b2 := heap_new (w.alloc (.cells #[.int .i64 t.kind, .slice fa t.fs.length fc] tTy)) (.cells #[.int .i64 v.kind, .int .i64 v.n, .slice na v.names.length nc, .slice va v.vals.length vc] tVl)
  rw [World.size_alloc] at b2
  have hN := n1.trans n2
  obtain ⟨W, hW⟩ : ∃ W, W = (w.alloc (.cells #[.int .i64 t.kind, .slice fa t.fs.length fc] tTy)).alloc (.cells #[.int .i64 v.kind, .int .i64 v.n, .slice na v.names.length nc, .slice va v.vals.length vc] tVl) := ⟨_, rfl⟩
  rw [← hW] at hN b1 b2
  have HN := Lib.hid hN
  have HW := Lib.hid hW
  have HC : Hid (∀ y, Nw W y → (y.cell? ⟨w.heap.size, 0, none⟩ = some (.int .i64 t.kind) ∧ y.cell? ⟨w.heap.size, 1, none⟩ = some (.slice fa t.fs.length fc)) ∧ y.cell? ⟨w.heap.size + 1, 0, none⟩ = some (.int .i64 v.kind) ∧ y.cell? ⟨w.heap.size + 1, 1, none⟩ = some (.int .i64 v.n) ∧ y.cell? ⟨w.heap.size + 1, 2, none⟩ = some (.slice na v.names.length nc) ∧ y.cell? ⟨w.heap.size + 1, 3, none⟩ = some (.slice va v.vals.length vc)) := fun y u => ⟨⟨by rw [cells_cell (Nw.keep u b1)]; rfl, by rw [cells_cell (Nw.keep u b1)]; rfl⟩, cell4F (Nw.keep u b2)⟩
  have HG := Lib.hid (g.upd hN)
  have HT := Lib.hid (ht.nw hN)
  have HV := Lib.hid (hv.nw hN)
  have hsm := Lib.hid (small_c W HG.out)
  have HSM := Lib.hid hsl
  clear n1 n2 b1 b2 hN hW g ht hv hsl
  go_enter Tryz.func4, Tryz.ntmps4
  go_upto_region 1 with fail
  rw [← HW.out]
  clear HW
  go_wp2_with fail
  (with_reducible refine (hsm.out).mono ?_)
  rintro _ w1 ⟨rfl, u1⟩
  have U1 := Lib.hid u1
  obtain ⟨⟨x0, x1⟩, -⟩ := HC.out w1 u1
  have n3 := nw_alloc w1 (.cells #[.int .i64 t.kind, .slice fa t.fs.length fc] tTy)
  have b3 := heap_new w1 (.cells #[.int .i64 t.kind, .slice fa t.fs.length fc] tTy)
  obtain ⟨w2, hw2⟩ : ∃ y, y = w1.alloc (.cells #[.int .i64 t.kind, .slice fa t.fs.length fc] tTy) := ⟨_, rfl⟩
  rw [← hw2] at n3 b3
  have HW2 := Lib.hid hw2
  have U2 := Lib.hid (u1.trans n3)
  have hty := Lib.hid (typed_c w1.heap.size w2.heap.size _ [(.slice fa t.fs.length fc, t)] w2 (SlS.of_owns (xs := [[.int .i64 t.kind, .slice fa t.fs.length fc]]) (own_block_row (n := 1) (sz := 2) (xs := [.int .i64 t.kind, .slice fa t.fs.length fc]) b3 rfl (by unfold maxLen; omega)) rfl (by omega) (fun y hy => by rw [List.mem_singleton.1 hy]; rfl)) (fun c hc => by rw [List.mem_singleton.1 hc]; exact HT.out.nw U2.out) (by simp))
  clear hw2 n3 b3 u1 hsm
  go_wp2_with fail
  rw [← HW2.out]
  clear HW2
  (with_reducible refine (hty.out).mono ?_)
  rintro _ w3 ⟨bt, rfl, u3⟩
  have U3 := Lib.hid (U2.out.trans u3)
  clear u3 hty x0 x1
  cases bt with
  | false =>
    go_wp2_with fail
    go_ret
    exact ⟨rfl, HN.out.trans U3.out⟩
  | true =>
  obtain ⟨⟨x0, x1⟩, y0, y1, y2, y3⟩ := HC.out w3 U3.out
  have hvl : Hid (Calls Tryz.prog 9 #[.agg #[.int .i64 v.kind, .int .i64 v.n, .slice na v.names.length nc, .slice va v.vals.length vc], .int .i64 40, .int .i64 6] w3 fun e w' => ∃ r : Int, e = .returned (.int .i64 r) ∧ Nw w3 w') := values_c P 6 (Nat.le_refl _) v _ _ 40 w3 (HV.out.nw U3.out)
  go_wp2_with fail
  (with_reducible refine (hvl.out).mono ?_)
  rintro _ w4 ⟨r, rfl, u4⟩
  have U4 := Lib.hid (U3.out.trans u4)
  clear u4 hvl x0 x1 y0 y1 y2 y3
  by_cases hr : 40 < r
  · go_wp2_with fail
    go_ret
    exact ⟨rfl, HN.out.trans U4.out⟩
  have hr' : r ≤ 40 := by omega
  clear hr
  by_cases h500 : 500 < s.length
  · have h5 : (500 : Int) < s.length := by omega
    go_wp2_with fail
    go_ret
    exact ⟨rfl, HN.out.trans U4.out⟩
  have h5 : (s.length : Int) ≤ 500 := by omega
  have HSL : Hid (s.length ≤ 500) := by show _ ≤ _; omega
  clear h500
  obtain ⟨⟨x0, x1⟩, y0, y1, y2, y3⟩ := HC.out w4 U4.out
  have hwr := Lib.hid (Write_c P _ t _ _ v w4 (HG.out.upd U4.out) (HT.out.nw U4.out) (HV.out.nw U4.out))
  cases h1 : rightTy 4 t with
  | false =>
    rw [fWrite_bad h1] at hwr
    go_wp2_with fail
    (with_reducible refine (hwr.out).mono ?_)
    rintro _ w5 ⟨rfl, u5⟩
    have hh := Lib.hid (has_c P _ t _ _ v w5 (HG.out.upd (U4.out.trans u5)) (HT.out.nw (U4.out.trans u5)) (HV.out.nw (U4.out.trans u5)))
    rw [has_bad h1] at hh
    have U5 := Lib.hid (U4.out.trans u5)
    clear u5 hwr x0 x1 y0 y1 y2 y3
    obtain ⟨⟨x0, x1⟩, y0, y1, y2, y3⟩ := HC.out w5 U5.out
    go_wp2_with fail
    (with_reducible refine (hh.out).mono ?_)
    rintro _ w6 ⟨rfl, u6⟩
    have hr6 := Lib.hid (types_right_c _ t w6 (HG.out.upd (U5.out.trans u6)) (HT.out.nw (U5.out.trans u6)))
    rw [h1] at hr6
    have U6 := Lib.hid (U5.out.trans u6)
    clear u6 hh x0 x1 y0 y1 y2 y3
    obtain ⟨⟨x0, x1⟩, -⟩ := HC.out w6 U6.out
    go_wp2_with fail
    (with_reducible refine (hr6.out).mono ?_)
    rintro _ w7 ⟨rfl, u7⟩
    have U7 := Lib.hid (U6.out.trans u7)
    clear u7 hr6 x0 x1
    -- the last part, the type not right: from the world w7, behind W by U7
    have hrd : Hid (Calls Tryz.prog 12 #[.agg #[.int .i64 t.kind, .slice fa t.fs.length fc], .string ⟨s.toArray⟩] (w7) fun e w' => ∃ xn xv, e = .returned (.tuple #[.agg #[.int .i64 0, .int .i64 0, xn, xv], .int .i64 1]) ∧ Hid (VlAt (fun j => (w7).heap.size ≤ j) w' xn xv Fm.noV ∧ Nw (w7) w')) := by
      have := Read_c _ t s (w7) (HG.out.upd (U7).out) (HT.out.nw (U7).out) (by have := HSL.out; omega)
      rw [fRead_bad h1] at this
      exact this
    obtain ⟨⟨x0, x1⟩, -⟩ := HC.out (w7) (U7).out
    go_wp2_with fail
    -- Read's answer in a box: at U7 by the contract hrd : worlds z1, z2; the box's block q; kind 0, n 0, names 0, values 0
    (with_reducible refine ((hrd).out).mono ?_)
    rintro _ z1 ⟨xn, xv, rfl, HX⟩
    have hxn : ∃ xa xc, xn = .slice xa 0 xc := by obtain ⟨a, c, h, -⟩ := HX.out.1.names; exact ⟨a, c, h⟩
    have hxv : ∃ xa xc, xv = .slice xa 0 xc := by obtain ⟨a, c, h, -⟩ := HX.out.1.vals; exact ⟨a, c, h⟩
    obtain ⟨xa, xc, rfl⟩ := hxn
    obtain ⟨ya, yc, rfl⟩ := hxv
    have n2 := nw_alloc z1 (.cells #[.int .i64 0, .int .i64 0, .slice xa 0 xc, .slice ya 0 yc] tVl)
    have b2 := heap_new z1 (.cells #[.int .i64 0, .int .i64 0, .slice xa 0 xc, .slice ya 0 yc] tVl)
    obtain ⟨z2, hz2⟩ : ∃ y, y = z1.alloc (.cells #[.int .i64 0, .int .i64 0, .slice xa 0 xc, .slice ya 0 yc] tVl) := ⟨_, rfl⟩
    rw [← hz2] at n2 b2
    have HZ2 := Lib.hid hz2
    have UZ2 := Lib.hid ((U7).out.trans (HX.out.2.trans n2))
    have HBX := Lib.hid b2
    have HVX := Lib.hid (HX.out.1.nw n2)
    clear HX n2 b2 hz2
    obtain ⟨c0, c1, c2, c3⟩ := cell4F HBX.out
    clear x0 x1
    obtain ⟨⟨x0, x1⟩, -⟩ := HC.out z2 UZ2.out
    have hr9 := Lib.hid (types_right_c _ t z2 (HG.out.upd UZ2.out) (HT.out.nw UZ2.out))
    rw [h1] at hr9
    go_upto_region 13 with fail
    rw [← HZ2.out]
    clear HZ2
    generalize z1.heap.size = q1 at *
    go_wp2_with fail
    (with_reducible refine (hr9.out).mono ?_)
    rintro _ z3 ⟨rfl, u3⟩
    have UZ3 := Lib.hid ((HN.out.trans UZ2.out).trans u3)
    clear u3
    go_wp2_with fail
    go_ret
    exact ⟨rfl, UZ3.out⟩
  | true =>
  cases h2 : Fm.has t v with
  | false =>
    rw [fWrite_not h1 h2] at hwr
    go_wp2_with fail
    (with_reducible refine (hwr.out).mono ?_)
    rintro _ w5 ⟨rfl, u5⟩
    have hh := Lib.hid (has_c P _ t _ _ v w5 (HG.out.upd (U4.out.trans u5)) (HT.out.nw (U4.out.trans u5)) (HV.out.nw (U4.out.trans u5)))
    rw [h2] at hh
    have U5 := Lib.hid (U4.out.trans u5)
    clear u5 hwr x0 x1 y0 y1 y2 y3
    obtain ⟨⟨x0, x1⟩, y0, y1, y2, y3⟩ := HC.out w5 U5.out
    go_wp2_with fail
    (with_reducible refine (hh.out).mono ?_)
    rintro _ w6 ⟨rfl, u6⟩
    have hr6 := Lib.hid (types_right_c _ t w6 (HG.out.upd (U5.out.trans u6)) (HT.out.nw (U5.out.trans u6)))
    rw [h1] at hr6
    have U6 := Lib.hid (U5.out.trans u6)
    clear u6 hh x0 x1 y0 y1 y2 y3
    obtain ⟨⟨x0, x1⟩, -⟩ := HC.out w6 U6.out
    go_wp2_with fail
    (with_reducible refine (hr6.out).mono ?_)
    rintro _ w7 ⟨rfl, u7⟩
    have U7 := Lib.hid (U6.out.trans u7)
    clear u7 hr6 x0 x1
    -- the last part, the type right (h1): from the world w7, behind W by U7
    cases hrf : Fm.readF 4 t s with
    | none =>
      have hrd : Hid (Calls Tryz.prog 12 #[.agg #[.int .i64 t.kind, .slice fa t.fs.length fc], .string ⟨s.toArray⟩] (w7) fun e w' => ∃ xn xv, e = .returned (.tuple #[.agg #[.int .i64 0, .int .i64 0, xn, xv], .int .i64 34]) ∧ Hid (VlAt (fun j => (w7).heap.size ≤ j) w' xn xv Fm.noV ∧ Nw (w7) w')) := by
        have := Read_c _ t s (w7) (HG.out.upd (U7).out) (HT.out.nw (U7).out) (by have := HSL.out; omega)
        rw [fRead_none h1 hrf] at this
        exact this
      obtain ⟨⟨x0, x1⟩, -⟩ := HC.out (w7) (U7).out
      go_wp2_with fail
      -- Read's answer in a box: at U7 by the contract hrd : worlds z1, z2; the box's block q; kind 0, n 0, names 0, values 0
      (with_reducible refine ((hrd).out).mono ?_)
      rintro _ z1 ⟨xn, xv, rfl, HX⟩
      have hxn : ∃ xa xc, xn = .slice xa 0 xc := by obtain ⟨a, c, h, -⟩ := HX.out.1.names; exact ⟨a, c, h⟩
      have hxv : ∃ xa xc, xv = .slice xa 0 xc := by obtain ⟨a, c, h, -⟩ := HX.out.1.vals; exact ⟨a, c, h⟩
      obtain ⟨xa, xc, rfl⟩ := hxn
      obtain ⟨ya, yc, rfl⟩ := hxv
      have n2 := nw_alloc z1 (.cells #[.int .i64 0, .int .i64 0, .slice xa 0 xc, .slice ya 0 yc] tVl)
      have b2 := heap_new z1 (.cells #[.int .i64 0, .int .i64 0, .slice xa 0 xc, .slice ya 0 yc] tVl)
      obtain ⟨z2, hz2⟩ : ∃ y, y = z1.alloc (.cells #[.int .i64 0, .int .i64 0, .slice xa 0 xc, .slice ya 0 yc] tVl) := ⟨_, rfl⟩
      rw [← hz2] at n2 b2
      have HZ2 := Lib.hid hz2
      have UZ2 := Lib.hid ((U7).out.trans (HX.out.2.trans n2))
      have HBX := Lib.hid b2
      have HVX := Lib.hid (HX.out.1.nw n2)
      clear HX n2 b2 hz2
      obtain ⟨c0, c1, c2, c3⟩ := cell4F HBX.out
      clear x0 x1
      obtain ⟨⟨x0, x1⟩, -⟩ := HC.out z2 UZ2.out
      have hr9 := Lib.hid (types_right_c _ t z2 (HG.out.upd UZ2.out) (HT.out.nw UZ2.out))
      rw [h1] at hr9
      go_upto_region 13 with fail
      rw [← HZ2.out]
      clear HZ2
      generalize z1.heap.size = q1 at *
      go_wp2_with fail
      (with_reducible refine (hr9.out).mono ?_)
      rintro _ z3 ⟨rfl, u3⟩
      have UZ3 := Lib.hid ((HN.out.trans UZ2.out).trans u3)
      clear u3
      go_wp2_with fail
      go_ret
      exact ⟨rfl, UZ3.out⟩
    | some rv =>
      have hrd : Hid (Calls Tryz.prog 12 #[.agg #[.int .i64 t.kind, .slice fa t.fs.length fc], .string ⟨s.toArray⟩] (w7) fun e w' => ∃ xn xv, e = .returned (.tuple #[.agg #[.int .i64 rv.kind, .int .i64 rv.n, xn, xv], .int .i64 0]) ∧ Hid (VlAt (fun j => (w7).heap.size ≤ j) w' xn xv rv ∧ Nw (w7) w')) := by
        have := Read_c _ t s (w7) (HG.out.upd (U7).out) (HT.out.nw (U7).out) (by have := HSL.out; omega)
        rw [fRead_some h1 hrf] at this
        exact this
      obtain ⟨⟨x0, x1⟩, -⟩ := HC.out (w7) (U7).out
      go_wp2_with fail
      -- Read's answer in a box: at U7 by the contract hrd : worlds z1, z2; the box's block q; kind rv.kind, n rv.n, names rv.names.length, values rv.vals.length
      (with_reducible refine ((hrd).out).mono ?_)
      rintro _ z1 ⟨xn, xv, rfl, HX⟩
      have hxn : ∃ xa xc, xn = .slice xa rv.names.length xc := by obtain ⟨a, c, h, -⟩ := HX.out.1.names; exact ⟨a, c, h⟩
      have hxv : ∃ xa xc, xv = .slice xa rv.vals.length xc := by obtain ⟨a, c, h, -⟩ := HX.out.1.vals; exact ⟨a, c, h⟩
      obtain ⟨xa, xc, rfl⟩ := hxn
      obtain ⟨ya, yc, rfl⟩ := hxv
      have n2 := nw_alloc z1 (.cells #[.int .i64 rv.kind, .int .i64 rv.n, .slice xa rv.names.length xc, .slice ya rv.vals.length yc] tVl)
      have b2 := heap_new z1 (.cells #[.int .i64 rv.kind, .int .i64 rv.n, .slice xa rv.names.length xc, .slice ya rv.vals.length yc] tVl)
      obtain ⟨z2, hz2⟩ : ∃ y, y = z1.alloc (.cells #[.int .i64 rv.kind, .int .i64 rv.n, .slice xa rv.names.length xc, .slice ya rv.vals.length yc] tVl) := ⟨_, rfl⟩
      rw [← hz2] at n2 b2
      have HZ2 := Lib.hid hz2
      have UZ2 := Lib.hid ((U7).out.trans (HX.out.2.trans n2))
      have HBX := Lib.hid b2
      have HVX := Lib.hid (HX.out.1.nw n2)
      clear HX n2 b2 hz2
      obtain ⟨c0, c1, c2, c3⟩ := cell4F HBX.out
      clear x0 x1
      obtain ⟨⟨x0, x1⟩, -⟩ := HC.out z2 UZ2.out
      obtain ⟨o1, o2, o3, o4⟩ := Fm.read_ok h1 hrf
      have hh9 := Lib.hid (has_c _ _ t _ _ rv z2 (HG.out.upd UZ2.out) (HT.out.nw UZ2.out) HVX.out)
      rw [has_iff.2 ⟨h1, o1, o2⟩] at hh9
      go_upto_region 13 with fail
      rw [← HZ2.out]
      clear HZ2
      generalize z1.heap.size = q1 at *
      go_wp2_with fail
      (with_reducible refine (hh9.out).mono ?_)
      rintro _ z3 ⟨rfl, u3⟩
      have hx9 := Lib.hid (exact_c _ 4 t _ rv _ _ z3 o4 (HT.out.nw (UZ2.out.trans u3)) (HVX.out.nw u3))
      clear x0 x1 c0 c1 c2 c3 hh9
      obtain ⟨⟨x0, x1⟩, -⟩ := HC.out z3 (UZ2.out.trans u3)
      obtain ⟨c0, c1, c2, c3⟩ := cell4F (Nw.keep u3 HBX.out)
      have UZ3 := Lib.hid ((HN.out.trans UZ2.out).trans u3)
      clear u3
      go_wp2_with fail
      (with_reducible refine (hx9.out).mono ?_)
      rintro _ z4 ⟨rfl, u4⟩
      have UZ4 := Lib.hid (UZ3.out.trans u4)
      clear u4
      go_wp2_with fail
      go_ret
      exact ⟨rfl, UZ4.out⟩
  | true =>
    rw [fWrite_has h2] at hwr
    have hok := HV.out.okI 4
    obtain ⟨-, hrv, hfit⟩ := has_iff.1 h2
    have hwl := Lib.hid (Nat.le_trans (Fm.write_len (Nat.le_refl _) h1 hok) Fm.W4)
    have hbr := Lib.hid (back_read h2 hok h1 (Fm.sub_refl h1))
    obtain ⟨p1, p2, p3, p4, p5, p6⟩ := Fm.proj_ok h1 hrv hfit hok
    have hph := proj_has h1 hrv hfit hok
    have HPW : Hid (fWrite t (Fm.proj 4 t v) = (Fm.writeF 4 t v, 0)) := by show _ = _; rw [fWrite_has hph, p6]
    have HP4 := Lib.hid p4
    have HP5 := Lib.hid p5
    go_wp2_with fail
    (with_reducible refine (hwr.out).mono ?_)
    rintro _ w5 ⟨rfl, u5⟩
    have hh := Lib.hid (has_c P _ t _ _ v w5 (HG.out.upd (U4.out.trans u5)) (HT.out.nw (U4.out.trans u5)) (HV.out.nw (U4.out.trans u5)))
    rw [h2] at hh
    have U5 := Lib.hid (U4.out.trans u5)
    clear u5 hwr x0 x1 y0 y1 y2 y3 p1 p2 p3 p4 p5 p6 hph hok hrv hfit
    obtain ⟨⟨x0, x1⟩, y0, y1, y2, y3⟩ := HC.out w5 U5.out
    go_wp2_with fail
    (with_reducible refine (hh.out).mono ?_)
    rintro _ w6 ⟨rfl, u6⟩
    have hr6 := Lib.hid (types_right_c _ t w6 (HG.out.upd (U5.out.trans u6)) (HT.out.nw (U5.out.trans u6)))
    rw [h1] at hr6
    have U6 := Lib.hid (U5.out.trans u6)
    clear u6 hh x0 x1 y0 y1 y2 y3
    obtain ⟨⟨x0, x1⟩, -⟩ := HC.out w6 U6.out
    go_wp2_with fail
    (with_reducible refine (hr6.out).mono ?_)
    rintro _ w7 ⟨rfl, u7⟩
    have U7 := Lib.hid (U6.out.trans u7)
    clear u7 hr6 x0 x1
    obtain ⟨⟨x0, x1⟩, -⟩ := HC.out w7 U7.out
    generalize Fm.writeF 4 t v = sw at *
    generalize Fm.proj 4 t v = pv at *
    have hrd : Hid (Calls Tryz.prog 12 #[.agg #[.int .i64 t.kind, .slice fa t.fs.length fc], .string ⟨sw.toArray⟩] w7 fun e w' => ∃ xn xv, e = .returned (.tuple #[.agg #[.int .i64 pv.kind, .int .i64 pv.n, xn, xv], .int .i64 0]) ∧ Hid (VlAt (fun j => w7.heap.size ≤ j) w' xn xv pv ∧ Nw w7 w')) := by
      have := Read_c _ t sw w7 (HG.out.upd U7.out) (HT.out.nw U7.out) (by have := hwl.out; omega)
      rw [hbr.out] at this
      exact this
    go_wp2_with fail
    -- Read's answer in a box: at U7 by the contract hrd : worlds z1, z2; the box's block q; kind pv.kind, n pv.n, names pv.names.length, values pv.vals.length
    (with_reducible refine ((hrd).out).mono ?_)
    rintro _ z1 ⟨xn, xv, rfl, HX⟩
    have hxn : ∃ xa xc, xn = .slice xa pv.names.length xc := by obtain ⟨a, c, h, -⟩ := HX.out.1.names; exact ⟨a, c, h⟩
    have hxv : ∃ xa xc, xv = .slice xa pv.vals.length xc := by obtain ⟨a, c, h, -⟩ := HX.out.1.vals; exact ⟨a, c, h⟩
    obtain ⟨xa, xc, rfl⟩ := hxn
    obtain ⟨ya, yc, rfl⟩ := hxv
    have n2 := nw_alloc z1 (.cells #[.int .i64 pv.kind, .int .i64 pv.n, .slice xa pv.names.length xc, .slice ya pv.vals.length yc] tVl)
    have b2 := heap_new z1 (.cells #[.int .i64 pv.kind, .int .i64 pv.n, .slice xa pv.names.length xc, .slice ya pv.vals.length yc] tVl)
    obtain ⟨z2, hz2⟩ : ∃ y, y = z1.alloc (.cells #[.int .i64 pv.kind, .int .i64 pv.n, .slice xa pv.names.length xc, .slice ya pv.vals.length yc] tVl) := ⟨_, rfl⟩
    rw [← hz2] at n2 b2
    have HZ2 := Lib.hid hz2
    have UZ2 := Lib.hid ((U7).out.trans (HX.out.2.trans n2))
    have HBX := Lib.hid b2
    have HVX := Lib.hid (HX.out.1.nw n2)
    clear HX n2 b2 hz2
    obtain ⟨c0, c1, c2, c3⟩ := cell4F HBX.out
    clear x0 x1 hrd
    obtain ⟨⟨x0, x1⟩, -⟩ := HC.out z2 UZ2.out
    have hw8 := Lib.hid (Write_c _ _ t _ _ pv z2 (HG.out.upd UZ2.out) (HT.out.nw UZ2.out) HVX.out)
    rw [HPW.out] at hw8
    go_upto_region 9 with fail
    rw [← HZ2.out]
    clear HZ2
    obtain ⟨q8, hq8⟩ : ∃ q, q = z1.heap.size := ⟨_, rfl⟩
    rw [← hq8] at HBX c0 c1 c2 c3
    rw [← hq8]
    clear hq8
    go_wp2_with fail
    (with_reducible refine (hw8.out).mono ?_)
    rintro _ z5 ⟨rfl, u5⟩
    have hag := Lib.hid (agrees_c P _ 4 v pv _ _ _ _ z5 HP5.out (HV.out.nw (UZ2.out.trans u5)) (HVX.out.nw u5))
    have UZ5 := Lib.hid (UZ2.out.trans u5)
    have HVX5 := Lib.hid (HVX.out.nw u5)
    have HBX5 := Lib.hid (Nw.keep u5 HBX.out)
    clear u5 x0 x1 c0 c1 c2 c3 hw8 HBX HVX
    obtain ⟨-, y0, y1, y2, y3⟩ := HC.out z5 UZ5.out
    obtain ⟨c0, c1, c2, c3⟩ := cell4F HBX5.out
    go_wp2_with fail
    (with_reducible refine (hag.out).mono ?_)
    rintro _ z6 ⟨rfl, u6⟩
    have hex := Lib.hid (exact_c _ 4 t _ pv _ _ z6 HP4.out (HT.out.nw (UZ5.out.trans u6)) (HVX5.out.nw u6))
    have UZ6 := Lib.hid (UZ5.out.trans u6)
    clear y0 y1 y2 y3 c0 c1 c2 c3 hag
    obtain ⟨c0, c1, c2, c3⟩ := cell4F (Nw.keep u6 HBX5.out)
    obtain ⟨⟨x0, x1⟩, -⟩ := HC.out z6 UZ6.out
    clear u6 HBX5 HVX5
    go_wp2_with fail
    (with_reducible refine (hex.out).mono ?_)
    rintro _ z7 ⟨rfl, u7⟩
    have UZ7 := Lib.hid (UZ6.out.trans u7)
    clear u7 x0 x1 c0 c1 c2 c3 hex hbr HPW HP4 HP5 hwl
    -- the last part, the type right (h1): from the world z7, behind W by UZ7
    cases hrf : Fm.readF 4 t s with
    | none =>
      have hrd : Hid (Calls Tryz.prog 12 #[.agg #[.int .i64 t.kind, .slice fa t.fs.length fc], .string ⟨s.toArray⟩] (z7) fun e w' => ∃ xn xv, e = .returned (.tuple #[.agg #[.int .i64 0, .int .i64 0, xn, xv], .int .i64 34]) ∧ Hid (VlAt (fun j => (z7).heap.size ≤ j) w' xn xv Fm.noV ∧ Nw (z7) w')) := by
        have := Read_c _ t s (z7) (HG.out.upd (UZ7).out) (HT.out.nw (UZ7).out) (by have := HSL.out; omega)
        rw [fRead_none h1 hrf] at this
        exact this
      obtain ⟨⟨x0, x1⟩, -⟩ := HC.out (z7) (UZ7).out
      go_wp2_with fail
      -- Read's answer in a box: at UZ7 by the contract hrd : worlds z1, z2; the box's block q; kind 0, n 0, names 0, values 0
      (with_reducible refine ((hrd).out).mono ?_)
      rintro _ z1 ⟨xn, xv, rfl, HX⟩
      have hxn : ∃ xa xc, xn = .slice xa 0 xc := by obtain ⟨a, c, h, -⟩ := HX.out.1.names; exact ⟨a, c, h⟩
      have hxv : ∃ xa xc, xv = .slice xa 0 xc := by obtain ⟨a, c, h, -⟩ := HX.out.1.vals; exact ⟨a, c, h⟩
      obtain ⟨xa, xc, rfl⟩ := hxn
      obtain ⟨ya, yc, rfl⟩ := hxv
      have n2 := nw_alloc z1 (.cells #[.int .i64 0, .int .i64 0, .slice xa 0 xc, .slice ya 0 yc] tVl)
      have b2 := heap_new z1 (.cells #[.int .i64 0, .int .i64 0, .slice xa 0 xc, .slice ya 0 yc] tVl)
      obtain ⟨z2, hz2⟩ : ∃ y, y = z1.alloc (.cells #[.int .i64 0, .int .i64 0, .slice xa 0 xc, .slice ya 0 yc] tVl) := ⟨_, rfl⟩
      rw [← hz2] at n2 b2
      have HZ2 := Lib.hid hz2
      have UZ2 := Lib.hid ((UZ7).out.trans (HX.out.2.trans n2))
      have HBX := Lib.hid b2
      have HVX := Lib.hid (HX.out.1.nw n2)
      clear HX n2 b2 hz2
      obtain ⟨c0, c1, c2, c3⟩ := cell4F HBX.out
      clear x0 x1
      obtain ⟨⟨x0, x1⟩, -⟩ := HC.out z2 UZ2.out
      have hr9 := Lib.hid (types_right_c _ t z2 (HG.out.upd UZ2.out) (HT.out.nw UZ2.out))
      rw [h1] at hr9
      go_upto_region 13 with fail
      rw [← HZ2.out]
      clear HZ2
      generalize z1.heap.size = q1 at *
      go_wp2_with fail
      (with_reducible refine (hr9.out).mono ?_)
      rintro _ z3 ⟨rfl, u3⟩
      have UZ3 := Lib.hid ((HN.out.trans UZ2.out).trans u3)
      clear u3
      go_wp2_with fail
      go_ret
      exact ⟨rfl, UZ3.out⟩
    | some rv =>
      have hrd : Hid (Calls Tryz.prog 12 #[.agg #[.int .i64 t.kind, .slice fa t.fs.length fc], .string ⟨s.toArray⟩] (z7) fun e w' => ∃ xn xv, e = .returned (.tuple #[.agg #[.int .i64 rv.kind, .int .i64 rv.n, xn, xv], .int .i64 0]) ∧ Hid (VlAt (fun j => (z7).heap.size ≤ j) w' xn xv rv ∧ Nw (z7) w')) := by
        have := Read_c _ t s (z7) (HG.out.upd (UZ7).out) (HT.out.nw (UZ7).out) (by have := HSL.out; omega)
        rw [fRead_some h1 hrf] at this
        exact this
      obtain ⟨⟨x0, x1⟩, -⟩ := HC.out (z7) (UZ7).out
      go_wp2_with fail
      -- Read's answer in a box: at UZ7 by the contract hrd : worlds z1, z2; the box's block q; kind rv.kind, n rv.n, names rv.names.length, values rv.vals.length
      (with_reducible refine ((hrd).out).mono ?_)
      rintro _ z1 ⟨xn, xv, rfl, HX⟩
      have hxn : ∃ xa xc, xn = .slice xa rv.names.length xc := by obtain ⟨a, c, h, -⟩ := HX.out.1.names; exact ⟨a, c, h⟩
      have hxv : ∃ xa xc, xv = .slice xa rv.vals.length xc := by obtain ⟨a, c, h, -⟩ := HX.out.1.vals; exact ⟨a, c, h⟩
      obtain ⟨xa, xc, rfl⟩ := hxn
      obtain ⟨ya, yc, rfl⟩ := hxv
      have n2 := nw_alloc z1 (.cells #[.int .i64 rv.kind, .int .i64 rv.n, .slice xa rv.names.length xc, .slice ya rv.vals.length yc] tVl)
      have b2 := heap_new z1 (.cells #[.int .i64 rv.kind, .int .i64 rv.n, .slice xa rv.names.length xc, .slice ya rv.vals.length yc] tVl)
      obtain ⟨z2, hz2⟩ : ∃ y, y = z1.alloc (.cells #[.int .i64 rv.kind, .int .i64 rv.n, .slice xa rv.names.length xc, .slice ya rv.vals.length yc] tVl) := ⟨_, rfl⟩
      rw [← hz2] at n2 b2
      have HZ2 := Lib.hid hz2
      have UZ2 := Lib.hid ((UZ7).out.trans (HX.out.2.trans n2))
      have HBX := Lib.hid b2
      have HVX := Lib.hid (HX.out.1.nw n2)
      clear HX n2 b2 hz2
      obtain ⟨c0, c1, c2, c3⟩ := cell4F HBX.out
      clear x0 x1
      obtain ⟨⟨x0, x1⟩, -⟩ := HC.out z2 UZ2.out
      obtain ⟨o1, o2, o3, o4⟩ := Fm.read_ok h1 hrf
      have hh9 := Lib.hid (has_c _ _ t _ _ rv z2 (HG.out.upd UZ2.out) (HT.out.nw UZ2.out) HVX.out)
      rw [has_iff.2 ⟨h1, o1, o2⟩] at hh9
      go_upto_region 13 with fail
      rw [← HZ2.out]
      clear HZ2
      generalize z1.heap.size = q1 at *
      go_wp2_with fail
      (with_reducible refine (hh9.out).mono ?_)
      rintro _ z3 ⟨rfl, u3⟩
      have hx9 := Lib.hid (exact_c _ 4 t _ rv _ _ z3 o4 (HT.out.nw (UZ2.out.trans u3)) (HVX.out.nw u3))
      clear x0 x1 c0 c1 c2 c3 hh9
      obtain ⟨⟨x0, x1⟩, -⟩ := HC.out z3 (UZ2.out.trans u3)
      obtain ⟨c0, c1, c2, c3⟩ := cell4F (Nw.keep u3 HBX.out)
      have UZ3 := Lib.hid ((HN.out.trans UZ2.out).trans u3)
      clear u3
      go_wp2_with fail
      (with_reducible refine (hx9.out).mono ?_)
      rintro _ z4 ⟨rfl, u4⟩
      have UZ4 := Lib.hid (UZ3.out.trans u4)
      clear u4
      go_wp2_with fail
      go_ret
      exact ⟨rfl, UZ4.out⟩
theorem formatBack_b (P : Nat → Prop) (fv : Value) (t : Ty) (nv vv : Value) (v : Vl) (s : ByteArray) (w : World) (g : Gm w) (ht : TyAt w fv t) (hv : VlAt P w nv vv v) (hsl : s.size ≤ maxLen) :
    Calls Tryz.prog 4 #[.agg #[.int .i64 t.kind, fv], .agg #[.int .i64 v.kind, .int .i64 v.n, nv, vv], .string s] w fun e w' => e = .returned (.bool true) ∧ Nw w w' := by
  have := formatBack_c P fv t nv vv v s.data.toList w g ht hv (by rw [← bs_size]; exact hsl)
  rwa [bs_eta] at this
end Go.Proofs.YtcelfjoopagmlaaGreatDoor
