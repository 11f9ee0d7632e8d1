/- The walk of FormatChains. -/
import Derived.Test.YtcelfjoopagmlaaGreatDoorPkFKChains34
import Derived.Test.YtcelfjoopagmlaaGreatDoorPkFKChains35
namespace Go.Proofs.YtcelfjoopagmlaaGreatDoor
open Go.RowKit Go.MapKept
set_option linter.unusedVariables false
set_option linter.unusedSimpArgs false
attribute [local irreducible] Calls
open Fm (Ty Vl Str nameB rightTy rightVl)

theorem reads_iff {a b : Ty} : fReads a b = true ↔ rightTy 4 a = true ∧ rightTy 4 b = true ∧ Fm.sub 4 a b = true := by
  unfold fReads
  simp only [Bool.and_eq_true]
  exact ⟨fun h => ⟨h.1.1, h.1.2, h.2⟩, fun h => ⟨⟨h.1, h.2.1⟩, h.2.2⟩⟩
theorem reads_refl (a : Ty) : fReads a a = rightTy 4 a := by
  cases h : rightTy 4 a with
  | true => exact reads_iff.2 ⟨h, h, Fm.sub_refl h⟩
  | false => unfold fReads; rw [h]; rfl
set_option maxHeartbeats 16000000 in
set_option maxRecDepth 100000 in
theorem formatChains_c (P : Nat → Prop) (fv gv hv' : Value) (a b c : Ty) (nv vv : Value) (v : Vl) (w : World) (g : Gm w) (hta : TyAt w fv a) (htb : TyAt w gv b) (htc : TyAt w hv' c) (hv : VlAt P w nv vv v) :
    Calls Tryz.prog 5 #[.agg #[.int .i64 a.kind, fv], .agg #[.int .i64 b.kind, gv], .agg #[.int .i64 c.kind, hv'], .agg #[.int .i64 v.kind, .int .i64 v.n, nv, vv]] w fun e w' => e = .returned (.bool true) ∧ Nw w w' := by
  obtain ⟨fa, fc, rfl, -, -⟩ := hta.cells
  obtain ⟨ga, gc, rfl, -, -⟩ := htb.cells
  obtain ⟨ka, kc, rfl, -, -⟩ := htc.cells
  obtain ⟨na, nc, rfl, -, -⟩ := hv.names
  obtain ⟨va, vc, rfl, -, -⟩ := hv.vals
  -- the world w1 from w by the object (.cells #[.int .i64 a.kind, .slice fa a.fs.length fc] tTy) at w.heap.size + 0
  have nw1 := nw_alloc w (.cells #[.int .i64 a.kind, .slice fa a.fs.length fc] tTy)
  have bw1 := heap_new w (.cells #[.int .i64 a.kind, .slice fa a.fs.length fc] tTy)
  obtain ⟨w1, hw1⟩ : ∃ z, z = (w).alloc (.cells #[.int .i64 a.kind, .slice fa a.fs.length fc] tTy) := ⟨_, rfl⟩
  have sw1 : (w1).heap.size = w.heap.size + 0 + 1 := by rw [hw1, World.size_alloc]; first | done | omega
  rw [← hw1] at nw1 bw1
  (try rw [show (w).heap.size = w.heap.size + 0 by omega] at bw1)
  -- the world w2 from w1 by the object (.cells #[.int .i64 b.kind, .slice ga b.fs.length gc] tTy) at w.heap.size + 1
  have nw2 := nw_alloc w1 (.cells #[.int .i64 b.kind, .slice ga b.fs.length gc] tTy)
  have bw2 := heap_new w1 (.cells #[.int .i64 b.kind, .slice ga b.fs.length gc] tTy)
  obtain ⟨w2, hw2⟩ : ∃ z, z = (w1).alloc (.cells #[.int .i64 b.kind, .slice ga b.fs.length gc] tTy) := ⟨_, rfl⟩
  have sw2 : (w2).heap.size = w.heap.size + 1 + 1 := by rw [hw2, World.size_alloc]; first | done | omega
  rw [← hw2] at nw2 bw2
  (try rw [show (w1).heap.size = w.heap.size + 1 by omega] at bw2)
  -- the world w3 from w2 by the object (.cells #[.int .i64 c.kind, .slice ka c.fs.length kc] tTy) at w.heap.size + 2
  have nw3 := nw_alloc w2 (.cells #[.int .i64 c.kind, .slice ka c.fs.length kc] tTy)
  have bw3 := heap_new w2 (.cells #[.int .i64 c.kind, .slice ka c.fs.length kc] tTy)
  obtain ⟨w3, hw3⟩ : ∃ z, z = (w2).alloc (.cells #[.int .i64 c.kind, .slice ka c.fs.length kc] tTy) := ⟨_, rfl⟩
  have sw3 : (w3).heap.size = w.heap.size + 2 + 1 := by rw [hw3, World.size_alloc]; first | done | omega
  rw [← hw3] at nw3 bw3
  (try rw [show (w2).heap.size = w.heap.size + 2 by omega] at bw3)
  -- the world W from w3 by the object (.cells #[.int .i64 v.kind, .int .i64 v.n, .slice na v.names.length nc, .slice va v.vals.length vc] tVl) at w.heap.size + 3
  have nW := nw_alloc w3 (.cells #[.int .i64 v.kind, .int .i64 v.n, .slice na v.names.length nc, .slice va v.vals.length vc] tVl)
  have bW := heap_new w3 (.cells #[.int .i64 v.kind, .int .i64 v.n, .slice na v.names.length nc, .slice va v.vals.length vc] tVl)
  obtain ⟨W, hW⟩ : ∃ z, z = (w3).alloc (.cells #[.int .i64 v.kind, .int .i64 v.n, .slice na v.names.length nc, .slice va v.vals.length vc] tVl) := ⟨_, rfl⟩
  have sW : (W).heap.size = w.heap.size + 3 + 1 := by rw [hW, World.size_alloc]; first | done | omega
  rw [← hW] at nW bW
  (try rw [show (w3).heap.size = w.heap.size + 3 by omega] at bW)
  have hN : Nw w W := ((nw1.trans nw2).trans nw3).trans nW
  have c1 := Nw.keep ((nw2.trans nw3).trans nW) bw1
  rw [Nat.add_zero] at c1
  have c2 := Nw.keep (nw3.trans nW) bw2
  have c3 := Nw.keep nW bw3
  have c4 := bW
  rw [hw3, hw2, hw1] at hW
  have HW := Lib.hid hW
  have HN := Lib.hid hN
  have HC : Hid (∀ y, Nw W y → (y.cell? ⟨w.heap.size, 0, none⟩ = some (.int .i64 a.kind) ∧ y.cell? ⟨w.heap.size, 1, none⟩ = some (.slice fa a.fs.length fc)) ∧ (y.cell? ⟨w.heap.size + 1, 0, none⟩ = some (.int .i64 b.kind) ∧ y.cell? ⟨w.heap.size + 1, 1, none⟩ = some (.slice ga b.fs.length gc)) ∧ (y.cell? ⟨w.heap.size + 2, 0, none⟩ = some (.int .i64 c.kind) ∧ y.cell? ⟨w.heap.size + 2, 1, none⟩ = some (.slice ka c.fs.length kc)) ∧ y.cell? ⟨w.heap.size + 3, 0, none⟩ = some (.int .i64 v.kind) ∧ y.cell? ⟨w.heap.size + 3, 1, none⟩ = some (.int .i64 v.n) ∧ y.cell? ⟨w.heap.size + 3, 2, none⟩ = some (.slice na v.names.length nc) ∧ y.cell? ⟨w.heap.size + 3, 3, none⟩ = some (.slice va v.vals.length vc)) := fun y u => ⟨⟨by rw [cells_cell (Nw.keep u c1)]; rfl, by rw [cells_cell (Nw.keep u c1)]; rfl⟩, ⟨by rw [cells_cell (Nw.keep u c2)]; rfl, by rw [cells_cell (Nw.keep u c2)]; rfl⟩, ⟨by rw [cells_cell (Nw.keep u c3)]; rfl, by rw [cells_cell (Nw.keep u c3)]; rfl⟩, cell4F (Nw.keep u c4)⟩
  have HG := Lib.hid (g.upd hN)
  have HA := Lib.hid (hta.nw hN)
  have HB := Lib.hid (htb.nw hN)
  have HCc := Lib.hid (htc.nw hN)
  have HV := Lib.hid (hv.nw hN)
  have hsm := Lib.hid (small_c W HG.out)
  clear nw1 nw2 nw3 nW bw1 bw2 bw3 bW hN c1 c2 c3 c4 hW hw1 hw2 hw3 sw1 sw2 sw3 sW g hta htb htc hv
  go_enter Tryz.func5, Tryz.ntmps5
  go_upto_region 1 with fail
  rw [← HW.out]
  clear HW
  go_wp2_with fail
  (with_reducible refine (hsm.out).mono ?_)
  rintro _ y1 ⟨rfl, u1⟩
  have U1 := Lib.hid u1
  obtain ⟨⟨x0, x1⟩, ⟨x2, x3⟩, ⟨x4, x5⟩, -⟩ := HC.out y1 u1
  have n3 := nw_alloc y1 (.cells #[.int .i64 a.kind, .slice fa a.fs.length fc, .int .i64 b.kind, .slice ga b.fs.length gc, .int .i64 c.kind, .slice ka c.fs.length kc] tTy)
  have b3 := heap_new y1 (.cells #[.int .i64 a.kind, .slice fa a.fs.length fc, .int .i64 b.kind, .slice ga b.fs.length gc, .int .i64 c.kind, .slice ka c.fs.length kc] tTy)
  obtain ⟨y2, hy2⟩ : ∃ y, y = y1.alloc (.cells #[.int .i64 a.kind, .slice fa a.fs.length fc, .int .i64 b.kind, .slice ga b.fs.length gc, .int .i64 c.kind, .slice ka c.fs.length kc] tTy) := ⟨_, rfl⟩
  rw [← hy2] at n3 b3
  have HY2 := Lib.hid hy2
  have U2 := Lib.hid (u1.trans n3)
  have hty := Lib.hid (typed_c y1.heap.size y2.heap.size _ [(.slice fa a.fs.length fc, a), (.slice ga b.fs.length gc, b), (.slice ka c.fs.length kc, c)] y2 (SlS.of_owns (xs := [[.int .i64 a.kind, .slice fa a.fs.length fc], [.int .i64 b.kind, .slice ga b.fs.length gc], [.int .i64 c.kind, .slice ka c.fs.length kc]]) (own_block_row (n := 3) (sz := 2) (xs := [.int .i64 a.kind, .slice fa a.fs.length fc, .int .i64 b.kind, .slice ga b.fs.length gc, .int .i64 c.kind, .slice ka c.fs.length kc]) b3 rfl (by unfold maxLen; omega)) rfl (by omega) (fun y hy => by simp at hy; rcases hy with rfl | rfl | rfl <;> rfl)) (fun z hz => by
    simp at hz
    rcases hz with rfl | rfl | rfl
    · exact HA.out.nw U2.out
    · exact HB.out.nw U2.out
    · exact HCc.out.nw U2.out) (by simp))
  clear hy2 n3 b3 u1 hsm
  go_wp2_with fail
  rw [← HY2.out]
  clear HY2
  (with_reducible refine (hty.out).mono ?_)
  rintro _ y3 ⟨bt, rfl, u3⟩
  have U3 := Lib.hid (U2.out.trans u3)
  clear u3 hty x0 x1 x2 x3 x4 x5
  cases bt with
  | false =>
    go_wp2_with fail
    go_ret
    exact ⟨rfl, HN.out.trans U3.out⟩
  | true =>
  obtain ⟨-, -, -, z0, z1, z2, z3⟩ := HC.out y3 U3.out
  have hvl : Hid (Calls Tryz.prog 9 #[.agg #[.int .i64 v.kind, .int .i64 v.n, .slice na v.names.length nc, .slice va v.vals.length vc], .int .i64 40, .int .i64 6] y3 fun e w' => ∃ r : Int, e = .returned (.int .i64 r) ∧ Nw y3 w') := values_c P 6 (Nat.le_refl _) v _ _ 40 y3 (HV.out.nw U3.out)
  go_wp2_with fail
  (with_reducible refine (hvl.out).mono ?_)
  rintro _ y4 ⟨r, rfl, u4⟩
  have U4 := Lib.hid (U3.out.trans u4)
  clear u4 hvl z0 z1 z2 z3
  by_cases hr : 40 < r
  · go_wp2_with fail
    go_ret
    exact ⟨rfl, HN.out.trans U4.out⟩
  have hr' : r ≤ 40 := by omega
  clear hr
  have l0 : ∀ j : Later y4, j.1.cell? ⟨w.heap.size, 0, none⟩ = some (.int .i64 a.kind) := fun j => (HC.out j.1 (U4.out.trans j.nw)).1.1
  have l1 : ∀ j : Later y4, j.1.cell? ⟨w.heap.size, 1, none⟩ = some (.slice fa a.fs.length fc) := fun j => (HC.out j.1 (U4.out.trans j.nw)).1.2
  have hc1 : Hid (∀ z, Nw y4 z → Calls Tryz.prog 17 #[.agg #[.int .i64 a.kind, .slice fa a.fs.length fc], .agg #[.int .i64 a.kind, .slice fa a.fs.length fc]] z fun e w' => e = .returned (.bool (rightTy 4 a)) ∧ Nw z w') := fun z u => by
    have := Reads_c _ _ a a z (HG.out.upd (U4.out.trans u)) (HA.out.nw (U4.out.trans u)) (HA.out.nw (U4.out.trans u))
    rw [reads_refl] at this; exact this
  have hc2 : Hid (∀ z, Nw y4 z → Calls Tryz.prog 22 #[.agg #[.int .i64 a.kind, .slice fa a.fs.length fc]] z fun e w' => e = .returned (.bool (rightTy 4 a)) ∧ Nw z w') := fun z u => types_right_c _ a z (HG.out.upd (U4.out.trans u)) (HA.out.nw (U4.out.trans u))
  have hra : ∃ ra, ra = rightTy 4 a := ⟨_, rfl⟩
  obtain ⟨ra, hra⟩ := hra
  rw [← hra] at hc1 hc2
  clear hra
  go_wp2_with fail
  refine wp_region_nw (by kernel_rfl) (by kernel_rfl) ?_
  repeat (go_big_quiet_step ((first | (go_at_call 17; exact later_call (hc1.out _ (Later.nw _))) | (go_at_call 22; exact later_call (hc2.out _ (Later.nw _))))))
  refine wpQuiet_nil ?_
  intro y5 u5
  replace u5 := later_out u5
  have U5 := Lib.hid (U4.out.trans u5)
  clear u5 hc1 hc2 l0 l1
  obtain ⟨⟨x0, x1⟩, ⟨x2, x3⟩, ⟨x4, x5⟩, -⟩ := HC.out y5 U5.out
  have hab := Lib.hid (Reads_c _ _ a b y5 (HG.out.upd U5.out) (HA.out.nw U5.out) (HB.out.nw U5.out))
  go_wp2_with fail
  (with_reducible refine (hab.out).mono ?_)
  rintro _ y6 ⟨rfl, u6⟩
  have U6 := Lib.hid (U5.out.trans u6)
  clear u6 hab x0 x1 x2 x3 x4 x5
  obtain ⟨⟨x0, x1⟩, ⟨x2, x3⟩, ⟨x4, x5⟩, -⟩ := HC.out y6 U6.out
  cases h1 : fReads a b with
  | false =>
    go_wp2_with fail
    go_ret
    exact ⟨rfl, HN.out.trans U6.out⟩
  | true =>
  have hbc := Lib.hid (Reads_c _ _ b c y6 (HG.out.upd U6.out) (HB.out.nw U6.out) (HCc.out.nw U6.out))
  go_wp2_with fail
  (with_reducible refine (hbc.out).mono ?_)
  rintro _ y7 ⟨rfl, u7⟩
  have U7 := Lib.hid (U6.out.trans u7)
  clear u7 hbc x0 x1 x2 x3 x4 x5
  obtain ⟨⟨x0, x1⟩, ⟨x2, x3⟩, ⟨x4, x5⟩, z0, z1, z2, z3⟩ := HC.out y7 U7.out
  cases h2 : fReads b c with
  | false =>
    go_wp2_with fail
    go_ret
    exact ⟨rfl, HN.out.trans U7.out⟩
  | true =>
  obtain ⟨ra1, rb1, sab⟩ := reads_iff.1 h1
  obtain ⟨-, rc1, sbc⟩ := reads_iff.1 h2
  have sac := Fm.sub_trans sab sbc
  have hac := Lib.hid (Reads_c _ _ a c y7 (HG.out.upd U7.out) (HA.out.nw U7.out) (HCc.out.nw U7.out))
  rw [reads_iff.2 ⟨ra1, rc1, sac⟩] at hac
  go_wp2_with fail
  (with_reducible refine (hac.out).mono ?_)
  rintro _ y8 ⟨rfl, u8⟩
  have U8 := Lib.hid (U7.out.trans u8)
  clear u8 hac x0 x1 x2 x3 x4 x5 z0 z1 z2 z3
  obtain ⟨⟨x0, x1⟩, -, -, z0, z1, z2, z3⟩ := HC.out y8 U8.out
  have hwr := Lib.hid (Write_c P _ a _ _ v y8 (HG.out.upd U8.out) (HA.out.nw U8.out) (HV.out.nw U8.out))
  cases h3 : Fm.has a v with
  | false =>
    rw [fWrite_not ra1 h3] at hwr
    go_wp2_with fail
    (with_reducible refine (hwr.out).mono ?_)
    rintro _ y9 ⟨rfl, u9⟩
    have U9 := Lib.hid (U8.out.trans u9)
    clear u9 x0 x1 z0 z1 z2 z3
    go_wp2_with fail
    go_ret
    exact ⟨rfl, HN.out.trans U9.out⟩
  | true =>
  rw [fWrite_has h3] at hwr
  have hok := HV.out.okI 4
  obtain ⟨-, hrv, hfit⟩ := has_iff.1 h3
  have hfb := Fm.sub_fits sab hfit
  obtain ⟨p1, p2, p3, p4, p5, p6⟩ := Fm.proj_ok rb1 hrv hfb hok
  have hbp := has_iff.2 ⟨rb1, p1, p2⟩
  have HR1 := Lib.hid (back_read h3 hok rc1 sac)
  have HR2 := Lib.hid (back_read h3 hok rb1 sab)
  have HR3 := Lib.hid (back_read hbp p3 rc1 sbc)
  rw [Fm.proj_proj rb1 sbc] at HR3
  have HW3 := Lib.hid (fWrite_has hbp)
  have HL1 := Lib.hid (Nat.le_trans (Fm.write_len (Nat.le_refl _) ra1 hok) Fm.W4)
  have HL2 := Lib.hid (Nat.le_trans (Fm.write_len (Nat.le_refl _) rb1 p3) Fm.W4)
  have HCV := Lib.hid (Fm.proj_ok rc1 hrv (Fm.sub_fits sac hfit) hok).1
  clear p1 p2 p3 p4 p5 p6 hbp hok hrv hfit hfb sab sbc sac
  generalize Fm.proj 4 c v = pc at *
  generalize Fm.proj 4 b v = pb at *
  generalize Fm.writeF 4 a v = sa at *
  generalize Fm.writeF 4 b pb = sb at *
  go_wp2_with fail
  (with_reducible refine (hwr.out).mono ?_)
  rintro _ y9 ⟨rfl, u9⟩
  have U9 := Lib.hid (U8.out.trans u9)
  clear u9 hwr x0 x1 z0 z1 z2 z3
  obtain ⟨-, -, ⟨x4, x5⟩, -⟩ := HC.out y9 U9.out
  have hr1 : Hid (Calls Tryz.prog 12 #[.agg #[.int .i64 c.kind, .slice ka c.fs.length kc], .string ⟨sa.toArray⟩] y9 fun e w' => ∃ xn xv, e = .returned (.tuple #[.agg #[.int .i64 pc.kind, .int .i64 pc.n, xn, xv], .int .i64 0]) ∧ Hid (VlAt (fun j => y9.heap.size ≤ j) w' xn xv pc ∧ Nw y9 w')) := by
    have := Read_c _ c sa y9 (HG.out.upd U9.out) (HCc.out.nw U9.out) (by have := HL1.out; omega)
    rw [HR1.out] at this
    exact this
  go_wp2_with fail
  -- Read's answer in a box: at U9 (HU) by the contract hr1: the box's world wa, its facts HBwa HVwa HUwa, of the value pc
  (with_reducible refine ((hr1).out).mono ?_)
  rintro _ z1 ⟨xn, xv, rfl, HX⟩
  have hxn : ∃ xa xc, xn = .slice xa (pc).names.length xc := by obtain ⟨a, c, h, -⟩ := HX.out.1.names; exact ⟨a, c, h⟩
  have hxv : ∃ xa xc, xv = .slice xa (pc).vals.length xc := by obtain ⟨a, c, h, -⟩ := HX.out.1.vals; exact ⟨a, c, h⟩
  obtain ⟨xawa, xcwa, rfl⟩ := hxn
  obtain ⟨yawa, ycwa, rfl⟩ := hxv
  have n2 := nw_alloc z1 (.cells #[.int .i64 (pc).kind, .int .i64 (pc).n, .slice xawa (pc).names.length xcwa, .slice yawa (pc).vals.length ycwa] tVl)
  have b2 := heap_new z1 (.cells #[.int .i64 (pc).kind, .int .i64 (pc).n, .slice xawa (pc).names.length xcwa, .slice yawa (pc).vals.length ycwa] tVl)
  obtain ⟨wa, hwa⟩ : ∃ y, y = z1.alloc (.cells #[.int .i64 (pc).kind, .int .i64 (pc).n, .slice xawa (pc).names.length xcwa, .slice yawa (pc).vals.length ycwa] tVl) := ⟨_, rfl⟩
  rw [← hwa] at n2 b2
  have HZ := Lib.hid hwa
  have HSwa := Lib.hid (HX.out.2.trans n2)
  have HUwa := Lib.hid ((U9).out.trans HSwa.out)
  have HVwa := Lib.hid (HX.out.1.nw n2)
  have HBwa := Lib.hid b2
  clear HX n2 b2 hwa
  go_upto_region 14 with fail
  rw [← HZ.out]
  clear HZ
  obtain ⟨qwa, hq⟩ : ∃ q, q = z1.heap.size := ⟨_, rfl⟩
  rw [← hq] at HBwa
  rw [← hq]
  clear hq
  clear x4 x5 hr1
  obtain ⟨-, ⟨x2, x3⟩, -⟩ := HC.out wa HUwa.out
  have hr2 : Hid (Calls Tryz.prog 12 #[.agg #[.int .i64 b.kind, .slice ga b.fs.length gc], .string ⟨sa.toArray⟩] wa fun e w' => ∃ xn xv, e = .returned (.tuple #[.agg #[.int .i64 pb.kind, .int .i64 pb.n, xn, xv], .int .i64 0]) ∧ Hid (VlAt (fun j => wa.heap.size ≤ j) w' xn xv pb ∧ Nw wa w')) := by
    have := Read_c _ b sa wa (HG.out.upd HUwa.out) (HB.out.nw HUwa.out) (by have := HL1.out; omega)
    rw [HR2.out] at this
    exact this
  go_wp2_with fail
  -- Read's answer in a box: at HUwa (HU) by the contract hr2: the box's world wb, its facts HBwb HVwb HUwb, of the value pb
  (with_reducible refine ((hr2).out).mono ?_)
  rintro _ z1 ⟨xn, xv, rfl, HX⟩
  have hxn : ∃ xa xc, xn = .slice xa (pb).names.length xc := by obtain ⟨a, c, h, -⟩ := HX.out.1.names; exact ⟨a, c, h⟩
  have hxv : ∃ xa xc, xv = .slice xa (pb).vals.length xc := by obtain ⟨a, c, h, -⟩ := HX.out.1.vals; exact ⟨a, c, h⟩
  obtain ⟨xawb, xcwb, rfl⟩ := hxn
  obtain ⟨yawb, ycwb, rfl⟩ := hxv
  have n2 := nw_alloc z1 (.cells #[.int .i64 (pb).kind, .int .i64 (pb).n, .slice xawb (pb).names.length xcwb, .slice yawb (pb).vals.length ycwb] tVl)
  have b2 := heap_new z1 (.cells #[.int .i64 (pb).kind, .int .i64 (pb).n, .slice xawb (pb).names.length xcwb, .slice yawb (pb).vals.length ycwb] tVl)
  obtain ⟨wb, hwb⟩ : ∃ y, y = z1.alloc (.cells #[.int .i64 (pb).kind, .int .i64 (pb).n, .slice xawb (pb).names.length xcwb, .slice yawb (pb).vals.length ycwb] tVl) := ⟨_, rfl⟩
  rw [← hwb] at n2 b2
  have HZ := Lib.hid hwb
  have HSwb := Lib.hid (HX.out.2.trans n2)
  have HUwb := Lib.hid ((HUwa).out.trans HSwb.out)
  have HVwb := Lib.hid (HX.out.1.nw n2)
  have HBwb := Lib.hid b2
  clear HX n2 b2 hwb
  go_upto_region 15 with fail
  rw [← HZ.out]
  clear HZ
  obtain ⟨qwb, hq⟩ : ∃ q, q = z1.heap.size := ⟨_, rfl⟩
  rw [← hq] at HBwb
  rw [← hq]
  clear hq
  clear x2 x3 hr2
  obtain ⟨-, ⟨x2, x3⟩, -⟩ := HC.out wb HUwb.out
  obtain ⟨t0, t1, t2, t3⟩ := cell4F HBwb.out
  have hw2 := Lib.hid (Write_c _ _ b _ _ pb wb (HG.out.upd HUwb.out) (HB.out.nw HUwb.out) HVwb.out)
  rw [HW3.out] at hw2
  go_wp2_with fail
  (with_reducible refine (hw2.out).mono ?_)
  rintro _ wc ⟨rfl, uc⟩
  have HUwc := Lib.hid (HUwb.out.trans uc)
  have HSwc := Lib.hid uc
  clear uc hw2 x2 x3 t0 t1 t2 t3
  obtain ⟨-, -, ⟨x4, x5⟩, -⟩ := HC.out wc HUwc.out
  have hr3 : Hid (Calls Tryz.prog 12 #[.agg #[.int .i64 c.kind, .slice ka c.fs.length kc], .string ⟨sb.toArray⟩] wc fun e w' => ∃ xn xv, e = .returned (.tuple #[.agg #[.int .i64 pc.kind, .int .i64 pc.n, xn, xv], .int .i64 0]) ∧ Hid (VlAt (fun j => wc.heap.size ≤ j) w' xn xv pc ∧ Nw wc w')) := by
    have := Read_c _ c sb wc (HG.out.upd HUwc.out) (HCc.out.nw HUwc.out) (by have := HL2.out; omega)
    rw [HR3.out] at this
    exact this
  go_wp2_with fail
  -- Read's answer in a box: at HUwc (HU) by the contract hr3: the box's world wd, its facts HBwd HVwd HUwd, of the value pc
  (with_reducible refine ((hr3).out).mono ?_)
  rintro _ z1 ⟨xn, xv, rfl, HX⟩
  have hxn : ∃ xa xc, xn = .slice xa (pc).names.length xc := by obtain ⟨a, c, h, -⟩ := HX.out.1.names; exact ⟨a, c, h⟩
  have hxv : ∃ xa xc, xv = .slice xa (pc).vals.length xc := by obtain ⟨a, c, h, -⟩ := HX.out.1.vals; exact ⟨a, c, h⟩
  obtain ⟨xawd, xcwd, rfl⟩ := hxn
  obtain ⟨yawd, ycwd, rfl⟩ := hxv
  have n2 := nw_alloc z1 (.cells #[.int .i64 (pc).kind, .int .i64 (pc).n, .slice xawd (pc).names.length xcwd, .slice yawd (pc).vals.length ycwd] tVl)
  have b2 := heap_new z1 (.cells #[.int .i64 (pc).kind, .int .i64 (pc).n, .slice xawd (pc).names.length xcwd, .slice yawd (pc).vals.length ycwd] tVl)
  obtain ⟨wd, hwd⟩ : ∃ y, y = z1.alloc (.cells #[.int .i64 (pc).kind, .int .i64 (pc).n, .slice xawd (pc).names.length xcwd, .slice yawd (pc).vals.length ycwd] tVl) := ⟨_, rfl⟩
  rw [← hwd] at n2 b2
  have HZ := Lib.hid hwd
  have HSwd := Lib.hid (HX.out.2.trans n2)
  have HUwd := Lib.hid ((HUwc).out.trans HSwd.out)
  have HVwd := Lib.hid (HX.out.1.nw n2)
  have HBwd := Lib.hid b2
  clear HX n2 b2 hwd
  go_upto_region 17 with fail
  rw [← HZ.out]
  clear HZ
  obtain ⟨qwd, hq⟩ : ∃ q, q = z1.heap.size := ⟨_, rfl⟩
  rw [← hq] at HBwd
  rw [← hq]
  clear hq
  clear x4 x5 hr3
  have us : Nw wa wd := (HSwb.out.trans HSwc.out).trans HSwd.out
  obtain ⟨t0, t1, t2, t3⟩ := cell4F HBwd.out
  obtain ⟨s0, s1, s2, s3⟩ := cell4F (Nw.keep us HBwa.out)
  have hal := Lib.hid (alike_c _ _ 4 pc _ _ _ _ wd HCV.out (HVwa.out.nw us) HVwd.out)
  clear us
  go_wp2_with fail
  (with_reducible refine (hal.out).mono ?_)
  rintro _ we ⟨rfl, ue⟩
  have HF := Lib.hid ((HN.out.trans HUwd.out).trans ue)
  clear ue s0 s1 s2 s3 t0 t1 t2 t3
  go_wp2_with fail
  go_ret
  exact ⟨rfl, HF.out⟩
end Go.Proofs.YtcelfjoopagmlaaGreatDoor
