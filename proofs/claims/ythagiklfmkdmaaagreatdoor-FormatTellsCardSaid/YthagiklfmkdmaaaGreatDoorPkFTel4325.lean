/- The walk of FormatTells. -/
import Derived.Test.YthagiklfmkdmaaaGreatDoorPkFTel4311
import Derived.Test.YthagiklfmkdmaaaGreatDoorPkFTel4312
import Derived.Test.YthagiklfmkdmaaaGreatDoorPkFTel4324
namespace Go.Proofs.YthagiklfmkdmaaaGreatDoor
open Go.RowKit Go.MapKept
set_option linter.unusedVariables false
set_option linter.unusedSimpArgs false
attribute [local irreducible] Calls
open Fm (Ty Vl Str nameB rightTy rightVl)

theorem noV_right : rightVl 4 Fm.noV = true := by decide +kernel
theorem fRead_right (t : Ty) (s : Str) : rightVl 4 (fRead t s).1 = true := by
  cases h1 : rightTy 4 t with
  | false => rw [fRead_bad h1]; exact noV_right
  | true =>
    cases h2 : Fm.readF 4 t s with
    | none => rw [fRead_none h1 h2]; exact noV_right
    | some v => rw [fRead_some h1 h2]; exact (Fm.read_ok h1 h2).1
theorem fWit_right (a b : Ty) : rightVl 4 (fWit a b).1 = true := by
  unfold fWit
  split
  · next h => exact (Fm.zero_ok h.1).1
  · exact noV_right
set_option maxHeartbeats 16000000 in
set_option maxRecDepth 100000 in
theorem formatTells_c (P : Nat → Prop) (fv gv : Value) (a b : Ty) (nv vv : Value) (v : Vl) (s : Str) (w : World) (g : Gm w) (hta : TyAt w fv a) (htb : TyAt w gv b) (hv : VlAt P w nv vv v) (hsl : s.length ≤ maxLen) :
    Calls Tryz.prog 3 #[.agg #[.int .i64 a.kind, fv], .agg #[.int .i64 b.kind, gv], .agg #[.int .i64 v.kind, .int .i64 v.n, nv, vv], .string ⟨s.toArray⟩] w fun e w' => e = .returned (.bool true) ∧ Nw w w' := by
  obtain ⟨fa, fc, rfl, -, -⟩ := hta.cells
  obtain ⟨ga, gc, rfl, -, -⟩ := htb.cells
  obtain ⟨na, nc, rfl, -, -⟩ := hv.names
  obtain ⟨va, vc, rfl, -, -⟩ := hv.vals
  have n1 := nw_alloc w (.cells #[.int .i64 a.kind, .slice fa a.fs.length fc] tTy)
  have b1 := heap_new w (.cells #[.int .i64 a.kind, .slice fa a.fs.length fc] tTy)
  obtain ⟨W1, hW1⟩ : ∃ z, z = w.alloc (.cells #[.int .i64 a.kind, .slice fa a.fs.length fc] tTy) := ⟨_, rfl⟩
  have s1 : W1.heap.size = w.heap.size + 1 := by rw [hW1, World.size_alloc]
  rw [← hW1] at n1 b1
  have n2 := nw_alloc W1 (.cells #[.int .i64 b.kind, .slice ga b.fs.length gc] tTy)
  have b2 := heap_new W1 (.cells #[.int .i64 b.kind, .slice ga b.fs.length gc] tTy)
  obtain ⟨W2, hW2⟩ : ∃ z, z = W1.alloc (.cells #[.int .i64 b.kind, .slice ga b.fs.length gc] tTy) := ⟨_, rfl⟩
  have s2 : W2.heap.size = w.heap.size + 2 := by rw [hW2, World.size_alloc, s1]
  rw [← hW2] at n2 b2
  rw [s1] at b2
  have n3 := nw_alloc W2 (.cells #[.int .i64 v.kind, .int .i64 v.n, .slice na v.names.length nc, .slice va v.vals.length vc] tVl)
  have b3 := heap_new W2 (.cells #[.int .i64 v.kind, .int .i64 v.n, .slice na v.names.length nc, .slice va v.vals.length vc] tVl)
  obtain ⟨W, hW⟩ : ∃ z, z = W2.alloc (.cells #[.int .i64 v.kind, .int .i64 v.n, .slice na v.names.length nc, .slice va v.vals.length vc] tVl) := ⟨_, rfl⟩
  rw [← hW] at n3 b3
  rw [s2] at b3
  rw [hW2, hW1] at hW
  have hN := (n1.trans n2).trans n3
  replace b1 := Nw.keep (n2.trans n3) b1
  replace b2 := Nw.keep n3 b2
  have HN := Lib.hid hN
  have HW := Lib.hid hW
  have HC : Hid (∀ y, Nw W y → ((y.cell? ⟨w.heap.size, 0, none⟩ = some (.int .i64 a.kind) ∧ y.cell? ⟨w.heap.size, 1, none⟩ = some (.slice fa a.fs.length fc)) ∧ (y.cell? ⟨w.heap.size + 1, 0, none⟩ = some (.int .i64 b.kind) ∧ y.cell? ⟨w.heap.size + 1, 1, none⟩ = some (.slice ga b.fs.length gc))) ∧ y.cell? ⟨w.heap.size + 2, 0, none⟩ = some (.int .i64 v.kind) ∧ y.cell? ⟨w.heap.size + 2, 1, none⟩ = some (.int .i64 v.n) ∧ y.cell? ⟨w.heap.size + 2, 2, none⟩ = some (.slice na v.names.length nc) ∧ y.cell? ⟨w.heap.size + 2, 3, none⟩ = some (.slice va v.vals.length vc)) := fun y u => ⟨⟨⟨by rw [cells_cell (Nw.keep u b1)]; rfl, by rw [cells_cell (Nw.keep u b1)]; rfl⟩, by rw [cells_cell (Nw.keep u b2)]; rfl, by rw [cells_cell (Nw.keep u b2)]; rfl⟩, cell4F (Nw.keep u b3)⟩
  have HG := Lib.hid (g.upd hN)
  have HTA := Lib.hid (hta.nw hN)
  have HTB := Lib.hid (htb.nw hN)
  have HV := Lib.hid (hv.nw hN)
  have hsm := Lib.hid (small_c W HG.out)
  have HSM := Lib.hid hsl
  clear n1 n2 n3 b1 b2 b3 hN hW hW1 hW2 s1 s2 g hta htb hv hsl
  go_enter Tryz.func3, Tryz.ntmps3
  go_upto_region 1 with fail
  rw [← HW.out]
  clear HW
  go_wp2_with fail
  (with_reducible refine (hsm.out).mono ?_)
  rintro _ w1 ⟨rfl, u1⟩
  have U1 := Lib.hid u1
  obtain ⟨⟨⟨x0, x1⟩, x2, x3⟩, -⟩ := HC.out w1 u1
  have n3 := nw_alloc w1 (.cells #[.int .i64 a.kind, .slice fa a.fs.length fc, .int .i64 b.kind, .slice ga b.fs.length gc] tTy)
  have b3 := heap_new w1 (.cells #[.int .i64 a.kind, .slice fa a.fs.length fc, .int .i64 b.kind, .slice ga b.fs.length gc] tTy)
  obtain ⟨w2, hw2⟩ : ∃ y, y = w1.alloc (.cells #[.int .i64 a.kind, .slice fa a.fs.length fc, .int .i64 b.kind, .slice ga b.fs.length gc] tTy) := ⟨_, rfl⟩
  rw [← hw2] at n3 b3
  have HW2 := Lib.hid hw2
  have U2 := Lib.hid (u1.trans n3)
  have hty := Lib.hid (typed_c w1.heap.size w2.heap.size _ [(.slice fa a.fs.length fc, a), (.slice ga b.fs.length gc, b)] w2 (SlS.of_owns (xs := [[.int .i64 a.kind, .slice fa a.fs.length fc], [.int .i64 b.kind, .slice ga b.fs.length gc]]) (own_block_row (n := 2) (sz := 2) (xs := [.int .i64 a.kind, .slice fa a.fs.length fc, .int .i64 b.kind, .slice ga b.fs.length gc]) b3 rfl (by unfold maxLen; omega)) rfl (by omega) (fun y hy => by simp at hy; rcases hy with rfl | rfl <;> rfl)) (fun c hc => by
    simp only [List.mem_cons, List.not_mem_nil, or_false] at hc
    rcases hc with rfl | rfl
    · exact HTA.out.nw U2.out
    · exact HTB.out.nw U2.out) (by simp))
  clear hw2 n3 b3 u1 hsm
  go_wp2_with fail
  rw [← HW2.out]
  clear HW2
  (with_reducible refine (hty.out).mono ?_)
  rintro _ w3 ⟨bt, rfl, u3⟩
  have U3 := Lib.hid (U2.out.trans u3)
  clear u3 hty x0 x1 x2 x3
  cases bt with
  | false =>
    go_wp2_with fail
    go_ret
    exact ⟨rfl, HN.out.trans U3.out⟩
  | true =>
  obtain ⟨-, y0, y1, y2, y3⟩ := HC.out w3 U3.out
  have hvl : Hid (Calls Tryz.prog 11 #[.agg #[.int .i64 v.kind, .int .i64 v.n, .slice na v.names.length nc, .slice va v.vals.length vc], .int .i64 40, .int .i64 6] w3 fun e w' => ∃ r : Int, e = .returned (.int .i64 r) ∧ Nw w3 w') := values_c P 6 (Nat.le_refl _) v _ _ 40 w3 (HV.out.nw U3.out)
  go_wp2_with fail
  (with_reducible refine (hvl.out).mono ?_)
  rintro _ w4 ⟨r, rfl, u4⟩
  have U4 := Lib.hid (U3.out.trans u4)
  clear u4 hvl y0 y1 y2 y3
  by_cases hr : 40 < r
  · go_wp2_with fail
    go_ret
    exact ⟨rfl, HN.out.trans U4.out⟩
  have hr' : r ≤ 40 := by omega
  clear hr
  by_cases h500 : 500 < s.length
  · have h5 : (500 : Int) < s.length := by omega
    go_wp2_with fail
    go_ret
    exact ⟨rfl, HN.out.trans U4.out⟩
  have h5 : (s.length : Int) ≤ 500 := by omega
  have HSL : Hid (s.length ≤ 500) := by show _ ≤ _; omega
  clear h500
  obtain ⟨⟨⟨x0, x1⟩, x2, x3⟩, y0, y1, y2, y3⟩ := HC.out w4 U4.out
  -- what is written, read, and the witness
  have HWR := Lib.hid (fun (y : World) (u : Nw W y) => Write_c P _ a _ _ v y (HG.out.upd u) (HTA.out.nw u) (HV.out.nw u))
  have HWQ := Lib.hid (fun (y : World) (u : Nw W y) => Write43_r P _ a _ _ v y (HG.out.upd u).g (HTA.out.nw u) (HV.out.nw u))
  have HRR := Lib.hid (fun (y : World) (u : Nw W y) => Read_c _ a s y (HG.out.upd u) (HTA.out.nw u) (by have := HSL.out; omega))
  have HRQ := Lib.hid (fun (y : World) (u : Nw W y) => Read43_r _ a s y (HG.out.upd u).g (HTA.out.nw u) (by have := HSL.out; omega))
  have HTR := Lib.hid (fun (y : World) (u : Nw W y) => Witness_c _ _ a b y (HG.out.upd u) (HTA.out.nw u) (HTB.out.nw u))
  have HTQ := Lib.hid (fun (y : World) (u : Nw W y) => Witness43_r _ _ a b y (HG.out.upd u).g (HTA.out.nw u) (HTB.out.nw u))
  have HR1 := Lib.hid (fRead_right a s)
  have HR2 := Lib.hid (fWit_right a b)
  generalize fWrite a v = fw at *
  generalize fRead a s = fr at *
  generalize fWit a b = ft at *
  obtain ⟨ws, wc⟩ := fw
  obtain ⟨rv, rc⟩ := fr
  obtain ⟨tv, tb⟩ := ft
  dsimp only at HWR HWQ HRR HRQ HTR HTQ HR1 HR2
  have hwr := Lib.hid (HWR.out w4 U4.out)
  go_wp2_with fail
  (with_reducible refine (hwr.out).mono ?_)
  rintro _ w5 ⟨rfl, u5⟩
  have U5 := Lib.hid (U4.out.trans u5)
  have hwq := Lib.hid (HWQ.out w5 U5.out)
  clear u5 hwr x0 x1 x2 x3 y0 y1 y2 y3
  obtain ⟨⟨⟨x0, x1⟩, x2, x3⟩, y0, y1, y2, y3⟩ := HC.out w5 U5.out
  go_wp2_with fail
  (with_reducible refine (hwq.out).mono ?_)
  rintro _ w6 ⟨rfl, u6⟩
  have U6 := Lib.hid (U5.out.trans u6)
  have hrr := Lib.hid (HRR.out w6 U6.out)
  clear u6 hwq x0 x1 x2 x3 y0 y1 y2 y3
  obtain ⟨⟨⟨x0, x1⟩, x2, x3⟩, -⟩ := HC.out w6 U6.out
  go_wp2_with fail
  -- Read's answer in a box: at U6 (HU) by the contract hrr: the box's world zc, its facts HBzc HVzc HUzc, of the value rv
  (with_reducible refine ((hrr).out).mono ?_)
  rintro _ z1 ⟨xn, xv, rfl, HX⟩
  have hxn : ∃ xa xc, xn = .slice xa (rv).names.length xc := by obtain ⟨a, c, h, -⟩ := HX.out.1.names; exact ⟨a, c, h⟩
  have hxv : ∃ xa xc, xv = .slice xa (rv).vals.length xc := by obtain ⟨a, c, h, -⟩ := HX.out.1.vals; exact ⟨a, c, h⟩
  obtain ⟨xazc, xczc, rfl⟩ := hxn
  obtain ⟨yazc, yczc, rfl⟩ := hxv
  have n2 := nw_alloc z1 (.cells #[.int .i64 (rv).kind, .int .i64 (rv).n, .slice xazc (rv).names.length xczc, .slice yazc (rv).vals.length yczc] tVl)
  have b2 := heap_new z1 (.cells #[.int .i64 (rv).kind, .int .i64 (rv).n, .slice xazc (rv).names.length xczc, .slice yazc (rv).vals.length yczc] tVl)
  obtain ⟨zc, hzc⟩ : ∃ y, y = z1.alloc (.cells #[.int .i64 (rv).kind, .int .i64 (rv).n, .slice xazc (rv).names.length xczc, .slice yazc (rv).vals.length yczc] tVl) := ⟨_, rfl⟩
  rw [← hzc] at n2 b2
  have HZ := Lib.hid hzc
  have HSzc := Lib.hid (HX.out.2.trans n2)
  have HUzc := Lib.hid ((U6).out.trans HSzc.out)
  have HVzc := Lib.hid (HX.out.1.nw n2)
  have HBzc := Lib.hid b2
  clear HX n2 b2 hzc
  go_upto_region 7 with fail
  rw [← HZ.out]
  clear HZ
  obtain ⟨qzc, hq⟩ : ∃ q, q = z1.heap.size := ⟨_, rfl⟩
  rw [← hq] at HBzc
  rw [← hq]
  clear hq
  have hrq := Lib.hid (HRQ.out zc HUzc.out)
  clear hrr x0 x1 x2 x3
  obtain ⟨⟨⟨x0, x1⟩, x2, x3⟩, -⟩ := HC.out zc HUzc.out
  go_wp2_with fail
  -- Read's answer in a box: at HUzc (HU) by the contract hrq: the box's world zd, its facts HBzd HVzd HUzd, of the value rv
  (with_reducible refine ((hrq).out).mono ?_)
  rintro _ z1 ⟨xn, xv, rfl, HX⟩
  have hxn : ∃ xa xc, xn = .slice xa (rv).names.length xc := by obtain ⟨a, c, h, -⟩ := HX.out.1.names; exact ⟨a, c, h⟩
  have hxv : ∃ xa xc, xv = .slice xa (rv).vals.length xc := by obtain ⟨a, c, h, -⟩ := HX.out.1.vals; exact ⟨a, c, h⟩
  obtain ⟨xazd, xczd, rfl⟩ := hxn
  obtain ⟨yazd, yczd, rfl⟩ := hxv
  have n2 := nw_alloc z1 (.cells #[.int .i64 (rv).kind, .int .i64 (rv).n, .slice xazd (rv).names.length xczd, .slice yazd (rv).vals.length yczd] tVl)
  have b2 := heap_new z1 (.cells #[.int .i64 (rv).kind, .int .i64 (rv).n, .slice xazd (rv).names.length xczd, .slice yazd (rv).vals.length yczd] tVl)
  obtain ⟨zd, hzd⟩ : ∃ y, y = z1.alloc (.cells #[.int .i64 (rv).kind, .int .i64 (rv).n, .slice xazd (rv).names.length xczd, .slice yazd (rv).vals.length yczd] tVl) := ⟨_, rfl⟩
  rw [← hzd] at n2 b2
  have HZ := Lib.hid hzd
  have HSzd := Lib.hid (HX.out.2.trans n2)
  have HUzd := Lib.hid ((HUzc).out.trans HSzd.out)
  have HVzd := Lib.hid (HX.out.1.nw n2)
  have HBzd := Lib.hid b2
  clear HX n2 b2 hzd
  go_upto_region 8 with fail
  rw [← HZ.out]
  clear HZ
  obtain ⟨qzd, hq⟩ : ∃ q, q = z1.heap.size := ⟨_, rfl⟩
  rw [← hq] at HBzd
  rw [← hq]
  clear hq
  have htr := Lib.hid (HTR.out zd HUzd.out)
  clear hrq x0 x1 x2 x3
  obtain ⟨⟨⟨x0, x1⟩, x2, x3⟩, -⟩ := HC.out zd HUzd.out
  go_wp2_with fail
  -- Read's answer in a box: at HUzd (HU) by the contract htr: the box's world zw, its facts HBzw HVzw HUzw, of the value tv
  (with_reducible refine ((htr).out).mono ?_)
  rintro _ z1 ⟨xn, xv, rfl, HX⟩
  have hxn : ∃ xa xc, xn = .slice xa (tv).names.length xc := by obtain ⟨a, c, h, -⟩ := HX.out.1.names; exact ⟨a, c, h⟩
  have hxv : ∃ xa xc, xv = .slice xa (tv).vals.length xc := by obtain ⟨a, c, h, -⟩ := HX.out.1.vals; exact ⟨a, c, h⟩
  obtain ⟨xazw, xczw, rfl⟩ := hxn
  obtain ⟨yazw, yczw, rfl⟩ := hxv
  have n2 := nw_alloc z1 (.cells #[.int .i64 (tv).kind, .int .i64 (tv).n, .slice xazw (tv).names.length xczw, .slice yazw (tv).vals.length yczw] tVl)
  have b2 := heap_new z1 (.cells #[.int .i64 (tv).kind, .int .i64 (tv).n, .slice xazw (tv).names.length xczw, .slice yazw (tv).vals.length yczw] tVl)
  obtain ⟨zw, hzw⟩ : ∃ y, y = z1.alloc (.cells #[.int .i64 (tv).kind, .int .i64 (tv).n, .slice xazw (tv).names.length xczw, .slice yazw (tv).vals.length yczw] tVl) := ⟨_, rfl⟩
  rw [← hzw] at n2 b2
  have HZ := Lib.hid hzw
  have HSzw := Lib.hid (HX.out.2.trans n2)
  have HUzw := Lib.hid ((HUzd).out.trans HSzw.out)
  have HVzw := Lib.hid (HX.out.1.nw n2)
  have HBzw := Lib.hid b2
  clear HX n2 b2 hzw
  go_upto_region 9 with fail
  rw [← HZ.out]
  clear HZ
  obtain ⟨qzw, hq⟩ : ∃ q, q = z1.heap.size := ⟨_, rfl⟩
  rw [← hq] at HBzw
  rw [← hq]
  clear hq
  have htq := Lib.hid (HTQ.out zw HUzw.out)
  clear htr x0 x1 x2 x3
  obtain ⟨⟨⟨x0, x1⟩, x2, x3⟩, -⟩ := HC.out zw HUzw.out
  go_wp2_with fail
  -- Read's answer in a box: at HUzw (HU) by the contract htq: the box's world zu, its facts HBzu HVzu HUzu, of the value tv
  (with_reducible refine ((htq).out).mono ?_)
  rintro _ z1 ⟨xn, xv, rfl, HX⟩
  have hxn : ∃ xa xc, xn = .slice xa (tv).names.length xc := by obtain ⟨a, c, h, -⟩ := HX.out.1.names; exact ⟨a, c, h⟩
  have hxv : ∃ xa xc, xv = .slice xa (tv).vals.length xc := by obtain ⟨a, c, h, -⟩ := HX.out.1.vals; exact ⟨a, c, h⟩
  obtain ⟨xazu, xczu, rfl⟩ := hxn
  obtain ⟨yazu, yczu, rfl⟩ := hxv
  have n2 := nw_alloc z1 (.cells #[.int .i64 (tv).kind, .int .i64 (tv).n, .slice xazu (tv).names.length xczu, .slice yazu (tv).vals.length yczu] tVl)
  have b2 := heap_new z1 (.cells #[.int .i64 (tv).kind, .int .i64 (tv).n, .slice xazu (tv).names.length xczu, .slice yazu (tv).vals.length yczu] tVl)
  obtain ⟨zu, hzu⟩ : ∃ y, y = z1.alloc (.cells #[.int .i64 (tv).kind, .int .i64 (tv).n, .slice xazu (tv).names.length xczu, .slice yazu (tv).vals.length yczu] tVl) := ⟨_, rfl⟩
  rw [← hzu] at n2 b2
  have HZ := Lib.hid hzu
  have HSzu := Lib.hid (HX.out.2.trans n2)
  have HUzu := Lib.hid ((HUzw).out.trans HSzu.out)
  have HVzu := Lib.hid (HX.out.1.nw n2)
  have HBzu := Lib.hid b2
  clear HX n2 b2 hzu
  go_upto_region 10 with fail
  rw [← HZ.out]
  clear HZ
  obtain ⟨qzu, hq⟩ : ∃ q, q = z1.heap.size := ⟨_, rfl⟩
  rw [← hq] at HBzu
  rw [← hq]
  clear hq
  clear htq x0 x1 x2 x3
  have Ucu := Lib.hid ((HSzd.out.trans HSzw.out).trans HSzu.out)
  have Udu := Lib.hid (HSzw.out.trans HSzu.out)
  obtain ⟨c0, c1, c2, c3⟩ := cell4F (Nw.keep Ucu.out HBzc.out)
  obtain ⟨d0, d1, d2, d3⟩ := cell4F (Nw.keep Udu.out HBzd.out)
  have hal := Lib.hid (alike_c _ _ 4 rv _ _ _ _ zu HR1.out (HVzc.out.nw Ucu.out) (HVzd.out.nw Udu.out))
  go_wp2_with fail
  (with_reducible refine (hal.out).mono ?_)
  rintro _ z5 ⟨rfl, u5⟩
  have hal2 := Lib.hid (alike_c _ _ 4 tv _ _ _ _ z5 HR2.out (HVzw.out.nw (HSzu.out.trans u5)) (HVzu.out.nw u5))
  clear c0 c1 c2 c3 d0 d1 d2 d3 hal
  obtain ⟨c0, c1, c2, c3⟩ := cell4F (Nw.keep (HSzu.out.trans u5) HBzw.out)
  obtain ⟨d0, d1, d2, d3⟩ := cell4F (Nw.keep u5 HBzu.out)
  have U7 := Lib.hid (HUzu.out.trans u5)
  clear u5
  go_wp2_with fail
  (with_reducible refine (hal2.out).mono ?_)
  rintro _ z6 ⟨rfl, u6⟩
  have U8 := Lib.hid (U7.out.trans u6)
  clear u6 c0 c1 c2 c3 d0 d1 d2 d3 hal2
  have HP1 := Lib.hid (fun (y : World) (u : Nw z6 y) => Reads_c _ _ a b y (HG.out.upd (U8.out.trans u)) (HTA.out.nw (U8.out.trans u)) (HTB.out.nw (U8.out.trans u)))
  have HP2 := Lib.hid (fun (y : World) (u : Nw z6 y) => Reads43_r _ _ a b y (HG.out.upd (U8.out.trans u)).g (HTA.out.nw (U8.out.trans u)) (HTB.out.nw (U8.out.trans u)))
  have HP3 := Lib.hid (fun (y : World) (u : Nw z6 y) => Both_c _ _ a b y (HG.out.upd (U8.out.trans u)) (HTA.out.nw (U8.out.trans u)) (HTB.out.nw (U8.out.trans u)))
  have HP4 := Lib.hid (fun (y : World) (u : Nw z6 y) => Both43_r _ _ a b y (HG.out.upd (U8.out.trans u)).g (HTA.out.nw (U8.out.trans u)) (HTB.out.nw (U8.out.trans u)))
  generalize (fReads a b && fReads b a) = p2 at *
  generalize fReads a b = p1 at *
  have x0 : ∀ j : Later z6, j.1.cell? ⟨w.heap.size, 0, none⟩ = some (.int .i64 a.kind) := fun j => (HC.out j.1 (U8.out.trans j.nw)).1.1.1
  have x1 : ∀ j : Later z6, j.1.cell? ⟨w.heap.size, 1, none⟩ = some (.slice fa a.fs.length fc) := fun j => (HC.out j.1 (U8.out.trans j.nw)).1.1.2
  have x2 : ∀ j : Later z6, j.1.cell? ⟨w.heap.size + 1, 0, none⟩ = some (.int .i64 b.kind) := fun j => (HC.out j.1 (U8.out.trans j.nw)).1.2.1
  have x3 : ∀ j : Later z6, j.1.cell? ⟨w.heap.size + 1, 1, none⟩ = some (.slice ga b.fs.length gc) := fun j => (HC.out j.1 (U8.out.trans j.nw)).1.2.2
  go_upto_region 11 with fail
  refine wp_region_nw (by kernel_rfl) (by kernel_rfl) ?_
  repeat (go_big_quiet_step ((first | (go_at_call 19; exact later_call (HP1.out _ (Later.nw _))) | (go_at_call 20; exact later_call (HP2.out _ (Later.nw _))) | (go_at_call 21; exact later_call (HP3.out _ (Later.nw _))) | (go_at_call 22; exact later_call (HP4.out _ (Later.nw _))))))
  refine wpQuiet_nil ?_
  intro z7 u7
  replace u7 := later_out u7
  have U9 := Lib.hid (HN.out.trans (U8.out.trans u7))
  clear u7 x0 x1 x2 x3
  go_wp2_with fail
  go_ret
  exact ⟨by first | rfl | simp, U9.out⟩
theorem formatTells_b (P : Nat → Prop) (fv gv : Value) (a b : Ty) (nv vv : Value) (v : Vl) (s : ByteArray) (w : World) (g : Gm w) (hta : TyAt w fv a) (htb : TyAt w gv b) (hv : VlAt P w nv vv v) (hsl : s.size ≤ maxLen) :
    Calls Tryz.prog 3 #[.agg #[.int .i64 a.kind, fv], .agg #[.int .i64 b.kind, gv], .agg #[.int .i64 v.kind, .int .i64 v.n, nv, vv], .string s] w fun e w' => e = .returned (.bool true) ∧ Nw w w' := by
  have := formatTells_c P fv gv a b nv vv v s.data.toList w g hta htb hv (by rw [← bs_size]; exact hsl)
  rwa [bs_eta] at this
end Go.Proofs.YthagiklfmkdmaaaGreatDoor
