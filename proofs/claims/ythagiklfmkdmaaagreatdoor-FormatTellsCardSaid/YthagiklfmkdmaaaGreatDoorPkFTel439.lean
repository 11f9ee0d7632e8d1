/- format.Witness, Both. state.Text of the one value {x=0}; strings.Join of one. ladinglaw43.small. -/
import Derived.Test.YthagiklfmkdmaaaGreatDoorPkFTel438
namespace Go.Proofs.YthagiklfmkdmaaaGreatDoor
open Go.RowKit Go.MapKept
set_option linter.unusedVariables false
set_option linter.unusedSimpArgs false
attribute [local irreducible] Calls
open Fm (Ty Vl Str nameB rightTy rightVl)

/-- What Witness answers. -/
def fWit (a b : Ty) : Vl × Bool := if rightTy 4 a = true ∧ rightTy 4 b = true ∧ Fm.sub 4 a b = false then (Fm.zero 4 a, true) else (Fm.noV, false)
theorem reads_self {a b : Ty} (ha : rightTy 4 a = true) (hb : rightTy 4 b = true) : fReads a b = Fm.sub 4 a b := by unfold fReads; rw [ha, hb]; rfl
theorem wit_results (tmps : Array Value) (w : World) {r : Nat} {k n : Int} {nv vv : Value} {b : Bool} (hr : tmps.getD 4 undef = .pointer (some ⟨r, 0, none⟩)) (h5 : tmps.getD 5 undef = .bool b) (hb : w.heap[r]? = some (.cells #[.int .i64 k, .int .i64 n, nv, vv] tVl (0, 0))) :
    (results Tryz.f16 tmps).run Tryz.prog w = .ok (.tuple #[.agg #[.int .i64 k, .int .i64 n, nv, vv], .bool b]) w := by
  obtain ⟨c0, c1, c2, c3⟩ := cell4F hb
  rw [Array.getD_eq_getD_getElem?] at hr h5
  simp [results, Tryz.results16, go_sem, hr, h5, c0, c1, c2, c3]
set_option maxHeartbeats 4000000 in
set_option maxRecDepth 100000 in
theorem Both_c (fv gv : Value) (ta tb : Ty) (w : World) (g : Gm w) (ha : TyAt w fv ta) (hb : TyAt w gv tb) :
    Calls Tryz.prog 21 #[.agg #[.int .i64 ta.kind, fv], .agg #[.int .i64 tb.kind, gv]] w fun e w' => e = .returned (.bool (fReads ta tb && fReads tb ta)) ∧ Nw w w' := by
  obtain ⟨fa, fc, rfl, -, -⟩ := ha.cells
  obtain ⟨ga, gc, rfl, -, -⟩ := hb.cells
  have n1 := nw_alloc w (.cells #[.int .i64 ta.kind, .slice fa ta.fs.length fc] tTy)
  have n2 := nw_alloc (w.alloc (.cells #[.int .i64 ta.kind, .slice fa ta.fs.length fc] tTy)) (.cells #[.int .i64 tb.kind, .slice ga tb.fs.length gc] tTy)
  have b1 := n2.keep (heap_new w (.cells #[.int .i64 ta.kind, .slice fa ta.fs.length fc] tTy))
  have b2 := heap_new (w.alloc (.cells #[.int .i64 ta.kind, .slice fa ta.fs.length fc] tTy)) (.cells #[.int .i64 tb.kind, .slice ga tb.fs.length gc] tTy)
  rw [World.size_alloc] at b2
  have hN := n1.trans n2
  obtain ⟨W0, hW⟩ : ∃ W, W = (w.alloc (.cells #[.int .i64 ta.kind, .slice fa ta.fs.length fc] tTy)).alloc (.cells #[.int .i64 tb.kind, .slice ga tb.fs.length gc] tTy) := ⟨_, rfl⟩
  rw [← hW] at hN b1 b2
  have HN := Lib.hid hN
  have HW := Lib.hid hW
  have HC0 : Hid (∀ y, Nw W0 y → y.cell? ⟨w.heap.size, 0, none⟩ = some (.int .i64 ta.kind) ∧ y.cell? ⟨w.heap.size, 1, none⟩ = some (.slice fa ta.fs.length fc) ∧ y.cell? ⟨w.heap.size + 1, 0, none⟩ = some (.int .i64 tb.kind) ∧ y.cell? ⟨w.heap.size + 1, 1, none⟩ = some (.slice ga tb.fs.length gc)) := fun y u => ⟨by rw [cells_cell (Nw.keep u b1)]; rfl, by rw [cells_cell (Nw.keep u b1)]; rfl, by rw [cells_cell (Nw.keep u b2)]; rfl, by rw [cells_cell (Nw.keep u b2)]; rfl⟩
  have HG := Lib.hid (g.upd hN)
  have HTA := Lib.hid (ha.nw hN)
  have HTB := Lib.hid (hb.nw hN)
  have hr1 := Lib.hid (Reads_c _ _ ta tb W0 HG.out HTA.out HTB.out)
  obtain ⟨x0, x1, x2, x3⟩ := HC0.out W0 (Upd.refl _ _)
  clear n1 n2 b1 b2 hN hW g ha hb
  go_enter Tryz.func21, Tryz.ntmps21
  go_upto_region 1 with fail
  rw [← HW.out]
  clear HW
  go_wp2_with fail
  (with_reducible refine (hr1.out).mono ?_)
  rintro _ w2 ⟨rfl, u2⟩
  have hr2 := Lib.hid (Reads_c _ _ tb ta w2 (HG.out.upd u2) (HTB.out.nw u2) (HTA.out.nw u2))
  have U2 := Lib.hid u2
  clear x0 x1 x2 x3 hr1
  obtain ⟨x0, x1, x2, x3⟩ := HC0.out w2 u2
  clear u2
  cases h1 : fReads ta tb with
  | false =>
    clear hr2
    go_wp2_with fail
    go_ret
    exact ⟨by rw [h1]; rfl, HN.out.trans U2.out⟩
  | true =>
    go_wp2_with fail
    (with_reducible refine (hr2.out).mono ?_)
    rintro _ w3 ⟨rfl, u3⟩
    have U3 := Lib.hid (U2.out.trans u3)
    clear u3 x0 x1 x2 x3
    go_wp2_with fail
    go_ret
    exact ⟨by rw [h1]; rfl, HN.out.trans U3.out⟩
set_option maxHeartbeats 4000000 in
set_option maxRecDepth 100000 in
theorem Witness_c (fv gv : Value) (ta tb : Ty) (w : World) (g : Gm w) (ha : TyAt w fv ta) (hb : TyAt w gv tb) :
    Calls Tryz.prog 16 #[.agg #[.int .i64 ta.kind, fv], .agg #[.int .i64 tb.kind, gv]] w fun e w' => ∃ xn xv, e = .returned (.tuple #[.agg #[.int .i64 (fWit ta tb).1.kind, .int .i64 (fWit ta tb).1.n, xn, xv], .bool (fWit ta tb).2]) ∧ Hid (VlAt (fun j => w.heap.size ≤ j) w' xn xv (fWit ta tb).1 ∧ Nw w w') := by
  have hgb := g.g.big
  obtain ⟨fa, fc, rfl, -, -⟩ := ha.cells
  obtain ⟨ga, gc, rfl, -, -⟩ := hb.cells
  have n1 := nw_alloc w (.cells #[.int .i64 ta.kind, .slice fa ta.fs.length fc] tTy)
  have n2 := nw_alloc (w.alloc (.cells #[.int .i64 ta.kind, .slice fa ta.fs.length fc] tTy)) (.cells #[.int .i64 tb.kind, .slice ga tb.fs.length gc] tTy)
  have b1 := n2.keep (heap_new w (.cells #[.int .i64 ta.kind, .slice fa ta.fs.length fc] tTy))
  have b2 := heap_new (w.alloc (.cells #[.int .i64 ta.kind, .slice fa ta.fs.length fc] tTy)) (.cells #[.int .i64 tb.kind, .slice ga tb.fs.length gc] tTy)
  rw [World.size_alloc] at b2
  obtain ⟨W1, hW1⟩ : ∃ W, W = (w.alloc (.cells #[.int .i64 ta.kind, .slice fa ta.fs.length fc] tTy)).alloc (.cells #[.int .i64 tb.kind, .slice ga tb.fs.length gc] tTy) := ⟨_, rfl⟩
  have hs1 : W1.heap.size = w.heap.size + 1 + 1 := by rw [hW1]; simp
  have hN1 := n1.trans n2
  rw [← hW1] at hN1 b1 b2
  have n3 := nw_alloc W1 (.cells #[.int .i64 0, .int .i64 0, .slice none 0 0, .slice none 0 0] tVl)
  have b3 := heap_new W1 (.cells #[.int .i64 0, .int .i64 0, .slice none 0 0, .slice none 0 0] tVl)
  rw [hs1] at b3
  replace b1 := n3.keep b1
  replace b2 := n3.keep b2
  have hN := hN1.trans n3
  obtain ⟨W0, hW⟩ : ∃ W, W = W1.alloc (.cells #[.int .i64 0, .int .i64 0, .slice none 0 0, .slice none 0 0] tVl) := ⟨_, rfl⟩
  have hs0 : W0.heap.size = w.heap.size + 3 := by rw [hW]; simp [hs1]
  rw [← hW] at hN b1 b2 b3
  rw [hW1] at hW
  have HN := Lib.hid hN
  have HW := Lib.hid hW
  have HS0 := Lib.hid hs0
  have HGB : Hid (nG ≤ w.heap.size) := hgb
  have HB3 := Lib.hid b3
  have HC0 : Hid (∀ y, Nw W0 y → y.cell? ⟨w.heap.size, 0, none⟩ = some (.int .i64 ta.kind) ∧ y.cell? ⟨w.heap.size, 1, none⟩ = some (.slice fa ta.fs.length fc) ∧ y.cell? ⟨w.heap.size + 1, 0, none⟩ = some (.int .i64 tb.kind) ∧ y.cell? ⟨w.heap.size + 1, 1, none⟩ = some (.slice ga tb.fs.length gc)) := fun y u => ⟨by rw [cells_cell (Nw.keep u b1)]; rfl, by rw [cells_cell (Nw.keep u b1)]; rfl, by rw [cells_cell (Nw.keep u b2)]; rfl, by rw [cells_cell (Nw.keep u b2)]; rfl⟩
  have HG := Lib.hid (g.upd hN)
  have HTA := Lib.hid (ha.nw hN)
  have HTB := Lib.hid (hb.nw hN)
  have hr1 := Lib.hid (types_right_c _ ta W0 HG.out HTA.out)
  obtain ⟨x0, x1, x2, x3⟩ := HC0.out W0 (Upd.refl _ _)
  clear n1 n2 n3 b1 b2 b3 hN hN1 hW hW1 hs1 hs0 g ha hb hgb
  go_enter Tryz.func16, Tryz.ntmps16
  go_upto_region 1 with fail
  rw [← HW.out]
  clear HW
  go_wp2_with fail
  cases h1 : rightTy 4 ta with
  | false =>
    rw [h1] at hr1
    have e9 : Hid (fWit ta tb = (Fm.noV, false)) := by show _ = _; unfold fWit; rw [if_neg (by rw [h1]; simp)]
    (with_reducible refine (hr1.out).mono ?_)
    rintro _ w2 ⟨rfl, u2⟩
    have U2 := Lib.hid u2
    clear u2 x0 x1 x2 x3
    -- the way out, nothing stored but zeros: the world w2, behind W0 by Uw2
    have hb4 := Nw.keep (U2.out) HB3.out
    obtain ⟨d0, d1, d2, d3⟩ := cell4F hb4
    obtain ⟨f0, f1, f2, f3⟩ := froz4F hb4
    have hg : nG ≤ w.heap.size + 1 + 1 := by have := HGB.out; omega
    have hz := Lib.hid (setCell_block (setCell_block (setCell_block (setCell_block hb4 0 (.int .i64 0)) 1 (.int .i64 0)) 2 (.slice none 0 0)) 3 (.slice none 0 0))
    have hu := Lib.hid (Upd.set1 (Upd.set1 (Upd.set1 (Upd.set1 (Upd.refl _ (w2)) hg 0 (.int .i64 0)) hg 1 (.int .i64 0)) hg 2 (.slice none 0 0)) hg 3 (.slice none 0 0))
    clear hb4
    go_wp2_with fail
    refine bodyPost_ret (wit_results (b := false) _ _ ?_ ?_ hz.out) ?_ ?_
    · rfl
    · rfl
    · rfl
    exact ⟨_, _, by rw [e9.out]; rfl, by rw [e9.out]; exact VlAt.nil _ _ (by unfold I64; omega) (by unfold I64; omega), (HN.out.trans (U2.out)).trans' hu.out (fun k hk e => by omega)⟩
  | true =>
  rw [h1] at hr1
  (with_reducible refine (hr1.out).mono ?_)
  rintro _ w2 ⟨rfl, u2⟩
  have hr2 := Lib.hid (types_right_c _ tb w2 (HG.out.upd u2) (HTB.out.nw u2))
  have U2 := Lib.hid u2
  clear x0 x1 x2 x3 hr1
  obtain ⟨x0, x1, x2, x3⟩ := HC0.out w2 u2
  clear u2
  cases h2 : rightTy 4 tb with
  | false =>
    rw [h2] at hr2
    have e9 : Hid (fWit ta tb = (Fm.noV, false)) := by show _ = _; unfold fWit; rw [if_neg (by rw [h2]; simp)]
    go_wp2_with fail
    (with_reducible refine (hr2.out).mono ?_)
    rintro _ w3 ⟨rfl, u3⟩
    have U3 := Lib.hid (U2.out.trans u3)
    clear u3 x0 x1 x2 x3
    -- the way out, nothing stored but zeros: the world w3, behind W0 by Uw3
    have hb4 := Nw.keep (U3.out) HB3.out
    obtain ⟨d0, d1, d2, d3⟩ := cell4F hb4
    obtain ⟨f0, f1, f2, f3⟩ := froz4F hb4
    have hg : nG ≤ w.heap.size + 1 + 1 := by have := HGB.out; omega
    have hz := Lib.hid (setCell_block (setCell_block (setCell_block (setCell_block hb4 0 (.int .i64 0)) 1 (.int .i64 0)) 2 (.slice none 0 0)) 3 (.slice none 0 0))
    have hu := Lib.hid (Upd.set1 (Upd.set1 (Upd.set1 (Upd.set1 (Upd.refl _ (w3)) hg 0 (.int .i64 0)) hg 1 (.int .i64 0)) hg 2 (.slice none 0 0)) hg 3 (.slice none 0 0))
    clear hb4
    go_wp2_with fail
    refine bodyPost_ret (wit_results (b := false) _ _ ?_ ?_ hz.out) ?_ ?_
    · rfl
    · rfl
    · rfl
    exact ⟨_, _, by rw [e9.out]; rfl, by rw [e9.out]; exact VlAt.nil _ _ (by unfold I64; omega) (by unfold I64; omega), (HN.out.trans (U3.out)).trans' hu.out (fun k hk e => by omega)⟩
  | true =>
  rw [h2] at hr2
  go_wp2_with fail
  (with_reducible refine (hr2.out).mono ?_)
  rintro _ w3 ⟨rfl, u3⟩
  have hr3 := Lib.hid (Reads_c _ _ ta tb w3 (HG.out.upd (U2.out.trans u3)) (HTA.out.nw (U2.out.trans u3)) (HTB.out.nw (U2.out.trans u3)))
  rw [reads_self h1 h2] at hr3
  have U3 := Lib.hid (U2.out.trans u3)
  clear x0 x1 x2 x3 hr2 u3
  obtain ⟨x0, x1, x2, x3⟩ := HC0.out w3 U3.out
  go_wp2_with fail
  cases h3 : Fm.sub 4 ta tb with
  | true =>
    rw [h3] at hr3
    have e9 : Hid (fWit ta tb = (Fm.noV, false)) := by show _ = _; unfold fWit; rw [if_neg (by rw [h3]; simp)]
    (with_reducible refine (hr3.out).mono ?_)
    rintro _ w4 ⟨rfl, u4⟩
    have U4 := Lib.hid (U3.out.trans u4)
    clear u4 x0 x1 x2 x3
    -- the way out, nothing stored but zeros: the world w4, behind W0 by Uw4
    have hb4 := Nw.keep (U4.out) HB3.out
    obtain ⟨d0, d1, d2, d3⟩ := cell4F hb4
    obtain ⟨f0, f1, f2, f3⟩ := froz4F hb4
    have hg : nG ≤ w.heap.size + 1 + 1 := by have := HGB.out; omega
    have hz := Lib.hid (setCell_block (setCell_block (setCell_block (setCell_block hb4 0 (.int .i64 0)) 1 (.int .i64 0)) 2 (.slice none 0 0)) 3 (.slice none 0 0))
    have hu := Lib.hid (Upd.set1 (Upd.set1 (Upd.set1 (Upd.set1 (Upd.refl _ (w4)) hg 0 (.int .i64 0)) hg 1 (.int .i64 0)) hg 2 (.slice none 0 0)) hg 3 (.slice none 0 0))
    clear hb4
    go_wp2_with fail
    refine bodyPost_ret (wit_results (b := false) _ _ ?_ ?_ hz.out) ?_ ?_
    · rfl
    · rfl
    · rfl
    exact ⟨_, _, by rw [e9.out]; rfl, by rw [e9.out]; exact VlAt.nil _ _ (by unfold I64; omega) (by unfold I64; omega), (HN.out.trans (U4.out)).trans' hu.out (fun k hk e => by omega)⟩
  | false =>
    rw [h3] at hr3
    have e9 : Hid (fWit ta tb = (Fm.zero 4 ta, true)) := by show _ = _; unfold fWit; rw [if_pos ⟨h1, h2, h3⟩]
    (with_reducible refine (hr3.out).mono ?_)
    rintro _ w4 ⟨rfl, u4⟩
    have hz := Lib.hid (zero_c 4 (Nat.le_refl _) ta _ w4 (HG.out.upd (U3.out.trans u4)) h1 (HTA.out.nw (U3.out.trans u4)))
    have U4 := Lib.hid (U3.out.trans u4)
    clear u4 x0 x1 x2 x3 hr3
    obtain ⟨x0, x1, x2, x3⟩ := HC0.out w4 U4.out
    go_wp2_with fail
    (with_reducible refine (hz.out).mono ?_)
    rintro _ w5 ⟨xn, xv, rfl, hx, u5⟩
    obtain ⟨xa, xc, rfl, -⟩ := hx.names
    obtain ⟨ya, yc, rfl, -⟩ := hx.vals
    have U5 := Lib.hid (U4.out.trans u5)
    have hb4 := Nw.keep U5.out HB3.out
    obtain ⟨d0, d1, d2, d3⟩ := cell4F hb4
    obtain ⟨f0, f1, f2, f3⟩ := froz4F hb4
    have hg : nG ≤ w.heap.size + 1 + 1 := by have := HGB.out; omega
    have hz9 := Lib.hid (setCell_block (setCell_block (setCell_block (setCell_block hb4 0 (.int .i64 (Fm.zero 4 ta).kind)) 1 (.int .i64 (Fm.zero 4 ta).n)) 2 (.slice xa (Fm.zero 4 ta).names.length xc)) 3 (.slice ya (Fm.zero 4 ta).vals.length yc))
    have hu := Lib.hid (Upd.set1 (Upd.set1 (Upd.set1 (Upd.set1 (Upd.refl _ w5) hg 0 (.int .i64 (Fm.zero 4 ta).kind)) hg 1 (.int .i64 (Fm.zero 4 ta).n)) hg 2 (.slice xa (Fm.zero 4 ta).names.length xc)) hg 3 (.slice ya (Fm.zero 4 ta).vals.length yc))
    have hsz : Hid (w.heap.size + 3 ≤ w4.heap.size) := by have := U4.out.size; have := HS0.out; show _ ≤ _; omega
    have hv := Lib.hid ((hx.upd hu.out (fun k hk e => by have := hsz.out; omega)).mono (Q := fun j => w.heap.size ≤ j) (fun k _ hk => by have := hsz.out; omega))
    clear hb4 hx hz u5 x0 x1 x2 x3
    generalize Fm.zero 4 ta = zv at *
    go_wp2_with fail
    refine bodyPost_ret (wit_results (b := true) _ _ ?_ ?_ hz9.out) ?_ ?_
    · rfl
    · rfl
    · rfl
    exact ⟨_, _, by rw [e9.out], by rw [e9.out]; exact hv.out, (HN.out.trans U5.out).trans' hu.out (fun k hk e => by omega)⟩
end Go.Proofs.YthagiklfmkdmaaaGreatDoor
namespace Go.Proofs.YthagiklfmkdmaaaGreatDoor
open Go.RowKit Go.MapKept
set_option linter.unusedVariables false
set_option linter.unusedSimpArgs false
attribute [local irreducible] Calls
open Fm (Ty Vl Str nameB rightTy rightVl)

theorem Join_one (b o cap : Nat) (s : ByteArray) (w : World) (h : w.cell? ⟨b, o, none⟩ = some (.string s)) :
    Calls Tryz.prog 80 #[.slice (some ⟨b, o, none⟩) 1 cap, .string ⟨#[44]⟩] w fun e w' => e = .returned (.string s) ∧ w = w' := by
  go_enter Tryz.func80, Tryz.ntmps80
  go_wp2_with fail
  go_ret
  exact ⟨rfl, rfl⟩
def vX : Vl := .mk 2 0 [[120]] [Fm.noV]
theorem text_zero (P : Nat → Prop) (nv vv : Value) (w : World) (g : Gm w) (h : VlAt P w nv vv Fm.noV) :
    Calls Tryz.prog 45 #[.agg #[.int .i64 0, .int .i64 0, nv, vv]] w fun e w' => e = .returned (.string ⟨#[48]⟩) ∧ Nw w w' := by
  have hv0 := h
  obtain ⟨na, nc, rfl, -, -⟩ := h.names
  obtain ⟨va, vc, rfl, -, -⟩ := h.vals
  have n1 := nw_alloc w (.cells #[.int .i64 0, .int .i64 0, .slice na 0 nc, .slice va 0 vc] tVl)
  have b1 := heap_new w (.cells #[.int .i64 0, .int .i64 0, .slice na 0 nc, .slice va 0 vc] tVl)
  obtain ⟨W, hW⟩ : ∃ W, W = w.alloc (.cells #[.int .i64 0, .int .i64 0, .slice na 0 nc, .slice va 0 vc] tVl) := ⟨_, rfl⟩
  rw [← hW] at n1 b1
  have HW := Lib.hid hW
  have HN := Lib.hid n1
  have HB := Lib.hid b1
  have HG := Lib.hid (g.upd n1)
  obtain ⟨x0, x1, x2, x3⟩ := cell4F b1
  have hR : rightVl 4 Fm.noV = true := by decide +kernel
  have hr1 : Hid (Calls Tryz.prog 78 #[.agg #[.int .i64 0, .int .i64 0, .slice na 0 nc, .slice va 0 vc]] W fun e w' => e = .returned (.bool true) ∧ Nw W w') := by
    have := evright_c P _ _ Fm.noV W (hv0.nw n1)
    rw [hR] at this
    exact this
  clear n1 b1 hW h hv0 g hR
  change Calls Tryz.prog 45 #[.agg #[.int .i64 0, .int .i64 0, .slice na 0 nc, .slice va 0 vc]] w _
  go_enter Tryz.func45, Tryz.ntmps45
  go_upto_region 1 with fail
  rw [← HW.out]
  clear HW
  go_wp2_with fail
  (with_reducible refine (hr1.out).mono ?_)
  rintro _ w2 ⟨rfl, u2⟩
  have U2 := Lib.hid u2
  have hi := Lib.hid (Itoa_c 0 w2 (HG.out.upd u2).g (by unfold I64; omega))
  clear x0 x1 x2 x3
  obtain ⟨x0, x1, x2, x3⟩ := cell4F (Nw.keep u2 HB.out)
  clear u2 hr1
  go_wp2_with fail
  (with_reducible refine (hi.out).mono ?_)
  rintro _ w3 ⟨rfl, u3⟩
  have U3 := Lib.hid ((HN.out.trans U2.out).trans u3)
  clear u3
  go_wp2_with fail
  go_ret
  have e0 : Lib.itoa 0 = [48] := by decide +kernel
  exact ⟨by rw [e0]; rfl, U3.out⟩
set_option maxHeartbeats 4000000 in
set_option maxRecDepth 100000 in
theorem text_x (P : Nat → Prop) (nv vv : Value) (w : World) (g : Gm w) (h : VlAt P w nv vv vX) :
    Calls Tryz.prog 45 #[.agg #[.int .i64 2, .int .i64 0, nv, vv]] w fun e w' => e = .returned (.string ⟨#[123, 120, 61, 48, 125]⟩) ∧ Nw w w' := by
  have hv0 := h
  obtain ⟨na, nc, rfl, -, hn⟩ := h.names
  obtain ⟨va, vc, rfl, -, hv⟩ := h.vals
  rcases hn with hn | ⟨nb, no, rfl, -, hn⟩
  · cases hn
  rcases hv with hv | ⟨vb, vo, rfl, -, hv⟩
  · cases hv
  obtain ⟨hn0, -⟩ := hn 0 (by decide)
  obtain ⟨nv', vv', q0, q1, q2, q3, q4⟩ := hv 0 (by decide)
  have n1 := nw_alloc w (.cells #[.int .i64 2, .int .i64 0, .slice (some ⟨nb, no, none⟩) 1 nc, .slice (some ⟨vb, vo, none⟩) 1 vc] tVl)
  have b1 := heap_new w (.cells #[.int .i64 2, .int .i64 0, .slice (some ⟨nb, no, none⟩) 1 nc, .slice (some ⟨vb, vo, none⟩) 1 vc] tVl)
  obtain ⟨W, hW⟩ : ∃ W, W = w.alloc (.cells #[.int .i64 2, .int .i64 0, .slice (some ⟨nb, no, none⟩) 1 nc, .slice (some ⟨vb, vo, none⟩) 1 vc] tVl) := ⟨_, rfl⟩
  rw [← hW] at n1 b1
  have HW := Lib.hid hW
  have HN := Lib.hid n1
  have HB := Lib.hid b1
  have HG := Lib.hid (g.upd n1)
  have hR : rightVl 4 vX = true := by decide +kernel
  have hr1 : Hid (Calls Tryz.prog 78 #[.agg #[.int .i64 2, .int .i64 0, .slice (some ⟨nb, no, none⟩) 1 nc, .slice (some ⟨vb, vo, none⟩) 1 vc]] W fun e w' => e = .returned (.bool true) ∧ Nw W w') := by
    have := evright_c P _ _ vX W (hv0.nw n1)
    rw [hR] at this
    exact this
  have HGW : Hid (nG ≤ W.heap.size) := HG.out.g.big
  obtain ⟨xa, xc, rfl, -⟩ := q4.names
  obtain ⟨ya, yc, rfl, -⟩ := q4.vals
  have HC : Hid (∀ y, Nw W y → (y.cell? ⟨w.heap.size, 0, none⟩ = some (.int .i64 2) ∧ y.cell? ⟨w.heap.size, 1, none⟩ = some (.int .i64 0) ∧ y.cell? ⟨w.heap.size, 2, none⟩ = some (.slice (some ⟨nb, no, none⟩) 1 nc) ∧ y.cell? ⟨w.heap.size, 3, none⟩ = some (.slice (some ⟨vb, vo, none⟩) 1 vc)) ∧ y.cell? ⟨nb, no, none⟩ = some (.string ⟨#[120]⟩) ∧ y.cell? ⟨vb, vo, none⟩ = some (.int .i64 0) ∧ y.cell? ⟨vb, vo + 1, none⟩ = some (.int .i64 0) ∧ y.cell? ⟨vb, vo + 2, none⟩ = some (.slice xa 0 xc) ∧ y.cell? ⟨vb, vo + 3, none⟩ = some (.slice ya 0 yc)) := fun y u => ⟨cell4F (Nw.keep u HB.out), nw_cellF (HN.out.trans u) hn0, nw_cellF (HN.out.trans u) q0, nw_cellF (HN.out.trans u) q1, nw_cellF (HN.out.trans u) q2, nw_cellF (HN.out.trans u) q3⟩
  have HT : Hid (∀ y, Nw W y → Calls Tryz.prog 45 #[.agg #[.int .i64 0, .int .i64 0, .slice xa 0 xc, .slice ya 0 yc]] y fun e w' => e = .returned (.string ⟨#[48]⟩) ∧ Nw y w') := fun y u => text_zero P _ _ y (HG.out.upd u) (q4.nw (HN.out.trans u))
  obtain ⟨⟨x0, x1, x2, x3⟩, -⟩ := HC.out W (Upd.refl _ _)
  clear n1 b1 hW h hv0 g hR hn hv hn0 q0 q1 q2 q3 q4
  change Calls Tryz.prog 45 #[.agg #[.int .i64 2, .int .i64 0, .slice (some ⟨nb, no, none⟩) 1 nc, .slice (some ⟨vb, vo, none⟩) 1 vc]] w _
  go_enter Tryz.func45, Tryz.ntmps45
  go_upto_region 1 with fail
  rw [← HW.out]
  clear HW
  go_wp2_with fail
  (with_reducible refine (hr1.out).mono ?_)
  rintro _ w2 ⟨rfl, u2⟩
  have U2 := Lib.hid u2
  clear x0 x1 x2 x3 hr1
  obtain ⟨⟨x0, x1, x2, x3⟩, -⟩ := HC.out w2 u2
  clear u2
  go_wp2_with fail
  go_loopw [3, 25] (fun sv iv wr => ∃ n : Nat, n ≤ 1 ∧ iv = .int .i64 (n : Int) ∧ Hid (Nw W wr) ∧ (n = 0 → sv = .slice none 0 0) ∧ (n = 1 → ∃ bb oo cap, sv = .slice (some ⟨bb, oo, none⟩) 1 cap ∧ wr.cell? ⟨bb, oo, none⟩ = some (.string ⟨#[120, 61, 48]⟩))) (fun _ iv _ => 1 - (intOf iv).toNat)
  case atStart => exact ⟨0, by omega, rfl, U2.out, fun _ => rfl, fun h => by cases h⟩
  case round =>
    obtain ⟨n, hn, rfl, hw, h0, h1⟩ := hrel
    clear x0 x1 x2 x3
    obtain ⟨⟨x0, x1, x2, x3⟩, y0, y1, y2, y3, y4⟩ := HC.out wr hw.out
    have hn2 : n = 0 ∨ n = 1 := by omega
    rcases hn2 with rfl | rfl
    · obtain rfl := h0 rfl
      clear h0 h1
      have ht := Lib.hid (HT.out wr hw.out)
      go_wp2_with fail
      (with_reducible refine (ht.out).mono ?_)
      rintro _ w3 ⟨rfl, u3⟩
      have hw3 := Lib.hid (hw.out.trans u3)
      have hgw : nG ≤ w3.heap.size := Nat.le_trans HGW.out hw3.out.size
      clear u3 ht
      go_wp2_with (at_builtin; refine wpList_appL rfl _ _ 25 rfl w3.heap.size 9 _ 1 16 Tryz.underlying25 infoStrF rfl (by decide) (.slice none 0 0) 0 [] rfl (World.ownsRow_nil _ _ _ _) [.string ⟨#[120, 61, 48]⟩] rfl rfl (by intro u hu; rw [List.mem_singleton.1 hu]; rfl) (by unfold maxLen; omega) (by omega) (Nat.le_refl _) hgw ?_)
      intro v' w4 ho hu hb
      obtain ⟨a, cap, rfl, -, ha⟩ := (Sl.of_owns ho).open_
      rcases ha with ⟨_, _, hnil⟩ | ⟨bb, oo, rfl, _, _, _, hcell⟩
      · cases hnil
      have hc := Lib.hid (hcell 0 (by decide))
      have hw4 := Lib.hid (hw3.out.trans' hu (fun k _ e => by cases e))
      clear hcell ho hu hb
      go_wp2_with fail
      go_roundw
      case rel => exact ⟨1, by omega, by go_num, hw4.out, (fun h => by cases h), fun _ => ⟨bb, oo, cap, rfl, hc.out⟩⟩
      case measure => simp [intOf]
    · obtain ⟨bb, oo, cap, rfl, hc⟩ := h1 rfl
      clear h0 h1
      have hj := Lib.hid (Join_one bb oo cap _ wr hc)
      clear hc
      go_wp2_with fail
      (with_reducible refine (hj.out).mono ?_)
      rintro _ _ ⟨rfl, rfl⟩
      go_wp2_with fail
      go_ret
      exact ⟨rfl, HN.out.trans hw.out⟩
end Go.Proofs.YthagiklfmkdmaaaGreatDoor
namespace Go.Proofs.YthagiklfmkdmaaaGreatDoor
open Go.RowKit Go.MapKept
set_option linter.unusedVariables false
set_option linter.unusedSimpArgs false
attribute [local irreducible] Calls
open Fm (Ty Vl Str nameB rightTy rightVl)

def tX : Ty := .mk 2 [([120], .mk 0 [])]
def tXY : Ty := .mk 2 [([120], .mk 0 []), ([121], .mk 1 [])]
def vE : Vl := .mk 2 0 [[120], [121]] [.mk 0 5 [] [], .mk 1 1 [] []]
theorem own_block_row {w : World} {b n sz : Nat} {e : TypeId} {xs : List Value} (hb : w.heap[b]? = some (.cells xs.toArray e (0, 0))) (hl : xs.length = n * sz) (hn : n ≤ maxLen) : w.ownsRow b e sz (.slice (some ⟨b, 0, none⟩) n n) n xs :=
  ⟨hl, Or.inr ⟨b, n, xs.toArray, rfl, Nat.le_refl _, hb, Nat.le_refl _, hn, by simp [hl], by show xs.take (n * sz) = xs; rw [← hl, List.take_length]⟩⟩
theorem ty_nil (w : World) {k : Int} (hk : I64 k) : TyAt w (.slice none 0 0) (.mk k []) :=
  .mk 0 0 [] (Or.inl ⟨_, _, rfl, rfl⟩) hk (fun c h => by cases h) (fun c h => by cases h)
theorem i64_0 : I64 0 := by unfold I64; omega
theorem i64_1 : I64 1 := by unfold I64; omega
theorem i64_2 : I64 2 := by unfold I64; omega
theorem i64_5 : I64 5 := by unfold I64; omega
theorem ty_x {w : World} {b : Nat} (hb : w.heap[b]? = some (.cells #[.string ⟨#[120]⟩, .int .i64 0, .slice none 0 0] tFd (0, 0))) : TyAt w (.slice (some ⟨b, 0, none⟩) 1 1) tX := by
  have h := own_block_row (n := 1) (sz := 3) (xs := [.string ⟨#[120]⟩, .int .i64 0, .slice none 0 0]) hb rfl (by unfold maxLen; omega)
  refine .mk b w.heap.size [([120], .slice none 0 0, .mk 0 [])] (SlS.of_owns (xs := [[.string ⟨#[120]⟩, .int .i64 0, .slice none 0 0]]) h rfl (by omega) (fun y hy => by rw [List.mem_singleton.1 hy]; rfl)) i64_2 (fun c hc => ?_) (fun c hc => ?_)
  · rw [List.mem_singleton.1 hc]; unfold maxLen; simp
  · rw [List.mem_singleton.1 hc]; exact ty_nil w i64_0
theorem ty_xy {w : World} {b : Nat} (hb : w.heap[b]? = some (.cells #[.string ⟨#[120]⟩, .int .i64 0, .slice none 0 0, .string ⟨#[121]⟩, .int .i64 1, .slice none 0 0] tFd (0, 0))) : TyAt w (.slice (some ⟨b, 0, none⟩) 2 2) tXY := by
  have h := own_block_row (n := 2) (sz := 3) (xs := [.string ⟨#[120]⟩, .int .i64 0, .slice none 0 0, .string ⟨#[121]⟩, .int .i64 1, .slice none 0 0]) hb rfl (by unfold maxLen; omega)
  refine .mk b w.heap.size [([120], .slice none 0 0, .mk 0 []), ([121], .slice none 0 0, .mk 1 [])] (SlS.of_owns (xs := [[.string ⟨#[120]⟩, .int .i64 0, .slice none 0 0], [.string ⟨#[121]⟩, .int .i64 1, .slice none 0 0]]) h rfl (by omega) (fun y hy => by simp at hy; rcases hy with rfl | rfl <;> rfl)) i64_2 (fun c hc => ?_) (fun c hc => ?_)
  · simp at hc; rcases hc with rfl | rfl <;> (unfold maxLen; simp)
  · simp at hc; rcases hc with rfl | rfl
    · exact ty_nil w i64_0
    · exact ty_nil w i64_1
theorem vl_e {w : World} {a b : Nat} (ha : w.heap[a]? = some (.cells #[.string ⟨#[120]⟩, .string ⟨#[121]⟩] 9 (0, 0))) (hb : w.heap[b]? = some (.cells #[.int .i64 0, .int .i64 5, .slice none 0 0, .slice none 0 0, .int .i64 1, .int .i64 1, .slice none 0 0, .slice none 0 0] tVl (0, 0))) :
    VlAt (fun _ => True) w (.slice (some ⟨a, 0, none⟩) 2 2) (.slice (some ⟨b, 0, none⟩) 2 2) vE := by
  have h1 := own_block_row (n := 2) (sz := 1) (xs := [.string ⟨#[120]⟩, .string ⟨#[121]⟩]) ha rfl (by unfold maxLen; omega)
  have h2 := own_block_row (n := 2) (sz := 4) (xs := [.int .i64 0, .int .i64 5, .slice none 0 0, .slice none 0 0, .int .i64 1, .int .i64 1, .slice none 0 0, .slice none 0 0]) hb rfl (by unfold maxLen; omega)
  refine .mk (P := fun _ => True) [[120], [121]] [⟨.slice none 0 0, .slice none 0 0, .mk 0 5 [] []⟩, ⟨.slice none 0 0, .slice none 0 0, .mk 1 1 [] []⟩] (SlP.of_sl (Sl.of_owns h1) (fun _ _ _ _ => trivial)) (SlSP.of_sls (SlS.of_owns (xs := [[.int .i64 0, .int .i64 5, .slice none 0 0, .slice none 0 0], [.int .i64 1, .int .i64 1, .slice none 0 0, .slice none 0 0]]) h2 rfl (by omega) (fun y hy => by simp at hy; rcases hy with rfl | rfl <;> rfl)) (fun _ _ _ _ => trivial)) i64_2 i64_0 (fun s hs => ?_) (fun c hc => ?_)
  · simp at hs; rcases hs with rfl | rfl <;> (unfold maxLen; simp)
  · simp at hc; rcases hc with rfl | rfl
    · exact VlAt.nil _ _ i64_0 i64_5
    · exact VlAt.nil _ _ i64_1 i64_1
set_option maxRecDepth 100000 in
theorem ex_write : fWrite tX vE = ([50, 59, 49, 58, 120, 44, 52, 58, 48, 59, 53, 59, 44], 0) := by decide +kernel
set_option maxRecDepth 100000 in
theorem ex_reads : fReads tXY tX = true ∧ fReads tX tXY = false ∧ fReads tXY tXY = true := by decide +kernel
set_option maxRecDepth 100000 in
theorem ex_wit : fWit tX tXY = (vX, true) := by
  have h : rightTy 4 tX = true ∧ rightTy 4 tXY = true ∧ Fm.sub 4 tX tXY = false := by decide +kernel
  unfold fWit
  rw [if_pos h]
  rfl
theorem ex_strs : Wire.numE 2 = [50, 59] ∧ Wire.textE [120] = [49, 58, 120, 44] ∧ Wire.numE 0 = [48, 59] ∧ Wire.intE 5 = [53, 59] ∧ Wire.textE [48, 59, 53, 59] = [52, 58, 48, 59, 53, 59, 44] := by decide +kernel
set_option maxHeartbeats 4000000 in
set_option maxRecDepth 100000 in
theorem small_c (w : World) (g : Gm w) : Calls Tryz.prog 9 #[] w fun e w' => e = .returned (.bool true) ∧ Nw w w' := by
  -- the world w1 from w by the object (.cells #[.string ⟨#[120]⟩, .int .i64 0, .slice none 0 0] tFd) at w.heap.size + 0
  have nw1 := nw_alloc w (.cells #[.string ⟨#[120]⟩, .int .i64 0, .slice none 0 0] tFd)
  have bw1 := heap_new w (.cells #[.string ⟨#[120]⟩, .int .i64 0, .slice none 0 0] tFd)
  obtain ⟨w1, hw1⟩ : ∃ z, z = (w).alloc (.cells #[.string ⟨#[120]⟩, .int .i64 0, .slice none 0 0] tFd) := ⟨_, rfl⟩
  have sw1 : (w1).heap.size = w.heap.size + 0 + 1 := by rw [hw1, World.size_alloc]; first | done | omega
  rw [← hw1] at nw1 bw1
  (try rw [show (w).heap.size = w.heap.size + 0 by omega] at bw1)
  -- the world w2 from w1 by the object (.cells #[.int .i64 2, .slice (some ⟨w.heap.size, 0, none⟩) 1 1] tTy) at w.heap.size + 1
  have nw2 := nw_alloc w1 (.cells #[.int .i64 2, .slice (some ⟨w.heap.size, 0, none⟩) 1 1] tTy)
  have bw2 := heap_new w1 (.cells #[.int .i64 2, .slice (some ⟨w.heap.size, 0, none⟩) 1 1] tTy)
  obtain ⟨w2, hw2⟩ : ∃ z, z = (w1).alloc (.cells #[.int .i64 2, .slice (some ⟨w.heap.size, 0, none⟩) 1 1] tTy) := ⟨_, rfl⟩
  have sw2 : (w2).heap.size = w.heap.size + 1 + 1 := by rw [hw2, World.size_alloc]; first | done | omega
  rw [← hw2] at nw2 bw2
  (try rw [show (w1).heap.size = w.heap.size + 1 by omega] at bw2)
  -- the world w3 from w2 by the object (.cells #[.string ⟨#[120]⟩, .int .i64 0, .slice none 0 0, .string ⟨#[121]⟩, .int .i64 1, .slice none 0 0] tFd) at w.heap.size + 2
  have nw3 := nw_alloc w2 (.cells #[.string ⟨#[120]⟩, .int .i64 0, .slice none 0 0, .string ⟨#[121]⟩, .int .i64 1, .slice none 0 0] tFd)
  have bw3 := heap_new w2 (.cells #[.string ⟨#[120]⟩, .int .i64 0, .slice none 0 0, .string ⟨#[121]⟩, .int .i64 1, .slice none 0 0] tFd)
  obtain ⟨w3, hw3⟩ : ∃ z, z = (w2).alloc (.cells #[.string ⟨#[120]⟩, .int .i64 0, .slice none 0 0, .string ⟨#[121]⟩, .int .i64 1, .slice none 0 0] tFd) := ⟨_, rfl⟩
  have sw3 : (w3).heap.size = w.heap.size + 2 + 1 := by rw [hw3, World.size_alloc]; first | done | omega
  rw [← hw3] at nw3 bw3
  (try rw [show (w2).heap.size = w.heap.size + 2 by omega] at bw3)
  -- the world w4 from w3 by the object (.cells #[.int .i64 2, .slice (some ⟨w.heap.size + 2, 0, none⟩) 2 2] tTy) at w.heap.size + 3
  have nw4 := nw_alloc w3 (.cells #[.int .i64 2, .slice (some ⟨w.heap.size + 2, 0, none⟩) 2 2] tTy)
  have bw4 := heap_new w3 (.cells #[.int .i64 2, .slice (some ⟨w.heap.size + 2, 0, none⟩) 2 2] tTy)
  obtain ⟨w4, hw4⟩ : ∃ z, z = (w3).alloc (.cells #[.int .i64 2, .slice (some ⟨w.heap.size + 2, 0, none⟩) 2 2] tTy) := ⟨_, rfl⟩
  have sw4 : (w4).heap.size = w.heap.size + 3 + 1 := by rw [hw4, World.size_alloc]; first | done | omega
  rw [← hw4] at nw4 bw4
  (try rw [show (w3).heap.size = w.heap.size + 3 by omega] at bw4)
  -- the world w5 from w4 by the object (.cells #[.string ⟨#[120]⟩, .string ⟨#[121]⟩] 9) at w.heap.size + 4
  have nw5 := nw_alloc w4 (.cells #[.string ⟨#[120]⟩, .string ⟨#[121]⟩] 9)
  have bw5 := heap_new w4 (.cells #[.string ⟨#[120]⟩, .string ⟨#[121]⟩] 9)
  obtain ⟨w5, hw5⟩ : ∃ z, z = (w4).alloc (.cells #[.string ⟨#[120]⟩, .string ⟨#[121]⟩] 9) := ⟨_, rfl⟩
  have sw5 : (w5).heap.size = w.heap.size + 4 + 1 := by rw [hw5, World.size_alloc]; first | done | omega
  rw [← hw5] at nw5 bw5
  (try rw [show (w4).heap.size = w.heap.size + 4 by omega] at bw5)
  -- the world w6 from w5 by the object (.cells #[.int .i64 0, .int .i64 5, .slice none 0 0, .slice none 0 0, .int .i64 1, .int .i64 1, .slice none 0 0, .slice none 0 0] tVl) at w.heap.size + 5
  have nw6 := nw_alloc w5 (.cells #[.int .i64 0, .int .i64 5, .slice none 0 0, .slice none 0 0, .int .i64 1, .int .i64 1, .slice none 0 0, .slice none 0 0] tVl)
  have bw6 := heap_new w5 (.cells #[.int .i64 0, .int .i64 5, .slice none 0 0, .slice none 0 0, .int .i64 1, .int .i64 1, .slice none 0 0, .slice none 0 0] tVl)
  obtain ⟨w6, hw6⟩ : ∃ z, z = (w5).alloc (.cells #[.int .i64 0, .int .i64 5, .slice none 0 0, .slice none 0 0, .int .i64 1, .int .i64 1, .slice none 0 0, .slice none 0 0] tVl) := ⟨_, rfl⟩
  have sw6 : (w6).heap.size = w.heap.size + 5 + 1 := by rw [hw6, World.size_alloc]; first | done | omega
  rw [← hw6] at nw6 bw6
  (try rw [show (w5).heap.size = w.heap.size + 5 by omega] at bw6)
  -- the world W from w6 by the object (.cells #[.int .i64 2, .int .i64 0, .slice (some ⟨w.heap.size + 4, 0, none⟩) 2 2, .slice (some ⟨w.heap.size + 5, 0, none⟩) 2 2] tVl) at w.heap.size + 6
  have nW := nw_alloc w6 (.cells #[.int .i64 2, .int .i64 0, .slice (some ⟨w.heap.size + 4, 0, none⟩) 2 2, .slice (some ⟨w.heap.size + 5, 0, none⟩) 2 2] tVl)
  have bW := heap_new w6 (.cells #[.int .i64 2, .int .i64 0, .slice (some ⟨w.heap.size + 4, 0, none⟩) 2 2, .slice (some ⟨w.heap.size + 5, 0, none⟩) 2 2] tVl)
  obtain ⟨W, hW⟩ : ∃ z, z = (w6).alloc (.cells #[.int .i64 2, .int .i64 0, .slice (some ⟨w.heap.size + 4, 0, none⟩) 2 2, .slice (some ⟨w.heap.size + 5, 0, none⟩) 2 2] tVl) := ⟨_, rfl⟩
  have sW : (W).heap.size = w.heap.size + 6 + 1 := by rw [hW, World.size_alloc]; first | done | omega
  rw [← hW] at nW bW
  (try rw [show (w6).heap.size = w.heap.size + 6 by omega] at bW)
  have u1 : Nw w1 W := ((((nw2.trans nw3).trans nw4).trans nw5).trans nw6).trans nW
  have hN : Nw w W := nw1.trans u1
  have c1 := Nw.keep u1 bw1
  have c2 := Nw.keep ((((nw3.trans nw4).trans nw5).trans nw6).trans nW) bw2
  have c3 := Nw.keep (((nw4.trans nw5).trans nw6).trans nW) bw3
  have c4 := Nw.keep ((nw5.trans nw6).trans nW) bw4
  have c5 := Nw.keep (nw6.trans nW) bw5
  have c6 := Nw.keep nW bw6
  have c7 := bW
  rw [hw6, hw5, hw4, hw3, hw2, hw1] at hW
  have HW := Lib.hid hW
  have HN := Lib.hid hN
  have HTX := Lib.hid (ty_x (w := W) (b := w.heap.size) c1)
  have HTY := Lib.hid (ty_xy (w := W) (b := w.heap.size + 2) c3)
  have HVE := Lib.hid (vl_e (w := W) c5 c6)
  have HG := Lib.hid (g.upd hN)
  have HC : Hid (∀ y, Nw W y → (y.cell? ⟨w.heap.size + 1, 0, none⟩ = some (.int .i64 2) ∧ y.cell? ⟨w.heap.size + 1, 1, none⟩ = some (.slice (some ⟨w.heap.size, 0, none⟩) 1 1)) ∧ (y.cell? ⟨w.heap.size + 3, 0, none⟩ = some (.int .i64 2) ∧ y.cell? ⟨w.heap.size + 3, 1, none⟩ = some (.slice (some ⟨w.heap.size + 2, 0, none⟩) 2 2)) ∧ (y.cell? ⟨w.heap.size + 6, 0, none⟩ = some (.int .i64 2) ∧ y.cell? ⟨w.heap.size + 6, 1, none⟩ = some (.int .i64 0) ∧ y.cell? ⟨w.heap.size + 6, 2, none⟩ = some (.slice (some ⟨w.heap.size + 4, 0, none⟩) 2 2) ∧ y.cell? ⟨w.heap.size + 6, 3, none⟩ = some (.slice (some ⟨w.heap.size + 5, 0, none⟩) 2 2))) := fun y u => ⟨⟨by rw [cells_cell (Nw.keep u c2)]; rfl, by rw [cells_cell (Nw.keep u c2)]; rfl⟩, ⟨by rw [cells_cell (Nw.keep u c4)]; rfl, by rw [cells_cell (Nw.keep u c4)]; rfl⟩, cell4F (Nw.keep u c7)⟩
  have HWr : Hid (∀ y, Nw W y → Calls Tryz.prog 12 #[.agg #[.int .i64 2, .slice (some ⟨w.heap.size, 0, none⟩) 1 1], .agg #[.int .i64 2, .int .i64 0, .slice (some ⟨w.heap.size + 4, 0, none⟩) 2 2, .slice (some ⟨w.heap.size + 5, 0, none⟩) 2 2]] y fun e w' => e = .returned (.tuple #[.string ⟨#[50, 59, 49, 58, 120, 44, 52, 58, 48, 59, 53, 59, 44]⟩, .int .i64 0]) ∧ Nw y w') := fun y u => by
    have := Write_c _ _ tX _ _ vE y (HG.out.upd u) (HTX.out.nw u) (HVE.out.nw u)
    rw [ex_write] at this
    exact this
  have HWi : Hid (∀ y, Nw W y → Calls Tryz.prog 16 #[.agg #[.int .i64 2, .slice (some ⟨w.heap.size, 0, none⟩) 1 1], .agg #[.int .i64 2, .slice (some ⟨w.heap.size + 2, 0, none⟩) 2 2]] y fun e w' => ∃ xn xv, e = .returned (.tuple #[.agg #[.int .i64 2, .int .i64 0, xn, xv], .bool true]) ∧ Hid (VlAt (fun j => y.heap.size ≤ j) w' xn xv vX ∧ Nw y w')) := fun y u => by
    have := Witness_c _ _ tX tXY y (HG.out.upd u) (HTX.out.nw u) (HTY.out.nw u)
    rw [ex_wit] at this
    exact this
  obtain ⟨⟨x0, x1⟩, ⟨x2, x3⟩, x4, x5, x6, x7⟩ := HC.out W (Upd.refl _ _)
  clear nw1 nw2 nw3 nw4 nw5 nw6 nW bw1 bw2 bw3 bw4 bw5 bw6 bW u1 hN c1 c2 c3 c4 c5 c6 c7 hW hw1 hw2 hw3 hw4 hw5 hw6 sw1 sw2 sw3 sw4 sw5 sw6 sW g
  go_enter Tryz.func9, Tryz.ntmps9
  go_upto_region 4 with fail
  rw [← HW.out]
  clear HW
  have hw1 := Lib.hid (HWr.out W (Upd.refl _ _))
  go_wp2_with fail
  (with_reducible refine (hw1.out).mono ?_)
  rintro _ y1 ⟨rfl, u1⟩
  have U1 := Lib.hid u1
  have hw2 := Lib.hid (HWi.out y1 u1)
  clear x0 x1 x2 x3 x4 x5 x6 x7 hw1
  obtain ⟨⟨x0, x1⟩, ⟨x2, x3⟩, x4, x5, x6, x7⟩ := HC.out y1 u1
  clear u1
  go_wp2_with fail
  (with_reducible refine (hw2.out).mono ?_)
  rintro _ y2 ⟨xn, xv, rfl, hx⟩
  have hxn : ∃ xa xc, xn = .slice xa 1 xc := by obtain ⟨a, c, h, -⟩ := hx.out.1.names; exact ⟨a, c, h⟩
  have hxv : ∃ xa xc, xv = .slice xa 1 xc := by obtain ⟨a, c, h, -⟩ := hx.out.1.vals; exact ⟨a, c, h⟩
  obtain ⟨xa, xc, rfl⟩ := hxn
  obtain ⟨ya, yc, rfl⟩ := hxv
  have n3 := nw_alloc y2 (.cells #[.int .i64 2, .int .i64 0, .slice xa 1 xc, .slice ya 1 yc] tVl)
  have b3 := heap_new y2 (.cells #[.int .i64 2, .int .i64 0, .slice xa 1 xc, .slice ya 1 yc] tVl)
  obtain ⟨y3, hy3⟩ : ∃ z, z = y2.alloc (.cells #[.int .i64 2, .int .i64 0, .slice xa 1 xc, .slice ya 1 yc] tVl) := ⟨_, rfl⟩
  rw [← hy3] at n3 b3
  have HY3 := Lib.hid hy3
  have U3 := Lib.hid ((U1.out.trans hx.out.2).trans n3)
  have HB3 := Lib.hid b3
  have HVX := Lib.hid (hx.out.1.nw n3)
  clear x0 x1 x2 x3 x4 x5 x6 x7 hw2 hy3 n3 b3 hx
  have HNum : Hid (∀ y, Nw W y → Calls Tryz.prog 42 #[.int .i64 2] y fun e w' => e = .returned (.string ⟨#[50, 59]⟩) ∧ Nw y w') := fun y u => by
    have := Num_e 2 y (HG.out.upd u).g i64_2
    rw [ex_strs.1] at this; exact this
  have HTe : Hid (∀ y, Nw W y → Calls Tryz.prog 43 #[.string ⟨#[120]⟩] y fun e w' => e = .returned (.string ⟨#[49, 58, 120, 44]⟩) ∧ Nw y w') := fun y u => by
    have := Text_e ⟨#[120]⟩ [120] rfl y (HG.out.upd u).g (by simp)
    rw [ex_strs.2.1] at this; exact this
  have HNum0 : Hid (∀ y, Nw W y → Calls Tryz.prog 42 #[.int .i64 0] y fun e w' => e = .returned (.string ⟨#[48, 59]⟩) ∧ Nw y w') := fun y u => by
    have := Num_e 0 y (HG.out.upd u).g i64_0
    rw [ex_strs.2.2.1] at this; exact this
  have HInt : Hid (∀ y, Nw W y → Calls Tryz.prog 44 #[.int .i64 5] y fun e w' => e = .returned (.string ⟨#[53, 59]⟩) ∧ Nw y w') := fun y u => by
    have := Int_e 5 y (HG.out.upd u).g i64_5
    rw [ex_strs.2.2.2.1] at this; exact this
  have HTe2 : Hid (∀ s : ByteArray, s.data.toList = [48, 59, 53, 59] → ∀ y, Nw W y → Calls Tryz.prog 43 #[.string s] y fun e w' => e = .returned (.string ⟨#[52, 58, 48, 59, 53, 59, 44]⟩) ∧ Nw y w') := fun s hs y u => by
    have := Text_e s [48, 59, 53, 59] hs y (HG.out.upd u).g (by simp)
    rw [ex_strs.2.2.2.2] at this; exact this
  have HR1 : Hid (∀ y, Nw W y → Calls Tryz.prog 19 #[.agg #[.int .i64 2, .slice (some ⟨w.heap.size + 2, 0, none⟩) 2 2], .agg #[.int .i64 2, .slice (some ⟨w.heap.size, 0, none⟩) 1 1]] y fun e w' => e = .returned (.bool true) ∧ Nw y w') := fun y u => by
    have := Reads_c _ _ tXY tX y (HG.out.upd u) (HTY.out.nw u) (HTX.out.nw u)
    rw [ex_reads.1] at this; exact this
  have HR2 : Hid (∀ y, Nw W y → Calls Tryz.prog 19 #[.agg #[.int .i64 2, .slice (some ⟨w.heap.size, 0, none⟩) 1 1], .agg #[.int .i64 2, .slice (some ⟨w.heap.size + 2, 0, none⟩) 2 2]] y fun e w' => e = .returned (.bool false) ∧ Nw y w') := fun y u => by
    have := Reads_c _ _ tX tXY y (HG.out.upd u) (HTX.out.nw u) (HTY.out.nw u)
    rw [ex_reads.2.1] at this; exact this
  have HB1 : Hid (∀ y, Nw W y → Calls Tryz.prog 21 #[.agg #[.int .i64 2, .slice (some ⟨w.heap.size, 0, none⟩) 1 1], .agg #[.int .i64 2, .slice (some ⟨w.heap.size + 2, 0, none⟩) 2 2]] y fun e w' => e = .returned (.bool false) ∧ Nw y w') := fun y u => by
    have := Both_c _ _ tX tXY y (HG.out.upd u) (HTX.out.nw u) (HTY.out.nw u)
    rw [ex_reads.2.1] at this; exact this
  have HB2 : Hid (∀ y, Nw W y → Calls Tryz.prog 21 #[.agg #[.int .i64 2, .slice (some ⟨w.heap.size + 2, 0, none⟩) 2 2], .agg #[.int .i64 2, .slice (some ⟨w.heap.size + 2, 0, none⟩) 2 2]] y fun e w' => e = .returned (.bool true) ∧ Nw y w') := fun y u => by
    have := Both_c _ _ tXY tXY y (HG.out.upd u) (HTY.out.nw u) (HTY.out.nw u)
    rw [ex_reads.2.2] at this; exact this
  have HTx : Hid (∀ y, Nw y3 y → Calls Tryz.prog 45 #[.agg #[.int .i64 2, .int .i64 0, .slice xa 1 xc, .slice ya 1 yc]] y fun e w' => e = .returned (.string ⟨#[123, 120, 61, 48, 125]⟩) ∧ Nw y w') := fun y u => text_x _ _ _ y (HG.out.upd (U3.out.trans u)) (HVX.out.nw u)
  go_upto_region 6 with fail
  rw [← HY3.out]
  clear HY3
  generalize y2.heap.size = p3 at *
  have hc := Lib.hid (HNum.out y3 U3.out)
  go_wp2_with fail
  (with_reducible refine (hc.out).mono ?_)
  rintro _ z1 ⟨rfl, v1⟩
  have V1 := Lib.hid (U3.out.trans v1)
  have T1 := Lib.hid v1
  clear v1 hc
  have hc := Lib.hid (HTe.out z1 V1.out)
  go_wp2_with fail
  (with_reducible refine (hc.out).mono ?_)
  rintro _ z2 ⟨rfl, v2⟩
  have V2 := Lib.hid (V1.out.trans v2)
  have T2 := Lib.hid (T1.out.trans v2)
  clear v2 hc
  have hc := Lib.hid (HNum0.out z2 V2.out)
  go_wp2_with fail
  (with_reducible refine (hc.out).mono ?_)
  rintro _ z3 ⟨rfl, v3⟩
  have V3 := Lib.hid (V2.out.trans v3)
  have T3 := Lib.hid (T2.out.trans v3)
  clear v3 hc
  have hc := Lib.hid (HInt.out z3 V3.out)
  go_wp2_with fail
  (with_reducible refine (hc.out).mono ?_)
  rintro _ z4 ⟨rfl, v4⟩
  have V4 := Lib.hid (V3.out.trans v4)
  have T4 := Lib.hid (T3.out.trans v4)
  clear v4 hc
  have hc := Lib.hid (HTe2.out (⟨#[48, 59]⟩ ++ ⟨#[53, 59]⟩) (by decide +kernel) z4 V4.out)
  go_wp2_with fail
  (with_reducible refine (hc.out).mono ?_)
  rintro _ z5 ⟨rfl, v5⟩
  have V5 := Lib.hid (V4.out.trans v5)
  have T5 := Lib.hid (T4.out.trans v5)
  clear v5 hc
  obtain ⟨⟨x0, x1⟩, ⟨x2, x3⟩, -⟩ := HC.out z5 V5.out
  have hc := Lib.hid (HR1.out z5 V5.out)
  have heq : ([50, 59, 49, 58, 120, 44, 52, 58, 48, 59, 53, 59, 44] : List UInt8) = ((⟨#[50, 59]⟩ : ByteArray) ++ ⟨#[49, 58, 120, 44]⟩ ++ ⟨#[52, 58, 48, 59, 53, 59, 44]⟩).toList := by decide +kernel
  go_wp2_with fail
  clear heq
  (with_reducible refine (hc.out).mono ?_)
  rintro _ z6 ⟨rfl, v6⟩
  have V6 := Lib.hid (V5.out.trans v6)
  have T6 := Lib.hid (T5.out.trans v6)
  clear v6 hc x0 x1 x2 x3
  obtain ⟨⟨x0, x1⟩, ⟨x2, x3⟩, -⟩ := HC.out z6 V6.out
  have hc := Lib.hid (HR2.out z6 V6.out)
  go_wp2_with fail
  (with_reducible refine (hc.out).mono ?_)
  rintro _ z7 ⟨rfl, v7⟩
  have V7 := Lib.hid (V6.out.trans v7)
  have T7 := Lib.hid (T6.out.trans v7)
  clear v7 hc x0 x1 x2 x3
  obtain ⟨⟨x0, x1⟩, ⟨x2, x3⟩, -⟩ := HC.out z7 V7.out
  have hc := Lib.hid (HB1.out z7 V7.out)
  go_wp2_with fail
  (with_reducible refine (hc.out).mono ?_)
  rintro _ z8 ⟨rfl, v8⟩
  have V8 := Lib.hid (V7.out.trans v8)
  have T8 := Lib.hid (T7.out.trans v8)
  clear v8 hc x0 x1 x2 x3
  obtain ⟨⟨x0, x1⟩, ⟨x2, x3⟩, -⟩ := HC.out z8 V8.out
  have hc := Lib.hid (HB2.out z8 V8.out)
  go_wp2_with fail
  (with_reducible refine (hc.out).mono ?_)
  rintro _ z9 ⟨rfl, v9⟩
  have V9 := Lib.hid (V8.out.trans v9)
  have T9 := Lib.hid (T8.out.trans v9)
  clear v9 hc x0 x1 x2 x3
  obtain ⟨x0, x1, x2, x3⟩ := cell4F (Nw.keep T9.out HB3.out)
  have hc := Lib.hid (HTx.out z9 T9.out)
  go_wp2_with fail
  (with_reducible refine (hc.out).mono ?_)
  rintro _ z10 ⟨rfl, v10⟩
  have V10 := Lib.hid ((HN.out.trans V9.out).trans v10)
  clear v10 hc x0 x1 x2 x3
  go_wp2_with fail
  go_ret
  exact ⟨rfl, V10.out⟩
end Go.Proofs.YthagiklfmkdmaaaGreatDoor
