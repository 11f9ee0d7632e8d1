/- ladingref43: Write, Read, Reads, Both, Witness (printed by wip/tools/gen_rfn.py). -/
import Derived.Test.YthagiklfmkdmaaaGreatDoorPkFTel4321
import Derived.Test.YthagiklfmkdmaaaGreatDoorPkFTel4323
import Derived.Test.YthagiklfmkdmaaaGreatDoorPkFTel439
namespace Go.Proofs.YthagiklfmkdmaaaGreatDoor
open Go.RowKit Go.MapKept
set_option linter.unusedVariables false
set_option linter.unusedSimpArgs false
attribute [local irreducible] Calls
open Fm (Ty Vl Str nameB rightTy rightVl)

set_option maxRecDepth 100000 in
theorem Reads43_r (fv gv : Value) (ta tb : Ty) (w : World) (g : Gl w) (ha : TyAt w fv ta) (hb : TyAt w gv tb) :
    Calls Tryz.prog 20 #[.agg #[.int .i64 ta.kind, fv], .agg #[.int .i64 tb.kind, gv]] w fun e w' => e = .returned (.bool (fReads ta tb)) ∧ Nw w w' := by
  obtain ⟨fa, fc, rfl, -, -⟩ := ha.cells
  obtain ⟨ga, gc, rfl, -, -⟩ := hb.cells
  have n1 := nw_alloc w (.cells #[.int .i64 ta.kind, .slice fa ta.fs.length fc] tTy)
  have n2 := nw_alloc (w.alloc (.cells #[.int .i64 ta.kind, .slice fa ta.fs.length fc] tTy)) (.cells #[.int .i64 tb.kind, .slice ga tb.fs.length gc] tTy)
  have b1 := n2.keep (heap_new w (.cells #[.int .i64 ta.kind, .slice fa ta.fs.length fc] tTy))
  have b2 := heap_new (w.alloc (.cells #[.int .i64 ta.kind, .slice fa ta.fs.length fc] tTy)) (.cells #[.int .i64 tb.kind, .slice ga tb.fs.length gc] tTy)
  rw [World.size_alloc] at b2
  have hN := n1.trans n2
  obtain ⟨W0, hW⟩ : ∃ W, W = (w.alloc (.cells #[.int .i64 ta.kind, .slice fa ta.fs.length fc] tTy)).alloc (.cells #[.int .i64 tb.kind, .slice ga tb.fs.length gc] tTy) := ⟨_, rfl⟩
  rw [← hW] at hN b1 b2
  have HN := Lib.hid hN
  have HW := Lib.hid hW
  have x0 : W0.cell? ⟨w.heap.size, 0, none⟩ = some (.int .i64 ta.kind) := by rw [cells_cell b1]; rfl
  have x1 : W0.cell? ⟨w.heap.size, 1, none⟩ = some (.slice fa ta.fs.length fc) := by rw [cells_cell b1]; rfl
  have x2 : W0.cell? ⟨w.heap.size + 1, 0, none⟩ = some (.int .i64 tb.kind) := by rw [cells_cell b2]; rfl
  have x3 : W0.cell? ⟨w.heap.size + 1, 1, none⟩ = some (.slice ga tb.fs.length gc) := by rw [cells_cell b2]; rfl
  have hr1 := Lib.hid (Sub16_r _ _ ta tb W0 (g.upd hN).big (ha.nw hN) (hb.nw hN))
  clear n1 n2 b1 b2 hN hW g ha hb
  go_enter Tryz.func20, Tryz.ntmps20
  go_upto_region 1 with fail
  rw [← HW.out]
  clear HW
  go_wp2_with fail
  (with_reducible refine (hr1.out).mono ?_)
  rintro _ w2 ⟨rfl, u2⟩
  have U2 := Lib.hid (HN.out.trans u2)
  clear u2
  go_wp2_with fail
  go_ret
  exact ⟨rfl, U2.out⟩
set_option maxHeartbeats 4000000 in
set_option maxRecDepth 100000 in
theorem Write43_r (P : Nat → Prop) (fv : Value) (t : Ty) (nv vv : Value) (v : Vl) (w : World) (g : Gl w) (ht : TyAt w fv t) (h : VlAt P w nv vv v) :
    Calls Tryz.prog 13 #[.agg #[.int .i64 t.kind, fv], .agg #[.int .i64 v.kind, .int .i64 v.n, nv, vv]] w fun e w' => e = .returned (.tuple #[.string ⟨(fWrite t v).1.toArray⟩, .int .i64 (fWrite t v).2]) ∧ Nw w w' := by
  obtain ⟨fa, fc, rfl, -, -⟩ := ht.cells
  obtain ⟨na, nc, rfl, -, -⟩ := h.names
  obtain ⟨va, vc, rfl, -, -⟩ := h.vals
  have n1 := nw_alloc w (.cells #[.int .i64 t.kind, .slice fa t.fs.length fc] tTy)
  have n2 := nw_alloc (w.alloc (.cells #[.int .i64 t.kind, .slice fa t.fs.length fc] tTy)) (.cells #[.int .i64 v.kind, .int .i64 v.n, .slice na v.names.length nc, .slice va v.vals.length vc] tVl)
  have b1 := n2.keep (heap_new w (.cells #[.int .i64 t.kind, .slice fa t.fs.length fc] tTy))
  have b2 := heap_new (w.alloc (.cells #[.int .i64 t.kind, .slice fa t.fs.length fc] tTy)) (.cells #[.int .i64 v.kind, .int .i64 v.n, .slice na v.names.length nc, .slice va v.vals.length vc] tVl)
  rw [World.size_alloc] at b2
  have hN := n1.trans n2
  obtain ⟨W, hW⟩ : ∃ W, W = (w.alloc (.cells #[.int .i64 t.kind, .slice fa t.fs.length fc] tTy)).alloc (.cells #[.int .i64 v.kind, .int .i64 v.n, .slice na v.names.length nc, .slice va v.vals.length vc] tVl) := ⟨_, rfl⟩
  rw [← hW] at hN b1 b2
  have HN := Lib.hid hN
  have HW := Lib.hid hW
  have HC : Hid (∀ y, Nw W y → (y.cell? ⟨w.heap.size, 0, none⟩ = some (.int .i64 t.kind) ∧ y.cell? ⟨w.heap.size, 1, none⟩ = some (.slice fa t.fs.length fc)) ∧ y.cell? ⟨w.heap.size + 1, 0, none⟩ = some (.int .i64 v.kind) ∧ y.cell? ⟨w.heap.size + 1, 1, none⟩ = some (.int .i64 v.n) ∧ y.cell? ⟨w.heap.size + 1, 2, none⟩ = some (.slice na v.names.length nc) ∧ y.cell? ⟨w.heap.size + 1, 3, none⟩ = some (.slice va v.vals.length vc)) := fun y u => ⟨⟨by rw [cells_cell (Nw.keep u b1)]; rfl, by rw [cells_cell (Nw.keep u b1)]; rfl⟩, cell4F (Nw.keep u b2)⟩
  have HG := Lib.hid (g.upd hN)
  have HT := Lib.hid (ht.nw hN)
  have HV := Lib.hid (h.nw hN)
  have hr1 := Lib.hid (tyRight_r _ t W HG.out.big HT.out)
  obtain ⟨⟨x0, x1⟩, y0, y1, y2, y3⟩ := HC.out W (Upd.refl _ _)
  clear n1 n2 b1 b2 hN hW g ht h
  go_enter Tryz.func13, Tryz.ntmps13
  go_upto_region 1 with fail
  rw [← HW.out]
  clear HW
  go_wp2_with fail
  cases h1 : rightTy 4 t with
  | false =>
    rw [h1] at hr1
    have e9 : Hid (fWrite t v = ([], 1)) := by show _ = _; unfold fWrite; rw [if_pos h1]
    (with_reducible refine (hr1.out).mono ?_)
    rintro _ w2 ⟨rfl, u2⟩
    have U2 := Lib.hid u2
    clear u2 x0 x1 y0 y1 y2 y3
    go_wp2_with fail
    go_ret2
    exact ⟨by rw [e9.out]; rfl, HN.out.trans U2.out⟩
  | true =>
  rw [h1] at hr1
  (with_reducible refine (hr1.out).mono ?_)
  rintro _ w2 ⟨rfl, u2⟩
  have hh := Lib.hid (Has_r P _ t _ _ v w2 (HG.out.upd u2).big (HT.out.nw u2) (HV.out.nw u2))
  have U2 := Lib.hid u2
  clear x0 x1 y0 y1 y2 y3
  obtain ⟨⟨x0, x1⟩, y0, y1, y2, y3⟩ := HC.out w2 u2
  clear u2
  cases h2 : Fm.has t v with
  | false =>
    rw [h2] at hh
    have e9 : Hid (fWrite t v = ([], 13)) := by show _ = _; unfold fWrite; rw [if_neg (by rw [h1]; simp), if_pos h2]
    go_wp2_with fail
    (with_reducible refine (hh.out).mono ?_)
    rintro _ w3 ⟨rfl, u3⟩
    have U3 := Lib.hid (U2.out.trans u3)
    clear u3 x0 x1 y0 y1 y2 y3
    go_wp2_with fail
    go_ret2
    exact ⟨by rw [e9.out]; rfl, HN.out.trans U3.out⟩
  | true =>
    rw [h2] at hh
    have e9 : Hid (fWrite t v = (Fm.writeF 4 t v, 0)) := by show _ = _; unfold fWrite; rw [if_neg (by rw [h1]; simp), if_neg (by rw [h2]; simp)]
    have h3 : rightVl 4 v = true ∧ Fm.fits 4 t v = true := by
      unfold Fm.has at h2
      simp only [Bool.and_eq_true] at h2
      exact ⟨h2.1.2, h2.2⟩
    go_wp2_with fail
    (with_reducible refine (hh.out).mono ?_)
    rintro _ w3 ⟨rfl, u3⟩
    have U3 := Lib.hid (U2.out.trans u3)
    have hw := Lib.hid (write43_r P 4 (Nat.le_refl _) t _ v _ _ w3 (HG.out.upd U3.out).big h1 h3.1 h3.2 (HT.out.nw U3.out) (HV.out.nw U3.out))
    clear u3 x0 x1 y0 y1 y2 y3
    obtain ⟨⟨x0, x1⟩, y0, y1, y2, y3⟩ := HC.out w3 U3.out
    go_wp2_with fail
    (with_reducible refine (hw.out).mono ?_)
    rintro _ w4 ⟨rfl, u4⟩
    have U4 := Lib.hid (U3.out.trans u4)
    clear u4 x0 x1 y0 y1 y2 y3
    go_wp2_with fail
    go_ret2
    exact ⟨by rw [e9.out]; rfl, HN.out.trans U4.out⟩
theorem rdp43_results (tmps : Array Value) (w : World) {r : Nat} {k n c : Int} {nv vv : Value} (hr : tmps.getD 4 undef = .pointer (some ⟨r, 0, none⟩)) (h5 : tmps.getD 5 undef = .int .i64 c) (hb : w.heap[r]? = some (.cells #[.int .i64 k, .int .i64 n, nv, vv] tVl (0, 0))) :
    (results Tryz.f15 tmps).run Tryz.prog w = .ok (.tuple #[.agg #[.int .i64 k, .int .i64 n, nv, vv], .int .i64 c]) w := by
  obtain ⟨c0, c1, c2, c3⟩ := cell4F hb
  rw [Array.getD_eq_getD_getElem?] at hr h5
  simp [results, Tryz.results15, go_sem, hr, h5, c0, c1, c2, c3]
set_option maxHeartbeats 4000000 in
set_option maxRecDepth 100000 in
theorem Read43_r (fv : Value) (t : Ty) (s : Str) (w : World) (g : Gl w) (ht : TyAt w fv t) (hs : s.length ≤ 1000000) :
    Calls Tryz.prog 15 #[.agg #[.int .i64 t.kind, fv], .string ⟨s.toArray⟩] w fun e w' => ∃ xn xv, e = .returned (.tuple #[.agg #[.int .i64 (fRead t s).1.kind, .int .i64 (fRead t s).1.n, xn, xv], .int .i64 (fRead t s).2]) ∧ Hid (VlAt (fun j => w.heap.size ≤ j) w' xn xv (fRead t s).1 ∧ Nw w w') := by
  have hgb := g.big
  obtain ⟨fa, fc, rfl, -, -⟩ := ht.cells
  have n1 := nw_alloc w (.cells #[.int .i64 t.kind, .slice fa t.fs.length fc] tTy)
  have n2 := nw_alloc (w.alloc (.cells #[.int .i64 t.kind, .slice fa t.fs.length fc] tTy)) (.cells #[.int .i64 0, .int .i64 0, .slice none 0 0, .slice none 0 0] tVl)
  have b1 := n2.keep (heap_new w (.cells #[.int .i64 t.kind, .slice fa t.fs.length fc] tTy))
  have b2 := heap_new (w.alloc (.cells #[.int .i64 t.kind, .slice fa t.fs.length fc] tTy)) (.cells #[.int .i64 0, .int .i64 0, .slice none 0 0, .slice none 0 0] tVl)
  rw [World.size_alloc] at b2
  have hN := n1.trans n2
  obtain ⟨W, hW⟩ : ∃ W, W = (w.alloc (.cells #[.int .i64 t.kind, .slice fa t.fs.length fc] tTy)).alloc (.cells #[.int .i64 0, .int .i64 0, .slice none 0 0, .slice none 0 0] tVl) := ⟨_, rfl⟩
  rw [← hW] at hN b1 b2
  have HN := Lib.hid hN
  have HW := Lib.hid hW
  have HC : Hid (∀ y, Nw W y → (y.cell? ⟨w.heap.size, 0, none⟩ = some (.int .i64 t.kind) ∧ y.cell? ⟨w.heap.size, 1, none⟩ = some (.slice fa t.fs.length fc)) ∧ y.heap[w.heap.size + 1]? = some (.cells #[.int .i64 0, .int .i64 0, .slice none 0 0, .slice none 0 0] tVl (0, 0))) := fun y u => ⟨⟨by rw [cells_cell (Nw.keep u b1)]; rfl, by rw [cells_cell (Nw.keep u b1)]; rfl⟩, Nw.keep u b2⟩
  have HG := Lib.hid (g.upd hN)
  have HT := Lib.hid (ht.nw hN)
  have hr1 := Lib.hid (tyRight_r _ t W HG.out.big HT.out)
  have HS := Lib.hid hs
  have HGB : Hid (nG ≤ w.heap.size) := hgb
  have hws : Hid (W.heap.size = w.heap.size + 2) := by show _ = _; rw [hW]; simp
  obtain ⟨⟨x0, x1⟩, -⟩ := HC.out W (Upd.refl _ _)
  clear n1 n2 b1 b2 hN hW g ht hs hgb
  go_enter Tryz.func15, Tryz.ntmps15
  go_upto_region 1 with fail
  rw [← HW.out]
  clear HW
  go_wp2_with fail
  cases h1 : rightTy 4 t with
  | false =>
    rw [h1] at hr1
    have e9 : Hid (fRead t s = (Fm.noV, 1)) := by show _ = _; unfold fRead; rw [if_pos h1]
    (with_reducible refine (hr1.out).mono ?_)
    rintro _ w2 ⟨rfl, u2⟩
    obtain ⟨-, hb2⟩ := HC.out w2 u2
    have HU := Lib.hid (HN.out.trans u2)
    have HB := Lib.hid hb2
    obtain ⟨d0, d1, d2, d3⟩ := cell4F hb2
    obtain ⟨f0, f1, f2, f3⟩ := froz4F hb2
    have hg : nG ≤ w.heap.size + 1 := by have := HGB.out; omega
    have hz := Lib.hid (setCell_block (setCell_block (setCell_block (setCell_block hb2 0 (.int .i64 0)) 1 (.int .i64 0)) 2 (.slice none 0 0)) 3 (.slice none 0 0))
    have hu := Lib.hid (Upd.set1 (Upd.set1 (Upd.set1 (Upd.set1 (Upd.refl _ w2) hg 0 (.int .i64 0)) hg 1 (.int .i64 0)) hg 2 (.slice none 0 0)) hg 3 (.slice none 0 0))
    clear u2 x0 x1 hr1 hb2
    go_wp2_with fail
    refine bodyPost_ret (rdp43_results (c := 1) _ _ ?_ ?_ hz.out) ?_ ?_
    · rfl
    · rfl
    · rfl
    exact ⟨_, _, by rw [e9.out]; rfl, by rw [e9.out]; exact VlAt.nil _ _ (by unfold I64; omega) (by unfold I64; omega), HU.out.trans' hu.out (fun k hk e => by omega)⟩
  | true =>
  rw [h1] at hr1
  (with_reducible refine (hr1.out).mono ?_)
  rintro _ w2 ⟨rfl, u2⟩
  have hrd := Lib.hid (read43_r 4 (Nat.le_refl _) t _ s w2 (HG.out.upd u2) h1 (HT.out.nw u2) HS.out)
  have U2 := Lib.hid u2
  clear x0 x1 hr1
  obtain ⟨⟨x0, x1⟩, -⟩ := HC.out w2 u2
  clear u2
  go_wp2_with fail
  (with_reducible refine (hrd.out).mono ?_)
  rintro _ w3 ⟨v1, xa, xc, ya, yc, rfl, HP⟩
  have n3 := nw_alloc w3 (.cells #[.int .i64 v1.kind, .int .i64 v1.n, .slice xa v1.names.length xc, .slice ya v1.vals.length yc] tVl)
  have b3 := heap_new w3 (.cells #[.int .i64 v1.kind, .int .i64 v1.n, .slice xa v1.names.length xc, .slice ya v1.vals.length yc] tVl)
  obtain ⟨w4, hw4⟩ : ∃ y, y = w3.alloc (.cells #[.int .i64 v1.kind, .int .i64 v1.n, .slice xa v1.names.length xc, .slice ya v1.vals.length yc] tVl) := ⟨_, rfl⟩
  rw [← hw4] at n3 b3
  have HW4 := Lib.hid hw4
  have HU4 : Hid (Nw W w4) := (U2.out.trans HP.out.2.2).trans n3
  have HN3 := Lib.hid n3
  have HS2 : Hid (w.heap.size + 2 ≤ w2.heap.size) := by have := U2.out.size; have := hws.out; show _ ≤ _; omega
  obtain ⟨-, hb4⟩ := HC.out w4 HU4.out
  obtain ⟨c0, c1, c2, c3⟩ := cell4F b3
  obtain ⟨d0, d1, d2, d3⟩ := cell4F hb4
  obtain ⟨f0, f1, f2, f3⟩ := froz4F hb4
  have HB4 := Lib.hid hb4
  have hg : nG ≤ w.heap.size + 1 := by have := HGB.out; omega
  clear hw4 n3 b3 hb4 hrd x0 x1
  go_upto_region 4 with fail
  rw [← HW4.out]
  clear HW4
  generalize w3.heap.size = p3 at *
  cases hr : Fm.readF 4 t s with
  | none =>
    have e9 : Hid (fRead t s = (Fm.noV, 34)) := by show _ = _; unfold fRead; rw [if_neg (by rw [h1]; simp), hr]
    have hz := Lib.hid (setCell_block (setCell_block (setCell_block (setCell_block HB4.out 0 (.int .i64 0)) 1 (.int .i64 0)) 2 (.slice none 0 0)) 3 (.slice none 0 0))
    have hu := Lib.hid (Upd.set1 (Upd.set1 (Upd.set1 (Upd.set1 (Upd.refl _ w4) hg 0 (.int .i64 0)) hg 1 (.int .i64 0)) hg 2 (.slice none 0 0)) hg 3 (.slice none 0 0))
    go_wp2_with fail
    refine bodyPost_ret (rdp43_results (c := 34) _ _ ?_ ?_ hz.out) ?_ ?_
    · rfl
    · rfl
    · rfl
    exact ⟨_, _, by rw [e9.out]; rfl, by rw [e9.out]; exact VlAt.nil _ _ (by unfold I64; omega) (by unfold I64; omega), (HN.out.trans HU4.out).trans' hu.out (fun k hk e => by omega)⟩
  | some v =>
    have e9 : Hid (fRead t s = (v, 0)) := by show _ = _; unfold fRead; rw [if_neg (by rw [h1]; simp), hr]
    have hv1 := HP.out.1 v hr
    subst hv1
    have q3 := HP.out.2.1
    have hz := Lib.hid (setCell_block (setCell_block (setCell_block (setCell_block HB4.out 0 (.int .i64 v1.kind)) 1 (.int .i64 v1.n)) 2 (.slice xa v1.names.length xc)) 3 (.slice ya v1.vals.length yc))
    have hu := Lib.hid (Upd.set1 (Upd.set1 (Upd.set1 (Upd.set1 (Upd.refl _ w4) hg 0 (.int .i64 v1.kind)) hg 1 (.int .i64 v1.n)) hg 2 (.slice xa v1.names.length xc)) hg 3 (.slice ya v1.vals.length yc))
    have hv := Lib.hid (((q3.nw HN3.out).upd hu.out (fun k hk e => by have := HS2.out; omega)).mono (Q := fun j => w.heap.size ≤ j) (fun k _ hk => by have := HS2.out; omega))
    clear q3
    go_wp2_with fail
    refine bodyPost_ret (rdp43_results (c := 0) _ _ ?_ ?_ hz.out) ?_ ?_
    · rfl
    · rfl
    · rfl
    exact ⟨_, _, by rw [e9.out], by rw [e9.out]; exact hv.out, (HN.out.trans HU4.out).trans' hu.out (fun k hk e => by omega)⟩
set_option maxHeartbeats 4000000 in
set_option maxRecDepth 100000 in
theorem Both43_r (fv gv : Value) (ta tb : Ty) (w : World) (g : Gl w) (ha : TyAt w fv ta) (hb : TyAt w gv tb) :
    Calls Tryz.prog 22 #[.agg #[.int .i64 ta.kind, fv], .agg #[.int .i64 tb.kind, gv]] w fun e w' => e = .returned (.bool (fReads ta tb && fReads tb ta)) ∧ Nw w w' := by
  obtain ⟨fa, fc, rfl, -, -⟩ := ha.cells
  obtain ⟨ga, gc, rfl, -, -⟩ := hb.cells
  have n1 := nw_alloc w (.cells #[.int .i64 ta.kind, .slice fa ta.fs.length fc] tTy)
  have n2 := nw_alloc (w.alloc (.cells #[.int .i64 ta.kind, .slice fa ta.fs.length fc] tTy)) (.cells #[.int .i64 tb.kind, .slice ga tb.fs.length gc] tTy)
  have b1 := n2.keep (heap_new w (.cells #[.int .i64 ta.kind, .slice fa ta.fs.length fc] tTy))
  have b2 := heap_new (w.alloc (.cells #[.int .i64 ta.kind, .slice fa ta.fs.length fc] tTy)) (.cells #[.int .i64 tb.kind, .slice ga tb.fs.length gc] tTy)
  rw [World.size_alloc] at b2
  have hN := n1.trans n2
  obtain ⟨W0, hW⟩ : ∃ W, W = (w.alloc (.cells #[.int .i64 ta.kind, .slice fa ta.fs.length fc] tTy)).alloc (.cells #[.int .i64 tb.kind, .slice ga tb.fs.length gc] tTy) := ⟨_, rfl⟩
  rw [← hW] at hN b1 b2
  have HN := Lib.hid hN
  have HW := Lib.hid hW
  have HC0 : Hid (∀ y, Nw W0 y → y.cell? ⟨w.heap.size, 0, none⟩ = some (.int .i64 ta.kind) ∧ y.cell? ⟨w.heap.size, 1, none⟩ = some (.slice fa ta.fs.length fc) ∧ y.cell? ⟨w.heap.size + 1, 0, none⟩ = some (.int .i64 tb.kind) ∧ y.cell? ⟨w.heap.size + 1, 1, none⟩ = some (.slice ga tb.fs.length gc)) := fun y u => ⟨by rw [cells_cell (Nw.keep u b1)]; rfl, by rw [cells_cell (Nw.keep u b1)]; rfl, by rw [cells_cell (Nw.keep u b2)]; rfl, by rw [cells_cell (Nw.keep u b2)]; rfl⟩
  have HG := Lib.hid (g.upd hN)
  have HTA := Lib.hid (ha.nw hN)
  have HTB := Lib.hid (hb.nw hN)
  have hr1 := Lib.hid (Reads43_r _ _ ta tb W0 HG.out HTA.out HTB.out)
  obtain ⟨x0, x1, x2, x3⟩ := HC0.out W0 (Upd.refl _ _)
  clear n1 n2 b1 b2 hN hW g ha hb
  go_enter Tryz.func22, Tryz.ntmps22
  go_upto_region 1 with fail
  rw [← HW.out]
  clear HW
  go_wp2_with fail
  (with_reducible refine (hr1.out).mono ?_)
  rintro _ w2 ⟨rfl, u2⟩
  have hr2 := Lib.hid (Reads43_r _ _ tb ta w2 (HG.out.upd u2) (HTB.out.nw u2) (HTA.out.nw u2))
  have U2 := Lib.hid u2
  clear x0 x1 x2 x3 hr1
  obtain ⟨x0, x1, x2, x3⟩ := HC0.out w2 u2
  clear u2
  cases h1 : fReads ta tb with
  | false =>
    clear hr2
    go_wp2_with fail
    go_ret
    exact ⟨by rw [h1]; rfl, HN.out.trans U2.out⟩
  | true =>
    go_wp2_with fail
    (with_reducible refine (hr2.out).mono ?_)
    rintro _ w3 ⟨rfl, u3⟩
    have U3 := Lib.hid (U2.out.trans u3)
    clear u3 x0 x1 x2 x3
    go_wp2_with fail
    go_ret
    exact ⟨by rw [h1]; rfl, HN.out.trans U3.out⟩
theorem wit43_results (tmps : Array Value) (w : World) {r : Nat} {k n : Int} {nv vv : Value} {b : Bool} (hr : tmps.getD 4 undef = .pointer (some ⟨r, 0, none⟩)) (h5 : tmps.getD 5 undef = .bool b) (hb : w.heap[r]? = some (.cells #[.int .i64 k, .int .i64 n, nv, vv] tVl (0, 0))) :
    (results Tryz.f17 tmps).run Tryz.prog w = .ok (.tuple #[.agg #[.int .i64 k, .int .i64 n, nv, vv], .bool b]) w := by
  obtain ⟨c0, c1, c2, c3⟩ := cell4F hb
  rw [Array.getD_eq_getD_getElem?] at hr h5
  simp [results, Tryz.results17, go_sem, hr, h5, c0, c1, c2, c3]
set_option maxHeartbeats 4000000 in
set_option maxRecDepth 100000 in
theorem Witness43_r (fv gv : Value) (ta tb : Ty) (w : World) (g : Gl w) (ha : TyAt w fv ta) (hb : TyAt w gv tb) :
    Calls Tryz.prog 17 #[.agg #[.int .i64 ta.kind, fv], .agg #[.int .i64 tb.kind, gv]] w fun e w' => ∃ xn xv, e = .returned (.tuple #[.agg #[.int .i64 (fWit ta tb).1.kind, .int .i64 (fWit ta tb).1.n, xn, xv], .bool (fWit ta tb).2]) ∧ Hid (VlAt (fun j => w.heap.size ≤ j) w' xn xv (fWit ta tb).1 ∧ Nw w w') := by
  have hgb := g.big
  obtain ⟨fa, fc, rfl, -, -⟩ := ha.cells
  obtain ⟨ga, gc, rfl, -, -⟩ := hb.cells
  have n1 := nw_alloc w (.cells #[.int .i64 ta.kind, .slice fa ta.fs.length fc] tTy)
  have n2 := nw_alloc (w.alloc (.cells #[.int .i64 ta.kind, .slice fa ta.fs.length fc] tTy)) (.cells #[.int .i64 tb.kind, .slice ga tb.fs.length gc] tTy)
  have b1 := n2.keep (heap_new w (.cells #[.int .i64 ta.kind, .slice fa ta.fs.length fc] tTy))
  have b2 := heap_new (w.alloc (.cells #[.int .i64 ta.kind, .slice fa ta.fs.length fc] tTy)) (.cells #[.int .i64 tb.kind, .slice ga tb.fs.length gc] tTy)
  rw [World.size_alloc] at b2
  obtain ⟨W1, hW1⟩ : ∃ W, W = (w.alloc (.cells #[.int .i64 ta.kind, .slice fa ta.fs.length fc] tTy)).alloc (.cells #[.int .i64 tb.kind, .slice ga tb.fs.length gc] tTy) := ⟨_, rfl⟩
  have hs1 : W1.heap.size = w.heap.size + 1 + 1 := by rw [hW1]; simp
  have hN1 := n1.trans n2
  rw [← hW1] at hN1 b1 b2
  have n3 := nw_alloc W1 (.cells #[.int .i64 0, .int .i64 0, .slice none 0 0, .slice none 0 0] tVl)
  have b3 := heap_new W1 (.cells #[.int .i64 0, .int .i64 0, .slice none 0 0, .slice none 0 0] tVl)
  rw [hs1] at b3
  replace b1 := n3.keep b1
  replace b2 := n3.keep b2
  have hN := hN1.trans n3
  obtain ⟨W0, hW⟩ : ∃ W, W = W1.alloc (.cells #[.int .i64 0, .int .i64 0, .slice none 0 0, .slice none 0 0] tVl) := ⟨_, rfl⟩
  have hs0 : W0.heap.size = w.heap.size + 3 := by rw [hW]; simp [hs1]
  rw [← hW] at hN b1 b2 b3
  rw [hW1] at hW
  have HN := Lib.hid hN
  have HW := Lib.hid hW
  have HS0 := Lib.hid hs0
  have HGB : Hid (nG ≤ w.heap.size) := hgb
  have HB3 := Lib.hid b3
  have HC0 : Hid (∀ y, Nw W0 y → y.cell? ⟨w.heap.size, 0, none⟩ = some (.int .i64 ta.kind) ∧ y.cell? ⟨w.heap.size, 1, none⟩ = some (.slice fa ta.fs.length fc) ∧ y.cell? ⟨w.heap.size + 1, 0, none⟩ = some (.int .i64 tb.kind) ∧ y.cell? ⟨w.heap.size + 1, 1, none⟩ = some (.slice ga tb.fs.length gc)) := fun y u => ⟨by rw [cells_cell (Nw.keep u b1)]; rfl, by rw [cells_cell (Nw.keep u b1)]; rfl, by rw [cells_cell (Nw.keep u b2)]; rfl, by rw [cells_cell (Nw.keep u b2)]; rfl⟩
  have HG := Lib.hid (g.upd hN)
  have HTA := Lib.hid (ha.nw hN)
  have HTB := Lib.hid (hb.nw hN)
  have hr1 := Lib.hid (tyRight_r _ ta W0 HG.out.big HTA.out)
  obtain ⟨x0, x1, x2, x3⟩ := HC0.out W0 (Upd.refl _ _)
  clear n1 n2 n3 b1 b2 b3 hN hN1 hW hW1 hs1 hs0 g ha hb hgb
  go_enter Tryz.func17, Tryz.ntmps17
  go_upto_region 1 with fail
  rw [← HW.out]
  clear HW
  go_wp2_with fail
  cases h1 : rightTy 4 ta with
  | false =>
    rw [h1] at hr1
    have e9 : Hid (fWit ta tb = (Fm.noV, false)) := by show _ = _; unfold fWit; rw [if_neg (by rw [h1]; simp)]
    (with_reducible refine (hr1.out).mono ?_)
    rintro _ w2 ⟨rfl, u2⟩
    have U2 := Lib.hid u2
    clear u2 x0 x1 x2 x3
    -- the way out, nothing stored but zeros: the world w2, behind W0 by Uw2
    have hb4 := Nw.keep (U2.out) HB3.out
    obtain ⟨d0, d1, d2, d3⟩ := cell4F hb4
    obtain ⟨f0, f1, f2, f3⟩ := froz4F hb4
    have hg : nG ≤ w.heap.size + 1 + 1 := by have := HGB.out; omega
    have hz := Lib.hid (setCell_block (setCell_block (setCell_block (setCell_block hb4 0 (.int .i64 0)) 1 (.int .i64 0)) 2 (.slice none 0 0)) 3 (.slice none 0 0))
    have hu := Lib.hid (Upd.set1 (Upd.set1 (Upd.set1 (Upd.set1 (Upd.refl _ (w2)) hg 0 (.int .i64 0)) hg 1 (.int .i64 0)) hg 2 (.slice none 0 0)) hg 3 (.slice none 0 0))
    clear hb4
    go_wp2_with fail
    refine bodyPost_ret (wit43_results (b := false) _ _ ?_ ?_ hz.out) ?_ ?_
    · rfl
    · rfl
    · rfl
    exact ⟨_, _, by rw [e9.out]; rfl, by rw [e9.out]; exact VlAt.nil _ _ (by unfold I64; omega) (by unfold I64; omega), (HN.out.trans (U2.out)).trans' hu.out (fun k hk e => by omega)⟩
  | true =>
  rw [h1] at hr1
  (with_reducible refine (hr1.out).mono ?_)
  rintro _ w2 ⟨rfl, u2⟩
  have hr2 := Lib.hid (tyRight_r _ tb w2 (HG.out.upd u2).big (HTB.out.nw u2))
  have U2 := Lib.hid u2
  clear x0 x1 x2 x3 hr1
  obtain ⟨x0, x1, x2, x3⟩ := HC0.out w2 u2
  clear u2
  cases h2 : rightTy 4 tb with
  | false =>
    rw [h2] at hr2
    have e9 : Hid (fWit ta tb = (Fm.noV, false)) := by show _ = _; unfold fWit; rw [if_neg (by rw [h2]; simp)]
    go_wp2_with fail
    (with_reducible refine (hr2.out).mono ?_)
    rintro _ w3 ⟨rfl, u3⟩
    have U3 := Lib.hid (U2.out.trans u3)
    clear u3 x0 x1 x2 x3
    -- the way out, nothing stored but zeros: the world w3, behind W0 by Uw3
    have hb4 := Nw.keep (U3.out) HB3.out
    obtain ⟨d0, d1, d2, d3⟩ := cell4F hb4
    obtain ⟨f0, f1, f2, f3⟩ := froz4F hb4
    have hg : nG ≤ w.heap.size + 1 + 1 := by have := HGB.out; omega
    have hz := Lib.hid (setCell_block (setCell_block (setCell_block (setCell_block hb4 0 (.int .i64 0)) 1 (.int .i64 0)) 2 (.slice none 0 0)) 3 (.slice none 0 0))
    have hu := Lib.hid (Upd.set1 (Upd.set1 (Upd.set1 (Upd.set1 (Upd.refl _ (w3)) hg 0 (.int .i64 0)) hg 1 (.int .i64 0)) hg 2 (.slice none 0 0)) hg 3 (.slice none 0 0))
    clear hb4
    go_wp2_with fail
    refine bodyPost_ret (wit43_results (b := false) _ _ ?_ ?_ hz.out) ?_ ?_
    · rfl
    · rfl
    · rfl
    exact ⟨_, _, by rw [e9.out]; rfl, by rw [e9.out]; exact VlAt.nil _ _ (by unfold I64; omega) (by unfold I64; omega), (HN.out.trans (U3.out)).trans' hu.out (fun k hk e => by omega)⟩
  | true =>
  rw [h2] at hr2
  go_wp2_with fail
  (with_reducible refine (hr2.out).mono ?_)
  rintro _ w3 ⟨rfl, u3⟩
  have hr3 := Lib.hid (Reads43_r _ _ ta tb w3 (HG.out.upd (U2.out.trans u3)) (HTA.out.nw (U2.out.trans u3)) (HTB.out.nw (U2.out.trans u3)))
  rw [reads_self h1 h2] at hr3
  have U3 := Lib.hid (U2.out.trans u3)
  clear x0 x1 x2 x3 hr2 u3
  obtain ⟨x0, x1, x2, x3⟩ := HC0.out w3 U3.out
  go_wp2_with fail
  cases h3 : Fm.sub 4 ta tb with
  | true =>
    rw [h3] at hr3
    have e9 : Hid (fWit ta tb = (Fm.noV, false)) := by show _ = _; unfold fWit; rw [if_neg (by rw [h3]; simp)]
    (with_reducible refine (hr3.out).mono ?_)
    rintro _ w4 ⟨rfl, u4⟩
    have U4 := Lib.hid (U3.out.trans u4)
    clear u4 x0 x1 x2 x3
    -- the way out, nothing stored but zeros: the world w4, behind W0 by Uw4
    have hb4 := Nw.keep (U4.out) HB3.out
    obtain ⟨d0, d1, d2, d3⟩ := cell4F hb4
    obtain ⟨f0, f1, f2, f3⟩ := froz4F hb4
    have hg : nG ≤ w.heap.size + 1 + 1 := by have := HGB.out; omega
    have hz := Lib.hid (setCell_block (setCell_block (setCell_block (setCell_block hb4 0 (.int .i64 0)) 1 (.int .i64 0)) 2 (.slice none 0 0)) 3 (.slice none 0 0))
    have hu := Lib.hid (Upd.set1 (Upd.set1 (Upd.set1 (Upd.set1 (Upd.refl _ (w4)) hg 0 (.int .i64 0)) hg 1 (.int .i64 0)) hg 2 (.slice none 0 0)) hg 3 (.slice none 0 0))
    clear hb4
    go_wp2_with fail
    refine bodyPost_ret (wit43_results (b := false) _ _ ?_ ?_ hz.out) ?_ ?_
    · rfl
    · rfl
    · rfl
    exact ⟨_, _, by rw [e9.out]; rfl, by rw [e9.out]; exact VlAt.nil _ _ (by unfold I64; omega) (by unfold I64; omega), (HN.out.trans (U4.out)).trans' hu.out (fun k hk e => by omega)⟩
  | false =>
    rw [h3] at hr3
    have e9 : Hid (fWit ta tb = (Fm.zero 4 ta, true)) := by show _ = _; unfold fWit; rw [if_pos ⟨h1, h2, h3⟩]
    (with_reducible refine (hr3.out).mono ?_)
    rintro _ w4 ⟨rfl, u4⟩
    have hz := Lib.hid (rZero_r _ ta w4 (HG.out.upd (U3.out.trans u4)).big h1 (HTA.out.nw (U3.out.trans u4)))
    have U4 := Lib.hid (U3.out.trans u4)
    clear u4 x0 x1 x2 x3 hr3
    obtain ⟨x0, x1, x2, x3⟩ := HC0.out w4 U4.out
    go_wp2_with fail
    (with_reducible refine (hz.out).mono ?_)
    rintro _ w5 ⟨xn, xv, rfl, HZX⟩
    obtain ⟨hx, u5⟩ := HZX.out
    obtain ⟨xa, xc, rfl, -⟩ := hx.names
    obtain ⟨ya, yc, rfl, -⟩ := hx.vals
    have U5 := Lib.hid (U4.out.trans u5)
    have hb4 := Nw.keep U5.out HB3.out
    obtain ⟨d0, d1, d2, d3⟩ := cell4F hb4
    obtain ⟨f0, f1, f2, f3⟩ := froz4F hb4
    have hg : nG ≤ w.heap.size + 1 + 1 := by have := HGB.out; omega
    have hz9 := Lib.hid (setCell_block (setCell_block (setCell_block (setCell_block hb4 0 (.int .i64 (Fm.zero 4 ta).kind)) 1 (.int .i64 (Fm.zero 4 ta).n)) 2 (.slice xa (Fm.zero 4 ta).names.length xc)) 3 (.slice ya (Fm.zero 4 ta).vals.length yc))
    have hu := Lib.hid (Upd.set1 (Upd.set1 (Upd.set1 (Upd.set1 (Upd.refl _ w5) hg 0 (.int .i64 (Fm.zero 4 ta).kind)) hg 1 (.int .i64 (Fm.zero 4 ta).n)) hg 2 (.slice xa (Fm.zero 4 ta).names.length xc)) hg 3 (.slice ya (Fm.zero 4 ta).vals.length yc))
    have hsz : Hid (w.heap.size + 3 ≤ w4.heap.size) := by have := U4.out.size; have := HS0.out; show _ ≤ _; omega
    have hv := Lib.hid ((hx.upd hu.out (fun k hk e => by have := hsz.out; omega)).mono (Q := fun j => w.heap.size ≤ j) (fun k _ hk => by have := hsz.out; omega))
    clear hb4 hx hz u5 HZX x0 x1 x2 x3
    generalize Fm.zero 4 ta = zv at *
    go_wp2_with fail
    refine bodyPost_ret (wit43_results (b := true) _ _ ?_ ?_ hz9.out) ?_ ?_
    · rfl
    · rfl
    · rfl
    exact ⟨_, _, by rw [e9.out], by rw [e9.out]; exact hv.out, (HN.out.trans U5.out).trans' hu.out (fun k hk e => by omega)⟩
end Go.Proofs.YthagiklfmkdmaaaGreatDoor
