/- format.read; format.Write and format.Read. -/
import Derived.Test.YtjlgmoemnhmgmaaGreatDoorPkWTalks15
import Derived.Test.YtjlgmoemnhmgmaaGreatDoorPkWTalks16
import Derived.Test.YtjlgmoemnhmgmaaGreatDoorPkWTalks18
namespace Go.Proofs.YtjlgmoemnhmgmaaGreatDoor
open Go.RowKit Go.MapKept
set_option linter.unusedVariables false
set_option linter.unusedSimpArgs false
attribute [local irreducible] Calls
open Fm (Ty Vl Str nameB rightTy rightVl)

theorem fmread_c : ∀ (d : Nat), d ≤ 4 → ∀ (t : Ty) (fv : Value) (s : Str) (w : World), Gm w → rightTy d t = true → TyAt w fv t → s.length ≤ 1000000 →
    Calls Tryz.prog 67 #[.agg #[.int .i64 t.kind, fv], .string ⟨s.toArray⟩] w (RdPost d t s w) := by
  intro d
  induction d with
  | zero => intro _ t fv s w g h; cases h
  | succ d ih =>
    intro hd t fv s w g hr ht hs
    have hR := Fm.rt_iff.1 hr
    have hkc : t.kind = 0 ∨ t.kind = 1 ∨ t.kind = 2 := by have := hR.k0; have := hR.k3; omega
    rcases hkc with hk | hk | hk
    · exact fmread_k0 d hd (ih (by omega)) t hk fv s w g hr ht hs
    · exact fmread_k1 d hd (ih (by omega)) t hk fv s w g hr ht hs
    · exact fmread_k2 d hd (ih (by omega)) t hk fv s w g hr ht hs
/-- What Write answers. -/
def fWrite (t : Ty) (v : Vl) : Str × Int := if rightTy 4 t = false then ([], 1) else if Fm.has t v = false then ([], 13) else (Fm.writeF 4 t v, 0)
/-- What Read answers: the value, the code. -/
def fRead (t : Ty) (s : Str) : Vl × Int := if rightTy 4 t = false then (Fm.noV, 1) else match Fm.readF 4 t s with
  | none => (Fm.noV, 34)
  | some v => (v, 0)
set_option maxHeartbeats 4000000 in
set_option maxRecDepth 100000 in
theorem Write_c (P : Nat → Prop) (fv : Value) (t : Ty) (nv vv : Value) (v : Vl) (w : World) (g : Gm w) (ht : TyAt w fv t) (h : VlAt P w nv vv v) :
    Calls Tryz.prog 50 #[.agg #[.int .i64 t.kind, fv], .agg #[.int .i64 v.kind, .int .i64 v.n, nv, vv]] w fun e w' => e = .returned (.tuple #[.string ⟨(fWrite t v).1.toArray⟩, .int .i64 (fWrite t v).2]) ∧ Nw w w' := by
  obtain ⟨fa, fc, rfl, -, -⟩ := ht.cells
  obtain ⟨na, nc, rfl, -, -⟩ := h.names
  obtain ⟨va, vc, rfl, -, -⟩ := h.vals
  have n1 := nw_alloc w (.cells #[.int .i64 t.kind, .slice fa t.fs.length fc] tTy)
  have n2 := nw_alloc (w.alloc (.cells #[.int .i64 t.kind, .slice fa t.fs.length fc] tTy)) (.cells #[.int .i64 v.kind, .int .i64 v.n, .slice na v.names.length nc, .slice va v.vals.length vc] tVl)
  have b1 := n2.keep (heap_new w (.cells #[.int .i64 t.kind, .slice fa t.fs.length fc] tTy))
  have b2 := heap_new (w.alloc (.cells #[.int .i64 t.kind, .slice fa t.fs.length fc] tTy)) (.cells #[.int .i64 v.kind, .int .i64 v.n, .slice na v.names.length nc, .slice va v.vals.length vc] tVl)
  rw [World.size_alloc] at b2
  have hN := n1.trans n2
  obtain ⟨W, hW⟩ : ∃ W, W = (w.alloc (.cells #[.int .i64 t.kind, .slice fa t.fs.length fc] tTy)).alloc (.cells #[.int .i64 v.kind, .int .i64 v.n, .slice na v.names.length nc, .slice va v.vals.length vc] tVl) := ⟨_, rfl⟩
  rw [← hW] at hN b1 b2
  have HN := Lib.hid hN
  have HW := Lib.hid hW
  have HC : Hid (∀ y, Nw W y → (y.cell? ⟨w.heap.size, 0, none⟩ = some (.int .i64 t.kind) ∧ y.cell? ⟨w.heap.size, 1, none⟩ = some (.slice fa t.fs.length fc)) ∧ y.cell? ⟨w.heap.size + 1, 0, none⟩ = some (.int .i64 v.kind) ∧ y.cell? ⟨w.heap.size + 1, 1, none⟩ = some (.int .i64 v.n) ∧ y.cell? ⟨w.heap.size + 1, 2, none⟩ = some (.slice na v.names.length nc) ∧ y.cell? ⟨w.heap.size + 1, 3, none⟩ = some (.slice va v.vals.length vc)) := fun y u => ⟨⟨by rw [cells_cell (Nw.keep u b1)]; rfl, by rw [cells_cell (Nw.keep u b1)]; rfl⟩, cell4F (Nw.keep u b2)⟩
  have HG := Lib.hid (g.upd hN)
  have HT := Lib.hid (ht.nw hN)
  have HV := Lib.hid (h.nw hN)
  have hr1 := Lib.hid (types_right_c _ t W HG.out HT.out)
  obtain ⟨⟨x0, x1⟩, y0, y1, y2, y3⟩ := HC.out W (Upd.refl _ _)
  clear n1 n2 b1 b2 hN hW g ht h
  go_enter Tryz.func50, Tryz.ntmps50
  go_upto_region 1 with fail
  rw [← HW.out]
  clear HW
  go_wp2_with fail
  cases h1 : rightTy 4 t with
  | false =>
    rw [h1] at hr1
    have e9 : Hid (fWrite t v = ([], 1)) := by show _ = _; unfold fWrite; rw [if_pos h1]
    (with_reducible refine (hr1.out).mono ?_)
    rintro _ w2 ⟨rfl, u2⟩
    have U2 := Lib.hid u2
    clear u2 x0 x1 y0 y1 y2 y3
    go_wp2_with fail
    go_ret2
    exact ⟨by rw [e9.out]; rfl, HN.out.trans U2.out⟩
  | true =>
  rw [h1] at hr1
  (with_reducible refine (hr1.out).mono ?_)
  rintro _ w2 ⟨rfl, u2⟩
  have hh := Lib.hid (has_c P _ t _ _ v w2 (HG.out.upd u2) (HT.out.nw u2) (HV.out.nw u2))
  have U2 := Lib.hid u2
  clear x0 x1 y0 y1 y2 y3
  obtain ⟨⟨x0, x1⟩, y0, y1, y2, y3⟩ := HC.out w2 u2
  clear u2
  cases h2 : Fm.has t v with
  | false =>
    rw [h2] at hh
    have e9 : Hid (fWrite t v = ([], 13)) := by show _ = _; unfold fWrite; rw [if_neg (by rw [h1]; simp), if_pos h2]
    go_wp2_with fail
    (with_reducible refine (hh.out).mono ?_)
    rintro _ w3 ⟨rfl, u3⟩
    have U3 := Lib.hid (U2.out.trans u3)
    clear u3 x0 x1 y0 y1 y2 y3
    go_wp2_with fail
    go_ret2
    exact ⟨by rw [e9.out]; rfl, HN.out.trans U3.out⟩
  | true =>
    rw [h2] at hh
    have e9 : Hid (fWrite t v = (Fm.writeF 4 t v, 0)) := by show _ = _; unfold fWrite; rw [if_neg (by rw [h1]; simp), if_neg (by rw [h2]; simp)]
    have h3 : rightVl 4 v = true ∧ Fm.fits 4 t v = true := by
      unfold Fm.has at h2
      simp only [Bool.and_eq_true] at h2
      exact ⟨h2.1.2, h2.2⟩
    go_wp2_with fail
    (with_reducible refine (hh.out).mono ?_)
    rintro _ w3 ⟨rfl, u3⟩
    have U3 := Lib.hid (U2.out.trans u3)
    have hw := Lib.hid (fmwrite_c P 4 (Nat.le_refl _) t _ v _ _ w3 (HG.out.upd U3.out) h1 h3.1 h3.2 (HT.out.nw U3.out) (HV.out.nw U3.out))
    clear u3 x0 x1 y0 y1 y2 y3
    obtain ⟨⟨x0, x1⟩, y0, y1, y2, y3⟩ := HC.out w3 U3.out
    go_wp2_with fail
    (with_reducible refine (hw.out).mono ?_)
    rintro _ w4 ⟨rfl, u4⟩
    have U4 := Lib.hid (U3.out.trans u4)
    clear u4 x0 x1 y0 y1 y2 y3
    go_wp2_with fail
    go_ret2
    exact ⟨by rw [e9.out]; rfl, HN.out.trans U4.out⟩
theorem rdp_results (tmps : Array Value) (w : World) {r : Nat} {k n c : Int} {nv vv : Value} (hr : tmps.getD 4 undef = .pointer (some ⟨r, 0, none⟩)) (h5 : tmps.getD 5 undef = .int .i64 c) (hb : w.heap[r]? = some (.cells #[.int .i64 k, .int .i64 n, nv, vv] tVl (0, 0))) :
    (results Tryz.f51 tmps).run Tryz.prog w = .ok (.tuple #[.agg #[.int .i64 k, .int .i64 n, nv, vv], .int .i64 c]) w := by
  obtain ⟨c0, c1, c2, c3⟩ := cell4F hb
  rw [Array.getD_eq_getD_getElem?] at hr h5
  simp [results, Tryz.results51, go_sem, hr, h5, c0, c1, c2, c3]
set_option maxHeartbeats 4000000 in
set_option maxRecDepth 100000 in
theorem Read_c (fv : Value) (t : Ty) (s : Str) (w : World) (g : Gm w) (ht : TyAt w fv t) (hs : s.length ≤ 1000000) :
    Calls Tryz.prog 51 #[.agg #[.int .i64 t.kind, fv], .string ⟨s.toArray⟩] w fun e w' => ∃ xn xv, e = .returned (.tuple #[.agg #[.int .i64 (fRead t s).1.kind, .int .i64 (fRead t s).1.n, xn, xv], .int .i64 (fRead t s).2]) ∧ Hid (VlAt (fun j => w.heap.size ≤ j) w' xn xv (fRead t s).1 ∧ Nw w w') := by
  have hgb := g.g.big
  obtain ⟨fa, fc, rfl, -, -⟩ := ht.cells
  have n1 := nw_alloc w (.cells #[.int .i64 t.kind, .slice fa t.fs.length fc] tTy)
  have n2 := nw_alloc (w.alloc (.cells #[.int .i64 t.kind, .slice fa t.fs.length fc] tTy)) (.cells #[.int .i64 0, .int .i64 0, .slice none 0 0, .slice none 0 0] tVl)
  have b1 := n2.keep (heap_new w (.cells #[.int .i64 t.kind, .slice fa t.fs.length fc] tTy))
  have b2 := heap_new (w.alloc (.cells #[.int .i64 t.kind, .slice fa t.fs.length fc] tTy)) (.cells #[.int .i64 0, .int .i64 0, .slice none 0 0, .slice none 0 0] tVl)
  rw [World.size_alloc] at b2
  have hN := n1.trans n2
  obtain ⟨W, hW⟩ : ∃ W, W = (w.alloc (.cells #[.int .i64 t.kind, .slice fa t.fs.length fc] tTy)).alloc (.cells #[.int .i64 0, .int .i64 0, .slice none 0 0, .slice none 0 0] tVl) := ⟨_, rfl⟩
  rw [← hW] at hN b1 b2
  have HN := Lib.hid hN
  have HW := Lib.hid hW
  have HC : Hid (∀ y, Nw W y → (y.cell? ⟨w.heap.size, 0, none⟩ = some (.int .i64 t.kind) ∧ y.cell? ⟨w.heap.size, 1, none⟩ = some (.slice fa t.fs.length fc)) ∧ y.heap[w.heap.size + 1]? = some (.cells #[.int .i64 0, .int .i64 0, .slice none 0 0, .slice none 0 0] tVl (0, 0))) := fun y u => ⟨⟨by rw [cells_cell (Nw.keep u b1)]; rfl, by rw [cells_cell (Nw.keep u b1)]; rfl⟩, Nw.keep u b2⟩
  have HG := Lib.hid (g.upd hN)
  have HT := Lib.hid (ht.nw hN)
  have hr1 := Lib.hid (types_right_c _ t W HG.out HT.out)
  have HS := Lib.hid hs
  have HGB : Hid (nG ≤ w.heap.size) := hgb
  have hws : Hid (W.heap.size = w.heap.size + 2) := by show _ = _; rw [hW]; simp
  obtain ⟨⟨x0, x1⟩, -⟩ := HC.out W (Upd.refl _ _)
  clear n1 n2 b1 b2 hN hW g ht hs hgb
  go_enter Tryz.func51, Tryz.ntmps51
  go_upto_region 1 with fail
  rw [← HW.out]
  clear HW
  go_wp2_with fail
  cases h1 : rightTy 4 t with
  | false =>
    rw [h1] at hr1
    have e9 : Hid (fRead t s = (Fm.noV, 1)) := by show _ = _; unfold fRead; rw [if_pos h1]
    (with_reducible refine (hr1.out).mono ?_)
    rintro _ w2 ⟨rfl, u2⟩
    obtain ⟨-, hb2⟩ := HC.out w2 u2
    have HU := Lib.hid (HN.out.trans u2)
    have HB := Lib.hid hb2
    obtain ⟨d0, d1, d2, d3⟩ := cell4F hb2
    obtain ⟨f0, f1, f2, f3⟩ := froz4F hb2
    have hg : nG ≤ w.heap.size + 1 := by have := HGB.out; omega
    have hz := Lib.hid (setCell_block (setCell_block (setCell_block (setCell_block hb2 0 (.int .i64 0)) 1 (.int .i64 0)) 2 (.slice none 0 0)) 3 (.slice none 0 0))
    have hu := Lib.hid (Upd.set1 (Upd.set1 (Upd.set1 (Upd.set1 (Upd.refl _ w2) hg 0 (.int .i64 0)) hg 1 (.int .i64 0)) hg 2 (.slice none 0 0)) hg 3 (.slice none 0 0))
    clear u2 x0 x1 hr1 hb2
    go_wp2_with fail
    refine bodyPost_ret (rdp_results (c := 1) _ _ ?_ ?_ hz.out) ?_ ?_
    · rfl
    · rfl
    · rfl
    exact ⟨_, _, by rw [e9.out]; rfl, by rw [e9.out]; exact VlAt.nil _ _ (by unfold I64; omega) (by unfold I64; omega), HU.out.trans' hu.out (fun k hk e => by omega)⟩
  | true =>
  rw [h1] at hr1
  (with_reducible refine (hr1.out).mono ?_)
  rintro _ w2 ⟨rfl, u2⟩
  have hrd := Lib.hid (fmread_c 4 (Nat.le_refl _) t _ s w2 (HG.out.upd u2) h1 (HT.out.nw u2) HS.out)
  have U2 := Lib.hid u2
  clear x0 x1 hr1
  obtain ⟨⟨x0, x1⟩, -⟩ := HC.out w2 u2
  clear u2
  go_wp2_with fail
  (with_reducible refine (hrd.out).mono ?_)
  rintro _ w3 ⟨k1, n1, xa, xl, xc, ya, yl, yc, rfl, HP⟩
  have n3 := nw_alloc w3 (.cells #[.int .i64 k1, .int .i64 n1, .slice xa xl xc, .slice ya yl yc] tVl)
  have b3 := heap_new w3 (.cells #[.int .i64 k1, .int .i64 n1, .slice xa xl xc, .slice ya yl yc] tVl)
  obtain ⟨w4, hw4⟩ : ∃ y, y = w3.alloc (.cells #[.int .i64 k1, .int .i64 n1, .slice xa xl xc, .slice ya yl yc] tVl) := ⟨_, rfl⟩
  rw [← hw4] at n3 b3
  have HW4 := Lib.hid hw4
  have HU4 : Hid (Nw W w4) := (U2.out.trans HP.out.2).trans n3
  have HN3 := Lib.hid n3
  have HS2 : Hid (w.heap.size + 2 ≤ w2.heap.size) := by have := U2.out.size; have := hws.out; show _ ≤ _; omega
  obtain ⟨-, hb4⟩ := HC.out w4 HU4.out
  obtain ⟨c0, c1, c2, c3⟩ := cell4F b3
  obtain ⟨d0, d1, d2, d3⟩ := cell4F hb4
  obtain ⟨f0, f1, f2, f3⟩ := froz4F hb4
  have HB4 := Lib.hid hb4
  have hg : nG ≤ w.heap.size + 1 := by have := HGB.out; omega
  clear hw4 n3 b3 hb4 hrd x0 x1
  go_upto_region 4 with fail
  rw [← HW4.out]
  clear HW4
  generalize w3.heap.size = p3 at *
  cases hr : Fm.readF 4 t s with
  | none =>
    have e9 : Hid (fRead t s = (Fm.noV, 34)) := by show _ = _; unfold fRead; rw [if_neg (by rw [h1]; simp), hr]
    have hz := Lib.hid (setCell_block (setCell_block (setCell_block (setCell_block HB4.out 0 (.int .i64 0)) 1 (.int .i64 0)) 2 (.slice none 0 0)) 3 (.slice none 0 0))
    have hu := Lib.hid (Upd.set1 (Upd.set1 (Upd.set1 (Upd.set1 (Upd.refl _ w4) hg 0 (.int .i64 0)) hg 1 (.int .i64 0)) hg 2 (.slice none 0 0)) hg 3 (.slice none 0 0))
    go_wp2_with fail
    refine bodyPost_ret (rdp_results (c := 34) _ _ ?_ ?_ hz.out) ?_ ?_
    · rfl
    · rfl
    · rfl
    exact ⟨_, _, by rw [e9.out]; rfl, by rw [e9.out]; exact VlAt.nil _ _ (by unfold I64; omega) (by unfold I64; omega), (HN.out.trans HU4.out).trans' hu.out (fun k hk e => by omega)⟩
  | some v =>
    have e9 : Hid (fRead t s = (v, 0)) := by show _ = _; unfold fRead; rw [if_neg (by rw [h1]; simp), hr]
    obtain ⟨q1, q2, q3⟩ := HP.out.1 v hr
    subst q1 q2
    have hz := Lib.hid (setCell_block (setCell_block (setCell_block (setCell_block HB4.out 0 (.int .i64 v.kind)) 1 (.int .i64 v.n)) 2 (.slice xa xl xc)) 3 (.slice ya yl yc))
    have hu := Lib.hid (Upd.set1 (Upd.set1 (Upd.set1 (Upd.set1 (Upd.refl _ w4) hg 0 (.int .i64 v.kind)) hg 1 (.int .i64 v.n)) hg 2 (.slice xa xl xc)) hg 3 (.slice ya yl yc))
    have hv := Lib.hid (((q3.nw HN3.out).upd hu.out (fun k hk e => by have := HS2.out; omega)).mono (Q := fun j => w.heap.size ≤ j) (fun k _ hk => by have := HS2.out; omega))
    clear q3
    go_wp2_with fail
    refine bodyPost_ret (rdp_results (c := 0) _ _ ?_ ?_ hz.out) ?_ ?_
    · rfl
    · rfl
    · rfl
    exact ⟨_, _, by rw [e9.out], by rw [e9.out]; exact hv.out, (HN.out.trans HU4.out).trans' hu.out (fun k hk e => by omega)⟩
end Go.Proofs.YtjlgmoemnhmgmaaGreatDoor
