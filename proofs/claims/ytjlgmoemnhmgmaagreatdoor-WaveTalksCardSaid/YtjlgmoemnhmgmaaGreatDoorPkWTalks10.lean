/- A value has a type. eval.Right, state.Has. Appends in a region that draws its order: of cells of an own or a known slice, of zeros. -/
import Derived.Test.YtjlgmoemnhmgmaaGreatDoorPkWTalks9
import Derived.Test.YtjlgmoemnhmgmaaGreatDoorPkWTalks6
import Derived.Lib.AppendZerosOnto
import Derived.Deep.RegionHeldLaw
namespace Go.Proofs.YtjlgmoemnhmgmaaGreatDoor
open Go.RowKit
set_option linter.unusedVariables false
set_option linter.unusedSimpArgs false
attribute [local irreducible] Calls
open Fm (Ty Vl Str nameB rightTy rightVl)

theorem StrC.nw {w w' : World} {a : Option Addr} {l : List Str} (h : StrC w a l) (u : Nw w w') : StrC w' a l :=
  h.imp id (fun ⟨b, off, e, hb, hc⟩ => ⟨b, off, e, Nat.lt_of_lt_of_le hb u.size, fun i hi => ⟨nw_cellF u (hc i hi).1, (hc i hi).2⟩⟩)
theorem VsC.nw {P : Nat → Prop} {w w' : World} {a : Option Addr} {l : List Vl} (h : VsC P w a l) (u : Nw w w') : VsC P w' a l :=
  h.imp id (fun ⟨b, off, e, hb, hc⟩ => ⟨b, off, e, Nat.lt_of_lt_of_le hb u.size, fun i hi => by
    obtain ⟨nv', vv', q0, q1, q2, q3, q4⟩ := hc i hi
    exact ⟨nv', vv', nw_cellF u q0, nw_cellF u q1, nw_cellF u q2, nw_cellF u q3, q4.nw u⟩⟩)
theorem fits_eq {d : Nat} {t : Ty} {v : Vl} (hk : t.kind = v.kind) : Fm.fits (d + 1) t v = !(t.fs.any fun f => !(decide (0 ≤ Fm.idx f.1 v.names) && Fm.fits d f.2 (v.at_ f.1))) := by
  show (decide (t.kind = v.kind) && t.fs.all (fun f => decide (0 ≤ Fm.idx f.1 v.names) && Fm.fits d f.2 (v.at_ f.1))) = _
  rw [decide_eq_true hk, Bool.true_and, Bool.eq_iff_iff]
  simp
set_option maxHeartbeats 4000000 in
set_option maxRecDepth 100000 in
theorem stfits_c (P : Nat → Prop) : ∀ (d : Nat) (t : Ty) (fv : Value) (v : Vl) (nv vv : Value) (w : World), rightTy d t = true → rightVl d v = true → TyAt w fv t → VlAt P w nv vv v →
    Calls Tryz.prog 71 #[.agg #[.int .i64 t.kind, fv], .agg #[.int .i64 v.kind, .int .i64 v.n, nv, vv]] w fun e w' => e = .returned (.bool (Fm.fits d t v)) ∧ Nw w w' := by
  intro d
  induction d with
  | zero => intro t fv v nv vv w h; cases h
  | succ d ih =>
    intro t fv v nv vv w hr hv ht hva
    have IH := Lib.hid ih
    have RT := Lib.hid (Fm.rt_iff.1 hr)
    have RV := Lib.hid (Fm.rv_iff.1 hv)
    obtain ⟨fa, fc, rfl, hfl, hfc⟩ := ht.cells
    obtain ⟨na, nc, rfl, hnl, hnc⟩ := hva.names
    obtain ⟨va, vc, rfl, hvl, hvc⟩ := hva.vals
    have HFC : Hid (FdC w fa t.fs) := hfc
    have HNC : Hid (StrC w na v.names) := hnc
    have HVC : Hid (VsC P w va v.vals) := hvc
    have n1 := nw_alloc w (.cells #[.int .i64 t.kind, .slice fa t.fs.length fc] tTy)
    have n2 := nw_alloc (w.alloc (.cells #[.int .i64 t.kind, .slice fa t.fs.length fc] tTy)) (.cells #[.int .i64 v.kind, .int .i64 v.n, .slice na v.names.length nc, .slice va v.vals.length vc] tVl)
    have b1 := n2.keep (heap_new w (.cells #[.int .i64 t.kind, .slice fa t.fs.length fc] tTy))
    have b2 := heap_new (w.alloc (.cells #[.int .i64 t.kind, .slice fa t.fs.length fc] tTy)) (.cells #[.int .i64 v.kind, .int .i64 v.n, .slice na v.names.length nc, .slice va v.vals.length vc] tVl)
    rw [World.size_alloc] at b2
    have hN := n1.trans n2
    obtain ⟨W, hW⟩ : ∃ W, W = (w.alloc (.cells #[.int .i64 t.kind, .slice fa t.fs.length fc] tTy)).alloc (.cells #[.int .i64 v.kind, .int .i64 v.n, .slice na v.names.length nc, .slice va v.vals.length vc] tVl) := ⟨_, rfl⟩
    rw [← hW] at hN b1 b2
    have HN := Lib.hid hN
    have HW := Lib.hid hW
    have c0 : W.cell? ⟨w.heap.size, 0, none⟩ = some (.int .i64 t.kind) := by rw [cells_cell b1]; rfl
    have c1 : W.cell? ⟨w.heap.size, 1, none⟩ = some (.slice fa t.fs.length fc) := by rw [cells_cell b1]; rfl
    have c2 : W.cell? ⟨w.heap.size + 1, 0, none⟩ = some (.int .i64 v.kind) := by rw [cells_cell b2]; rfl
    have HVB : Hid (∀ y, Nw W y → y.cell? ⟨w.heap.size + 1, 2, none⟩ = some (.slice na v.names.length nc) ∧ y.cell? ⟨w.heap.size + 1, 3, none⟩ = some (.slice va v.vals.length vc)) := fun y u => ⟨by rw [cells_cell (Nw.keep u b2)]; rfl, by rw [cells_cell (Nw.keep u b2)]; rfl⟩
    unfold maxLen at hfl
    have hfl1 : (t.fs.length : Int) ≤ 9223372036854775807 := by omega
    have HNL := Lib.hid (And.intro hnl hvl)
    clear ih hr hv ht hva hfc hnc hvc n1 n2 b1 b2 hN hW hnl hvl
    go_enter Tryz.func71, Tryz.ntmps71
    go_upto_region 1 with fail
    rw [← HW.out]
    clear HW
    by_cases hk : t.kind = v.kind
    rotate_left
    · have e0 : (t.kind == v.kind) = false := by simp [hk]
      have e9 : Hid (Fm.fits (d + 1) t v = false) := by
        show _ = _
        cases hc : Fm.fits (d + 1) t v with
        | false => rfl
        | true => exact absurd (Fm.fit_iff.1 hc).k hk
      clear hk HVC HNC HFC
      go_wp2_with fail
      go_ret
      exact ⟨by rw [e9.out]; rfl, HN.out⟩
    have e0 : (t.kind == v.kind) = true := by simp [hk]
    have e9 := Lib.hid (fits_eq (d := d) hk)
    have hclo : ∀ (y : World) (f : Str × Ty) (sv : Value), Nw W y → f ∈ t.fs → TyAt y sv f.2 → f.1.length ≤ maxLen → Calls Tryz.prog 99 #[.agg #[.string ⟨f.1.toArray⟩, .int .i64 f.2.kind, sv], .pointer (some ⟨w.heap.size + 1, 0, none⟩)] y fun e w' => e = .returned (.bool (!(decide (0 ≤ Fm.idx f.1 v.names) && Fm.fits d f.2 (v.at_ f.1)))) ∧ Nw y w' := fun y f sv u hf hsv hfl => by
      obtain ⟨sa, sc, rfl, -⟩ := hsv.cells
      have n1 := nw_alloc y (.cells #[.string ⟨f.1.toArray⟩, .int .i64 f.2.kind, .slice sa f.2.fs.length sc] tFd)
      have b1 := heap_new y (.cells #[.string ⟨f.1.toArray⟩, .int .i64 f.2.kind, .slice sa f.2.fs.length sc] tFd)
      obtain ⟨Y, hY⟩ : ∃ Y, Y = y.alloc (.cells #[.string ⟨f.1.toArray⟩, .int .i64 f.2.kind, .slice sa f.2.fs.length sc] tFd) := ⟨_, rfl⟩
      rw [← hY] at n1 b1
      have HY := Lib.hid hY
      obtain ⟨k2, k3⟩ := HVB.out Y (u.trans n1)
      have k0 : Y.cell? ⟨y.heap.size, 0, none⟩ = some (.string ⟨f.1.toArray⟩) := by rw [cells_cell b1]; rfl
      have hix := Lib.hid (index_s na nc v.names f.1 Y (HNC.out.nw (HN.out.trans (u.trans n1))) HNL.out.1)
      have HU := Lib.hid n1
      have l1 : ∀ i : Later Y, i.1.cell? ⟨y.heap.size, 1, none⟩ = some (.int .i64 f.2.kind) := fun i => by rw [cells_cell (Nw.keep i.nw b1)]; rfl
      have l2 : ∀ i : Later Y, i.1.cell? ⟨y.heap.size, 2, none⟩ = some (.slice sa f.2.fs.length sc) := fun i => by rw [cells_cell (Nw.keep i.nw b1)]; rfl
      have l3 : ∀ i : Later Y, i.1.cell? ⟨w.heap.size + 1, 3, none⟩ = some (.slice va v.vals.length vc) := fun i => (HVB.out i.1 ((u.trans n1).trans i.nw)).2
      rcases Fm.idx_cases f.1 v.names with ⟨hx, hno⟩ | ⟨i, hi, hx, he⟩
      · rw [hx] at hix ⊢
        clear HVC HNC HFC hno hx n1 b1 hY
        go_enter Tryz.func99, Tryz.ntmps99
        go_upto_region 1 with fail
        rw [← HY.out]
        clear HY
        go_wp2_with fail
        (with_reducible refine (hix.out).mono ?_)
        rintro _ _ ⟨rfl, rfl⟩
        go_wp2_with fail
        refine wp_region_nw (by kernel_rfl) (by kernel_rfl) ?_
        repeat (go_big_quiet_step ((fail)))
        refine wpQuiet_nil ?_
        intro w3 u3
        replace u3 := later_out u3
        go_wp2_with fail
        go_ret
        exact ⟨rfl, HU.out.trans u3⟩
      · have hiv : i < v.vals.length := by have := RV.out.len; omega
        have hat : v.at_ f.1 = v.vals[i] := by unfold Fm.Vl.at_; rw [hx]; simp [hiv]
        rw [hx] at hix
        rw [hx, hat, decide_eq_true (show (0 : Int) ≤ (i : Int) by omega), Bool.true_and]
        rcases HVC.out with hnil | ⟨b, off, rfl, hb, hc⟩
        · rw [hnil] at hiv; simp at hiv
        obtain ⟨nv', vv', q0, q1, q2, q3, q4⟩ := hc i hiv
        have uw := HN.out.trans (u.trans n1)
        have m0 : ∀ j : Later Y, j.1.cell? ⟨b, off + i * 4, none⟩ = some (.int .i64 (v.vals[i]).kind) := fun j => nw_cellF (uw.trans j.nw) q0
        have m1 : ∀ j : Later Y, j.1.cell? ⟨b, off + i * 4 + 1, none⟩ = some (.int .i64 (v.vals[i]).n) := fun j => nw_cellF (uw.trans j.nw) q1
        have m2 : ∀ j : Later Y, j.1.cell? ⟨b, off + i * 4 + 2, none⟩ = some nv' := fun j => nw_cellF (uw.trans j.nw) q2
        have m3 : ∀ j : Later Y, j.1.cell? ⟨b, off + i * 4 + 3, none⟩ = some vv' := fun j => nw_cellF (uw.trans j.nw) q3
        have hrec := Lib.hid (fun z (uz : Nw Y z) => IH.out f.2 _ v.vals[i] nv' vv' z (RT.out.sub f hf) (RV.out.all _ (List.getElem_mem hiv)) (hsv.nw (n1.trans uz)) (q4.nw (uw.trans uz)))
        obtain ⟨xa, xc, rfl, -⟩ := q4.names
        obtain ⟨ya, yc, rfl, -⟩ := q4.vals
        have hiv1 : (i : Int) < v.vals.length := by omega
        have hi0 : decide ((i : Int) < 0) = false := decide_eq_false (by omega)
        clear HVC HNC HFC hx n1 b1 hY hc q0 q1 q2 q3 q4 he hat uw
        generalize Fm.fits d f.2 v.vals[i] = rb at *
        generalize v.vals[i] = xv at *
        go_enter Tryz.func99, Tryz.ntmps99
        go_upto_region 1 with fail
        rw [← HY.out]
        clear HY
        go_wp2_with fail
        (with_reducible refine (hix.out).mono ?_)
        rintro _ _ ⟨rfl, rfl⟩
        go_wp2_with fail
        refine wp_region_nw (by kernel_rfl) (by kernel_rfl) ?_
        repeat (go_big_quiet_step ((go_at_call 71; exact later_call (hrec.out _ (Later.nw _)))))
        refine wpQuiet_nil ?_
        intro w3 u3
        replace u3 := later_out u3
        go_wp2_with fail
        go_ret
        exact ⟨rfl, HU.out.trans u3⟩
    have hany := containsFunc_f 99 (w.heap.size + 1) (fun args w => by rfl) (fun f => !(decide (0 ≤ Fm.idx f.1 v.names) && Fm.fits d f.2 (v.at_ f.1))) fa fc t.fs W (HFC.out.nw HN.out) (by unfold maxLen; omega) (fun y f sv u hf hsv hl => hclo y f sv u hf hsv hl)
    have Hany := Lib.hid hany
    clear hclo hany hk HVC HNC HFC
    generalize (t.fs.any fun f => !(decide (0 ≤ Fm.idx f.1 v.names) && Fm.fits d f.2 (v.at_ f.1))) = ab at *
    go_wp2_with fail
    (with_reducible refine (Hany.out).mono ?_)
    rintro _ w6 ⟨rfl, u6⟩
    have U6 := Lib.hid (HN.out.trans u6)
    clear u6
    go_wp2_with fail
    go_ret
    exact ⟨by rw [e9.out]; rfl, U6.out⟩
end Go.Proofs.YtjlgmoemnhmgmaaGreatDoor
namespace Go.Proofs.YtjlgmoemnhmgmaaGreatDoor
open Go.RowKit
set_option linter.unusedVariables false
set_option linter.unusedSimpArgs false
attribute [local irreducible] Calls
open Fm (Ty Vl Str nameB rightTy rightVl)

set_option maxRecDepth 100000 in
theorem evright_c (P : Nat → Prop) (nv vv : Value) (v : Vl) (w : World) (h : VlAt P w nv vv v) : Calls Tryz.prog 70 #[.agg #[.int .i64 v.kind, .int .i64 v.n, nv, vv]] w fun e w' => e = .returned (.bool (rightVl 4 v)) ∧ Nw w w' := by
  have n1 := nw_alloc w (.cells #[.int .i64 v.kind, .int .i64 v.n, nv, vv] tVl)
  have hr : Hid (∀ z, Nw w z → Calls Tryz.prog 97 #[.agg #[.int .i64 v.kind, .int .i64 v.n, nv, vv], .int .i64 4] z fun e w' => e = .returned (.bool (rightVl 4 v)) ∧ Nw z w') := fun z u2 => evfits_c P 4 (by decide) nv vv v z (h.nw u2)
  have HU := Lib.hid n1
  obtain ⟨na, nc, rfl, -⟩ := h.names
  obtain ⟨va, vc, rfl, -⟩ := h.vals
  have hr1 := Lib.hid (hr.out _ n1)
  clear hr n1 h
  go_enter Tryz.func70, Tryz.ntmps70
  go_wp2_with fail
  (with_reducible refine (hr1.out).mono ?_)
  rintro _ w2 ⟨rfl, u2⟩
  have U2 := Lib.hid (HU.out.trans u2)
  clear u2
  go_wp2_with fail
  go_ret
  exact ⟨rfl, U2.out⟩
set_option maxRecDepth 100000 in
theorem has_c (P : Nat → Prop) (fv : Value) (t : Ty) (nv vv : Value) (v : Vl) (w : World) (g : Gm w) (ht : TyAt w fv t) (h : VlAt P w nv vv v) : Calls Tryz.prog 49 #[.agg #[.int .i64 t.kind, fv], .agg #[.int .i64 v.kind, .int .i64 v.n, nv, vv]] w fun e w' => e = .returned (.bool (Fm.has t v)) ∧ Nw w w' := by
  have HR := Lib.hid (fun (z : World) (u : Nw w z) => types_right_c fv t z (g.upd u) (ht.nw u))
  have HE := Lib.hid (fun (z : World) (u : Nw w z) => evright_c P nv vv v z (h.nw u))
  have HF := Lib.hid (fun (z : World) (u : Nw w z) (h1 : rightTy 4 t = true) (h2 : rightVl 4 v = true) => stfits_c P 4 t fv v nv vv z h1 h2 (ht.nw u) (h.nw u))
  have hdef : Fm.has t v = (rightTy 4 t && rightVl 4 v && Fm.fits 4 t v) := rfl
  have HD := Lib.hid hdef
  obtain ⟨fa, fc, rfl, -⟩ := ht.cells
  obtain ⟨na, nc, rfl, -⟩ := h.names
  obtain ⟨va, vc, rfl, -⟩ := h.vals
  have n1 := nw_alloc w (.cells #[.int .i64 t.kind, .slice fa t.fs.length fc] tTy)
  have n2 := nw_alloc (w.alloc (.cells #[.int .i64 t.kind, .slice fa t.fs.length fc] tTy)) (.cells #[.int .i64 v.kind, .int .i64 v.n, .slice na v.names.length nc, .slice va v.vals.length vc] tVl)
  have b1 := n2.keep (heap_new w (.cells #[.int .i64 t.kind, .slice fa t.fs.length fc] tTy))
  have b2 := heap_new (w.alloc (.cells #[.int .i64 t.kind, .slice fa t.fs.length fc] tTy)) (.cells #[.int .i64 v.kind, .int .i64 v.n, .slice na v.names.length nc, .slice va v.vals.length vc] tVl)
  rw [World.size_alloc] at b2
  have hN := n1.trans n2
  obtain ⟨W, hW⟩ : ∃ W, W = (w.alloc (.cells #[.int .i64 t.kind, .slice fa t.fs.length fc] tTy)).alloc (.cells #[.int .i64 v.kind, .int .i64 v.n, .slice na v.names.length nc, .slice va v.vals.length vc] tVl) := ⟨_, rfl⟩
  rw [← hW] at hN b1 b2
  have HN := Lib.hid hN
  have HW := Lib.hid hW
  have HC := Lib.hid (fun (y : World) (u : Nw W y) => (show (y.cell? ⟨w.heap.size, 0, none⟩ = some (.int .i64 t.kind) ∧ y.cell? ⟨w.heap.size, 1, none⟩ = some (.slice fa t.fs.length fc)) ∧ y.cell? ⟨w.heap.size + 1, 0, none⟩ = some (.int .i64 v.kind) ∧ y.cell? ⟨w.heap.size + 1, 1, none⟩ = some (.int .i64 v.n) ∧ y.cell? ⟨w.heap.size + 1, 2, none⟩ = some (.slice na v.names.length nc) ∧ y.cell? ⟨w.heap.size + 1, 3, none⟩ = some (.slice va v.vals.length vc) from ⟨⟨by rw [cells_cell (Nw.keep u b1)]; rfl, by rw [cells_cell (Nw.keep u b1)]; rfl⟩, by rw [cells_cell (Nw.keep u b2)]; rfl, by rw [cells_cell (Nw.keep u b2)]; rfl, by rw [cells_cell (Nw.keep u b2)]; rfl, by rw [cells_cell (Nw.keep u b2)]; rfl⟩))
  have hr1 := Lib.hid (HR.out W hN)
  obtain ⟨⟨c0, c1⟩, _⟩ := HC.out W (Upd.refl _ _)
  clear n1 n2 b1 b2 hN hW ht h HR hdef
  go_enter Tryz.func49, Tryz.ntmps49
  go_upto_region 1 with fail
  rw [← HW.out]
  clear HW
  cases h1 : rightTy 4 t with
  | false =>
    rw [h1] at hr1
    have e9 : Hid (Fm.has t v = false) := by show _ = _; rw [HD.out, h1]; rfl
    clear h1 HE HF
    go_wp2_with fail
    (with_reducible refine (hr1.out).mono ?_)
    rintro _ w2 ⟨rfl, u2⟩
    have U2 := Lib.hid u2
    clear u2
    go_wp2_with fail
    go_ret
    exact ⟨by rw [e9.out]; rfl, HN.out.trans U2.out⟩
  | true =>
  rw [h1] at hr1
  go_wp2_with fail
  (with_reducible refine (hr1.out).mono ?_)
  rintro _ w2 ⟨rfl, u2⟩
  have he1 := Lib.hid (HE.out w2 (HN.out.trans u2))
  obtain ⟨_, d0, d1, d2, d3⟩ := HC.out w2 u2
  have U2 := Lib.hid u2
  clear u2 hr1 c0 c1 HE
  cases h2 : rightVl 4 v with
  | false =>
    rw [h2] at he1
    have e9 : Hid (Fm.has t v = false) := by show _ = _; rw [HD.out, h1, h2]; rfl
    clear h1 h2 HF
    go_wp2_with fail
    (with_reducible refine (he1.out).mono ?_)
    rintro _ w3 ⟨rfl, u3⟩
    have U3 := Lib.hid (U2.out.trans u3)
    clear u3
    go_wp2_with fail
    go_ret
    exact ⟨by rw [e9.out]; rfl, HN.out.trans U3.out⟩
  | true =>
  rw [h2] at he1
  have e9 : Hid (Fm.has t v = Fm.fits 4 t v) := by show _ = _; rw [HD.out, h1, h2]; rfl
  go_wp2_with fail
  (with_reducible refine (he1.out).mono ?_)
  rintro _ w3 ⟨rfl, u3⟩
  have hf1 := Lib.hid (HF.out w3 (HN.out.trans (U2.out.trans u3)) h1 h2)
  obtain ⟨⟨x0, x1⟩, y0, y1, y2, y3⟩ := HC.out w3 (U2.out.trans u3)
  have U3 := Lib.hid (U2.out.trans u3)
  clear u3 he1 d0 d1 d2 d3 HF h1 h2
  generalize Fm.fits 4 t v = fb at *
  go_wp2_with fail
  (with_reducible refine (hf1.out).mono ?_)
  rintro _ w4 ⟨rfl, u4⟩
  have U4 := Lib.hid (U3.out.trans u4)
  clear u4
  go_wp2_with fail
  go_ret
  exact ⟨by rw [e9.out]; rfl, HN.out.trans U4.out⟩
/-! ### A value that is being built -/
structure VB (B : Nat) (w : World) (nv vv : Value) (N : List Str) (C : List VC) : Prop where
  on : w.ownsRow B 9 1 nv N.length (N.map sF)
  ov : w.ownsRow B tVl 4 vv C.length (C.map vcL).flatten
  el : ∀ c ∈ C, VlAt (fun k => B ≤ k ∧ nv.ownBlock ≠ some k ∧ vv.ownBlock ≠ some k) w c.nv c.vv c.v
  ln : ∀ s ∈ N, s.length ≤ maxLen
section
variable {B : Nat} {w w' : World} {nv vv : Value} {N : List Str} {C : List VC}
theorem VB.nil (B : Nat) (w : World) : VB B w (.slice none 0 0) (.slice none 0 0) [] [] :=
  ⟨World.ownsRow_nil _ _ _ _, World.ownsRow_nil _ _ _ _, fun c hc => (by cases hc), fun c hc => (by cases hc)⟩
theorem VB.upd {S : Nat → Prop} (h : VB B w nv vv N C) (u : Upd S w w') (hs : ∀ k, B ≤ k → k < w.heap.size → ¬ S k) : VB B w' nv vv N C :=
  ⟨owns_upd' h.on u (fun k e => hs k (h.on.lt k e).1 (h.on.lt k e).2), owns_upd' h.ov u (fun k e => hs k (h.ov.lt k e).1 (h.ov.lt k e).2), fun c hc => ((h.el c hc).mono (Q := fun k => (B ≤ k ∧ nv.ownBlock ≠ some k ∧ vv.ownBlock ≠ some k) ∧ k < w.heap.size) (fun k hk p => ⟨p, hk⟩)).upd u (fun k p => hs k p.1.1 p.2) |>.mono (fun k _ p => p.1), h.ln⟩
theorem VB.nw (h : VB B w nv vv N C) (u : Nw w w') : VB B w' nv vv N C := h.upd u (fun _ _ _ s => s)
theorem VB.ne (h : VB B w nv vv N C) : ∀ k, nv.ownBlock = some k → vv.ownBlock ≠ some k := fun k e e2 => by
  obtain ⟨_, c1, h1⟩ := own_block h.on e
  obtain ⟨_, c2, h2⟩ := own_block h.ov e2
  rw [h1] at h2
  injection h2 with h2
  injection h2 with _ h2
  exact absurd h2 (by decide)
/-- The value is done. -/
theorem VB.done (h : VB B w nv vv N C) {k n : Int} (hk : I64 k) (hn : I64 n) : VlAt (fun k => B ≤ k) w nv vv (.mk k n N (C.map VC.v)) :=
  .mk N C (SlP.of_sl (Sl.of_owns h.on) (fun k h1 _ _ => h1)) (SlSP.of_sls (SlS.of_owns h.ov (by simp) (by omega) (fun y hy => by
    obtain ⟨c, _, rfl⟩ := List.mem_map.1 hy
    rfl)) (fun k h1 _ _ => h1)) hk hn h.ln (fun c hc => (h.el c hc).mono (fun k _ p => p.1))
/-- A name and a value more. -/
theorem VB.push {wa wb wc wd we : World} {nv' vv' xn xv : Value} {s : Str} {v : Vl} (h : VB B w nv vv N C) (hs : s.length ≤ maxLen) (hB : B ≤ w.heap.size) (u0 : Nw w wa)
    (o1 : wb.ownsRow B 9 1 nv' (N.length + 1) (N.map sF ++ [sF s])) (ua : Upd (fun k => nv.ownBlock = some k) wa wb) (hb1 : ∀ k, nv'.ownBlock = some k → nv.ownBlock = some k ∨ wa.heap.size ≤ k)
    (u1 : Nw wb wc) (hx : VlAt (fun k => B ≤ k ∧ nv'.ownBlock ≠ some k ∧ vv.ownBlock ≠ some k) wc xn xv v) (u2 : Nw wc wd)
    (o2 : we.ownsRow B tVl 4 vv' (C.length + 1) ((C.map vcL).flatten ++ vcL ⟨xn, xv, v⟩)) (ue : Upd (fun k => vv.ownBlock = some k) wd we) (hb2 : ∀ k, vv'.ownBlock = some k → vv.ownBlock = some k ∨ wd.heap.size ≤ k) :
    VB B we nv' vv' (N ++ [s]) (C ++ [⟨xn, xv, v⟩]) ∧ Upd (fun k => nv.ownBlock = some k ∨ vv.ownBlock = some k) w we := by
  have hne := h.ne
  have z0 := u0.size
  have za := ua.size
  have z1 := u1.size
  have z2 := u2.size
  have U : Upd (fun k => nv.ownBlock = some k ∨ vv.ownBlock = some k) w we := (((Nw.trans u0 ua).mono (S' := fun k => nv.ownBlock = some k ∨ vv.ownBlock = some k) (fun k _ e => Or.inl e)).nw (u1.trans u2)).trans' ue (fun k _ e => Or.inr e)
  have nb : ∀ k, nv'.ownBlock = some k → vv.ownBlock ≠ some k := fun k e e2 => by
    rcases hb1 k e with e1 | e1
    · exact hne k e1 e2
    · have := (h.ov.lt k e2).2; omega
  refine ⟨⟨?_, ?_, fun c hc => ?_, fun x hx => ?_⟩, U⟩
  · rw [List.length_append, List.map_append]
    exact owns_upd' (owns_upd' o1 (u1.trans u2) (fun _ _ e => e)) ue (fun k e e2 => nb k e e2)
  · rw [List.length_append, List.map_append, List.flatten_append]
    simpa using o2
  · rcases List.mem_append.1 hc with hc | hc
    · have e1 := ((h.el c hc).mono (Q := fun k => (B ≤ k ∧ nv.ownBlock ≠ some k ∧ vv.ownBlock ≠ some k) ∧ k < w.heap.size) (fun k hk p => ⟨p, hk⟩)).upd U (fun k p e => e.elim p.1.2.1 p.1.2.2)
      refine e1.mono (fun k _ p => ⟨p.1.1, fun e => ?_, fun e => ?_⟩)
      · rcases hb1 k e with e2 | e2
        · exact p.1.2.1 e2
        · have := p.2; omega
      · rcases hb2 k e with e2 | e2
        · exact p.1.2.2 e2
        · have := p.2; omega
    · rw [List.mem_singleton.1 hc]
      have e1 := (hx.mono (Q := fun k => (B ≤ k ∧ nv'.ownBlock ≠ some k ∧ vv.ownBlock ≠ some k) ∧ k < wc.heap.size) (fun k hk p => ⟨p, hk⟩)).upd (Nw.trans u2 ue) (fun k p e => p.1.2.2 e)
      refine e1.mono (fun k _ p => ⟨p.1.1, p.1.2.1, fun e => ?_⟩)
      rcases hb2 k e with e2 | e2
      · exact p.1.2.2 e2
      · have := p.2; omega
  · rcases List.mem_append.1 hx with hx | hx
    · exact h.ln x hx
    · rw [List.mem_singleton.1 hx]; exact hs
end
end Go.Proofs.YtjlgmoemnhmgmaaGreatDoor
namespace Go.Proofs.YtjlgmoemnhmgmaaGreatDoor
open Go.RowKit
set_option linter.unusedVariables false
set_option linter.unusedSimpArgs false

theorem step_catC {P : Program} {w : World} {ops : Array Oper} {o : Oper} {a : Act} {K : Act → World → Prop} {Q : Exit → Act → World → Prop} {E : Prop} (hgd : o.guard = none) (s x : Operand) (t : TypeId)
    (ho : o.op = .call { callee := .builtin .append, args := #[s, x], argTypes := #[t, t] })
    (e : TypeId) (z : Value) (size bytes : Nat) (ht : P.underlying t = some (.slice e)) (hinfo : (P.info? e).map (fun i => (i.zero, i.size, i.bytes)) = some (some z, size, bytes)) (hzs : z.cells.size = size) (hsz : 0 < size)
    (B : Nat) (hB : B ≤ w.heap.size) (hg : nG ≤ B) (v : Value) (n : Nat) (xs : List Value) (hs : a.eval s = v) (hown : w.ownsRow B e size v n xs)
    (ad : Addr) (m c : Nat) (news : List Value) (hx : a.eval x = .slice (some ad) m c) (hl : news.length = m * size) (hnews : ∀ j u, news[j]? = some u → w.cell? (ad.add j) = some u) (h1 : ∀ u ∈ news, u.oneCell' = true)
    (hm : 0 < m) (h63 : n + m ≤ maxLen) (hbytes : (n + m) * bytes ≤ 140737488355328)
    (h : ∀ g cap w', w'.ownsRow B e size (.slice (some ⟨g, 0, none⟩) (n + m) cap) (n + m) (xs ++ news) → Upd (fun k => v.ownBlock = some k) w w' → (v.ownBlock = some g ∨ w.heap.size ≤ g) → K (a.put o.dst (.slice (some ⟨g, 0, none⟩) (n + m) cap)) w') :
    if Region.wanted o (yielded ops a.tmps) = true then Oper.wp P o a w K Q else E := by
  obtain ⟨i0, hi, hz0, hz1, hz2⟩ := info_parts hinfo
  refine step_append_lies _ hgd s x t ho B e i0 z size bytes ht hi hz0 hz1 hz2 hzs hsz v n xs hs hown ad m c news hx hl hnews h1 hm h63 hbytes hB w.heap.size rfl fun g cap w' h2 h3 h4 h5 => h g cap w' h2 ((Upd.refl _ _).grown h3 fun k hk => ⟨Or.inl hk, ?_⟩) (h4.imp id (fun e => by omega))
  have := (hown.lt k hk).1; omega
end Go.Proofs.YtjlgmoemnhmgmaaGreatDoor
