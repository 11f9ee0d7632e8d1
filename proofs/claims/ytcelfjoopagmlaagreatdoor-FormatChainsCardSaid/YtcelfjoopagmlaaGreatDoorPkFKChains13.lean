/- A value has a type. -/
import Derived.Test.YtcelfjoopagmlaaGreatDoorPkFKChains12
namespace Go.Proofs.YtcelfjoopagmlaaGreatDoor
open Go.RowKit
set_option linter.unusedVariables false
set_option linter.unusedSimpArgs false
attribute [local irreducible] Calls
open Fm (Ty Vl Str nameB rightTy rightVl)

theorem StrC.nw {w w' : World} {a : Option Addr} {l : List Str} (h : StrC w a l) (u : Nw w w') : StrC w' a l :=
  h.imp id (fun ⟨b, off, e, hb, hc⟩ => ⟨b, off, e, Nat.lt_of_lt_of_le hb u.size, fun i hi => ⟨nw_cellF u (hc i hi).1, (hc i hi).2⟩⟩)
theorem VsC.nw {P : Nat → Prop} {w w' : World} {a : Option Addr} {l : List Vl} (h : VsC P w a l) (u : Nw w w') : VsC P w' a l :=
  h.imp id (fun ⟨b, off, e, hb, hc⟩ => ⟨b, off, e, Nat.lt_of_lt_of_le hb u.size, fun i hi => by
    obtain ⟨nv', vv', q0, q1, q2, q3, q4⟩ := hc i hi
    exact ⟨nv', vv', nw_cellF u q0, nw_cellF u q1, nw_cellF u q2, nw_cellF u q3, q4.nw u⟩⟩)
theorem fits_eq {d : Nat} {t : Ty} {v : Vl} (hk : t.kind = v.kind) : Fm.fits (d + 1) t v = !(t.fs.any fun f => !(decide (0 ≤ Fm.idx f.1 v.names) && Fm.fits d f.2 (v.at_ f.1))) := by
  show (decide (t.kind = v.kind) && t.fs.all (fun f => decide (0 ≤ Fm.idx f.1 v.names) && Fm.fits d f.2 (v.at_ f.1))) = _
  rw [decide_eq_true hk, Bool.true_and, Bool.eq_iff_iff]
  simp
set_option maxHeartbeats 4000000 in
set_option maxRecDepth 100000 in
theorem stfits_c (P : Nat → Prop) : ∀ (d : Nat) (t : Ty) (fv : Value) (v : Vl) (nv vv : Value) (w : World), rightTy d t = true → rightVl d v = true → TyAt w fv t → VlAt P w nv vv v →
    Calls Tryz.prog 41 #[.agg #[.int .i64 t.kind, fv], .agg #[.int .i64 v.kind, .int .i64 v.n, nv, vv]] w fun e w' => e = .returned (.bool (Fm.fits d t v)) ∧ Nw w w' := by
  intro d
  induction d with
  | zero => intro t fv v nv vv w h; cases h
  | succ d ih =>
    intro t fv v nv vv w hr hv ht hva
    have IH := Lib.hid ih
    have RT := Lib.hid (Fm.rt_iff.1 hr)
    have RV := Lib.hid (Fm.rv_iff.1 hv)
    obtain ⟨fa, fc, rfl, hfl, hfc⟩ := ht.cells
    obtain ⟨na, nc, rfl, hnl, hnc⟩ := hva.names
    obtain ⟨va, vc, rfl, hvl, hvc⟩ := hva.vals
    have HFC : Hid (FdC w fa t.fs) := hfc
    have HNC : Hid (StrC w na v.names) := hnc
    have HVC : Hid (VsC P w va v.vals) := hvc
    have n1 := nw_alloc w (.cells #[.int .i64 t.kind, .slice fa t.fs.length fc] tTy)
    have n2 := nw_alloc (w.alloc (.cells #[.int .i64 t.kind, .slice fa t.fs.length fc] tTy)) (.cells #[.int .i64 v.kind, .int .i64 v.n, .slice na v.names.length nc, .slice va v.vals.length vc] tVl)
    have b1 := n2.keep (heap_new w (.cells #[.int .i64 t.kind, .slice fa t.fs.length fc] tTy))
    have b2 := heap_new (w.alloc (.cells #[.int .i64 t.kind, .slice fa t.fs.length fc] tTy)) (.cells #[.int .i64 v.kind, .int .i64 v.n, .slice na v.names.length nc, .slice va v.vals.length vc] tVl)
    rw [World.size_alloc] at b2
    have hN := n1.trans n2
    obtain ⟨W, hW⟩ : ∃ W, W = (w.alloc (.cells #[.int .i64 t.kind, .slice fa t.fs.length fc] tTy)).alloc (.cells #[.int .i64 v.kind, .int .i64 v.n, .slice na v.names.length nc, .slice va v.vals.length vc] tVl) := ⟨_, rfl⟩
    rw [← hW] at hN b1 b2
    have HN := Lib.hid hN
    have HW := Lib.hid hW
    have c0 : W.cell? ⟨w.heap.size, 0, none⟩ = some (.int .i64 t.kind) := by rw [cells_cell b1]; rfl
    have c1 : W.cell? ⟨w.heap.size, 1, none⟩ = some (.slice fa t.fs.length fc) := by rw [cells_cell b1]; rfl
    have c2 : W.cell? ⟨w.heap.size + 1, 0, none⟩ = some (.int .i64 v.kind) := by rw [cells_cell b2]; rfl
    have HVB : Hid (∀ y, Nw W y → y.cell? ⟨w.heap.size + 1, 2, none⟩ = some (.slice na v.names.length nc) ∧ y.cell? ⟨w.heap.size + 1, 3, none⟩ = some (.slice va v.vals.length vc)) := fun y u => ⟨by rw [cells_cell (Nw.keep u b2)]; rfl, by rw [cells_cell (Nw.keep u b2)]; rfl⟩
    unfold maxLen at hfl
    have hfl1 : (t.fs.length : Int) ≤ 9223372036854775807 := by omega
    have HNL := Lib.hid (And.intro hnl hvl)
    clear ih hr hv ht hva hfc hnc hvc n1 n2 b1 b2 hN hW hnl hvl
    go_enter Tryz.func41, Tryz.ntmps41
    go_upto_region 1 with fail
    rw [← HW.out]
    clear HW
    by_cases hk : t.kind = v.kind
    rotate_left
    · have e0 : (t.kind == v.kind) = false := by simp [hk]
      have e9 : Hid (Fm.fits (d + 1) t v = false) := by
        show _ = _
        cases hc : Fm.fits (d + 1) t v with
        | false => rfl
        | true => exact absurd (Fm.fit_iff.1 hc).k hk
      clear hk HVC HNC HFC
      go_wp2_with fail
      go_ret
      exact ⟨by rw [e9.out]; rfl, HN.out⟩
    have e0 : (t.kind == v.kind) = true := by simp [hk]
    have e9 := Lib.hid (fits_eq (d := d) hk)
    have hclo : ∀ (y : World) (f : Str × Ty) (sv : Value), Nw W y → f ∈ t.fs → TyAt y sv f.2 → f.1.length ≤ maxLen → Calls Tryz.prog 72 #[.agg #[.string ⟨f.1.toArray⟩, .int .i64 f.2.kind, sv], .pointer (some ⟨w.heap.size + 1, 0, none⟩)] y fun e w' => e = .returned (.bool (!(decide (0 ≤ Fm.idx f.1 v.names) && Fm.fits d f.2 (v.at_ f.1)))) ∧ Nw y w' := fun y f sv u hf hsv hfl => by
      obtain ⟨sa, sc, rfl, -⟩ := hsv.cells
      have n1 := nw_alloc y (.cells #[.string ⟨f.1.toArray⟩, .int .i64 f.2.kind, .slice sa f.2.fs.length sc] tFd)
      have b1 := heap_new y (.cells #[.string ⟨f.1.toArray⟩, .int .i64 f.2.kind, .slice sa f.2.fs.length sc] tFd)
      obtain ⟨Y, hY⟩ : ∃ Y, Y = y.alloc (.cells #[.string ⟨f.1.toArray⟩, .int .i64 f.2.kind, .slice sa f.2.fs.length sc] tFd) := ⟨_, rfl⟩
      rw [← hY] at n1 b1
      have HY := Lib.hid hY
      obtain ⟨k2, k3⟩ := HVB.out Y (u.trans n1)
      have k0 : Y.cell? ⟨y.heap.size, 0, none⟩ = some (.string ⟨f.1.toArray⟩) := by rw [cells_cell b1]; rfl
      have hix := Lib.hid (index_s na nc v.names f.1 Y (HNC.out.nw (HN.out.trans (u.trans n1))) HNL.out.1)
      have HU := Lib.hid n1
      have l1 : ∀ i : Later Y, i.1.cell? ⟨y.heap.size, 1, none⟩ = some (.int .i64 f.2.kind) := fun i => by rw [cells_cell (Nw.keep i.nw b1)]; rfl
      have l2 : ∀ i : Later Y, i.1.cell? ⟨y.heap.size, 2, none⟩ = some (.slice sa f.2.fs.length sc) := fun i => by rw [cells_cell (Nw.keep i.nw b1)]; rfl
      have l3 : ∀ i : Later Y, i.1.cell? ⟨w.heap.size + 1, 3, none⟩ = some (.slice va v.vals.length vc) := fun i => (HVB.out i.1 ((u.trans n1).trans i.nw)).2
      rcases Fm.idx_cases f.1 v.names with ⟨hx, hno⟩ | ⟨i, hi, hx, he⟩
      · rw [hx] at hix ⊢
        clear HVC HNC HFC hno hx n1 b1 hY
        go_enter Tryz.func72, Tryz.ntmps72
        go_upto_region 1 with fail
        rw [← HY.out]
        clear HY
        go_wp2_with fail
        (with_reducible refine (hix.out).mono ?_)
        rintro _ _ ⟨rfl, rfl⟩
        go_wp2_with fail
        refine wp_region_nw (by kernel_rfl) (by kernel_rfl) ?_
        repeat (go_big_quiet_step ((fail)))
        refine wpQuiet_nil ?_
        intro w3 u3
        replace u3 := later_out u3
        go_wp2_with fail
        go_ret
        exact ⟨rfl, HU.out.trans u3⟩
      · have hiv : i < v.vals.length := by have := RV.out.len; omega
        have hat : v.at_ f.1 = v.vals[i] := by unfold Fm.Vl.at_; rw [hx]; simp [hiv]
        rw [hx] at hix
        rw [hx, hat, decide_eq_true (show (0 : Int) ≤ (i : Int) by omega), Bool.true_and]
        rcases HVC.out with hnil | ⟨b, off, rfl, hb, hc⟩
        · rw [hnil] at hiv; simp at hiv
        obtain ⟨nv', vv', q0, q1, q2, q3, q4⟩ := hc i hiv
        have uw := HN.out.trans (u.trans n1)
        have m0 : ∀ j : Later Y, j.1.cell? ⟨b, off + i * 4, none⟩ = some (.int .i64 (v.vals[i]).kind) := fun j => nw_cellF (uw.trans j.nw) q0
        have m1 : ∀ j : Later Y, j.1.cell? ⟨b, off + i * 4 + 1, none⟩ = some (.int .i64 (v.vals[i]).n) := fun j => nw_cellF (uw.trans j.nw) q1
        have m2 : ∀ j : Later Y, j.1.cell? ⟨b, off + i * 4 + 2, none⟩ = some nv' := fun j => nw_cellF (uw.trans j.nw) q2
        have m3 : ∀ j : Later Y, j.1.cell? ⟨b, off + i * 4 + 3, none⟩ = some vv' := fun j => nw_cellF (uw.trans j.nw) q3
        have hrec := Lib.hid (fun z (uz : Nw Y z) => IH.out f.2 _ v.vals[i] nv' vv' z (RT.out.sub f hf) (RV.out.all _ (List.getElem_mem hiv)) (hsv.nw (n1.trans uz)) (q4.nw (uw.trans uz)))
        obtain ⟨xa, xc, rfl, -⟩ := q4.names
        obtain ⟨ya, yc, rfl, -⟩ := q4.vals
        have hiv1 : (i : Int) < v.vals.length := by omega
        have hi0 : decide ((i : Int) < 0) = false := decide_eq_false (by omega)
        clear HVC HNC HFC hx n1 b1 hY hc q0 q1 q2 q3 q4 he hat uw
        generalize Fm.fits d f.2 v.vals[i] = rb at *
        generalize v.vals[i] = xv at *
        go_enter Tryz.func72, Tryz.ntmps72
        go_upto_region 1 with fail
        rw [← HY.out]
        clear HY
        go_wp2_with fail
        (with_reducible refine (hix.out).mono ?_)
        rintro _ _ ⟨rfl, rfl⟩
        go_wp2_with fail
        refine wp_region_nw (by kernel_rfl) (by kernel_rfl) ?_
        repeat (go_big_quiet_step ((go_at_call 41; exact later_call (hrec.out _ (Later.nw _)))))
        refine wpQuiet_nil ?_
        intro w3 u3
        replace u3 := later_out u3
        go_wp2_with fail
        go_ret
        exact ⟨rfl, HU.out.trans u3⟩
    have hany := containsFunc_f 72 (w.heap.size + 1) (fun args w => by rfl) (fun f => !(decide (0 ≤ Fm.idx f.1 v.names) && Fm.fits d f.2 (v.at_ f.1))) fa fc t.fs W (HFC.out.nw HN.out) (by unfold maxLen; omega) (fun y f sv u hf hsv hl => hclo y f sv u hf hsv hl)
    have Hany := Lib.hid hany
    clear hclo hany hk HVC HNC HFC
    generalize (t.fs.any fun f => !(decide (0 ≤ Fm.idx f.1 v.names) && Fm.fits d f.2 (v.at_ f.1))) = ab at *
    go_wp2_with fail
    (with_reducible refine (Hany.out).mono ?_)
    rintro _ w6 ⟨rfl, u6⟩
    have U6 := Lib.hid (HN.out.trans u6)
    clear u6
    go_wp2_with fail
    go_ret
    exact ⟨by rw [e9.out]; rfl, U6.out⟩
end Go.Proofs.YtcelfjoopagmlaaGreatDoor
