/- ladinglaw43: exact, agrees, where they hold. -/
import Derived.Test.YtcelfjoopagmlaaGreatDoorPkFKBack14
namespace Go.Proofs.YtcelfjoopagmlaaGreatDoor
open Go.RowKit Go.MapKept
set_option linter.unusedVariables false
set_option linter.unusedSimpArgs false
attribute [local irreducible] Calls
open Fm (Ty Vl Str nameB rightTy rightVl)

theorem getD_lt {l : List Vl} {i : Nat} (h : i < l.length) : l.getD i Fm.noV = l[i] := by simp [h]
set_option maxHeartbeats 4000000 in
set_option maxRecDepth 100000 in
theorem exact_c (P : Nat → Prop) : ∀ (d : Nat) (t : Ty) (fv : Value) (v : Vl) (nv vv : Value) (w : World), Fm.exactP d t v → TyAt w fv t → VlAt P w nv vv v →
    Calls Tryz.prog 24 #[.agg #[.int .i64 t.kind, fv], .agg #[.int .i64 v.kind, .int .i64 v.n, nv, vv]] w fun e w' => e = .returned (.bool true) ∧ Nw w w' := by
  intro d
  induction d with
  | zero => intro t fv v nv vv w h; exact h.elim
  | succ d ih =>
    intro t fv v nv vv w hx ht hva
    have IH := Lib.hid ih
    obtain ⟨hxn, hxv, hxs⟩ := hx
    obtain ⟨fa, fc, rfl, hfl, hfc⟩ := ht.cells
    obtain ⟨na, nc, rfl, hnl, hnc⟩ := hva.names
    obtain ⟨va, vc, rfl, hvl, hvc⟩ := hva.vals
    rw [hxn, hxv]
    have HFC : Hid (FdC w fa t.fs) := hfc
    have HVC : Hid (VsC P w va v.vals) := hvc
    have n1 := nw_alloc w (.cells #[.int .i64 t.kind, .slice fa t.fs.length fc] tTy)
    have n2 := nw_alloc (w.alloc (.cells #[.int .i64 t.kind, .slice fa t.fs.length fc] tTy)) (.cells #[.int .i64 v.kind, .int .i64 v.n, .slice na t.fs.length nc, .slice va t.fs.length vc] tVl)
    have b1 := n2.keep (heap_new w (.cells #[.int .i64 t.kind, .slice fa t.fs.length fc] tTy))
    have b2 := heap_new (w.alloc (.cells #[.int .i64 t.kind, .slice fa t.fs.length fc] tTy)) (.cells #[.int .i64 v.kind, .int .i64 v.n, .slice na t.fs.length nc, .slice va t.fs.length vc] tVl)
    rw [World.size_alloc] at b2
    have hN := n1.trans n2
    obtain ⟨W, hW⟩ : ∃ W, W = (w.alloc (.cells #[.int .i64 t.kind, .slice fa t.fs.length fc] tTy)).alloc (.cells #[.int .i64 v.kind, .int .i64 v.n, .slice na t.fs.length nc, .slice va t.fs.length vc] tVl) := ⟨_, rfl⟩
    rw [← hW] at hN b1 b2
    have HN := Lib.hid hN
    have HW := Lib.hid hW
    have HC : Hid (∀ y, Nw W y → y.cell? ⟨w.heap.size, 1, none⟩ = some (.slice fa t.fs.length fc) ∧ y.cell? ⟨w.heap.size + 1, 2, none⟩ = some (.slice na t.fs.length nc) ∧ y.cell? ⟨w.heap.size + 1, 3, none⟩ = some (.slice va t.fs.length vc)) := fun y u => ⟨by rw [cells_cell (Nw.keep u b1)]; rfl, by rw [cells_cell (Nw.keep u b2)]; rfl, by rw [cells_cell (Nw.keep u b2)]; rfl⟩
    obtain ⟨c1, c2, c3⟩ := HC.out W (Upd.refl _ _)
    unfold maxLen at hfl
    have hfl1 : (t.fs.length : Int) ≤ 9223372036854775807 := by omega
    have HXS := Lib.hid hxs
    have HXV := Lib.hid hxv
    clear ih ht hva hfc hnc hvc n1 n2 b1 b2 hN hW hxs hxn hxv hnl hvl
    go_enter Tryz.func24, Tryz.ntmps24
    go_upto_region 1 with fail
    rw [← HW.out]
    clear HW
    go_wp2_with fail
    go_loopw [5] (fun iv wr => ∃ i : Nat, i ≤ t.fs.length ∧ iv = .int .i64 (i : Int) ∧ Hid (Nw W wr)) (fun iv _ => t.fs.length - (intOf iv).toNat)
    case atStart => exact ⟨0, Nat.zero_le _, rfl, Upd.refl _ _⟩
    case round =>
      obtain ⟨i, hi, rfl, hw⟩ := hrel
      clear c1 c2 c3
      by_cases hlt : i < t.fs.length
      · have hlt1 : (i : Int) < t.fs.length := by omega
        have hi0 : decide ((i : Int) < 0) = false := decide_eq_false (by omega)
        have hi9 : (i : Int) ≤ 9223372036854775806 := by omega
        rcases HFC.out with hnil | ⟨b, off, rfl, hb, hcell⟩
        · rw [hnil] at hlt; simp at hlt
        have hiv : i < v.vals.length := by rw [HXV.out]; exact hlt
        rcases HVC.out with hnil | ⟨b', off', rfl, hb', hc'⟩
        · rw [hnil] at hiv; simp at hiv
        obtain ⟨sv, p0, p1, p2, hty, hsl⟩ := hcell i hlt
        obtain ⟨sa, sc, hsv, -⟩ := hty.cells
        subst hsv
        obtain ⟨nv', vv', q0, q1, q2, q3, q4⟩ := hc' i hiv
        have hrec : Hid (∀ z, Nw wr z → _) := fun z (uz : Nw wr z) => IH.out _ _ v.vals[i] nv' vv' z (by have := HXS.out i hlt; rw [getD_lt hiv] at this; exact this) (hty.nw ((HN.out.trans hw.out).trans uz)) (q4.nw ((HN.out.trans hw.out).trans uz))
        obtain ⟨xa, xc, hxa, -⟩ := q4.names
        obtain ⟨ya, yc, hya, -⟩ := q4.vals
        subst hxa hya
        obtain ⟨c1, c2, c3⟩ := HC.out wr hw.out
        have l1 : ∀ j : Later wr, j.1.cell? ⟨w.heap.size, 1, none⟩ = some (.slice (some ⟨b, off, none⟩) t.fs.length fc) := fun j => (HC.out j.1 (hw.out.trans j.nw)).1
        have l2 : ∀ j : Later wr, j.1.cell? ⟨w.heap.size + 1, 3, none⟩ = some (.slice (some ⟨b', off', none⟩) t.fs.length vc) := fun j => (HC.out j.1 (hw.out.trans j.nw)).2.2
        have l4 : ∀ j : Later wr, j.1.cell? ⟨b, off + i * 3 + 1, none⟩ = some (.int .i64 (t.fs[i]).2.kind) := fun j => nw_cellF ((HN.out.trans hw.out).trans j.nw) p1
        have l5 : ∀ j : Later wr, j.1.cell? ⟨b, off + i * 3 + 2, none⟩ = some (.slice sa (t.fs[i]).2.fs.length sc) := fun j => nw_cellF ((HN.out.trans hw.out).trans j.nw) p2
        have m0 : ∀ j : Later wr, j.1.cell? ⟨b', off' + i * 4, none⟩ = some (.int .i64 (v.vals[i]).kind) := fun j => nw_cellF ((HN.out.trans hw.out).trans j.nw) q0
        have m1 : ∀ j : Later wr, j.1.cell? ⟨b', off' + i * 4 + 1, none⟩ = some (.int .i64 (v.vals[i]).n) := fun j => nw_cellF ((HN.out.trans hw.out).trans j.nw) q1
        have m2 : ∀ j : Later wr, j.1.cell? ⟨b', off' + i * 4 + 2, none⟩ = some (.slice xa (v.vals[i]).names.length xc) := fun j => nw_cellF ((HN.out.trans hw.out).trans j.nw) q2
        have m3 : ∀ j : Later wr, j.1.cell? ⟨b', off' + i * 4 + 3, none⟩ = some (.slice ya (v.vals[i]).vals.length yc) := fun j => nw_cellF ((HN.out.trans hw.out).trans j.nw) q3
        clear hcell hc' p0 p1 p2 q0 q1 q2 q3 q4 hty hsl
        generalize v.vals[i] = xv at *
        generalize t.fs[i] = fld at *
        obtain ⟨fn, ft⟩ := fld
        dsimp only at *
        go_wp2_with fail
        refine wp_region_nw (by kernel_rfl) (by kernel_rfl) ?_
        repeat (go_big_quiet_step ((go_at_call 24; exact later_call (hrec.out _ (Later.nw _)))))
        refine wpQuiet_nil ?_
        intro w3 u3
        replace u3 := later_out u3
        have hw3 := Lib.hid (hw.out.trans u3)
        clear u3 l1 l2 l4 l5 m0 m1 m2 m3
        go_wp2_with fail
        go_roundw
        case rel => exact ⟨i + 1, by omega, by go_num, hw3.out⟩
        case measure => simp [intOf]; omega
      · obtain rfl : i = t.fs.length := by omega
        obtain ⟨c1, c2, c3⟩ := HC.out wr hw.out
        go_wp2_with fail
        go_ret
        exact ⟨rfl, HN.out.trans hw.out⟩
end Go.Proofs.YtcelfjoopagmlaaGreatDoor
