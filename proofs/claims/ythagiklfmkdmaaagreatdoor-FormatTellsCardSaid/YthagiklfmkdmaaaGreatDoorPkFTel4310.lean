/- ladinglaw43: parts, typed, values: numbers, whichever. -/
import Derived.Test.YthagiklfmkdmaaaGreatDoorPkFTel432
namespace Go.Proofs.YthagiklfmkdmaaaGreatDoor
open Go.RowKit Go.MapKept
set_option linter.unusedVariables false
set_option linter.unusedSimpArgs false
attribute [local irreducible] Calls
open Fm (Ty Vl Str nameB rightTy rightVl)

set_option maxHeartbeats 4000000 in
set_option maxRecDepth 100000 in
theorem parts_c : ∀ (d : Nat), d ≤ 6 → ∀ (t : Ty) (fv : Value) (m : Int) (w : World), TyAt w fv t →
    Calls Tryz.prog 46 #[.agg #[.int .i64 t.kind, fv], .int .i64 m, .int .i64 (d : Int)] w fun e w' => ∃ r : Int, e = .returned (.int .i64 r) ∧ Nw w w' := by
  intro d
  induction d with
  | zero =>
    intro _ t fv m w ht
    obtain ⟨fa, fc, rfl, -, -⟩ := ht.cells
    have HN := Lib.hid (nw_alloc w (.cells #[.int .i64 t.kind, .slice fa t.fs.length fc] tTy))
    change Calls Tryz.prog 46 #[.agg #[.int .i64 t.kind, .slice fa t.fs.length fc], .int .i64 m, .int .i64 0] w _
    go_enter Tryz.func46, Tryz.ntmps46
    go_wp2_with fail
    go_ret
    first | exact ⟨_, rfl, HN.out⟩ | exact ⟨⟨_, rfl⟩, HN.out⟩
  | succ d ih =>
    intro hd t fv m w ht
    have IH := Lib.hid (ih (by omega))
    obtain ⟨fa, fc, rfl, hfl, hfc⟩ := ht.cells
    have HFC : Hid (FdC w fa t.fs) := hfc
    have n1 := nw_alloc w (.cells #[.int .i64 t.kind, .slice fa t.fs.length fc] tTy)
    have b1 := heap_new w (.cells #[.int .i64 t.kind, .slice fa t.fs.length fc] tTy)
    obtain ⟨W, hW⟩ : ∃ W, W = w.alloc (.cells #[.int .i64 t.kind, .slice fa t.fs.length fc] tTy) := ⟨_, rfl⟩
    rw [← hW] at n1 b1
    have HW := Lib.hid hW
    have HN := Lib.hid n1
    have HC : Hid (∀ y, Nw W y → y.cell? ⟨w.heap.size, 1, none⟩ = some (.slice fa t.fs.length fc)) := fun y u => by rw [cells_cell (Nw.keep u b1)]; rfl
    have x1 := HC.out W (Upd.refl _ _)
    have hl0 : decide (((d + 1 : Nat) : Int) < 1) = false := decide_eq_false (by omega)
    have hl1 : decide ((d : Int) + 1 < 1) = false := decide_eq_false (by omega)
    have hd6 : (d : Int) ≤ 6 := by omega
    have hd0 : (0 : Int) ≤ (d : Int) := by omega
    have hcast : ((d + 1 : Nat) : Int) = (d : Int) + 1 := by omega
    rw [hcast]
    clear ih ht hfc n1 b1 hW
    go_enter Tryz.func46, Tryz.ntmps46
    go_upto_region 1 with fail
    rw [← HW.out]
    clear HW
    by_cases h12 : 12 < t.fs.length
    · have h12' : (12 : Int) < t.fs.length := by omega
      go_wp2_with fail
      go_ret
      first | exact ⟨_, rfl, HN.out⟩ | exact ⟨⟨_, rfl⟩, HN.out⟩
    have h12' : (t.fs.length : Int) ≤ 12 := by omega
    go_wp2_with fail
    go_loopw [7, 8] (fun nv iv wr => ∃ (x : Int) (i : Nat), i ≤ t.fs.length ∧ nv = .int .i64 x ∧ iv = .int .i64 (i : Int) ∧ Hid (Nw W wr)) (fun _ iv _ => t.fs.length - (intOf iv).toNat)
    case atStart => exact ⟨1, 0, Nat.zero_le _, rfl, rfl, Upd.refl _ _⟩
    case round =>
      obtain ⟨x, i, hi, rfl, rfl, hw⟩ := hrel
      clear x1
      have x1 := HC.out wr hw.out
      by_cases hlt : i < t.fs.length
      · have hlt1 : (i : Int) < t.fs.length := by omega
        have hi8 : (i : Int) ≤ 12 := by omega
        by_cases hxm : x ≤ m
        · rcases HFC.out with hnil | ⟨b, off, rfl, hb, hcell⟩
          · rw [hnil] at hlt; simp at hlt
          obtain ⟨sv, p0, p1, p2, hty, hsl⟩ := hcell i hlt
          obtain ⟨sa, sc, hsv, -⟩ := hty.cells
          subst hsv
          have y0 := nw_cellF (HN.out.trans hw.out) p0
          have y1 := nw_cellF (HN.out.trans hw.out) p1
          have y2 := nw_cellF (HN.out.trans hw.out) p2
          have HTY := Lib.hid (hty.nw (HN.out.trans hw.out))
          clear hcell p0 p1 p2 hty
          generalize (t.fs[i]).1 = s at *
          generalize (t.fs[i]).2 = ft at *
          have hcall := Lib.hid (fun m' => IH.out ft _ m' wr HTY.out)
          by_cases h60 : 60 < s.length
          · have h60' : (60 : Int) < s.length := by omega
            go_wp2_with fail
            go_ret
            first | exact ⟨_, rfl, HN.out.trans hw.out⟩ | exact ⟨⟨_, rfl⟩, HN.out.trans hw.out⟩
          · have h60' : (s.length : Int) ≤ 60 := by omega
            go_wp2_with fail
            (with_reducible refine (hcall.out _).mono ?_)
            rintro _ w3 ⟨r, rfl, u3⟩
            have hw3 := Lib.hid (hw.out.trans u3)
            clear u3
            go_wp2_with fail
            go_roundw
            case rel => exact ⟨_, i + 1, by omega, rfl, by go_num, hw3.out⟩
            case measure => simp [intOf]; omega
        · have hxm' : m < x := by omega
          go_wp2_with fail
          go_ret
          first | exact ⟨_, rfl, HN.out.trans hw.out⟩ | exact ⟨⟨_, rfl⟩, HN.out.trans hw.out⟩
      · obtain rfl : i = t.fs.length := by omega
        go_wp2_with fail
        go_ret
        first | exact ⟨_, rfl, HN.out.trans hw.out⟩ | exact ⟨⟨_, rfl⟩, HN.out.trans hw.out⟩
/-- typed: of any list of types, some Bool. -/
theorem typed_c (lo hi : Nat) (v : Value) (C : List (Value × Ty)) (w : World) (hv : SlS 2 lo hi w v (C.map fun c => [.int .i64 c.2.kind, c.1])) (hc : ∀ c ∈ C, TyAt w c.1 c.2) (hl : C.length ≤ 10) :
    Calls Tryz.prog 10 #[v] w fun e w' => ∃ b : Bool, e = .returned (.bool b) ∧ Nw w w' := by
  obtain ⟨a, cap, rfl, hm, hcl⟩ := hv.open_
  rw [List.length_map] at hm ⊢
  have HCL := Lib.hid hcl
  have HC := Lib.hid hc
  have hl1 : (C.length : Int) ≤ 10 := by omega
  clear hcl hc hv
  go_enter Tryz.func10, Tryz.ntmps10
  go_wp2_with fail
  go_loopw [3] (fun iv wr => ∃ i : Nat, i ≤ C.length ∧ iv = .int .i64 (i : Int) ∧ Hid (Nw w wr)) (fun iv _ => C.length - (intOf iv).toNat)
  case atStart => exact ⟨0, Nat.zero_le _, rfl, Upd.refl _ _⟩
  case round =>
    obtain ⟨i, hi, rfl, hw⟩ := hrel
    by_cases hlt : i < C.length
    · have hlt1 : (i : Int) < C.length := by omega
      have hi8 : (i : Int) ≤ 12 := by omega
      rcases HCL.out with hnil | ⟨b, off, rfl, _, _, hb, hcell⟩
      · rw [List.map_eq_nil_iff] at hnil; rw [hnil] at hlt; simp at hlt
      have hci := (hcell i (by simpa using hlt)).2
      simp only [List.getElem_map] at hci
      have p0 := hci 0 (by omega)
      have p1 := hci 1 (by omega)
      have hty := HC.out _ (List.getElem_mem hlt)
      generalize C[i] = c at *
      obtain ⟨sv, ft⟩ := c
      dsimp only at *
      obtain ⟨sa, sc, hsv, -⟩ := hty.cells
      subst hsv
      have y0 : wr.cell? ⟨b, off + i * 2, none⟩ = some (.int .i64 ft.kind) := nw_cellF hw.out p0
      have y1 : wr.cell? ⟨b, off + i * 2 + 1, none⟩ = some (.slice sa ft.fs.length sc) := nw_cellF hw.out p1
      have hcall : Hid (Calls Tryz.prog 46 #[.agg #[.int .i64 ft.kind, .slice sa ft.fs.length sc], .int .i64 40, .int .i64 6] wr fun e w' => ∃ r : Int, e = .returned (.int .i64 r) ∧ Nw wr w') := parts_c 6 (Nat.le_refl _) ft _ 40 wr (hty.nw hw.out)
      clear hci hcell p0 p1 hty
      go_wp2_with fail
      (with_reducible refine (hcall.out).mono ?_)
      rintro _ w3 ⟨r, rfl, u3⟩
      have hw3 := Lib.hid (hw.out.trans u3)
      clear u3
      by_cases hr : 40 < r
      · go_wp2_with fail
        go_ret
        first | exact ⟨_, rfl, hw3.out⟩ | exact ⟨⟨_, rfl⟩, hw3.out⟩
      · have hr' : r ≤ 40 := by omega
        go_wp2_with fail
        go_roundw
        case rel => exact ⟨i + 1, by omega, by go_num, hw3.out⟩
        case measure => simp [intOf]; omega
    · obtain rfl : i = C.length := by omega
      go_wp2_with fail
      go_ret
      first | exact ⟨_, rfl, hw.out⟩ | exact ⟨⟨_, rfl⟩, hw.out⟩
set_option maxHeartbeats 4000000 in
set_option maxRecDepth 100000 in
theorem values_c (P : Nat → Prop) : ∀ (d : Nat), d ≤ 6 → ∀ (v : Vl) (nv vv : Value) (m : Int) (w : World), VlAt P w nv vv v →
    Calls Tryz.prog 11 #[.agg #[.int .i64 v.kind, .int .i64 v.n, nv, vv], .int .i64 m, .int .i64 (d : Int)] w fun e w' => ∃ r : Int, e = .returned (.int .i64 r) ∧ Nw w w' := by
  intro d
  induction d with
  | zero =>
    intro _ v nv vv m w hv
    obtain ⟨na, nc, rfl, -, -⟩ := hv.names
    obtain ⟨va, vc, rfl, -, -⟩ := hv.vals
    have HN := Lib.hid (nw_alloc w (.cells #[.int .i64 v.kind, .int .i64 v.n, .slice na v.names.length nc, .slice va v.vals.length vc] tVl))
    change Calls Tryz.prog 11 #[.agg #[.int .i64 v.kind, .int .i64 v.n, .slice na v.names.length nc, .slice va v.vals.length vc], .int .i64 m, .int .i64 0] w _
    go_enter Tryz.func11, Tryz.ntmps11
    go_wp2_with fail
    go_ret
    first | exact ⟨_, rfl, HN.out⟩ | exact ⟨⟨_, rfl⟩, HN.out⟩
  | succ d ih =>
    intro hd v nv vv m w hv
    have IH := Lib.hid (ih (by omega))
    obtain ⟨na, nc, rfl, hnl, hnc⟩ := hv.names
    obtain ⟨va, vc, rfl, hvl, hvc⟩ := hv.vals
    have HNC : Hid (StrC w na v.names) := hnc
    have HVC : Hid (VsC P w va v.vals) := hvc
    have n1 := nw_alloc w (.cells #[.int .i64 v.kind, .int .i64 v.n, .slice na v.names.length nc, .slice va v.vals.length vc] tVl)
    have b1 := heap_new w (.cells #[.int .i64 v.kind, .int .i64 v.n, .slice na v.names.length nc, .slice va v.vals.length vc] tVl)
    obtain ⟨W, hW⟩ : ∃ W, W = w.alloc (.cells #[.int .i64 v.kind, .int .i64 v.n, .slice na v.names.length nc, .slice va v.vals.length vc] tVl) := ⟨_, rfl⟩
    rw [← hW] at n1 b1
    have HW := Lib.hid hW
    have HN := Lib.hid n1
    have HC : Hid (∀ y, Nw W y → y.cell? ⟨w.heap.size, 2, none⟩ = some (.slice na v.names.length nc) ∧ y.cell? ⟨w.heap.size, 3, none⟩ = some (.slice va v.vals.length vc)) := fun y u => ⟨by rw [cells_cell (Nw.keep u b1)]; rfl, by rw [cells_cell (Nw.keep u b1)]; rfl⟩
    obtain ⟨x1, x2⟩ := HC.out W (Upd.refl _ _)
    have hl1 : decide ((d : Int) + 1 < 1) = false := decide_eq_false (by omega)
    have hd6 : (d : Int) ≤ 6 := by omega
    have hd0 : (0 : Int) ≤ (d : Int) := by omega
    have hcast : ((d + 1 : Nat) : Int) = (d : Int) + 1 := by omega
    rw [hcast]
    unfold maxLen at hvl hnl
    have hvl1 : (v.vals.length : Int) ≤ 9223372036854775807 := by omega
    have HVL := Lib.hid hvl
    clear ih hv hnc hvc n1 b1 hW hvl hnl
    go_enter Tryz.func11, Tryz.ntmps11
    go_upto_region 1 with fail
    rw [← HW.out]
    clear HW
    by_cases h12 : 12 < v.names.length
    · have h12' : (12 : Int) < v.names.length := by omega
      go_wp2_with fail
      go_ret
      first | exact ⟨_, rfl, HN.out⟩ | exact ⟨⟨_, rfl⟩, HN.out⟩
    have h12' : (v.names.length : Int) ≤ 12 := by omega
    go_wp2_with fail
    go_loopw [8] (fun iv wr => ∃ (i : Nat), i ≤ v.names.length ∧ iv = .int .i64 (i : Int) ∧ Hid (Nw W wr)) (fun iv _ => v.names.length - (intOf iv).toNat)
    case atStart => exact ⟨0, Nat.zero_le _, rfl, Upd.refl _ _⟩
    case round =>
      obtain ⟨i, hi, rfl, hw⟩ := hrel
      clear x1 x2
      obtain ⟨x1, x2⟩ := HC.out wr hw.out
      by_cases hlt : i < v.names.length
      · have hlt1 : (i : Int) < v.names.length := by omega
        have hi8 : (i : Int) ≤ 12 := by omega
        rcases HNC.out with hnil | ⟨b, off, rfl, hb, hcell⟩
        · rw [hnil] at hlt; simp at hlt
        have y0 := nw_cellF (HN.out.trans hw.out) (hcell i hlt).1
        have hsl := (hcell i hlt).2
        clear hcell
        generalize v.names[i] = s at *
        by_cases h60 : 60 < s.length
        · have h60' : (60 : Int) < s.length := by omega
          go_wp2_with fail
          go_ret
          first | exact ⟨_, rfl, HN.out.trans hw.out⟩ | exact ⟨⟨_, rfl⟩, HN.out.trans hw.out⟩
        · have h60' : (s.length : Int) ≤ 60 := by omega
          go_wp2_with fail
          go_roundw
          case rel => exact ⟨i + 1, by omega, by go_num, hw⟩
          case measure => simp [intOf]; omega
      · obtain rfl : i = v.names.length := by omega
        go_wp2_with fail
        go_loopw [7, 9] (fun nv iv wr => ∃ (x : Int) (i : Nat), i ≤ v.vals.length ∧ nv = .int .i64 x ∧ iv = .int .i64 (i : Int) ∧ Hid (Nw W wr)) (fun _ iv _ => v.vals.length - (intOf iv).toNat)
        case atStart => exact ⟨1, 0, Nat.zero_le _, rfl, rfl, hw⟩
        case round =>
          obtain ⟨x, i, hi, rfl, rfl, hw⟩ := hrel
          clear x1 x2
          obtain ⟨x1, x2⟩ := HC.out wr hw.out
          by_cases hlt : i < v.vals.length
          · have hlt1 : (i : Int) < v.vals.length := by omega
            by_cases hxm : x ≤ m
            · rcases HVC.out with hnil | ⟨b, off, rfl, hb, hcell⟩
              · rw [hnil] at hlt; simp at hlt
              obtain ⟨nv', vv', q0, q1, q2, q3, q4⟩ := hcell i hlt
              obtain ⟨xa, xc, hxa, -⟩ := q4.names
              obtain ⟨ya, yc, hya, -⟩ := q4.vals
              subst hxa hya
              have y0 := nw_cellF (HN.out.trans hw.out) q0
              have y1 := nw_cellF (HN.out.trans hw.out) q1
              have y2 := nw_cellF (HN.out.trans hw.out) q2
              have y3 := nw_cellF (HN.out.trans hw.out) q3
              have HQ := Lib.hid (q4.nw (HN.out.trans hw.out))
              have hi9 : (i : Int) ≤ 9223372036854775806 := by omega
              clear hcell q0 q1 q2 q3 q4
              generalize v.vals[i] = xv at *
              have hcall := Lib.hid (fun m' => IH.out xv _ _ m' wr HQ.out)
              go_wp2_with fail
              (with_reducible refine (hcall.out _).mono ?_)
              rintro _ w3 ⟨r, rfl, u3⟩
              have hw3 := Lib.hid (hw.out.trans u3)
              clear u3
              go_wp2_with fail
              go_roundw
              case rel => exact ⟨_, i + 1, by omega, rfl, by go_num, hw3.out⟩
              case measure => simp [intOf]; omega
            · have hxm' : m < x := by omega
              go_wp2_with fail
              go_ret
              first | exact ⟨_, rfl, HN.out.trans hw.out⟩ | exact ⟨⟨_, rfl⟩, HN.out.trans hw.out⟩
          · obtain rfl : i = v.vals.length := by omega
            go_wp2_with fail
            go_ret
            first | exact ⟨_, rfl, HN.out.trans hw.out⟩ | exact ⟨⟨_, rfl⟩, HN.out.trans hw.out⟩
end Go.Proofs.YthagiklfmkdmaaaGreatDoor
