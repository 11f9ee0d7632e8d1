/- format.write. -/
import Derived.Test.YtcelfjoopagmlaaGreatDoorPkFKChains17
import Derived.Test.YtcelfjoopagmlaaGreatDoorPkFKChains18
namespace Go.Proofs.YtcelfjoopagmlaaGreatDoor
open Go.RowKit
set_option linter.unusedVariables false
set_option linter.unusedSimpArgs false
attribute [local irreducible] Calls
open Fm (Ty Vl Str nameB rightTy rightVl)

/-- One field's bytes. -/
def fdE (d : Nat) (v : Vl) (f : Str × Ty) : Str := Wire.textE f.1 ++ Wire.textE (Fm.writeF d f.2 (v.at_ f.1))
theorem write_two {d : Nat} {t : Ty} {v : Vl} (h0 : ¬ t.kind = 0) (h1 : ¬ t.kind = 1) : Fm.writeF (d + 1) t v = Wire.numE t.kind ++ (t.fs.map (fdE d v)).flatten := by
  show Wire.numE t.kind ++ (if t.kind = 0 then _ else if t.kind = 1 then _ else _) = _
  rw [if_neg h0, if_neg h1]; rfl
theorem write_zero {d : Nat} {t : Ty} {v : Vl} (h0 : t.kind = 0) : Fm.writeF (d + 1) t v = Wire.numE t.kind ++ Wire.intE v.n := by
  show Wire.numE t.kind ++ (if t.kind = 0 then _ else if t.kind = 1 then _ else _) = _
  rw [if_pos h0]
theorem write_one {d : Nat} {t : Ty} {v : Vl} (h1 : t.kind = 1) : Fm.writeF (d + 1) t v = Wire.numE t.kind ++ Wire.numE v.n := by
  show Wire.numE t.kind ++ (if t.kind = 0 then _ else if t.kind = 1 then _ else _) = _
  rw [if_neg (by omega), if_pos h1]
set_option maxHeartbeats 8000000 in
set_option maxRecDepth 100000 in
theorem fmwrite_c (P : Nat → Prop) : ∀ (d : Nat), d ≤ 4 → ∀ (t : Ty) (fv : Value) (v : Vl) (nv vv : Value) (w : World), Gm w → rightTy d t = true → rightVl d v = true → Fm.fits d t v = true → TyAt w fv t → VlAt P w nv vv v →
    Calls Tryz.prog 31 #[.agg #[.int .i64 t.kind, fv], .agg #[.int .i64 v.kind, .int .i64 v.n, nv, vv]] w fun e w' => e = .returned (.string ⟨(Fm.writeF d t v).toArray⟩) ∧ Nw w w' := by
  intro d
  induction d with
  | zero => intro _ t fv v nv vv w _ h; cases h
  | succ d ih =>
    intro hd t fv v nv vv w g hr hv hf ht hva
    have IH := Lib.hid (ih (by omega))
    have RT := Lib.hid (Fm.rt_iff.1 hr)
    have RV := Lib.hid (Fm.rv_iff.1 hv)
    have FT := Lib.hid (Fm.fit_iff.1 hf)
    have HLEN : Hid ((Fm.writeF (d + 1) t v).length ≤ 400000) := Nat.le_trans (Fm.write_len hd hr (hva.okI _)) (Nat.le_trans (Fm.W_mono hd) Fm.W4)
    have hkI := ht.kind
    have hnI := hva.num
    obtain ⟨fa, fc, rfl, hfl, hfc⟩ := ht.cells
    obtain ⟨na, nc, rfl, hnl, hnc⟩ := hva.names
    obtain ⟨va, vc, rfl, hvl, hvc⟩ := hva.vals
    have HFC : Hid (FdC w fa t.fs) := hfc
    have HNC : Hid (StrC w na v.names) := hnc
    have HVC : Hid (VsC P w va v.vals) := hvc
    have n1 := nw_alloc w (.cells #[.int .i64 t.kind, .slice fa t.fs.length fc] tTy)
    have n2 := nw_alloc (w.alloc (.cells #[.int .i64 t.kind, .slice fa t.fs.length fc] tTy)) (.cells #[.int .i64 v.kind, .int .i64 v.n, .slice na v.names.length nc, .slice va v.vals.length vc] tVl)
    have b1 := n2.keep (heap_new w (.cells #[.int .i64 t.kind, .slice fa t.fs.length fc] tTy))
    have b2 := heap_new (w.alloc (.cells #[.int .i64 t.kind, .slice fa t.fs.length fc] tTy)) (.cells #[.int .i64 v.kind, .int .i64 v.n, .slice na v.names.length nc, .slice va v.vals.length vc] tVl)
    rw [World.size_alloc] at b2
    have hN := n1.trans n2
    obtain ⟨W, hW⟩ : ∃ W, W = (w.alloc (.cells #[.int .i64 t.kind, .slice fa t.fs.length fc] tTy)).alloc (.cells #[.int .i64 v.kind, .int .i64 v.n, .slice na v.names.length nc, .slice va v.vals.length vc] tVl) := ⟨_, rfl⟩
    rw [← hW] at hN b1 b2
    have HN := Lib.hid hN
    have HW := Lib.hid hW
    have HC : Hid (∀ y, Nw W y → y.cell? ⟨w.heap.size, 0, none⟩ = some (.int .i64 t.kind) ∧ y.cell? ⟨w.heap.size, 1, none⟩ = some (.slice fa t.fs.length fc) ∧ y.cell? ⟨w.heap.size + 1, 1, none⟩ = some (.int .i64 v.n) ∧ y.cell? ⟨w.heap.size + 1, 2, none⟩ = some (.slice na v.names.length nc) ∧ y.cell? ⟨w.heap.size + 1, 3, none⟩ = some (.slice va v.vals.length vc)) := fun y u => ⟨by rw [cells_cell (Nw.keep u b1)]; rfl, by rw [cells_cell (Nw.keep u b1)]; rfl, by rw [cells_cell (Nw.keep u b2)]; rfl, by rw [cells_cell (Nw.keep u b2)]; rfl, by rw [cells_cell (Nw.keep u b2)]; rfl⟩
    have HNL := Lib.hid (And.intro hnl hvl)
    have HI := Lib.hid hnI
    have HKI := Lib.hid hkI
    have HG := Lib.hid (g.upd hN)
    have hnum := Lib.hid (Num_e t.kind W HG.out.g hkI)
    obtain ⟨c0, -, -, -, -⟩ := HC.out W (Upd.refl _ _)
    clear ih hr hv hf ht hva hfc hnc hvc n1 n2 b1 b2 hN hW hnl hvl hkI hnI g
    go_enter Tryz.func31, Tryz.ntmps31
    go_upto_region 1 with fail
    rw [← HW.out]
    clear HW
    go_wp2_with fail
    (with_reducible refine (hnum.out).mono ?_)
    rintro _ w2 ⟨rfl, u2⟩
    obtain ⟨d0, d1, d2, d3, d4⟩ := HC.out w2 u2
    have U2 := Lib.hid u2
    clear u2 hnum c0
    by_cases h0 : t.kind = 0
    · have e0 : (t.kind == 0) = true := by simp [h0]
      have hi := Lib.hid (Int_e v.n w2 (HG.out.upd U2.out).g HI.out)
      have l1 := Fm.num_len (n := t.kind) HKI.out
      have l2 := Fm.int_len HI.out
      have e9 := Lib.hid (write_zero (d := d) (v := v) h0)
      clear h0 HFC HNC HVC
      go_wp2_with fail
      (with_reducible refine (hi.out).mono ?_)
      rintro _ w3 ⟨rfl, u3⟩
      have U3 := Lib.hid ((HN.out.trans U2.out).trans u3)
      clear u3
      go_wp2_with fail
      go_ret
      refine ⟨ret_bs ?_, U3.out⟩
      rw [e9.out]
      simp only [bs_append_list, bs_list]
    have e0 : (t.kind == 0) = false := by simp [h0]
    by_cases h1 : t.kind = 1
    · have e1 : (t.kind == 1) = true := by simp [h1]
      have hi := Lib.hid (Num_e v.n w2 (HG.out.upd U2.out).g HI.out)
      have l1 := Fm.num_len (n := t.kind) HKI.out
      have l2 := Fm.num_len HI.out
      have e9 := Lib.hid (write_one (d := d) (v := v) h1)
      clear h0 h1 HFC HNC HVC
      go_wp2_with fail
      (with_reducible refine (hi.out).mono ?_)
      rintro _ w3 ⟨rfl, u3⟩
      have U3 := Lib.hid ((HN.out.trans U2.out).trans u3)
      clear u3
      go_wp2_with fail
      go_ret
      refine ⟨ret_bs ?_, U3.out⟩
      rw [e9.out]
      simp only [bs_append_list, bs_list]
    have e1 : (t.kind == 1) = false := by simp [h1]
    have E9 := Lib.hid (write_two (d := d) (v := v) h0 h1)
    have hB0 := Bld.fresh w2
    have nB := nw_alloc w2 (.cells #[.pointer none, .slice none 0 0] 63)
    have HNUM : Hid ((Wire.numE t.kind).length ≤ 400000) := by
      have := HLEN.out
      rw [E9.out, List.length_append] at this
      show _ ≤ _
      omega
    have hWS := Lib.hid (WriteString_c w2.heap.size w2.heap.size [] ⟨(Wire.numE t.kind).toArray⟩ (Wire.numE t.kind) (bs_list _) (w2.alloc (.cells #[.pointer none, .slice none 0 0] 63)) hB0 (by have := HNUM.out; simp; omega) (by simp))
    have HNB := Lib.hid nB
    have hfl1 : (t.fs.length : Int) ≤ 8 := by have := RT.out.len; omega
    clear hB0 nB hfl
    go_wp2_with fail
    (with_reducible refine (hWS.out).mono ?_)
    rintro _ w3 ⟨rfl, hB3, b3⟩
    have BL3 : Hid (Below w2.heap.size w2 w3) := HNB.out.below.trans b3
    have HB3 := Lib.hid hB3
    obtain ⟨d0, d1, d2, d3, d4⟩ := HC.out w3 (U2.out.trans (Upd.of_below _ BL3.out))
    clear hWS hB3 b3 h0 h1
    obtain ⟨Q, hQ⟩ : ∃ Q, Q = w2.heap.size := ⟨_, rfl⟩
    rw [← hQ] at HB3 BL3 ⊢
    have HQ := Lib.hid hQ
    clear hQ
    go_wp2_with fail
    go_loopw [34] (fun iv wr => ∃ n : Nat, n ≤ t.fs.length ∧ iv = .int .i64 (n : Int) ∧ Hid (Bld Q Q (Wire.numE t.kind ++ ((t.fs.take n).map (fdE d v)).flatten) wr) ∧ Hid (Below Q w2 wr)) (fun iv _ => t.fs.length - (intOf iv).toNat)
    case atStart => exact ⟨0, Nat.zero_le _, rfl, by simpa using HB3, BL3⟩
    case round =>
      obtain ⟨n, hn, rfl, HBn, BLn⟩ := hrel
      have hq2 : Nw w2 wr := Upd.of_below _ (by rw [← HQ.out]; exact BLn.out)
      have HNW := Lib.hid (HN.out.trans (U2.out.trans hq2))
      have HNW2 := Lib.hid (U2.out.trans hq2)
      clear hq2
      by_cases hlt : n < t.fs.length
      · have hlt1 : (n : Int) < t.fs.length := by omega
        have hn8 : (n : Int) ≤ 8 := by omega
        rcases HFC.out with hnil | ⟨b, off, rfl, hb, hcell⟩
        · rw [hnil] at hlt; simp at hlt
        obtain ⟨sv, p0, p1, p2, hty, hsl⟩ := hcell n hlt
        obtain ⟨sa, sc, hsv, -⟩ := hty.cells
        subst hsv
        have y0 := nw_cellF HNW.out p0
        have y1 := nw_cellF HNW.out p1
        have y2 := nw_cellF HNW.out p2
        have HS := Lib.hid (Wire.flatten_take_succ (fdE d v) t.fs n hlt)
        have HPRE := Lib.hid (Wire.flatten_take_le (fdE d v) t.fs (n + 1))
        have HSub := Lib.hid (RT.out.sub _ (List.getElem_mem hlt))
        have hix := FT.out.i _ (List.getElem_mem hlt)
        have hfit := FT.out.s _ (List.getElem_mem hlt)
        have HTY := Lib.hid hty
        have HSL := Lib.hid hsl
        clear hcell p0 p1 p2 hty hsl
        generalize t.fs[n] = fld at *
        obtain ⟨s, ft⟩ := fld
        dsimp only at *
        rcases Fm.idx_cases s v.names with ⟨hx, hno⟩ | ⟨i, hi, hx, he⟩
        · rw [hx] at hix; simp at hix
        have hiv : i < v.vals.length := by have := RV.out.len; omega
        have hat : v.at_ s = v.vals[i] := by unfold Fm.Vl.at_; rw [hx]; simp [hiv]
        have HFD : Hid (fdE d v (s, ft) = Wire.textE s ++ Wire.textE (Fm.writeF d ft v.vals[i])) := by
          show _ = _
          unfold fdE; rw [hat]
        rw [hat] at hfit
        rcases HVC.out with hnil | ⟨b', off', rfl, hb', hc'⟩
        · rw [hnil] at hiv; simp at hiv
        obtain ⟨nv', vv', q0, q1, q2, q3, q4⟩ := hc' i hiv
        obtain ⟨xa, xc, rfl, -⟩ := q4.names
        obtain ⟨ya, yc, rfl, -⟩ := q4.vals
        have HRV := Lib.hid (RV.out.all _ (List.getElem_mem hiv))
        have HQ4 := Lib.hid q4
        have HF := Lib.hid hfit
        obtain ⟨wo, hwo, n0, hbx⟩ : ∃ z, z = wr.alloc (.cells #[.string ⟨s.toArray⟩, .int .i64 ft.kind, .slice sa ft.fs.length sc] tFd) ∧ Nw wr z ∧ z.heap[wr.heap.size]? = some (.cells #[.string ⟨s.toArray⟩, .int .i64 ft.kind, .slice sa ft.fs.length sc] tFd (0, 0)) := ⟨_, rfl, nw_alloc wr _, heap_new wr _⟩
        have HWO := Lib.hid hwo
        have HN0 := Lib.hid n0
        have HBX := Lib.hid hbx
        have HBLD := Lib.hid (HBn.out.nw n0)
        have HP : Hid (∀ y, Nw wo y → y.cell? ⟨wr.heap.size, 0, none⟩ = some (.string ⟨s.toArray⟩) ∧ y.cell? ⟨wr.heap.size, 1, none⟩ = some (.int .i64 ft.kind) ∧ y.cell? ⟨wr.heap.size, 2, none⟩ = some (.slice sa ft.fs.length sc) ∧ y.cell? ⟨w.heap.size + 1, 3, none⟩ = some (.slice (some ⟨b', off', none⟩) v.vals.length vc) ∧ y.cell? ⟨b', off' + i * 4, none⟩ = some (.int .i64 (v.vals[i]).kind) ∧ y.cell? ⟨b', off' + i * 4 + 1, none⟩ = some (.int .i64 (v.vals[i]).n) ∧ y.cell? ⟨b', off' + i * 4 + 2, none⟩ = some (.slice xa (v.vals[i]).names.length xc) ∧ y.cell? ⟨b', off' + i * 4 + 3, none⟩ = some (.slice ya (v.vals[i]).vals.length yc)) := fun y u => by
          have h2 := Nw.keep u hbx
          have uy := (HNW.out.trans n0).trans u
          obtain ⟨-, -, -, -, k3⟩ := HC.out y ((HNW2.out.trans n0).trans u)
          exact ⟨by rw [cells_cell h2]; rfl, by rw [cells_cell h2]; rfl, by rw [cells_cell h2]; rfl, k3, nw_cellF uy q0, nw_cellF uy q1, nw_cellF uy q2, nw_cellF uy q3⟩
        obtain ⟨x0, -, -, -, -, -, -, -⟩ := HP.out wo (Upd.refl _ _)
        obtain ⟨-, -, -, x3, -⟩ := HC.out wo (HNW2.out.trans n0)
        have hix1 := Lib.hid (index_s na nc v.names s wo (HNC.out.nw (HNW.out.trans n0)) HNL.out.1)
        rw [hx] at hix1
        have HB1 : Hid ((Wire.numE t.kind ++ ((t.fs.take n).map (fdE d v)).flatten).length + ((Wire.textE s).length + (Wire.textE (Fm.writeF d ft v.vals[i])).length) ≤ 400000) := by
          have h1 := HPRE.out
          have h2 := HLEN.out
          rw [HS.out, HFD.out] at h1
          rw [E9.out] at h2
          simp only [List.length_append] at h1 h2 ⊢
          show _ ≤ _
          omega
        have HSLEN : Hid (s.length ≤ 400000 ∧ (Fm.writeF d ft v.vals[i]).length ≤ 400000) := by
          have h1 := HB1.out
          have h2 : s.length ≤ (Wire.textE s).length := by unfold Wire.textE; simp only [List.length_append]; omega
          have h3 : (Fm.writeF d ft v.vals[i]).length ≤ (Wire.textE (Fm.writeF d ft v.vals[i])).length := by unfold Wire.textE; simp only [List.length_append]; omega
          exact ⟨by omega, by omega⟩
        have hG0 : Hid (Gm wo) := HG.out.upd (HNW2.out.trans n0)
        have HT1 : Hid (∀ y, Nw wo y → Calls Tryz.prog 27 #[.string ⟨s.toArray⟩] y fun e z => e = .returned (.string ⟨(Wire.textE s).toArray⟩) ∧ Nw y z) := fun y u => Text_e _ s (bs_list _) y (hG0.out.upd u).g (by have := HSLEN.out.1; omega)
        have HT2 : Hid (∀ y, Nw wo y → Calls Tryz.prog 31 #[.agg #[.int .i64 ft.kind, .slice sa ft.fs.length sc], .agg #[.int .i64 (v.vals[i]).kind, .int .i64 (v.vals[i]).n, .slice xa (v.vals[i]).names.length xc, .slice ya (v.vals[i]).vals.length yc]] y fun e z => e = .returned (.string ⟨(Fm.writeF d ft v.vals[i]).toArray⟩) ∧ Nw y z) := fun y u => IH.out ft _ v.vals[i] _ _ y (hG0.out.upd u) HSub.out HRV.out HF.out (HTY.out.nw ((HNW.out.trans n0).trans u)) (HQ4.out.nw ((HNW.out.trans n0).trans u))
        have HT3 : Hid (∀ y, Nw wo y → Calls Tryz.prog 27 #[.string ⟨(Fm.writeF d ft v.vals[i]).toArray⟩] y fun e z => e = .returned (.string ⟨(Wire.textE (Fm.writeF d ft v.vals[i])).toArray⟩) ∧ Nw y z) := fun y u => Text_e _ _ (bs_list _) y (hG0.out.upd u).g (by have := HSLEN.out.2; omega)
        have hiv1 : (i : Int) < v.vals.length := by omega
        have l1 : (Wire.textE s).length ≤ 400000 := by have := HB1.out; omega
        have l2 : (Wire.textE (Fm.writeF d ft v.vals[i])).length ≤ 400000 := by have := HB1.out; omega
        have hi0 : decide ((i : Int) < 0) = false := decide_eq_false (by omega)
        clear HFC HNC HVC hix hfit hx he hat hc' q0 q1 q2 q3 q4 hwo n0 hbx
        generalize v.vals[i] = xv at *
        go_upto_region 11 with fail
        rw [← HWO.out]
        clear HWO
        go_wp2_with fail
        (with_reducible refine (hix1.out).mono ?_)
        rintro _ _ ⟨rfl, rfl⟩
        clear hix1
        go_wp2_with fail
        have HS0 := Lib.hid (HP.out _ (Upd.refl _ wo).drew)
        refine wp_region_G (fun y => y.cell? ⟨wr.heap.size, 0, none⟩ = some (.string ⟨s.toArray⟩) ∧ y.cell? ⟨wr.heap.size, 1, none⟩ = some (.int .i64 ft.kind) ∧ y.cell? ⟨wr.heap.size, 2, none⟩ = some (.slice sa ft.fs.length sc) ∧ y.cell? ⟨w.heap.size + 1, 3, none⟩ = some (.slice (some ⟨b', off', none⟩) v.vals.length vc) ∧ y.cell? ⟨b', off' + i * 4, none⟩ = some (.int .i64 xv.kind) ∧ y.cell? ⟨b', off' + i * 4 + 1, none⟩ = some (.int .i64 xv.n) ∧ y.cell? ⟨b', off' + i * 4 + 2, none⟩ = some (.slice xa xv.names.length xc) ∧ y.cell? ⟨b', off' + i * 4 + 3, none⟩ = some (.slice ya xv.vals.length yc)) 13 (by kernel_rfl) ?_
        refine wpAnyG_pure (i := 0) (v := ?_) rfl (by kernel_rfl) (by kernel_rfl) (by kernel_rfl) (by kernel_rfl) (by kernel_rfl) (fun _ _ _ h => h) (by rfl) ?_ (fun _ => HS0.out) ?_
        rotate_left 1
        · (intro zz; go_simp; first | done | with_reducible rfl)
        (try simp only [Act.put, List.setIfInBounds_toArray, List.set_cons_zero, List.set_cons_succ])
        refine wpAnyG_pure (i := 3) (v := ?_) rfl (by kernel_rfl) (by kernel_rfl) (by kernel_rfl) (by kernel_rfl) (by kernel_rfl) (fun _ _ _ h => h) (by rfl) ?_ (fun _ => HS0.out) ?_
        rotate_left 1
        · (intro zz; go_simp; first | done | with_reducible rfl)
        (try simp only [Act.put, List.setIfInBounds_toArray, List.set_cons_zero, List.set_cons_succ])
        refine wpAnyG_pure (i := 5) (v := ?_) rfl (by kernel_rfl) (by kernel_rfl) (by kernel_rfl) (by kernel_rfl) (by kernel_rfl) (fun _ _ _ h => h) (by rfl) ?_ (fun _ => HS0.out) ?_
        rotate_left 1
        · (intro zz; go_simp; first | done | with_reducible rfl)
        (try simp only [Act.put, List.setIfInBounds_toArray, List.set_cons_zero, List.set_cons_succ])
        refine wpAnyG_pure (i := 7) (v := ?_) rfl (by kernel_rfl) (by kernel_rfl) (by kernel_rfl) (by kernel_rfl) (by kernel_rfl) (fun _ _ _ h => h) (by rfl) ?_ (fun _ => HS0.out) ?_
        rotate_left 1
        · (intro zz; go_simp; first | done | with_reducible rfl)
        (try simp only [Act.put, List.setIfInBounds_toArray, List.set_cons_zero, List.set_cons_succ])
        refine wpAnyG_load (i := 1) (v := ?_) [12, 2] rfl (by kernel_rfl) (by kernel_rfl) (by kernel_rfl) (by kernel_rfl) (by kernel_rfl) (by kernel_rfl) (fun _ _ _ h => h) (by rfl) ?_ (fun _ => HS0.out) ?_
        rotate_left 1
        · (intro zz hS; obtain ⟨_, _, _, _, _, _, _, _⟩ := hS; go_simp; first | done | with_reducible rfl)
        (try simp only [Act.put, List.setIfInBounds_toArray, List.set_cons_zero, List.set_cons_succ])
        refine wpAnyG_load (i := 4) (v := ?_) [12, 11, 10] rfl (by kernel_rfl) (by kernel_rfl) (by kernel_rfl) (by kernel_rfl) (by kernel_rfl) (by kernel_rfl) (fun _ _ _ h => h) (by rfl) ?_ (fun _ => HS0.out) ?_
        rotate_left 1
        · (intro zz hS; obtain ⟨_, _, _, _, _, _, _, _⟩ := hS; go_simp; first | done | with_reducible rfl)
        (try simp only [Act.put, List.setIfInBounds_toArray, List.set_cons_zero, List.set_cons_succ])
        refine wpAnyG_load (i := 6) (v := ?_) [12, 11, 10, 9, 8] rfl (by kernel_rfl) (by kernel_rfl) (by kernel_rfl) (by kernel_rfl) (by kernel_rfl) (by kernel_rfl) (fun _ _ _ h => h) (by rfl) ?_ (fun _ => HS0.out) ?_
        rotate_left 1
        · (intro zz hS; obtain ⟨_, _, _, _, _, _, _, _⟩ := hS; go_simp; first | done | with_reducible rfl)
        (try simp only [Act.put, List.setIfInBounds_toArray, List.set_cons_zero, List.set_cons_succ])
        refine wpAnyG_pure (i := 8) (v := ?_) rfl (by kernel_rfl) (by kernel_rfl) (by kernel_rfl) (by kernel_rfl) (by kernel_rfl) (fun _ _ _ h => h) (by rfl) ?_ (fun _ => HS0.out) ?_
        rotate_left 1
        · (intro zz; go_simp; first | done | with_reducible rfl)
        (try simp only [Act.put, List.setIfInBounds_toArray, List.set_cons_zero, List.set_cons_succ])
        refine wpAnyG_load (i := 9) (v := ?_) [12, 11, 10] rfl (by kernel_rfl) (by kernel_rfl) (by kernel_rfl) (by kernel_rfl) (by kernel_rfl) (by kernel_rfl) (fun _ _ _ h => h) (by rfl) ?_ (fun _ => HS0.out) ?_
        rotate_left 1
        · (intro zz hS; obtain ⟨_, _, _, _, _, _, _, _⟩ := hS; go_simp; first | done | with_reducible rfl)
        (try simp only [Act.put, List.setIfInBounds_toArray, List.set_cons_zero, List.set_cons_succ])
        have hd0 : Nw wo wo.drew := (Upd.refl _ wo).drew
        -- the call number 2 by the contract HT1 at the world wo.drew behind wo by hd0: the world w4, the step u4
        refine wpAnyG_ready [2] (by kernel_rfl) (by simp) ?_
        refine AllG.cons rfl (fun K hK => ?_) AllG.nil
        have hCC := (HT1).out (wo.drew) (hd0)
        go_simp
        (with_reducible refine (hCC).mono ?_)
        rintro _ w4 ⟨rfl, u4⟩
        clear hCC
        replace u4 := Nw.trans (hd0) (u4)
        refine hK.out _ _ (fun _ => HP.out _ u4) ?_
        clear hK K
        (try simp only [Act.put, List.setIfInBounds_toArray, List.set_cons_zero, List.set_cons_succ])
        -- the call number 10 by the contract HT2 at the world w4 behind wo by u4: the world w5, the step u5
        refine wpAnyG_ready [10] (by kernel_rfl) (by simp) ?_
        refine AllG.cons rfl (fun K hK => ?_) AllG.nil
        have hCC := (HT2).out (w4) (u4)
        go_simp
        (with_reducible refine (hCC).mono ?_)
        rintro _ w5 ⟨rfl, u5⟩
        clear hCC
        replace u5 := Nw.trans (u4) (u5)
        refine hK.out _ _ (fun _ => HP.out _ u5) ?_
        clear hK K
        (try simp only [Act.put, List.setIfInBounds_toArray, List.set_cons_zero, List.set_cons_succ])
        -- the call number 11 by the contract HT3 at the world w5 behind wo by u5: the world w6, the step u6
        refine wpAnyG_ready [11] (by kernel_rfl) (by simp) ?_
        refine AllG.cons rfl (fun K hK => ?_) AllG.nil
        have hCC := (HT3).out (w5) (u5)
        go_simp
        (with_reducible refine (hCC).mono ?_)
        rintro _ w6 ⟨rfl, u6⟩
        clear hCC
        replace u6 := Nw.trans (u5) (u6)
        refine hK.out _ _ (fun _ => HP.out _ u6) ?_
        clear hK K
        (try simp only [Act.put, List.setIfInBounds_toArray, List.set_cons_zero, List.set_cons_succ])
        have l3 : ¬ 9223372036854775807 < (Wire.textE s).length + (Wire.textE (Fm.writeF d ft xv)).length := by omega
        refine wpAnyG_pure (i := 12) (v := ?_) rfl (by kernel_rfl) (by kernel_rfl) (by kernel_rfl) (by kernel_rfl) (by kernel_rfl) (fun _ _ _ h => h) (by rfl) ?_ (fun _ => HP.out _ u6) ?_
        rotate_left 1
        · (intro zz; go_simp; first | done | with_reducible rfl)
        (try simp only [Act.put, List.setIfInBounds_toArray, List.set_cons_zero, List.set_cons_succ])
        refine wpAnyG_ready [13] (by kernel_rfl) (by simp) ?_
        refine AllG.cons rfl (fun K hK => ?_) AllG.nil
        have hQ0 : Q ≤ wr.heap.size := by have := BLn.out.size; have := HQ.out; omega
        have hWS := WriteString_c Q Q _ (⟨(Wire.textE s).toArray⟩ ++ ⟨(Wire.textE (Fm.writeF d ft xv)).toArray⟩) (Wire.textE s ++ Wire.textE (Fm.writeF d ft xv)) (by simp only [bs_append_list, bs_list]) w6 (HBLD.out.nw u6) (by have := HB1.out; rw [@List.length_append _ (Wire.textE s)]; omega) (by have := u6.size; have := HN0.out.size; omega)
        go_simp
        (with_reducible refine (hWS).mono ?_)
        rintro _ w7 ⟨rfl, hB7, b7⟩
        clear hWS
        refine hK.out _ _ (fun e => absurd (show true = false from e) (by decide)) ?_
        clear hK K
        (try simp only [Act.put, List.setIfInBounds_toArray, List.set_cons_zero, List.set_cons_succ])
        refine wpAnyG_done (by kernel_rfl) ?_ _
        have BL7 : Below Q w2 w7 := (BLn.out.trans (Below.mono (Nw.below (HN0.out.trans u6)) hQ0)).trans b7
        have HB7 : Hid (Bld Q Q (Wire.numE t.kind ++ ((t.fs.take (n + 1)).map (fdE d v)).flatten) w7) := by
          rw [HS.out, HFD.out, ← List.append_assoc]
          exact hB7
        go_wp2_with fail
        go_roundw
        case rel => exact ⟨n + 1, by omega, by go_num, HB7, BL7⟩
        case measure => simp [intOf]; omega
      · obtain rfl : n = t.fs.length := by omega
        have hst := Lib.hid (String_c Q Q _ wr HBn.out (by have := BLn.out.size; rw [HQ.out]; exact this))
        clear HFC HNC HVC
        go_wp2_with fail
        (with_reducible refine (hst.out).mono ?_)
        rintro _ w4 ⟨rfl, b4⟩
        have u4 : Nw w2 w4 := Upd.of_below _ (by rw [← HQ.out]; exact BLn.out.trans b4)
        go_wp2_with fail
        go_ret
        refine ⟨?_, HN.out.trans (U2.out.trans u4)⟩
        rw [E9.out]; rfl
end Go.Proofs.YtcelfjoopagmlaaGreatDoor
