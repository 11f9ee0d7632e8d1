/- The reference's writing (ladingref43): field, write. -/
import Derived.Test.YthagiklfmkdmaaaGreatDoorPkFTel4315
import Derived.Test.YthagiklfmkdmaaaGreatDoorPkFTel432
import Derived.Test.YthagiklfmkdmaaaGreatDoorPkFTel4316
namespace Go.Proofs.YthagiklfmkdmaaaGreatDoor
open Go.RowKit
set_option linter.unusedVariables false
set_option linter.unusedSimpArgs false
attribute [local irreducible] Calls
open Fm (Ty Vl Str nameB rightTy rightVl)

theorem fd43_results (tmps : Array Value) (w : World) {r : Nat} {k n : Int} {nv vv : Value} (hr : tmps.getD 4 undef = .pointer (some ⟨r, 0, none⟩)) (hb : w.heap[r]? = some (.cells #[.int .i64 k, .int .i64 n, nv, vv] tVl (0, 0))) :
    (results Tryz.f91 tmps).run Tryz.prog w = .ok (.agg #[.int .i64 k, .int .i64 n, nv, vv]) w := by
  obtain ⟨c0, c1, c2, c3⟩ := cell4F hb
  rw [Array.getD_eq_getD_getElem?] at hr
  simp [results, Tryz.results91, go_sem, hr, c0, c1, c2, c3]
set_option maxHeartbeats 4000000 in
set_option maxRecDepth 100000 in
theorem field43_r (na : Option Addr) (nc vb vo vl vc : Nat) (kk nn : Int) (N : List Str) (s : Str) (w0 w : World) (u0 : Nw w0 w) (hgb : nG ≤ w.heap.size) (hn : StrC w0 na N) (h8 : N.length ≤ 8) (p : Nat) (hp : p < N.length) (he : N[p] = s) (hno : ∀ k (h : k < N.length), k < p → N[k] ≠ s) (hpl : p < vl)
    (k n : Int) (xa ya : Option Addr) (xl xc yl yc : Nat) (q0 : w0.cell? ⟨vb, vo + p * 4, none⟩ = some (.int .i64 k)) (q1 : w0.cell? ⟨vb, vo + p * 4 + 1, none⟩ = some (.int .i64 n)) (q2 : w0.cell? ⟨vb, vo + p * 4 + 2, none⟩ = some (.slice xa xl xc)) (q3 : w0.cell? ⟨vb, vo + p * 4 + 3, none⟩ = some (.slice ya yl yc)) :
    Calls Tryz.prog 91 #[.agg #[.int .i64 kk, .int .i64 nn, .slice na N.length nc, .slice (some ⟨vb, vo, none⟩) vl vc], .string ⟨s.toArray⟩] w fun e w' => e = .returned (.agg #[.int .i64 k, .int .i64 n, .slice xa xl xc, .slice ya yl yc]) ∧ Nw w w' := by
  have hl1 : (N.length : Int) ≤ 8 := by omega
  have hp8 : (p : Int) ≤ 8 := by omega
  have hpl1 : (p : Int) < vl := by omega
  have n1 := nw_alloc w (.cells #[.int .i64 kk, .int .i64 nn, .slice na N.length nc, .slice (some ⟨vb, vo, none⟩) vl vc] tVl)
  have n2 := nw_alloc (w.alloc (.cells #[.int .i64 kk, .int .i64 nn, .slice na N.length nc, .slice (some ⟨vb, vo, none⟩) vl vc] tVl)) (.cells #[.int .i64 0, .int .i64 0, .slice none 0 0, .slice none 0 0] tVl)
  have b1 := n2.keep (heap_new w (.cells #[.int .i64 kk, .int .i64 nn, .slice na N.length nc, .slice (some ⟨vb, vo, none⟩) vl vc] tVl))
  have b2 := heap_new (w.alloc (.cells #[.int .i64 kk, .int .i64 nn, .slice na N.length nc, .slice (some ⟨vb, vo, none⟩) vl vc] tVl)) (.cells #[.int .i64 0, .int .i64 0, .slice none 0 0, .slice none 0 0] tVl)
  rw [World.size_alloc] at b2
  have hN := n1.trans n2
  obtain ⟨W, hW⟩ : ∃ W, W = (w.alloc (.cells #[.int .i64 kk, .int .i64 nn, .slice na N.length nc, .slice (some ⟨vb, vo, none⟩) vl vc] tVl)).alloc (.cells #[.int .i64 0, .int .i64 0, .slice none 0 0, .slice none 0 0] tVl) := ⟨_, rfl⟩
  rw [← hW] at hN b1 b2
  have HN := Lib.hid hN
  have HW := Lib.hid hW
  have HB2 := Lib.hid b2
  have HC : Hid (∀ y, Nw W y → y.cell? ⟨w.heap.size, 2, none⟩ = some (.slice na N.length nc) ∧ y.cell? ⟨w.heap.size, 3, none⟩ = some (.slice (some ⟨vb, vo, none⟩) vl vc)) := fun y u => ⟨by rw [cells_cell (Nw.keep u b1)]; rfl, by rw [cells_cell (Nw.keep u b1)]; rfl⟩
  have HNC := Lib.hid hn
  have HQ : Hid (∀ y, Nw W y → y.cell? ⟨vb, vo + p * 4, none⟩ = some (.int .i64 k) ∧ y.cell? ⟨vb, vo + p * 4 + 1, none⟩ = some (.int .i64 n) ∧ y.cell? ⟨vb, vo + p * 4 + 2, none⟩ = some (.slice xa xl xc) ∧ y.cell? ⟨vb, vo + p * 4 + 3, none⟩ = some (.slice ya yl yc)) := fun y u => ⟨nw_cellF ((Nw.trans u0 hN).trans u) q0, nw_cellF ((Nw.trans u0 hN).trans u) q1, nw_cellF ((Nw.trans u0 hN).trans u) q2, nw_cellF ((Nw.trans u0 hN).trans u) q3⟩
  have HNO := Lib.hid hno
  have HE := Lib.hid he
  have HU0 := Lib.hid u0
  have HGB := Lib.hid hgb
  clear n1 n2 b1 b2 hN hW hn q0 q1 q2 q3 hno he u0 hgb
  go_enter Tryz.func91, Tryz.ntmps91
  go_upto_region 1 with fail
  rw [← HW.out]
  clear HW
  go_wp2_with fail
  go_loopw [5] (fun i wr => ∃ m : Nat, m ≤ p ∧ i = .int .i64 (m : Int) ∧ Hid (Nw W wr)) (fun i _ => N.length - (intOf i).toNat)
  case atStart => exact ⟨0, Nat.zero_le _, rfl, Upd.refl _ _⟩
  case round =>
    obtain ⟨m, hm, rfl, hw⟩ := hrel
    obtain ⟨c2, c3⟩ := HC.out wr hw.out
    have hlt : m < N.length := by omega
    have hlt1 : (m : Int) < N.length := by omega
    have hm9 : (m : Int) ≤ 8 := by omega
    have hm0 : decide ((m : Int) < 0) = false := decide_eq_false (by omega)
    rcases HNC.out with hnil | ⟨b, off, rfl, hb, hcell⟩
    · simp [hnil] at hlt
    by_cases hmp : m = p
    · subst hmp
      have y0 := nw_cellF ((Nw.trans HU0.out HN.out).trans hw.out) (hcell m hlt).1
      rw [HE.out] at y0
      obtain ⟨z0, z1, z2, z3⟩ := HQ.out wr hw.out
      have hb3 := Nw.keep hw.out HB2.out
      obtain ⟨d0, d1, d2, d3⟩ := cell4F hb3
      obtain ⟨f0, f1, f2, f3⟩ := froz4F hb3
      have hbg : nG ≤ w.heap.size + 1 := by have := HGB.out; omega
      have uR := Upd.set1 (Upd.set1 (Upd.set1 (Upd.set1 (Upd.refl _ wr) hbg 0 (.int .i64 k)) hbg 1 (.int .i64 n)) hbg 2 (.slice xa xl xc)) hbg 3 (.slice ya yl yc)
      have hbE := Lib.hid (setCell_block (setCell_block (setCell_block (setCell_block hb3 0 (.int .i64 k)) 1 (.int .i64 n)) 2 (.slice xa xl xc)) 3 (.slice ya yl yc))
      have HNE : Hid (Nw w _) := (HN.out.trans hw.out).trans' uR (fun k hk e => by omega)
      clear hb3 uR hcell
      go_wp2_with fail
      refine bodyPost_ret (fd43_results _ _ ?_ hbE.out) ?_ ?_
      · rfl
      · rfl
      exact ⟨rfl, HNE.out⟩
    · have y0 := nw_cellF ((Nw.trans HU0.out HN.out).trans hw.out) (hcell m hlt).1
      have hne := HNO.out m hlt (by omega)
      clear hcell
      generalize N[m] = x at *
      have htt : (x == s) = false := by simp; exact hne
      clear hne
      go_wp2_with fail
      go_roundw
      case rel => exact ⟨m + 1, by omega, by go_num, hw.out⟩
      case measure => simp [intOf]; omega
set_option maxHeartbeats 8000000 in
set_option maxRecDepth 100000 in
theorem write43_r (P : Nat → Prop) : ∀ (d : Nat), d ≤ 4 → ∀ (t : Ty) (fv : Value) (v : Vl) (nv vv : Value) (w : World), nG ≤ w.heap.size → rightTy d t = true → rightVl d v = true → Fm.fits d t v = true → TyAt w fv t → VlAt P w nv vv v →
    Calls Tryz.prog 52 #[.agg #[.int .i64 t.kind, fv], .agg #[.int .i64 v.kind, .int .i64 v.n, nv, vv]] w fun e w' => e = .returned (.string ⟨(Fm.writeF d t v).toArray⟩) ∧ Nw w w' := by
  intro d
  induction d with
  | zero => intro _ t fv v nv vv w _ h; cases h
  | succ d ih =>
    intro hd t fv v nv vv w hgb hr hv hf ht hva
    have IH := Lib.hid (ih (by omega))
    have RT := Lib.hid (Fm.rt_iff.1 hr)
    have RV := Lib.hid (Fm.rv_iff.1 hv)
    have FT := Lib.hid (Fm.fit_iff.1 hf)
    have HLEN : Hid ((Fm.writeF (d + 1) t v).length ≤ 400000) := Nat.le_trans (Fm.write_len hd hr (hva.okI _)) (Nat.le_trans (Fm.W_mono hd) Fm.W4)
    have hkI := ht.kind
    have hnI := hva.num
    obtain ⟨fa, fc, rfl, hfl, hfc⟩ := ht.cells
    obtain ⟨na, nc, rfl, hnl, hnc⟩ := hva.names
    obtain ⟨va, vc, rfl, hvl, hvc⟩ := hva.vals
    have HFC : Hid (FdC w fa t.fs) := hfc
    have HNC : Hid (StrC w na v.names) := hnc
    have HVC : Hid (VsC P w va v.vals) := hvc
    have n1 := nw_alloc w (.cells #[.int .i64 t.kind, .slice fa t.fs.length fc] tTy)
    have n2 := nw_alloc (w.alloc (.cells #[.int .i64 t.kind, .slice fa t.fs.length fc] tTy)) (.cells #[.int .i64 v.kind, .int .i64 v.n, .slice na v.names.length nc, .slice va v.vals.length vc] tVl)
    have b1 := n2.keep (heap_new w (.cells #[.int .i64 t.kind, .slice fa t.fs.length fc] tTy))
    have b2 := heap_new (w.alloc (.cells #[.int .i64 t.kind, .slice fa t.fs.length fc] tTy)) (.cells #[.int .i64 v.kind, .int .i64 v.n, .slice na v.names.length nc, .slice va v.vals.length vc] tVl)
    rw [World.size_alloc] at b2
    have hN := n1.trans n2
    obtain ⟨W, hW⟩ : ∃ W, W = (w.alloc (.cells #[.int .i64 t.kind, .slice fa t.fs.length fc] tTy)).alloc (.cells #[.int .i64 v.kind, .int .i64 v.n, .slice na v.names.length nc, .slice va v.vals.length vc] tVl) := ⟨_, rfl⟩
    rw [← hW] at hN b1 b2
    have HN := Lib.hid hN
    have HW := Lib.hid hW
    have HC : Hid (∀ y, Nw W y → (y.cell? ⟨w.heap.size, 0, none⟩ = some (.int .i64 t.kind) ∧ y.cell? ⟨w.heap.size, 1, none⟩ = some (.slice fa t.fs.length fc)) ∧ y.cell? ⟨w.heap.size + 1, 0, none⟩ = some (.int .i64 v.kind) ∧ y.cell? ⟨w.heap.size + 1, 1, none⟩ = some (.int .i64 v.n) ∧ y.cell? ⟨w.heap.size + 1, 2, none⟩ = some (.slice na v.names.length nc) ∧ y.cell? ⟨w.heap.size + 1, 3, none⟩ = some (.slice va v.vals.length vc)) := fun y u => ⟨⟨by rw [cells_cell (Nw.keep u b1)]; rfl, by rw [cells_cell (Nw.keep u b1)]; rfl⟩, cell4F (Nw.keep u b2)⟩
    have HI := Lib.hid hnI
    have HKI := Lib.hid hkI
    have HGB := Lib.hid hgb
    have hnum := Lib.hid (Num_q t.kind W hkI)
    obtain ⟨⟨c0, -⟩, -⟩ := HC.out W (Upd.refl _ _)
    clear ih hr hv hf ht hva hfc hnc hvc n1 n2 b1 b2 hN hW hnl hvl hkI hnI hgb
    go_enter Tryz.func52, Tryz.ntmps52
    go_upto_region 1 with fail
    rw [← HW.out]
    clear HW
    go_wp2_with fail
    (with_reducible refine (hnum.out).mono ?_)
    rintro _ w2 ⟨rfl, u2⟩
    obtain ⟨⟨c0, c1⟩, d0, d1, d2, d3⟩ := HC.out w2 u2
    have U2 := Lib.hid u2
    clear u2 hnum
    by_cases h0 : t.kind = 0
    · have e0 : (t.kind == 0) = true := by simp [h0]
      have hi := Lib.hid (Int_q v.n w2 HI.out)
      have l1 := Fm.num_len (n := t.kind) HKI.out
      have l2 := Fm.int_len HI.out
      have e9 := Lib.hid (write_zero (d := d) (v := v) h0)
      clear h0 HFC HNC HVC
      go_wp2_with fail
      (with_reducible refine (hi.out).mono ?_)
      rintro _ w3 ⟨rfl, u3⟩
      have U3 := Lib.hid ((HN.out.trans U2.out).trans u3)
      clear u3
      go_wp2_with fail
      go_ret
      refine ⟨ret_bs ?_, U3.out⟩
      rw [e9.out]
      simp only [bs_append_list, bs_list]
    have e0 : (t.kind == 0) = false := by simp [h0]
    by_cases h1 : t.kind = 1
    · have e1 : (t.kind == 1) = true := by simp [h1]
      have hi := Lib.hid (Num_q v.n w2 HI.out)
      have l1 := Fm.num_len (n := t.kind) HKI.out
      have l2 := Fm.num_len HI.out
      have e9 := Lib.hid (write_one (d := d) (v := v) h1)
      clear h0 h1 HFC HNC HVC
      go_wp2_with fail
      (with_reducible refine (hi.out).mono ?_)
      rintro _ w3 ⟨rfl, u3⟩
      have U3 := Lib.hid ((HN.out.trans U2.out).trans u3)
      clear u3
      go_wp2_with fail
      go_ret
      refine ⟨ret_bs ?_, U3.out⟩
      rw [e9.out]
      simp only [bs_append_list, bs_list]
    have e1 : (t.kind == 1) = false := by simp [h1]
    have E9 := Lib.hid (write_two (d := d) (v := v) h0 h1)
    have hfl1 : (t.fs.length : Int) ≤ 8 := by have := RT.out.len; omega
    clear hfl h0 h1
    go_wp2_with fail
    clear c0 c1 d0 d1 d2 d3
    go_loopw [5, 6] (fun sv iv wr => ∃ (n : Nat) (x : ByteArray), n ≤ t.fs.length ∧ iv = .int .i64 (n : Int) ∧ sv = .string x ∧ Hid (x.data.toList = Wire.numE t.kind ++ ((t.fs.take n).map (fdE d v)).flatten) ∧ Hid (Nw W wr)) (fun _ iv _ => t.fs.length - (intOf iv).toNat)
    case atStart => exact ⟨0, _, Nat.zero_le _, rfl, rfl, by show _ = _; rw [bs_list]; simp, U2.out⟩
    case round =>
      obtain ⟨n, x, hn, rfl, rfl, HX, hw⟩ := hrel
      have HNW := Lib.hid (HN.out.trans hw.out)
      obtain ⟨⟨c0, c1⟩, d0, d1, d2, d3⟩ := HC.out wr hw.out
      by_cases hlt : n < t.fs.length
      · have hlt1 : (n : Int) < t.fs.length := by omega
        have hn8 : (n : Int) ≤ 8 := by omega
        rcases HFC.out with hnil | ⟨b, off, rfl, hb, hcell⟩
        · rw [hnil] at hlt; simp at hlt
        obtain ⟨sv, p0, p1, p2, hty, hsl⟩ := hcell n hlt
        obtain ⟨sa, sc, hsv, -⟩ := hty.cells
        subst hsv
        have y0 := nw_cellF HNW.out p0
        have y1 := nw_cellF HNW.out p1
        have y2 := nw_cellF HNW.out p2
        have HS := Lib.hid (Wire.flatten_take_succ (fdE d v) t.fs n hlt)
        have HPRE := Lib.hid (Wire.flatten_take_le (fdE d v) t.fs (n + 1))
        have HSub := Lib.hid (RT.out.sub _ (List.getElem_mem hlt))
        have hix := FT.out.i _ (List.getElem_mem hlt)
        have hfit := FT.out.s _ (List.getElem_mem hlt)
        have HTY := Lib.hid hty
        have HSL := Lib.hid hsl
        clear hcell p0 p1 p2 hty hsl
        generalize t.fs[n] = fld at *
        obtain ⟨s, ft⟩ := fld
        dsimp only at *
        have HND : Hid (v.names.Nodup) := Fm.asc_nodup RV.out.asc
        rcases Fm.idx_cases s v.names with ⟨hx, hno⟩ | ⟨i, hi, hx, he⟩
        · rw [hx] at hix; simp at hix
        have hiv : i < v.vals.length := by have := RV.out.len; omega
        have hat : v.at_ s = v.vals[i] := by unfold Fm.Vl.at_; rw [hx]; simp [hiv]
        have HFD : Hid (fdE d v (s, ft) = Wire.textE s ++ Wire.textE (Fm.writeF d ft v.vals[i])) := by
          show _ = _
          unfold fdE; rw [hat]
        rw [hat] at hfit
        rcases HVC.out with hnil | ⟨b', off', rfl, hb', hc'⟩
        · rw [hnil] at hiv; simp at hiv
        obtain ⟨nv', vv', q0, q1, q2, q3, q4⟩ := hc' i hiv
        obtain ⟨xa, xc, rfl, -⟩ := q4.names
        obtain ⟨ya, yc, rfl, -⟩ := q4.vals
        have HRV := Lib.hid (RV.out.all _ (List.getElem_mem hiv))
        have HQ4 := Lib.hid q4
        have HF := Lib.hid hfit
        obtain ⟨wo, hwo, n0, hbx⟩ : ∃ z, z = wr.alloc (.cells #[.string ⟨s.toArray⟩, .int .i64 ft.kind, .slice sa ft.fs.length sc] tFd) ∧ Nw wr z ∧ z.heap[wr.heap.size]? = some (.cells #[.string ⟨s.toArray⟩, .int .i64 ft.kind, .slice sa ft.fs.length sc] tFd (0, 0)) := ⟨_, rfl, nw_alloc wr _, heap_new wr _⟩
        have HWO := Lib.hid hwo
        have HN0 := Lib.hid n0
        have HBX := Lib.hid hbx
        have HGO : Hid (nG ≤ wo.heap.size) := Nat.le_trans HGB.out (HNW.out.trans n0).size
        have hfd43 : ∀ y, Nw wo y → _ := fun y (u : Nw wo y) => field43_r na nc b' off' v.vals.length vc v.kind v.n v.names s w y ((HNW.out.trans n0).trans u) (Nat.le_trans HGO.out u.size) HNC.out RV.out.le i hi he (fun k hk hki e => by have := (List.getElem_inj HND.out).1 (e.trans he.symm); omega) hiv _ _ _ _ _ _ _ _ q0 q1 q2 q3
        have HT1 := Lib.hid hfd43
        have HT2 : Hid (∀ y, Nw wo y → Calls Tryz.prog 52 #[.agg #[.int .i64 ft.kind, .slice sa ft.fs.length sc], .agg #[.int .i64 (v.vals[i]).kind, .int .i64 (v.vals[i]).n, .slice xa (v.vals[i]).names.length xc, .slice ya (v.vals[i]).vals.length yc]] y fun e z => e = .returned (.string ⟨(Fm.writeF d ft v.vals[i]).toArray⟩) ∧ Nw y z) := fun y u => IH.out ft _ v.vals[i] _ _ y (Nat.le_trans HGO.out u.size) HSub.out HRV.out HF.out (HTY.out.nw ((HNW.out.trans n0).trans u)) (HQ4.out.nw ((HNW.out.trans n0).trans u))
        have HB1 : Hid ((Wire.numE t.kind ++ ((t.fs.take n).map (fdE d v)).flatten).length + ((Wire.textE s).length + (Wire.textE (Fm.writeF d ft v.vals[i])).length) ≤ 400000) := by
          have h1 := HPRE.out
          have h2 := HLEN.out
          rw [HS.out, HFD.out] at h1
          rw [E9.out] at h2
          simp only [List.length_append] at h1 h2 ⊢
          show _ ≤ _
          omega
        have HSLEN : Hid (s.length ≤ 400000 ∧ (Fm.writeF d ft v.vals[i]).length ≤ 400000) := by
          have h1 := HB1.out
          have h2 : s.length ≤ (Wire.textE s).length := by unfold Wire.textE; simp only [List.length_append]; omega
          have h3 : (Fm.writeF d ft v.vals[i]).length ≤ (Wire.textE (Fm.writeF d ft v.vals[i])).length := by unfold Wire.textE; simp only [List.length_append]; omega
          exact ⟨by omega, by omega⟩
        have l1 : (Wire.textE s).length ≤ 400000 := by have := HB1.out; omega
        have l2 : (Wire.textE (Fm.writeF d ft v.vals[i])).length ≤ 400000 := by have := HB1.out; omega
        have hxs : x.size ≤ 400000 := by rw [bs_size, HX.out]; have := HB1.out; omega
        -- what the region reads, in all later worlds
        have g0 : ∀ j : Later wo, j.1.cell? ⟨wr.heap.size, 0, none⟩ = some (.string ⟨s.toArray⟩) := fun j => by rw [cells_cell (Nw.keep j.nw hbx)]; rfl
        have g1 : ∀ j : Later wo, j.1.cell? ⟨wr.heap.size, 1, none⟩ = some (.int .i64 ft.kind) := fun j => by rw [cells_cell (Nw.keep j.nw hbx)]; rfl
        have g2 : ∀ j : Later wo, j.1.cell? ⟨wr.heap.size, 2, none⟩ = some (.slice sa ft.fs.length sc) := fun j => by rw [cells_cell (Nw.keep j.nw hbx)]; rfl
        have g3 : ∀ j : Later wo, j.1.cell? ⟨w.heap.size + 1, 0, none⟩ = some (.int .i64 v.kind) := fun j => (HC.out j.1 ((hw.out.trans n0).trans j.nw)).2.1
        have g4 : ∀ j : Later wo, j.1.cell? ⟨w.heap.size + 1, 1, none⟩ = some (.int .i64 v.n) := fun j => (HC.out j.1 ((hw.out.trans n0).trans j.nw)).2.2.1
        have g5 : ∀ j : Later wo, j.1.cell? ⟨w.heap.size + 1, 2, none⟩ = some (.slice na v.names.length nc) := fun j => (HC.out j.1 ((hw.out.trans n0).trans j.nw)).2.2.2.1
        have g6 : ∀ j : Later wo, j.1.cell? ⟨w.heap.size + 1, 3, none⟩ = some (.slice (some ⟨b', off', none⟩) v.vals.length vc) := fun j => (HC.out j.1 ((hw.out.trans n0).trans j.nw)).2.2.2.2
        clear HFC HNC HVC hix hfit hx he hat hc' q0 q1 q2 q3 q4 hwo n0 hbx hfd43
        generalize v.vals[i] = xv at *
        go_upto_region 11 with fail
        rw [← HWO.out]
        clear HWO c0 c1 d0 d1 d2 d3 y0 y1 y2
        refine wp_region_nw (by kernel_rfl) (by kernel_rfl) ?_
        repeat (go_big_quiet_step ((first | (go_at_call 91; exact later_call (HT1.out _ (Later.nw _))) | (go_at_call 52; exact later_call (HT2.out _ (Later.nw _))))))
        refine wpQuiet_nil ?_
        intro w3 u3
        replace u3 := later_out u3
        have HU3 := Lib.hid u3
        have g10 : w3.cell? ⟨wr.heap.size, 0, none⟩ = some (.string ⟨s.toArray⟩) := by rw [cells_cell (Nw.keep u3 HBX.out)]; rfl
        have ht1 := Lib.hid (Text_q ⟨s.toArray⟩ s (bs_list _) w3 (by have := HSLEN.out.1; omega))
        clear u3 g0 g1 g2 g3 g4 g5 g6
        go_wp2_with fail
        (with_reducible refine (ht1.out).mono ?_)
        rintro _ w4 ⟨rfl, u4⟩
        have ht2 := Lib.hid (Text_q ⟨(Fm.writeF d ft xv).toArray⟩ _ (bs_list _) w4 (by have := HSLEN.out.2; omega))
        have HU4 := Lib.hid (HU3.out.trans u4)
        have hsum : (x ++ ⟨(Wire.textE s).toArray⟩).size ≤ 800000 := by
          have h6 : (x ++ ⟨(Wire.textE s).toArray⟩).size = x.size + (Wire.textE s).length := by
            rw [bs_size (x ++ _), bs_append_list, bs_list, List.length_append, ← bs_size x]
          rw [h6]; omega
        clear u4
        go_wp2_with fail
        (with_reducible refine (ht2.out).mono ?_)
        rintro _ w5 ⟨rfl, u5⟩
        have HU5 := Lib.hid ((hw.out.trans HN0.out).trans (HU4.out.trans u5))
        clear u5
        go_wp2_with fail
        go_roundw
        case rel =>
          refine ⟨n + 1, _, by omega, by go_num, rfl, ?_, HU5.out⟩
          show _ = _
          rw [HS.out, HFD.out, bs_append_list, bs_append_list, bs_list, bs_list, HX.out]
          simp only [List.append_assoc]
        case measure => simp [intOf]; omega
      · obtain rfl : n = t.fs.length := by omega
        clear HFC HNC HVC
        go_wp2_with fail
        go_ret
        refine ⟨ret_bs ?_, HN.out.trans hw.out⟩
        rw [E9.out, HX.out, List.take_length]
end Go.Proofs.YthagiklfmkdmaaaGreatDoor
