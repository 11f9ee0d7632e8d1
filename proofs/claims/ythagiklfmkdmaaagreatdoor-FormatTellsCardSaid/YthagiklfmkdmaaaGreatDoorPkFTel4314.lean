/- The reference's right values (ladingref19): Ascending, fits, Right. -/
import Derived.Test.YthagiklfmkdmaaaGreatDoorPkFTel4313
import Derived.Test.YthagiklfmkdmaaaGreatDoorPkFTel432
namespace Go.Proofs.YthagiklfmkdmaaaGreatDoor
open Go.RowKit
set_option linter.unusedVariables false
set_option linter.unusedSimpArgs false
attribute [local irreducible] Calls
open Fm (Ty Vl Str nameB rightTy rightVl)

set_option maxRecDepth 100000 in
theorem Ascending_r (a : Option Addr) (cap : Nat) (l : List Str) (w : World) (h : StrC w a l) (hl : l.length ≤ maxLen) :
    Calls Tryz.prog 157 #[.slice a l.length cap] w fun e w' => e = .returned (.bool (Fm.asc l)) ∧ Nw w w' := by
  have HC := Lib.hid h
  unfold maxLen at hl
  have hl1 : (l.length : Int) ≤ 9223372036854775807 := by omega
  clear h
  go_enter Tryz.func157, Tryz.ntmps157
  go_wp2_with fail
  go_loopw [3] (fun i wr => ∃ n : Nat, n ≤ l.length ∧ i = .int .i64 (n + 1 : Nat) ∧ Hid (∀ j (h : j + 1 < l.length), j < n → Op.bytesLess (l[j]'(by omega)) l[j + 1] = true) ∧ Hid (Nw w wr)) (fun i _ => l.length - (intOf i).toNat)
  case atStart => exact ⟨0, Nat.zero_le _, rfl, fun j _ h => absurd h (Nat.not_lt_zero _), Upd.refl _ _⟩
  case round =>
    obtain ⟨n, hn, rfl, HA, U⟩ := hrel
    by_cases hlt : n + 1 < l.length
    · have hlt1 : ((n + 1 : Nat) : Int) < l.length := by omega
      have hlt2 : (n : Int) + 1 < l.length := by omega
      have hlt3 : (n : Int) < l.length := by omega
      rcases HC.out with hnil | ⟨b, off, rfl, _, hcell⟩
      · simp [hnil] at hlt
      have c0 : ∀ i : Later wr, i.1.cell? ⟨b, off + n, none⟩ = some (.string ⟨(l[n]'(by omega)).toArray⟩) := fun i => nw_cellF (U.out.trans i.nw) (hcell n (by omega)).1
      have c1 : ∀ i : Later wr, i.1.cell? ⟨b, off + (n + 1), none⟩ = some (.string ⟨(l[n + 1]).toArray⟩) := fun i => nw_cellF (U.out.trans i.nw) (hcell (n + 1) hlt).1
      have HB : Hid (Op.bytesLess (l[n]'(by omega)) l[n + 1] = false → Fm.asc l = false) := fun e => by
        cases hc : Fm.asc l with
        | false => rfl
        | true => have := Fm.asc_iff.1 hc n hlt; rw [show Op.bytesLess (l[n]'(by omega)) l[n + 1] = true from this] at e; cases e
      have HS : Hid (Op.bytesLess (l[n]'(by omega)) l[n + 1] = true → ∀ j (h : j + 1 < l.length), j < n + 1 → Op.bytesLess (l[j]'(by omega)) l[j + 1] = true) := fun e j hj hjn => by
        by_cases ej : j = n
        · subst ej; exact e
        · exact HA.out j hj (by omega)
      clear hcell HA
      generalize l[n]'(by omega) = x at *
      generalize l[n + 1] = y at *
      cases hb : Op.bytesLess x y with
      | false =>
        have e9 := Lib.hid (HB.out hb)
        clear HB HS
        go_wp2_with fail
        refine wp_region_nw (by kernel_rfl) (by kernel_rfl) ?_
        repeat (go_big_quiet_step ((fail)))
        refine wpQuiet_nil ?_
        intro w3 u3
        replace u3 := later_out u3
        go_wp2_with fail
        go_ret
        exact ⟨by rw [e9.out]; rfl, U.out.trans u3⟩
      | true =>
        have hz := Lib.hid (HS.out hb)
        clear HB HS
        go_wp2_with fail
        refine wp_region_nw (by kernel_rfl) (by kernel_rfl) ?_
        repeat (go_big_quiet_step ((fail)))
        refine wpQuiet_nil ?_
        intro w3 u3
        replace u3 := later_out u3
        go_wp2_with fail
        go_roundw
        case rel => exact ⟨n + 1, by omega, by go_num, hz.out, U.out.trans u3⟩
        case measure => simp [intOf]; omega
    · have e9 : Hid (Fm.asc l = true) := Fm.asc_iff.2 fun i hi => HA.out i hi (by omega)
      have d9 : decide (((n + 1 : Nat) : Int) < l.length) = false := decide_eq_false (by omega)
      have d8 : decide ((n : Int) + 1 < l.length) = false := decide_eq_false (by omega)
      have d7 : ¬ ((n : Int) + 1 < l.length) := by omega
      clear HA
      go_wp2_with fail
      go_ret
      exact ⟨by rw [e9.out]; rfl, U.out⟩
theorem rv_lastA {d : Nat} {v : Vl} (hk : v.kind = 2) (hn : v.n = 0) (hl : v.names.length = v.vals.length) (h8 : v.names.length ≤ 8) (ha : Fm.asc v.names = true) : rightVl (d + 1) v = v.vals.all (rightVl d) := by
  rw [rv_last hk hn hl h8 ha, List.not_any_eq_all_not]
  simp
set_option maxHeartbeats 4000000 in
set_option maxRecDepth 100000 in
theorem fits_r (P : Nat → Prop) : ∀ (d : Nat), d ≤ 4 → ∀ (nv vv : Value) (v : Vl) (w : World), VlAt P w nv vv v →
    Calls Tryz.prog 127 #[.agg #[.int .i64 v.kind, .int .i64 v.n, nv, vv], .int .i64 d] w fun e w' => e = .returned (.bool (rightVl d v)) ∧ Nw w w' := by
  intro d
  induction d with
  | zero =>
    intro _ nv vv v w h
    have HN := Lib.hid (nw_alloc w (.cells #[.int .i64 v.kind, .int .i64 v.n, nv, vv] tVl))
    obtain ⟨na, nc, rfl, -⟩ := h.names
    obtain ⟨va, vc, rfl, -⟩ := h.vals
    clear h
    go_enter Tryz.func127, Tryz.ntmps127
    go_wp2_with fail
    go_ret
    exact ⟨rfl, HN.out⟩
  | succ d ih =>
    intro hd nv vv v w h
    have IH := Lib.hid (ih (by omega))
    clear ih
    have hd0 : decide (((d + 1 : Nat) : Int) < 1) = false := decide_eq_false (by omega)
    have hd9 : decide ((d : Int) + 1 < 1) = false := decide_eq_false (by omega)
    have hd6 : (d : Int) ≤ 6 := by omega
    have hdp : (0 : Int) ≤ (d : Int) := by omega
    have hcast : ((d + 1 : Nat) : Int) = (d : Int) + 1 := by omega
    obtain ⟨na, nc, rfl, hnl, hnc⟩ := h.names
    obtain ⟨va, vc, rfl, hvl, hvc⟩ := h.vals
    have n1 := nw_alloc w (.cells #[.int .i64 v.kind, .int .i64 v.n, .slice na v.names.length nc, .slice va v.vals.length vc] tVl)
    have b1 := heap_new w (.cells #[.int .i64 v.kind, .int .i64 v.n, .slice na v.names.length nc, .slice va v.vals.length vc] tVl)
    obtain ⟨W, hW⟩ : ∃ W, W = w.alloc (.cells #[.int .i64 v.kind, .int .i64 v.n, .slice na v.names.length nc, .slice va v.vals.length vc] tVl) := ⟨_, rfl⟩
    rw [← hW] at n1 b1
    have HN := Lib.hid n1
    have HW := Lib.hid hW
    have HC : Hid (∀ y, Nw W y → y.cell? ⟨w.heap.size, 0, none⟩ = some (.int .i64 v.kind) ∧ y.cell? ⟨w.heap.size, 1, none⟩ = some (.int .i64 v.n) ∧ y.cell? ⟨w.heap.size, 2, none⟩ = some (.slice na v.names.length nc) ∧ y.cell? ⟨w.heap.size, 3, none⟩ = some (.slice va v.vals.length vc)) := fun y u => cell4F (Nw.keep u b1)
    obtain ⟨c0, c1, c2, c3⟩ := HC.out W (Upd.refl _ _)
    unfold maxLen at hnl hvl
    have hnl1 : (v.names.length : Int) ≤ 9223372036854775807 := by omega
    have hvl1 : (v.vals.length : Int) ≤ 9223372036854775807 := by omega
    have HV := Lib.hid h
    have HNC : Hid (StrC w na v.names) := hnc
    have HVC : Hid (VsC P w va v.vals) := hvc
    rw [hcast]
    clear h hnc hvc n1 b1 hW
    have hE0 : v.names.length = 0 ↔ v.names = [] := List.length_eq_zero_iff
    have hE1 : v.vals.length = 0 ↔ v.vals = [] := List.length_eq_zero_iff
    have HE := Lib.hid (And.intro hE0 hE1)
    clear hE0 hE1
    go_enter Tryz.func127, Tryz.ntmps127
    go_upto_region 1 with fail
    rw [← HW.out]
    clear HW
    by_cases kr : 0 ≤ v.kind ∧ v.kind < 3
    rotate_left
    · have e0 : Hid (rightVl (d + 1) v = false) := rv_no (fun r => by have := r.k; omega)
      by_cases k0 : v.kind < 0
      · -- false the value, e0.out the equation's proof
        have e9 : Hid (rightVl (d + 1) v = false) := e0.out
        clear HV
        go_wp2_with fail
        go_ret
        exact ⟨by rw [e9.out]; rfl, HN.out⟩
      · have k1 : decide (v.kind < 0) = false := decide_eq_false k0
        have k3 : decide ((3 : Int) ≤ v.kind) = true := decide_eq_true (by omega)
        have k4 : (3 : Int) ≤ v.kind := by omega
        -- false the value, e0.out the equation's proof
        have e9 : Hid (rightVl (d + 1) v = false) := e0.out
        clear HV
        go_wp2_with fail
        go_ret
        exact ⟨by rw [e9.out]; rfl, HN.out⟩
    have k01 : decide (v.kind < 0) = false := decide_eq_false (by omega)
    have k02 : decide ((3 : Int) ≤ v.kind) = false := decide_eq_false (by omega)
    have KR := Lib.hid kr
    clear kr
    by_cases h5 : v.names.length = v.vals.length
    rotate_left
    · have e5 : (((v.names.length : Nat) : Int) == ((v.vals.length : Nat) : Int)) = false := by simp; omega
      have e6 : (((v.names.length : Nat) : Int) != ((v.vals.length : Nat) : Int)) = true := by simp; omega
      have e7 : (v.names.length == v.vals.length) = false := by simp [h5]
      have e8 : (v.names.length != v.vals.length) = true := by simp [h5]
      have e9' : Hid (rightVl (d + 1) v = false) := rv_no (fun r => h5 r.len)
      clear h5
      -- false the value, e9'.out the equation's proof
      have e9 : Hid (rightVl (d + 1) v = false) := e9'.out
      clear HV
      go_wp2_with fail
      go_ret
      exact ⟨by rw [e9.out]; rfl, HN.out⟩
    have e5 : (((v.names.length : Nat) : Int) == ((v.vals.length : Nat) : Int)) = true := by simp; omega
    have e6 : (((v.names.length : Nat) : Int) != ((v.vals.length : Nat) : Int)) = false := by simp; omega
    have e7 : (v.names.length == v.vals.length) = true := by simp [h5]
    have e8 : (v.names.length != v.vals.length) = false := by simp [h5]
    have H5 := Lib.hid h5
    clear h5
    by_cases k0 : v.kind = 0
    · have e0 : (v.kind == 0) = true := by simp [k0]
      by_cases h1 : v.names.length = 0
      · have e1 : (((v.names.length : Nat) : Int) == 0) = true := eq0 h1
        have h2 : v.vals.length = 0 := by rw [← H5.out]; exact h1
        have e9' : Hid (rightVl (d + 1) v = true) := Fm.rv_iff.2 ⟨by omega, by omega, by rw [HE.out.1.1 h1]; rfl, fun x hx => (by rw [HE.out.2.1 h2] at hx; cases hx), Or.inl k0, fun _ => ⟨HE.out.1.1 h1, HE.out.2.1 h2⟩, fun e => by omega, fun e => by omega⟩
        clear h1 h2 k0
        -- true the value, e9'.out the equation's proof
        have e9 : Hid (rightVl (d + 1) v = true) := e9'.out
        clear HV
        go_wp2_with fail
        go_ret
        exact ⟨by rw [e9.out]; rfl, HN.out⟩
      · have e1 : (((v.names.length : Nat) : Int) == 0) = false := ne0 h1
        have e9' : Hid (rightVl (d + 1) v = false) := rv_no (fun r => h1 (HE.out.1.2 (r.flat (by omega)).1))
        clear h1 k0
        -- false the value, e9'.out the equation's proof
        have e9 : Hid (rightVl (d + 1) v = false) := e9'.out
        clear HV
        go_wp2_with fail
        go_ret
        exact ⟨by rw [e9.out]; rfl, HN.out⟩
    have e0 : (v.kind == 0) = false := by simp [k0]
    by_cases k1 : v.kind = 1
    · have e10 : (v.kind == 1) = true := by simp [k1]
      by_cases h1 : v.names.length = 0
      · have e1 : (((v.names.length : Nat) : Int) == 0) = true := eq0 h1
        have h2 : v.vals.length = 0 := by rw [← H5.out]; exact h1
        by_cases h3 : 0 ≤ v.n ∧ v.n ≤ 1
        · have e3 : decide (0 ≤ v.n) = true := decide_eq_true h3.1
          have e4 : decide (v.n ≤ 1) = true := decide_eq_true h3.2
          have e9' : Hid (rightVl (d + 1) v = true) := Fm.rv_iff.2 ⟨by omega, by omega, by rw [HE.out.1.1 h1]; rfl, fun x hx => (by rw [HE.out.2.1 h2] at hx; cases hx), Or.inr (Or.inl k1), fun _ => ⟨HE.out.1.1 h1, HE.out.2.1 h2⟩, fun e => by omega, fun e => by omega⟩
          clear h1 h2 h3 k0 k1
          -- true the value, e9'.out the equation's proof
          have e9 : Hid (rightVl (d + 1) v = true) := e9'.out
          clear HV
          go_wp2_with fail
          go_ret
          exact ⟨by rw [e9.out]; rfl, HN.out⟩
        · have e9' : Hid (rightVl (d + 1) v = false) := rv_no (fun r => by have := r.n1 k1; omega)
          by_cases h4 : 0 ≤ v.n
          · have e3 : decide (0 ≤ v.n) = true := decide_eq_true h4
            have e4 : decide (v.n ≤ 1) = false := decide_eq_false (fun e => h3 ⟨h4, e⟩)
            clear h1 h2 h3 k0 k1
            -- false the value, e9'.out the equation's proof
            have e9 : Hid (rightVl (d + 1) v = false) := e9'.out
            clear HV
            go_wp2_with fail
            go_ret
            exact ⟨by rw [e9.out]; rfl, HN.out⟩
          · have e3 : decide (0 ≤ v.n) = false := decide_eq_false h4
            clear h1 h2 h3 k0 k1
            -- false the value, e9'.out the equation's proof
            have e9 : Hid (rightVl (d + 1) v = false) := e9'.out
            clear HV
            go_wp2_with fail
            go_ret
            exact ⟨by rw [e9.out]; rfl, HN.out⟩
      · have e1 : (((v.names.length : Nat) : Int) == 0) = false := ne0 h1
        have e9' : Hid (rightVl (d + 1) v = false) := rv_no (fun r => h1 (HE.out.1.2 (r.flat (by omega)).1))
        clear h1 k0 k1
        -- false the value, e9'.out the equation's proof
        have e9 : Hid (rightVl (d + 1) v = false) := e9'.out
        clear HV
        go_wp2_with fail
        go_ret
        exact ⟨by rw [e9.out]; rfl, HN.out⟩
    have e10 : (v.kind == 1) = false := by simp [k1]
    have k2 : v.kind = 2 := by have := KR.out; omega
    by_cases h3 : v.n = 0
    rotate_left
    · have e3 : (v.n == 0) = false := by simp [h3]
      have e4 : (v.n != 0) = true := by simp [h3]
      have e9' : Hid (rightVl (d + 1) v = false) := rv_no (fun r => h3 (r.n2 k2))
      clear h3 k0 k1 k2
      -- false the value, e9'.out the equation's proof
      have e9 : Hid (rightVl (d + 1) v = false) := e9'.out
      clear HV
      go_wp2_with fail
      go_ret
      exact ⟨by rw [e9.out]; rfl, HN.out⟩
    have e3 : (v.n == 0) = true := by simp [h3]
    have e4 : (v.n != 0) = false := by simp [h3]
    by_cases h8 : (8 : Int) < (v.names.length : Nat)
    · have e11 : decide ((8 : Int) < (v.names.length : Nat)) = true := decide_eq_true h8
      have e9' : Hid (rightVl (d + 1) v = false) := rv_no (fun r => by have := r.le; omega)
      clear h3 k0 k1 k2 h8
      -- false the value, e9'.out the equation's proof
      have e9 : Hid (rightVl (d + 1) v = false) := e9'.out
      clear HV
      go_wp2_with fail
      go_ret
      exact ⟨by rw [e9.out]; rfl, HN.out⟩
    have e11 : decide ((8 : Int) < (v.names.length : Nat)) = false := decide_eq_false h8
    have H8 : Hid (v.names.length ≤ 8) := by show _ ≤ _; omega
    have hasc := Lib.hid (Ascending_r na nc v.names W (HNC.out.imp id (fun ⟨b, off, e, hb, hc⟩ => ⟨b, off, e, Nat.lt_of_lt_of_le hb HN.out.size, fun i hi => ⟨nw_cellF HN.out (hc i hi).1, (hc i hi).2⟩⟩)) (by unfold maxLen; omega))
    clear h8
    cases ha : Fm.asc v.names with
    | false =>
      rw [ha] at hasc
      have e9 : Hid (rightVl (d + 1) v = false) := rv_no (fun r => by rw [r.asc] at ha; cases ha)
      clear ha h3 k0 k1 k2
      go_wp2_with fail
      (with_reducible refine (hasc.out).mono ?_)
      rintro _ w2 ⟨rfl, u2⟩
      have U2 := Lib.hid u2
      clear u2
      go_wp2_with fail
      go_ret
      exact ⟨by rw [e9.out]; rfl, HN.out.trans U2.out⟩
    | true =>
      rw [ha] at hasc
      have e9 := Lib.hid (rv_lastA (d := d) k2 h3 H5.out H8.out ha)
      clear ha k0 k1 k2 h3
      have hvl8 : (v.vals.length : Int) ≤ 8 := by have := H5.out; have := H8.out; omega
      go_wp2_with fail
      (with_reducible refine (hasc.out).mono ?_)
      rintro _ w2 ⟨rfl, u2⟩
      have U2 := Lib.hid u2
      clear u2 hasc c0 c1 c2 c3
      go_wp2_with fail
      go_loopw [5] (fun iv wr => ∃ n : Nat, n ≤ v.vals.length ∧ iv = .int .i64 (n : Int) ∧ Hid (∀ i (h : i < v.vals.length), i < n → rightVl d (v.vals[i]) = true) ∧ Hid (Nw W wr)) (fun iv _ => v.vals.length - (intOf iv).toNat)
      case atStart => exact ⟨0, Nat.zero_le _, rfl, (fun i h h2 => by omega), U2.out⟩
      case round =>
        obtain ⟨n, hn, rfl, hA, hw⟩ := hrel
        obtain ⟨c0, c1, c2, c3⟩ := HC.out wr hw.out
        by_cases hlt : n < v.vals.length
        · have hlt1 : (n : Int) < v.vals.length := by omega
          have hn9 : (n : Int) ≤ 8 := by omega
          have hn0 : decide ((n : Int) < 0) = false := decide_eq_false (by omega)
          rcases HVC.out with hnil | ⟨b, off, rfl, hb, hcell⟩
          · rw [hnil] at hlt; simp at hlt
          obtain ⟨nv', vv', p0, p1, p2, p3, hvl'⟩ := hcell n hlt
          obtain ⟨fa, fc, hfa, -⟩ := hvl'.names
          obtain ⟨ea, ec, hea, -⟩ := hvl'.vals
          subst hfa hea
          have y0 := nw_cellF (HN.out.trans hw.out) p0
          have y1 := nw_cellF (HN.out.trans hw.out) p1
          have y2 := nw_cellF (HN.out.trans hw.out) p2
          have y3 := nw_cellF (HN.out.trans hw.out) p3
          have hrec := Lib.hid (IH.out _ _ _ wr (hvl'.nw (HN.out.trans hw.out)))
          have hnx : Hid (rightVl d (v.vals[n]) = true → ∀ i (h : i < v.vals.length), i < n + 1 → rightVl d (v.vals[i]) = true) := fun e i h h2 => by
            by_cases ei : i = n
            · subst ei; exact e
            · exact hA.out i h (by omega)
          have hst : Hid (rightVl d (v.vals[n]) = false → rightVl (d + 1) v = false) := fun e => by
            rw [e9.out]
            exact List.all_eq_false.2 ⟨_, List.getElem_mem hlt, by rw [e]; simp⟩
          clear hcell p0 p1 p2 p3 hvl'
          generalize v.vals[n] = x at *
          cases hr : rightVl d x with
          | true =>
            rw [hr] at hrec
            have hB := Lib.hid (hnx.out hr)
            clear hr hnx hst
            go_wp2_with fail
            (with_reducible refine (hrec.out).mono ?_)
            rintro _ w4 ⟨rfl, u4⟩
            have U4 := Lib.hid (hw.out.trans u4)
            clear u4
            go_wp2_with fail
            go_roundw
            case rel => exact ⟨n + 1, by omega, by go_num, hB.out, U4.out⟩
            case measure => simp [intOf]; omega
          | false =>
            rw [hr] at hrec
            have e := Lib.hid (hst.out hr)
            clear hr hnx hst
            go_wp2_with fail
            (with_reducible refine (hrec.out).mono ?_)
            rintro _ w4 ⟨rfl, u4⟩
            have U4 := Lib.hid (hw.out.trans u4)
            clear u4
            go_wp2_with fail
            go_ret
            exact ⟨by rw [e.out]; rfl, HN.out.trans U4.out⟩
        · obtain rfl : n = v.vals.length := by omega
          have e : Hid (rightVl (d + 1) v = true) := by
            show _ = _
            rw [e9.out]
            exact List.all_eq_true.2 (fun x hx => by obtain ⟨i, hi, rfl⟩ := List.mem_iff_getElem.1 hx; exact hA.out i hi hi)
          go_wp2_with fail
          go_ret
          exact ⟨by rw [e.out]; rfl, HN.out.trans hw.out⟩
set_option maxRecDepth 100000 in
theorem vlRight_r (P : Nat → Prop) (nv vv : Value) (v : Vl) (w : World) (h : VlAt P w nv vv v) : Calls Tryz.prog 87 #[.agg #[.int .i64 v.kind, .int .i64 v.n, nv, vv]] w fun e w' => e = .returned (.bool (rightVl 4 v)) ∧ Nw w w' := by
  have n1 := nw_alloc w (.cells #[.int .i64 v.kind, .int .i64 v.n, nv, vv] tVl)
  have hr : Hid (∀ z, Nw w z → Calls Tryz.prog 127 #[.agg #[.int .i64 v.kind, .int .i64 v.n, nv, vv], .int .i64 4] z fun e w' => e = .returned (.bool (rightVl 4 v)) ∧ Nw z w') := fun z u2 => fits_r P 4 (by decide) nv vv v z (h.nw u2)
  have HU := Lib.hid n1
  obtain ⟨na, nc, rfl, -⟩ := h.names
  obtain ⟨va, vc, rfl, -⟩ := h.vals
  have hr1 := Lib.hid (hr.out _ n1)
  clear hr n1 h
  go_enter Tryz.func87, Tryz.ntmps87
  go_wp2_with fail
  (with_reducible refine (hr1.out).mono ?_)
  rintro _ w2 ⟨rfl, u2⟩
  have U2 := Lib.hid (HU.out.trans u2)
  clear u2
  go_wp2_with fail
  go_ret
  exact ⟨rfl, U2.out⟩
end Go.Proofs.YthagiklfmkdmaaaGreatDoor
