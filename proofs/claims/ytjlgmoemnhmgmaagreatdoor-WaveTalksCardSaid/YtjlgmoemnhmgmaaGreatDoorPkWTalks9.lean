/- Right values; a value has a type. -/
import Derived.Test.YtjlgmoemnhmgmaaGreatDoorPkWTalks8
namespace Go.Proofs.YtjlgmoemnhmgmaaGreatDoor
open Go.RowKit
set_option linter.unusedVariables false
set_option linter.unusedSimpArgs false
attribute [local irreducible] Calls
open Fm (Ty Vl Str nameB rightTy rightVl)

set_option maxRecDepth 100000 in
theorem ascending_c (a : Option Addr) (cap : Nat) (l : List Str) (w : World) (h : StrC w a l) (hl : l.length ≤ maxLen) :
    Calls Tryz.prog 115 #[.slice a l.length cap] w fun e w' => e = .returned (.bool (Fm.asc l)) ∧ Nw w w' := by
  have HC := Lib.hid h
  unfold maxLen at hl
  have hl1 : (l.length : Int) ≤ 9223372036854775807 := by omega
  clear h
  go_enter Tryz.func115, Tryz.ntmps115
  go_wp2_with fail
  go_loopw [3] (fun i wr => ∃ n : Nat, n ≤ l.length ∧ i = .int .i64 (n + 1 : Nat) ∧ Hid (∀ j (h : j + 1 < l.length), j < n → Op.bytesLess (l[j]'(by omega)) l[j + 1] = true) ∧ Hid (Nw w wr)) (fun i _ => l.length - (intOf i).toNat)
  case atStart => exact ⟨0, Nat.zero_le _, rfl, fun j _ h => absurd h (Nat.not_lt_zero _), Upd.refl _ _⟩
  case round =>
    obtain ⟨n, hn, rfl, HA, U⟩ := hrel
    by_cases hlt : n + 1 < l.length
    · have hlt1 : ((n + 1 : Nat) : Int) < l.length := by omega
      have hlt2 : (n : Int) + 1 < l.length := by omega
      have hlt3 : (n : Int) < l.length := by omega
      rcases HC.out with hnil | ⟨b, off, rfl, _, hcell⟩
      · simp [hnil] at hlt
      have c0 : ∀ i : Later wr, i.1.cell? ⟨b, off + n, none⟩ = some (.string ⟨(l[n]'(by omega)).toArray⟩) := fun i => nw_cellF (U.out.trans i.nw) (hcell n (by omega)).1
      have c1 : ∀ i : Later wr, i.1.cell? ⟨b, off + (n + 1), none⟩ = some (.string ⟨(l[n + 1]).toArray⟩) := fun i => nw_cellF (U.out.trans i.nw) (hcell (n + 1) hlt).1
      have HB : Hid (Op.bytesLess (l[n]'(by omega)) l[n + 1] = false → Fm.asc l = false) := fun e => by
        cases hc : Fm.asc l with
        | false => rfl
        | true => have := Fm.asc_iff.1 hc n hlt; rw [show Op.bytesLess (l[n]'(by omega)) l[n + 1] = true from this] at e; cases e
      have HS : Hid (Op.bytesLess (l[n]'(by omega)) l[n + 1] = true → ∀ j (h : j + 1 < l.length), j < n + 1 → Op.bytesLess (l[j]'(by omega)) l[j + 1] = true) := fun e j hj hjn => by
        by_cases ej : j = n
        · subst ej; exact e
        · exact HA.out j hj (by omega)
      clear hcell HA
      generalize l[n]'(by omega) = x at *
      generalize l[n + 1] = y at *
      cases hb : Op.bytesLess x y with
      | false =>
        have e9 := Lib.hid (HB.out hb)
        clear HB HS
        go_wp2_with fail
        refine wp_region_nw (by kernel_rfl) (by kernel_rfl) ?_
        repeat (go_big_quiet_step ((fail)))
        refine wpQuiet_nil ?_
        intro w3 u3
        replace u3 := later_out u3
        go_wp2_with fail
        go_ret
        exact ⟨by rw [e9.out]; rfl, U.out.trans u3⟩
      | true =>
        have hz := Lib.hid (HS.out hb)
        clear HB HS
        go_wp2_with fail
        refine wp_region_nw (by kernel_rfl) (by kernel_rfl) ?_
        repeat (go_big_quiet_step ((fail)))
        refine wpQuiet_nil ?_
        intro w3 u3
        replace u3 := later_out u3
        go_wp2_with fail
        go_roundw
        case rel => exact ⟨n + 1, by omega, by go_num, hz.out, U.out.trans u3⟩
        case measure => simp [intOf]; omega
    · have e9 : Hid (Fm.asc l = true) := Fm.asc_iff.2 fun i hi => HA.out i hi (by omega)
      have d9 : decide (((n + 1 : Nat) : Int) < l.length) = false := decide_eq_false (by omega)
      have d8 : decide ((n : Int) + 1 < l.length) = false := decide_eq_false (by omega)
      have d7 : ¬ ((n : Int) + 1 < l.length) := by omega
      clear HA
      go_wp2_with fail
      go_ret
      exact ⟨by rw [e9.out]; rfl, U.out⟩
theorem eq0 {n : Nat} (h : n = 0) : ((n : Int) == 0) = true := by subst h; rfl
theorem ne0 {n : Nat} (h : ¬ n = 0) : ((n : Int) == 0) = false := by simp; exact h
theorem rv_no {d : Nat} {v : Vl} (h : Fm.Rv d v → False) : rightVl (d + 1) v = false := by
  cases hc : rightVl (d + 1) v with
  | false => rfl
  | true => exact (h (Fm.rv_iff.1 hc)).elim
theorem rv_last {d : Nat} {v : Vl} (hk : v.kind = 2) (hn : v.n = 0) (hl : v.names.length = v.vals.length) (h8 : v.names.length ≤ 8) (ha : Fm.asc v.names = true) : rightVl (d + 1) v = !(v.vals.any fun x => !rightVl d x) := by
  show (if v.kind = 0 ∨ v.kind = 1 then v.names.isEmpty && v.vals.isEmpty && (decide (v.kind = 0) || decide (v.n = 0) || decide (v.n = 1)) else decide (v.kind = 2) && decide (v.n = 0) && decide (v.names.length = v.vals.length) && decide (v.names.length ≤ 8) && Fm.asc v.names && v.vals.all (rightVl d)) = _
  rw [if_neg (by omega), decide_eq_true hk, decide_eq_true hn, decide_eq_true hl, decide_eq_true h8, ha]
  simp only [Bool.true_and]
  rw [Bool.eq_iff_iff]
  simp
set_option maxHeartbeats 4000000 in
set_option maxRecDepth 100000 in
theorem evfits_c (P : Nat → Prop) : ∀ (d : Nat), d ≤ 4 → ∀ (nv vv : Value) (v : Vl) (w : World), VlAt P w nv vv v →
    Calls Tryz.prog 97 #[.agg #[.int .i64 v.kind, .int .i64 v.n, nv, vv], .int .i64 d] w fun e w' => e = .returned (.bool (rightVl d v)) ∧ Nw w w' := by
  intro d
  induction d with
  | zero =>
    intro _ nv vv v w h
    have n1 := (nw_alloc w (.cells #[.int .i64 v.kind, .int .i64 v.n, nv, vv] tVl)).trans (nw_alloc _ (.cells #[.int .i64 0] 3))
    obtain ⟨na, nc, rfl, -⟩ := h.names
    obtain ⟨va, vc, rfl, -⟩ := h.vals
    clear h
    go_enter Tryz.func97, Tryz.ntmps97
    go_wp2_with fail
    go_ret
    exact ⟨rfl, n1⟩
  | succ d ih =>
    intro hd nv vv v w h
    have IH := Lib.hid (ih (by omega))
    clear ih
    have hd0 : (((d + 1 : Nat) : Int) == 0) = false := by simp; omega
    have hd9 : ((d : Int) + 1 == 0) = false := by simp; omega
    have hd1 : ((d + 1 : Nat) : Int) ≤ 4 := by omega
    obtain ⟨na, nc, rfl, hnl, hnc⟩ := h.names
    obtain ⟨va, vc, rfl, hvl, hvc⟩ := h.vals
    have n1 := nw_alloc w (.cells #[.int .i64 v.kind, .int .i64 v.n, .slice na v.names.length nc, .slice va v.vals.length vc] tVl)
    have n2 := nw_alloc (w.alloc (.cells #[.int .i64 v.kind, .int .i64 v.n, .slice na v.names.length nc, .slice va v.vals.length vc] tVl)) (.cells #[.int .i64 ((d : Int) + 1)] 3)
    have b1 := n2.keep (heap_new w (.cells #[.int .i64 v.kind, .int .i64 v.n, .slice na v.names.length nc, .slice va v.vals.length vc] tVl))
    have b2 := heap_new (w.alloc (.cells #[.int .i64 v.kind, .int .i64 v.n, .slice na v.names.length nc, .slice va v.vals.length vc] tVl)) (.cells #[.int .i64 ((d : Int) + 1)] 3)
    rw [World.size_alloc] at b2
    have hN := n1.trans n2
    obtain ⟨W, hW⟩ : ∃ W, W = (w.alloc (.cells #[.int .i64 v.kind, .int .i64 v.n, .slice na v.names.length nc, .slice va v.vals.length vc] tVl)).alloc (.cells #[.int .i64 ((d : Int) + 1)] 3) := ⟨_, rfl⟩
    rw [← hW] at hN b1 b2
    have HN := Lib.hid hN
    have HW := Lib.hid hW
    have c0 : W.cell? ⟨w.heap.size, 0, none⟩ = some (.int .i64 v.kind) := by rw [cells_cell b1]; rfl
    have c1 : W.cell? ⟨w.heap.size, 1, none⟩ = some (.int .i64 v.n) := by rw [cells_cell b1]; rfl
    have c2 : W.cell? ⟨w.heap.size, 2, none⟩ = some (.slice na v.names.length nc) := by rw [cells_cell b1]; rfl
    have c3 : W.cell? ⟨w.heap.size, 3, none⟩ = some (.slice va v.vals.length vc) := by rw [cells_cell b1]; rfl
    have c4 : W.cell? ⟨w.heap.size + 1, 0, none⟩ = some (.int .i64 ((d : Int) + 1)) := by rw [cells_cell b2]; rfl
    have HB1 := Lib.hid b1
    have HB2 := Lib.hid b2
    unfold maxLen at hnl hvl
    have hnl1 : (v.names.length : Int) ≤ 9223372036854775807 := by omega
    have hvl1 : (v.vals.length : Int) ≤ 9223372036854775807 := by omega
    have HV := Lib.hid h
    have HNC : Hid (StrC w na v.names) := hnc
    have HVC : Hid (VsC P w va v.vals) := hvc
    clear h hnc hvc n1 n2 b1 b2 hN hW
    have hE0 : v.names.length = 0 ↔ v.names = [] := List.length_eq_zero_iff
    have hE1 : v.vals.length = 0 ↔ v.vals = [] := List.length_eq_zero_iff
    have HE := Lib.hid (And.intro hE0 hE1)
    clear hE0 hE1
    go_enter Tryz.func97, Tryz.ntmps97
    go_upto_region 1 with fail
    rw [← HW.out]
    clear HW
    by_cases k0 : v.kind = 0
    · have e0 : (v.kind == 0) = true := by simp [k0]
      by_cases h1 : v.names.length = 0
      · by_cases h2 : v.vals.length = 0
        · have e1 : (((v.names.length : Nat) : Int) == 0) = true := eq0 h1
          have e2 : (((v.vals.length : Nat) : Int) == 0) = true := eq0 h2
          -- true the equation's proof of rightVl
          have e9 : Hid (rightVl (d + 1) v = true) := (Fm.rv_iff.2 ⟨by omega, by omega, by rw [HE.out.1.1 h1]; rfl, fun x hx => (by rw [HE.out.2.1 h2] at hx; cases hx), Or.inl k0, fun _ => ⟨HE.out.1.1 h1, HE.out.2.1 h2⟩, fun e => by omega, fun e => by omega⟩)
          clear HV
          go_wp2_with fail
          go_ret
          exact ⟨by rw [e9.out]; rfl, HN.out⟩
        · have e1 : (((v.names.length : Nat) : Int) == 0) = true := eq0 h1
          have e2 : (((v.vals.length : Nat) : Int) == 0) = false := ne0 h2
          -- false the equation's proof of rightVl
          have e9 : Hid (rightVl (d + 1) v = false) := (rv_no (fun r => h2 (HE.out.2.2 (r.flat (by omega)).2)))
          clear HV
          go_wp2_with fail
          go_ret
          exact ⟨by rw [e9.out]; rfl, HN.out⟩
      · have e1 : (((v.names.length : Nat) : Int) == 0) = false := ne0 h1
        -- false the equation's proof of rightVl
        have e9 : Hid (rightVl (d + 1) v = false) := (rv_no (fun r => h1 (HE.out.1.2 (r.flat (by omega)).1)))
        clear HV
        go_wp2_with fail
        go_ret
        exact ⟨by rw [e9.out]; rfl, HN.out⟩
    have e0 : (v.kind == 0) = false := by simp [k0]
    by_cases k1 : v.kind = 1
    · have e10 : (v.kind == 1) = true := by simp [k1]
      by_cases h1 : v.names.length = 0
      · by_cases h2 : v.vals.length = 0
        · have e1 : (((v.names.length : Nat) : Int) == 0) = true := eq0 h1
          have e2 : (((v.vals.length : Nat) : Int) == 0) = true := eq0 h2
          by_cases h3 : v.n = 0
          · have e3 : (v.n == 0) = true := by simp [h3]
            -- true the equation's proof of rightVl
            have e9 : Hid (rightVl (d + 1) v = true) := (Fm.rv_iff.2 ⟨by omega, by omega, by rw [HE.out.1.1 h1]; rfl, fun x hx => (by rw [HE.out.2.1 h2] at hx; cases hx), Or.inr (Or.inl k1), fun _ => ⟨HE.out.1.1 h1, HE.out.2.1 h2⟩, fun e => Or.inl h3, fun e => by omega⟩)
            clear HV
            go_wp2_with fail
            go_ret
            exact ⟨by rw [e9.out]; rfl, HN.out⟩
          · have e3 : (v.n == 0) = false := by simp [h3]
            by_cases h4 : v.n = 1
            · have e4 : (v.n == 1) = true := by simp [h4]
              -- true the equation's proof of rightVl
              have e9 : Hid (rightVl (d + 1) v = true) := (Fm.rv_iff.2 ⟨by omega, by omega, by rw [HE.out.1.1 h1]; rfl, fun x hx => (by rw [HE.out.2.1 h2] at hx; cases hx), Or.inr (Or.inl k1), fun _ => ⟨HE.out.1.1 h1, HE.out.2.1 h2⟩, fun e => Or.inr h4, fun e => by omega⟩)
              clear HV
              go_wp2_with fail
              go_ret
              exact ⟨by rw [e9.out]; rfl, HN.out⟩
            · have e4 : (v.n == 1) = false := by simp [h4]
              -- false the equation's proof of rightVl
              have e9 : Hid (rightVl (d + 1) v = false) := (rv_no (fun r => by have := r.n1 k1; omega))
              clear HV
              go_wp2_with fail
              go_ret
              exact ⟨by rw [e9.out]; rfl, HN.out⟩
        · have e1 : (((v.names.length : Nat) : Int) == 0) = true := eq0 h1
          have e2 : (((v.vals.length : Nat) : Int) == 0) = false := ne0 h2
          -- false the equation's proof of rightVl
          have e9 : Hid (rightVl (d + 1) v = false) := (rv_no (fun r => h2 (HE.out.2.2 (r.flat (by omega)).2)))
          clear HV
          go_wp2_with fail
          go_ret
          exact ⟨by rw [e9.out]; rfl, HN.out⟩
      · have e1 : (((v.names.length : Nat) : Int) == 0) = false := ne0 h1
        -- false the equation's proof of rightVl
        have e9 : Hid (rightVl (d + 1) v = false) := (rv_no (fun r => h1 (HE.out.1.2 (r.flat (by omega)).1)))
        clear HV
        go_wp2_with fail
        go_ret
        exact ⟨by rw [e9.out]; rfl, HN.out⟩
    have e10 : (v.kind == 1) = false := by simp [k1]
    by_cases k2 : v.kind = 2
    rotate_left
    · have e20 : (v.kind == 2) = false := by simp [k2]
      have e21 : (v.kind != 2) = true := by simp [k2]
      -- false the equation's proof of rightVl
      have e9 : Hid (rightVl (d + 1) v = false) := (rv_no (fun r => by have := r.k; omega))
      clear HV
      go_wp2_with fail
      go_ret
      exact ⟨by rw [e9.out]; rfl, HN.out⟩
    have e20 : (v.kind == 2) = true := by simp [k2]
    have e21 : (v.kind != 2) = false := by simp [k2]
    by_cases h3 : v.n = 0
    rotate_left
    · have e3 : (v.n == 0) = false := by simp [h3]
      have e4 : (v.n != 0) = true := by simp [h3]
      -- false the equation's proof of rightVl
      have e9 : Hid (rightVl (d + 1) v = false) := (rv_no (fun r => h3 (r.n2 k2)))
      clear HV
      go_wp2_with fail
      go_ret
      exact ⟨by rw [e9.out]; rfl, HN.out⟩
    have e3 : (v.n == 0) = true := by simp [h3]
    have e4 : (v.n != 0) = false := by simp [h3]
    by_cases h5 : v.names.length = v.vals.length
    rotate_left
    · have e5 : (((v.names.length : Nat) : Int) == ((v.vals.length : Nat) : Int)) = false := by simp; omega
      have e6 : (((v.names.length : Nat) : Int) != ((v.vals.length : Nat) : Int)) = true := by simp; omega
      have e7 : (v.names.length == v.vals.length) = false := by simp [h5]
      have e8 : (v.names.length != v.vals.length) = true := by simp [h5]
      have e9' : Hid (rightVl (d + 1) v = false) := rv_no (fun r => h5 r.len)
      clear h5
      -- false the equation's proof of rightVl
      have e9 : Hid (rightVl (d + 1) v = false) := e9'.out
      clear HV
      go_wp2_with fail
      go_ret
      exact ⟨by rw [e9.out]; rfl, HN.out⟩
    have e5 : (((v.names.length : Nat) : Int) == ((v.vals.length : Nat) : Int)) = true := by simp; omega
    have e6 : (((v.names.length : Nat) : Int) != ((v.vals.length : Nat) : Int)) = false := by simp; omega
    have e7 : (v.names.length == v.vals.length) = true := by simp [h5]
    have e8 : (v.names.length != v.vals.length) = false := by simp [h5]
    have H5 := Lib.hid h5
    clear h5
    by_cases h8 : (8 : Int) < (v.names.length : Nat)
    · have e11 : decide ((8 : Int) < (v.names.length : Nat)) = true := decide_eq_true h8
      -- false the equation's proof of rightVl
      have e9 : Hid (rightVl (d + 1) v = false) := (rv_no (fun r => by have := r.le; omega))
      clear HV
      go_wp2_with fail
      go_ret
      exact ⟨by rw [e9.out]; rfl, HN.out⟩
    have e11 : decide ((8 : Int) < (v.names.length : Nat)) = false := decide_eq_false h8
    have H8 : Hid (v.names.length ≤ 8) := by show _ ≤ _; omega
    have hasc := Lib.hid (ascending_c na nc v.names W (HNC.out.imp id (fun ⟨b, off, e, hb, hc⟩ => ⟨b, off, e, Nat.lt_of_lt_of_le hb HN.out.size, fun i hi => ⟨nw_cellF HN.out (hc i hi).1, (hc i hi).2⟩⟩)) (by unfold maxLen; omega))
    clear h8
    cases ha : Fm.asc v.names with
    | false =>
      rw [ha] at hasc
      have e9 : Hid (rightVl (d + 1) v = false) := rv_no (fun r => by rw [r.asc] at ha; cases ha)
      clear ha
      go_wp2_with fail
      (with_reducible refine (hasc.out).mono ?_)
      rintro _ w2 ⟨rfl, u2⟩
      have U2 := Lib.hid u2
      clear u2
      go_wp2_with fail
      go_ret
      exact ⟨by rw [e9.out]; rfl, HN.out.trans U2.out⟩
    | true =>
      rw [ha] at hasc
      have e9 := Lib.hid (rv_last (d := d) k2 h3 H5.out H8.out ha)
      clear ha k0 k1 k2 h3
      go_wp2_with fail
      (with_reducible refine (hasc.out).mono ?_)
      rintro _ w2 ⟨rfl, u2⟩
      have hcell2 : Hid (∀ y, Nw w2 y → y.cell? ⟨w.heap.size + 1, 0, none⟩ = some (.int .i64 ((d : Int) + 1))) := fun y u => nw_cellF (u2.trans u) c4
      have hclo : ∀ (y : World) (f : Vl) (nv vv : Value), Nw w2 y → VlAt P y nv vv f → Calls Tryz.prog 117 #[.agg #[.int .i64 f.kind, .int .i64 f.n, nv, vv], .pointer (some ⟨w.heap.size + 1, 0, none⟩)] y fun e w' => e = .returned (.bool (!rightVl d f)) ∧ Nw y w' := fun y f nv vv u hf => by
        have n1 := nw_alloc y (.cells #[.int .i64 f.kind, .int .i64 f.n, nv, vv] tVl)
        have hi := Lib.hid (IH.out nv vv f _ (hf.nw n1))
        have k4 := nw_cellF n1 (hcell2.out y u)
        have HU := Lib.hid n1
        obtain ⟨na', nc', rfl, -⟩ := hf.names
        obtain ⟨va', vc', rfl, -⟩ := hf.vals
        clear hf n1 e9 hasc HNC HVC HE
        generalize rightVl d f = rb at *
        go_enter Tryz.func117, Tryz.ntmps117
        go_wp2_with fail
        (with_reducible refine (hi.out).mono ?_)
        rintro _ w5 ⟨rfl, u5⟩
        have U5 := Lib.hid (HU.out.trans u5)
        clear u5
        go_wp2_with fail
        go_ret
        exact ⟨rfl, U5.out⟩
      have k3 := nw_cellF u2 c3
      have U2 := Lib.hid u2
      have hany := containsFunc_u 117 (w.heap.size + 1) (fun args w => by rfl) (fun x => !rightVl d x) P va vc v.vals w2 (HVC.out.imp id (fun ⟨b, off, e, hb, hc⟩ => ⟨b, off, e, Nat.lt_of_lt_of_le hb (HN.out.trans u2).size, fun i hi => by
        obtain ⟨nv', vv', q0, q1, q2, q3, q4⟩ := hc i hi
        exact ⟨nv', vv', nw_cellF (HN.out.trans u2) q0, nw_cellF (HN.out.trans u2) q1, nw_cellF (HN.out.trans u2) q2, nw_cellF (HN.out.trans u2) q3, q4.nw (HN.out.trans u2)⟩⟩)) (by unfold maxLen; omega) (fun y f nv vv u hf hv => hclo y f nv vv u hv)
      have Hany := Lib.hid hany
      clear u2 hclo hany hasc
      generalize (v.vals.any fun x => !rightVl d x) = ab at *
      go_wp2_with fail
      (with_reducible refine (Hany.out).mono ?_)
      rintro _ w6 ⟨rfl, u6⟩
      have U6 := Lib.hid (HN.out.trans (U2.out.trans u6))
      clear u6
      go_wp2_with fail
      go_ret
      exact ⟨by rw [e9.out]; rfl, U6.out⟩
end Go.Proofs.YtjlgmoemnhmgmaaGreatDoor
