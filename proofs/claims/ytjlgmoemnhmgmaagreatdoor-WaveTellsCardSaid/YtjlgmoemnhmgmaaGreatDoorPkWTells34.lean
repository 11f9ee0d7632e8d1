/- The reference's Right of fleets. -/
import Derived.Test.YtjlgmoemnhmgmaaGreatDoorPkWTells33
import Derived.Test.YtjlgmoemnhmgmaaGreatDoorPkWTells22
namespace Go.Proofs.YtjlgmoemnhmgmaaGreatDoor
open Go.RowKit
set_option linter.unusedVariables false
set_option linter.unusedSimpArgs false
attribute [local irreducible] Calls
open Fm (Ty Vl Str nameB rightTy)
open Wv (Svc FL)

theorem right_bad {f : FL} (h : Wv.namesEq f = false ∨ Wv.runsOk f = false ∨ 400 < f.runs.length ∨ Wv.formed f.old = false ∨ Wv.formed f.new = false) : Wv.right f = false := by
  unfold Wv.right
  rcases h with h | h | h | h | h
  · rw [h]; simp
  · rw [h]; simp
  · rw [decide_eq_false (show ¬ f.runs.length ≤ 400 by omega)]; simp
  · rw [h]; simp
  · rw [h]; simp
theorem right_good {f : FL} (h1 : Wv.namesEq f = true) (h2 : Wv.runsOk f = true) (h3 : f.runs.length ≤ 400) (h4 : Wv.formed f.old = true) (h5 : Wv.formed f.new = true) : Wv.right f = true := by
  unfold Wv.right
  rw [h1, h2, decide_eq_true h3, h4, h5]; rfl
theorem names_good {f : FL} (hl : f.old.length = f.new.length) (h : ∀ j (h1 : j < f.old.length) (h2 : j < f.new.length), f.old[j].name = f.new[j].name) : Wv.namesEq f = true := by
  unfold Wv.namesEq
  refine decide_eq_true ?_
  apply List.ext_getElem
  · rw [List.length_map, List.length_map]; exact hl
  · intro i h1 h2
    rw [List.length_map] at h1 h2
    rw [List.getElem_map, List.getElem_map]
    exact h i h1 h2
set_option maxHeartbeats 16000000 in
set_option maxRecDepth 100000 in
theorem Right_r (oa na ra : Option Addr) (oc nc rc : Nat) (f : FL) (w : World) (hgb : nG ≤ w.heap.size) (h : FlAt w oa na ra oc nc f) (hs : Sm f) :
    Calls Tryz.prog 19 #[.agg (flV oa na ra oc nc rc f)] w fun e w' => e = .returned (.bool (Wv.right f)) ∧ Nw w w' := by
  unfold flV
  have n1 := nw_alloc w (.cells #[.slice oa f.old.length oc, .slice na f.new.length nc, .slice ra f.runs.length rc] tFl)
  have b1 := heap_new w (.cells #[.slice oa f.old.length oc, .slice na f.new.length nc, .slice ra f.runs.length rc] tFl)
  obtain ⟨W, hW⟩ : ∃ z, z = w.alloc (.cells #[.slice oa f.old.length oc, .slice na f.new.length nc, .slice ra f.runs.length rc] tFl) := ⟨_, rfl⟩
  rw [← hW] at n1 b1
  have HW := Lib.hid hW
  have HN := Lib.hid n1
  have HX : Hid (∀ y, Nw W y → y.cell? ⟨w.heap.size, 0, none⟩ = some (.slice oa f.old.length oc) ∧ y.cell? ⟨w.heap.size, 1, none⟩ = some (.slice na f.new.length nc) ∧ y.cell? ⟨w.heap.size, 2, none⟩ = some (.slice ra f.runs.length rc)) := fun y u => ⟨by rw [cells_cell (Nw.keep u b1)]; rfl, by rw [cells_cell (Nw.keep u b1)]; rfl, by rw [cells_cell (Nw.keep u b1)]; rfl⟩
  have HF : Hid (∀ y, Nw W y → FlAt y oa na ra oc nc f) := fun y u => h.nw (n1.trans u)
  have HGB : Hid (nG ≤ W.heap.size) := Nat.le_trans hgb n1.size
  have HSM := Lib.hid hs
  have ho1 : (f.old.length : Int) ≤ 100000 := by have := hs.o; omega
  have hn1 : (f.new.length : Int) ≤ 100000 := by have := hs.n; omega
  have hr1 : (f.runs.length : Int) ≤ 100000 := by have := hs.r; omega
  have HBAD : Hid (Wv.namesEq f = false ∨ Wv.runsOk f = false ∨ 400 < f.runs.length ∨ Wv.formed f.old = false ∨ Wv.formed f.new = false → Wv.right f = false) := right_bad
  have HGOOD : Hid (Wv.namesEq f = true → Wv.runsOk f = true → f.runs.length ≤ 400 → Wv.formed f.old = true → Wv.formed f.new = true → Wv.right f = true) := right_good
  clear n1 b1 hW h hs hgb
  obtain ⟨x0, x1, x2⟩ := HX.out W (Upd.refl _ _)
  go_enter Tryz.func19, Tryz.ntmps19
  go_upto_region 1 with fail
  rw [← HW.out]
  clear HW
  by_cases hlen : f.old.length = f.new.length
  rotate_left
  · have hr := Lib.hid (HBAD.out (Or.inl (by
      unfold Wv.namesEq
      refine decide_eq_false fun e => hlen ?_
      have := congrArg List.length e
      rwa [List.length_map, List.length_map] at this)))
    have hd : ((f.old.length : Int) != (f.new.length : Int)) = true := by simp; omega
    clear hlen
    go_wp2_with fail
    go_ret
    exact ⟨ret_bool hr.out.symm, HN.out⟩
  have hd : ((f.old.length : Int) != (f.new.length : Int)) = false := by simp; omega
  by_cases h4 : (400 : Int) < f.runs.length
  · have hr := Lib.hid (HBAD.out (Or.inr (Or.inr (Or.inl (by omega)))))
    clear hlen
    go_wp2_with fail
    go_ret
    exact ⟨ret_bool hr.out.symm, HN.out⟩
  have H4 : Hid (f.runs.length ≤ 400) := by show _ ≤ _; omega
  have HLEN := Lib.hid hlen
  clear hlen
  have hf1 := Lib.hid (formed_r oa oc f.old W HGB.out (HF.out W (Upd.refl _ _)).old HSM.out.o)
  cases hfo : Wv.formed f.old with
  | false =>
    rw [hfo] at hf1
    have hr := Lib.hid (HBAD.out (Or.inr (Or.inr (Or.inr (Or.inl hfo)))))
    clear hfo
    go_wp2_with fail
    (with_reducible refine (hf1.out).mono ?_)
    rintro _ w2 ⟨rfl, u2⟩
    have U2 := Lib.hid (HN.out.trans u2)
    clear u2
    go_wp2_with fail
    go_ret
    exact ⟨ret_bool hr.out.symm, U2.out⟩
  | true =>
  rw [hfo] at hf1
  have HFO := Lib.hid hfo
  clear hfo
  have HF2 : Hid (∀ y, Nw W y → Calls Tryz.prog 46 #[.slice na f.new.length nc] y fun e w' => e = .returned (.bool (Wv.formed f.new)) ∧ Nw y w') := fun y u => formed_r na nc f.new y (Nat.le_trans HGB.out u.size) (HF.out y u).new HSM.out.n
  cases hfn : Wv.formed f.new with
  | false =>
    rw [hfn] at HF2
    have hr := Lib.hid (HBAD.out (Or.inr (Or.inr (Or.inr (Or.inr hfn)))))
    clear hfn
    go_wp2_with fail
    (with_reducible refine (hf1.out).mono ?_)
    rintro _ w2 ⟨rfl, u2⟩
    have U2 := Lib.hid u2
    have hf2 := Lib.hid (HF2.out w2 u2)
    clear u2 x0 x1 x2
    obtain ⟨x0, x1, x2⟩ := HX.out w2 U2.out
    go_wp2_with fail
    (with_reducible refine (hf2.out).mono ?_)
    rintro _ w3 ⟨rfl, u3⟩
    have U3 := Lib.hid (HN.out.trans (U2.out.trans u3))
    clear u3
    go_wp2_with fail
    go_ret
    exact ⟨ret_bool hr.out.symm, U3.out⟩
  | true =>
  rw [hfn] at HF2
  have HFN := Lib.hid hfn
  clear hfn
  go_wp2_with fail
  (with_reducible refine (hf1.out).mono ?_)
  rintro _ w2 ⟨rfl, u2⟩
  have U2 := Lib.hid u2
  have hf2 := Lib.hid (HF2.out w2 u2)
  clear u2 x0 x1 x2
  obtain ⟨x0, x1, x2⟩ := HX.out w2 U2.out
  go_wp2_with fail
  (with_reducible refine (hf2.out).mono ?_)
  rintro _ w3 ⟨rfl, u3⟩
  have U3 := Lib.hid (U2.out.trans u3)
  clear u3 x0 x1 x2 hf1 hf2 HF2
  go_wp2_with fail
  go_loopw [3] (fun iv wr => ∃ i : Nat, i ≤ f.old.length ∧ iv = .int .i64 (i : Int) ∧ Hid (∀ j (h1 : j < f.old.length) (h2 : j < f.new.length), j < i → f.old[j].name = f.new[j].name) ∧ Hid (Nw W wr)) (fun iv _ => f.old.length - (intOf iv).toNat)
  case atStart => exact ⟨0, Nat.zero_le _, rfl, (fun j h1 h2 hj => by omega), U3.out⟩
  case round =>
    obtain ⟨i, hi, rfl, HEQ, HU⟩ := hrel
    obtain ⟨x0, x1, x2⟩ := HX.out wr HU.out
    by_cases hlt : i < f.old.length
    · have hlt1 : (i : Int) < f.old.length := by omega
      have hlt2 : i < f.new.length := by have := HLEN.out; omega
      have hlt3 : (i : Int) < f.new.length := by omega
      have hi0 : decide ((i : Int) < 0) = false := decide_eq_false (by omega)
      rcases (HF.out wr HU.out).old with hnil | ⟨b, off, rfl, hb, hcell⟩
      · rw [hnil] at hlt; simp at hlt
      rcases (HF.out wr HU.out).new with hnil | ⟨b2, off2, rfl, hb2, hcell2⟩
      · rw [hnil] at hlt2; simp at hlt2
      obtain ⟨_, _, _, _, _, _, hk1, _⟩ := hcell i hlt
      obtain ⟨_, _, _, _, _, _, hk2, _⟩ := hcell2 i hlt2
      have h1 := hk1.1
      have h2 := hk2.1
      have HBA2 : Hid (¬ f.old[i].name = f.new[i].name → Wv.right f = false) := fun e => HBAD.out (Or.inl (decide_eq_false (mapn_ne hlt hlt2 e)))
      have HNX : Hid (f.old[i].name = f.new[i].name → ∀ j (h1 : j < f.old.length) (h2 : j < f.new.length), j < i + 1 → f.old[j].name = f.new[j].name) := fun e j h1 h2 hj => by
        by_cases ej : j = i
        · subst ej; exact e
        · exact HEQ.out j h1 h2 (by omega)
      clear hcell hcell2 hk1 hk2
      generalize (f.old[i]'hlt).name = p at *
      generalize (f.new[i]'hlt2).name = q at *
      have z0 : ∀ j : Later wr, j.1.cell? ⟨w.heap.size, 0, none⟩ = some (.slice (some ⟨b, off, none⟩) f.old.length oc) := fun j => later_cell j x0
      have z1 : ∀ j : Later wr, j.1.cell? ⟨w.heap.size, 1, none⟩ = some (.slice (some ⟨b2, off2, none⟩) f.new.length nc) := fun j => later_cell j x1
      have z2 : ∀ j : Later wr, j.1.cell? ⟨b, off + i * 6, none⟩ = some (.string ⟨p.toArray⟩) := fun j => later_cell j h1
      have z3 : ∀ j : Later wr, j.1.cell? ⟨b2, off2 + i * 6, none⟩ = some (.string ⟨q.toArray⟩) := fun j => later_cell j h2
      clear h1 h2
      by_cases hpq : p = q
      · have hr := Lib.hid (HNX.out hpq)
        have hbb : (p != q) = false := by simpa using hpq
        have hbc : (p == q) = true := by simpa using hpq
        clear hpq HNX HBA2
        go_upto_region 6 with fail
        refine wp_region_nw (by kernel_rfl) (by kernel_rfl) ?_
        repeat (go_big_quiet_step ((fail)))
        refine wpQuiet_nil ?_
        intro w8 u8
        replace u8 := later_out u8
        have H8 := Lib.hid (HU.out.trans u8)
        clear u8 z0 z1 z2 z3
        go_wp2_with fail
        go_roundw
        case rel => exact ⟨i + 1, by omega, by go_num, hr, H8⟩
        case measure => simp [intOf]; omega
      · have hr := Lib.hid (HBA2.out hpq)
        have hbb : (p != q) = true := by simpa using hpq
        have hbc : (p == q) = false := by simpa using hpq
        clear hpq HNX HBA2
        go_upto_region 6 with fail
        refine wp_region_nw (by kernel_rfl) (by kernel_rfl) ?_
        repeat (go_big_quiet_step ((fail)))
        refine wpQuiet_nil ?_
        intro w8 u8
        replace u8 := later_out u8
        have H8 := Lib.hid (HU.out.trans u8)
        clear u8 z0 z1 z2 z3
        go_wp2_with fail
        go_ret
        exact ⟨ret_bool hr.out.symm, HN.out.trans H8.out⟩
    · have hlt1 : ¬ (i : Int) < f.old.length := by omega
      have HNG : Hid (Wv.namesEq f = true) := names_good HLEN.out (fun j h1 h2 => HEQ.out j h1 h2 (by omega))
      go_wp2_with fail
      go_loopw [4] (fun iv wr => ∃ i : Nat, i ≤ f.runs.length ∧ iv = .int .i64 (i : Int) ∧ Hid (∀ j (h1 : j < f.runs.length), j < i → Wv.inR f.old.length f.runs[j] = true) ∧ Hid (Nw W wr)) (fun iv _ => f.runs.length - (intOf iv).toNat)
      case atStart => exact ⟨0, Nat.zero_le _, rfl, (fun j h1 hj => by omega), HU.out⟩
      case round =>
        clear x0 x1 x2
        obtain ⟨n, hn, rfl, HIR, HU2⟩ := hrel
        obtain ⟨x0, x1, x2⟩ := HX.out wr HU2.out
        by_cases hnl : n < f.runs.length
        · have hnl1 : (n : Int) < f.runs.length := by omega
          have hn0 : decide ((n : Int) < 0) = false := decide_eq_false (by omega)
          rcases (HF.out wr HU2.out).runs with hnil | ⟨b, off, rfl, hb, hcell⟩
          · rw [hnil] at hnl; simp at hnl
          have h1 := hcell n hnl
          have HBA2 : Hid (Wv.inR f.old.length f.runs[n] = false → Wv.right f = false) := fun e => HBAD.out (Or.inr (Or.inl (by
            unfold Wv.runsOk
            exact List.all_eq_false.2 ⟨_, List.getElem_mem hnl, by rw [e]; simp⟩)))
          have HNX : Hid (Wv.inR f.old.length f.runs[n] = true → ∀ j (h1 : j < f.runs.length), j < n + 1 → Wv.inR f.old.length f.runs[j] = true) := fun e j h1 hj => by
            by_cases ej : j = n
            · subst ej; exact e
            · exact HIR.out j h1 (by omega)
          clear hcell
          generalize f.runs[n]'hnl = x at *
          have HIN : Hid (Wv.inR f.old.length x = (decide (0 ≤ x) && decide (x < f.old.length))) := rfl
          have z0 : ∀ j : Later wr, j.1.cell? ⟨w.heap.size, 0, none⟩ = some (.slice oa f.old.length oc) := fun j => later_cell j x0
          have z1 : ∀ j : Later wr, j.1.cell? ⟨w.heap.size, 2, none⟩ = some (.slice (some ⟨b, off, none⟩) f.runs.length rc) := fun j => later_cell j x2
          have z2 : ∀ j : Later wr, j.1.cell? ⟨b, off + n, none⟩ = some (.int .i64 x) := fun j => later_cell j h1
          clear h1
          by_cases g1 : x < 0
          · have hr := Lib.hid (HBA2.out (by rw [HIN.out, decide_eq_false (show ¬ 0 ≤ x by omega)]; rfl))
            have hd1 : decide (x < 0) = true := decide_eq_true g1
            clear g1 HNX HBA2
            go_upto_region 11 with fail
            refine wp_region_nw (by kernel_rfl) (by kernel_rfl) ?_
            repeat (go_big_quiet_step ((fail)))
            refine wpQuiet_nil ?_
            intro w8 u8
            replace u8 := later_out u8
            have H8 := Lib.hid (HU2.out.trans u8)
            clear u8 z0 z1 z2
            go_wp2_with fail
            go_ret
            exact ⟨ret_bool hr.out.symm, HN.out.trans H8.out⟩
          have hd1 : decide (x < 0) = false := decide_eq_false g1
          by_cases g2 : (f.old.length : Int) ≤ x
          · have hr := Lib.hid (HBA2.out (by rw [HIN.out, decide_eq_false (show ¬ x < (f.old.length : Int) by omega)]; simp))
            have hd2 : decide ((f.old.length : Int) ≤ x) = true := decide_eq_true g2
            clear g1 g2 HNX HBA2
            go_upto_region 11 with fail
            refine wp_region_nw (by kernel_rfl) (by kernel_rfl) ?_
            repeat (go_big_quiet_step ((fail)))
            refine wpQuiet_nil ?_
            intro w8 u8
            replace u8 := later_out u8
            have H8 := Lib.hid (HU2.out.trans u8)
            clear u8 z0 z1 z2
            go_wp2_with fail
            go_ret
            exact ⟨ret_bool hr.out.symm, HN.out.trans H8.out⟩
          · have hr := Lib.hid (HNX.out (by rw [HIN.out, decide_eq_true (show 0 ≤ x by omega), decide_eq_true (show x < (f.old.length : Int) by omega)]; rfl))
            have hd2 : decide ((f.old.length : Int) ≤ x) = false := decide_eq_false g2
            clear g1 g2 HNX HBA2
            go_upto_region 11 with fail
            refine wp_region_nw (by kernel_rfl) (by kernel_rfl) ?_
            repeat (go_big_quiet_step ((fail)))
            refine wpQuiet_nil ?_
            intro w8 u8
            replace u8 := later_out u8
            have H8 := Lib.hid (HU2.out.trans u8)
            clear u8 z0 z1 z2
            go_wp2_with fail
            go_roundw
            case rel => exact ⟨n + 1, by omega, by go_num, hr, H8⟩
            case measure => simp [intOf]; omega
        · obtain rfl : n = f.runs.length := by omega
          have hnl1 : ¬ ((f.runs.length : Nat) : Int) < f.runs.length := by omega
          have hr := Lib.hid (HGOOD.out HNG.out (by
            unfold Wv.runsOk
            exact List.all_eq_true.2 fun x hx => by
              obtain ⟨j, hj, e⟩ := List.mem_iff_getElem.1 hx
              rw [← e]; exact HIR.out j hj hj) H4.out HFO.out HFN.out)
          go_wp2_with fail
          go_ret
          exact ⟨ret_bool hr.out.symm, HN.out.trans HU2.out⟩
end Go.Proofs.YtjlgmoemnhmgmaaGreatDoor
