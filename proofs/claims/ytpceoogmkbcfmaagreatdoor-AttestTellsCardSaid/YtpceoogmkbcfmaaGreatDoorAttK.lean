/- The contract of layer 34's reference: Right. -/
import Derived.Test.YtpceoogmkbcfmaaGreatDoorAttO
namespace Go.Proofs.YtpceoogmkbcfmaaGreatDoor
open Go.RowKit
set_option linter.unusedVariables false
set_option linter.unusedSimpArgs false
attribute [local irreducible] Calls

set_option maxHeartbeats 8000000 in
set_option maxRecDepth 100000 in
theorem qright_q (hi : Nat) (v : Value) (G : List At.Grp) (C : List (Value × At.Grp)) (w : World) (g : Gl w) (hv : GrpS hi w v G C) :
    Calls Tryz.prog 26 #[v] w fun e w' => e = .returned (.bool (At.right G)) ∧ Nw w w' := by
  have hgb := g.big
  obtain ⟨a, cap, rfl, hm, ha⟩ := grp_cells hv
  have Ha := Lib.hid ha
  have He := Lib.hid hv.each
  have hG : Hid (G = C.map (·.2)) := hv.fst.symm
  unfold maxLen at hm
  clear ha hv
  have hR : Hid (At.right G = (At.rightGo [] G && (decide (0 < G.length) && decide (G.length ≤ 8)))) := by show _ = _; rfl
  have hGl : Hid (G.length = C.length) := by show _ = _; rw [hG.out, List.length_map]
  by_cases h0 : C.length < 1
  · have hr : Hid (At.right G = false) := by show _ = _; rw [hR.out, hGl.out]; simp; omega
    go_enter Tryz.func26, Tryz.ntmps26
    go_wp2_with fail
    go_ret
    exact ⟨ret_bool hr.out.symm, Upd.refl _ _⟩
  by_cases h8 : C.length ≤ 8
  rotate_left
  · have hr : Hid (At.right G = false) := by show _ = _; rw [hR.out, hGl.out]; simp; omega
    go_enter Tryz.func26, Tryz.ntmps26
    go_wp2_with fail
    go_ret
    exact ⟨ret_bool hr.out.symm, Upd.refl _ _⟩
  go_enter Tryz.func26, Tryz.ntmps26
  go_wp2_with fail
  go_loopw [3] (fun iv wr => ∃ n : Nat, n ≤ C.length ∧ iv = .int .i64 n ∧ Hid (At.rightGo [] G = At.rightGo (At.seenTo G n) (G.drop n)) ∧ Nw w wr) (fun iv _ => C.length - (intOf iv).toNat)
  case atStart => exact ⟨0, Nat.zero_le _, rfl, by show _ = _; rw [List.drop_zero]; rfl, Upd.refl _ _⟩
  case round =>
    obtain ⟨n, hn, rfl, HS, u⟩ := hrel
    obtain ⟨wq, rfl⟩ : ∃ x, x = wr := ⟨_, rfl⟩
    by_cases hlt : n < C.length
    · rcases Ha.out with hnil | ⟨b, o, rfl, _, hb, hc⟩
      · simp [hnil] at hlt
      obtain ⟨p0, p1⟩ := hc n hlt
      have d0 := ((Nw.below u).cell (p := ⟨b, o + n * 2, none⟩) hb).trans p0
      have d1 := ((Nw.below u).cell (p := ⟨b, o + n * 2 + 1, none⟩) hb).trans p1
      obtain ⟨hsl, hbad, hks⟩ := He.out C[n] (List.getElem_mem hlt)
      have hGn : n < G.length := by rw [hGl.out]; exact hlt
      have hGx : G[n] = C[n].2 := by
        have := hG.out
        subst this
        simp
      have hstep := At.rightGo_at hGn
      rw [hGx] at hstep
      generalize hX : C[n] = x at *
      clear hX
      obtain ⟨xs, ms, xb⟩ := x
      dsimp only at *
      obtain ⟨am, capm, rfl, hmm1, hmc⟩ := num_cells hsl
      unfold maxLen at hmm1
      have hbadg : At.grpOk (At.seenTo G n) ⟨ms, xb⟩ = false → Hid (At.right G = false) := fun e => by show _ = _; rw [hR.out, HS.out, hstep, e]; rfl
      have hgo : At.grpOk (At.seenTo G n) ⟨ms, xb⟩ = true → Hid (At.rightGo [] G = At.rightGo (At.seenTo G (n + 1)) (G.drop (n + 1))) := fun e => by show _ = _; rw [HS.out, hstep, e]; rfl
      have hgrp : At.grpOk (At.seenTo G n) ⟨ms, xb⟩ = (decide (0 < ms.length) && decide (ms.length ≤ 12) && decide (0 ≤ xb) && decide (xb < ms.length) && (List.range ms.length).all (At.keyOk (At.seenTo G n) ms)) := rfl
      have HGrp := Lib.hid hgrp
      have Hbadg := Lib.hid hbadg
      have Hgo := Lib.hid hgo
      have HMc := Lib.hid hmc
      have Hsl := Lib.hid hsl
      have Hks := Lib.hid hks
      unfold I64 at hbad
      have HCc := Lib.hid hc
      clear hc p0 p1 hstep hbadg hgo hgrp hmc hks hsl HS hGx
      by_cases h1 : ms.length = 0
      · have hr := Hbadg.out (by rw [HGrp.out]; simp [h1])
        have e1 : (ms.length : Int) = 0 := by omega
        go_wp2_with fail
        go_ret
        exact ⟨ret_bool hr.out.symm, u.alloc _⟩
      by_cases h2 : ms.length ≤ 12
      rotate_left
      · have hr := Hbadg.out (by rw [HGrp.out]; simp [h2])
        go_wp2_with fail
        go_ret
        exact ⟨ret_bool hr.out.symm, u.alloc _⟩
      by_cases h3 : 0 ≤ xb
      rotate_left
      · have hr := Hbadg.out (by rw [HGrp.out]; simp [h3])
        go_wp2_with fail
        go_ret
        exact ⟨ret_bool hr.out.symm, u.alloc _⟩
      by_cases h4 : xb < (ms.length : Int)
      rotate_left
      · have hr := Hbadg.out (by rw [HGrp.out]; simp [h4])
        go_wp2_with fail
        go_ret
        exact ⟨ret_bool hr.out.symm, u.alloc _⟩
      have n2 := nw_alloc wq (.cells #[.slice am ms.length capm, .int .i64 xb] tGrp)
      have k2 := heap_new wq (.cells #[.slice am ms.length capm, .int .i64 xb] tGrp)
      generalize hW2 : wq.alloc (.cells #[.slice am ms.length capm, .int .i64 xb] tGrp) = W2 at *
      have HW2 := Lib.hid hW2
      have K2 := Lib.hid k2
      have uB := u.trans n2
      have hnok : ∀ j, j < ms.length → At.keyOk (At.seenTo G n) ms j = false → Hid (At.right G = false) := fun j hj e => Hbadg.out (by
        rw [HGrp.out]
        have : (List.range ms.length).all (At.keyOk (At.seenTo G n) ms) = false := by
          rw [← Bool.not_eq_true, List.all_eq_true]
          intro h
          have := h j (List.mem_range.2 hj)
          rw [e] at this; cases this
        rw [this]; simp)
      have Hnok := Lib.hid hnok
      clear hnok k2 hW2
      go_wp2_with fail
      rw [HW2.out]
      go_loopw [5] (fun iv wr => ∃ k : Nat, k ≤ ms.length ∧ iv = .int .i64 k ∧ Hid (∀ j, j < k → At.keyOk (At.seenTo G n) ms j = true) ∧ Nw W2 wr) (fun iv _ => ms.length - (intOf iv).toNat)
      case atStart => exact ⟨0, Nat.zero_le _, rfl, fun j hj => absurd hj (Nat.not_lt_zero _), Upd.refl _ _⟩
      case round =>
        obtain ⟨k, hk, rfl, hall, uk⟩ := hrel
        obtain ⟨wp, rfl⟩ : ∃ x, x = wr := ⟨_, rfl⟩
        obtain ⟨c0, c1⟩ := cell2 (Nw.keep uk K2.out)
        have UK := uB.trans uk
        by_cases hkl : k < ms.length
        · rcases HMc.out with hnil | ⟨bm, om, rfl, _, hbm, hcm⟩
          · simp [hnil] at hkl
          have hcell : ∀ j (hj : j < ms.length) (i : Later wp), i.1.cell? ⟨bm, om + j, none⟩ = some (.int .i64 ms[j]) := fun j hj i => later_cell i (((Nw.below UK).cell (p := ⟨bm, om + j, none⟩) hbm).trans (hcm j hj))
          have q0 := hcell k hkl
          obtain ⟨c0', c1'⟩ := later2 (Nw.keep uk K2.out)
          have hget : ms.getD k 0 = ms[k] := by simp [List.getD_eq_getElem?_getD, hkl]
          have hkey : At.keyOk (At.seenTo G n) ms k = (decide (0 ≤ ms[k]) && decide (ms[k] < 200) && (decide (k = 0) || decide (ms.getD (k - 1) 0 < ms[k])) && !(At.seenTo G n).contains ms[k]) := by unfold At.keyOk; rw [hget]
          rw [At.seenTo_no (Nat.le_of_lt hGn)] at hkey
          have hnext : At.keyOk (At.seenTo G n) ms k = true → Hid (∀ j, j < k + 1 → At.keyOk (At.seenTo G n) ms j = true) := fun e j hj => by
            by_cases ej : j = k
            · subst ej; exact e
            · exact hall.out j (by omega)
          have hno := Hnok.out k hkl
          have hprev : ∀ j, k = j + 1 → ∀ i : Later wp, i.1.cell? ⟨bm, om + j, none⟩ = some (.int .i64 (ms.getD (k - 1) 0)) := fun j e i => by
            subst e
            rw [hcell j (by omega) i, Nat.add_sub_cancel]
            simp [List.getD_eq_getElem?_getD, show j < ms.length by omega]
          have hgs : ∀ j (hj : j < C.length), ∃ (aj : Option Addr) (cj : Nat), C[j].1 = .slice aj C[j].2.members.length cj := fun j hj => by
            obtain ⟨aj, cj, e, _⟩ := num_cells (He.out C[j] (List.getElem_mem hj)).1
            exact ⟨aj, cj, e⟩
          have hgj : ∀ j (hj : j < C.length), G[j]? = some C[j].2 := fun j hj => by
            have := hG.out
            subst this
            rw [List.getElem?_map, List.getElem?_eq_getElem hj]; rfl
          have HKey := Lib.hid hkey
          have Hnext := Lib.hid hnext
          have Hno := Lib.hid hno
          have Hgs := Lib.hid hgs
          have Hgj := Lib.hid hgj
          generalize ms.getD (k - 1) 0 = pv at *
          generalize ms[k] = x at *
          clear hkey hnext hget hno hcell hcm hgs hgj
          by_cases g1 : x < 0
          · have hr := Hno.out (by rw [HKey.out]; simp; intro h; omega)
            have dg1 : decide (x < 0) = true := decide_eq_true g1
            clear hprev g1
            go_wp2_with fail
            refine wp_region_nw (by kernel_rfl) (by kernel_rfl) ?_
            repeat (go_big_quiet_step ((fail)))
            refine wpQuiet_nil ?_
            intro w3 u3
            replace u3 := later_out u3
            go_wp2_with fail
            go_ret
            exact ⟨ret_bool hr.out.symm, UK.trans u3⟩
          have dg1 : decide (x < 0) = false := decide_eq_false g1
          by_cases g2 : x < 200
          rotate_left
          · have hr := Hno.out (by rw [HKey.out]; simp [g2])
            have dg2 : decide (200 ≤ x) = true := decide_eq_true (by omega)
            clear hprev g1 g2
            go_wp2_with fail
            refine wp_region_nw (by kernel_rfl) (by kernel_rfl) ?_
            repeat (go_big_quiet_step ((fail)))
            refine wpQuiet_nil ?_
            intro w3 u3
            replace u3 := later_out u3
            go_wp2_with fail
            go_ret
            exact ⟨ret_bool hr.out.symm, UK.trans u3⟩
          have dg2 : decide (200 ≤ x) = false := decide_eq_false (by omega)
          by_cases g0 : k = 0
          · subst g0
            rw [Nat.add_zero] at q0
            have hky : Hid (At.keyOk (At.seenTo G n) ms 0 = !((List.range n).any fun n => (match G[n]? with | some g => g.members.contains x | none => false))) := by show _ = _; rw [HKey.out, decide_eq_true (show 0 ≤ x by omega), decide_eq_true g2]; simp only [decide_true, Bool.true_or, Bool.and_self, Bool.true_and]; rfl
            clear hprev HKey g1 g2
            go_wp2_with fail
            refine wp_region_nw (by kernel_rfl) (by kernel_rfl) ?_
            repeat (go_big_quiet_step ((fail)))
            refine wpQuiet_nil ?_
            intro w3 u3
            replace u3 := later_out u3
            have Q00 := Lib.hid q0
            clear q0
            go_wp2_with fail
            have UZ := UK.trans u3
            go_loopw [6] (fun iv wr => ∃ j : Nat, j ≤ n ∧ iv = .int .i64 j ∧ Hid (∀ i, i < j → (match G[i]? with | some g => g.members.contains x | none => false) = false) ∧ Nw w3 wr) (fun iv _ => n - (intOf iv).toNat)
            case atStart => exact ⟨0, Nat.zero_le _, rfl, fun j hj => absurd hj (Nat.not_lt_zero _), Upd.refl _ _⟩
            case round =>
              obtain ⟨j, hj, rfl, hfree, uj⟩ := hrel
              have UJ := UZ.trans uj
              obtain ⟨f0, f1⟩ := later2 (Nw.keep (uk.trans (u3.trans uj)) K2.out)
              by_cases hjl : j < n
              · have hjC : j < C.length := by omega
                obtain ⟨aj, cj, ej⟩ := Hgs.out j hjC
                have e0 : ∀ i : Later wr, i.1.cell? ⟨b, o + j * 2, none⟩ = some (.slice aj C[j].2.members.length cj) := fun i => by
                  rw [← ej]
                  exact later_cell i (((Nw.below UJ).cell (p := ⟨b, o + j * 2, none⟩) hb).trans (HCc.out j hjC).1)
                have e1 : ∀ i : Later wr, i.1.cell? ⟨bm, om, none⟩ = some (.int .i64 x) := fun i => Q00.out ⟨i.1, u3.trans (uj.trans i.2)⟩
                have hh : ∀ (i : Later wr), Calls Tryz.prog 31 #[.slice aj C[j].2.members.length cj, .int .i64 x] i.1 fun e w' => e = .returned (.bool (C[j].2.members.contains x)) ∧ Nw i.1 w' := fun i => by
                  rw [← ej]
                  exact has_w 0 hi _ C[j].2.members x i.1 ((He.out C[j] (List.getElem_mem hjC)).1.nw (UJ.trans i.2))
                have HH := Lib.hid hh
                have hjG := Hgj.out j hjC
                have hmm5 : C[j].2.members.length ≤ 9223372036854775807 := by
                  obtain ⟨_, _, _, hmx, _⟩ := num_cells (He.out C[j] (List.getElem_mem hjC)).1
                  unfold maxLen at hmx
                  exact hmx
                have hstep2 : C[j].2.members.contains x = false → Hid (∀ i, i < j + 1 → (match G[i]? with | some g => g.members.contains x | none => false) = false) := fun e i hi2 => by
                  by_cases ej2 : i = j
                  · subst ej2; rw [hjG]; exact e
                  · exact hfree.out i (by omega)
                have hbad5 : C[j].2.members.contains x = true → Hid (At.right G = false) := fun e => Hno.out (by
                  rw [hky.out]
                  have : (List.range n).any (fun n => (match G[n]? with | some g => g.members.contains x | none => false)) = true := List.any_eq_true.2 ⟨j, List.mem_range.2 hjl, by rw [hjG]; exact e⟩
                  rw [this]; rfl)
                have Hstep2 := Lib.hid hstep2
                have Hbad5 := Lib.hid hbad5
                clear hstep2 hbad5 hjG hh ej
                generalize C[j].2.members.contains x = bq at *
                generalize C[j].2.members.length = lj at *
                have hjC2 : Hid (j < C.length) := hjC
                clear hjC
                go_wp2_with fail
                refine wp_region_nw (by kernel_rfl) (by kernel_rfl) ?_
                repeat (go_big_quiet_step ((go_at_call 31; exact later_call (HH.out _))))
                refine wpQuiet_nil ?_
                intro w4 u4
                replace u4 := later_out u4
                cases bq with
                | true =>
                  have hr := Hbad5.out rfl
                  go_wp2_with fail
                  go_ret
                  exact ⟨ret_bool hr.out.symm, UJ.trans u4⟩
                | false =>
                  have hs5 := Hstep2.out rfl
                  go_wp2_with fail
                  go_roundw
                  case rel => exact ⟨j + 1, by omega, by go_num, hs5, uj.trans u4⟩
                  case measure => simp [intOf]; omega
              · obtain rfl : j = n := by omega
                have hok5 := Hnext.out (by
                  rw [hky.out]
                  have : (List.range j).any (fun n => (match G[n]? with | some g => g.members.contains x | none => false)) = false := by
                    rw [List.any_eq_false]
                    intro i hi5
                    rw [hfree.out i (List.mem_range.1 hi5)]; simp
                  rw [this]; rfl)
                clear f0 f1
                go_wp2_with fail
                go_roundw
                case rel => exact ⟨0 + 1, by omega, by go_num, hok5, uk.trans (u3.trans uj)⟩
                case measure => simp [intOf]; omega
          · obtain ⟨j0, rfl⟩ : ∃ j0, k = j0 + 1 := ⟨k - 1, by omega⟩
            have q1 := hprev j0 rfl
            have hip : decide ((0 : Int) < ((j0 + 1 : Nat) : Int)) = true := decide_eq_true (by omega)
            have hip2 : decide (0 < (j0 : Int) + 1) = true := decide_eq_true (by omega)
            by_cases g3 : pv < x
            · have hky : Hid (At.keyOk (At.seenTo G n) ms (j0 + 1) = !((List.range n).any fun n => (match G[n]? with | some g => g.members.contains x | none => false))) := by show _ = _; rw [HKey.out, decide_eq_true (show 0 ≤ x by omega), decide_eq_true g2, decide_eq_true g3]; simp only [Bool.or_true, Bool.and_self, Bool.true_and]; rfl
              have dg3 : decide (x ≤ pv) = false := decide_eq_false (by omega)
              clear hprev HKey g1 g2 g3
              go_wp2_with fail
              refine wp_region_nw (by kernel_rfl) (by kernel_rfl) ?_
              repeat (go_big_quiet_step ((fail)))
              refine wpQuiet_nil ?_
              intro w3 u3
              replace u3 := later_out u3
              have Q00 := Lib.hid q0
              clear q0
              go_wp2_with fail
              have UZ := UK.trans u3
              go_loopw [6] (fun iv wr => ∃ j : Nat, j ≤ n ∧ iv = .int .i64 j ∧ Hid (∀ i, i < j → (match G[i]? with | some g => g.members.contains x | none => false) = false) ∧ Nw w3 wr) (fun iv _ => n - (intOf iv).toNat)
              case atStart => exact ⟨0, Nat.zero_le _, rfl, fun j hj => absurd hj (Nat.not_lt_zero _), Upd.refl _ _⟩
              case round =>
                obtain ⟨j, hj, rfl, hfree, uj⟩ := hrel
                have UJ := UZ.trans uj
                obtain ⟨f0, f1⟩ := later2 (Nw.keep (uk.trans (u3.trans uj)) K2.out)
                by_cases hjl : j < n
                · have hjC : j < C.length := by omega
                  obtain ⟨aj, cj, ej⟩ := Hgs.out j hjC
                  have e0 : ∀ i : Later wr, i.1.cell? ⟨b, o + j * 2, none⟩ = some (.slice aj C[j].2.members.length cj) := fun i => by
                    rw [← ej]
                    exact later_cell i (((Nw.below UJ).cell (p := ⟨b, o + j * 2, none⟩) hb).trans (HCc.out j hjC).1)
                  have e1 : ∀ i : Later wr, i.1.cell? ⟨bm, om + (j0 + 1), none⟩ = some (.int .i64 x) := fun i => Q00.out ⟨i.1, u3.trans (uj.trans i.2)⟩
                  have hh : ∀ (i : Later wr), Calls Tryz.prog 31 #[.slice aj C[j].2.members.length cj, .int .i64 x] i.1 fun e w' => e = .returned (.bool (C[j].2.members.contains x)) ∧ Nw i.1 w' := fun i => by
                    rw [← ej]
                    exact has_w 0 hi _ C[j].2.members x i.1 ((He.out C[j] (List.getElem_mem hjC)).1.nw (UJ.trans i.2))
                  have HH := Lib.hid hh
                  have hjG := Hgj.out j hjC
                  have hmm5 : C[j].2.members.length ≤ 9223372036854775807 := by
                    obtain ⟨_, _, _, hmx, _⟩ := num_cells (He.out C[j] (List.getElem_mem hjC)).1
                    unfold maxLen at hmx
                    exact hmx
                  have hstep2 : C[j].2.members.contains x = false → Hid (∀ i, i < j + 1 → (match G[i]? with | some g => g.members.contains x | none => false) = false) := fun e i hi2 => by
                    by_cases ej2 : i = j
                    · subst ej2; rw [hjG]; exact e
                    · exact hfree.out i (by omega)
                  have hbad5 : C[j].2.members.contains x = true → Hid (At.right G = false) := fun e => Hno.out (by
                    rw [hky.out]
                    have : (List.range n).any (fun n => (match G[n]? with | some g => g.members.contains x | none => false)) = true := List.any_eq_true.2 ⟨j, List.mem_range.2 hjl, by rw [hjG]; exact e⟩
                    rw [this]; rfl)
                  have Hstep2 := Lib.hid hstep2
                  have Hbad5 := Lib.hid hbad5
                  clear hstep2 hbad5 hjG hh ej
                  generalize C[j].2.members.contains x = bq at *
                  generalize C[j].2.members.length = lj at *
                  have hjC2 : Hid (j < C.length) := hjC
                  clear hjC
                  go_wp2_with fail
                  refine wp_region_nw (by kernel_rfl) (by kernel_rfl) ?_
                  repeat (go_big_quiet_step ((go_at_call 31; exact later_call (HH.out _))))
                  refine wpQuiet_nil ?_
                  intro w4 u4
                  replace u4 := later_out u4
                  cases bq with
                  | true =>
                    have hr := Hbad5.out rfl
                    go_wp2_with fail
                    go_ret
                    exact ⟨ret_bool hr.out.symm, UJ.trans u4⟩
                  | false =>
                    have hs5 := Hstep2.out rfl
                    go_wp2_with fail
                    go_roundw
                    case rel => exact ⟨j + 1, by omega, by go_num, hs5, uj.trans u4⟩
                    case measure => simp [intOf]; omega
                · obtain rfl : j = n := by omega
                  have hok5 := Hnext.out (by
                    rw [hky.out]
                    have : (List.range j).any (fun n => (match G[n]? with | some g => g.members.contains x | none => false)) = false := by
                      rw [List.any_eq_false]
                      intro i hi5
                      rw [hfree.out i (List.mem_range.1 hi5)]; simp
                    rw [this]; rfl)
                  clear f0 f1
                  go_wp2_with fail
                  go_roundw
                  case rel => exact ⟨(j0 + 1) + 1, by omega, by go_num, hok5, uk.trans (u3.trans uj)⟩
                  case measure => simp [intOf]; omega
            · have hr := Hno.out (by rw [HKey.out]; simp [g3])
              have dg3 : decide (x ≤ pv) = true := decide_eq_true (by omega)
              clear hprev g1 g2 g3
              go_wp2_with fail
              refine wp_region_nw (by kernel_rfl) (by kernel_rfl) ?_
              repeat (go_big_quiet_step ((fail)))
              refine wpQuiet_nil ?_
              intro w3 u3
              replace u3 := later_out u3
              go_wp2_with fail
              go_ret
              exact ⟨ret_bool hr.out.symm, UK.trans u3⟩
        · obtain rfl : k = ms.length := by omega
          have hok : At.grpOk (At.seenTo G n) ⟨ms, xb⟩ = true := by
            rw [HGrp.out]
            have : (List.range ms.length).all (At.keyOk (At.seenTo G n) ms) = true := List.all_eq_true.2 (fun j hj => hall.out j (List.mem_range.1 hj))
            rw [this]
            simp [h2, h3, h4]; omega
          have hg2 := Hgo.out hok
          clear hok
          go_wp2_with fail
          go_roundw
          case rel => exact ⟨n + 1, by omega, by go_num, hg2, UK⟩
          case measure => simp [intOf]; omega
    · obtain rfl : n = C.length := by omega
      have hr : Hid (At.right G = true) := by
        show _ = _
        rw [hR.out, HS.out, ← hGl.out, List.drop_length]
        simp [At.rightGo]
        rw [hGl.out]; omega
      go_wp2_with fail
      go_ret
      exact ⟨ret_bool hr.out.symm, u⟩
end Go.Proofs.YtpceoogmkbcfmaaGreatDoor
