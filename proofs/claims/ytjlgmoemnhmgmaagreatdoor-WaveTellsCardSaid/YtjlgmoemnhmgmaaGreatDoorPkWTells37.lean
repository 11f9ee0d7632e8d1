/- The reference's Formed. -/
import Derived.Test.YtjlgmoemnhmgmaaGreatDoorPkWTells32
import Derived.Test.YtjlgmoemnhmgmaaGreatDoorPkWTells23
import Derived.Test.YtjlgmoemnhmgmaaGreatDoorPkWTells24
namespace Go.Proofs.YtjlgmoemnhmgmaaGreatDoor
open Go.RowKit
set_option linter.unusedVariables false
set_option linter.unusedSimpArgs false
attribute [local irreducible] Calls
open Fm (Ty Vl Str)
open Wv (Svc FL)

theorem contains_dec (S : List Int) (k : Int) : decide (k ∈ S) = S.contains k := by
  apply Bool.eq_iff_iff.2
  rw [decide_eq_true_iff, List.contains_iff_mem]
set_option maxHeartbeats 16000000 in
set_option maxRecDepth 100000 in
theorem Formed_c (oa na ra wa : Option Addr) (oc nc rc wc : Nat) (f : FL) (ws : List Wv.Wave) (w : World) (hgb : nG ≤ w.heap.size) (hrl : f.runs.length ≤ 1000) (hra : True) (hws : WvC w wa ws) (hwl : ws.length ≤ 1000) (hms : ∀ x ∈ ws, x.ms.length ≤ 1000) :
    Calls Tryz.prog 26 #[.agg (flV oa na ra oc nc rc f), .slice wa ws.length wc] w fun e w' => e = .returned (.bool (Wv.formedW f ws)) ∧ Nw w w' := by
  unfold flV
  rw [Wv.formedW_go]
  obtain ⟨fv, hfv⟩ : ∃ x, x = Obj.cells #[.slice oa f.old.length oc, .slice na f.new.length nc, .slice ra f.runs.length rc] tFl := ⟨_, rfl⟩
  have n1 := nw_alloc w fv
  have b1 := heap_new w fv
  obtain ⟨W, hW⟩ : ∃ z, z = w.alloc fv := ⟨_, rfl⟩
  rw [← hW] at n1 b1
  have hWs : W.heap.size = w.heap.size + 1 := by rw [hW]; simp
  rw [hfv] at hW b1
  have HW := Lib.hid hW
  have HN := Lib.hid n1
  have HX : Hid (∀ y, Nw W y → y.cell? ⟨w.heap.size, 2, none⟩ = some (.slice ra f.runs.length rc)) := fun y u => by rw [cells_cell (Nw.keep u b1)]; rfl
  have Ha := Lib.hid (WvC.nw hws n1)
  have HGB : Hid (nG ≤ W.heap.size) := by show _ ≤ _; omega
  have HMS := Lib.hid hms
  have hrl1 : (f.runs.length : Int) ≤ 1000 := by omega
  clear n1 b1 hW hfv fv hws hms hgb hWs
  have hwl1 : (ws.length : Int) ≤ 1000 := by omega
  generalize f.runs.length = rn at *
  have HO0 : Hid (W.ownsRow W.heap.size 3 1 (.slice none 0 0) ([] : List Int).length (([] : List Int).map (Value.int .i64))) := World.ownsRow_nil _ _ _ _
  go_enter Tryz.func26, Tryz.ntmps26
  go_upto_region 1 with fail
  rw [← HW.out]
  clear HW
  go_wp2_with fail
  go_loopw [5, 6] (fun sv iv wr => ∃ n : Nat, ∃ S : List Int, ∃ sva svc, n ≤ ws.length ∧ iv = .int .i64 n ∧ sv = .slice sva S.length svc ∧ Hid (S.length ≤ n * 1000) ∧ Hid (Wv.formedGo rn [] ws = Wv.formedGo rn S (ws.drop n)) ∧ Hid (wr.ownsRow W.heap.size 3 1 (.slice sva S.length svc) S.length (S.map (Value.int .i64))) ∧ Hid (Nw W wr)) (fun sv iv _ => ws.length - (intOf iv).toNat)
  case atStart => exact ⟨0, [], none, 0, Nat.zero_le _, rfl, rfl, Nat.zero_le _, (by show _ = _; rw [List.drop_zero]), HO0.out, Upd.refl _ _⟩
  case round =>
    obtain ⟨n, S, sva, svc, hn, rfl, rfl, HSL, HS, HO, HU1⟩ := hrel
    obtain ⟨wq, rfl⟩ : ∃ x, x = wr := ⟨_, rfl⟩
    have u := HU1.out
    have x2 := HX.out wq u
    have hS := HS.out
    by_cases hlt : n < ws.length
    · have hlt1 : (n : Int) < ws.length := by omega
      have hn9 : (n : Int) ≤ 1000 := by omega
      rcases Ha.out with hnil | ⟨b, o, rfl, hb, hc⟩
      · simp [hnil] at hlt
      obtain ⟨am, capm, p0, p1, hmc, hmm1⟩ := hc n hlt
      have d0 := nw_cellF u p0
      have d1 := nw_cellF u p1
      have hmm2 := HMS.out ws[n] (List.getElem_mem hlt)
      rw [List.drop_eq_getElem_cons hlt] at hS
      generalize hX : ws[n] = x at *
      clear hX hmm1
      obtain ⟨ms, xb⟩ := x
      dsimp only at *
      have hstep : Wv.formedGo rn S (⟨ms, xb⟩ :: ws.drop (n + 1)) = (Wv.waveGo rn S ⟨ms, xb⟩ && Wv.formedGo rn (S ++ ms) (ws.drop (n + 1))) := rfl
      have hbadg : Wv.waveGo rn S ⟨ms, xb⟩ = false → Hid (Wv.formedGo rn [] ws = false) := fun e => by show _ = _; rw [hS, hstep, e]; rfl
      have hgo : Wv.waveGo rn S ⟨ms, xb⟩ = true → Hid (Wv.formedGo rn [] ws = Wv.formedGo rn (S ++ ms) (ws.drop (n + 1))) := fun e => by show _ = _; rw [hS, hstep, e]; rfl
      have hgrp : Wv.waveGo rn S ⟨ms, xb⟩ = (!ms.isEmpty && decide (0 ≤ xb) && decide (xb ≤ 1073741824) && (List.range ms.length).all (Wv.mOk rn S ms)) := rfl
      have HGrp := Lib.hid hgrp
      have Hbadg := Lib.hid hbadg
      have Hgo := Lib.hid hgo
      have HMc := Lib.hid hmc
      have hm9 : (ms.length : Int) ≤ 1000 := by omega
      have n2 := nw_alloc wq (.cells #[.slice am ms.length capm, .int .i64 xb] tWv)
      have k2 := heap_new wq (.cells #[.slice am ms.length capm, .int .i64 xb] tWv)
      clear hc p0 p1 hS hstep hbadg hgo hgrp hmc HS
      by_cases h1 : ms.length = 0
      · have hr := Hbadg.out (by rw [HGrp.out, List.length_eq_zero_iff.1 h1]; rfl)
        have e1 : ((ms.length : Int) == 0) = true := by simpa using h1
        clear h1
        go_wp2_with fail
        go_ret
        exact ⟨ret_bool hr.out.symm, HN.out.trans (HU1.out.trans n2)⟩
      have e1 : ((ms.length : Int) == 0) = false := beq_eq_false_iff_ne.2 (by omega)
      have hne : ms.isEmpty = false := by
        cases ms with
        | nil => simp at h1
        | cons => rfl
      by_cases h3 : xb < 0
      · have hr := Hbadg.out (by rw [HGrp.out]; simp; intro _ h; omega)
        go_wp2_with fail
        go_ret
        exact ⟨ret_bool hr.out.symm, HN.out.trans (HU1.out.trans n2)⟩
      by_cases h4 : 1073741824 < xb
      · have hr := Hbadg.out (by rw [HGrp.out]; simp; intro _ _ h; omega)
        go_wp2_with fail
        go_ret
        exact ⟨ret_bool hr.out.symm, HN.out.trans (HU1.out.trans n2)⟩
      have hok : (List.range ms.length).all (Wv.mOk rn S ms) = true → Hid (Wv.waveGo rn S ⟨ms, xb⟩ = true) := fun e => by show _ = _; rw [HGrp.out, e, hne]; simp; omega
      have hnok : (List.range ms.length).all (Wv.mOk rn S ms) = false → Hid (Wv.waveGo rn S ⟨ms, xb⟩ = false) := fun e => by show _ = _; rw [HGrp.out, e]; simp
      have Hok := Lib.hid hok
      have Hnok := Lib.hid hnok
      have K2 := Lib.hid k2
      have HO2 : Hid ((wq.alloc (.cells #[.slice am ms.length capm, .int .i64 xb] tWv)).ownsRow W.heap.size 3 1 (.slice sva S.length svc) S.length (S.map (Value.int .i64))) := owns_upd' HO.out n2 (fun _ _ e => e)
      have HN2 := Lib.hid (HU1.out.trans n2)
      clear hok hnok k2 hne n2 u
      go_wp2_with fail
      go_loopw [5, 8] (fun sv iv wr => ∃ i : Nat, ∃ T : List Int, ∃ sva svc, i ≤ ms.length ∧ iv = .int .i64 i ∧ sv = .slice sva T.length svc ∧ Hid (T = S ++ ms.take i) ∧ Hid (∀ j, j < i → Wv.mOk rn S ms j = true) ∧ Hid (wr.ownsRow W.heap.size 3 1 (.slice sva T.length svc) T.length (T.map (Value.int .i64))) ∧ Hid (wr.heap[wq.heap.size]? = some (.cells #[.slice am ms.length capm, .int .i64 xb] tWv (0, 0))) ∧ Hid (Nw W wr)) (fun sv iv _ => ms.length - (intOf iv).toNat)
      case atStart => exact ⟨0, S, sva, svc, Nat.zero_le _, rfl, rfl, (by show _ = _; rw [List.take_zero, List.append_nil]), fun j hj => by omega, HO2.out, K2.out, HN2.out⟩
      case round =>
        clear HO HO2
        obtain ⟨i, T, sva, svc, hi, rfl, rfl, HT, hall, HO, HYB, HuW⟩ := hrel
        obtain ⟨wp, rfl⟩ : ∃ x, x = wr := ⟨_, rfl⟩
        have y0 : wp.cell? ⟨wq.heap.size, 0, none⟩ = some (.slice am ms.length capm) := by rw [cells_cell HYB.out]; rfl
        clear x2
        have x2 := HX.out wp HuW.out
        by_cases hil : i < ms.length
        · rcases HMc.out with hnil | ⟨b2, o2, rfl, hb2, hc2⟩
          · simp [hnil] at hil
          have q0 := nw_cellF HuW.out (hc2 i hil)
          have hget : ms.getD i 0 = ms[i] := getD_of hil
          have hkey : Wv.mOk rn S ms i = (Wv.inR rn ms[i] && (decide (i = 0) || decide (ms.getD (i - 1) 0 < ms[i])) && !S.contains ms[i]) := by unfold Wv.mOk; rw [hget]
          have htno := Wv.take_noW hil hall.out
          rw [hget, ← HT.out] at htno
          have hbad2 : Wv.mOk rn S ms i = false → Hid (Wv.formedGo rn [] ws = false) := fun e => Hbadg.out (Hnok.out (Wv.not_all_rangeW hil e)).out
          have hnext : Wv.mOk rn S ms i = true → Hid (∀ j, j < i + 1 → Wv.mOk rn S ms j = true) := fun e j hj => by
            by_cases ej : j = i
            · subst ej; exact e
            · exact hall.out j (by omega)
          have htk : ms.take (i + 1) = ms.take i ++ [ms[i]] := List.take_succ_eq_append_getElem hil
          have hprev : ∀ j, i = j + 1 → wp.cell? ⟨b2, o2 + j, none⟩ = some (.int .i64 (ms.getD (i - 1) 0)) := fun j e => by
            subst e
            rw [nw_cellF HuW.out (hc2 j (by omega)), Nat.add_sub_cancel, getD_of (by omega : j < ms.length)]
          have hLen : T.length ≤ 2000000 := by
            rw [HT.out, List.length_append, List.length_take]
            have := HSL.out
            omega
          have hhas := Lib.hid (has_ic sva svc T ms[i] wp (ic_of_own HO.out) (by unfold maxLen; omega))
          have HKey := Lib.hid hkey
          have Htno := Lib.hid htno
          have Hbad2 := Lib.hid hbad2
          have Hnext := Lib.hid hnext
          have Htk := Lib.hid htk
          have hi9 : (i : Int) < ms.length := by omega
          generalize ms.getD (i - 1) 0 = pv at *
          generalize ms[i] = k at *
          clear hkey htno hbad2 hnext htk hget hc2
          by_cases g1 : k < 0
          · have hr := Hbad2.out (by rw [HKey.out]; unfold Wv.inR; rw [decide_eq_false (show ¬ 0 ≤ k by omega)]; rfl)
            go_wp2_with fail
            go_ret
            exact ⟨ret_bool hr.out.symm, HN.out.trans HuW.out⟩
          by_cases g2 : k < (rn : Int)
          rotate_left
          · have hr := Hbad2.out (by rw [HKey.out]; unfold Wv.inR; rw [decide_eq_false g2]; simp)
            go_wp2_with fail
            go_ret
            exact ⟨ret_bool hr.out.symm, HN.out.trans HuW.out⟩
          have e0 : Hid (Wv.inR rn k = true) := Wv.inR_iff.2 ⟨by omega, g2⟩
          by_cases g0 : i = 0
          · subst g0
            rw [Nat.add_zero] at q0
            have hsc := Htno.out (Or.inl rfl)
            have hky : Hid (Wv.mOk rn S ms 0 = !S.contains k) := by show _ = _; rw [HKey.out, e0.out]; simp
            clear hprev
            cases hsc9 : S.contains k with
            | true =>
              have hr := Hbad2.out (by rw [hky.out, hsc9]; rfl)
              have hl9 : decide (k ∈ T) = true := by rw [contains_dec, hsc, hsc9]
              rw [hl9] at hhas
              clear hsc hky hl9 hsc9
              go_wp2_with fail
              (with_reducible refine (hhas.out).mono ?_)
              rintro _ w4 ⟨rfl, u4⟩
              have HuW4 := Lib.hid (HuW.out.trans u4)
              clear u4
              go_wp2_with fail
              go_ret
              exact ⟨ret_bool hr.out.symm, HN.out.trans HuW4.out⟩
            | false =>
              have hn9 := Hnext.out (by rw [hky.out, hsc9]; rfl)
              have hl9 : decide (k ∈ T) = false := by rw [contains_dec, hsc, hsc9]
              rw [hl9] at hhas
              clear hsc hky hl9 hsc9
              go_wp2_with fail
              (with_reducible refine (hhas.out).mono ?_)
              rintro _ w4 ⟨rfl, u4⟩
              have HuW4 := Lib.hid (HuW.out.trans u4)
              have HO4 := Lib.hid (owns_upd' HO.out u4 (fun _ _ e => e))
              have HY4 := Lib.hid (u4.keep HYB.out)
              have y0 : w4.cell? ⟨wq.heap.size, 0, none⟩ = some (.slice (some ⟨b2, o2, none⟩) ms.length capm) := by rw [cells_cell HY4.out]; rfl
              have z0 := nw_cellF u4 q0
              have hz : W.heap.size ≤ w4.heap.size := HuW4.out.size
              have hg1 : nG ≤ W.heap.size := HGB.out
              skip
              clear u4
              go_wp2_with (at_builtin; refine wpList_appL rfl _ _ 23 rfl W.heap.size 3 _ 1 8 Tryz.underlying23 infoIntW rfl (by decide) _ _ _ rfl HO4.out [.int .i64 k] rfl rfl ?c1 ?c2 ?c3 hz hg1 ?_)
              case c1 => intro u hu; rw [List.mem_singleton.1 hu]; rfl
              case c2 => unfold maxLen; omega
              case c3 => omega
              intro v' w9 hown9 u9 hob
              have hfin : Hid (w9.ownsRow W.heap.size 3 1 v' (T ++ [k]).length ((T ++ [k]).map (Value.int .i64))) := by
                show w9.ownsRow _ _ _ _ _ _
                rw [List.length_append, List.length_singleton, List.map_append]
                exact hown9
              have hT9 : Hid (T ++ [k] = S ++ ms.take (0 + 1)) := by show _ = _; rw [Htk.out, HT.out, List.append_assoc]
              have hkb : ∀ j, (Value.slice sva T.length svc).ownBlock = some j → W.heap.size ≤ j ∧ ¬ j = wq.heap.size := fun j hj => by
                obtain ⟨h1, cs2, hcs2⟩ := own_block HO4.out hj
                refine ⟨h1, fun e => ?_⟩
                subst e
                rw [HY4.out] at hcs2
                injection hcs2 with hcs2
                injection hcs2 with _ hT
                exact absurd hT (by decide)
              have HU9 : Hid (Nw W w9) := HuW4.out.trans' u9 (fun j hj e => by have := (hkb _ e).1; show False; omega)
              have HY9 := Lib.hid (u9.keep HY4.out (fun e => (hkb _ e).2 rfl))
              obtain ⟨a9, cap9, rfl⟩ := own_slW hfin.out
              clear hown9 u9 hob hkb y0 z0
              go_wp2_with fail
              go_roundw
              case rel => exact ⟨0 + 1, T ++ [k], _, _, by omega, by go_num, rfl, hT9, hn9, hfin, HY9, HU9⟩
              case measure => simp [intOf]; omega
          · obtain ⟨j0, rfl⟩ : ∃ j0, i = j0 + 1 := ⟨i - 1, by omega⟩
            have q1 := hprev j0 rfl
            have hip : (0 : Int) < ((j0 + 1 : Nat) : Int) := by omega
            by_cases g3 : pv < k
            · have hsc := Htno.out (Or.inr g3)
              have hky : Hid (Wv.mOk rn S ms (j0 + 1) = !S.contains k) := by show _ = _; rw [HKey.out, e0.out]; simp [g3]
              clear hprev
              cases hsc9 : S.contains k with
              | true =>
                have hr := Hbad2.out (by rw [hky.out, hsc9]; rfl)
                have hl9 : decide (k ∈ T) = true := by rw [contains_dec, hsc, hsc9]
                rw [hl9] at hhas
                clear hsc hky hl9 hsc9
                go_wp2_with fail
                (with_reducible refine (hhas.out).mono ?_)
                rintro _ w4 ⟨rfl, u4⟩
                have HuW4 := Lib.hid (HuW.out.trans u4)
                clear u4
                go_wp2_with fail
                go_ret
                exact ⟨ret_bool hr.out.symm, HN.out.trans HuW4.out⟩
              | false =>
                have hn9 := Hnext.out (by rw [hky.out, hsc9]; rfl)
                have hl9 : decide (k ∈ T) = false := by rw [contains_dec, hsc, hsc9]
                rw [hl9] at hhas
                clear hsc hky hl9 hsc9
                go_wp2_with fail
                (with_reducible refine (hhas.out).mono ?_)
                rintro _ w4 ⟨rfl, u4⟩
                have HuW4 := Lib.hid (HuW.out.trans u4)
                have HO4 := Lib.hid (owns_upd' HO.out u4 (fun _ _ e => e))
                have HY4 := Lib.hid (u4.keep HYB.out)
                have y0 : w4.cell? ⟨wq.heap.size, 0, none⟩ = some (.slice (some ⟨b2, o2, none⟩) ms.length capm) := by rw [cells_cell HY4.out]; rfl
                have z0 := nw_cellF u4 q0
                have hz : W.heap.size ≤ w4.heap.size := HuW4.out.size
                have hg1 : nG ≤ W.heap.size := HGB.out
                (have z1 := nw_cellF u4 q1)
                clear u4
                go_wp2_with (at_builtin; refine wpList_appL rfl _ _ 23 rfl W.heap.size 3 _ 1 8 Tryz.underlying23 infoIntW rfl (by decide) _ _ _ rfl HO4.out [.int .i64 k] rfl rfl ?c1 ?c2 ?c3 hz hg1 ?_)
                case c1 => intro u hu; rw [List.mem_singleton.1 hu]; rfl
                case c2 => unfold maxLen; omega
                case c3 => omega
                intro v' w9 hown9 u9 hob
                have hfin : Hid (w9.ownsRow W.heap.size 3 1 v' (T ++ [k]).length ((T ++ [k]).map (Value.int .i64))) := by
                  show w9.ownsRow _ _ _ _ _ _
                  rw [List.length_append, List.length_singleton, List.map_append]
                  exact hown9
                have hT9 : Hid (T ++ [k] = S ++ ms.take ((j0 + 1) + 1)) := by show _ = _; rw [Htk.out, HT.out, List.append_assoc]
                have hkb : ∀ j, (Value.slice sva T.length svc).ownBlock = some j → W.heap.size ≤ j ∧ ¬ j = wq.heap.size := fun j hj => by
                  obtain ⟨h1, cs2, hcs2⟩ := own_block HO4.out hj
                  refine ⟨h1, fun e => ?_⟩
                  subst e
                  rw [HY4.out] at hcs2
                  injection hcs2 with hcs2
                  injection hcs2 with _ hT
                  exact absurd hT (by decide)
                have HU9 : Hid (Nw W w9) := HuW4.out.trans' u9 (fun j hj e => by have := (hkb _ e).1; show False; omega)
                have HY9 := Lib.hid (u9.keep HY4.out (fun e => (hkb _ e).2 rfl))
                obtain ⟨a9, cap9, rfl⟩ := own_slW hfin.out
                clear hown9 u9 hob hkb y0 z0
                go_wp2_with fail
                go_roundw
                case rel => exact ⟨(j0 + 1) + 1, T ++ [k], _, _, by omega, by go_num, rfl, hT9, hn9, hfin, HY9, HU9⟩
                case measure => simp [intOf]; omega
            · have hr := Hbad2.out (by rw [HKey.out]; simp [g3])
              clear hprev
              generalize (decide (k ∈ T)) = hb at *
              go_wp2_with fail
              (with_reducible refine (hhas.out).mono ?_)
              rintro _ w4 ⟨rfl, u4⟩
              have HuW4 := Lib.hid (HuW.out.trans u4)
              have y0 : w4.cell? ⟨wq.heap.size, 0, none⟩ = some (.slice (some ⟨b2, o2, none⟩) ms.length capm) := by rw [cells_cell (u4.keep HYB.out)]; rfl
              have z1 := nw_cellF u4 q1
              clear u4
              cases hb <;>
              · go_wp2_with fail
                go_ret
                exact ⟨ret_bool hr.out.symm, HN.out.trans HuW4.out⟩
        · obtain rfl : i = ms.length := by omega
          have hall2 := Hgo.out (Hok.out (Wv.all_rangeW hall.out)).out
          have hT9 : T = S ++ ms := by rw [HT.out, List.take_length]
          have hSL9 : Hid ((S ++ ms).length ≤ (n + 1) * 1000) := by
            show _ ≤ _
            rw [List.length_append]
            have := HSL.out
            omega
          rw [← hT9] at hSL9 hall2
          clear hT9
          have hi1 : ¬ ((ms.length : Nat) : Int) < ms.length := by omega
          go_wp2_with fail
          go_roundw
          case rel => exact ⟨n + 1, T, sva, svc, by omega, by go_num, rfl, hSL9, hall2, HO, HuW⟩
          case measure => simp [intOf]; omega
    · obtain rfl : n = ws.length := by omega
      rw [List.drop_length] at hS
      have hr : Hid (Wv.formedGo rn [] ws = true) := hS
      have hlt1 : ¬ ((ws.length : Nat) : Int) < ws.length := by omega
      clear HS hS
      go_wp2_with fail
      go_ret
      exact ⟨ret_bool hr.out.symm, HN.out.trans HU1.out⟩
end Go.Proofs.YtjlgmoemnhmgmaaGreatDoor
