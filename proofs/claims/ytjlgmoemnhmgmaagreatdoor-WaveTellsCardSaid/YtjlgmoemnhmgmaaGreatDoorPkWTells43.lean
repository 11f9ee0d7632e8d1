/- The reference's Plan; the walk of WaveTells. -/
import Derived.Test.YtjlgmoemnhmgmaaGreatDoorPkWTells42
namespace Go.Proofs.YtjlgmoemnhmgmaaGreatDoor
open Go.RowKit
set_option linter.unusedVariables false
set_option linter.unusedSimpArgs false
attribute [local irreducible] Calls
open Fm (Ty Vl Str)
open Wv (Svc FL)

def PlanR (w : World) (r : List Wv.Wave × Int) (e : Ending) (w' : World) : Prop := ∃ a c, e = .returned (.tuple #[.slice a r.1.length c, .int .i64 r.2]) ∧ Hid (WvC w' a r.1 ∧ Nw w w')
theorem planRes_rest (f : FL) (q : Int) (h : List Int) (r : Option (List Nat)) : Wv.planRes f q h r = ((restRes f q h r).1, if (restRes f q h r).2 then 0 else 27) := by cases r <;> rfl
set_option maxHeartbeats 16000000 in
set_option maxRecDepth 100000 in
theorem Plan_r (oa na ra ha : Option Addr) (oc nc rc hc : Nat) (f : FL) (quota : Int) (holds : List Int) (w : World) (g : Gm w) (h : FlAt w oa na ra oc nc f) (hs : Sm f) (hrl : f.runs.length ≤ 8) (ho4 : f.old.length ≤ 4) (hhc : IC w ha holds) (hhl : holds.length ≤ 10) (hqm : quota ≤ 9223372036854775807) :
    Calls Tryz.prog 15 #[.agg (flV oa na ra oc nc rc f), .int .i64 quota, .slice ha holds.length hc] w (PlanR w (Wv.planF f quota holds)) := by
  unfold flV
  have n1 := nw_alloc w (.cells #[.slice oa f.old.length oc, .slice na f.new.length nc, .slice ra f.runs.length rc] tFl)
  have b1 := heap_new w (.cells #[.slice oa f.old.length oc, .slice na f.new.length nc, .slice ra f.runs.length rc] tFl)
  obtain ⟨W, hW⟩ : ∃ z, z = w.alloc (.cells #[.slice oa f.old.length oc, .slice na f.new.length nc, .slice ra f.runs.length rc] tFl) := ⟨_, rfl⟩
  rw [← hW] at n1 b1
  have HW := Lib.hid hW
  have HN := Lib.hid n1
  have HX : Hid (∀ y, Nw W y → y.cell? ⟨w.heap.size, 0, none⟩ = some (.slice oa f.old.length oc) ∧ y.cell? ⟨w.heap.size, 1, none⟩ = some (.slice na f.new.length nc) ∧ y.cell? ⟨w.heap.size, 2, none⟩ = some (.slice ra f.runs.length rc)) := fun y u => ⟨by rw [cells_cell (Nw.keep u b1)]; rfl, by rw [cells_cell (Nw.keep u b1)]; rfl, by rw [cells_cell (Nw.keep u b1)]; rfl⟩
  have HHO : Hid (∀ y, Nw W y → IC y ha holds) := fun y u => IC.nw hhc (n1.trans u)
  have hr1 : Hid (Calls Tryz.prog 19 #[.agg #[.slice oa f.old.length oc, .slice na f.new.length nc, .slice ra f.runs.length rc]] W fun e w' => e = .returned (.bool (Wv.right f)) ∧ Nw W w') := Right_r oa na ra oc nc rc f W (g.upd n1).g.big (h.nw n1) hs
  obtain ⟨r, hr⟩ : ∃ r, r = Wv.planF f quota holds := ⟨_, rfl⟩
  rw [← hr]
  have HRR := Lib.hid hr
  have HSZ : Hid (f.runs.length ≤ 8 ∧ f.old.length ≤ 4 ∧ holds.length ≤ 10) := ⟨hrl, ho4, hhl⟩
  have HG0 := Lib.hid (g.upd n1)
  have HF0 := Lib.hid (h.nw n1)
  have HSM := Lib.hid hs
  have hhl1 : (holds.length : Int) ≤ 10 := by omega
  clear hr n1 b1 hW hhc g h hs
  obtain ⟨x0, x1, x2⟩ := HX.out W (Upd.refl _ _)
  go_enter Tryz.func15, Tryz.ntmps15
  go_upto_region 1 with fail
  rw [← HW.out]
  clear HW
  cases hri : Wv.right f with
  | false =>
    have HR1 : Hid (r = ([], 1)) := by show _ = _; rw [HRR.out]; unfold Wv.planF; rw [if_neg (fun e => by rw [hri] at e; cases e.1)]
    rw [hri] at hr1
    clear hri
    go_wp2_with fail
    (with_reducible refine (hr1.out).mono ?_)
    rintro _ w2 ⟨rfl, u2⟩
    have U2 := Lib.hid (HN.out.trans u2)
    clear u2
    go_wp2_with fail
    refine bodyPost_ret (planr_results _ _) rfl ?_
    rw [HR1.out]
    exact ⟨none, 0, rfl, Or.inl rfl, U2.out⟩
  | true =>
  rw [hri] at hr1
  have HRI := Lib.hid hri
  clear hri
  by_cases hq1 : quota < 1
  · have HR1 : Hid (r = ([], 1)) := by show _ = _; rw [HRR.out]; unfold Wv.planF; rw [if_neg (fun e => by have := e.2.1; omega)]
    go_wp2_with fail
    (with_reducible refine (hr1.out).mono ?_)
    rintro _ w2 ⟨rfl, u2⟩
    have U2 := Lib.hid (HN.out.trans u2)
    clear u2
    go_wp2_with fail
    refine bodyPost_ret (planr_results _ _) rfl ?_
    rw [HR1.out]
    exact ⟨none, 0, rfl, Or.inl rfl, U2.out⟩
  have HQ : Hid (1 ≤ quota ∧ quota ≤ 9223372036854775807) := by show _ ∧ _; omega
  have HBAD : Hid (Wv.holdsOk holds = false → r = ([], 1)) := fun e => by rw [HRR.out]; exact Wv.plan_bad HRI.out HQ.out.1 e
  go_wp2_with fail
  (with_reducible refine (hr1.out).mono ?_)
  rintro _ w2 ⟨rfl, u2⟩
  have U2 := Lib.hid u2
  clear u2 hr1 x0 x1 x2
  go_wp2_with fail
  go_loopw [8] (fun iv wr => ∃ i : Nat, i ≤ holds.length ∧ iv = .int .i64 (i : Int) ∧ Hid (Wv.badTo holds i = false) ∧ Hid (Nw W wr)) (fun iv _ => holds.length - (intOf iv).toNat)
  case atStart => exact ⟨0, Nat.zero_le _, rfl, rfl, U2.out⟩
  case round =>
    clear U2
    obtain ⟨i, hi, rfl, HB, U2⟩ := hrel
    by_cases hil : i < holds.length
    · have hil1 : (i : Int) < holds.length := by omega
      have hi9 : (i : Int) ≤ 10 := by omega
      have hi0 : decide ((i : Int) < 0) = false := decide_eq_false (by omega)
      rcases HHO.out _ U2.out with hnil | ⟨hb, ho, rfl, hb2, hcell⟩
      · rw [hnil] at hil; simp at hil
      have z0 := hcell i hil
      have HBS := Lib.hid (Wv.badTo_succ hil)
      have HBA : Hid (holdB holds[i] = true → r = ([], 1)) := fun e => HBAD.out (by
        cases hh : Wv.holdsOk holds with
        | false => rfl
        | true =>
          rw [Wv.holdsOk_eq] at hh
          have h2 : holds.any holdB = false := by simpa using hh
          have := List.any_eq_false.1 h2 _ (List.getElem_mem hil)
          exact absurd e this)
      clear hcell
      generalize holds[i]'hil = x at *
      have HHX : Hid (holdB x = (decide (x < 0) || decide (1073741824 < x))) := rfl
      by_cases h1 : x < 0
      · have HR1 := Lib.hid (HBA.out (by rw [HHX.out, decide_eq_true h1]; rfl))
        go_wp2_with fail
        refine bodyPost_ret (planr_results _ _) rfl ?_
        rw [HR1.out]
        exact ⟨none, 0, rfl, Or.inl rfl, HN.out.trans U2.out⟩
      · by_cases h2 : 1073741824 < x
        · have HR1 := Lib.hid (HBA.out (by rw [HHX.out, decide_eq_true h2]; simp))
          go_wp2_with fail
          refine bodyPost_ret (planr_results _ _) rfl ?_
          rw [HR1.out]
          exact ⟨none, 0, rfl, Or.inl rfl, HN.out.trans U2.out⟩
        · have HB2 : Hid (Wv.badTo holds (i + 1) = false) := by show _ = _; rw [HBS.out, HB.out, HHX.out, decide_eq_false h1, decide_eq_false h2]; rfl
          go_wp2_with fail
          go_roundw
          case rel => exact ⟨i + 1, by omega, by go_num, HB2, U2⟩
          case measure => simp [intOf]; omega
    · obtain rfl : i = holds.length := by omega
      have hil1 : ¬ ((holds.length : Nat) : Int) < holds.length := by omega
      have hok : Wv.holdsOk holds = true := by
        have := HB.out
        rw [Wv.badTo_all] at this
        simpa using this
      have HRP : Hid (r = ((restRes f quota holds (Wv.refP f quota holds 5 [])).1, if (restRes f quota holds (Wv.refP f quota holds 5 [])).2 then 0 else 27)) := by
        show _ = _
        rw [HRR.out, Wv.ref_plan HRI.out HQ.out.1 hok (n := 5) (by have := HSZ.out; omega), planRes_rest]
      have hre : Hid (Calls Tryz.prog 41 #[.agg #[.slice oa f.old.length oc, .slice na f.new.length nc, .slice ra f.runs.length rc], .slice none 0 0, .slice none 0 0, .int .i64 quota, .slice ha holds.length hc] wr (RestR wr (restRes f quota holds (Wv.refP f quota holds 5 [])))) :=
        rest_r oa na ra ha oc nc rc hc f quota holds W HG0.out HF0.out HSM.out HRI.out HSZ.out.1 HSZ.out.2.1 HQ.out.1 HQ.out.2 (HHO.out W (Upd.refl _ _)) HSZ.out.2.2 5 [] none none 0 0 wr U2.out (by simp) (by
          have h1 := List.length_filter_le (fun s => (Wv.allBits f).testBit s && !decide (s ∈ ([] : List Nat))) (List.range f.old.length)
          rw [List.length_range] at h1
          have h2 := HSZ.out
          show (Wv.leftO f []).length < 5
          unfold Wv.leftO
          omega) (Or.inl rfl) (Or.inl rfl)
      have HRE0 : Hid ((restRes f quota holds (Wv.refP f quota holds 5 [])).2 = false → (restRes f quota holds (Wv.refP f quota holds 5 [])).1 = []) := fun e => by
        cases hx : Wv.refP f quota holds 5 [] with
        | none => rfl
        | some x => rw [hx] at e; cases e
      generalize restRes f quota holds (Wv.refP f quota holds 5 []) = rr at *
      obtain ⟨rw1, rb⟩ := rr
      unfold RestR at hre
      dsimp only at hre HRP HRE0
      obtain ⟨x0, x1, x2⟩ := HX.out wr U2.out
      cases rb with
      | true =>
        go_wp2_with fail
        (with_reducible refine (hre.out).mono ?_)
        rintro _ w3 ⟨a3, c3, rfl, H3⟩
        have U3 := Lib.hid (HN.out.trans (U2.out.trans H3.out.2))
        have HW3 := Lib.hid H3.out.1
        clear H3
        go_wp2_with fail
        refine bodyPost_ret (planr_results _ _) rfl ?_
        rw [HRP.out]
        exact ⟨a3, c3, rfl, HW3.out, U3.out⟩
      | false =>
        have hrw := HRE0.out rfl
        subst hrw
        go_wp2_with fail
        (with_reducible refine (hre.out).mono ?_)
        rintro _ w3 ⟨a3, c3, rfl, H3⟩
        have U3 := Lib.hid (HN.out.trans (U2.out.trans H3.out.2))
        have HW3 := Lib.hid H3.out.1
        clear H3
        go_wp2_with fail
        refine bodyPost_ret (planr_results _ _) rfl ?_
        rw [HRP.out]
        exact ⟨none, 0, rfl, Or.inl rfl, U3.out⟩
set_option maxHeartbeats 16000000 in
set_option maxRecDepth 100000 in
theorem waveTells_c (oa na ra da wa ha : Option Addr) (oc nc rc dc wvc hc : Nat) (f : FL) (done : List Bool) (ws : List Wv.Wave) (quota : Int) (holds : List Int) (w : World) (g : Gm w) (h : FlAt w oa na ra oc nc f) (hd : BC w da done) (hdl : done.length ≤ maxLen) (hws : WvC w wa ws) (hwl : ws.length ≤ maxLen)
    (hhc : IC w ha holds) (hhl : holds.length ≤ maxLen) (hq : I64 quota) :
    Calls Tryz.prog 3 #[.agg (flV oa na ra oc nc rc f), .slice da done.length dc, .slice wa ws.length wvc, .int .i64 quota, .slice ha holds.length hc] w fun e w' => e = .returned (.bool true) ∧ Nw w w' := by
  unfold flV
  have n1 := nw_alloc w (.cells #[.slice oa f.old.length oc, .slice na f.new.length nc, .slice ra f.runs.length rc] tFl)
  have b1 := heap_new w (.cells #[.slice oa f.old.length oc, .slice na f.new.length nc, .slice ra f.runs.length rc] tFl)
  obtain ⟨W, hW⟩ : ∃ z, z = w.alloc (.cells #[.slice oa f.old.length oc, .slice na f.new.length nc, .slice ra f.runs.length rc] tFl) := ⟨_, rfl⟩
  rw [← hW] at n1 b1
  have HW := Lib.hid hW
  have HN := Lib.hid n1
  have HX : Hid (∀ y, Nw W y → y.cell? ⟨w.heap.size, 0, none⟩ = some (.slice oa f.old.length oc) ∧ y.cell? ⟨w.heap.size, 1, none⟩ = some (.slice na f.new.length nc) ∧ y.cell? ⟨w.heap.size, 2, none⟩ = some (.slice ra f.runs.length rc)) := fun y u => ⟨by rw [cells_cell (Nw.keep u b1)]; rfl, by rw [cells_cell (Nw.keep u b1)]; rfl, by rw [cells_cell (Nw.keep u b1)]; rfl⟩
  have HF : Hid (∀ y, Nw W y → FlAt y oa na ra oc nc f) := fun y u => h.nw (n1.trans u)
  have HG : Hid (∀ y, Nw W y → Gm y) := fun y u => g.upd (n1.trans u)
  have HWV : Hid (∀ y, Nw W y → WvC y wa ws) := fun y u => WvC.nw hws (n1.trans u)
  have HHO : Hid (∀ y, Nw W y → IC y ha holds) := fun y u => IC.nw hhc (n1.trans u)
  have HD : Hid (∀ y, Nw W y → BC y da done) := fun y u => BC.nw hd (n1.trans u)
  have hs1 := Lib.hid (small_c W (g.upd n1))
  have HWL : Hid (ws.length ≤ maxLen ∧ holds.length ≤ maxLen) := ⟨hwl, hhl⟩
  unfold I64 at hq
  unfold maxLen at hwl hhl hdl
  have hdl1 : (done.length : Int) ≤ 9223372036854775807 := by omega
  clear n1 b1 hW h hws hhc g hd
  go_enter Tryz.func3, Tryz.ntmps3
  go_upto_region 1 with fail
  rw [← HW.out]
  clear HW
  go_wp2_with fail
  (with_reducible refine (hs1.out).mono ?_)
  rintro _ w2 ⟨rfl, u2⟩
  have U2 := Lib.hid u2
  have hf1 := Lib.hid (few_c oa na ra wa ha oc nc rc wvc hc f ws holds w2 (HF.out w2 u2) (HWV.out w2 u2) HWL.out.1 HWL.out.2)
  obtain ⟨x0, x1, x2⟩ := HX.out w2 u2
  unfold flV at hf1
  clear u2 hs1
  cases hfe : fewL f ws holds with
  | false =>
    rw [hfe] at hf1
    clear hfe
    go_wp2_with fail
    (with_reducible refine (hf1.out).mono ?_)
    rintro _ w3 ⟨rfl, u3⟩
    have U3 := Lib.hid (HN.out.trans (U2.out.trans u3))
    clear u3
    go_wp2_with fail
    go_ret
    exact ⟨rfl, U3.out⟩
  | true =>
  rw [hfe] at hf1
  unfold fewL at hfe
  simp only [Bool.and_eq_true, decide_eq_true_eq] at hfe
  obtain ⟨⟨hfe1, hfe2⟩, hfe3⟩ := hfe
  obtain ⟨hsm, hrl8, ho4, hnn4⟩ := sm_few hfe1
  obtain ⟨hw10, hm10⟩ := ws_few hfe2
  have HSM := Lib.hid hsm
  have HSZ : Hid (f.runs.length ≤ 8 ∧ f.old.length ≤ 4 ∧ ws.length ≤ 10 ∧ holds.length ≤ 10) := ⟨hrl8, ho4, hw10, hfe3⟩
  have HM10 := Lib.hid hm10
  clear hsm hrl8 ho4 hnn4 hfe1 hfe2 hfe3 hw10 hm10
  by_cases hd100 : (100 : Int) < done.length
  · go_wp2_with fail
    (with_reducible refine (hf1.out).mono ?_)
    rintro _ w3 ⟨rfl, u3⟩
    have U3 := Lib.hid (HN.out.trans (U2.out.trans u3))
    clear u3
    go_wp2_with fail
    go_ret
    exact ⟨rfl, U3.out⟩
  go_wp2_with fail
  (with_reducible refine (hf1.out).mono ?_)
  rintro _ w3 ⟨rfl, u3⟩
  have U3 := Lib.hid (U2.out.trans u3)
  clear u3 hf1 x0 x1 x2
  obtain ⟨m0, m1, m2, hmx⟩ : ∃ m0 m1 m2, Wv.mixed f done = (m0, m1, m2) := ⟨_, _, _, rfl⟩
  obtain ⟨rl, rcd, hrn⟩ : ∃ a b, Wv.runF f ws quota holds = (a, b) := ⟨_, _, rfl⟩
  obtain ⟨pl, pcd, hpl⟩ : ∃ a b, Wv.planF f quota holds = (a, b) := ⟨_, _, rfl⟩
  have HMIX1 : Hid (∀ y, Nw W y → Calls Tryz.prog 10 #[.agg #[.slice oa f.old.length oc, .slice na f.new.length nc, .slice ra f.runs.length rc], .slice da done.length dc] y fun e w' => e = .returned (.tuple #[.int .i64 m0, .int .i64 m1, .bool m2]) ∧ Nw y w') := fun y u => by
    have := Mixed_c oa na ra da oc nc rc dc f done y (HG.out y u) (HF.out y u) HSM.out (HD.out y u) trivial
    rw [hmx] at this
    exact this
  have HMIX2 : Hid (∀ y, Nw W y → Calls Tryz.prog 11 #[.agg #[.slice oa f.old.length oc, .slice na f.new.length nc, .slice ra f.runs.length rc], .slice da done.length dc] y fun e w' => e = .returned (.tuple #[.int .i64 m0, .int .i64 m1, .bool m2]) ∧ Nw y w') := fun y u => by
    have := Mixed_r oa na ra da oc nc rc dc f done y (HG.out y u) (HF.out y u) HSM.out (HD.out y u)
    rw [hmx] at this
    exact this
  have HRUN1 : Hid (∀ y, Nw W y → Calls Tryz.prog 12 #[.agg #[.slice oa f.old.length oc, .slice na f.new.length nc, .slice ra f.runs.length rc], .slice wa ws.length wvc, .int .i64 quota, .slice ha holds.length hc] y (RunD y (rl, rcd))) := fun y u => by
    have := Run_c oa na ra wa ha oc nc rc wvc hc f ws quota holds y (HG.out y u) (HF.out y u) HSM.out (HWV.out y u) (by have := HSZ.out; omega) (fun x hx => by have := HM10.out x hx; omega) (HHO.out y u) (by have := HSZ.out; omega)
    rw [hrn] at this
    exact this
  have HRUN2 : Hid (∀ y, Nw W y → Calls Tryz.prog 13 #[.agg #[.slice oa f.old.length oc, .slice na f.new.length nc, .slice ra f.runs.length rc], .slice wa ws.length wvc, .int .i64 quota, .slice ha holds.length hc] y (RunD y (rl, rcd))) := fun y u => by
    have := Run_r oa na ra wa ha oc nc rc wvc hc f ws quota holds y (HG.out y u) (HF.out y u) HSM.out (by have := HSZ.out; omega) (HWV.out y u) (by have := HSZ.out; omega) (fun x hx => by have := HM10.out x hx; omega) (HHO.out y u) (by have := HSZ.out; omega)
    rw [hrn] at this
    exact this
  have HPL1 : Hid (∀ y, Nw W y → Calls Tryz.prog 14 #[.agg #[.slice oa f.old.length oc, .slice na f.new.length nc, .slice ra f.runs.length rc], .int .i64 quota, .slice ha holds.length hc] y (PlanW y (pl, pcd))) := fun y u => by
    have := Plan_c oa na ra ha oc nc rc hc f quota holds y (HG.out y u) (HF.out y u) HSM.out (HHO.out y u) (by have := HSZ.out; omega) (by omega)
    rw [hpl] at this
    exact this
  have HPL2 : Hid (∀ y, Nw W y → Calls Tryz.prog 15 #[.agg #[.slice oa f.old.length oc, .slice na f.new.length nc, .slice ra f.runs.length rc], .int .i64 quota, .slice ha holds.length hc] y (PlanR y (pl, pcd))) := fun y u => by
    have := Plan_r oa na ra ha oc nc rc hc f quota holds y (HG.out y u) (HF.out y u) HSM.out (by have := HSZ.out; omega) (by have := HSZ.out; omega) (HHO.out y u) (by have := HSZ.out; omega) (by omega)
    rw [hpl] at this
    exact this
  have HRT1 : Hid (∀ y, Nw W y → Calls Tryz.prog 18 #[.agg #[.slice oa f.old.length oc, .slice na f.new.length nc, .slice ra f.runs.length rc]] y fun e w' => e = .returned (.bool (Wv.right f)) ∧ Nw y w') := fun y u => wvRight_c oa na ra oc nc rc f y (HG.out y u) (HF.out y u) HSM.out.o HSM.out.n HSM.out.r HSM.out.so HSM.out.sn
  have HRT2 : Hid (∀ y, Nw W y → Calls Tryz.prog 19 #[.agg #[.slice oa f.old.length oc, .slice na f.new.length nc, .slice ra f.runs.length rc]] y fun e w' => e = .returned (.bool (Wv.right f)) ∧ Nw y w') := fun y u => Right_r oa na ra oc nc rc f y (HG.out y u).g.big (HF.out y u) HSM.out
  clear hmx hrn hpl
  unfold RunD PlanW PlanR at *
  dsimp only at HRUN1 HRUN2 HPL1 HPL2
  obtain ⟨x0, x1, x2⟩ := HX.out w3 U3.out
  have h4 := Lib.hid (HMIX1.out w3 U3.out)
  go_wp2_with fail
  (with_reducible refine (h4.out).mono ?_)
  rintro _ w4 ⟨rfl, u4⟩
  have U4 := Lib.hid (U3.out.trans u4)
  clear u4 h4 x0 x1 x2
  obtain ⟨x0, x1, x2⟩ := HX.out w4 U4.out
  have h5 := Lib.hid (HMIX2.out w4 U4.out)
  go_wp2_with fail
  (with_reducible refine (h5.out).mono ?_)
  rintro _ w5 ⟨rfl, u5⟩
  have U5 := Lib.hid (U4.out.trans u5)
  clear u5 h5 x0 x1 x2
  obtain ⟨x0, x1, x2⟩ := HX.out w5 U5.out
  have h6 := Lib.hid (HRUN1.out w5 U5.out)
  go_wp2_with fail
  (with_reducible refine (h6.out).mono ?_)
  rintro _ w6 ⟨v6, rfl, o6, u6⟩
  obtain ⟨a6, c6, rfl⟩ := own_slW o6
  have U6 := Lib.hid (U5.out.trans u6)
  have HI6 := Lib.hid (ic_of_own o6)
  have hml : rl.length ≤ maxLen := (Nat.le_trans (own_cap o6).1 (own_cap o6).2)
  have HML := Lib.hid hml
  clear u6 h6 x0 x1 x2 o6 hml
  obtain ⟨x0, x1, x2⟩ := HX.out w6 U6.out
  have h7 := Lib.hid (HRUN2.out w6 U6.out)
  go_wp2_with fail
  (with_reducible refine (h7.out).mono ?_)
  rintro _ w7 ⟨v7, rfl, o7, u7⟩
  obtain ⟨a7, c7, rfl⟩ := own_slW o7
  have U7 := Lib.hid (U6.out.trans u7)
  have HI7 : Hid (IC w7 a6 rl ∧ IC w7 a7 rl) := ⟨IC.nw HI6.out u7, ic_of_own o7⟩
  clear u7 h7 x0 x1 x2 o7 HI6
  obtain ⟨x0, x1, x2⟩ := HX.out w7 U7.out
  have h8 := Lib.hid (HPL1.out w7 U7.out)
  go_wp2_with fail
  (with_reducible refine (h8.out).mono ?_)
  rintro _ w8 ⟨v8, rfl, H8⟩
  obtain ⟨a8, c8, rfl⟩ := H8.out.1.sl
  have U8 := Lib.hid (U7.out.trans H8.out.2)
  have HI8 : Hid (IC w8 a6 rl ∧ IC w8 a7 rl ∧ WvC w8 a8 pl ∧ pl.length ≤ maxLen) := ⟨IC.nw HI7.out.1 H8.out.2, IC.nw HI7.out.2 H8.out.2, H8.out.1.wvc.1, H8.out.1.wvc.2.2⟩
  clear h8 x0 x1 x2 HI7 H8
  obtain ⟨x0, x1, x2⟩ := HX.out w8 U8.out
  have h9 := Lib.hid (HPL2.out w8 U8.out)
  go_wp2_with fail
  (with_reducible refine (h9.out).mono ?_)
  rintro _ w9 ⟨a9, c9, rfl, H9⟩
  have U9 := Lib.hid (U8.out.trans H9.out.2)
  have HI9 : Hid (IC w9 a6 rl ∧ IC w9 a7 rl ∧ WvC w9 a8 pl ∧ WvC w9 a9 pl) := ⟨IC.nw HI8.out.1 H9.out.2, IC.nw HI8.out.2.1 H9.out.2, WvC.nw HI8.out.2.2.1 H9.out.2, H9.out.1⟩
  have HPLL : Hid (pl.length ≤ maxLen) := HI8.out.2.2.2
  clear h9 x0 x1 x2 HI8 H9
  obtain ⟨x0, x1, x2⟩ := HX.out w9 U9.out
  have z0 : ∀ j : Later w9, j.1.cell? ⟨w.heap.size, 0, none⟩ = some (.slice oa f.old.length oc) := fun j => later_cell j x0
  have z1 : ∀ j : Later w9, j.1.cell? ⟨w.heap.size, 1, none⟩ = some (.slice na f.new.length nc) := fun j => later_cell j x1
  have z2 : ∀ j : Later w9, j.1.cell? ⟨w.heap.size, 2, none⟩ = some (.slice ra f.runs.length rc) := fun j => later_cell j x2
  have HC1 : Hid (∀ y, Nw w9 y → Calls Tryz.prog 16 #[.slice a6 rl.length c6, .slice a7 rl.length c7] y fun e w' => e = .returned (.bool true) ∧ Nw y w') := fun y u => by
    have := Ints_c a6 a7 c6 c7 rl rl y (IC.nw HI9.out.1 u) (IC.nw HI9.out.2.1 u) HML.out HML.out
    rw [decide_eq_true rfl] at this
    exact this
  have HC2 : Hid (∀ y, Nw w9 y → Calls Tryz.prog 17 #[.slice a8 pl.length c8, .slice a9 pl.length c9] y fun e w' => e = .returned (.bool true) ∧ Nw y w') := fun y u => by
    have := Same_c a8 a9 c8 c9 pl pl y (WvC.nw HI9.out.2.2.1 u) (WvC.nw HI9.out.2.2.2 u) HPLL.out HPLL.out
    rw [decide_eq_true rfl] at this
    exact this
  have HC3 : Hid (∀ y, Nw w9 y → Calls Tryz.prog 18 #[.agg #[.slice oa f.old.length oc, .slice na f.new.length nc, .slice ra f.runs.length rc]] y fun e w' => e = .returned (.bool (Wv.right f)) ∧ Nw y w') := fun y u => HRT1.out y (U9.out.trans u)
  have HC4 : Hid (∀ y, Nw w9 y → Calls Tryz.prog 19 #[.agg #[.slice oa f.old.length oc, .slice na f.new.length nc, .slice ra f.runs.length rc]] y fun e w' => e = .returned (.bool (Wv.right f)) ∧ Nw y w') := fun y u => HRT2.out y (U9.out.trans u)
  clear x0 x1 x2
  generalize Wv.right f = rt at *
  go_upto_region 10 with fail
  refine wp_region_nw (by kernel_rfl) (by kernel_rfl) ?_
  repeat (go_big_quiet_step ((first | (go_at_call 16; exact later_call (HC1.out _ (Later.nw _))) | (go_at_call 17; exact later_call (HC2.out _ (Later.nw _))) | (go_at_call 18; exact later_call (HC3.out _ (Later.nw _))) | (go_at_call 19; exact later_call (HC4.out _ (Later.nw _))))))
  refine wpQuiet_nil ?_
  intro w10 u10
  replace u10 := later_out u10
  have U10 := Lib.hid (HN.out.trans (U9.out.trans u10))
  clear u10 z0 z1 z2
  go_wp2_with fail
  go_ret
  exact ⟨rfl, U10.out⟩
theorem waveTells_b (oa na ra wa : Option Addr) (oc nc rc wvc : Nat) (f : FL) (dv : Value) (done : List Bool) (ws : List Wv.Wave) (quota : Int) (hv : Value) (holds : List Int) (w : World) (g : Gm w) (h : FlAt w oa na ra oc nc f) (hd : Sl 0 w.heap.size w dv (done.map Value.bool)) (hws : WvC w wa ws) (hwl : ws.length ≤ maxLen)
    (hq : (Lit.int .i64 quota).wf = true) (hh : Sl 0 w.heap.size w hv (holds.map (Value.int .i64))) :
    Calls Tryz.prog 3 #[.agg #[.slice oa f.old.length oc, .slice na f.new.length nc, .slice ra f.runs.length rc], dv, .slice wa ws.length wvc, .int .i64 quota, hv] w fun e w' => e = .returned (.bool true) ∧ Nw w w' := by
  obtain ⟨ha, hc, rfl, hl, _, hic⟩ := IC.of_sl hh
  obtain ⟨da, dc, rfl, hdl, _, hdc⟩ := BC.of_sl hd
  exact waveTells_c oa na ra da wa ha oc nc rc dc wvc hc f done ws quota holds w g h hdc hdl hws hwl hic hl (i64_of_wf hq)
end Go.Proofs.YtjlgmoemnhmgmaaGreatDoor
