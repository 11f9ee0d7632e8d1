/- The reference's Run. -/
import Derived.Test.YtjlgmoemnhmgmaaGreatDoorPkWTells36
import Derived.Test.YtjlgmoemnhmgmaaGreatDoorPkWTells37
import Derived.Test.YtjlgmoemnhmgmaaGreatDoorPkWTells24
namespace Go.Proofs.YtjlgmoemnhmgmaaGreatDoor
open Go.RowKit
set_option linter.unusedVariables false
set_option linter.unusedSimpArgs false
attribute [local irreducible] Calls
open Fm (Ty Vl Str)
open Wv (Svc FL)

theorem runr_results (tmps : Array Value) (w : World) : (results Tryz.f13 tmps).run Tryz.prog w = .ok (.tuple #[tmps.getD 8 undef, tmps.getD 9 undef]) w := by
  simp [results, Tryz.results13, go_sem]
set_option maxHeartbeats 16000000 in
set_option maxRecDepth 100000 in
theorem Run_r (oa na ra wa ha : Option Addr) (oc nc rc wvc hc : Nat) (f : FL) (ws : List Wv.Wave) (quota : Int) (holds : List Int) (w : World) (g : Gm w) (h : FlAt w oa na ra oc nc f) (hs : Sm f) (hr4 : f.runs.length ≤ 400)
    (hws : WvC w wa ws) (hwl : ws.length ≤ 1000) (hms : ∀ x ∈ ws, x.ms.length ≤ 1000) (hhc : IC w ha holds) (hhl : holds.length ≤ 100000) :
    Calls Tryz.prog 13 #[.agg (flV oa na ra oc nc rc f), .slice wa ws.length wvc, .int .i64 quota, .slice ha holds.length hc] w (RunD w (Wv.runF f ws quota holds)) := by
  unfold flV
  have n1 := nw_alloc w (.cells #[.slice oa f.old.length oc, .slice na f.new.length nc, .slice ra f.runs.length rc] tFl)
  have b1 := heap_new w (.cells #[.slice oa f.old.length oc, .slice na f.new.length nc, .slice ra f.runs.length rc] tFl)
  obtain ⟨W, hW⟩ : ∃ z, z = w.alloc (.cells #[.slice oa f.old.length oc, .slice na f.new.length nc, .slice ra f.runs.length rc] tFl) := ⟨_, rfl⟩
  rw [← hW] at n1 b1
  have HW := Lib.hid hW
  have HN := Lib.hid n1
  have HX : Hid (∀ y, Nw W y → y.cell? ⟨w.heap.size, 0, none⟩ = some (.slice oa f.old.length oc) ∧ y.cell? ⟨w.heap.size, 1, none⟩ = some (.slice na f.new.length nc) ∧ y.cell? ⟨w.heap.size, 2, none⟩ = some (.slice ra f.runs.length rc)) := fun y u => ⟨by rw [cells_cell (Nw.keep u b1)]; rfl, by rw [cells_cell (Nw.keep u b1)]; rfl, by rw [cells_cell (Nw.keep u b1)]; rfl⟩
  have HF : Hid (∀ y, Nw W y → FlAt y oa na ra oc nc f) := fun y u => h.nw (n1.trans u)
  have HG : Hid (∀ y, Nw W y → Gm y) := fun y u => g.upd (n1.trans u)
  have HGBW : Hid (nG ≤ W.heap.size ∧ w.heap.size ≤ W.heap.size) := ⟨(g.upd n1).g.big, n1.size⟩
  have hr1 : Hid (Calls Tryz.prog 19 #[.agg #[.slice oa f.old.length oc, .slice na f.new.length nc, .slice ra f.runs.length rc]] W fun e w' => e = .returned (.bool (Wv.right f)) ∧ Nw W w') := Right_r oa na ra oc nc rc f W (g.upd n1).g.big (h.nw n1) hs
  have HFW : Hid (∀ y, Nw W y → Calls Tryz.prog 26 #[.agg #[.slice oa f.old.length oc, .slice na f.new.length nc, .slice ra f.runs.length rc], .slice wa ws.length wvc] y fun e w' => e = .returned (.bool (Wv.formedW f ws)) ∧ Nw y w') := fun y u => Formed_c oa na ra wa oc nc rc wvc f ws y (Nat.le_trans (g.upd n1).g.big u.size) (by omega) trivial (WvC.nw hws (n1.trans u)) hwl hms
  obtain ⟨rg, hrg⟩ : ∃ r, r = Wv.runF f ws quota holds := ⟨_, rfl⟩
  rw [← hrg]
  have HRG0 : Hid (rg = if Wv.right f = true ∧ 1 ≤ quota ∧ Wv.formedW f ws = true then Wv.runG f ws quota holds else ([], 1)) := hrg
  have HA := Lib.hid (WvC.nw hws n1)
  have HHC := Lib.hid (IC.nw hhc n1)
  have HMS := Lib.hid hms
  have HSM := Lib.hid hs
  have hwl1 : (ws.length : Int) ≤ 1000 := by omega
  have hhl1 : (holds.length : Int) ≤ 100000 := by omega
  obtain ⟨x0, x1, x2⟩ := HX.out W (Upd.refl _ _)
  clear n1 b1 hW h g hs hrg hws hhc hms
  go_enter Tryz.func13, Tryz.ntmps13
  go_upto_region 1 with fail
  rw [← HW.out]
  clear HW
  cases hri : Wv.right f with
  | false =>
    have HR1 : Hid (rg = ([], 1)) := by show _ = _; rw [HRG0.out, hri]; rfl
    rw [hri] at hr1
    clear hri
    go_wp2_with fail
    (with_reducible refine (hr1.out).mono ?_)
    rintro _ w2 ⟨rfl, u2⟩
    have U2 := Lib.hid (HN.out.trans u2)
    clear u2
    go_wp2_with fail
    -- the code 1, the moments nil, the fact HR1, the world's fact U2.out
    refine bodyPost_ret (runr_results _ _) rfl ?_
    exact ⟨_, by rw [(HR1).out]; rfl, by rw [(HR1).out]; exact World.ownsRow_nil _ _ _ _, U2.out⟩
  | true =>
  rw [hri] at hr1
  have HRI := Lib.hid hri
  have HRGG := Lib.hid (Wv.rg_of hri)
  clear hri
  by_cases hq1 : quota < 1
  · have HR1 : Hid (rg = ([], 1)) := by show _ = _; rw [HRG0.out, if_neg (fun e => by have := e.2.1; omega)]
    go_wp2_with fail
    (with_reducible refine (hr1.out).mono ?_)
    rintro _ w2 ⟨rfl, u2⟩
    have U2 := Lib.hid (HN.out.trans u2)
    clear u2
    go_wp2_with fail
    -- the code 1, the moments nil, the fact HR1, the world's fact U2.out
    refine bodyPost_ret (runr_results _ _) rfl ?_
    exact ⟨_, by rw [(HR1).out]; rfl, by rw [(HR1).out]; exact World.ownsRow_nil _ _ _ _, U2.out⟩
  have HQ1 : Hid (1 ≤ quota) := by show _ ≤ _; omega
  cases hfw : Wv.formedW f ws with
  | false =>
    have HR1 : Hid (rg = ([], 1)) := by show _ = _; rw [HRG0.out, if_neg (fun e => by rw [hfw] at e; cases e.2.2)]
    rw [hfw] at HFW
    clear hfw
    go_wp2_with fail
    (with_reducible refine (hr1.out).mono ?_)
    rintro _ w2 ⟨rfl, u2⟩
    have U2 := Lib.hid u2
    have hf2 := Lib.hid (HFW.out w2 u2)
    clear u2 x0 x1 x2
    obtain ⟨x0, x1, x2⟩ := HX.out w2 U2.out
    go_wp2_with fail
    (with_reducible refine (hf2.out).mono ?_)
    rintro _ w3 ⟨rfl, u3⟩
    have U3 := Lib.hid (HN.out.trans (U2.out.trans u3))
    clear u3
    go_wp2_with fail
    -- the code 1, the moments nil, the fact HR1, the world's fact U3.out
    refine bodyPost_ret (runr_results _ _) rfl ?_
    exact ⟨_, by rw [(HR1).out]; rfl, by rw [(HR1).out]; exact World.ownsRow_nil _ _ _ _, U3.out⟩
  | true =>
  have HWK : Hid (∀ x ∈ ws, Wv.waveOk f.runs.length x = true) := Wv.formedW_waves hfw
  have HRG1 : Hid (rg = Wv.runG f ws quota holds) := by show _ = _; rw [HRG0.out, if_pos ⟨HRI.out, HQ1.out, hfw⟩]
  rw [hfw] at HFW
  clear hfw
  go_wp2_with fail
  (with_reducible refine (hr1.out).mono ?_)
  rintro _ w2 ⟨rfl, u2⟩
  have U2 := Lib.hid u2
  have hf2 := Lib.hid (HFW.out w2 u2)
  clear u2 x0 x1 x2
  obtain ⟨x0, x1, x2⟩ := HX.out w2 U2.out
  go_wp2_with fail
  (with_reducible refine (hf2.out).mono ?_)
  rintro _ w3 ⟨rfl, u3⟩
  have U3 := Lib.hid (U2.out.trans u3)
  clear u3 x0 x1 x2 hf2 hr1
  obtain ⟨db, hdb⟩ : ∃ d, d = w3.heap.size := ⟨_, rfl⟩
  have HGB : Hid (nG ≤ db ∧ w.heap.size ≤ db ∧ db = w3.heap.size) := by have := HGBW.out; have := U3.out.size; show _ ∧ _ ∧ _; omega
  have HRL : Hid (∀ y, Nw W y → ∀ k (hk : k < f.runs.length), ∃ b off, ra = some ⟨b, off, none⟩ ∧ y.cell? ⟨b, off + k, none⟩ = some (.int .i64 (Wv.run f k : Nat)) ∧ Wv.run f k < 8) := fun y u k hk => by
    rcases (HF.out y u).runs with hnil | ⟨b, off, e, _, hcell⟩
    · rw [hnil] at hk; simp at hk
    · refine ⟨b, off, e, ?_, by have := (run_lt HRGG.out hk).1; have := HRGG.out.old8; omega⟩
      rw [← (run_lt HRGG.out hk).2]; exact hcell k hk
  have HFS : Hid (∀ y done, Nw W y → DoneAt y db done → done.length = f.runs.length → ∀ p, p = Wv.pairOf (Wv.firstBad f done) → Calls Tryz.prog 11 #[.agg #[.slice oa f.old.length oc, .slice na f.new.length nc, .slice ra f.runs.length rc], .slice (some ⟨db, 0, none⟩) f.runs.length f.runs.length] y fun e w' => e = .returned (.tuple #[.int .i64 p.1, .int .i64 p.2.1, .bool p.2.2]) ∧ Nw y w') := fun y done u hd hdl p hp => by
    have := Mixed_r oa na ra (some ⟨db, 0, none⟩) oc nc rc f.runs.length f done y (HG.out y u) (HF.out y u) HSM.out hd.bc
    unfold flV mixV Wv.mixed at this
    rw [if_pos HRI.out, hdl, ← hp] at this
    exact this
  have hrl : f.runs.length ≤ 400 := hr4
  obtain ⟨rn, hrn⟩ : ∃ r, r = f.runs.length := ⟨_, rfl⟩
  rw [← hrn] at HX HWK HRL HFS hrl ⊢
  have HRN := Lib.hid hrn
  clear hrn hr4
  have hrl1 : (rn : Int) ≤ 400 := by omega
  obtain ⟨x0, x1, x2⟩ := HX.out w3 U3.out
  go_wp2_with (at_make; refine wpList_makeW rfl _ _ 26 4 _ 1 rfl Tryz.underlying26 infoBoolW rn rfl rfl ?m1 ?m2 ?_)
  case m1 => omega
  case m2 => omega
  intro wD hD nD
  rw [← hdb] at hD ⊢
  clear hdb
  have HD0 : Hid (DoneAt wD db (Wv.none_ f)) := by unfold Wv.none_; rw [← HRN.out]; exact DoneAt.made hD
  have HND := Lib.hid nD
  clear hD x0 x1 x2
  obtain ⟨x0, x1, x2⟩ := HX.out wD (U3.out.trans nD)
  obtain ⟨pr, hpr⟩ : ∃ p, p = Wv.pairOf (Wv.firstBad f (Wv.none_ f)) := ⟨_, rfl⟩
  have hc1 := Lib.hid (HFS.out wD (Wv.none_ f) (U3.out.trans nD) HD0.out (by unfold Wv.none_; rw [List.length_replicate, HRN.out]) pr hpr)
  have hbad : Hid (pr.2.2 = (Wv.firstBad f (Wv.none_ f)).isSome) := by show _ = _; rw [hpr, Wv.pairOf_bad]
  clear nD hpr
  obtain ⟨p1, p2, p3⟩ := pr
  dsimp only at hc1 hbad
  cases p3 with
  | true =>
    have HR9 : Hid (rg = ([], 27)) := by show _ = _; rw [HRG1.out]; unfold Wv.runG; rw [if_pos hbad.out.symm]
    go_wp2_with fail
    (with_reducible refine (hc1.out).mono ?_)
    rintro _ w4 ⟨rfl, u4⟩
    have U4 := Lib.hid (HN.out.trans (U3.out.trans (HND.out.trans u4)))
    clear u4
    go_wp2_with fail
    -- the code 27, the moments nil, the fact HR9, the world's fact U4.out
    refine bodyPost_ret (runr_results _ _) rfl ?_
    exact ⟨_, by rw [(HR9).out]; rfl, by rw [(HR9).out]; exact World.ownsRow_nil _ _ _ _, U4.out⟩
  | false =>
  have HR9 : Hid (rg = Wv.runL f quota holds ws (Wv.none_ f) []) := by show _ = _; rw [HRG1.out]; unfold Wv.runG; rw [← hbad.out]; rfl
  clear hbad
  go_wp2_with fail
  (with_reducible refine (hc1.out).mono ?_)
  rintro _ w4 ⟨rfl, u4⟩
  have HD2 := Lib.hid (HD0.out.upd u4 (fun e => e))
  have HU2 := Lib.hid (HND.out.trans u4)
  clear u4 hc1 x0 x1 x2 HD0 HND
  go_wp2_with fail
  go_loopw [14, 15] (fun mv iv wr => ∃ (n : Nat) (done : List Bool) (mo : List Int), n ≤ ws.length ∧ iv = .int .i64 (n : Int) ∧ Hid (rg = Wv.runL f quota holds (ws.drop n) done mo) ∧ Hid (done.length = rn ∧ mo.length = n ∧ ∀ x ∈ mo, 0 ≤ x ∧ x ≤ 1073741824 + n) ∧ Hid (DoneAt wr db done) ∧ Hid (wr.ownsRow (db + 1) 3 1 mv mo.length (mo.map (Value.int .i64))) ∧ Hid (Nw w3 wr)) (fun mv iv _ => ws.length - (intOf iv).toNat)
  case atStart => exact ⟨0, Wv.none_ f, [], Nat.zero_le _, rfl, HR9, ⟨by unfold Wv.none_; rw [List.length_replicate, HRN.out], rfl, fun x hx => by cases hx⟩, HD2, World.ownsRow_nil _ _ _ _, HU2⟩
  case round =>
    obtain ⟨n, done, mo, hn, rfl, HR, HM, HDN, HO, HU⟩ := hrel
    obtain ⟨moa, moc, rfl⟩ := own_slW HO.out
    by_cases hlt : n < ws.length
    · have hlt1 : (n : Int) < ws.length := by omega
      have hn9 : (n : Int) ≤ 1000 := by omega
      have hn0 : decide ((n : Int) < 0) = false := decide_eq_false (by omega)
      rcases HA.out with hnil | ⟨b, off, rfl, hb, hcell⟩
      · rw [hnil] at hlt; simp at hlt
      obtain ⟨ma, mc, q0, q1, hmi, hml⟩ := hcell n hlt
      have d0 := nw_cellF (U3.out.trans HU.out) q0
      have d1 := nw_cellF (U3.out.trans HU.out) q1
      have hm5 := HMS.out ws[n] (List.getElem_mem hlt)
      have hwok := HWK.out ws[n] (List.getElem_mem hlt)
      have hwp := Wv.waveOk_parts hwok
      have hrr := HR.out
      rw [List.drop_eq_getElem_cons hlt] at hrr
      clear hcell q0 q1 hml hwok
      generalize ws[n] = wv at *
      obtain ⟨ms, af⟩ := wv
      dsimp only at *
      have HMI := Lib.hid hmi
      have HWP := Lib.hid hwp.2.2
      have haf0 := hwp.1
      have haf1 := hwp.2.1
      have hmsl : (ms.length : Int) ≤ 1000 := by omega
      obtain ⟨now, hnow⟩ : ∃ x, x = Wv.nowOf ⟨ms, af⟩ mo := ⟨_, rfl⟩
      have hstep : Wv.runL f quota holds (⟨ms, af⟩ :: ws.drop (n + 1)) done mo = if quota < ms.length then (mo, 32) else if ms.any (fun m => Wv.held holds (Wv.run f m.toNat) now) then (mo, 31) else if (Wv.firstBad f (Wv.setAll done ms)).isSome then (mo, 27) else Wv.runL f quota holds (ws.drop (n + 1)) (Wv.setAll done ms) (mo ++ [now]) := by rw [hnow]; rfl
      rw [hstep] at hrr
      have HRR := Lib.hid hrr
      have HNOW : Hid (now = Wv.nowOf ⟨ms, af⟩ mo) := hnow
      have HNB : Hid (0 ≤ now ∧ now ≤ 1073741824 + (n + 1 : Nat)) := by
        show _ ∧ _
        rw [hnow]
        cases hmn : n with
        | zero =>
          have : mo = [] := List.eq_nil_of_length_eq_zero (by have := HM.out.2.1; omega)
          rw [this, Wv.nowOf_none]
          exact ⟨haf0, by show af ≤ _; omega⟩
        | succ k =>
          have hk : mo.length = k + 1 := by have := HM.out.2.1; omega
          rw [Wv.nowOf_some _ hk]
          have := HM.out.2.2 (mo.getD k 0) (by rw [getD_of (by omega : k < mo.length)]; exact List.getElem_mem _)
          show 0 ≤ max af _ ∧ max af _ ≤ _
          omega
      clear hstep hrr hmi hwp hnow HR
      have HN1 := nw_alloc wr (.cells #[.slice ma ms.length mc, .int .i64 af] tWv)
      have HB1 := heap_new wr (.cells #[.slice ma ms.length mc, .int .i64 af] tWv)
      obtain ⟨wo, hwo⟩ : ∃ z, z = wr.alloc (.cells #[.slice ma ms.length mc, .int .i64 af] tWv) := ⟨_, rfl⟩
      rw [← hwo] at HN1 HB1
      have HWO := Lib.hid hwo
      obtain ⟨P, hP⟩ : ∃ P, P = wr.heap.size := ⟨_, rfl⟩
      rw [← hP] at HB1
      have HDL := Lib.hid HDN.out.lt
      have HPP : Hid (db < P) := by have := HDL.out; show _ < _; omega
      have HXP : Hid (∀ y, Upd (fun k => k = db) wo y → y.cell? ⟨P, 0, none⟩ = some (.slice ma ms.length mc) ∧ y.cell? ⟨P, 1, none⟩ = some (.int .i64 af)) := fun y u => by
        have hk := u.keep HB1 (fun e => by have := HPP.out; omega)
        exact ⟨by rw [cells_cell hk]; rfl, by rw [cells_cell hk]; rfl⟩
      have HUO := Lib.hid (HU.out.trans HN1)
      have HDO := Lib.hid (HDN.out.upd HN1 (fun e => e))
      have HOO : Hid (wo.ownsRow (db + 1) 3 1 (.slice moa mo.length moc) mo.length (mo.map (Value.int .i64))) := owns_upd' HO.out HN1 (fun k _ e => e)
      have HUW : Hid (∀ y, Upd (fun k => k = db) wo y → Nw w3 y) := fun y u => HUO.out.trans' u (fun j hj e => by have := HGB.out.2.2; show False; omega)
      obtain ⟨y0, y1⟩ := HXP.out wo (Upd.refl _ _)
      clear hwo HN1 HB1 HDN HO
      go_upto_region 12 with fail
      rw [← HWO.out, ← hP]
      clear HWO hP d0 d1
      have HCC : Hid (∀ k, n = k + 1 → ∃ gb, moa = some ⟨gb, 0, none⟩ ∧ wo.cell? ⟨gb, k, none⟩ = some (.int .i64 (mo.getD k 0))) := fun k e => by
        have hk : mo.length = k + 1 := by have := HM.out.2.1; omega
        rcases HOO.out.2 with ⟨e1, e2⟩ | ⟨gb, cap, cur, e1, hb, hg, h4, h5, h6, h7⟩
        · rw [hk] at e2; cases e2
        · injection e1 with e3 e4 e5
          refine ⟨gb, e3, ?_⟩
          rw [cells_cell hg]
          have := congrArg (fun (l : List Value) => l[k]?) h7
          rw [List.getElem?_take, if_pos (by omega), List.getElem?_map, List.getElem?_eq_getElem (by omega : k < mo.length)] at this
          rw [getD_of (by omega : k < mo.length)]
          simpa using this
      have HMB : Hid (∀ k, n = k + 1 → 0 ≤ mo.getD k 0 ∧ mo.getD k 0 ≤ 1073741824 + n) := fun k e => by
        have hk : mo.length = k + 1 := by have := HM.out.2.1; omega
        exact HM.out.2.2 (mo.getD k 0) (by rw [getD_of (by omega : k < mo.length)]; exact List.getElem_mem _)
      obtain ⟨bb, hbb⟩ : ∃ bb, bb = (decide (0 < n) && decide (af < mo.getD (n - 1) 0 + 1)) := ⟨_, rfl⟩
      have HBB := Lib.hid hbb
      clear hbb
      go_upto_region 13 with fail
      go_cut [68] from 58 to 68 (fun c wx => c = .bool bb ∧ wx = wo)
      case first =>
        by_cases hn1 : n = 0
        · subst hn1
          have e9 : Hid (bb = false) := by show _ = _; rw [HBB.out]; rfl
          go_wp2_with fail
          go_meet
          exact ⟨by rw [e9.out], rfl⟩
        · obtain ⟨k, rfl⟩ : ∃ k, n = k + 1 := ⟨n - 1, by omega⟩
          have hk : mo.length = k + 1 := HM.out.2.1
          have e9 : Hid (bb = decide (af < mo.getD k 0 + 1)) := by show _ = _; rw [HBB.out, decide_eq_true (show 0 < k + 1 by omega), Nat.add_sub_cancel]; rfl
          have hmb := HMB.out k rfl
          obtain ⟨gb, rfl, cc⟩ := HCC.out k rfl
          have hk1 : (0 : Int) < ((k + 1 : Nat) : Int) := by omega
          have hkl : (k : Int) < (mo.length : Int) := by omega
          have hk0 : decide ((k : Int) < 0) = false := decide_eq_false (by omega)
          generalize mo.getD k 0 = x at *
          have hx0 : 0 ≤ x := hmb.1
          have hx1 : x ≤ 1073841825 := by have := hmb.2; omega
          have hk9 : (k : Int) ≤ 1000 := by omega
          clear hk hmb haf0 haf1 hn9 hn0 hlt1 hlt hn1 hn
          by_cases hmx : af < x + 1
          · go_wp2_with fail
            go_meet
            exact ⟨by rw [e9.out, decide_eq_true hmx], rfl⟩
          · go_wp2_with fail
            go_meet
            exact ⟨by rw [e9.out, decide_eq_false (show ¬ af < x + 1 by omega)], rfl⟩
      case rest =>
      obtain ⟨rfl, rfl⟩ := hcut
      go_upto_if 68 with fail
      go_cut [17] from 69 to 74 (fun c wx => c = .int .i64 now ∧ wx = wc)
      case first =>
        cases bb with
        | true =>
          have hb2 := HBB.out
          have hn1 : 0 < n := by
            rcases Nat.eq_zero_or_pos n with h | h
            · rw [h] at hb2; simp at hb2
            · exact h
          obtain ⟨k, rfl⟩ : ∃ k, n = k + 1 := ⟨n - 1, by omega⟩
          rw [decide_eq_true (show 0 < k + 1 by omega), Nat.add_sub_cancel] at hb2
          have hmx : af < mo.getD k 0 + 1 := by simpa using hb2.symm
          have hk : mo.length = k + 1 := HM.out.2.1
          have hmb := HMB.out k rfl
          obtain ⟨gb, rfl, cc⟩ := HCC.out k rfl
          have e9 : Hid (now = mo.getD k 0 + 1) := by show _ = _; rw [HNOW.out, Wv.nowOf_some _ hk]; show max af _ = _; omega
          have hkl : (k : Int) < (mo.length : Int) := by omega
          have hk0 : decide ((k : Int) < 0) = false := decide_eq_false (by omega)
          generalize mo.getD k 0 = x at *
          have hx0 : 0 ≤ x := hmb.1
          have hx1 : x ≤ 1073841825 := by have := hmb.2; omega
          have hk9 : (k : Int) ≤ 1000 := by omega
          clear hk hmb haf0 haf1 hn9 hn0 hlt1 hlt hn1 hn hb2
          go_wp2_with fail
          go_meet
          exact ⟨by rw [e9.out], rfl⟩
        | false =>
          have e9 : Hid (now = af) := by
            show _ = _
            rw [HNOW.out]
            rcases Nat.eq_zero_or_pos n with h | h
            · have : mo = [] := List.eq_nil_of_length_eq_zero (by have := HM.out.2.1; omega)
              rw [this, Wv.nowOf_none]
            · have hb2 := HBB.out
              rw [decide_eq_true h] at hb2
              have hk : mo.length = (n - 1) + 1 := by have := HM.out.2.1; omega
              have hmx : ¬ af < mo.getD (n - 1) 0 + 1 := by simpa using hb2.symm
              rw [Wv.nowOf_some _ hk]
              show max af _ = _
              omega
          go_wp2_with fail
          go_meet
          exact ⟨by rw [e9.out], rfl⟩
      case rest =>
        obtain ⟨rfl, rfl⟩ := hcut
        by_cases hq : quota < (ms.length : Int)
        · have HR1 : Hid (rg = (mo, 32)) := by show _ = _; rw [HRR.out, if_pos hq]
          go_wp2_with fail
          refine bodyPost_ret (runr_results _ _) rfl ?_
          exact ⟨_, by rw [HR1.out]; rfl, by rw [HR1.out]; exact owns_base HOO.out (by have := HGB.out; omega), HN.out.trans (U3.out.trans HUO.out)⟩
        have HR1 : Hid (rg = if ms.any (fun m => Wv.held holds (Wv.run f m.toNat) now) then (mo, 31) else if (Wv.firstBad f (Wv.setAll done ms)).isSome then (mo, 27) else Wv.runL f quota holds (ws.drop (n + 1)) (Wv.setAll done ms) (mo ++ [now])) := by show _ = _; rw [HRR.out, if_neg hq]
        have HDA : Hid (DoneAt wc db (Wv.setAll done (ms.take 0))) := HDO.out
        clear haf0 haf1 HRR
        go_wp2_with fail
        clear y0 y1
        go_loopw [18] (fun iv wr => ∃ i : Nat, i ≤ ms.length ∧ iv = .int .i64 (i : Int) ∧ Hid (∀ j (hj : j < ms.length), j < i → Wv.held holds (Wv.run f ms[j].toNat) now = false) ∧ Hid (DoneAt wr db (Wv.setAll done (ms.take i))) ∧ Hid (Upd (fun k => k = db) wc wr)) (fun iv _ => ms.length - (intOf iv).toNat)
        case atStart => exact ⟨0, Nat.zero_le _, rfl, (fun j hj h => by omega), HDA.out, Upd.refl _ _⟩
        case round =>
          obtain ⟨i, hi, rfl, HNH, HDI, HUI⟩ := hrel
          obtain ⟨y0, y1⟩ := HXP.out wr HUI.out
          have HUI2 := Lib.hid (HUW.out wr HUI.out)
          obtain ⟨x0, x1, x2⟩ := HX.out wr (U3.out.trans HUI2.out)
          by_cases hil : i < ms.length
          · have hil1 : (i : Int) < ms.length := by omega
            have hi9 : (i : Int) ≤ 1000 := by omega
            have hi0 : decide ((i : Int) < 0) = false := decide_eq_false (by omega)
            rcases HMI.out with hnil | ⟨b2, o2, rfl, hb2, hc2⟩
            · rw [hnil] at hil; simp at hil
            have z0 := nw_cellF (U3.out.trans HUI2.out) (hc2 i hil)
            have hin := HWP.out ms[i] (List.getElem_mem hil)
            obtain ⟨m, hm⟩ : ∃ m : Nat, ms[i] = (m : Int) := ⟨ms[i].toNat, by omega⟩
            have HST := Lib.hid (Wv.setAll_take (done := done) hil)
            have HHY : Hid (Wv.held holds (Wv.run f m) now = true → ms.any (fun m => Wv.held holds (Wv.run f m.toNat) now) = true) := fun e => Wv.any_yes hil (by rw [hm, Int.toNat_natCast]; exact e)
            have HHN : Hid (Wv.held holds (Wv.run f m) now = false → ∀ j (hj : j < ms.length), j < i + 1 → Wv.held holds (Wv.run f ms[j].toNat) now = false) := fun e j hj h => by
              by_cases ej : j = i
              · subst ej; rw [hm, Int.toNat_natCast]; exact e
              · exact HNH.out j hj (by omega)
            rw [hm] at z0 HST
            rw [hm] at hin
            have hmr : m < rn := by omega
            have hmr1 : (m : Int) < (rn : Int) := by omega
            have hm0 : decide ((m : Int) < 0) = false := decide_eq_false (by omega)
            have hm9 : (m : Int) ≤ 400 := by omega
            obtain ⟨rb, ro, rfl, z1, hr8⟩ := HRL.out wr (U3.out.trans HUI2.out) m hmr
            have HHD := Lib.hid (Wv.held_def holds (Wv.run f m) now)
            have y0' : ∀ j : Later wr, j.1.cell? ⟨P, 0, none⟩ = some (.slice (some ⟨b2, o2, none⟩) ms.length mc) := fun j => later_cell j y0
            have x2' : ∀ j : Later wr, j.1.cell? ⟨w.heap.size, 2, none⟩ = some (.slice (some ⟨rb, ro, none⟩) rn rc) := fun j => later_cell j x2
            have z0' : ∀ j : Later wr, j.1.cell? ⟨b2, o2 + i, none⟩ = some (.int .i64 (m : Int)) := fun j => later_cell j z0
            have z1' : ∀ j : Later wr, j.1.cell? ⟨rb, ro + m, none⟩ = some (.int .i64 (Wv.run f m : Nat)) := fun j => later_cell j z1
            have HHC2 : Hid (Wv.run f m < holds.length → ∃ hb ho, ha = some ⟨hb, ho, none⟩ ∧ ∀ y, Nw W y → y.cell? ⟨hb, ho + Wv.run f m, none⟩ = some (.int .i64 (holds.getD (Wv.run f m) 0))) := fun hl => by
              rcases HHC.out with hnil | ⟨hb, ho, e, hb3, hcell3⟩
              · rw [hnil] at hl; simp at hl
              · exact ⟨hb, ho, e, fun y u => by rw [nw_cellF u (hcell3 _ hl), getD_of hl]⟩
            clear hc2 hm hin
            generalize Wv.run f m = s at *
            have hs9 : (s : Int) < 8 := by omega
            have hs0 : decide ((s : Int) < 0) = false := decide_eq_false (by omega)
            generalize holds.getD s 0 = hv at *
            go_upto_region 20 with fail
            refine wp_region_nw (by kernel_rfl) (by kernel_rfl) ?_
            repeat (go_big_quiet_step ((fail)))
            refine wpQuiet_nil ?_
            intro w8 u8
            replace u8 := later_out u8
            have H8 := Lib.hid u8
            have HU8 := Lib.hid (HUI2.out.trans u8)
            clear u8 y0' x2' z0' z1'
            by_cases hsl : s < holds.length
            · obtain ⟨hb, ho, rfl, hcl⟩ := HHC2.out hsl
              have hcl8 := hcl w8 (U3.out.trans HU8.out)
              have hsl1 : (s : Int) < holds.length := by omega
              rw [decide_eq_true hsl] at HHD
              by_cases hnh : now < hv
              · have HR2 : Hid (rg = (mo, 31)) := by show _ = _; rw [HR1.out, if_pos (HHY.out (by rw [HHD.out, decide_eq_true hnh]; rfl))]
                clear HHY HHN
                go_wp2_with fail
                refine bodyPost_ret (runr_results _ _) rfl ?_
                exact ⟨_, by rw [HR2.out]; rfl, by rw [HR2.out]; exact owns_base (owns_upd' (owns_upd' HOO.out HUI.out (fun k hk e => by have := (own_block HOO.out hk).1; omega)) H8.out (fun _ _ e => e)) (by have := HGB.out; omega), HN.out.trans (U3.out.trans HU8.out)⟩
              · have HH2 := Lib.hid (HHN.out (by rw [HHD.out, decide_eq_false hnh]; rfl))
                have HLI : Hid ((Wv.setAll done (ms.take i)).length = rn) := by show _ = _; rw [Wv.setAll_length]; exact HM.out.1
                have HDI9 := Lib.hid (HDI.out.upd H8.out (fun e => e))
                have HUI9 : Hid (Upd (fun k => k = db) wc w8) := HUI.out.trans (H8.out.mono (fun _ _ h => h.elim))
                obtain ⟨x9, c9⟩ : ∃ x, w8.cell? ⟨db, m, none⟩ = some (.bool x) := ⟨_, HDI9.out.cell (by rw [HLI.out]; exact hmr)⟩
                have f9 : w8.frozen? ⟨db, m, none⟩ = false := HDI9.out.frozen m
                have HS9 : Hid (DoneAt (w8.setCell ⟨db, m, none⟩ (.bool true)) db (Wv.setAll done (ms.take (i + 1)))) := by
                  show DoneAt _ _ _
                  rw [HST.out, Int.toNat_natCast]
                  exact HDI9.out.set m true
                have HU9 : Hid (Upd (fun k => k = db) wc (w8.setCell ⟨db, m, none⟩ (.bool true))) := Upd.set1 HUI9.out (by have := HGB.out; omega) m (.bool true)
                have y09 := nw_cellF H8.out y0
                have z09 := nw_cellF H8.out z0
                clear HHY HHN y0 y1 x0 x1 x2 z0 z1
                go_wp2_with fail
                go_roundw
                case rel => exact ⟨i + 1, by omega, by go_num, HH2.out, HS9.out, HU9.out⟩
                case measure => simp [intOf]; omega
            · rw [decide_eq_false hsl] at HHD
              have hsl1 : ¬ (s : Int) < holds.length := by omega
              have HH2 := Lib.hid (HHN.out (by rw [HHD.out]; rfl))
              have HLI : Hid ((Wv.setAll done (ms.take i)).length = rn) := by show _ = _; rw [Wv.setAll_length]; exact HM.out.1
              have HDI9 := Lib.hid (HDI.out.upd H8.out (fun e => e))
              have HUI9 : Hid (Upd (fun k => k = db) wc w8) := HUI.out.trans (H8.out.mono (fun _ _ h => h.elim))
              obtain ⟨x9, c9⟩ : ∃ x, w8.cell? ⟨db, m, none⟩ = some (.bool x) := ⟨_, HDI9.out.cell (by rw [HLI.out]; exact hmr)⟩
              have f9 : w8.frozen? ⟨db, m, none⟩ = false := HDI9.out.frozen m
              have HS9 : Hid (DoneAt (w8.setCell ⟨db, m, none⟩ (.bool true)) db (Wv.setAll done (ms.take (i + 1)))) := by
                show DoneAt _ _ _
                rw [HST.out, Int.toNat_natCast]
                exact HDI9.out.set m true
              have HU9 : Hid (Upd (fun k => k = db) wc (w8.setCell ⟨db, m, none⟩ (.bool true))) := Upd.set1 HUI9.out (by have := HGB.out; omega) m (.bool true)
              have y09 := nw_cellF H8.out y0
              have z09 := nw_cellF H8.out z0
              clear HHY HHN y0 y1 x0 x1 x2 z0 z1
              go_wp2_with fail
              go_roundw
              case rel => exact ⟨i + 1, by omega, by go_num, HH2.out, HS9.out, HU9.out⟩
              case measure => simp [intOf]; omega
          · obtain rfl : i = ms.length := by omega
            have hi1 : ¬ ((ms.length : Nat) : Int) < ms.length := by omega
            have HDI2 : Hid (DoneAt wr db (Wv.setAll done ms)) := by have := HDI.out; rw [List.take_length] at this; exact this
            have HR2 : Hid (rg = if (Wv.firstBad f (Wv.setAll done ms)).isSome then (mo, 27) else Wv.runL f quota holds (ws.drop (n + 1)) (Wv.setAll done ms) (mo ++ [now])) := by
              show _ = _
              rw [HR1.out, Wv.any_no rfl (fun j hj h => HNH.out j hj h)]; rfl
            have HDNL : Hid ((Wv.setAll done ms).length = rn) := by show _ = _; rw [Wv.setAll_length]; exact HM.out.1
            have HO5 := Lib.hid (owns_upd' HOO.out HUI.out (fun k hk e => by have := (own_block HOO.out hk).1; omega))
            obtain ⟨pr, hpr⟩ : ∃ p, p = Wv.pairOf (Wv.firstBad f (Wv.setAll done ms)) := ⟨_, rfl⟩
            have hc1 := Lib.hid (HFS.out wr (Wv.setAll done ms) (U3.out.trans HUI2.out) HDI2.out (by rw [HDNL.out, HRN.out]) pr hpr)
            have hbad : Hid (pr.2.2 = (Wv.firstBad f (Wv.setAll done ms)).isSome) := by show _ = _; rw [hpr, Wv.pairOf_bad]
            clear hpr HR1 HNH
            obtain ⟨p4, p5, p6⟩ := pr
            dsimp only at hc1 hbad
            cases p6 with
            | true =>
              have HR3 : Hid (rg = (mo, 27)) := by show _ = _; rw [HR2.out, ← hbad.out]; rfl
              go_wp2_with fail
              (with_reducible refine (hc1.out).mono ?_)
              rintro _ w5 ⟨rfl, u5⟩
              have U5 := Lib.hid (HUI2.out.trans u5)
              have HO6 := Lib.hid (owns_upd' HO5.out u5 (fun k _ e => e))
              clear u5
              go_wp2_with fail
              refine bodyPost_ret (runr_results _ _) rfl ?_
              exact ⟨_, by rw [HR3.out]; rfl, by rw [HR3.out]; exact owns_base HO6.out (by have := HGB.out; omega), HN.out.trans (U3.out.trans U5.out)⟩
            | false =>
              have HR3 : Hid (rg = Wv.runL f quota holds (ws.drop (n + 1)) (Wv.setAll done ms) (mo ++ [now])) := by show _ = _; rw [HR2.out, ← hbad.out]; rfl
              go_wp2_with fail
              (with_reducible refine (hc1.out).mono ?_)
              rintro _ w5 ⟨rfl, u5⟩
              have U5 := Lib.hid (HUI2.out.trans u5)
              have HO6 := Lib.hid (owns_upd' HO5.out u5 (fun k _ e => e))
              have HD6 := Lib.hid (HDI2.out.upd u5 (fun e => e))
              have hz : db + 1 ≤ w5.heap.size := by have := HD6.out.lt; omega
              have hg1 : nG ≤ db + 1 := by have := HGB.out; omega
              have hmo9 : mo.length ≤ 1000 := by have := HM.out.2.1; omega
              clear u5
              go_wp2_with (at_builtin; refine wpList_appL rfl _ _ 23 rfl (db + 1) 3 _ 1 8 Tryz.underlying23 infoIntW rfl (by decide) _ _ _ rfl HO6.out [.int .i64 now] rfl rfl ?c1 ?c2 ?c3 hz hg1 ?_)
              case c1 => intro u hu; rw [List.mem_singleton.1 hu]; rfl
              case c2 => unfold maxLen; omega
              case c3 => omega
              intro v' w9 hown9 u9 hob
              have hfin : Hid (w9.ownsRow (db + 1) 3 1 v' (mo ++ [now]).length ((mo ++ [now]).map (Value.int .i64))) := by
                show w9.ownsRow _ _ _ _ _ _
                rw [List.length_append, List.length_singleton, List.map_append]
                exact hown9
              have hkb : ∀ k, (Value.slice moa mo.length moc).ownBlock = some k → db + 1 ≤ k := fun k hk => (own_block HO6.out hk).1
              have HD9 := Lib.hid (HD6.out.upd u9 (fun e => by have := hkb _ e; omega))
              have HU9 := Lib.hid (U5.out.trans' u9 (fun j hj e => by have := hkb _ e; have := HGB.out; show False; omega))
              have HM9 : Hid ((Wv.setAll done ms).length = rn ∧ (mo ++ [now]).length = n + 1 ∧ ∀ x ∈ mo ++ [now], 0 ≤ x ∧ x ≤ 1073741824 + (n + 1 : Nat)) := ⟨HDNL.out, by rw [List.length_append, List.length_singleton, HM.out.2.1], fun x hx => by
                rcases List.mem_append.1 hx with h | h
                · have := HM.out.2.2 x h; omega
                · rw [List.mem_singleton.1 h]; exact HNB.out⟩
              obtain ⟨a9, cap9, rfl⟩ := own_slW hfin.out
              clear hown9 u9 hob hkb
              go_wp2_with fail
              go_roundw
              case rel => exact ⟨n + 1, _, _, by omega, by go_num, HR3, HM9, HD9, hfin, HU9⟩
              case measure => simp [intOf]; omega
    · obtain rfl : n = ws.length := by omega
      have HR1 : Hid (rg = (mo, 0)) := by show _ = _; rw [HR.out, List.drop_length]; rfl
      have hlt1 : ¬ ((ws.length : Nat) : Int) < ws.length := by omega
      go_wp2_with fail
      refine bodyPost_ret (runr_results _ _) rfl ?_
      exact ⟨_, by rw [HR1.out]; rfl, by rw [HR1.out]; exact owns_base HO.out (by have := HGB.out; omega), HN.out.trans (U3.out.trans HU.out)⟩
end Go.Proofs.YtjlgmoemnhmgmaaGreatDoor
