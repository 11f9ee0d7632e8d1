/- The walk of WaveTalks. -/
import Derived.Test.YtjlgmoemnhmgmaaGreatDoorPkWTalks34
import Derived.Test.YtjlgmoemnhmgmaaGreatDoorPkWTalks35
namespace Go.Proofs.YtjlgmoemnhmgmaaGreatDoor
open Go.ChangeShapes Go.WideShapes Go.ChangeAt Go.RowKit Go.Joins
set_option linter.unusedVariables false
set_option linter.unusedSimpArgs false
attribute [local irreducible] Calls
open Fm (Ty Vl Str)
open Wv (Svc FL)

section
variable {H : Type} {enc : TypeId × Value → H} {w : World} {base : Nat} {sp : Nat → Bool} {held : Bool} {n : Nat} {x : DataW H × List MemPlace}
set_option maxRecDepth 100000 in
theorem trod_fvals {cs : List Value} (h : DataW.trod enc Tryz.prog w base sp held n 54 cs = some x) :
    ∃ a cap l, cs = [.slice a l.length cap] ∧ l.length ≤ maxLen ∧ VsC (fun k => k < w.heap.size) w a l := by
  obtain ⟨v, xs, h1, h2, h3⟩ := trod_slice_fuel Tryz.underlying54 (sz := 4) (by kernel_rfl) (by omega) h
  obtain ⟨C, rfl, hQ⟩ := list_of_relT (f := vcL) (Q := fun c : VC => VlAt (fun k => k < w.heap.size) w c.nv c.vv c.v) xs (fun c hc => by
    obtain ⟨m2, y, hm2, hy⟩ := h3 c hc
    obtain ⟨nv', vv', v', ev, hv⟩ := trod_vl _ hy
    exact ⟨⟨nv', vv', v'⟩, ev, hv⟩)
  subst h1
  obtain ⟨a, cap, rfl, hm, hcc⟩ := h2.open_
  rw [List.length_map] at hm
  refine ⟨a, cap, C.map VC.v, by rw [List.length_map, List.length_map], by rw [List.length_map]; exact hm, ?_⟩
  rcases hcc with hnil | ⟨b, off, rfl, _, _, hb, hcl⟩
  · exact Or.inl (by rw [List.map_eq_nil_iff.1 hnil]; rfl)
  · refine Or.inr ⟨b, off, rfl, hb, fun i hi => ?_⟩
    rw [List.length_map] at hi
    have h4 := (hcl i (by rw [List.length_map]; exact hi)).2
    simp only [List.getElem_map] at h4 ⊢
    exact ⟨C[i].nv, C[i].vv, h4 0 (by omega), h4 1 (by omega), h4 2 (by omega), h4 3 (by omega), hQ _ (List.getElem_mem hi)⟩
end
/-- What the law wants of a wave. -/
theorem held_un {f : FL} {q : Int} {hs : List Int} {x : Wv.Wave} {p : Option Int} {now : Int} {d : List Bool} (h : Wv.WOk f q hs x p now d) {m : Int} (hm : m ∈ x.ms) (hl : Wv.run f m.toNat < hs.length) : ¬ now < hs.getD (Wv.run f m.toNat) 0 := by
  have := h.held m hm
  unfold Wv.held at this
  rw [decide_eq_true hl] at this
  simpa using this
set_option maxHeartbeats 16000000 in
set_option maxRecDepth 100000 in
theorem waveTalks_c (P : Nat → Prop) (oa na ra wa ha va : Option Addr) (oc nc rc wvc hc vc : Nat) (f : FL) (ws : List Wv.Wave) (quota : Int) (holds : List Int) (vs : List Vl) (w : World) (g : Gm w) (h : FlAt w oa na ra oc nc f) (hws : WvC w wa ws) (hwl : ws.length ≤ maxLen)
    (hhc : IC w ha holds) (hhl : holds.length ≤ maxLen) (hq : I64 quota) (hvs : VsC P w va vs) (hvl : vs.length ≤ maxLen) :
    Calls Tryz.prog 7 #[.agg (flV oa na ra oc nc rc f), .slice wa ws.length wvc, .int .i64 quota, .slice ha holds.length hc, .slice va vs.length vc] w fun e w' => e = .returned (.bool true) ∧ Nw w w' := by
  unfold flV
  have n1 := nw_alloc w (.cells #[.slice oa f.old.length oc, .slice na f.new.length nc, .slice ra f.runs.length rc] tFl)
  have b1 := heap_new w (.cells #[.slice oa f.old.length oc, .slice na f.new.length nc, .slice ra f.runs.length rc] tFl)
  obtain ⟨W, hW⟩ : ∃ z, z = w.alloc (.cells #[.slice oa f.old.length oc, .slice na f.new.length nc, .slice ra f.runs.length rc] tFl) := ⟨_, rfl⟩
  rw [← hW] at n1 b1
  have HW := Lib.hid hW
  have HN := Lib.hid n1
  have HX : Hid (∀ y, Nw W y → y.cell? ⟨w.heap.size, 0, none⟩ = some (.slice oa f.old.length oc) ∧ y.cell? ⟨w.heap.size, 1, none⟩ = some (.slice na f.new.length nc) ∧ y.cell? ⟨w.heap.size, 2, none⟩ = some (.slice ra f.runs.length rc)) := fun y u => ⟨by rw [cells_cell (Nw.keep u b1)]; rfl, by rw [cells_cell (Nw.keep u b1)]; rfl, by rw [cells_cell (Nw.keep u b1)]; rfl⟩
  have HF : Hid (∀ y, Nw W y → FlAt y oa na ra oc nc f) := fun y u => h.nw (n1.trans u)
  have HG : Hid (∀ y, Nw W y → Gm y) := fun y u => g.upd (n1.trans u)
  have HWV : Hid (∀ y, Nw W y → WvC y wa ws) := fun y u => WvC.nw hws (n1.trans u)
  have HHO : Hid (∀ y, Nw W y → IC y ha holds) := fun y u => IC.nw hhc (n1.trans u)
  have HV : Hid (∀ y, Nw W y → VsC P y va vs) := fun y u => VsC.nw hvs (n1.trans u)
  have hs1 := Lib.hid (small_c W (g.upd n1))
  have HWL : Hid (ws.length ≤ maxLen ∧ holds.length ≤ maxLen) := ⟨hwl, hhl⟩
  unfold I64 at hq
  unfold maxLen at hwl hhl hvl
  have hwl1 : (ws.length : Int) ≤ 9223372036854775807 := by omega
  have hvl1 : (vs.length : Int) ≤ 9223372036854775807 := by omega
  clear n1 b1 hW h hws hhc g hvs
  go_enter Tryz.func7, Tryz.ntmps7
  go_upto_region 1 with fail
  rw [← HW.out]
  clear HW
  go_wp2_with fail
  (with_reducible refine (hs1.out).mono ?_)
  rintro _ w2 ⟨rfl, u2⟩
  have U2 := Lib.hid u2
  have hf1 := Lib.hid (few_c oa na ra wa ha oc nc rc wvc hc f ws holds w2 (HF.out w2 u2) (HWV.out w2 u2) HWL.out.1 HWL.out.2)
  obtain ⟨x0, x1, x2⟩ := HX.out w2 u2
  unfold flV at hf1
  clear u2 hs1
  cases hfe : fewL f ws holds with
  | false =>
    rw [hfe] at hf1
    clear hfe
    go_wp2_with fail
    (with_reducible refine (hf1.out).mono ?_)
    rintro _ w3 ⟨rfl, u3⟩
    have U3 := Lib.hid (HN.out.trans (U2.out.trans u3))
    clear u3
    go_wp2_with fail
    go_ret
    exact ⟨rfl, U3.out⟩
  | true =>
  rw [hfe] at hf1
  unfold fewL at hfe
  simp only [Bool.and_eq_true, decide_eq_true_eq] at hfe
  obtain ⟨⟨hfe1, hfe2⟩, hfe3⟩ := hfe
  obtain ⟨hsm, hrl8, ho4, hnn4⟩ := sm_few hfe1
  obtain ⟨hw10, hm10⟩ := ws_few hfe2
  have HSM := Lib.hid hsm
  have HSZ : Hid (f.runs.length ≤ 8 ∧ f.old.length ≤ 4 ∧ f.new.length ≤ 4 ∧ ws.length ≤ 10 ∧ holds.length ≤ 10) := ⟨hrl8, ho4, hnn4, hw10, hfe3⟩
  have HM10 := Lib.hid hm10
  have HR1 : Hid (∀ y, Nw W y → Calls Tryz.prog 12 #[.agg #[.slice oa f.old.length oc, .slice na f.new.length nc, .slice ra f.runs.length rc], .slice wa ws.length wvc, .int .i64 quota, .slice ha holds.length hc] y (RunD y (Wv.runF f ws quota holds))) := fun y u => Run_c oa na ra wa ha oc nc rc wvc hc f ws quota holds y (HG.out y u) (HF.out y u) hsm (HWV.out y u) (by omega) (fun x hx => by have := hm10 x hx; omega) (HHO.out y u) (by omega)
  have HFM : Hid (∀ y, Nw W y → Calls Tryz.prog 26 #[.agg #[.slice oa f.old.length oc, .slice na f.new.length nc, .slice ra f.runs.length rc], .slice wa ws.length wvc] y fun e w' => e = .returned (.bool (Wv.formedW f ws)) ∧ Nw y w') := fun y u => Formed_c oa na ra wa oc nc rc wvc f ws y (Nat.le_trans (HG.out W (Upd.refl _ _)).g.big u.size) (by omega) trivial (HWV.out y u) (by omega) (fun x hx => by have := hm10 x hx; omega)
  clear hsm hrl8 ho4 hnn4 hfe1 hfe2 hfe3 hw10 hm10
  by_cases hv4 : (4 : Int) < vs.length
  · go_wp2_with fail
    (with_reducible refine (hf1.out).mono ?_)
    rintro _ w3 ⟨rfl, u3⟩
    have U3 := Lib.hid (HN.out.trans (U2.out.trans u3))
    clear u3
    go_wp2_with fail
    go_ret
    exact ⟨rfl, U3.out⟩
  have HV4 : Hid (vs.length ≤ 4) := by show _ ≤ _; omega
  go_wp2_with fail
  (with_reducible refine (hf1.out).mono ?_)
  rintro _ w3 ⟨rfl, u3⟩
  have U3 := Lib.hid (U2.out.trans u3)
  clear u3 hf1 x0 x1 x2
  go_wp2_with fail
  go_loopw [12] (fun iv wr => ∃ i : Nat, i ≤ vs.length ∧ iv = .int .i64 (i : Int) ∧ Hid (Nw W wr)) (fun iv _ => vs.length - (intOf iv).toNat)
  case atStart => exact ⟨0, Nat.zero_le _, rfl, U3.out⟩
  case round =>
    obtain ⟨i, hi, rfl, HU⟩ := hrel
    by_cases hlt : i < vs.length
    · have hlt1 : (i : Int) < vs.length := by omega
      have hi9 : (i : Int) ≤ 4 := by omega
      rcases HV.out wr HU.out with hnil | ⟨vb, vo, rfl, hvb, hvc⟩
      · rw [hnil] at hlt; simp at hlt
      obtain ⟨nv', vv', q0, q1, q2, q3, hvn⟩ := hvc i hlt
      obtain ⟨na', nc', rfl, -, -⟩ := hvn.names
      obtain ⟨va', vc', rfl, -, -⟩ := hvn.vals
      have hdp : Hid (Calls Tryz.prog 25 #[.agg #[.int .i64 vs[i].kind, .int .i64 vs[i].n, .slice na' vs[i].names.length nc', .slice va' vs[i].vals.length vc'], .int .i64 30, .int .i64 6] wr fun e w' => ∃ n : Int, e = .returned (.int .i64 n) ∧ Hid ((1 ≤ n ∧ n ≤ 30 + 1) ∧ Nw wr w')) := depth_c P 6 30 _ _ _ wr (by omega) (by omega) (by omega) hvn
      generalize vs[i]'hlt = v at *
      clear hvc hvn
      go_wp2_with fail
      (with_reducible refine (hdp.out).mono ?_)
      rintro _ w4 ⟨z, rfl, hz⟩
      have HU4 := Lib.hid (HU.out.trans hz.out.2)
      have hz1 := hz.out.1
      clear hz
      by_cases hz30 : 30 < z
      · go_wp2_with fail
        go_ret
        exact ⟨rfl, HN.out.trans HU4.out⟩
      · go_wp2_with fail
        go_roundw
        case rel => exact ⟨i + 1, by omega, by go_num, HU4.out⟩
        case measure => simp [intOf]; omega
    · have hlt1 : ¬ (i : Int) < vs.length := by omega
      clear U3
      have U3 := HU
      obtain ⟨x0, x1, x2⟩ := HX.out wr HU.out
      have hr1 := Lib.hid (HR1.out wr HU.out)
      unfold RunD at hr1
      obtain ⟨r, hr⟩ : ∃ r, r = Wv.runF f ws quota holds := ⟨_, rfl⟩
      rw [← hr] at hr1
      have HRR := Lib.hid hr
      clear hr HR1
      obtain ⟨m, c⟩ := r
      dsimp only at hr1
      go_wp2_with fail
      (with_reducible refine (hr1.out).mono ?_)
      rintro _ w4 ⟨v4, rfl, o4, u4⟩
      obtain ⟨ma, mc, rfl⟩ := own_slW o4
      have U4 := Lib.hid (U3.out.trans u4)
      have HO4 := Lib.hid o4
      clear u4 o4 hr1 x0 x1 x2
      by_cases hc0 : c = 0
      rotate_left
      · have hcb : (c != 0) = true := by simpa using hc0
        obtain ⟨hf1, hf2⟩ := Wv.run_fail HRR.out.symm hc0
        have hml : (m.length : Int) ≤ ws.length := by omega
        clear hc0
        by_cases hml2 : (m.length : Int) < ws.length
        · clear hf1 hf2
          go_wp2_with fail
          go_ret
          exact ⟨rfl, HN.out.trans U4.out⟩
        · by_cases hc1 : c = 1
          · subst hc1
            clear hf1 hf2
            go_wp2_with fail
            go_ret
            exact ⟨rfl, HN.out.trans U4.out⟩
          · have hc27 : c = 27 := by omega
            subst hc27
            clear hf1 hf2 hc1
            go_wp2_with fail
            go_ret
            exact ⟨rfl, HN.out.trans U4.out⟩
      subst hc0
      obtain ⟨rk1, rk2, rk3, rk4, rk5, rk6⟩ := Wv.run_ok HRR.out.symm
      have HRG := Lib.hid (Wv.rg_of rk1)
      have HRK := Lib.hid rk6
      have HML := Lib.hid rk4
      have hr4 : Hid (Calls Tryz.prog 18 #[.agg #[.slice oa f.old.length oc, .slice na f.new.length nc, .slice ra f.runs.length rc]] w4 fun e w' => e = .returned (.bool true) ∧ Nw w4 w') := by
        have := wvRight_c oa na ra oc nc rc f w4 (HG.out w4 U4.out) (HF.out w4 U4.out) HSM.out.o HSM.out.n HSM.out.r HSM.out.so HSM.out.sn
        rw [rk1] at this
        exact this
      have hmb : ((m.length : Int) != (ws.length : Int)) = false := by rw [rk4]; simp
      have hq1 : ¬ quota < 1 := by omega
      rw [rk3] at HFM
      have HFW := Lib.hid rk3
      have HNB := Lib.hid rk5
      clear rk1 rk2 rk3 rk4 rk5 rk6
      obtain ⟨x0, x1, x2⟩ := HX.out w4 U4.out
      go_wp2_with fail
      (with_reducible refine (hr4.out).mono ?_)
      rintro _ w5 ⟨rfl, u5⟩
      have U5 := Lib.hid (U4.out.trans u5)
      have HO5 := Lib.hid (owns_upd' HO4.out u5 (fun _ _ e => e))
      clear u5 hr4 x0 x1 x2 HO4
      have hfm := Lib.hid (HFM.out w5 U5.out)
      obtain ⟨x0, x1, x2⟩ := HX.out w5 U5.out
      go_wp2_with fail
      (with_reducible refine (hfm.out).mono ?_)
      rintro _ w6 ⟨rfl, u6⟩
      have U6 := Lib.hid (U5.out.trans u6)
      have HO6 := Lib.hid (owns_upd' HO5.out u6 (fun _ _ e => e))
      clear u6 hfm x0 x1 x2 HO5
      have HGB : Hid (nG ≤ w6.heap.size ∧ W.heap.size ≤ w6.heap.size) := ⟨Nat.le_trans (HG.out W (Upd.refl _ _)).g.big U6.out.size, U6.out.size⟩
      have HRN := HSZ.out.1
      have HRU : Hid (∀ y (k : Nat), Nw W y → k < f.runs.length → ∃ rb ro, ra = some ⟨rb, ro, none⟩ ∧ y.cell? ⟨rb, ro + k, none⟩ = some (.int .i64 (Wv.run f k : Int)) ∧ Wv.run f k < 8) := fun y k u hk => by
        rcases (HF.out y u).runs with hnil | ⟨rb, ro, rfl, hrb, hrcell⟩
        · rw [hnil] at hk; simp at hk
        · refine ⟨rb, ro, rfl, ?_, by have := (run_lt HRG.out hk).1; have := HRG.out.old8; omega⟩
          have := hrcell k hk
          rw [(run_lt HRG.out hk).2] at this
          exact this
      obtain ⟨rn, hrn⟩ : ∃ r, r = f.runs.length := ⟨_, rfl⟩
      have HRNE := Lib.hid hrn
      rw [← hrn] at HRU HX HRN
      have hrn1 : (rn : Int) ≤ 8 := by omega
      obtain ⟨x0, x1, x2⟩ := HX.out w6 U6.out
      rw [← hrn]
      clear hrn
      go_wp2_with (at_make; refine wpList_makeW rfl _ _ 26 4 _ 1 rfl Tryz.underlying26 infoBoolW rn rfl rfl ?m1 ?m2 ?_)
      case m1 => omega
      case m2 => omega
      intro wD hD nD
      have HD0 : Hid (DoneAt wD w6.heap.size (Wv.none_ f)) := by unfold Wv.none_; rw [← HRNE.out]; exact DoneAt.made hD
      have HND := Lib.hid nD
      obtain ⟨db, hdb⟩ : ∃ d, d = w6.heap.size := ⟨_, rfl⟩
      rw [← hdb] at HD0 HGB ⊢
      have HDB := Lib.hid hdb
      clear hD x0 x1 x2 hdb
      have HHE : Hid (∀ y d, Nw w6 y → DoneAt y db d → d.length = rn → Wv.firstBad f d = none → Calls Tryz.prog 27 #[.agg #[.slice oa f.old.length oc, .slice na f.new.length nc, .slice ra rn rc], .slice (some ⟨db, 0, none⟩) rn rn, .slice va vs.length vc] y fun e w' => e = .returned (.bool true) ∧ Nw y w') := fun y d u hd hdl hb => by
        have uu := U6.out.trans u
        have := heard_c P oa na ra (some ⟨db, 0, none⟩) va oc nc rc rn vc f d vs y (HG.out y uu) (HF.out y uu) HRG.out hb hd.bc (HV.out y uu) HV4.out
        unfold flV at this
        rw [hdl, ← HRNE.out] at this
        exact this
      have HMX : Hid (∀ y d, Nw w6 y → DoneAt y db d → d.length = rn → Wv.firstBad f d = none → Calls Tryz.prog 10 #[.agg #[.slice oa f.old.length oc, .slice na f.new.length nc, .slice ra rn rc], .slice (some ⟨db, 0, none⟩) rn rn] y fun e w' => e = .returned (.tuple #[.int .i64 0, .int .i64 0, .bool false]) ∧ Nw y w') := fun y d u hd hdl hb => by
        have uu := U6.out.trans u
        have := Mixed_c oa na ra (some ⟨db, 0, none⟩) oc nc rc rn f d y (HG.out y uu) (HF.out y uu) HSM.out hd.bc trivial
        unfold flV at this
        rw [hdl, ← HRNE.out] at this
        refine this.mono fun e w' ⟨he, hw⟩ => ⟨?_, hw⟩
        rw [he]
        unfold mixV Wv.mixed
        rw [hb]
        split <;> rfl
      have HLEN : Hid (∀ n, (Wv.stAt (Wv.none_ f) ws n).length = rn) := fun n => by
        rw [HRNE.out]
        induction n with
        | zero => rw [Wv.stAt_zero]; unfold Wv.none_; rw [List.length_replicate]
        | succ n ih =>
          by_cases hn : n < ws.length
          · rw [Wv.stAt_succ hn, Wv.setAll_length, ih]
          · unfold Wv.stAt at ih ⊢
            rw [List.take_of_length_le (by omega)] at ih ⊢
            exact ih
      have HMC : Hid (∀ y (i : Nat), Nw w6 y → i < m.length → ∃ mb mo, ma = some ⟨mb, mo, none⟩ ∧ y.cell? ⟨mb, mo + i, none⟩ = some (.int .i64 (m.getD i 0))) := fun y i u hi => by
        rcases ic_of_own HO6.out with hnil | ⟨b, off, e, hb, hcell⟩
        · rw [hnil] at hi; simp at hi
        · refine ⟨b, off, e, ?_⟩
          rw [nw_cellF u (hcell i hi), getD_of hi]
      obtain ⟨x0, x1, x2⟩ := HX.out wD (U6.out.trans HND.out)
      have hh1 := Lib.hid (HHE.out wD _ HND.out HD0.out (by unfold Wv.none_; rw [List.length_replicate, HRNE.out]) HNB.out)
      go_wp2_with fail
      (with_reducible refine (hh1.out).mono ?_)
      rintro _ w7 ⟨rfl, u7⟩
      have HD7 := Lib.hid (HD0.out.upd u7 (fun e => e))
      have HN7 := Lib.hid (HND.out.trans u7)
      clear u7 hh1 x0 x1 x2 HD0 HND HO6
      go_wp2_with fail
      go_loopw [16] (fun iv wr => ∃ n : Nat, n ≤ ws.length ∧ iv = .int .i64 (n : Int) ∧ Hid (DoneAt wr db (Wv.stAt (Wv.none_ f) ws n)) ∧ Hid (Nw w6 wr)) (fun iv _ => ws.length - (intOf iv).toNat)
      case atStart => exact ⟨0, Nat.zero_le _, rfl, (by show DoneAt _ _ _; rw [Wv.stAt_zero]; exact HD7.out), HN7.out⟩
      case round =>
        obtain ⟨n, hn, rfl, HDN, HU⟩ := hrel
        obtain ⟨wn, hwn⟩ : ∃ y, y = wr := ⟨_, rfl⟩
        subst hwn
        by_cases hlt : n < ws.length
        · have hlt1 : (n : Int) < ws.length := by omega
          have hws10 := HSZ.out.2.2.2.1
          have hn9 : (n : Int) ≤ 10 := by omega
          have hn0 : decide ((n : Int) < 0) = false := decide_eq_false (by omega)
          rcases HWV.out w6 U6.out with hnil | ⟨b, off, rfl, hb, hcell⟩
          · rw [hnil] at hlt; simp at hlt
          obtain ⟨mha, mhc, q0, q1, hmi, hml⟩ := hcell n hlt
          have d0 := nw_cellF HU.out q0
          have d1 := nw_cellF HU.out q1
          have hwk := HRK.out n hlt
          have hmlen := HM10.out ws[n] (List.getElem_mem hlt)
          have hst := Wv.stAt_succ (d := Wv.none_ f) hlt
          have hin : ∀ x ∈ (ws[n]).ms, 0 ≤ x ∧ x < rn := fun x hx => by
            have := (Wv.waveOk_parts (Wv.formedW_waves HFW.out ws[n] (List.getElem_mem hlt))).2.2 x hx
            rw [← HRNE.out] at this
            exact this
          clear hcell hml q0 q1
          generalize ws[n] = wv at *
          obtain ⟨ms, af⟩ := wv
          dsimp only at *
          have HMI := Lib.hid hmi
          have HIN := Lib.hid hin
          have HST := Lib.hid hst
          have HWK := Lib.hid hwk
          have hmn : n < m.length := by have := HML.out; omega
          have hmn1 : (n : Int) < m.length := by omega
          obtain ⟨mb, mof, rfl, mcell⟩ := HMC.out wn n HU.out hmn
          have hprev : ∀ k, n = k + 1 → wn.cell? ⟨mb, mof + k, none⟩ = some (.int .i64 (m.getD (n - 1) 0)) := fun k e => by
            obtain ⟨mb2, mo2, e2, h2⟩ := HMC.out wn k HU.out (by omega)
            injection e2 with e2
            injection e2 with e3 e4
            subst e3 e4 e
            exact h2
          have HMN : Hid (∀ y, Nw w6 y → y.cell? ⟨mb, mof + n, none⟩ = some (.int .i64 (m.getD n 0))) := fun y u => by
            obtain ⟨mb2, mo2, e2, h2⟩ := HMC.out y n u hmn
            injection e2 with e2
            injection e2 with e3 e4
            subst e3 e4
            exact h2
          have hmsl : (ms.length : Int) ≤ 10 := by omega
          have hqq : decide (quota < (ms.length : Int)) = false := decide_eq_false hwk.quota
          have haf : decide (m.getD n 0 < af) = false := decide_eq_false (Int.not_lt.2 hwk.after)
          have hasc : ¬ n = 0 → decide (m.getD n 0 ≤ m.getD (n - 1) 0) = false := fun e => decide_eq_false (by
            have := hwk.asc (m.getD (n - 1) 0) (by rw [if_neg e])
            omega)
          have HHD : Hid (∀ i (hi : i < ms.length), Wv.run f (ms[i]).toNat < holds.length → decide (m.getD n 0 < holds.getD (Wv.run f (ms[i]).toNat) 0) = false) := fun i hi hl => decide_eq_false (held_un hwk (List.getElem_mem hi) hl)
          clear hmi hin hst hwk
          generalize m.getD n 0 = now at *
          generalize hpv : m.getD (n - 1) 0 = pv at *
          clear hpv
          have HN1 := nw_alloc wn (.cells #[.slice mha ms.length mhc, .int .i64 af] tWv)
          have HB1 := heap_new wn (.cells #[.slice mha ms.length mhc, .int .i64 af] tWv)
          obtain ⟨wo, hwo⟩ : ∃ z, z = wn.alloc (.cells #[.slice mha ms.length mhc, .int .i64 af] tWv) := ⟨_, rfl⟩
          rw [← hwo] at HN1 HB1
          have HWO := Lib.hid hwo
          obtain ⟨Q, hQ⟩ : ∃ Q, Q = wn.heap.size := ⟨_, rfl⟩
          rw [← hQ] at HB1
          have HQQ : Hid (db < Q) := by have := HDN.out.lt; show _ < _; omega
          have HXP : Hid (∀ y, Upd (fun k => k = db) wo y → y.cell? ⟨Q, 0, none⟩ = some (.slice mha ms.length mhc) ∧ y.cell? ⟨Q, 1, none⟩ = some (.int .i64 af)) := fun y u => by
            have hk := u.keep HB1 (fun e => by have := HQQ.out; omega)
            exact ⟨by rw [cells_cell hk]; rfl, by rw [cells_cell hk]; rfl⟩
          have HUO := Lib.hid (HU.out.trans HN1)
          have HDO := Lib.hid (HDN.out.upd HN1 (fun e => e))
          have HUW : Hid (∀ y, Upd (fun k => k = db) wo y → Nw w6 y) := fun y u => HUO.out.trans' u (fun j hj e => by have := HDB.out; show False; omega)
          have mcell2 := nw_cellF HN1 mcell
          have hprev2 : ∀ k, n = k + 1 → wo.cell? ⟨mb, mof + k, none⟩ = some (.int .i64 pv) := fun k e => nw_cellF HN1 (hprev k e)
          obtain ⟨y0, y1⟩ := HXP.out wo (Upd.refl _ _)
          clear hwo HN1 HB1 HDN mcell hprev
          go_upto_region 21 with fail
          rw [← HWO.out, ← hQ]
          clear HWO hQ d0 d1
          have z0 : ∀ j : Later wo, j.1.cell? ⟨mb, mof + n, none⟩ = some (.int .i64 now) := fun j => later_cell j mcell2
          have z1 : ∀ j : Later wo, j.1.cell? ⟨Q, 0, none⟩ = some (.slice mha ms.length mhc) := fun j => later_cell j y0
          have z2 : ∀ j : Later wo, j.1.cell? ⟨Q, 1, none⟩ = some (.int .i64 af) := fun j => later_cell j y1
          go_cut [149] from 120 to 149 (fun c wx => c = .bool false ∧ Hid (Nw wo wx))
          case first =>
            by_cases hn1 : n = 0
            · subst hn1
              rw [Nat.add_zero] at z0
              refine wp_region_nw (by kernel_rfl) (by kernel_rfl) ?_
              repeat (go_big_quiet_step ((fail)))
              refine wpQuiet_nil ?_
              intro w8 u8
              replace u8 := later_out u8
              have H8 := Lib.hid u8
              clear u8
              go_wp2_with fail
              go_meet
              exact ⟨rfl, H8⟩
            · obtain ⟨k, rfl⟩ : ∃ k, n = k + 1 := ⟨n - 1, by omega⟩
              have hz : decide ((0 : Int) < ((k + 1 : Nat) : Int)) = true := decide_eq_true (by omega)
              have z3 : ∀ j : Later wo, j.1.cell? ⟨mb, mof + k, none⟩ = some (.int .i64 pv) := fun j => later_cell j (hprev2 k rfl)
              have hz2 := hasc hn1
              have hk0 : decide ((k : Int) < 0) = false := decide_eq_false (by omega)
              have hk1 : (k : Int) < m.length := by omega
              refine wp_region_nw (by kernel_rfl) (by kernel_rfl) ?_
              repeat (go_big_quiet_step ((fail)))
              refine wpQuiet_nil ?_
              intro w8 u8
              replace u8 := later_out u8
              have H8 := Lib.hid u8
              clear u8
              go_wp2_with fail
              go_meet
              exact ⟨rfl, H8⟩
          case rest =>
            obtain ⟨rfl, HC⟩ := hcut
            clear z0 z1 z2 hprev2 hasc mcell2 y0 y1
            have HWC := Lib.hid (HUO.out.trans HC.out)
            have HDC : Hid (DoneAt wc db (Wv.setAll (Wv.stAt (Wv.none_ f) ws n) (ms.take 0))) := by show DoneAt _ _ _; rw [List.take_zero]; exact HDO.out.upd HC.out (fun e => e)
            have HXC : Hid (∀ y, Upd (fun k => k = db) wc y → y.cell? ⟨Q, 0, none⟩ = some (.slice mha ms.length mhc)) := fun y u => (HXP.out y ((HC.out.mono (fun _ _ h => h.elim)).trans u)).1
            have HUC : Hid (∀ y, Upd (fun k => k = db) wc y → Nw w6 y) := fun y u => HWC.out.trans' u (fun j hj e => by have := HDB.out; show False; omega)
            clear HXP HUW
            have y0 := HXC.out wc (Upd.refl _ _)
            go_wp2_with fail
            clear y0
            go_loopw [18] (fun iv wr => ∃ i : Nat, i ≤ ms.length ∧ iv = .int .i64 (i : Int) ∧ Hid (DoneAt wr db (Wv.setAll (Wv.stAt (Wv.none_ f) ws n) (ms.take i))) ∧ Hid (Upd (fun k => k = db) wc wr)) (fun iv _ => ms.length - (intOf iv).toNat)
            case atStart => exact ⟨0, Nat.zero_le _, rfl, HDC.out, Upd.refl _ _⟩
            case round =>
              obtain ⟨i9, hi9', rfl, HDI, HUI⟩ := hrel
              have y0 := HXC.out wr HUI.out
              have HUI2 := Lib.hid (HUC.out wr HUI.out)
              by_cases hil : i9 < ms.length
              · have hil1 : (i9 : Int) < ms.length := by omega
                have hi9 : (i9 : Int) ≤ 10 := by omega
                have hi0 : decide ((i9 : Int) < 0) = false := decide_eq_false (by omega)
                rcases HMI.out with hnil | ⟨b2, o2, rfl, hb2, hc2⟩
                · rw [hnil] at hil; simp at hil
                have z0 := nw_cellF HUI2.out (hc2 i9 hil)
                have hin := HIN.out ms[i9] (List.getElem_mem hil)
                obtain ⟨k, hm⟩ : ∃ k : Nat, ms[i9] = (k : Int) := ⟨ms[i9].toNat, by omega⟩
                have HS2 := Lib.hid (Wv.setAll_take (done := Wv.stAt (Wv.none_ f) ws n) hil)
                have hheld := HHD.out i9 hil
                rw [hm, Int.toNat_natCast] at hheld
                rw [hm] at z0 HS2 hin
                have hmr : k < rn := by omega
                have hmr1 : (k : Int) < (rn : Int) := by omega
                have hm0 : decide ((k : Int) < 0) = false := decide_eq_false (by omega)
                have hm9 : (k : Int) ≤ 8 := by omega
                obtain ⟨rb, ro, rfl, z1, hr8⟩ := HRU.out wr k (U6.out.trans HUI2.out) hmr
                obtain ⟨x0, x1, x2⟩ := HX.out wr (U6.out.trans HUI2.out)
                clear hc2 hm hin
                generalize Wv.run f k = s at *
                have hs9 : (s : Int) < 8 := by omega
                have hs0 : decide ((s : Int) < 0) = false := decide_eq_false (by omega)
                have y0' : ∀ j : Later wr, j.1.cell? ⟨Q, 0, none⟩ = some (.slice (some ⟨b2, o2, none⟩) ms.length mhc) := fun j => later_cell j y0
                have x2' : ∀ j : Later wr, j.1.cell? ⟨w.heap.size, 2, none⟩ = some (.slice (some ⟨rb, ro, none⟩) rn rc) := fun j => later_cell j x2
                have z0' : ∀ j : Later wr, j.1.cell? ⟨b2, o2 + i9, none⟩ = some (.int .i64 (k : Int)) := fun j => later_cell j z0
                have z1' : ∀ j : Later wr, j.1.cell? ⟨rb, ro + k, none⟩ = some (.int .i64 (s : Int)) := fun j => later_cell j z1
                go_upto_region 26 with fail
                refine wp_region_nw (by kernel_rfl) (by kernel_rfl) ?_
                repeat (go_big_quiet_step ((fail)))
                refine wpQuiet_nil ?_
                intro w8 u8
                replace u8 := later_out u8
                have H8 := Lib.hid u8
                clear u8 y0' x2' z0' z1'
                have hmc := HMN.out w8 (HUI2.out.trans H8.out)
                have m0' : ∀ j : Later w8, j.1.cell? ⟨mb, mof + n, none⟩ = some (.int .i64 now) := fun j => later_cell j hmc
                by_cases hsl : s < holds.length
                · rcases HHO.out w8 (U6.out.trans (HUI2.out.trans H8.out)) with hnil | ⟨b3, o3, rfl, hb3, hc3⟩
                  · rw [hnil] at hsl; simp at hsl
                  have h3 := hc3 s hsl
                  have hheld2 := hheld hsl
                  rw [getD_of hsl] at hheld2
                  generalize holds[s] = hv at *
                  have h3' : ∀ j : Later w8, j.1.cell? ⟨b3, o3 + s, none⟩ = some (.int .i64 hv) := fun j => later_cell j h3
                  have hsl1 : decide ((s : Int) < holds.length) = true := decide_eq_true (by omega)
                  clear hc3 h3 hheld hmc
                  go_upto_region 27 with fail
                  refine wp_region_nw (by kernel_rfl) (by kernel_rfl) ?_
                  repeat (go_big_quiet_step ((fail)))
                  refine wpQuiet_nil ?_
                  intro w9 u9
                  replace u9 := later_out u9
                  have H9 := Lib.hid u9
                  clear u9 m0' h3'
                  have HLI : Hid ((Wv.setAll (Wv.stAt (Wv.none_ f) ws n) (ms.take i9)).length = rn) := by show _ = _; rw [Wv.setAll_length]; exact HLEN.out n
                  have HDI9 := Lib.hid ((HDI.out.upd H8.out (fun e => e)).upd H9.out (fun e => e))
                  have HUI9 : Hid (Upd (fun k => k = db) wc w9) := (HUI.out.trans (H8.out.mono (fun _ _ h => h.elim))).trans (H9.out.mono (fun _ _ h => h.elim))
                  obtain ⟨x9, c9⟩ : ∃ x, w9.cell? ⟨db, k, none⟩ = some (.bool x) := ⟨_, HDI9.out.cell (by rw [HLI.out]; exact hmr)⟩
                  have f9 : w9.frozen? ⟨db, k, none⟩ = false := HDI9.out.frozen k
                  have HS9 : Hid (DoneAt (w9.setCell ⟨db, k, none⟩ (.bool true)) db (Wv.setAll (Wv.stAt (Wv.none_ f) ws n) (ms.take (i9 + 1)))) := by
                    show DoneAt _ _ _
                    rw [HS2.out, Int.toNat_natCast]
                    exact HDI9.out.set k true
                  have HU9 : Hid (Upd (fun k => k = db) wc (w9.setCell ⟨db, k, none⟩ (.bool true))) := Upd.set1 HUI9.out (by have := HGB.out; have := HDB.out; omega) k (.bool true)
                  have y09 := nw_cellF (H8.out.trans H9.out) y0
                  have z09 := nw_cellF (H8.out.trans H9.out) z0
                  clear x0 x1 x2 z0 z1 y0
                  go_wp2_with fail
                  go_roundw
                  case rel => exact ⟨i9 + 1, by omega, by go_num, HS9.out, HU9.out⟩
                  case measure => simp [intOf]; omega
                · have hsl1 : decide ((s : Int) < holds.length) = false := decide_eq_false (by omega)
                  clear hheld hmc
                  go_upto_region 27 with fail
                  refine wp_region_nw (by kernel_rfl) (by kernel_rfl) ?_
                  repeat (go_big_quiet_step ((fail)))
                  refine wpQuiet_nil ?_
                  intro w9 u9
                  replace u9 := later_out u9
                  have H9 := Lib.hid u9
                  clear u9 m0'
                  have HLI : Hid ((Wv.setAll (Wv.stAt (Wv.none_ f) ws n) (ms.take i9)).length = rn) := by show _ = _; rw [Wv.setAll_length]; exact HLEN.out n
                  have HDI9 := Lib.hid ((HDI.out.upd H8.out (fun e => e)).upd H9.out (fun e => e))
                  have HUI9 : Hid (Upd (fun k => k = db) wc w9) := (HUI.out.trans (H8.out.mono (fun _ _ h => h.elim))).trans (H9.out.mono (fun _ _ h => h.elim))
                  obtain ⟨x9, c9⟩ : ∃ x, w9.cell? ⟨db, k, none⟩ = some (.bool x) := ⟨_, HDI9.out.cell (by rw [HLI.out]; exact hmr)⟩
                  have f9 : w9.frozen? ⟨db, k, none⟩ = false := HDI9.out.frozen k
                  have HS9 : Hid (DoneAt (w9.setCell ⟨db, k, none⟩ (.bool true)) db (Wv.setAll (Wv.stAt (Wv.none_ f) ws n) (ms.take (i9 + 1)))) := by
                    show DoneAt _ _ _
                    rw [HS2.out, Int.toNat_natCast]
                    exact HDI9.out.set k true
                  have HU9 : Hid (Upd (fun k => k = db) wc (w9.setCell ⟨db, k, none⟩ (.bool true))) := Upd.set1 HUI9.out (by have := HGB.out; have := HDB.out; omega) k (.bool true)
                  have y09 := nw_cellF (H8.out.trans H9.out) y0
                  have z09 := nw_cellF (H8.out.trans H9.out) z0
                  clear x0 x1 x2 z0 z1 y0
                  go_wp2_with fail
                  go_roundw
                  case rel => exact ⟨i9 + 1, by omega, by go_num, HS9.out, HU9.out⟩
                  case measure => simp [intOf]; omega
              · obtain rfl : i9 = ms.length := by omega
                have hil1 : ¬ ((ms.length : Nat) : Int) < ms.length := by omega
                have HDF : Hid (DoneAt wr db (Wv.stAt (Wv.none_ f) ws (n + 1))) := by
                  show DoneAt _ _ _
                  rw [HST.out]
                  have := HDI.out
                  rw [List.take_length] at this
                  exact this
                obtain ⟨x0, x1, x2⟩ := HX.out wr (U6.out.trans HUI2.out)
                have hmx := Lib.hid (HMX.out wr _ HUI2.out HDF.out (HLEN.out (n + 1)) HWK.out.talk)
                clear HDI
                go_wp2_with fail
                (with_reducible refine (hmx.out).mono ?_)
                rintro _ w8 ⟨rfl, u8⟩
                have H8 := Lib.hid (HUI2.out.trans u8)
                have HD8 := Lib.hid (HDF.out.upd u8 (fun e => e))
                have hhe := Lib.hid (HHE.out w8 _ H8.out HD8.out (HLEN.out (n + 1)) HWK.out.talk)
                clear u8 hmx x0 x1 x2 HDF
                obtain ⟨x0, x1, x2⟩ := HX.out w8 (U6.out.trans H8.out)
                go_wp2_with fail
                (with_reducible refine (hhe.out).mono ?_)
                rintro _ w9 ⟨rfl, u9⟩
                have H9 := Lib.hid (H8.out.trans u9)
                have HD9 := Lib.hid (HD8.out.upd u9 (fun e => e))
                clear u9 hhe x0 x1 x2
                go_wp2_with fail
                go_roundw
                case rel => exact ⟨n + 1, by omega, by go_num, HD9.out, H9.out⟩
                case measure => simp [intOf]; omega
        · obtain rfl : n = ws.length := by omega
          have hlt1 : ¬ ((ws.length : Nat) : Int) < ws.length := by omega
          go_wp2_with fail
          go_ret
          exact ⟨rfl, HN.out.trans (U6.out.trans HU.out)⟩
theorem waveTalks_b (oa na ra wa va : Option Addr) (oc nc rc wvc vc : Nat) (f : FL) (ws : List Wv.Wave) (quota : Int) (hv : Value) (holds : List Int) (vs : List Vl) (P : Nat → Prop) (w : World) (g : Gm w) (h : FlAt w oa na ra oc nc f) (hws : WvC w wa ws) (hwl : ws.length ≤ maxLen)
    (hq : (Lit.int .i64 quota).wf = true) (hh : Sl 0 w.heap.size w hv (holds.map (Value.int .i64))) (hvs : VsC P w va vs) (hvl : vs.length ≤ maxLen) :
    Calls Tryz.prog 7 #[.agg #[.slice oa f.old.length oc, .slice na f.new.length nc, .slice ra f.runs.length rc], .slice wa ws.length wvc, .int .i64 quota, hv, .slice va vs.length vc] w fun e w' => e = .returned (.bool true) ∧ Nw w w' := by
  obtain ⟨ha, hc, rfl, hl, _, hic⟩ := IC.of_sl hh
  exact waveTalks_c P oa na ra wa ha va oc nc rc wvc hc vc f ws quota holds vs w g h hws hwl hic hl (i64_of_wf hq) hvs hvl
end Go.Proofs.YtjlgmoemnhmgmaaGreatDoor
