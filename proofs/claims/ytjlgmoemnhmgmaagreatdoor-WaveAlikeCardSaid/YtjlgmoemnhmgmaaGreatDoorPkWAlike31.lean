/- The walk of WaveAlike. -/
import Derived.Test.YtjlgmoemnhmgmaaGreatDoorPkWAlike30
namespace Go.Proofs.YtjlgmoemnhmgmaaGreatDoor
open Go.RowKit
set_option linter.unusedVariables false
set_option linter.unusedSimpArgs false
attribute [local irreducible] Calls
open Fm (Ty Vl Str)
open Wv (Svc FL)
theorem sm_of_few {f : FL} (h : Wv.fewF f = true) : Sm f ∧ f.runs.length ≤ 8 := by
  unfold Wv.fewF Wv.fewSs at h
  simp only [Bool.and_eq_true, decide_eq_true_eq] at h
  obtain ⟨⟨⟨h1, h2⟩, h3, h4⟩, h5⟩ := h
  have key : ∀ (l : List Svc), (l.take 5).all Wv.fewS = true → l.length ≤ 4 → ∀ s ∈ l, s.sends.length ≤ 1000 := fun l ha hl s hs => by
    rw [List.take_of_length_le (by omega)] at ha
    have := List.all_eq_true.1 ha s hs
    unfold Wv.fewS at this
    simp only [Bool.and_eq_true, decide_eq_true_eq] at this
    omega
  exact ⟨⟨by omega, by omega, by omega, key _ h1 h2, key _ h3 h4⟩, h5⟩
theorem bc_of_own {B : Nat} {w : World} {a : Option Addr} {l : List Bool} {c : Nat} (h : w.ownsRow B 4 1 (.slice a l.length c) l.length (l.map Value.bool)) : BC w a l := by
  rcases h.2 with ⟨e1, e2⟩ | ⟨gb, cap, cur, e1, hb, hg, h4, h5, h6, h7⟩
  · exact Or.inl (List.eq_nil_of_length_eq_zero e2)
  · injection e1 with e3 e4 e5
    refine Or.inr ⟨gb, 0, e3, (Array.getElem?_eq_some_iff.1 hg).1, fun i hi => ?_⟩
    rw [Nat.zero_add, cells_cell hg]
    have := congrArg (fun (l : List Value) => l[i]?) h7
    rw [List.getElem?_take, if_pos (by omega), List.getElem?_map, List.getElem?_eq_getElem hi] at this
    simpa using this
set_option maxHeartbeats 16000000 in
set_option maxRecDepth 100000 in
theorem waveAlike_c (oa na ra da : Option Addr) (oc nc rc dc : Nat) (f : FL) (done : List Bool) (which : Int) (w : World) (g : Gm w) (h : FlAt w oa na ra oc nc f) (hd : BC w da done) (hdl : done.length ≤ maxLen) (hw0 : 0 ≤ which) (hw1 : which ≤ 255) :
    Calls Tryz.prog 5 #[.agg (flV oa na ra oc nc rc f), .slice da done.length dc, .int .u8 which] w fun e w' => e = .returned (.bool true) ∧ Nw w w' := by
  unfold flV
  have n1 := nw_alloc w (.cells #[.slice oa f.old.length oc, .slice na f.new.length nc, .slice ra f.runs.length rc] tFl)
  have b1 := heap_new w (.cells #[.slice oa f.old.length oc, .slice na f.new.length nc, .slice ra f.runs.length rc] tFl)
  obtain ⟨W, hW⟩ : ∃ z, z = w.alloc (.cells #[.slice oa f.old.length oc, .slice na f.new.length nc, .slice ra f.runs.length rc] tFl) := ⟨_, rfl⟩
  rw [← hW] at n1 b1
  have HW := Lib.hid hW
  have HN := Lib.hid n1
  have HX : Hid (∀ y, Nw W y → y.cell? ⟨w.heap.size, 0, none⟩ = some (.slice oa f.old.length oc) ∧ y.cell? ⟨w.heap.size, 1, none⟩ = some (.slice na f.new.length nc) ∧ y.cell? ⟨w.heap.size, 2, none⟩ = some (.slice ra f.runs.length rc)) := fun y u => ⟨by rw [cells_cell (Nw.keep u b1)]; rfl, by rw [cells_cell (Nw.keep u b1)]; rfl, by rw [cells_cell (Nw.keep u b1)]; rfl⟩
  have HF : Hid (∀ y, Nw W y → FlAt y oa na ra oc nc f) := fun y u => h.nw (n1.trans u)
  have HG : Hid (∀ y, Nw W y → Gm y) := fun y u => g.upd (n1.trans u)
  have HD : Hid (∀ y, Nw W y → BC y da done) := fun y u => BC.nw hd (n1.trans u)
  have hs1 := Lib.hid (small_c W (g.upd n1))
  have hlr := h.lr
  unfold maxLen at hlr hdl
  have hdl1 : (done.length : Int) ≤ 9223372036854775807 := by omega
  clear n1 b1 hW h hd g
  go_enter Tryz.func5, Tryz.ntmps5
  go_upto_region 1 with fail
  rw [← HW.out]
  clear HW
  go_wp2_with fail
  (with_reducible refine (hs1.out).mono ?_)
  rintro _ w2 ⟨rfl, u2⟩
  have U2 := Lib.hid u2
  have hf1 := Lib.hid (Few_c oa na ra oc nc rc f w2 (HF.out w2 u2))
  have hr1 : Hid (∀ y, Nw W y → Sm f → Calls Tryz.prog 18 #[.agg #[.slice oa f.old.length oc, .slice na f.new.length nc, .slice ra f.runs.length rc]] y fun e w' => e = .returned (.bool (Wv.right f)) ∧ Nw y w') := fun y u hs => wvRight_c oa na ra oc nc rc f y (HG.out y u) (HF.out y u) hs.o hs.n hs.r hs.so hs.sn
  obtain ⟨x0, x1, x2⟩ := HX.out w2 u2
  unfold flV at hf1
  clear u2 hs1
  cases hfe : Wv.fewF f with
  | false =>
    rw [hfe] at hf1
    clear hfe
    go_wp2_with fail
    (with_reducible refine (hf1.out).mono ?_)
    rintro _ w3 ⟨rfl, u3⟩
    have U3 := Lib.hid (HN.out.trans (U2.out.trans u3))
    clear u3
    go_wp2_with fail
    go_ret
    exact ⟨rfl, U3.out⟩
  | true =>
  rw [hfe] at hf1
  obtain ⟨hsm, hrl8⟩ := sm_of_few hfe
  have HSM := Lib.hid hsm
  clear hfe hsm
  go_wp2_with fail
  (with_reducible refine (hf1.out).mono ?_)
  rintro _ w3 ⟨rfl, u3⟩
  have U3 := Lib.hid (U2.out.trans u3)
  have hr3 := Lib.hid (hr1.out w3 U3.out HSM.out)
  clear u3 hf1 hr1 x0 x1 x2
  obtain ⟨x0, x1, x2⟩ := HX.out w3 U3.out
  cases hR : Wv.right f with
  | false =>
    rw [hR] at hr3
    clear hR
    go_wp2_with fail
    (with_reducible refine (hr3.out).mono ?_)
    rintro _ w4 ⟨rfl, u4⟩
    have U4 := Lib.hid (HN.out.trans (U3.out.trans u4))
    clear u4
    go_wp2_with fail
    go_ret
    exact ⟨rfl, U4.out⟩
  | true =>
  rw [hR] at hr3
  have HR := Lib.hid hR
  clear hR
  go_wp2_with fail
  (with_reducible refine (hr3.out).mono ?_)
  rintro _ w4 ⟨rfl, u4⟩
  have U4 := Lib.hid (U3.out.trans u4)
  clear u4 hr3 x0 x1 x2
  obtain ⟨x0, x1, x2⟩ := HX.out w4 U4.out
  have hrl1 : (f.runs.length : Int) ≤ 8 := by omega
  by_cases hn0 : f.runs.length = 0
  · have hn1 : ((f.runs.length : Int) == 0) = true := by rw [hn0]; rfl
    clear hn0
    go_wp2_with fail
    go_ret
    exact ⟨rfl, HN.out.trans U4.out⟩
  have hn1 : ((f.runs.length : Int) == 0) = false := beq_eq_false_iff_ne.2 (by omega)
  have HL8 : Hid (f.runs.length ≤ 8 ∧ 0 < f.runs.length) := by show _ ∧ _; omega
  have HGB : Hid (nG ≤ w4.heap.size) := Nat.le_trans (HG.out W (Upd.refl _ _)).g.big U4.out.size
  have hra : ∃ rb ro, ra = some ⟨rb, ro, none⟩ ∧ ∀ y, Nw W y → ∀ k (hk : k < f.runs.length), y.cell? ⟨rb, ro + k, none⟩ = some (.int .i64 f.runs[k]) := by
    rcases (HF.out W (Upd.refl _ _)).runs with hnil | ⟨b, off, e, _, hcell⟩
    · rw [hnil] at hn0; simp at hn0
    · exact ⟨b, off, e, fun y u k hk => nw_cellF u (hcell k hk)⟩
  obtain ⟨rb, ro, rfl, hrc⟩ := hra
  have HRC := Lib.hid hrc
  clear hn0 hrc
  go_wp2_with fail
  clear x0 x1 x2 hn1
  go_loopw [8, 10] (fun mv iv wr => ∃ n : Nat, n ≤ f.runs.length ∧ iv = .int .i64 (n : Int) ∧ Hid (wr.ownsRow w4.heap.size 4 1 mv (Wv.nowL done n).length ((Wv.nowL done n).map Value.bool)) ∧ Hid (Nw w4 wr)) (fun mv iv _ => f.runs.length - (intOf iv).toNat)
  case atStart => exact ⟨0, Nat.zero_le _, rfl, World.ownsRow_nil _ _ _ _, Upd.refl _ _⟩
  case round =>
    obtain ⟨n, hn, rfl, HO, HU⟩ := hrel
    obtain ⟨ma, mc, rfl⟩ := own_slW HO.out
    obtain ⟨x0, x1, x2⟩ := HX.out wr (U4.out.trans HU.out)
    by_cases hlt : n < f.runs.length
    · have hlt1 : (n : Int) < f.runs.length := by omega
      have hn9 : (n : Int) ≤ 8 := by omega
      have hnd : decide ((n : Int) < 0) = false := decide_eq_false (by omega)
      have HNS := Lib.hid (Wv.nowL_succ done n)
      have hnl : Hid ((Wv.nowL done n).length ≤ 8) := by show _ ≤ _; rw [Wv.nowL_len]; omega
      have hz : w4.heap.size ≤ wr.heap.size := HU.out.size
      have hg1 : nG ≤ w4.heap.size := HGB.out
      by_cases hin : n < done.length
      · have hin1 : (n : Int) < done.length := by omega
        rcases HD.out wr (U4.out.trans HU.out) with hnil | ⟨b, off, rfl, hb, hcell⟩
        · rw [hnil] at hin; simp at hin
        have z0 := hcell n hin
        have hv : Hid (Wv.ver done n = done[n]) := Wv.gD hin
        clear hcell
        generalize done[n] = x at *
        go_wp2_with (at_builtin; refine wpList_appL rfl _ _ 26 rfl w4.heap.size 4 _ 1 1 Tryz.underlying26 infoBoolW rfl (by decide) _ _ _ rfl HO.out [.bool x] rfl rfl ?c1 ?c2 ?c3 hz hg1 ?_)
        case c1 => first | rfl | (intro u hu; rw [List.mem_singleton.1 hu]; rfl)
        case c2 => have := hnl.out; unfold maxLen; omega
        case c3 => have := hnl.out; omega
        intro v' w9 o9 u9 hob
        have hfin : Hid (w9.ownsRow w4.heap.size 4 1 v' (Wv.nowL done (n + 1)).length ((Wv.nowL done (n + 1)).map Value.bool)) := by
          show w9.ownsRow _ _ _ _ _ _
          rw [HNS.out, List.length_append, List.length_singleton, List.map_append, hv.out]
          exact o9
        have HU9 := Lib.hid (HU.out.trans' u9 (fun j hj e => by have := (own_block HO.out e).1; omega))
        obtain ⟨a9, cap9, rfl⟩ := own_slW hfin.out
        clear o9 u9 hob
        go_wp2_with fail
        go_roundw
        case rel => exact ⟨n + 1, by omega, by go_num, hfin, HU9⟩
        case measure => simp [intOf]; omega
      · have hin1 : ¬ (n : Int) < done.length := by omega
        have hv : Hid (Wv.ver done n = false) := getD_no hin
        go_wp2_with (at_builtin; refine wpList_appL rfl _ _ 26 rfl w4.heap.size 4 _ 1 1 Tryz.underlying26 infoBoolW rfl (by decide) _ _ _ rfl HO.out [.bool false] rfl rfl ?c1 ?c2 ?c3 hz hg1 ?_)
        case c1 => first | rfl | (intro u hu; rw [List.mem_singleton.1 hu]; rfl)
        case c2 => have := hnl.out; unfold maxLen; omega
        case c3 => have := hnl.out; omega
        intro v' w9 o9 u9 hob
        have hfin : Hid (w9.ownsRow w4.heap.size 4 1 v' (Wv.nowL done (n + 1)).length ((Wv.nowL done (n + 1)).map Value.bool)) := by
          show w9.ownsRow _ _ _ _ _ _
          rw [HNS.out, List.length_append, List.length_singleton, List.map_append, hv.out]
          exact o9
        have HU9 := Lib.hid (HU.out.trans' u9 (fun j hj e => by have := (own_block HO.out e).1; omega))
        obtain ⟨a9, cap9, rfl⟩ := own_slW hfin.out
        clear o9 u9 hob
        go_wp2_with fail
        go_roundw
        case rel => exact ⟨n + 1, by omega, by go_num, hfin, HU9⟩
        case measure => simp [intOf]; omega
    · obtain rfl : n = f.runs.length := by omega
      have hlt1 : ¬ ((f.runs.length : Nat) : Int) < f.runs.length := by omega
      obtain ⟨wA, hwA⟩ : ∃ y, y = wr := ⟨_, rfl⟩
      subst hwA
      obtain ⟨now, hnow⟩ : ∃ l, l = Wv.nowL done f.runs.length := ⟨_, rfl⟩
      rw [← hnow] at HO ⊢
      have HNOW := Lib.hid hnow
      have hnl : now.length = f.runs.length := by rw [hnow, Wv.nowL_len]
      have UA := Lib.hid (U4.out.trans HU.out)
      have HNB : Hid (∀ y, Nw wA y → BC y ma now) := fun y u => BC.nw (bc_of_own HO.out) u
      have HNL := Lib.hid hnl
      have HWA : Hid (nG ≤ wA.heap.size) := Nat.le_trans HGB.out HU.out.size
      have hnb : ∃ nb no, ma = some ⟨nb, no, none⟩ ∧ ∀ y, Nw wA y → ∀ k (hk : k < now.length), y.cell? ⟨nb, no + k, none⟩ = some (.bool now[k]) := by
        rcases bc_of_own HO.out with hnil | ⟨b, off, e, _, hcell⟩
        · have := HL8.out; rw [hnil] at hnl; simp at hnl; omega
        · exact ⟨b, off, e, fun y u k hk => nw_cellF u (hcell k hk)⟩
      obtain ⟨nb, no, rfl, hncell⟩ := hnb
      have HNC := Lib.hid hncell
      have hnl1 : (now.length : Int) ≤ 8 := by omega
      clear hnow hnl hncell
      go_wp2_with fail
      clear x0 x1 x2
      go_loopw [9, 11] (fun tv iv wr => ∃ i : Nat, i ≤ f.runs.length ∧ iv = .int .i64 (i : Int) ∧ Hid (wr.ownsRow wA.heap.size 4 1 tv (Wv.turnL f now i).length ((Wv.turnL f now i).map Value.bool)) ∧ Hid (Nw wA wr)) (fun tv iv _ => f.runs.length - (intOf iv).toNat)
      case atStart => exact ⟨0, Nat.zero_le _, rfl, World.ownsRow_nil _ _ _ _, Upd.refl _ _⟩
      case round =>
        obtain ⟨i, hi, rfl, HT, HV⟩ := hrel
        obtain ⟨ta, tc, rfl⟩ := own_slW HT.out
        obtain ⟨x0, x1, x2⟩ := HX.out wr (UA.out.trans HV.out)
        by_cases hil : i < f.runs.length
        · have hil1 : (i : Int) < f.runs.length := by omega
          have hi9 : (i : Int) ≤ 8 := by omega
          have hid : decide ((i : Int) < 0) = false := decide_eq_false (by omega)
          obtain ⟨wi, hwi⟩ : ∃ y, y = wr := ⟨_, rfl⟩
          subst hwi
          go_wp2_with fail
          clear x0 x1 x2
          go_loopw [12, 13, 14, 15] (fun sv ev fv kv wr => ∃ k : Nat, k ≤ f.runs.length ∧ kv = .int .i64 (k : Int) ∧ sv = .bool (Wv.someR f now i k) ∧ ev = .bool (Wv.everyR f now i k) ∧ fv = .bool (Wv.firstR f i k) ∧ Hid (Nw wi wr)) (fun sv ev fv kv _ => f.runs.length - (intOf kv).toNat)
          case atStart => exact ⟨0, Nat.zero_le _, rfl, rfl, rfl, rfl, Upd.refl _ _⟩
          case round =>
            obtain ⟨k, hk, rfl, rfl, rfl, rfl, HK⟩ := hrel
            have HWk := Lib.hid (UA.out.trans (HV.out.trans HK.out))
            obtain ⟨x0, x1, x2⟩ := HX.out wr HWk.out
            by_cases hkl : k < f.runs.length
            · have hkl1 : (k : Int) < f.runs.length := by omega
              have hk9 : (k : Int) ≤ 8 := by omega
              have hkd : decide ((k : Int) < 0) = false := decide_eq_false (by omega)
              have hkn1 : (k : Int) < now.length := by have := HNL.out; omega
              have q0 := HRC.out wr HWk.out k hkl
              have q1 := HRC.out wr HWk.out i hil
              have y0 : ∀ j : Later wr, j.1.cell? ⟨rb, ro + k, none⟩ = some (.int .i64 f.runs[k]) := fun j => later_cell j q0
              have y1 : ∀ j : Later wr, j.1.cell? ⟨rb, ro + i, none⟩ = some (.int .i64 f.runs[i]) := fun j => later_cell j q1
              have y2 : ∀ j : Later wr, j.1.cell? ⟨w.heap.size, 2, none⟩ = some (.slice (some ⟨rb, ro, none⟩) f.runs.length rc) := fun j => later_cell j x2
              have HS := Lib.hid (Wv.someR_succ f now i k)
              have HE := Lib.hid (Wv.everyR_succ f now i k)
              have HFI := Lib.hid (Wv.firstR_succ f i k)
              have HSAME : Hid (Wv.sameR f k i = decide (f.runs[k] = f.runs[i])) := by show _ = _; unfold Wv.sameR; rw [Wv.gD hkl, Wv.gD hil]
              have hnc : ∀ j : Later wr, j.1.cell? ⟨nb, no + k, none⟩ = some (.bool (Wv.ver now k)) := fun j => by
                have := HNC.out j.1 ((HV.out.trans HK.out).trans j.nw) k (by rw [HNL.out]; exact hkl)
                rw [this]; unfold Wv.ver; rw [Wv.gD (by rw [HNL.out]; exact hkl)]
              clear q0 q1
              generalize f.runs[k] = rk at *
              generalize f.runs[i] = ri at *
              generalize Wv.ver now k = nv at *
              generalize Wv.someR f now i k = b0 at *
              generalize Wv.everyR f now i k = b1 at *
              generalize Wv.firstR f i k = b2 at *
              go_upto_region 19 with fail
              clear x0 x1 x2
              by_cases hsr : rk = ri
              · have hsb : (rk == ri) = true := by simpa using hsr
                rw [HSAME.out, decide_eq_true hsr] at HS HE HFI
                clear hsr HSAME
                refine wp_region_nw (by kernel_rfl) (by kernel_rfl) ?_
                repeat (go_big_quiet_step ((fail)))
                refine wpQuiet_nil ?_
                intro w8 u8
                replace u8 := later_out u8
                have HK8 := Lib.hid (HK.out.trans u8)
                have c0 : w8.cell? ⟨nb, no + k, none⟩ = some (.bool nv) := hnc ⟨w8, u8⟩
                clear u8 y0 y1 y2 hnc
                cases b0 <;> cases b1 <;> cases b2
                all_goals
                  go_wp2_with fail
                  go_roundw
                  case rel => exact ⟨k + 1, by omega, by go_num, by rw [HS.out]; cases nv <;> rfl, by rw [HE.out]; cases nv <;> rfl, by rw [HFI.out]; simp, HK8.out⟩
                  case measure => simp [intOf]; omega
              · have hsb : (rk == ri) = false := by simpa using hsr
                rw [HSAME.out, decide_eq_false hsr] at HS HE HFI
                clear hsr HSAME
                refine wp_region_nw (by kernel_rfl) (by kernel_rfl) ?_
                repeat (go_big_quiet_step ((fail)))
                refine wpQuiet_nil ?_
                intro w8 u8
                replace u8 := later_out u8
                have HK8 := Lib.hid (HK.out.trans u8)
                clear u8 y0 y1 y2 hnc
                go_wp2_with fail
                go_roundw
                case rel => exact ⟨k + 1, by omega, by go_num, by rw [HS.out]; simp, by rw [HE.out]; simp, by rw [HFI.out]; simp, HK8.out⟩
                case measure => simp [intOf]; omega
            · obtain rfl : k = f.runs.length := by omega
              have hkl1 : ¬ ((f.runs.length : Nat) : Int) < f.runs.length := by omega
              have HTB : Hid (Wv.turnB f now i = (Wv.everyR f now i f.runs.length || (Wv.someR f now i f.runs.length && Wv.firstR f i f.runs.length))) := rfl
              have HTS := Lib.hid (Wv.turnL_succ f now i)
              have htl : Hid ((Wv.turnL f now i).length ≤ 8) := by show _ ≤ _; rw [Wv.turnL_len]; omega
              have hz : wA.heap.size ≤ wr.heap.size := (HV.out.trans HK.out).size
              have hg1 : nG ≤ wA.heap.size := HWA.out
              have HT2 := Lib.hid (owns_upd' HT.out HK.out (fun _ _ e => e))
              have HV2 := Lib.hid (HV.out.trans HK.out)
              generalize Wv.someR f now i f.runs.length = b0 at *
              generalize Wv.everyR f now i f.runs.length = b1 at *
              generalize Wv.firstR f i f.runs.length = b2 at *
              cases b0 <;> cases b1 <;> cases b2
              all_goals
                go_wp2_with (at_builtin; refine wpList_appL rfl _ _ 26 rfl wA.heap.size 4 _ 1 1 Tryz.underlying26 infoBoolW rfl (by decide) _ _ _ rfl HT2.out [.bool _] rfl rfl ?c1 ?c2 ?c3 hz hg1 ?_)
                case c1 => first | rfl | (intro u hu; rw [List.mem_singleton.1 hu]; rfl)
                case c2 => have := htl.out; unfold maxLen; omega
                case c3 => have := htl.out; omega
                intro v' w9 o9 u9 hob
                have hfin : Hid (w9.ownsRow wA.heap.size 4 1 v' (Wv.turnL f now (i + 1)).length ((Wv.turnL f now (i + 1)).map Value.bool)) := by
                  show w9.ownsRow _ _ _ _ _ _
                  rw [HTS.out, List.length_append, List.length_singleton, List.map_append, HTB.out]
                  exact o9
                have HU9 := Lib.hid (HV2.out.trans' u9 (fun j hj e => by have := (own_block HT2.out e).1; omega))
                obtain ⟨a9, cap9, rfl⟩ := own_slW hfin.out
                clear o9 u9 hob
                go_wp2_with fail
                go_roundw
                case rel => exact ⟨i + 1, by omega, by go_num, hfin, HU9⟩
                case measure => simp [intOf]; omega
        · obtain rfl : i = f.runs.length := by omega
          have hil1 : ¬ ((f.runs.length : Nat) : Int) < f.runs.length := by omega
          obtain ⟨wB, hwB⟩ : ∃ y, y = wr := ⟨_, rfl⟩
          subst hwB
          obtain ⟨tl, htl⟩ : ∃ l, l = Wv.turnL f now f.runs.length := ⟨_, rfl⟩
          rw [← htl] at HT ⊢
          have HTL := Lib.hid htl
          have UB := Lib.hid (UA.out.trans HV.out)
          have htb := bc_of_own HT.out
          have htll : Hid (tl.length = f.runs.length) := by show _ = _; rw [htl, Wv.turnL_len]
          obtain ⟨k, hk⟩ : ∃ k : Nat, k = which.toNat % f.runs.length := ⟨_, rfl⟩
          have hkl : k < f.runs.length := by rw [hk]; exact Nat.mod_lt _ HL8.out.2
          obtain ⟨al1, al2, al3⟩ := Wv.alike HR.out HL8.out.1 hkl done
          rw [← HNOW.out] at al1 al2 al3
          rw [← htl] at al1
          obtain ⟨mm, hmm⟩ : ∃ m, m = Wv.mixed f now := ⟨_, rfl⟩
          rw [← hmm] at al1 al2 al3
          obtain ⟨tt, htt⟩ : ∃ m, m = Wv.mixed f tl := ⟨_, rfl⟩
          rw [← htt] at al1
          have HM1 : Hid (∀ y, Nw wA y → Calls Tryz.prog 10 #[.agg #[.slice oa f.old.length oc, .slice na f.new.length nc, .slice (some ⟨rb, ro, none⟩) f.runs.length rc], .slice (some ⟨nb, no, none⟩) now.length mc] y fun e w' => e = .returned (.tuple #[.int .i64 mm.1, .int .i64 mm.2.1, .bool mm.2.2]) ∧ Nw y w') := fun y u => by
            have := Mixed_c oa na (some ⟨rb, ro, none⟩) (some ⟨nb, no, none⟩) oc nc rc mc f now y (HG.out y (UA.out.trans u)) (HF.out y (UA.out.trans u)) HSM.out (HNB.out y u) trivial
            rw [← hmm] at this
            exact this
          have HM2 : Hid (∀ y, Nw wB y → Calls Tryz.prog 10 #[.agg #[.slice oa f.old.length oc, .slice na f.new.length nc, .slice (some ⟨rb, ro, none⟩) f.runs.length rc], .slice ta tl.length tc] y fun e w' => e = .returned (.tuple #[.int .i64 tt.1, .int .i64 tt.2.1, .bool tt.2.2]) ∧ Nw y w') := fun y u => by
            have := Mixed_c oa na (some ⟨rb, ro, none⟩) ta oc nc rc tc f tl y (HG.out y (UB.out.trans u)) (HF.out y (UB.out.trans u)) HSM.out (BC.nw htb u) trivial
            rw [← htt] at this
            exact this
          have HM4 : Hid (∀ y, Nw W y → Calls Tryz.prog 10 #[.agg #[.slice oa f.old.length oc, .slice na f.new.length nc, .slice (some ⟨rb, ro, none⟩) f.runs.length rc], .slice da done.length dc] y fun e w' => e = .returned (.tuple #[.int .i64 mm.1, .int .i64 mm.2.1, .bool mm.2.2]) ∧ Nw y w') := fun y u => by
            have := Mixed_c oa na (some ⟨rb, ro, none⟩) da oc nc rc dc f done y (HG.out y u) (HF.out y u) HSM.out (HD.out y u) trivial
            rw [al3] at this
            exact this
          have HAL2 := Lib.hid al2
          have hrem : which.tmod (f.runs.length : Int) = (k : Int) := by
            have e : (which.toNat : Int) = which := Int.toNat_of_nonneg hw0
            rw [Int.tmod_eq_emod_of_nonneg hw0, hk, Int.natCast_emod, e]
          clear hmm htt al2 al3 htl htb hk
          obtain ⟨m1, m2, m3⟩ := mm
          obtain ⟨t1, t2, t3⟩ := tt
          dsimp only at HM1 HM2 HM4 al1
          subst al1
          have hm1 := Lib.hid (HM1.out wB HV.out)
          go_wp2_with fail
          (with_reducible refine (hm1.out).mono ?_)
          rintro _ w5 ⟨rfl, u5⟩
          have U5 := Lib.hid u5
          have hm2 := Lib.hid (HM2.out w5 u5)
          clear u5 x0 x1 x2 hm1
          obtain ⟨x0, x1, x2⟩ := HX.out w5 (UB.out.trans U5.out)
          go_wp2_with fail
          (with_reducible refine (hm2.out).mono ?_)
          rintro _ w6 ⟨rfl, u6⟩
          have U6 := Lib.hid (U5.out.trans u6)
          clear u6 x0 x1 x2 hm2
          obtain ⟨x0, x1, x2⟩ := HX.out w6 (UB.out.trans U6.out)
          obtain ⟨C, hC⟩ : ∃ z, z = w6.alloc (.cells #[.slice oa f.old.length oc, .slice na f.new.length nc, .slice (some ⟨rb, ro, none⟩) f.runs.length rc] tFl) := ⟨_, rfl⟩
          have nC : Nw w6 C := by rw [hC]; exact nw_alloc w6 _
          have bC : C.heap[w6.heap.size]? = some (.cells #[.slice oa f.old.length oc, .slice na f.new.length nc, .slice (some ⟨rb, ro, none⟩) f.runs.length rc] tFl (0, 0)) := by rw [hC]; exact heap_new w6 _
          have hCs : C.heap.size = w6.heap.size + 1 := by rw [hC]; simp
          have HC := Lib.hid hC
          have HCP := Lib.hid bC
          have HPC : Hid (C.heap.size = w6.heap.size + 1) := hCs
          have HUC := Lib.hid ((UB.out.trans U6.out).trans nC)
          have HUC2 := Lib.hid (U6.out.trans nC)
          have HGC : Hid (nG ≤ C.heap.size) := Nat.le_trans HWA.out (HV.out.trans HUC2.out).size
          have HGP : Hid (nG ≤ w6.heap.size) := Nat.le_trans HWA.out (HV.out.trans U6.out).size
          obtain ⟨rk, hrk⟩ : ∃ x, x = f.runs[k] := ⟨_, rfl⟩
          have HRK := Lib.hid hrk
          have HSS : Hid (∀ y, Nw W y → y.cell? ⟨w.heap.size, 2, none⟩ = some (.slice (some ⟨rb, ro, none⟩) f.runs.length rc) ∧ y.cell? ⟨rb, ro + k, none⟩ = some (.int .i64 rk) ∧ True) := fun y u => ⟨(HX.out y u).2.2, by rw [hrk]; exact HRC.out y u k hkl, trivial⟩
          have HRW : Hid (∀ y, Nw W y → ∀ j u, (f.runs.map (Value.int .i64))[j]? = some u → y.cell? ((⟨rb, ro, none⟩ : Addr).add j) = some u) := fun y u j v hv => by
            have hj : j < f.runs.length := by have := (List.getElem?_eq_some_iff.1 hv).1; rwa [List.length_map] at this
            rw [add_plain, HRC.out y u j hj]
            rw [List.getElem?_map, List.getElem?_eq_getElem hj] at hv
            exact hv
          have hkl1 : (k : Int) < (f.runs.length : Int) := by omega
          have hk8 : (k : Int) ≤ 8 := by omega
          have hkd : decide ((k : Int) < 0) = false := decide_eq_false (by omega)
          clear hC nC bC hCs hrk
          go_wp2_with (rw [← HC.out])
          clear x0 x1 x2
          go_cut [] from 142 to 153 (fun wx => ∃ (g9 cap9 : Nat), Hid (wx.heap[w6.heap.size]? = some (.cells #[.slice oa f.old.length oc, .slice na f.new.length nc, .slice (some ⟨g9, 0, none⟩) (f.runs.length + 1) cap9] tFl (0, 0)) ∧ wx.ownsRow C.heap.size 3 1 (.slice (some ⟨g9, 0, none⟩) (f.runs.length + 1) cap9) (f.runs.length + 1) (f.runs.map (Value.int .i64) ++ [.int .i64 rk]) ∧ Nw wB wx))
          case first =>
            obtain ⟨wd, hwd⟩ : ∃ z, z = C.drew := ⟨_, rfl⟩
            have HWD : Hid (Nw C wd) := by rw [hwd]; exact (Upd.refl _ C).drew
            have HS0 := Lib.hid (HSS.out wd (HUC.out.trans HWD.out))
            refine wp_region_G (fun y => y.cell? ⟨w.heap.size, 2, none⟩ = some (.slice (some ⟨rb, ro, none⟩) f.runs.length rc) ∧ y.cell? ⟨rb, ro + k, none⟩ = some (.int .i64 rk) ∧ True) 12 (by kernel_rfl) ?_
            rw [← hwd]
            clear hwd
            refine wpAnyG_pure (i := 1) (v := ?_) rfl (by kernel_rfl) (by kernel_rfl) (by kernel_rfl) (by kernel_rfl) (by kernel_rfl) (fun _ _ _ h => h) (by kernel_rfl) ?_ (fun _ => HS0.out) ?_
            rotate_left 1
            · (intro zz; go_simp; first | done | with_reducible rfl)
            (try simp only [Act.put, List.setIfInBounds_toArray, List.set_cons_zero, List.set_cons_succ])
            refine wpAnyG_load (i := 2) (v := ?_) [] rfl (by kernel_rfl) (by kernel_rfl) (by kernel_rfl) (by kernel_rfl) (by kernel_rfl) (by kernel_rfl) (fun _ _ _ h => h) (by kernel_rfl) ?_ (fun _ => HS0.out) ?_
            rotate_left 1
            · (intro zz hS; obtain ⟨_, _, _⟩ := hS; go_simp; first | done | with_reducible rfl)
            (try simp only [Act.put, List.setIfInBounds_toArray, List.set_cons_zero, List.set_cons_succ])
            refine wpAnyG_pure (i := 4) (v := ?_) rfl (by kernel_rfl) (by kernel_rfl) (by kernel_rfl) (by kernel_rfl) (by kernel_rfl) (fun _ _ _ h => h) (by kernel_rfl) ?_ (fun _ => HS0.out) ?_
            rotate_left 1
            · (intro zz; go_simp; first | done | with_reducible rfl)
            (try simp only [Act.put, List.setIfInBounds_toArray, List.set_cons_zero, List.set_cons_succ])
            refine wpAnyG_load (i := 5) (v := ?_) [] rfl (by kernel_rfl) (by kernel_rfl) (by kernel_rfl) (by kernel_rfl) (by kernel_rfl) (by kernel_rfl) (fun _ _ _ h => h) (by kernel_rfl) ?_ (fun _ => HS0.out) ?_
            rotate_left 1
            · (intro zz hS; obtain ⟨_, _, _⟩ := hS; go_simp; first | done | with_reducible rfl)
            (try simp only [Act.put, List.setIfInBounds_toArray, List.set_cons_zero, List.set_cons_succ])
            refine wpAnyG_pure (i := 6) (v := ?_) rfl (by kernel_rfl) (by kernel_rfl) (by kernel_rfl) (by kernel_rfl) (by kernel_rfl) (fun _ _ _ h => h) (by kernel_rfl) ?_ (fun _ => HS0.out) ?_
            rotate_left 1
            · (intro zz; go_simp; first | done | with_reducible rfl)
            (try simp only [Act.put, List.setIfInBounds_toArray, List.set_cons_zero, List.set_cons_succ])
            refine wpAnyG_pure (i := 7) (v := ?_) rfl (by kernel_rfl) (by kernel_rfl) (by kernel_rfl) (by kernel_rfl) (by kernel_rfl) (fun _ _ _ h => h) (by kernel_rfl) ?_ (fun _ => HS0.out) ?_
            rotate_left 1
            · (intro zz; go_simp; first | done | with_reducible rfl)
            (try simp only [Act.put, List.setIfInBounds_toArray, List.set_cons_zero, List.set_cons_succ])
            refine wpAnyG_load (i := 8) (v := ?_) [] rfl (by kernel_rfl) (by kernel_rfl) (by kernel_rfl) (by kernel_rfl) (by kernel_rfl) (by kernel_rfl) (fun _ _ _ h => h) (by kernel_rfl) ?_ (fun _ => HS0.out) ?_
            rotate_left 1
            · (intro zz hS; obtain ⟨_, _, _⟩ := hS; go_simp; first | done | with_reducible rfl)
            (try simp only [Act.put, List.setIfInBounds_toArray, List.set_cons_zero, List.set_cons_succ])
            refine wpAnyG_ready [0, 9] (by kernel_rfl) (by simp) ?_
            refine AllG.cons rfl (fun K hK => ?_) (AllG.cons rfl (fun K hK => ?_) AllG.nil)
            · have n0 := nw_alloc wd (.cells #[] 3)
              go_simp
              refine hK.out _ _ (fun _ => HSS.out _ (HUC.out.trans (HWD.out.trans n0))) ?_
              clear hK K
              (try simp only [Act.put, List.setIfInBounds_toArray, List.set_cons_zero, List.set_cons_succ])
              have oe := owns_base (owns_empty wd 3 1) HWD.out.size
              refine wpAnyG_ready [3, 9] (by kernel_rfl) (by simp) ?_
              refine AllG.cons rfl (fun K hK => ?_) (AllG.cons rfl (fun K hK => ?_) AllG.nil)
              · -- op 3: the runs behind an empty row in block wd.heap.size of world wd.alloc (.cells #[] 3) (oe), which comes from wd by n0
                refine step_catC rfl _ _ 23 rfl 3 _ 1 8 Tryz.underlying23 infoIntW rfl (by decide) C.heap.size (Nat.le_trans HWD.out.size (n0).size) HGC.out (.slice (some ⟨wd.heap.size, 0, none⟩) 0 0) 0 [] rfl (oe) ⟨rb, ro, none⟩ f.runs.length rc (f.runs.map (Value.int .i64)) rfl (by rw [List.length_map, Nat.mul_one]) (fun j u hu => HRW.out _ (HUC.out.trans (HWD.out.trans (n0))) j u hu) (fun u hu => by obtain ⟨x, _, rfl⟩ := List.mem_map.1 hu; rfl) HL8.out.2 (by have := HL8.out; unfold maxLen; omega) (by have := HL8.out; omega) ?_
                intro g3 cap3 w3 o3 u3 hob3
                simp only [Nat.zero_add, List.nil_append] at o3 ⊢
                have n3 : Nw wd w3 := n0.trans' u3 (S := fun _ => False) (fun j (hj : j < wd.heap.size) e => by show False; have e2 := Option.some.inj (show some wd.heap.size = some j from e); omega)
                refine hK.out _ _ (fun _ => HSS.out _ (HUC.out.trans (HWD.out.trans n3))) ?_
                clear hK K
                (try simp only [Act.put, List.setIfInBounds_toArray, List.set_cons_zero, List.set_cons_succ])
                refine wpAnyG_ready [9] (by kernel_rfl) (by simp) ?_
                refine AllG.cons rfl (fun K hK => ?_) AllG.nil
                go_simp
                have n4 := n3.trans (nw_alloc w3 (.cells #[.int .i64 rk] 3))
                refine hK.out _ _ (fun _ => HSS.out _ (HUC.out.trans (HWD.out.trans n4))) ?_
                clear hK K
                (try simp only [Act.put, List.setIfInBounds_toArray, List.set_cons_zero, List.set_cons_succ])
                -- in world w3.alloc (.cells #[.int .i64 rk] 3): the row of runs owns_upd' o3 (nw_alloc w3 (.cells #[.int .i64 rk] 3)) (fun _ _ e => e) (its own, from C on), the last one in block w3.heap.size by heap_new w3 (.cells #[.int .i64 rk] 3), n4: w3.alloc (.cells #[.int .i64 rk] 3) comes from wd
                have HU10 := Lib.hid (n4)
                have HO10 := Lib.hid (owns_upd' o3 (nw_alloc w3 (.cells #[.int .i64 rk] 3)) (fun _ _ e => e))
                have HB10 := Lib.hid (heap_new w3 (.cells #[.int .i64 rk] 3))
                have hBz : C.heap.size ≤ (w3.alloc (.cells #[.int .i64 rk] 3)).heap.size := Nat.le_trans HWD.out.size HU10.out.size
                have hgC : nG ≤ C.heap.size := HGC.out
                refine wpAnyG_ready [10] (by kernel_rfl) (by simp) ?_
                refine AllG.cons rfl (fun K hK => ?_) AllG.nil
                refine step_catC rfl _ _ 23 rfl 3 _ 1 8 Tryz.underlying23 infoIntW rfl (by decide) C.heap.size hBz hgC _ _ _ rfl HO10.out ⟨w3.heap.size, 0, none⟩ 1 1 [.int .i64 rk] rfl rfl (World.news_of_block HB10.out) (fun u hu => by rw [List.mem_singleton.1 hu]; rfl) (by decide) (by unfold maxLen; omega) (by omega) ?_
                intro g9 cap9 w9 o9 u9 hob
                have hbl : ∀ j, (Value.slice (some ⟨g3, 0, none⟩) f.runs.length cap3).ownBlock = some j → C.heap.size ≤ j := fun j hj => (HO10.out.lt j hj).1
                have u90 : Upd (fun j => C.heap.size ≤ j) C w9 := ((Nw.upd _ (HWD.out.trans HU10.out))).trans (u9.mono (fun j _ e => hbl j e))
                have kP := u90.keep HCP.out (fun e => by have := HPC.out; omega)
                have c9 : w9.cell? ⟨w6.heap.size, 2, none⟩ = some (.slice (some ⟨rb, ro, none⟩) f.runs.length rc) := by rw [cells_cell kP]; rfl
                have f9 : w9.frozen? ⟨w6.heap.size, 2, none⟩ = false := cells_frozen kP 2
                have n9 : Nw W w9 := ((HUC.out.trans (HWD.out.trans HU10.out))).trans' u9 (S := fun _ => False) (fun j (hj : j < W.heap.size) e => by show False; have := hbl j e; have := HUC.out.size; omega)
                have HS9 := Lib.hid (HSS.out w9 n9)
                have us : Upd (fun j => j = w6.heap.size) w9 (w9.setCell ⟨w6.heap.size, 2, none⟩ (.slice (some ⟨g9, 0, none⟩) (f.runs.length + 1) cap9)) := (Upd.refl _ w9).set1 (by have := HPC.out; have := HGP.out; omega) 2 _
                have HP9 : Hid ((w9.setCell ⟨w6.heap.size, 2, none⟩ (.slice (some ⟨g9, 0, none⟩) (f.runs.length + 1) cap9)).heap[w6.heap.size]? = some (.cells #[.slice oa f.old.length oc, .slice na f.new.length nc, .slice (some ⟨g9, 0, none⟩) (f.runs.length + 1) cap9] tFl (0, 0))) := by
                  have := setCell_block kP 2 (.slice (some ⟨g9, 0, none⟩) (f.runs.length + 1) cap9)
                  show _ = _
                  simpa using this
                have HO9 := Lib.hid (owns_upd' o9 us (fun j hj e => by have := (own_block o9 hj).1; have := HPC.out; omega))
                have HN9 : Hid (Nw wB (w9.setCell ⟨w6.heap.size, 2, none⟩ (.slice (some ⟨g9, 0, none⟩) (f.runs.length + 1) cap9))) := ((HUC2.out.trans (HWD.out.trans HU10.out)).trans' u9 (S := fun _ => False) (fun j (hj : j < wB.heap.size) e => by show False; have := hbl j e; have := HUC2.out.size; omega)).trans' us (S := fun _ => False) (fun j (hj : j < wB.heap.size) (e : j = w6.heap.size) => by show False; have := U6.out.size; omega)
                refine hK.out _ _ (fun _ => HS9.out) ?_
                clear hK K
                (try simp only [Act.put, List.setIfInBounds_toArray, List.set_cons_zero, List.set_cons_succ])
                clear u9 o9 u90 hob us n9
                refine wpAnyG_pure (i := 11) (v := ?_) rfl (by kernel_rfl) (by kernel_rfl) (by kernel_rfl) (by kernel_rfl) (by kernel_rfl) (fun _ _ _ h => h) (by kernel_rfl) ?_ (fun _ => HS9.out) ?_
                rotate_left 1
                · (intro zz; go_simp; first | done | with_reducible rfl)
                (try simp only [Act.put, List.setIfInBounds_toArray, List.set_cons_zero, List.set_cons_succ])
                refine wpAnyG_ready [12] (by kernel_rfl) (by simp) ?_
                refine AllG.cons rfl (fun K hK => ?_) AllG.nil
                go_simp
                refine hK.out _ _ (fun e => absurd (show true = false from e) (by decide)) ?_
                clear hK K
                (try simp only [Act.put, List.setIfInBounds_toArray, List.set_cons_zero, List.set_cons_succ])
                refine wpAnyG_done (by kernel_rfl) ?_ _
                go_wp2_with fail
                go_meet
                exact ⟨g9, cap9, HP9.out, HO9.out, HN9.out⟩
              · go_simp
                have n4 := n0.trans (nw_alloc (wd.alloc (.cells #[] 3)) (.cells #[.int .i64 rk] 3))
                have e4 := heap_new (wd.alloc (.cells #[] 3)) (.cells #[.int .i64 rk] 3)
                rw [World.size_alloc] at e4
                refine hK.out _ _ (fun _ => HSS.out _ (HUC.out.trans (HWD.out.trans n4))) ?_
                clear hK K
                (try simp only [Act.put, List.setIfInBounds_toArray, List.set_cons_zero, List.set_cons_succ])
                have oe4 := owns_upd' oe (nw_alloc (wd.alloc (.cells #[] 3)) (.cells #[.int .i64 rk] 3)) (fun _ _ e => e)
                refine wpAnyG_ready [3] (by kernel_rfl) (by simp) ?_
                refine AllG.cons rfl (fun K hK => ?_) AllG.nil
                -- op 3: the runs behind an empty row in block wd.heap.size of world (wd.alloc (.cells #[] 3)).alloc (.cells #[.int .i64 rk] 3) (oe4), which comes from wd by n4
                refine step_catC rfl _ _ 23 rfl 3 _ 1 8 Tryz.underlying23 infoIntW rfl (by decide) C.heap.size (Nat.le_trans HWD.out.size (n4).size) HGC.out (.slice (some ⟨wd.heap.size, 0, none⟩) 0 0) 0 [] rfl (oe4) ⟨rb, ro, none⟩ f.runs.length rc (f.runs.map (Value.int .i64)) rfl (by rw [List.length_map, Nat.mul_one]) (fun j u hu => HRW.out _ (HUC.out.trans (HWD.out.trans (n4))) j u hu) (fun u hu => by obtain ⟨x, _, rfl⟩ := List.mem_map.1 hu; rfl) HL8.out.2 (by have := HL8.out; unfold maxLen; omega) (by have := HL8.out; omega) ?_
                intro g3 cap3 w3 o3 u3 hob3
                simp only [Nat.zero_add, List.nil_append] at o3 ⊢
                have n3 : Nw wd w3 := n4.trans' u3 (S := fun _ => False) (fun j (hj : j < wd.heap.size) e => by show False; have e2 := Option.some.inj (show some wd.heap.size = some j from e); omega)
                have e5 := u3.keep e4 (fun e => by have e2 := Option.some.inj (show some wd.heap.size = some (wd.heap.size + 1) from e); omega)
                refine hK.out _ _ (fun _ => HSS.out _ (HUC.out.trans (HWD.out.trans n3))) ?_
                clear hK K
                (try simp only [Act.put, List.setIfInBounds_toArray, List.set_cons_zero, List.set_cons_succ])
                -- in world w3: the row of runs o3 (its own, from C on), the last one in block wd.heap.size + 1 by e5, n3: w3 comes from wd
                have HU10 := Lib.hid (n3)
                have HO10 := Lib.hid (o3)
                have HB10 := Lib.hid (e5)
                have hBz : C.heap.size ≤ (w3).heap.size := Nat.le_trans HWD.out.size HU10.out.size
                have hgC : nG ≤ C.heap.size := HGC.out
                refine wpAnyG_ready [10] (by kernel_rfl) (by simp) ?_
                refine AllG.cons rfl (fun K hK => ?_) AllG.nil
                refine step_catC rfl _ _ 23 rfl 3 _ 1 8 Tryz.underlying23 infoIntW rfl (by decide) C.heap.size hBz hgC _ _ _ rfl HO10.out ⟨wd.heap.size + 1, 0, none⟩ 1 1 [.int .i64 rk] rfl rfl (World.news_of_block HB10.out) (fun u hu => by rw [List.mem_singleton.1 hu]; rfl) (by decide) (by unfold maxLen; omega) (by omega) ?_
                intro g9 cap9 w9 o9 u9 hob
                have hbl : ∀ j, (Value.slice (some ⟨g3, 0, none⟩) f.runs.length cap3).ownBlock = some j → C.heap.size ≤ j := fun j hj => (HO10.out.lt j hj).1
                have u90 : Upd (fun j => C.heap.size ≤ j) C w9 := ((Nw.upd _ (HWD.out.trans HU10.out))).trans (u9.mono (fun j _ e => hbl j e))
                have kP := u90.keep HCP.out (fun e => by have := HPC.out; omega)
                have c9 : w9.cell? ⟨w6.heap.size, 2, none⟩ = some (.slice (some ⟨rb, ro, none⟩) f.runs.length rc) := by rw [cells_cell kP]; rfl
                have f9 : w9.frozen? ⟨w6.heap.size, 2, none⟩ = false := cells_frozen kP 2
                have n9 : Nw W w9 := ((HUC.out.trans (HWD.out.trans HU10.out))).trans' u9 (S := fun _ => False) (fun j (hj : j < W.heap.size) e => by show False; have := hbl j e; have := HUC.out.size; omega)
                have HS9 := Lib.hid (HSS.out w9 n9)
                have us : Upd (fun j => j = w6.heap.size) w9 (w9.setCell ⟨w6.heap.size, 2, none⟩ (.slice (some ⟨g9, 0, none⟩) (f.runs.length + 1) cap9)) := (Upd.refl _ w9).set1 (by have := HPC.out; have := HGP.out; omega) 2 _
                have HP9 : Hid ((w9.setCell ⟨w6.heap.size, 2, none⟩ (.slice (some ⟨g9, 0, none⟩) (f.runs.length + 1) cap9)).heap[w6.heap.size]? = some (.cells #[.slice oa f.old.length oc, .slice na f.new.length nc, .slice (some ⟨g9, 0, none⟩) (f.runs.length + 1) cap9] tFl (0, 0))) := by
                  have := setCell_block kP 2 (.slice (some ⟨g9, 0, none⟩) (f.runs.length + 1) cap9)
                  show _ = _
                  simpa using this
                have HO9 := Lib.hid (owns_upd' o9 us (fun j hj e => by have := (own_block o9 hj).1; have := HPC.out; omega))
                have HN9 : Hid (Nw wB (w9.setCell ⟨w6.heap.size, 2, none⟩ (.slice (some ⟨g9, 0, none⟩) (f.runs.length + 1) cap9))) := ((HUC2.out.trans (HWD.out.trans HU10.out)).trans' u9 (S := fun _ => False) (fun j (hj : j < wB.heap.size) e => by show False; have := hbl j e; have := HUC2.out.size; omega)).trans' us (S := fun _ => False) (fun j (hj : j < wB.heap.size) (e : j = w6.heap.size) => by show False; have := U6.out.size; omega)
                refine hK.out _ _ (fun _ => HS9.out) ?_
                clear hK K
                (try simp only [Act.put, List.setIfInBounds_toArray, List.set_cons_zero, List.set_cons_succ])
                clear u9 o9 u90 hob us n9
                refine wpAnyG_pure (i := 11) (v := ?_) rfl (by kernel_rfl) (by kernel_rfl) (by kernel_rfl) (by kernel_rfl) (by kernel_rfl) (fun _ _ _ h => h) (by kernel_rfl) ?_ (fun _ => HS9.out) ?_
                rotate_left 1
                · (intro zz; go_simp; first | done | with_reducible rfl)
                (try simp only [Act.put, List.setIfInBounds_toArray, List.set_cons_zero, List.set_cons_succ])
                refine wpAnyG_ready [12] (by kernel_rfl) (by simp) ?_
                refine AllG.cons rfl (fun K hK => ?_) AllG.nil
                go_simp
                refine hK.out _ _ (fun e => absurd (show true = false from e) (by decide)) ?_
                clear hK K
                (try simp only [Act.put, List.setIfInBounds_toArray, List.set_cons_zero, List.set_cons_succ])
                refine wpAnyG_done (by kernel_rfl) ?_ _
                go_wp2_with fail
                go_meet
                exact ⟨g9, cap9, HP9.out, HO9.out, HN9.out⟩
            · have n0 := nw_alloc wd (.cells #[.int .i64 rk] 3)
              have e0 := heap_new wd (.cells #[.int .i64 rk] 3)
              go_simp
              refine hK.out _ _ (fun _ => HSS.out _ (HUC.out.trans (HWD.out.trans n0))) ?_
              clear hK K
              (try simp only [Act.put, List.setIfInBounds_toArray, List.set_cons_zero, List.set_cons_succ])
              refine wpAnyG_ready [0] (by kernel_rfl) (by simp) ?_
              refine AllG.cons rfl (fun K hK => ?_) AllG.nil
              go_simp
              have n4 := n0.trans (nw_alloc (wd.alloc (.cells #[.int .i64 rk] 3)) (.cells #[] 3))
              have e4 := Nw.keep (nw_alloc (wd.alloc (.cells #[.int .i64 rk] 3)) (.cells #[] 3)) e0
              have oe4 := owns_base (owns_empty (wd.alloc (.cells #[.int .i64 rk] 3)) 3 1) (Nat.le_trans HWD.out.size n0.size)
              rw [World.size_alloc] at oe4
              refine hK.out _ _ (fun _ => HSS.out _ (HUC.out.trans (HWD.out.trans n4))) ?_
              clear hK K
              (try simp only [Act.put, List.setIfInBounds_toArray, List.set_cons_zero, List.set_cons_succ])
              refine wpAnyG_ready [3] (by kernel_rfl) (by simp) ?_
              refine AllG.cons rfl (fun K hK => ?_) AllG.nil
              -- op 3: the runs behind an empty row in block wd.heap.size + 1 of world (wd.alloc (.cells #[.int .i64 rk] 3)).alloc (.cells #[] 3) (oe4), which comes from wd by n4
              refine step_catC rfl _ _ 23 rfl 3 _ 1 8 Tryz.underlying23 infoIntW rfl (by decide) C.heap.size (Nat.le_trans HWD.out.size (n4).size) HGC.out (.slice (some ⟨wd.heap.size + 1, 0, none⟩) 0 0) 0 [] rfl (oe4) ⟨rb, ro, none⟩ f.runs.length rc (f.runs.map (Value.int .i64)) rfl (by rw [List.length_map, Nat.mul_one]) (fun j u hu => HRW.out _ (HUC.out.trans (HWD.out.trans (n4))) j u hu) (fun u hu => by obtain ⟨x, _, rfl⟩ := List.mem_map.1 hu; rfl) HL8.out.2 (by have := HL8.out; unfold maxLen; omega) (by have := HL8.out; omega) ?_
              intro g3 cap3 w3 o3 u3 hob3
              simp only [Nat.zero_add, List.nil_append] at o3 ⊢
              have n3 : Nw wd w3 := n4.trans' u3 (S := fun _ => False) (fun j (hj : j < wd.heap.size) e => by show False; have e2 := Option.some.inj (show some (wd.heap.size + 1) = some j from e); omega)
              have e5 := u3.keep e4 (fun e => by have e2 := Option.some.inj (show some (wd.heap.size + 1) = some wd.heap.size from e); omega)
              refine hK.out _ _ (fun _ => HSS.out _ (HUC.out.trans (HWD.out.trans n3))) ?_
              clear hK K
              (try simp only [Act.put, List.setIfInBounds_toArray, List.set_cons_zero, List.set_cons_succ])
              -- in world w3: the row of runs o3 (its own, from C on), the last one in block wd.heap.size by e5, n3: w3 comes from wd
              have HU10 := Lib.hid (n3)
              have HO10 := Lib.hid (o3)
              have HB10 := Lib.hid (e5)
              have hBz : C.heap.size ≤ (w3).heap.size := Nat.le_trans HWD.out.size HU10.out.size
              have hgC : nG ≤ C.heap.size := HGC.out
              refine wpAnyG_ready [10] (by kernel_rfl) (by simp) ?_
              refine AllG.cons rfl (fun K hK => ?_) AllG.nil
              refine step_catC rfl _ _ 23 rfl 3 _ 1 8 Tryz.underlying23 infoIntW rfl (by decide) C.heap.size hBz hgC _ _ _ rfl HO10.out ⟨wd.heap.size, 0, none⟩ 1 1 [.int .i64 rk] rfl rfl (World.news_of_block HB10.out) (fun u hu => by rw [List.mem_singleton.1 hu]; rfl) (by decide) (by unfold maxLen; omega) (by omega) ?_
              intro g9 cap9 w9 o9 u9 hob
              have hbl : ∀ j, (Value.slice (some ⟨g3, 0, none⟩) f.runs.length cap3).ownBlock = some j → C.heap.size ≤ j := fun j hj => (HO10.out.lt j hj).1
              have u90 : Upd (fun j => C.heap.size ≤ j) C w9 := ((Nw.upd _ (HWD.out.trans HU10.out))).trans (u9.mono (fun j _ e => hbl j e))
              have kP := u90.keep HCP.out (fun e => by have := HPC.out; omega)
              have c9 : w9.cell? ⟨w6.heap.size, 2, none⟩ = some (.slice (some ⟨rb, ro, none⟩) f.runs.length rc) := by rw [cells_cell kP]; rfl
              have f9 : w9.frozen? ⟨w6.heap.size, 2, none⟩ = false := cells_frozen kP 2
              have n9 : Nw W w9 := ((HUC.out.trans (HWD.out.trans HU10.out))).trans' u9 (S := fun _ => False) (fun j (hj : j < W.heap.size) e => by show False; have := hbl j e; have := HUC.out.size; omega)
              have HS9 := Lib.hid (HSS.out w9 n9)
              have us : Upd (fun j => j = w6.heap.size) w9 (w9.setCell ⟨w6.heap.size, 2, none⟩ (.slice (some ⟨g9, 0, none⟩) (f.runs.length + 1) cap9)) := (Upd.refl _ w9).set1 (by have := HPC.out; have := HGP.out; omega) 2 _
              have HP9 : Hid ((w9.setCell ⟨w6.heap.size, 2, none⟩ (.slice (some ⟨g9, 0, none⟩) (f.runs.length + 1) cap9)).heap[w6.heap.size]? = some (.cells #[.slice oa f.old.length oc, .slice na f.new.length nc, .slice (some ⟨g9, 0, none⟩) (f.runs.length + 1) cap9] tFl (0, 0))) := by
                have := setCell_block kP 2 (.slice (some ⟨g9, 0, none⟩) (f.runs.length + 1) cap9)
                show _ = _
                simpa using this
              have HO9 := Lib.hid (owns_upd' o9 us (fun j hj e => by have := (own_block o9 hj).1; have := HPC.out; omega))
              have HN9 : Hid (Nw wB (w9.setCell ⟨w6.heap.size, 2, none⟩ (.slice (some ⟨g9, 0, none⟩) (f.runs.length + 1) cap9))) := ((HUC2.out.trans (HWD.out.trans HU10.out)).trans' u9 (S := fun _ => False) (fun j (hj : j < wB.heap.size) e => by show False; have := hbl j e; have := HUC2.out.size; omega)).trans' us (S := fun _ => False) (fun j (hj : j < wB.heap.size) (e : j = w6.heap.size) => by show False; have := U6.out.size; omega)
              refine hK.out _ _ (fun _ => HS9.out) ?_
              clear hK K
              (try simp only [Act.put, List.setIfInBounds_toArray, List.set_cons_zero, List.set_cons_succ])
              clear u9 o9 u90 hob us n9
              refine wpAnyG_pure (i := 11) (v := ?_) rfl (by kernel_rfl) (by kernel_rfl) (by kernel_rfl) (by kernel_rfl) (by kernel_rfl) (fun _ _ _ h => h) (by kernel_rfl) ?_ (fun _ => HS9.out) ?_
              rotate_left 1
              · (intro zz; go_simp; first | done | with_reducible rfl)
              (try simp only [Act.put, List.setIfInBounds_toArray, List.set_cons_zero, List.set_cons_succ])
              refine wpAnyG_ready [12] (by kernel_rfl) (by simp) ?_
              refine AllG.cons rfl (fun K hK => ?_) AllG.nil
              go_simp
              refine hK.out _ _ (fun e => absurd (show true = false from e) (by decide)) ?_
              clear hK K
              (try simp only [Act.put, List.setIfInBounds_toArray, List.set_cons_zero, List.set_cons_succ])
              refine wpAnyG_done (by kernel_rfl) ?_ _
              go_wp2_with fail
              go_meet
              exact ⟨g9, cap9, HP9.out, HO9.out, HN9.out⟩
          case rest =>
            obtain ⟨g9, cap9, HCUT⟩ := hcut
            have HUB3 := Lib.hid (UB.out.trans HCUT.out.2.2)
            have HUA3 := Lib.hid (HV.out.trans HCUT.out.2.2)
            have HGD : Hid (nG ≤ wc.heap.size) := Nat.le_trans HWA.out HUA3.out.size
            have HN8 : Hid (now.length ≤ 8 ∧ 0 < now.length) := by rw [HNL.out]; exact HL8.out
            have hknl : Hid (k < now.length) := by show _ < _; rw [HNL.out]; exact hkl
            have hvk : Hid (Wv.ver now k = now[k]'hknl.out) := Wv.gD hknl.out
            have HSD : Hid (∀ y, Nw wc y → y.cell? ⟨w6.heap.size, 0, none⟩ = some (.slice oa f.old.length oc) ∧ y.cell? ⟨w6.heap.size, 1, none⟩ = some (.slice na f.new.length nc) ∧ y.cell? ⟨w6.heap.size, 2, none⟩ = some (.slice (some ⟨g9, 0, none⟩) (f.runs.length + 1) cap9) ∧ y.cell? ⟨nb, no + k, none⟩ = some (.bool (Wv.ver now k))) := fun y u => by
              have hk9 := Nw.keep u HCUT.out.1
              exact ⟨by rw [cells_cell hk9]; rfl, by rw [cells_cell hk9]; rfl, by rw [cells_cell hk9]; rfl, by rw [hvk.out]; exact HNC.out y (HUA3.out.trans u) k hknl.out⟩
            have HNW : Hid (∀ y, Nw wc y → ∀ j u, (now.map Value.bool)[j]? = some u → y.cell? ((⟨nb, no, none⟩ : Addr).add j) = some u) := fun y u j v hv => by
              have hj : j < now.length := by have := (List.getElem?_eq_some_iff.1 hv).1; rwa [List.length_map] at this
              rw [add_plain, HNC.out y (HUA3.out.trans u) j hj]
              rw [List.getElem?_map, List.getElem?_eq_getElem hj] at hv
              exact hv
            have HM3 : Hid (∀ y g5 cap5, Nw wc y → y.ownsRow wc.heap.size 4 1 (.slice (some ⟨g5, 0, none⟩) (now.length + 1) cap5) (now.length + 1) (now.map Value.bool ++ [.bool (Wv.ver now k)]) → Calls Tryz.prog 10 #[.agg #[.slice oa f.old.length oc, .slice na f.new.length nc, .slice (some ⟨g9, 0, none⟩) (f.runs.length + 1) cap9], .slice (some ⟨g5, 0, none⟩) (now.length + 1) cap5] y fun e w' => e = .returned (.tuple #[.int .i64 m1, .int .i64 m2, .bool m3]) ∧ Nw y w') := fun y g5 cap5 u ho => by
              have hml : (Wv.moreF f k).runs.length = f.runs.length + 1 := by unfold Wv.moreF; simp
              have hdl : (now ++ [Wv.ver now k]).length = now.length + 1 := by simp
              have hrunsC : IC y (some ⟨g9, 0, none⟩) (Wv.moreF f k).runs := by
                have h1 := owns_upd' HCUT.out.2.1 u (fun _ _ e => e)
                refine ic_of_own (B := C.heap.size) (c := cap9) ?_
                rw [hml]
                unfold Wv.moreF
                rw [List.map_append, Wv.gD hkl, ← HRK.out]
                exact h1
              have hbc : BC y (some ⟨g5, 0, none⟩) (now ++ [Wv.ver now k]) := by
                refine bc_of_own (B := wc.heap.size) (c := cap5) ?_
                rw [hdl, List.map_append]
                exact ho
              have hfl : FlAt y oa na (some ⟨g9, 0, none⟩) oc nc (Wv.moreF f k) := by
                have h0 := HF.out y (HUB3.out.trans u)
                exact ⟨h0.old, h0.new, hrunsC, h0.lo, h0.ln, by rw [hml]; have := HL8.out; unfold maxLen; omega, h0.co, h0.cn⟩
              have hsm : Sm (Wv.moreF f k) := ⟨HSM.out.o, HSM.out.n, by rw [hml]; have := HL8.out; omega, HSM.out.so, HSM.out.sn⟩
              have := Mixed_c oa na (some ⟨g9, 0, none⟩) (some ⟨g5, 0, none⟩) oc nc cap9 cap5 (Wv.moreF f k) (now ++ [Wv.ver now k]) y (HG.out y (HUB3.out.trans u)) hfl hsm hbc trivial
              unfold flV at this
              rw [HAL2.out, hdl, hml] at this
              exact this
            have hm4 : Hid (∀ y, Nw wc y → Calls Tryz.prog 10 #[.agg #[.slice oa f.old.length oc, .slice na f.new.length nc, .slice (some ⟨rb, ro, none⟩) f.runs.length rc], .slice da done.length dc] y fun e w' => e = .returned (.tuple #[.int .i64 m1, .int .i64 m2, .bool m3]) ∧ Nw y w') := fun y u => HM4.out y (HUB3.out.trans u)
            have hknl1 : (k : Int) < (now.length : Int) := by have := hknl.out; omega
            go_upto_region 29 with fail
            go_cut [24, 25, 26] from 154 to 168 (fun a24 a25 a26 wx => a24 = .int .i64 m1 ∧ a25 = .int .i64 m2 ∧ a26 = .bool m3 ∧ Nw W wx)
            case first =>
              obtain ⟨wd, hwd⟩ : ∃ z, z = wc.drew := ⟨_, rfl⟩
              have HWD : Hid (Nw wc wd) := by rw [hwd]; exact (Upd.refl _ wc).drew
              have HS0 := Lib.hid (HSD.out wd HWD.out)
              refine wp_region_G (fun y => y.cell? ⟨w6.heap.size, 0, none⟩ = some (.slice oa f.old.length oc) ∧ y.cell? ⟨w6.heap.size, 1, none⟩ = some (.slice na f.new.length nc) ∧ y.cell? ⟨w6.heap.size, 2, none⟩ = some (.slice (some ⟨g9, 0, none⟩) (f.runs.length + 1) cap9) ∧ y.cell? ⟨nb, no + k, none⟩ = some (.bool (Wv.ver now k))) 15 (by kernel_rfl) ?_
              rw [← hwd]
              clear hwd
              refine wpAnyG_load (i := 0) (v := ?_) [] rfl (by kernel_rfl) (by kernel_rfl) (by kernel_rfl) (by kernel_rfl) (by kernel_rfl) (by kernel_rfl) (fun _ _ _ h => h) (by kernel_rfl) ?_ (fun _ => HS0.out) ?_
              rotate_left 1
              · (intro zz hS; obtain ⟨_, _, _, _⟩ := hS; go_simp; first | done | with_reducible rfl)
              (try simp only [Act.put, List.setIfInBounds_toArray, List.set_cons_zero, List.set_cons_succ])
              refine wpAnyG_pure (i := 2) (v := ?_) rfl (by kernel_rfl) (by kernel_rfl) (by kernel_rfl) (by kernel_rfl) (by kernel_rfl) (fun _ _ _ h => h) (by kernel_rfl) ?_ (fun _ => HS0.out) ?_
              rotate_left 1
              · (intro zz; go_simp; first | done | with_reducible rfl)
              (try simp only [Act.put, List.setIfInBounds_toArray, List.set_cons_zero, List.set_cons_succ])
              refine wpAnyG_pure (i := 4) (v := ?_) rfl (by kernel_rfl) (by kernel_rfl) (by kernel_rfl) (by kernel_rfl) (by kernel_rfl) (fun _ _ _ h => h) (by kernel_rfl) ?_ (fun _ => HS0.out) ?_
              rotate_left 1
              · (intro zz; go_simp; first | done | with_reducible rfl)
              (try simp only [Act.put, List.setIfInBounds_toArray, List.set_cons_zero, List.set_cons_succ])
              refine wpAnyG_pure (i := 5) (v := ?_) rfl (by kernel_rfl) (by kernel_rfl) (by kernel_rfl) (by kernel_rfl) (by kernel_rfl) (fun _ _ _ h => h) (by kernel_rfl) ?_ (fun _ => HS0.out) ?_
              rotate_left 1
              · (intro zz; go_simp; first | done | with_reducible rfl)
              (try simp only [Act.put, List.setIfInBounds_toArray, List.set_cons_zero, List.set_cons_succ])
              refine wpAnyG_pure (i := 6) (v := ?_) rfl (by kernel_rfl) (by kernel_rfl) (by kernel_rfl) (by kernel_rfl) (by kernel_rfl) (fun _ _ _ h => h) (by kernel_rfl) ?_ (fun _ => HS0.out) ?_
              rotate_left 1
              · (intro zz; go_simp; first | done | with_reducible rfl)
              (try simp only [Act.put, List.setIfInBounds_toArray, List.set_cons_zero, List.set_cons_succ])
              refine wpAnyG_load (i := 7) (v := ?_) [] rfl (by kernel_rfl) (by kernel_rfl) (by kernel_rfl) (by kernel_rfl) (by kernel_rfl) (by kernel_rfl) (fun _ _ _ h => h) (by kernel_rfl) ?_ (fun _ => HS0.out) ?_
              rotate_left 1
              · (intro zz hS; obtain ⟨_, _, _, _⟩ := hS; go_simp; first | done | with_reducible rfl)
              (try simp only [Act.put, List.setIfInBounds_toArray, List.set_cons_zero, List.set_cons_succ])
              refine wpAnyG_ready [1, 8] (by kernel_rfl) (by simp) ?_
              refine AllG.cons rfl (fun K hK => ?_) (AllG.cons rfl (fun K hK => ?_) AllG.nil)
              · have n0 := nw_alloc wd (.cells #[] 4)
                go_simp
                refine hK.out _ _ (fun _ => HSD.out _ (HWD.out.trans n0)) ?_
                clear hK K
                (try simp only [Act.put, List.setIfInBounds_toArray, List.set_cons_zero, List.set_cons_succ])
                have oe := owns_base (owns_empty wd 4 1) HWD.out.size
                refine wpAnyG_ready [3, 8] (by kernel_rfl) (by simp) ?_
                refine AllG.cons rfl (fun K hK => ?_) (AllG.cons rfl (fun K hK => ?_) AllG.nil)
                · -- op 3: the state behind an empty row in block wd.heap.size of world wd.alloc (.cells #[] 4) (oe), which comes from wd by n0
                  refine step_catC rfl _ _ 26 rfl 4 _ 1 1 Tryz.underlying26 infoBoolW rfl (by decide) wc.heap.size (Nat.le_trans HWD.out.size (n0).size) HGD.out (.slice (some ⟨wd.heap.size, 0, none⟩) 0 0) 0 [] rfl (oe) ⟨nb, no, none⟩ now.length mc (now.map Value.bool) rfl (by rw [List.length_map, Nat.mul_one]) (fun j u hu => HNW.out _ (HWD.out.trans (n0)) j u hu) (fun u hu => by obtain ⟨x, _, rfl⟩ := List.mem_map.1 hu; rfl) HN8.out.2 (by have := HN8.out; unfold maxLen; omega) (by have := HN8.out; omega) ?_
                  intro g3 cap3 w3 o3 u3 hob3
                  simp only [Nat.zero_add, List.nil_append] at o3 ⊢
                  have n3 : Nw wd w3 := n0.trans' u3 (S := fun _ => False) (fun j (hj : j < wd.heap.size) e => by show False; have e2 := Option.some.inj (show some wd.heap.size = some j from e); omega)
                  refine hK.out _ _ (fun _ => HSD.out _ (HWD.out.trans n3)) ?_
                  clear hK K
                  (try simp only [Act.put, List.setIfInBounds_toArray, List.set_cons_zero, List.set_cons_succ])
                  refine wpAnyG_ready [8] (by kernel_rfl) (by simp) ?_
                  refine AllG.cons rfl (fun K hK => ?_) AllG.nil
                  go_simp
                  have n4 := n3.trans (nw_alloc w3 (.cells #[.bool (Wv.ver now k)] 4))
                  refine hK.out _ _ (fun _ => HSD.out _ (HWD.out.trans n4)) ?_
                  clear hK K
                  (try simp only [Act.put, List.setIfInBounds_toArray, List.set_cons_zero, List.set_cons_succ])
                  -- in world w3.alloc (.cells #[.bool (Wv.ver now k)] 4): the row of the state owns_upd' o3 (nw_alloc w3 (.cells #[.bool (Wv.ver now k)] 4)) (fun _ _ e => e) (its own, from wc on), the last one in block w3.heap.size by heap_new w3 (.cells #[.bool (Wv.ver now k)] 4), n4: w3.alloc (.cells #[.bool (Wv.ver now k)] 4) comes from wd
                  have HU10 := Lib.hid (n4)
                  have HO10 := Lib.hid (owns_upd' o3 (nw_alloc w3 (.cells #[.bool (Wv.ver now k)] 4)) (fun _ _ e => e))
                  have HB10 := Lib.hid (heap_new w3 (.cells #[.bool (Wv.ver now k)] 4))
                  have hBz : wc.heap.size ≤ (w3.alloc (.cells #[.bool (Wv.ver now k)] 4)).heap.size := Nat.le_trans HWD.out.size HU10.out.size
                  have hgC : nG ≤ wc.heap.size := HGD.out
                  have hn8' := HN8.out
                  refine wpAnyG_ready [9] (by kernel_rfl) (by simp) ?_
                  refine AllG.cons rfl (fun K hK => ?_) AllG.nil
                  refine step_catC rfl _ _ 26 rfl 4 _ 1 1 Tryz.underlying26 infoBoolW rfl (by decide) wc.heap.size hBz hgC (.slice (some ⟨g3, 0, none⟩) now.length cap3) _ _ rfl HO10.out ⟨w3.heap.size, 0, none⟩ 1 1 [.bool (Wv.ver now k)] rfl rfl (World.news_of_block HB10.out) (fun u hu => by rw [List.mem_singleton.1 hu]; rfl) (by decide) (by unfold maxLen; omega) (by omega) ?_
                  intro g5 cap5 w9 o9 u9 hob
                  have n9 : Nw wc w9 := (HWD.out.trans HU10.out).trans' u9 (S := fun _ => False) (fun j (hj : j < wc.heap.size) e => by show False; have := (HO10.out.lt j e).1; omega)
                  have HN9 := Lib.hid n9
                  have HS9 := Lib.hid (HSD.out w9 n9)
                  have HC9 := Lib.hid (HM3.out w9 g5 cap5 n9 o9)
                  clear hn8' u9 o9 hob n9 hBz hgC
                  refine hK.out _ _ (fun _ => HS9.out) ?_
                  clear hK K
                  (try simp only [Act.put, List.setIfInBounds_toArray, List.set_cons_zero, List.set_cons_succ])
                  refine wpAnyG_ready [10] (by kernel_rfl) (by simp) ?_
                  refine AllG.cons rfl (fun K hK => ?_) AllG.nil
                  go_simp
                  (with_reducible refine (HC9.out).mono ?_)
                  rintro _ w10 ⟨rfl, u10⟩
                  have HN10 := Lib.hid (HN9.out.trans u10)
                  have HS10 := Lib.hid (HSD.out w10 HN10.out)
                  clear u10
                  refine hK.out _ _ (fun _ => HS10.out) ?_
                  clear hK K
                  (try simp only [Act.put, List.setIfInBounds_toArray, List.set_cons_zero, List.set_cons_succ])
                  refine wpAnyG_pure (i := 11) (v := ?_) rfl (by kernel_rfl) (by kernel_rfl) (by kernel_rfl) (by kernel_rfl) (by kernel_rfl) (fun _ _ _ h => h) (by kernel_rfl) ?_ (fun _ => HS10.out) ?_
                  rotate_left 1
                  · (intro zz; go_simp; first | done | with_reducible rfl)
                  (try simp only [Act.put, List.setIfInBounds_toArray, List.set_cons_zero, List.set_cons_succ])
                  refine wpAnyG_pure (i := 12) (v := ?_) rfl (by kernel_rfl) (by kernel_rfl) (by kernel_rfl) (by kernel_rfl) (by kernel_rfl) (fun _ _ _ h => h) (by kernel_rfl) ?_ (fun _ => HS10.out) ?_
                  rotate_left 1
                  · (intro zz; go_simp; first | done | with_reducible rfl)
                  (try simp only [Act.put, List.setIfInBounds_toArray, List.set_cons_zero, List.set_cons_succ])
                  refine wpAnyG_pure (i := 13) (v := ?_) rfl (by kernel_rfl) (by kernel_rfl) (by kernel_rfl) (by kernel_rfl) (by kernel_rfl) (fun _ _ _ h => h) (by kernel_rfl) ?_ (fun _ => HS10.out) ?_
                  rotate_left 1
                  · (intro zz; go_simp; first | done | with_reducible rfl)
                  (try simp only [Act.put, List.setIfInBounds_toArray, List.set_cons_zero, List.set_cons_succ])
                  refine wpAnyG_pure (i := 14) (v := ?_) rfl (by kernel_rfl) (by kernel_rfl) (by kernel_rfl) (by kernel_rfl) (by kernel_rfl) (fun _ _ _ h => h) (by kernel_rfl) ?_ (fun _ => HS10.out) ?_
                  rotate_left 1
                  · (intro zz; go_simp; first | done | with_reducible rfl)
                  (try simp only [Act.put, List.setIfInBounds_toArray, List.set_cons_zero, List.set_cons_succ])
                  refine wpAnyG_ready [15] (by kernel_rfl) (by simp) ?_
                  refine AllG.cons rfl (fun K hK => ?_) AllG.nil
                  go_simp
                  refine hK.out _ _ (fun e => absurd (show true = false from e) (by decide)) ?_
                  clear hK K
                  (try simp only [Act.put, List.setIfInBounds_toArray, List.set_cons_zero, List.set_cons_succ])
                  refine wpAnyG_ready [16] (by kernel_rfl) (by simp) ?_
                  refine AllG.cons rfl (fun K hK => ?_) AllG.nil
                  go_simp
                  refine hK.out _ _ (fun e => absurd (show true = false from e) (by decide)) ?_
                  clear hK K
                  (try simp only [Act.put, List.setIfInBounds_toArray, List.set_cons_zero, List.set_cons_succ])
                  refine wpAnyG_ready [17] (by kernel_rfl) (by simp) ?_
                  refine AllG.cons rfl (fun K hK => ?_) AllG.nil
                  go_simp
                  refine hK.out _ _ (fun e => absurd (show true = false from e) (by decide)) ?_
                  clear hK K
                  (try simp only [Act.put, List.setIfInBounds_toArray, List.set_cons_zero, List.set_cons_succ])
                  refine wpAnyG_done (by kernel_rfl) ?_ _
                  go_wp2_with fail
                  go_meet
                  exact ⟨rfl, rfl, rfl, HUB3.out.trans HN10.out⟩
                · go_simp
                  have n4 := n0.trans (nw_alloc (wd.alloc (.cells #[] 4)) (.cells #[.bool (Wv.ver now k)] 4))
                  have e4 := heap_new (wd.alloc (.cells #[] 4)) (.cells #[.bool (Wv.ver now k)] 4)
                  rw [World.size_alloc] at e4
                  refine hK.out _ _ (fun _ => HSD.out _ (HWD.out.trans n4)) ?_
                  clear hK K
                  (try simp only [Act.put, List.setIfInBounds_toArray, List.set_cons_zero, List.set_cons_succ])
                  have oe4 := owns_upd' oe (nw_alloc (wd.alloc (.cells #[] 4)) (.cells #[.bool (Wv.ver now k)] 4)) (fun _ _ e => e)
                  refine wpAnyG_ready [3] (by kernel_rfl) (by simp) ?_
                  refine AllG.cons rfl (fun K hK => ?_) AllG.nil
                  -- op 3: the state behind an empty row in block wd.heap.size of world (wd.alloc (.cells #[] 4)).alloc (.cells #[.bool (Wv.ver now k)] 4) (oe4), which comes from wd by n4
                  refine step_catC rfl _ _ 26 rfl 4 _ 1 1 Tryz.underlying26 infoBoolW rfl (by decide) wc.heap.size (Nat.le_trans HWD.out.size (n4).size) HGD.out (.slice (some ⟨wd.heap.size, 0, none⟩) 0 0) 0 [] rfl (oe4) ⟨nb, no, none⟩ now.length mc (now.map Value.bool) rfl (by rw [List.length_map, Nat.mul_one]) (fun j u hu => HNW.out _ (HWD.out.trans (n4)) j u hu) (fun u hu => by obtain ⟨x, _, rfl⟩ := List.mem_map.1 hu; rfl) HN8.out.2 (by have := HN8.out; unfold maxLen; omega) (by have := HN8.out; omega) ?_
                  intro g3 cap3 w3 o3 u3 hob3
                  simp only [Nat.zero_add, List.nil_append] at o3 ⊢
                  have n3 : Nw wd w3 := n4.trans' u3 (S := fun _ => False) (fun j (hj : j < wd.heap.size) e => by show False; have e2 := Option.some.inj (show some wd.heap.size = some j from e); omega)
                  have e5 := u3.keep e4 (fun e => by have e2 := Option.some.inj (show some wd.heap.size = some (wd.heap.size + 1) from e); omega)
                  refine hK.out _ _ (fun _ => HSD.out _ (HWD.out.trans n3)) ?_
                  clear hK K
                  (try simp only [Act.put, List.setIfInBounds_toArray, List.set_cons_zero, List.set_cons_succ])
                  -- in world w3: the row of the state o3 (its own, from wc on), the last one in block wd.heap.size + 1 by e5, n3: w3 comes from wd
                  have HU10 := Lib.hid (n3)
                  have HO10 := Lib.hid (o3)
                  have HB10 := Lib.hid (e5)
                  have hBz : wc.heap.size ≤ (w3).heap.size := Nat.le_trans HWD.out.size HU10.out.size
                  have hgC : nG ≤ wc.heap.size := HGD.out
                  have hn8' := HN8.out
                  refine wpAnyG_ready [9] (by kernel_rfl) (by simp) ?_
                  refine AllG.cons rfl (fun K hK => ?_) AllG.nil
                  refine step_catC rfl _ _ 26 rfl 4 _ 1 1 Tryz.underlying26 infoBoolW rfl (by decide) wc.heap.size hBz hgC (.slice (some ⟨g3, 0, none⟩) now.length cap3) _ _ rfl HO10.out ⟨wd.heap.size + 1, 0, none⟩ 1 1 [.bool (Wv.ver now k)] rfl rfl (World.news_of_block HB10.out) (fun u hu => by rw [List.mem_singleton.1 hu]; rfl) (by decide) (by unfold maxLen; omega) (by omega) ?_
                  intro g5 cap5 w9 o9 u9 hob
                  have n9 : Nw wc w9 := (HWD.out.trans HU10.out).trans' u9 (S := fun _ => False) (fun j (hj : j < wc.heap.size) e => by show False; have := (HO10.out.lt j e).1; omega)
                  have HN9 := Lib.hid n9
                  have HS9 := Lib.hid (HSD.out w9 n9)
                  have HC9 := Lib.hid (HM3.out w9 g5 cap5 n9 o9)
                  clear hn8' u9 o9 hob n9 hBz hgC
                  refine hK.out _ _ (fun _ => HS9.out) ?_
                  clear hK K
                  (try simp only [Act.put, List.setIfInBounds_toArray, List.set_cons_zero, List.set_cons_succ])
                  refine wpAnyG_ready [10] (by kernel_rfl) (by simp) ?_
                  refine AllG.cons rfl (fun K hK => ?_) AllG.nil
                  go_simp
                  (with_reducible refine (HC9.out).mono ?_)
                  rintro _ w10 ⟨rfl, u10⟩
                  have HN10 := Lib.hid (HN9.out.trans u10)
                  have HS10 := Lib.hid (HSD.out w10 HN10.out)
                  clear u10
                  refine hK.out _ _ (fun _ => HS10.out) ?_
                  clear hK K
                  (try simp only [Act.put, List.setIfInBounds_toArray, List.set_cons_zero, List.set_cons_succ])
                  refine wpAnyG_pure (i := 11) (v := ?_) rfl (by kernel_rfl) (by kernel_rfl) (by kernel_rfl) (by kernel_rfl) (by kernel_rfl) (fun _ _ _ h => h) (by kernel_rfl) ?_ (fun _ => HS10.out) ?_
                  rotate_left 1
                  · (intro zz; go_simp; first | done | with_reducible rfl)
                  (try simp only [Act.put, List.setIfInBounds_toArray, List.set_cons_zero, List.set_cons_succ])
                  refine wpAnyG_pure (i := 12) (v := ?_) rfl (by kernel_rfl) (by kernel_rfl) (by kernel_rfl) (by kernel_rfl) (by kernel_rfl) (fun _ _ _ h => h) (by kernel_rfl) ?_ (fun _ => HS10.out) ?_
                  rotate_left 1
                  · (intro zz; go_simp; first | done | with_reducible rfl)
                  (try simp only [Act.put, List.setIfInBounds_toArray, List.set_cons_zero, List.set_cons_succ])
                  refine wpAnyG_pure (i := 13) (v := ?_) rfl (by kernel_rfl) (by kernel_rfl) (by kernel_rfl) (by kernel_rfl) (by kernel_rfl) (fun _ _ _ h => h) (by kernel_rfl) ?_ (fun _ => HS10.out) ?_
                  rotate_left 1
                  · (intro zz; go_simp; first | done | with_reducible rfl)
                  (try simp only [Act.put, List.setIfInBounds_toArray, List.set_cons_zero, List.set_cons_succ])
                  refine wpAnyG_pure (i := 14) (v := ?_) rfl (by kernel_rfl) (by kernel_rfl) (by kernel_rfl) (by kernel_rfl) (by kernel_rfl) (fun _ _ _ h => h) (by kernel_rfl) ?_ (fun _ => HS10.out) ?_
                  rotate_left 1
                  · (intro zz; go_simp; first | done | with_reducible rfl)
                  (try simp only [Act.put, List.setIfInBounds_toArray, List.set_cons_zero, List.set_cons_succ])
                  refine wpAnyG_ready [15] (by kernel_rfl) (by simp) ?_
                  refine AllG.cons rfl (fun K hK => ?_) AllG.nil
                  go_simp
                  refine hK.out _ _ (fun e => absurd (show true = false from e) (by decide)) ?_
                  clear hK K
                  (try simp only [Act.put, List.setIfInBounds_toArray, List.set_cons_zero, List.set_cons_succ])
                  refine wpAnyG_ready [16] (by kernel_rfl) (by simp) ?_
                  refine AllG.cons rfl (fun K hK => ?_) AllG.nil
                  go_simp
                  refine hK.out _ _ (fun e => absurd (show true = false from e) (by decide)) ?_
                  clear hK K
                  (try simp only [Act.put, List.setIfInBounds_toArray, List.set_cons_zero, List.set_cons_succ])
                  refine wpAnyG_ready [17] (by kernel_rfl) (by simp) ?_
                  refine AllG.cons rfl (fun K hK => ?_) AllG.nil
                  go_simp
                  refine hK.out _ _ (fun e => absurd (show true = false from e) (by decide)) ?_
                  clear hK K
                  (try simp only [Act.put, List.setIfInBounds_toArray, List.set_cons_zero, List.set_cons_succ])
                  refine wpAnyG_done (by kernel_rfl) ?_ _
                  go_wp2_with fail
                  go_meet
                  exact ⟨rfl, rfl, rfl, HUB3.out.trans HN10.out⟩
              · have n0 := nw_alloc wd (.cells #[.bool (Wv.ver now k)] 4)
                have e0 := heap_new wd (.cells #[.bool (Wv.ver now k)] 4)
                go_simp
                refine hK.out _ _ (fun _ => HSD.out _ (HWD.out.trans n0)) ?_
                clear hK K
                (try simp only [Act.put, List.setIfInBounds_toArray, List.set_cons_zero, List.set_cons_succ])
                refine wpAnyG_ready [1] (by kernel_rfl) (by simp) ?_
                refine AllG.cons rfl (fun K hK => ?_) AllG.nil
                go_simp
                have n4 := n0.trans (nw_alloc (wd.alloc (.cells #[.bool (Wv.ver now k)] 4)) (.cells #[] 4))
                have e4 := Nw.keep (nw_alloc (wd.alloc (.cells #[.bool (Wv.ver now k)] 4)) (.cells #[] 4)) e0
                have oe4 := owns_base (owns_empty (wd.alloc (.cells #[.bool (Wv.ver now k)] 4)) 4 1) (Nat.le_trans HWD.out.size n0.size)
                rw [World.size_alloc] at oe4
                refine hK.out _ _ (fun _ => HSD.out _ (HWD.out.trans n4)) ?_
                clear hK K
                (try simp only [Act.put, List.setIfInBounds_toArray, List.set_cons_zero, List.set_cons_succ])
                refine wpAnyG_ready [3] (by kernel_rfl) (by simp) ?_
                refine AllG.cons rfl (fun K hK => ?_) AllG.nil
                -- op 3: the state behind an empty row in block wd.heap.size + 1 of world (wd.alloc (.cells #[.bool (Wv.ver now k)] 4)).alloc (.cells #[] 4) (oe4), which comes from wd by n4
                refine step_catC rfl _ _ 26 rfl 4 _ 1 1 Tryz.underlying26 infoBoolW rfl (by decide) wc.heap.size (Nat.le_trans HWD.out.size (n4).size) HGD.out (.slice (some ⟨wd.heap.size + 1, 0, none⟩) 0 0) 0 [] rfl (oe4) ⟨nb, no, none⟩ now.length mc (now.map Value.bool) rfl (by rw [List.length_map, Nat.mul_one]) (fun j u hu => HNW.out _ (HWD.out.trans (n4)) j u hu) (fun u hu => by obtain ⟨x, _, rfl⟩ := List.mem_map.1 hu; rfl) HN8.out.2 (by have := HN8.out; unfold maxLen; omega) (by have := HN8.out; omega) ?_
                intro g3 cap3 w3 o3 u3 hob3
                simp only [Nat.zero_add, List.nil_append] at o3 ⊢
                have n3 : Nw wd w3 := n4.trans' u3 (S := fun _ => False) (fun j (hj : j < wd.heap.size) e => by show False; have e2 := Option.some.inj (show some (wd.heap.size + 1) = some j from e); omega)
                have e5 := u3.keep e4 (fun e => by have e2 := Option.some.inj (show some (wd.heap.size + 1) = some wd.heap.size from e); omega)
                refine hK.out _ _ (fun _ => HSD.out _ (HWD.out.trans n3)) ?_
                clear hK K
                (try simp only [Act.put, List.setIfInBounds_toArray, List.set_cons_zero, List.set_cons_succ])
                -- in world w3: the row of the state o3 (its own, from wc on), the last one in block wd.heap.size by e5, n3: w3 comes from wd
                have HU10 := Lib.hid (n3)
                have HO10 := Lib.hid (o3)
                have HB10 := Lib.hid (e5)
                have hBz : wc.heap.size ≤ (w3).heap.size := Nat.le_trans HWD.out.size HU10.out.size
                have hgC : nG ≤ wc.heap.size := HGD.out
                have hn8' := HN8.out
                refine wpAnyG_ready [9] (by kernel_rfl) (by simp) ?_
                refine AllG.cons rfl (fun K hK => ?_) AllG.nil
                refine step_catC rfl _ _ 26 rfl 4 _ 1 1 Tryz.underlying26 infoBoolW rfl (by decide) wc.heap.size hBz hgC (.slice (some ⟨g3, 0, none⟩) now.length cap3) _ _ rfl HO10.out ⟨wd.heap.size, 0, none⟩ 1 1 [.bool (Wv.ver now k)] rfl rfl (World.news_of_block HB10.out) (fun u hu => by rw [List.mem_singleton.1 hu]; rfl) (by decide) (by unfold maxLen; omega) (by omega) ?_
                intro g5 cap5 w9 o9 u9 hob
                have n9 : Nw wc w9 := (HWD.out.trans HU10.out).trans' u9 (S := fun _ => False) (fun j (hj : j < wc.heap.size) e => by show False; have := (HO10.out.lt j e).1; omega)
                have HN9 := Lib.hid n9
                have HS9 := Lib.hid (HSD.out w9 n9)
                have HC9 := Lib.hid (HM3.out w9 g5 cap5 n9 o9)
                clear hn8' u9 o9 hob n9 hBz hgC
                refine hK.out _ _ (fun _ => HS9.out) ?_
                clear hK K
                (try simp only [Act.put, List.setIfInBounds_toArray, List.set_cons_zero, List.set_cons_succ])
                refine wpAnyG_ready [10] (by kernel_rfl) (by simp) ?_
                refine AllG.cons rfl (fun K hK => ?_) AllG.nil
                go_simp
                (with_reducible refine (HC9.out).mono ?_)
                rintro _ w10 ⟨rfl, u10⟩
                have HN10 := Lib.hid (HN9.out.trans u10)
                have HS10 := Lib.hid (HSD.out w10 HN10.out)
                clear u10
                refine hK.out _ _ (fun _ => HS10.out) ?_
                clear hK K
                (try simp only [Act.put, List.setIfInBounds_toArray, List.set_cons_zero, List.set_cons_succ])
                refine wpAnyG_pure (i := 11) (v := ?_) rfl (by kernel_rfl) (by kernel_rfl) (by kernel_rfl) (by kernel_rfl) (by kernel_rfl) (fun _ _ _ h => h) (by kernel_rfl) ?_ (fun _ => HS10.out) ?_
                rotate_left 1
                · (intro zz; go_simp; first | done | with_reducible rfl)
                (try simp only [Act.put, List.setIfInBounds_toArray, List.set_cons_zero, List.set_cons_succ])
                refine wpAnyG_pure (i := 12) (v := ?_) rfl (by kernel_rfl) (by kernel_rfl) (by kernel_rfl) (by kernel_rfl) (by kernel_rfl) (fun _ _ _ h => h) (by kernel_rfl) ?_ (fun _ => HS10.out) ?_
                rotate_left 1
                · (intro zz; go_simp; first | done | with_reducible rfl)
                (try simp only [Act.put, List.setIfInBounds_toArray, List.set_cons_zero, List.set_cons_succ])
                refine wpAnyG_pure (i := 13) (v := ?_) rfl (by kernel_rfl) (by kernel_rfl) (by kernel_rfl) (by kernel_rfl) (by kernel_rfl) (fun _ _ _ h => h) (by kernel_rfl) ?_ (fun _ => HS10.out) ?_
                rotate_left 1
                · (intro zz; go_simp; first | done | with_reducible rfl)
                (try simp only [Act.put, List.setIfInBounds_toArray, List.set_cons_zero, List.set_cons_succ])
                refine wpAnyG_pure (i := 14) (v := ?_) rfl (by kernel_rfl) (by kernel_rfl) (by kernel_rfl) (by kernel_rfl) (by kernel_rfl) (fun _ _ _ h => h) (by kernel_rfl) ?_ (fun _ => HS10.out) ?_
                rotate_left 1
                · (intro zz; go_simp; first | done | with_reducible rfl)
                (try simp only [Act.put, List.setIfInBounds_toArray, List.set_cons_zero, List.set_cons_succ])
                refine wpAnyG_ready [15] (by kernel_rfl) (by simp) ?_
                refine AllG.cons rfl (fun K hK => ?_) AllG.nil
                go_simp
                refine hK.out _ _ (fun e => absurd (show true = false from e) (by decide)) ?_
                clear hK K
                (try simp only [Act.put, List.setIfInBounds_toArray, List.set_cons_zero, List.set_cons_succ])
                refine wpAnyG_ready [16] (by kernel_rfl) (by simp) ?_
                refine AllG.cons rfl (fun K hK => ?_) AllG.nil
                go_simp
                refine hK.out _ _ (fun e => absurd (show true = false from e) (by decide)) ?_
                clear hK K
                (try simp only [Act.put, List.setIfInBounds_toArray, List.set_cons_zero, List.set_cons_succ])
                refine wpAnyG_ready [17] (by kernel_rfl) (by simp) ?_
                refine AllG.cons rfl (fun K hK => ?_) AllG.nil
                go_simp
                refine hK.out _ _ (fun e => absurd (show true = false from e) (by decide)) ?_
                clear hK K
                (try simp only [Act.put, List.setIfInBounds_toArray, List.set_cons_zero, List.set_cons_succ])
                refine wpAnyG_done (by kernel_rfl) ?_ _
                go_wp2_with fail
                go_meet
                exact ⟨rfl, rfl, rfl, HUB3.out.trans HN10.out⟩
            case rest =>
              obtain ⟨rfl, rfl, rfl, hnz⟩ := hcut
              obtain ⟨x0, x1, x2⟩ := HX.out _ hnz
              have hm5 := Lib.hid (HM4.out _ hnz)
              have HNZ := Lib.hid hnz
              clear hnz
              go_wp2_with fail
              (with_reducible refine (hm5.out).mono ?_)
              rintro _ wz ⟨rfl, uz⟩
              have HUZ := Lib.hid (HN.out.trans (HNZ.out.trans uz))
              clear uz x0 x1 x2
              cases m3
              all_goals
                go_wp2_with fail
                go_ret
                exact ⟨by first | rfl | simp, HUZ.out⟩
end Go.Proofs.YtjlgmoemnhmgmaaGreatDoor
