/- The reference's formed and Right. -/
import Derived.Test.YtjlgmoemnhmgmaaGreatDoorPkWTells19
import Derived.Test.YtjlgmoemnhmgmaaGreatDoorPkWTells32
namespace Go.Proofs.YtjlgmoemnhmgmaaGreatDoor
open Go.RowKit
set_option linter.unusedVariables false
set_option linter.unusedSimpArgs false
attribute [local irreducible] Calls
open Fm (Ty Vl Str nameB rightTy)
open Wv (Svc FL)

theorem svc_bad {l : List Svc} {i : Nat} {s : Svc} (h : nameB s.name = false ∨ rightTy 4 s.wr = false ∨ rightTy 4 s.rd = false ∨ ((l.take i).any fun x => decide (x.name = s.name)) = true ∨ Wv.sendsOk l.length s.sends = false) : Wv.svcOk l i s = false := by
  unfold Wv.svcOk
  rcases h with h | h | h | h | h
  · rw [h]; simp
  · rw [h]; simp
  · rw [h]; simp
  · rw [h]; simp
  · rw [h]; simp
theorem svc_good {l : List Svc} {i : Nat} {s : Svc} (h1 : nameB s.name = true) (h2 : rightTy 4 s.wr = true) (h3 : rightTy 4 s.rd = true) (h4 : ∀ j (h : j < l.length), j < i → ¬ l[j].name = s.name) (h5 : Wv.sendsOk l.length s.sends = true) : Wv.svcOk l i s = true := by
  unfold Wv.svcOk
  have h6 : ((l.take i).any fun x => decide (x.name = s.name)) = false := by
    rw [List.any_eq_false]
    intro x hx
    obtain ⟨j, hj, e⟩ := List.mem_take_iff_getElem.1 hx
    rw [← e]
    have := h4 j (by omega) (by omega)
    simpa using this
  rw [h1, h2, h3, h5, h6]; rfl
theorem any_name {l : List Svc} {i k : Nat} {s : Svc} (hk : k < l.length) (hki : k < i) (h : l[k].name = s.name) : ((l.take i).any fun x => decide (x.name = s.name)) = true :=
  List.any_eq_true.2 ⟨l[k], List.mem_take_iff_getElem.2 ⟨k, by omega, rfl⟩, decide_eq_true h⟩
set_option maxHeartbeats 16000000 in
set_option maxRecDepth 100000 in
theorem formed_r (a : Option Addr) (cap : Nat) (l : List Svc) (w : World) (hgb : nG ≤ w.heap.size) (h : SvC w a l) (hl : l.length ≤ 100000) :
    Calls Tryz.prog 46 #[.slice a l.length cap] w fun e w' => e = .returned (.bool (Wv.formed l)) ∧ Nw w w' := by
  have HC := Lib.hid h
  have HGB := Lib.hid hgb
  have hl1 : (l.length : Int) ≤ 100000 := by omega
  clear h hgb
  go_enter Tryz.func46, Tryz.ntmps46
  go_wp2_with fail
  go_loopw [3] (fun iv wr => ∃ i : Nat, i ≤ l.length ∧ iv = .int .i64 (i : Int) ∧ Hid (∀ j (h : j < l.length), j < i → Wv.svcOk l j l[j] = true) ∧ Hid (Nw w wr)) (fun iv _ => l.length - (intOf iv).toNat)
  case atStart => exact ⟨0, Nat.zero_le _, rfl, (fun j h hj => by omega), Upd.refl _ _⟩
  case round =>
    obtain ⟨i, hi, rfl, HALL, HU⟩ := hrel
    obtain ⟨wi, hwi⟩ : ∃ y, y = wr := ⟨_, rfl⟩
    subst hwi
    by_cases hlt : i < l.length
    · have hlt1 : (i : Int) < l.length := by omega
      have hi9 : (i : Int) ≤ 100000 := by omega
      have hi0 : decide ((i : Int) < 0) = false := decide_eq_false (by omega)
      rcases HC.out with hnil | ⟨b, off, rfl, hb, hcell⟩
      · rw [hnil] at hlt; simp at hlt
      obtain ⟨sa, fa, ga, sc, fc, gc, hk, hri⟩ := hcell i hlt
      obtain ⟨d0, d1, d2, d3, d4, d5⟩ := hk.nw HU.out
      have HNM : Hid (∀ y (j : Nat), Nw w y → (h : j < l.length) → y.cell? ⟨b, off + j * 6, none⟩ = some (.string ⟨(l[j].name).toArray⟩)) := fun y j u h => by
        obtain ⟨_, _, _, _, _, _, hk2, _⟩ := hcell j h
        exact (hk2.nw u).1
      have HBAD : Hid (Wv.svcOk l i l[i] = false → Wv.formed l = false) := fun e => formed_no hlt e
      have HNX : Hid (Wv.svcOk l i l[i] = true → ∀ j (h : j < l.length), j < i + 1 → Wv.svcOk l j l[j] = true) := fun e j h hj => by
        by_cases ej : j = i
        · subst ej; exact e
        · exact HALL.out j h (by omega)
      have HAN : Hid (∀ k (h : k < l.length), k < i → l[k].name = l[i].name → ((l.take i).any fun x => decide (x.name = l[i].name)) = true) := fun k h hki e => any_name h hki e
      have HRI : Hid (∀ y, Nw w y → SvcR y l[i] sa fa ga fc gc) := fun y u => hri.nw u
      clear hcell hk hri
      generalize l[i]'hlt = s at *
      have hnl : s.name.length ≤ maxLen := (HRI.out wi HU.out).name
      have hsf : s.sends.length ≤ maxLen := (HRI.out wi HU.out).few
      unfold maxLen at hsf
      have hsf1 : (s.sends.length : Int) ≤ 9223372036854775807 := by omega
      have nB := nw_alloc wi (.cells #[.string ⟨s.name.toArray⟩, .slice sa s.sends.length sc, .int .i64 s.wr.kind, .slice fa s.wr.fs.length fc, .int .i64 s.rd.kind, .slice ga s.rd.fs.length gc] tSv)
      have bB := heap_new wi (.cells #[.string ⟨s.name.toArray⟩, .slice sa s.sends.length sc, .int .i64 s.wr.kind, .slice fa s.wr.fs.length fc, .int .i64 s.rd.kind, .slice ga s.rd.fs.length gc] tSv)
      obtain ⟨wb, hwb⟩ : ∃ y, y = wi.alloc (.cells #[.string ⟨s.name.toArray⟩, .slice sa s.sends.length sc, .int .i64 s.wr.kind, .slice fa s.wr.fs.length fc, .int .i64 s.rd.kind, .slice ga s.rd.fs.length gc] tSv) := ⟨_, rfl⟩
      rw [← hwb] at nB bB
      have HWB := Lib.hid hwb
      have HUB := Lib.hid (HU.out.trans nB)
      obtain ⟨P, hP⟩ : ∃ P, P = wi.heap.size := ⟨_, rfl⟩
      rw [← hP] at bB
      have HXB : Hid (∀ y, Nw wb y → y.cell? ⟨P, 0, none⟩ = some (.string ⟨s.name.toArray⟩) ∧ y.cell? ⟨P, 1, none⟩ = some (.slice sa s.sends.length sc) ∧ y.cell? ⟨P, 2, none⟩ = some (.int .i64 s.wr.kind) ∧ y.cell? ⟨P, 3, none⟩ = some (.slice fa s.wr.fs.length fc) ∧ y.cell? ⟨P, 4, none⟩ = some (.int .i64 s.rd.kind) ∧ y.cell? ⟨P, 5, none⟩ = some (.slice ga s.rd.fs.length gc)) := fun y u => ⟨by rw [cells_cell (Nw.keep u bB)]; rfl, by rw [cells_cell (Nw.keep u bB)]; rfl, by rw [cells_cell (Nw.keep u bB)]; rfl, by rw [cells_cell (Nw.keep u bB)]; rfl, by rw [cells_cell (Nw.keep u bB)]; rfl, by rw [cells_cell (Nw.keep u bB)]; rfl⟩
      clear nB bB hwb
      go_upto_region 5 with fail
      rw [← HWB.out, ← hP]
      clear HWB hP d0 d1 d2 d3 d4 d5
      obtain ⟨x0, x1, x2, x3, x4, x5⟩ := HXB.out wb (Upd.refl _ _)
      have hc1 := Lib.hid (Name_r s.name hnl wb)
      cases hnm : nameB s.name with
      | false =>
        rw [hnm] at hc1
        have hr := Lib.hid (HBAD.out (svc_bad (Or.inl hnm)))
        clear hnm
        go_wp2_with fail
        (with_reducible refine (hc1.out).mono ?_)
        rintro _ w5 ⟨rfl, u5⟩
        have HU5 := Lib.hid (HUB.out.trans u5)
        clear u5
        go_wp2_with fail
        go_ret
        exact ⟨ret_bool hr.out.symm, HU5.out⟩
      | true =>
      rw [hnm] at hc1
      have HNM1 := Lib.hid hnm
      clear hnm
      have HC2 : Hid (∀ y, Nw wb y → Calls Tryz.prog 65 #[.agg #[.int .i64 s.wr.kind, .slice fa s.wr.fs.length fc]] y fun e w' => e = .returned (.bool (rightTy 4 s.wr)) ∧ Nw y w') := fun y u => tyRight_r _ _ y (Nat.le_trans HGB.out (HUB.out.trans u).size) (HRI.out y (HUB.out.trans u)).wr
      have HC3 : Hid (∀ y, Nw wb y → Calls Tryz.prog 65 #[.agg #[.int .i64 s.rd.kind, .slice ga s.rd.fs.length gc]] y fun e w' => e = .returned (.bool (rightTy 4 s.rd)) ∧ Nw y w') := fun y u => tyRight_r _ _ y (Nat.le_trans HGB.out (HUB.out.trans u).size) (HRI.out y (HUB.out.trans u)).rd
      cases hwr : rightTy 4 s.wr with
      | false =>
        rw [hwr] at HC2
        have hr := Lib.hid (HBAD.out (svc_bad (Or.inr (Or.inl hwr))))
        clear hwr
        go_wp2_with fail
        (with_reducible refine (hc1.out).mono ?_)
        rintro _ w5 ⟨rfl, u5⟩
        have HB5 := Lib.hid u5
        have hc2 := Lib.hid (HC2.out w5 u5)
        clear u5 x0 x1 x2 x3 x4 x5
        obtain ⟨x0, x1, x2, x3, x4, x5⟩ := HXB.out w5 HB5.out
        go_wp2_with fail
        (with_reducible refine (hc2.out).mono ?_)
        rintro _ w6 ⟨rfl, u6⟩
        have HU6 := Lib.hid (HUB.out.trans (HB5.out.trans u6))
        clear u6
        go_wp2_with fail
        go_ret
        exact ⟨ret_bool hr.out.symm, HU6.out⟩
      | true =>
      rw [hwr] at HC2
      have HWR1 := Lib.hid hwr
      clear hwr
      cases hrd : rightTy 4 s.rd with
      | false =>
        rw [hrd] at HC3
        have hr := Lib.hid (HBAD.out (svc_bad (Or.inr (Or.inr (Or.inl hrd)))))
        clear hrd
        go_wp2_with fail
        (with_reducible refine (hc1.out).mono ?_)
        rintro _ w5 ⟨rfl, u5⟩
        have HB5 := Lib.hid u5
        have hc2 := Lib.hid (HC2.out w5 u5)
        clear u5 x0 x1 x2 x3 x4 x5
        obtain ⟨x0, x1, x2, x3, x4, x5⟩ := HXB.out w5 HB5.out
        go_wp2_with fail
        (with_reducible refine (hc2.out).mono ?_)
        rintro _ w6 ⟨rfl, u6⟩
        have HB6 := Lib.hid (HB5.out.trans u6)
        have hc3 := Lib.hid (HC3.out w6 HB6.out)
        clear u6 x0 x1 x2 x3 x4 x5
        obtain ⟨x0, x1, x2, x3, x4, x5⟩ := HXB.out w6 HB6.out
        go_wp2_with fail
        (with_reducible refine (hc3.out).mono ?_)
        rintro _ w7 ⟨rfl, u7⟩
        have HU7 := Lib.hid (HUB.out.trans (HB6.out.trans u7))
        clear u7
        go_wp2_with fail
        go_ret
        exact ⟨ret_bool hr.out.symm, HU7.out⟩
      | true =>
      rw [hrd] at HC3
      have HRD1 := Lib.hid hrd
      clear hrd
      go_wp2_with fail
      (with_reducible refine (hc1.out).mono ?_)
      rintro _ w5 ⟨rfl, u5⟩
      have HB5 := Lib.hid u5
      have hc2 := Lib.hid (HC2.out w5 u5)
      clear u5 x0 x1 x2 x3 x4 x5
      obtain ⟨x0, x1, x2, x3, x4, x5⟩ := HXB.out w5 HB5.out
      go_wp2_with fail
      (with_reducible refine (hc2.out).mono ?_)
      rintro _ w6 ⟨rfl, u6⟩
      have HB6 := Lib.hid (HB5.out.trans u6)
      have hc3 := Lib.hid (HC3.out w6 HB6.out)
      clear u6 x0 x1 x2 x3 x4 x5
      obtain ⟨x0, x1, x2, x3, x4, x5⟩ := HXB.out w6 HB6.out
      go_wp2_with fail
      (with_reducible refine (hc3.out).mono ?_)
      rintro _ w7 ⟨rfl, u7⟩
      have HB7 := Lib.hid (HB6.out.trans u7)
      clear u7 x0 x1 x2 x3 x4 x5 HC2 HC3 hc1 hc2 hc3
      go_wp2_with fail
      go_loopw [5] (fun kv wr => ∃ k : Nat, k ≤ i ∧ kv = .int .i64 (k : Int) ∧ Hid (∀ j (h : j < l.length), j < k → ¬ l[j].name = s.name) ∧ Hid (Nw wb wr)) (fun kv _ => i - (intOf kv).toNat)
      case atStart => exact ⟨0, Nat.zero_le _, rfl, (fun j h hj => by omega), HB7.out⟩
      case round =>
        obtain ⟨k, hk, rfl, HNE, HK⟩ := hrel
        have HUK := Lib.hid (HUB.out.trans HK.out)
        by_cases hkl : k < i
        · have hkl1 : (k : Int) < i := by omega
          have hk9 : (k : Int) ≤ 100000 := by omega
          have hk0 : decide ((k : Int) < 0) = false := decide_eq_false (by omega)
          have hkll : (k : Int) < l.length := by omega
          have hkn : k < l.length := by omega
          have h1 := HNM.out wr k HUK.out hkn
          have h2 := (HXB.out wr HK.out).1
          have hnx : ¬ l[k].name = s.name → Hid (∀ j (h : j < l.length), j < k + 1 → ¬ l[j].name = s.name) := fun e j h hj => by
            by_cases ej : j = k
            · subst ej; exact e
            · exact HNE.out j h (by omega)
          have hyes : l[k].name = s.name → Hid (Wv.formed l = false) := fun e => HBAD.out (svc_bad (Or.inr (Or.inr (Or.inr (Or.inl (HAN.out k hkn hkl e))))))
          have HY := Lib.hid hyes
          have HX2 := Lib.hid hnx
          clear hyes hnx
          generalize l[k].name = kn at *
          have z1 : ∀ j : Later wr, j.1.cell? ⟨b, off + k * 6, none⟩ = some (.string ⟨kn.toArray⟩) := fun j => later_cell j h1
          have z2 : ∀ j : Later wr, j.1.cell? ⟨P, 0, none⟩ = some (.string ⟨s.name.toArray⟩) := fun j => later_cell j h2
          clear h1 h2
          by_cases hnn : kn = s.name
          · have hr := HY.out hnn
            have hbb : (kn == s.name) = true := by simpa using hnn
            clear hnn HX2 HY
            go_upto_region 10 with fail
            refine wp_region_nw (by kernel_rfl) (by kernel_rfl) ?_
            repeat (go_big_quiet_step ((fail)))
            refine wpQuiet_nil ?_
            intro w8 u8
            replace u8 := later_out u8
            have H8 := Lib.hid (HUK.out.trans u8)
            clear u8 z1 z2
            go_wp2_with fail
            go_ret
            exact ⟨ret_bool hr.out.symm, H8.out⟩
          · have hr := HX2.out hnn
            have hbb : (kn == s.name) = false := by simpa using hnn
            clear hnn HX2 HY
            go_upto_region 10 with fail
            refine wp_region_nw (by kernel_rfl) (by kernel_rfl) ?_
            repeat (go_big_quiet_step ((fail)))
            refine wpQuiet_nil ?_
            intro w8 u8
            replace u8 := later_out u8
            have H8 := Lib.hid (HK.out.trans u8)
            clear u8 z1 z2
            go_wp2_with fail
            go_roundw
            case rel => exact ⟨k + 1, by omega, by go_num, hr, H8⟩
            case measure => simp [intOf]; omega
        · obtain rfl : k = i := by omega
          have hkl1 : ¬ ((k : Nat) : Int) < k := by omega
          have hgood : Hid (Wv.sendsOk l.length s.sends = true → Wv.svcOk l k s = true) := fun e => svc_good HNM1.out HWR1.out HRD1.out HNE.out e
          have hbad2 : Hid (Wv.sendsOk l.length s.sends = false → Wv.formed l = false) := fun e => HBAD.out (svc_bad (Or.inr (Or.inr (Or.inr (Or.inr e)))))
          go_wp2_with fail
          go_loopw [6] (fun nv wr => ∃ n : Nat, n ≤ s.sends.length ∧ nv = .int .i64 (n : Int) ∧ Hid (∀ j (h : j < s.sends.length), j < n → Wv.inR l.length s.sends[j] = true) ∧ Hid (∀ j (h : j + 1 < s.sends.length), j + 1 < n → (s.sends[j]'(by omega)) < s.sends[j + 1]) ∧ Hid (Nw wb wr)) (fun nv _ => s.sends.length - (intOf nv).toNat)
          case atStart => exact ⟨0, Nat.zero_le _, rfl, (fun j h hj => by omega), (fun j h hj => by omega), HK.out⟩
          case round =>
            clear HK HUK
            obtain ⟨n, hn, rfl, HIR, HAS, HK⟩ := hrel
            have HUK := Lib.hid (HUB.out.trans HK.out)
            have hx1 := (HXB.out wr HK.out).2.1
            by_cases hnl2 : n < s.sends.length
            · have hnl1 : (n : Int) < s.sends.length := by omega
              have hn0 : decide ((n : Int) < 0) = false := decide_eq_false (by omega)
              rcases (HRI.out wr HUK.out).sends with hnil | ⟨b2, o2, rfl, hb2, hc2⟩
              · rw [hnil] at hnl2; simp at hnl2
              have h1 := hc2 n hnl2
              have hprev : ∀ m, n = m + 1 → ∃ pv, wr.cell? ⟨b2, o2 + m, none⟩ = some (.int .i64 pv) ∧ ∀ (h : m < s.sends.length), pv = s.sends[m] := fun m e => ⟨s.sends[m]'(by omega), hc2 m (by omega), fun _ => rfl⟩
              have hb1 : Wv.inR l.length s.sends[n] = false → Hid (Wv.formed l = false) := fun e => hbad2.out (sends_no1 hnl2 e)
              have hb2' : ∀ m, n = m + 1 → ∀ pv, (∀ (h : m < s.sends.length), pv = s.sends[m]) → ¬ pv < s.sends[n] → Hid (Wv.formed l = false) := fun m e pv hpv hlt2 => by
                subst e
                exact hbad2.out (sends_no2 hnl2 (by rw [← hpv (by omega)]; exact hlt2))
              have hir : Wv.inR l.length s.sends[n] = true → Hid (∀ j (h : j < s.sends.length), j < n + 1 → Wv.inR l.length s.sends[j] = true) := fun e j h hj => by
                by_cases ej : j = n
                · subst ej; exact e
                · exact HIR.out j h (by omega)
              have has0 : n = 0 → Hid (∀ j (h : j + 1 < s.sends.length), j + 1 < n + 1 → (s.sends[j]'(by omega)) < s.sends[j + 1]) := fun e j h hj => by omega
              have has1 : ∀ m, n = m + 1 → ∀ pv, (∀ (h : m < s.sends.length), pv = s.sends[m]) → pv < s.sends[n] → Hid (∀ j (h : j + 1 < s.sends.length), j + 1 < n + 1 → (s.sends[j]'(by omega)) < s.sends[j + 1]) := fun m e pv hpv hlt2 j h hj => by
                subst e
                by_cases ej : j = m
                · subst ej
                  rw [← hpv (by omega)]; exact hlt2
                · exact HAS.out j h (by omega)
              have HB1 := Lib.hid hb1
              have HB2 := Lib.hid hb2'
              have HI1 := Lib.hid hir
              have HA0 := Lib.hid has0
              have HA1 := Lib.hid has1
              clear hc2 hb1 hb2' hir has0 has1
              generalize s.sends[n]'hnl2 = x at *
              have z1 : ∀ j : Later wr, j.1.cell? ⟨P, 1, none⟩ = some (.slice (some ⟨b2, o2, none⟩) s.sends.length sc) := fun j => later_cell j hx1
              have z2 : ∀ j : Later wr, j.1.cell? ⟨b2, o2 + n, none⟩ = some (.int .i64 x) := fun j => later_cell j h1
              have HIN : Hid (Wv.inR l.length x = (decide (0 ≤ x) && decide (x < l.length))) := rfl
              clear h1
              by_cases g1 : x < 0
              · have hr := HB1.out (by rw [HIN.out, decide_eq_false (show ¬ 0 ≤ x by omega)]; rfl)
                have hd1 : decide (x < 0) = true := decide_eq_true g1
                clear g1 hprev
                go_upto_region 15 with fail
                refine wp_region_nw (by kernel_rfl) (by kernel_rfl) ?_
                repeat (go_big_quiet_step ((fail)))
                refine wpQuiet_nil ?_
                intro w8 u8
                replace u8 := later_out u8
                have H8 := Lib.hid (HUK.out.trans u8)
                clear u8 z1 z2 hx1
                go_wp2_with fail
                go_ret
                exact ⟨ret_bool hr.out.symm, H8.out⟩
              have hd1 : decide (x < 0) = false := decide_eq_false g1
              by_cases g2 : (l.length : Int) ≤ x
              · have hr := HB1.out (by rw [HIN.out, decide_eq_false (show ¬ x < (l.length : Int) by omega)]; simp)
                have hd2 : decide ((l.length : Int) ≤ x) = true := decide_eq_true g2
                clear g2 g1 hprev
                go_upto_region 15 with fail
                refine wp_region_nw (by kernel_rfl) (by kernel_rfl) ?_
                repeat (go_big_quiet_step ((fail)))
                refine wpQuiet_nil ?_
                intro w8 u8
                replace u8 := later_out u8
                have H8 := Lib.hid (HUK.out.trans u8)
                clear u8 z1 z2 hx1
                go_wp2_with fail
                go_ret
                exact ⟨ret_bool hr.out.symm, H8.out⟩
              have hd2 : decide ((l.length : Int) ≤ x) = false := decide_eq_false g2
              have HI2 := HI1.out (by rw [HIN.out, decide_eq_true (show 0 ≤ x by omega), decide_eq_true (show x < (l.length : Int) by omega)]; rfl)
              clear g1 g2 HI1 HB1
              by_cases hn1 : n = 0
              · have HA2 := HA0.out hn1
                subst hn1
                rw [Nat.add_zero] at z2
                clear HA0 HA1 HB2 hprev
                go_upto_region 15 with fail
                refine wp_region_nw (by kernel_rfl) (by kernel_rfl) ?_
                repeat (go_big_quiet_step ((fail)))
                refine wpQuiet_nil ?_
                intro w8 u8
                replace u8 := later_out u8
                have H8 := Lib.hid (HK.out.trans u8)
                clear u8 z1 z2 hx1
                go_wp2_with fail
                go_roundw
                case rel => exact ⟨0 + 1, by omega, by go_num, HI2, HA2, H8⟩
                case measure => simp [intOf]; omega
              · obtain ⟨m, rfl⟩ : ∃ m, n = m + 1 := ⟨n - 1, by omega⟩
                obtain ⟨pv, hpc, hpe⟩ := hprev m rfl
                have z3 : ∀ j : Later wr, j.1.cell? ⟨b2, o2 + m, none⟩ = some (.int .i64 pv) := fun j => later_cell j hpc
                have hz : decide ((0 : Int) < ((m + 1 : Nat) : Int)) = true := decide_eq_true (by omega)
                have hm0 : decide ((m : Int) < 0) = false := decide_eq_false (by omega)
                have hml : (m : Int) < s.sends.length := by omega
                by_cases g3 : x ≤ pv
                · have hr := HB2.out m rfl pv hpe (by omega)
                  have hd3 : decide (x ≤ pv) = true := decide_eq_true g3
                  clear g3 hprev hpe hpc HB2 HA0 HA1
                  go_upto_region 15 with fail
                  refine wp_region_nw (by kernel_rfl) (by kernel_rfl) ?_
                  repeat (go_big_quiet_step ((fail)))
                  refine wpQuiet_nil ?_
                  intro w8 u8
                  replace u8 := later_out u8
                  have H8 := Lib.hid (HUK.out.trans u8)
                  clear u8 z1 z2 z3 hx1
                  go_wp2_with fail
                  go_ret
                  exact ⟨ret_bool hr.out.symm, H8.out⟩
                · have HA2 := HA1.out m rfl pv hpe (by omega)
                  have hd3 : decide (x ≤ pv) = false := decide_eq_false g3
                  clear g3 hprev hpe hpc HB2 HA0 HA1
                  go_upto_region 15 with fail
                  refine wp_region_nw (by kernel_rfl) (by kernel_rfl) ?_
                  repeat (go_big_quiet_step ((fail)))
                  refine wpQuiet_nil ?_
                  intro w8 u8
                  replace u8 := later_out u8
                  have H8 := Lib.hid (HK.out.trans u8)
                  clear u8 z1 z2 z3 hx1
                  go_wp2_with fail
                  go_roundw
                  case rel => exact ⟨m + 1 + 1, by omega, by go_num, HI2, HA2, H8⟩
                  case measure => simp [intOf]; omega
            · obtain rfl : n = s.sends.length := by omega
              have hnl1 : ¬ ((s.sends.length : Nat) : Int) < s.sends.length := by omega
              have hok := Lib.hid (HNX.out (hgood.out (sends_yes (fun j h => HIR.out j h h) (fun j h => HAS.out j h h))))
              go_wp2_with fail
              go_roundw
              case rel => exact ⟨k + 1, by omega, by go_num, hok, HUK⟩
              case measure => simp [intOf]; omega
    · obtain rfl : i = l.length := by omega
      have hlt1 : ¬ ((l.length : Nat) : Int) < l.length := by omega
      have hr := Lib.hid (formed_all (fun j h => HALL.out j h h))
      by_cases h8 : l.length ≤ 8
      · have h81 : (l.length : Int) ≤ 8 := by omega
        rw [decide_eq_true h8] at hr
        go_wp2_with fail
        go_ret
        exact ⟨ret_bool hr.out.symm, HU.out⟩
      · have h81 : ¬ (l.length : Int) ≤ 8 := by omega
        rw [decide_eq_false h8] at hr
        go_wp2_with fail
        go_ret
        exact ⟨ret_bool hr.out.symm, HU.out⟩
end Go.Proofs.YtjlgmoemnhmgmaaGreatDoor
