/- The reference's right types (ladingref15): shape, RightType; ladingref16.Right. -/
import Derived.Test.YthagiklfmkdmaaaGreatDoorPkFTel4312
namespace Go.Proofs.YthagiklfmkdmaaaGreatDoor
open Go.RowKit
set_option linter.unusedVariables false
set_option linter.unusedSimpArgs false
attribute [local irreducible] Calls
open Fm (Ty Vl Str nameB rightTy rightVl letterB digitB wordB)

/-- A slice of the call's own with names. -/
theorem strC_owns {w : World} {base n : Nat} {a : Option Addr} {cap : Nat} {l : List Str} (h : w.ownsRow base 9 1 (.slice a n cap) n (l.map sF)) (hl : ∀ s ∈ l, s.length ≤ maxLen) : n = l.length ∧ StrC w a l := by
  obtain ⟨a', cap', e, hm, hc⟩ := (Sl.of_owns h).open_
  rw [List.length_map] at e hm
  injection e with e1 e2 e3
  subst e1
  refine ⟨e2, ?_⟩
  rcases hc with ⟨_, _, h0⟩ | ⟨b, off, rfl, _, _, hb, hcl⟩
  · exact Or.inl (List.map_eq_nil_iff.1 h0)
  · refine Or.inr ⟨b, off, rfl, hb, fun i hi => ⟨?_, hl _ (List.getElem_mem hi)⟩⟩
    rw [hcl i (by simpa using hi), List.getElem?_map, List.getElem?_eq_getElem hi]; rfl
theorem fdc_len {w : World} {a : Option Addr} {l : List (Str × Ty)} (h : FdC w a l) : ∀ s ∈ l.map (·.1), s.length ≤ maxLen := fun s hs => by
  obtain ⟨f, hf, rfl⟩ := List.mem_map.1 hs
  rcases h with rfl | ⟨b, off, _, _, hc⟩
  · cases hf
  · obtain ⟨i, hi, rfl⟩ := List.mem_iff_getElem.1 hf
    obtain ⟨sv, _, _, _, _, h5⟩ := hc i hi
    exact h5
theorem right_eq {d : Nat} {t : Ty} : rightTy (d + 1) t = (decide (0 ≤ t.kind) && decide (t.kind ≤ 2) && (decide (t.kind = 2) || t.fs.isEmpty) && decide (t.fs.length ≤ 8) && ascN (t.fs.map (·.1)) && t.fs.all (fun f => rightTy d f.2)) := by
  rw [Bool.eq_iff_iff, Fm.rt_iff]
  unfold ascN
  simp only [Bool.and_eq_true, decide_eq_true_eq, Bool.or_eq_true, List.all_eq_true, List.mem_map, List.isEmpty_iff]
  constructor
  · intro h
    exact ⟨⟨⟨⟨⟨h.k0, by have := h.k3; omega⟩, by by_cases e : t.kind = 2; exact Or.inl e; exact Or.inr (h.rec_ e)⟩, h.len⟩, fun x hx => by obtain ⟨f, hf, rfl⟩ := hx; exact h.name f hf, h.asc⟩, h.sub⟩
  · rintro ⟨⟨⟨⟨⟨h1, h2⟩, h4⟩, h3⟩, h7, h5⟩, h6⟩
    exact ⟨h1, by omega, h3, fun e => h4.resolve_left e, h5, fun f hf => h7 _ ⟨f, hf, rfl⟩, h6⟩
theorem within_r (n : Int) (w : World) : Calls Tryz.prog 154 #[.int .i64 n, .int .i64 0, .int .i64 2] w fun e w' => e = .returned (.bool (decide (0 ≤ n) && decide (n ≤ 2))) ∧ w = w' := by
  by_cases h1 : 0 ≤ n
  · by_cases h2 : n ≤ 2
    · have d1 : decide (n ≤ 2) = true := decide_eq_true h2
      have d0 : decide (0 ≤ n) = true := decide_eq_true h1
      go_enter Tryz.func154, Tryz.ntmps154
      go_wp2_with fail
      go_ret
      exact ⟨by first | rfl | (rw [d0, d1]; rfl), rfl⟩
    · have d1 : decide (n ≤ 2) = false := decide_eq_false h2
      have d0 : decide (0 ≤ n) = true := decide_eq_true h1
      have h3 : 2 < n := by omega
      go_enter Tryz.func154, Tryz.ntmps154
      go_wp2_with fail
      go_ret
      exact ⟨by first | rfl | (rw [d0, d1]; rfl), rfl⟩
  · have d0 : decide (0 ≤ n) = false := decide_eq_false h1
    have h3 : n < 0 := by omega
    go_enter Tryz.func154, Tryz.ntmps154
    go_wp2_with fail
    go_ret
    exact ⟨by first | rfl | (rw [d0]; rfl), rfl⟩
set_option maxHeartbeats 4000000 in
set_option maxRecDepth 100000 in
theorem shape_r : ∀ (d : Nat), d ≤ 4 → ∀ (t : Ty) (fv : Value) (w : World), nG ≤ w.heap.size → TyAt w fv t →
    Calls Tryz.prog 126 #[.agg #[.int .i64 t.kind, fv], .int .i64 (d : Int)] w fun e w' => e = .returned (.bool (rightTy d t)) ∧ Nw w w' := by
  intro d
  induction d with
  | zero =>
    intro _ t fv w hgb ht
    obtain ⟨fa, fc, rfl, -, -⟩ := ht.cells
    have HN := Lib.hid (nw_alloc w (.cells #[.int .i64 t.kind, .slice fa t.fs.length fc] tTy))
    change Calls Tryz.prog 126 #[.agg #[.int .i64 t.kind, .slice fa t.fs.length fc], .int .i64 0] w _
    go_enter Tryz.func126, Tryz.ntmps126
    go_wp2_with fail
    go_ret
    exact ⟨rfl, HN.out⟩
  | succ d ih =>
    intro hd t fv w hgb ht
    have IH := Lib.hid (ih (by omega))
    obtain ⟨fa, fc, rfl, hfl, hfc⟩ := ht.cells
    have HFC : Hid (FdC w fa t.fs) := hfc
    have n1 := nw_alloc w (.cells #[.int .i64 t.kind, .slice fa t.fs.length fc] tTy)
    have b1 := heap_new w (.cells #[.int .i64 t.kind, .slice fa t.fs.length fc] tTy)
    obtain ⟨W, hW⟩ : ∃ W, W = w.alloc (.cells #[.int .i64 t.kind, .slice fa t.fs.length fc] tTy) := ⟨_, rfl⟩
    rw [← hW] at n1 b1
    have HW := Lib.hid hW
    have HN := Lib.hid n1
    have HC : Hid (∀ y, Nw W y → y.cell? ⟨w.heap.size, 0, none⟩ = some (.int .i64 t.kind) ∧ y.cell? ⟨w.heap.size, 1, none⟩ = some (.slice fa t.fs.length fc)) := fun y u => ⟨by rw [cells_cell (Nw.keep u b1)]; rfl, by rw [cells_cell (Nw.keep u b1)]; rfl⟩
    have HGB : Hid (nG ≤ W.heap.size) := Nat.le_trans hgb n1.size
    obtain ⟨x0, x1⟩ := HC.out W (Upd.refl _ _)
    have hd0 : (((d : Int) + 1) == 0) = false := by simp; omega
    have hd6 : (d : Int) ≤ 6 := by omega
    have hdp : (0 : Int) ≤ (d : Int) := by omega
    have hcast : ((d + 1 : Nat) : Int) = (d : Int) + 1 := by omega
    have HE := Lib.hid (right_eq (d := d) (t := t))
    have hwi := Lib.hid (within_r t.kind W)
    rw [hcast]
    clear ih ht hfc n1 b1 hW hgb
    cases hk : (decide (0 ≤ t.kind) && decide (t.kind ≤ 2)) with
    | false =>
      rw [hk] at hwi
      have e : Hid (rightTy (d + 1) t = false) := by show _ = _; rw [HE.out, hk]; rfl
      clear hk
      go_enter Tryz.func126, Tryz.ntmps126
      go_upto_region 1 with fail
      rw [← HW.out]
      clear HW
      go_wp2_with fail
      (with_reducible refine (hwi.out).mono ?_)
      rintro _ _ ⟨rfl, rfl⟩
      go_wp2_with fail
      go_ret
      exact ⟨by rw [e.out]; rfl, HN.out⟩
    | true =>
    rw [hk] at hwi
    have HK := Lib.hid hk
    clear hk
    by_cases hb : t.kind ≠ 2 ∧ t.fs ≠ []
    · have hk2 : (t.kind == 2) = false := by simp; exact hb.1
      have hk3 : (t.kind != 2) = true := by simp; exact hb.1
      have hlp1 : decide (0 < t.fs.length) = true := decide_eq_true (by have : t.fs.length ≠ 0 := fun e => hb.2 (List.length_eq_zero_iff.1 e); omega)
      have e : Hid (rightTy (d + 1) t = false) := by
        show _ = _
        rw [HE.out, HK.out, decide_eq_false hb.1, show t.fs.isEmpty = false by cases h : t.fs with | nil => exact absurd h hb.2 | cons x r => rfl]; rfl
      clear hb
      go_enter Tryz.func126, Tryz.ntmps126
      go_upto_region 1 with fail
      rw [← HW.out]
      clear HW
      go_wp2_with fail
      (with_reducible refine (hwi.out).mono ?_)
      rintro _ _ ⟨rfl, rfl⟩
      go_wp2_with fail
      go_ret
      exact ⟨by rw [e.out]; rfl, HN.out⟩
    by_cases hk2' : t.kind = 2
    · have hk2 : (t.kind == 2) = true := by simp; exact hk2'
      have hk3 : (t.kind != 2) = false := by simp; exact hk2'
      have e2 : Hid (rightTy (d + 1) t = (decide (t.fs.length ≤ 8) && ascN (t.fs.map (·.1)) && t.fs.all (fun f => rightTy d f.2))) := by
        show _ = _
        rw [HE.out, HK.out, decide_eq_true hk2']; simp
      clear hb hk2' HE HK
      by_cases h8 : 8 < t.fs.length
      · have h8' : (8 : Int) < t.fs.length := by omega
        have e : Hid (rightTy (d + 1) t = false) := by
          show _ = _
          rw [e2.out, decide_eq_false (show ¬ t.fs.length ≤ 8 by omega)]; simp
        clear e2
        go_enter Tryz.func126, Tryz.ntmps126
        go_upto_region 1 with fail
        rw [← HW.out]
        clear HW
        go_wp2_with fail
        (with_reducible refine (hwi.out).mono ?_)
        rintro _ _ ⟨rfl, rfl⟩
        go_wp2_with fail
        go_ret
        exact ⟨by rw [e.out]; rfl, HN.out⟩
      have h8' : (t.fs.length : Int) ≤ 8 := by omega
      have e3 : Hid (rightTy (d + 1) t = (ascN (t.fs.map (·.1)) && t.fs.all (fun f => rightTy d f.2))) := by
        show _ = _
        rw [e2.out, decide_eq_true (show t.fs.length ≤ 8 by omega)]; simp
      clear e2
      have hlab := Lib.hid (labels_r fa fc t.fs W HGB.out (FdC.nw HFC.out HN.out) (by omega))
      go_enter Tryz.func126, Tryz.ntmps126
      go_upto_region 1 with fail
      rw [← HW.out]
      clear HW
      go_wp2_with fail
      (with_reducible refine (hwi.out).mono ?_)
      rintro _ _ ⟨rfl, rfl⟩
      go_wp2_with fail
      (with_reducible refine (hlab.out).mono ?_)
      rintro _ w2 ⟨lv, rfl, HL⟩
      obtain ⟨oa, oc, rfl⟩ := own_slF HL.out.1
      obtain ⟨-, hst⟩ := strC_owns HL.out.1 (fdc_len HFC.out)
      have hasc := ascending_r oa oc (t.fs.map (·.1)) w2 hst (by rw [List.length_map]; omega)
      rw [List.length_map] at hasc
      have HASC := Lib.hid hasc
      have U2 := Lib.hid HL.out.2
      clear hst hasc x0 x1 hlab
      obtain ⟨x0, x1⟩ := HC.out w2 U2.out
      cases has : ascN (t.fs.map (·.1)) with
      | false =>
        rw [has] at HASC
        have e : Hid (rightTy (d + 1) t = false) := by show _ = _; rw [e3.out, has]; rfl
        clear has
        go_wp2_with fail
        (with_reducible refine (HASC.out).mono ?_)
        rintro _ w3 ⟨rfl, u3⟩
        have U3 := Lib.hid (U2.out.trans u3)
        clear u3
        go_wp2_with fail
        go_ret
        exact ⟨by rw [e.out]; rfl, HN.out.trans U3.out⟩
      | true =>
      rw [has] at HASC
      have e4 : Hid (rightTy (d + 1) t = t.fs.all (fun f => rightTy d f.2)) := by show _ = _; rw [e3.out, has]; rfl
      clear has e3
      go_wp2_with fail
      (with_reducible refine (HASC.out).mono ?_)
      rintro _ w3 ⟨rfl, u3⟩
      have U3 := Lib.hid (U2.out.trans u3)
      clear u3 x0 x1
      go_wp2_with fail
      go_loopw [5] (fun iv wr => ∃ n : Nat, n ≤ t.fs.length ∧ iv = .int .i64 (n : Int) ∧ Hid (∀ i (h : i < t.fs.length), i < n → rightTy d (t.fs[i]).2 = true) ∧ Hid (Nw W wr)) (fun iv _ => t.fs.length - (intOf iv).toNat)
      case atStart => exact ⟨0, Nat.zero_le _, rfl, (fun i h h2 => by omega), U3.out⟩
      case round =>
        obtain ⟨n, hn, rfl, hA, hw⟩ := hrel
        obtain ⟨x0, x1⟩ := HC.out wr hw.out
        by_cases hlt : n < t.fs.length
        · have hlt1 : (n : Int) < t.fs.length := by omega
          have hn9 : (n : Int) ≤ 8 := by omega
          have hn0 : decide ((n : Int) < 0) = false := decide_eq_false (by omega)
          rcases HFC.out with hnil | ⟨b, off, rfl, hb, hcell⟩
          · rw [hnil] at hlt; simp at hlt
          obtain ⟨sv, p0, p1, p2, hty, hsl⟩ := hcell n hlt
          obtain ⟨sa, sc, hsv, -⟩ := hty.cells
          subst hsv
          have y1 := nw_cellF (HN.out.trans hw.out) p1
          have y2 := nw_cellF (HN.out.trans hw.out) p2
          have hrec := Lib.hid (IH.out _ _ wr (Nat.le_trans HGB.out hw.out.size) (hty.nw (HN.out.trans hw.out)))
          have hnx : Hid (rightTy d (t.fs[n]).2 = true → ∀ i (h : i < t.fs.length), i < n + 1 → rightTy d (t.fs[i]).2 = true) := fun e i h h2 => by
            by_cases ei : i = n
            · subst ei; exact e
            · exact hA.out i h (by omega)
          have hst : Hid (rightTy d (t.fs[n]).2 = false → rightTy (d + 1) t = false) := fun e => by
            rw [e4.out]
            exact List.all_eq_false.2 ⟨_, List.getElem_mem hlt, by rw [e]; simp⟩
          clear hcell p0 p1 p2 hty hsl
          generalize (t.fs[n]).2 = ft at *
          cases hr : rightTy d ft with
          | true =>
            rw [hr] at hrec hnx
            have hB := Lib.hid (hnx.out rfl)
            clear hr hnx hst
            go_wp2_with fail
            (with_reducible refine (hrec.out).mono ?_)
            rintro _ w4 ⟨rfl, u4⟩
            have U4 := Lib.hid (hw.out.trans u4)
            clear u4
            go_wp2_with fail
            go_roundw
            case rel => exact ⟨n + 1, by omega, by go_num, hB.out, U4.out⟩
            case measure => simp [intOf]; omega
          | false =>
            rw [hr] at hrec hst
            have e := Lib.hid (hst.out rfl)
            clear hr hnx hst
            go_wp2_with fail
            (with_reducible refine (hrec.out).mono ?_)
            rintro _ w4 ⟨rfl, u4⟩
            have U4 := Lib.hid (hw.out.trans u4)
            clear u4
            go_wp2_with fail
            go_ret
            exact ⟨by rw [e.out]; rfl, HN.out.trans U4.out⟩
        · obtain rfl : n = t.fs.length := by omega
          have e : Hid (rightTy (d + 1) t = true) := by
            show _ = _
            rw [e4.out]
            exact List.all_eq_true.2 (fun x hx => by obtain ⟨i, hi, rfl⟩ := List.mem_iff_getElem.1 hx; exact hA.out i hi hi)
          go_wp2_with fail
          go_ret
          exact ⟨by rw [e.out]; rfl, HN.out.trans hw.out⟩
    · have hk2 : (t.kind == 2) = false := by simp; exact hk2'
      have hk3 : (t.kind != 2) = true := by simp; exact hk2'
      have hnil : t.fs = [] := by
        by_cases h : t.fs = []
        · exact h
        · exact absurd ⟨hk2', h⟩ hb
      have hlp1 : decide (0 < t.fs.length) = false := decide_eq_false (by rw [hnil]; simp)
      have e2 : Hid (rightTy (d + 1) t = (decide (t.fs.length ≤ 8) && ascN (t.fs.map (·.1)) && t.fs.all (fun f => rightTy d f.2))) := by
        show _ = _
        rw [HE.out, HK.out, decide_eq_false hk2', hnil]; simp
      clear hb hk2' hnil HE HK
      by_cases h8 : 8 < t.fs.length
      · have h8' : (8 : Int) < t.fs.length := by omega
        have e : Hid (rightTy (d + 1) t = false) := by
          show _ = _
          rw [e2.out, decide_eq_false (show ¬ t.fs.length ≤ 8 by omega)]; simp
        clear e2
        go_enter Tryz.func126, Tryz.ntmps126
        go_upto_region 1 with fail
        rw [← HW.out]
        clear HW
        go_wp2_with fail
        (with_reducible refine (hwi.out).mono ?_)
        rintro _ _ ⟨rfl, rfl⟩
        go_wp2_with fail
        go_ret
        exact ⟨by rw [e.out]; rfl, HN.out⟩
      have h8' : (t.fs.length : Int) ≤ 8 := by omega
      have e3 : Hid (rightTy (d + 1) t = (ascN (t.fs.map (·.1)) && t.fs.all (fun f => rightTy d f.2))) := by
        show _ = _
        rw [e2.out, decide_eq_true (show t.fs.length ≤ 8 by omega)]; simp
      clear e2
      have hlab := Lib.hid (labels_r fa fc t.fs W HGB.out (FdC.nw HFC.out HN.out) (by omega))
      go_enter Tryz.func126, Tryz.ntmps126
      go_upto_region 1 with fail
      rw [← HW.out]
      clear HW
      go_wp2_with fail
      (with_reducible refine (hwi.out).mono ?_)
      rintro _ _ ⟨rfl, rfl⟩
      go_wp2_with fail
      (with_reducible refine (hlab.out).mono ?_)
      rintro _ w2 ⟨lv, rfl, HL⟩
      obtain ⟨oa, oc, rfl⟩ := own_slF HL.out.1
      obtain ⟨-, hst⟩ := strC_owns HL.out.1 (fdc_len HFC.out)
      have hasc := ascending_r oa oc (t.fs.map (·.1)) w2 hst (by rw [List.length_map]; omega)
      rw [List.length_map] at hasc
      have HASC := Lib.hid hasc
      have U2 := Lib.hid HL.out.2
      clear hst hasc x0 x1 hlab
      obtain ⟨x0, x1⟩ := HC.out w2 U2.out
      cases has : ascN (t.fs.map (·.1)) with
      | false =>
        rw [has] at HASC
        have e : Hid (rightTy (d + 1) t = false) := by show _ = _; rw [e3.out, has]; rfl
        clear has
        go_wp2_with fail
        (with_reducible refine (HASC.out).mono ?_)
        rintro _ w3 ⟨rfl, u3⟩
        have U3 := Lib.hid (U2.out.trans u3)
        clear u3
        go_wp2_with fail
        go_ret
        exact ⟨by rw [e.out]; rfl, HN.out.trans U3.out⟩
      | true =>
      rw [has] at HASC
      have e4 : Hid (rightTy (d + 1) t = t.fs.all (fun f => rightTy d f.2)) := by show _ = _; rw [e3.out, has]; rfl
      clear has e3
      go_wp2_with fail
      (with_reducible refine (HASC.out).mono ?_)
      rintro _ w3 ⟨rfl, u3⟩
      have U3 := Lib.hid (U2.out.trans u3)
      clear u3 x0 x1
      go_wp2_with fail
      go_loopw [5] (fun iv wr => ∃ n : Nat, n ≤ t.fs.length ∧ iv = .int .i64 (n : Int) ∧ Hid (∀ i (h : i < t.fs.length), i < n → rightTy d (t.fs[i]).2 = true) ∧ Hid (Nw W wr)) (fun iv _ => t.fs.length - (intOf iv).toNat)
      case atStart => exact ⟨0, Nat.zero_le _, rfl, (fun i h h2 => by omega), U3.out⟩
      case round =>
        obtain ⟨n, hn, rfl, hA, hw⟩ := hrel
        obtain ⟨x0, x1⟩ := HC.out wr hw.out
        by_cases hlt : n < t.fs.length
        · have hlt1 : (n : Int) < t.fs.length := by omega
          have hn9 : (n : Int) ≤ 8 := by omega
          have hn0 : decide ((n : Int) < 0) = false := decide_eq_false (by omega)
          rcases HFC.out with hnil | ⟨b, off, rfl, hb, hcell⟩
          · rw [hnil] at hlt; simp at hlt
          obtain ⟨sv, p0, p1, p2, hty, hsl⟩ := hcell n hlt
          obtain ⟨sa, sc, hsv, -⟩ := hty.cells
          subst hsv
          have y1 := nw_cellF (HN.out.trans hw.out) p1
          have y2 := nw_cellF (HN.out.trans hw.out) p2
          have hrec := Lib.hid (IH.out _ _ wr (Nat.le_trans HGB.out hw.out.size) (hty.nw (HN.out.trans hw.out)))
          have hnx : Hid (rightTy d (t.fs[n]).2 = true → ∀ i (h : i < t.fs.length), i < n + 1 → rightTy d (t.fs[i]).2 = true) := fun e i h h2 => by
            by_cases ei : i = n
            · subst ei; exact e
            · exact hA.out i h (by omega)
          have hst : Hid (rightTy d (t.fs[n]).2 = false → rightTy (d + 1) t = false) := fun e => by
            rw [e4.out]
            exact List.all_eq_false.2 ⟨_, List.getElem_mem hlt, by rw [e]; simp⟩
          clear hcell p0 p1 p2 hty hsl
          generalize (t.fs[n]).2 = ft at *
          cases hr : rightTy d ft with
          | true =>
            rw [hr] at hrec hnx
            have hB := Lib.hid (hnx.out rfl)
            clear hr hnx hst
            go_wp2_with fail
            (with_reducible refine (hrec.out).mono ?_)
            rintro _ w4 ⟨rfl, u4⟩
            have U4 := Lib.hid (hw.out.trans u4)
            clear u4
            go_wp2_with fail
            go_roundw
            case rel => exact ⟨n + 1, by omega, by go_num, hB.out, U4.out⟩
            case measure => simp [intOf]; omega
          | false =>
            rw [hr] at hrec hst
            have e := Lib.hid (hst.out rfl)
            clear hr hnx hst
            go_wp2_with fail
            (with_reducible refine (hrec.out).mono ?_)
            rintro _ w4 ⟨rfl, u4⟩
            have U4 := Lib.hid (hw.out.trans u4)
            clear u4
            go_wp2_with fail
            go_ret
            exact ⟨by rw [e.out]; rfl, HN.out.trans U4.out⟩
        · obtain rfl : n = t.fs.length := by omega
          have e : Hid (rightTy (d + 1) t = true) := by
            show _ = _
            rw [e4.out]
            exact List.all_eq_true.2 (fun x hx => by obtain ⟨i, hi, rfl⟩ := List.mem_iff_getElem.1 hx; exact hA.out i hi hi)
          go_wp2_with fail
          go_ret
          exact ⟨by rw [e.out]; rfl, HN.out.trans hw.out⟩
set_option maxRecDepth 100000 in
theorem RightType_r (fv : Value) (t : Ty) (w : World) (hgb : nG ≤ w.heap.size) (ht : TyAt w fv t) :
    Calls Tryz.prog 86 #[.agg #[.int .i64 t.kind, fv]] w fun e w' => e = .returned (.bool (rightTy 4 t)) ∧ Nw w w' := by
  obtain ⟨fa, fc, rfl, -, -⟩ := ht.cells
  have n1 := nw_alloc w (.cells #[.int .i64 t.kind, .slice fa t.fs.length fc] tTy)
  have b1 := heap_new w (.cells #[.int .i64 t.kind, .slice fa t.fs.length fc] tTy)
  obtain ⟨W, hW⟩ : ∃ W, W = w.alloc (.cells #[.int .i64 t.kind, .slice fa t.fs.length fc] tTy) := ⟨_, rfl⟩
  rw [← hW] at n1 b1
  have HW := Lib.hid hW
  have HN := Lib.hid n1
  have x0 : W.cell? ⟨w.heap.size, 0, none⟩ = some (.int .i64 t.kind) := by rw [cells_cell b1]; rfl
  have x1 : W.cell? ⟨w.heap.size, 1, none⟩ = some (.slice fa t.fs.length fc) := by rw [cells_cell b1]; rfl
  have hr : Hid (Calls Tryz.prog 126 #[.agg #[.int .i64 t.kind, .slice fa t.fs.length fc], .int .i64 4] W fun e w' => e = .returned (.bool (rightTy 4 t)) ∧ Nw W w') := shape_r 4 (Nat.le_refl _) t _ W (Nat.le_trans hgb n1.size) (ht.nw n1)
  clear n1 b1 hW ht hgb
  go_enter Tryz.func86, Tryz.ntmps86
  go_upto_region 1 with fail
  rw [← HW.out]
  clear HW
  go_wp2_with fail
  (with_reducible refine (hr.out).mono ?_)
  rintro _ w2 ⟨rfl, u2⟩
  have U2 := Lib.hid (HN.out.trans u2)
  clear u2
  go_wp2_with fail
  go_ret
  exact ⟨rfl, U2.out⟩
set_option maxRecDepth 100000 in
theorem tyRight_r (fv : Value) (t : Ty) (w : World) (hgb : nG ≤ w.heap.size) (ht : TyAt w fv t) :
    Calls Tryz.prog 50 #[.agg #[.int .i64 t.kind, fv]] w fun e w' => e = .returned (.bool (rightTy 4 t)) ∧ Nw w w' := by
  obtain ⟨fa, fc, rfl, -, -⟩ := ht.cells
  have n1 := nw_alloc w (.cells #[.int .i64 t.kind, .slice fa t.fs.length fc] tTy)
  have b1 := heap_new w (.cells #[.int .i64 t.kind, .slice fa t.fs.length fc] tTy)
  obtain ⟨W, hW⟩ : ∃ W, W = w.alloc (.cells #[.int .i64 t.kind, .slice fa t.fs.length fc] tTy) := ⟨_, rfl⟩
  rw [← hW] at n1 b1
  have HW := Lib.hid hW
  have HN := Lib.hid n1
  have x0 : W.cell? ⟨w.heap.size, 0, none⟩ = some (.int .i64 t.kind) := by rw [cells_cell b1]; rfl
  have x1 : W.cell? ⟨w.heap.size, 1, none⟩ = some (.slice fa t.fs.length fc) := by rw [cells_cell b1]; rfl
  have hr := Lib.hid (RightType_r _ t W (Nat.le_trans hgb n1.size) (ht.nw n1))
  clear n1 b1 hW ht hgb
  go_enter Tryz.func50, Tryz.ntmps50
  go_upto_region 1 with fail
  rw [← HW.out]
  clear HW
  go_wp2_with fail
  (with_reducible refine (hr.out).mono ?_)
  rintro _ w2 ⟨rfl, u2⟩
  have U2 := Lib.hid (HN.out.trans u2)
  clear u2
  go_wp2_with fail
  go_ret
  exact ⟨rfl, U2.out⟩
end Go.Proofs.YthagiklfmkdmaaaGreatDoor
