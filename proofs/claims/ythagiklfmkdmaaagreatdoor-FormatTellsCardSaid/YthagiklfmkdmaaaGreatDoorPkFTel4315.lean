/- The reference's values of a type (ladingref23): has, Has. -/
import Derived.Test.YthagiklfmkdmaaaGreatDoorPkFTel4314
import Derived.Test.YthagiklfmkdmaaaGreatDoorPkFTel432
namespace Go.Proofs.YthagiklfmkdmaaaGreatDoor
open Go.RowKit
set_option linter.unusedVariables false
set_option linter.unusedSimpArgs false
attribute [local irreducible] Calls
open Fm (Ty Vl Str nameB rightTy rightVl)

/-- One field of a value. -/
def fitF (d : Nat) (v : Vl) (f : Str × Ty) : Bool := decide (0 ≤ Fm.idx f.1 v.names) && Fm.fits d f.2 (v.at_ f.1)
theorem fits_all {d : Nat} {t : Ty} {v : Vl} (hk : t.kind = v.kind) : Fm.fits (d + 1) t v = t.fs.all (fitF d v) := by
  show (decide (t.kind = v.kind) && t.fs.all (fitF d v)) = _
  rw [decide_eq_true hk, Bool.true_and]
set_option maxHeartbeats 8000000 in
set_option maxRecDepth 100000 in
theorem has_r (P : Nat → Prop) : ∀ (d : Nat) (t : Ty) (fv : Value) (v : Vl) (nv vv : Value) (w : World), rightTy d t = true → rightVl d v = true → TyAt w fv t → VlAt P w nv vv v →
    Calls Tryz.prog 88 #[.agg #[.int .i64 t.kind, fv], .agg #[.int .i64 v.kind, .int .i64 v.n, nv, vv]] w fun e w' => e = .returned (.bool (Fm.fits d t v)) ∧ Nw w w' := by
  intro d
  induction d with
  | zero => intro t fv v nv vv w h; cases h
  | succ d ih =>
    intro t fv v nv vv w hrt hrv hta hva
    have IH := Lib.hid ih
    have RT := Lib.hid (Fm.rt_iff.1 hrt)
    have RV := Lib.hid (Fm.rv_iff.1 hrv)
    obtain ⟨fa, fc, rfl, hfl, hfc⟩ := hta.cells
    obtain ⟨na, nc, rfl, hnl, hnc⟩ := hva.names
    obtain ⟨va, vc, rfl, hvl, hvc⟩ := hva.vals
    have hvn : v.vals.length = v.names.length := RV.out.len.symm
    have HFC : Hid (FdC w fa t.fs) := hfc
    have HNC : Hid (StrC w na v.names) := hnc
    have HVC : Hid (VsC P w va v.vals) := hvc
    have n1 := nw_alloc w (.cells #[.int .i64 t.kind, .slice fa t.fs.length fc] tTy)
    have n2 := nw_alloc (w.alloc (.cells #[.int .i64 t.kind, .slice fa t.fs.length fc] tTy)) (.cells #[.int .i64 v.kind, .int .i64 v.n, .slice na v.names.length nc, .slice va v.vals.length vc] tVl)
    have b1 := n2.keep (heap_new w (.cells #[.int .i64 t.kind, .slice fa t.fs.length fc] tTy))
    have b2 := heap_new (w.alloc (.cells #[.int .i64 t.kind, .slice fa t.fs.length fc] tTy)) (.cells #[.int .i64 v.kind, .int .i64 v.n, .slice na v.names.length nc, .slice va v.vals.length vc] tVl)
    rw [World.size_alloc] at b2
    have hN := n1.trans n2
    obtain ⟨W, hW⟩ : ∃ W, W = (w.alloc (.cells #[.int .i64 t.kind, .slice fa t.fs.length fc] tTy)).alloc (.cells #[.int .i64 v.kind, .int .i64 v.n, .slice na v.names.length nc, .slice va v.vals.length vc] tVl) := ⟨_, rfl⟩
    rw [← hW] at hN b1 b2
    have HN := Lib.hid hN
    have HW := Lib.hid hW
    have HC : Hid (∀ y, Nw W y → (y.cell? ⟨w.heap.size, 0, none⟩ = some (.int .i64 t.kind) ∧ y.cell? ⟨w.heap.size, 1, none⟩ = some (.slice fa t.fs.length fc)) ∧ y.cell? ⟨w.heap.size + 1, 0, none⟩ = some (.int .i64 v.kind) ∧ y.cell? ⟨w.heap.size + 1, 1, none⟩ = some (.int .i64 v.n) ∧ y.cell? ⟨w.heap.size + 1, 2, none⟩ = some (.slice na v.names.length nc) ∧ y.cell? ⟨w.heap.size + 1, 3, none⟩ = some (.slice va v.vals.length vc)) := fun y u => ⟨⟨by rw [cells_cell (Nw.keep u b1)]; rfl, by rw [cells_cell (Nw.keep u b1)]; rfl⟩, cell4F (Nw.keep u b2)⟩
    have HVN := Lib.hid hvn
    have hfl1 : (t.fs.length : Int) ≤ 8 := by have := RT.out.len; omega
    have hnl1 : (v.names.length : Int) ≤ 8 := by have := RV.out.le; omega
    obtain ⟨⟨c0, c1⟩, d0, d1, d2, d3⟩ := HC.out W (Upd.refl _ _)
    clear ih hta hva hfc hnc hvc n1 n2 b1 b2 hN hW hnl hvl hfl hrt hrv hvn
    go_enter Tryz.func88, Tryz.ntmps88
    go_upto_region 1 with fail
    rw [← HW.out]
    clear HW
    by_cases hk : t.kind = v.kind
    rotate_left
    · have e0 : (t.kind == v.kind) = false := by simp [hk]
      have e9 : Hid (Fm.fits (d + 1) t v = false) := by
        show (decide (t.kind = v.kind) && _) = _
        rw [decide_eq_false hk]; rfl
      clear hk
      go_wp2_with fail
      go_ret
      exact ⟨by rw [e9.out]; rfl, HN.out⟩
    have e0 : (t.kind == v.kind) = true := by simp [hk]
    have e9 := Lib.hid (fits_all (d := d) hk)
    clear hk
    go_wp2_with fail
    clear c0 c1 d0 d1 d2 d3
    go_loopw [5] (fun iv wr => ∃ i : Nat, i ≤ t.fs.length ∧ iv = .int .i64 (i : Int) ∧ Hid (∀ j (h : j < t.fs.length), j < i → fitF d v (t.fs[j]) = true) ∧ Hid (Nw W wr)) (fun iv _ => t.fs.length - (intOf iv).toNat)
    case atStart => exact ⟨0, Nat.zero_le _, rfl, (fun i h h2 => by omega), Upd.refl _ _⟩
    case round =>
      obtain ⟨i, hi, rfl, hA, hw⟩ := hrel
      obtain ⟨⟨c0, c1⟩, d0, d1, d2, d3⟩ := HC.out wr hw.out
      by_cases hlt : i < t.fs.length
      · have hlt1 : (i : Int) < t.fs.length := by omega
        have hi9 : (i : Int) ≤ 8 := by omega
        have hi0 : decide ((i : Int) < 0) = false := decide_eq_false (by omega)
        rcases HFC.out with hnil | ⟨fb, fo, rfl, -, hfcell⟩
        · rw [hnil] at hlt; simp at hlt
        obtain ⟨sv, p0, p1, p2, hty, hsl⟩ := hfcell i hlt
        obtain ⟨sa, sc, hsv, -⟩ := hty.cells
        subst hsv
        have HFX : Hid (∀ y, Nw w y → y.cell? ⟨fb, fo + i * 3, none⟩ = some (.string ⟨(t.fs[i]).1.toArray⟩) ∧ y.cell? ⟨fb, fo + i * 3 + 1, none⟩ = some (.int .i64 (t.fs[i]).2.kind) ∧ y.cell? ⟨fb, fo + i * 3 + 2, none⟩ = some (.slice sa (t.fs[i]).2.fs.length sc)) := fun y u => ⟨nw_cellF u p0, nw_cellF u p1, nw_cellF u p2⟩
        have HTY := Lib.hid hty
        have HRF := Lib.hid (RT.out.sub _ (List.getElem_mem hlt))
        have hnx : Hid (fitF d v (t.fs[i]) = true → ∀ j (h : j < t.fs.length), j < i + 1 → fitF d v (t.fs[j]) = true) := fun e j h h2 => by
          by_cases ej : j = i
          · subst ej; exact e
          · exact hA.out j h (by omega)
        have hst : Hid (fitF d v (t.fs[i]) = false → Fm.fits (d + 1) t v = false) := fun e => by
          rw [e9.out]
          exact List.all_eq_false.2 ⟨_, List.getElem_mem hlt, by rw [e]; simp⟩
        -- what the search for the name ends with
        obtain ⟨p, hp⟩ : ∃ p : Nat, Hid ((p = v.names.length ∧ fitF d v (t.fs[i]) = false ∧ ∀ k (h : k < v.names.length), v.names[k] ≠ (t.fs[i]).1) ∨ ∃ h : p < v.names.length, v.names[p] = (t.fs[i]).1 ∧ ∃ h2 : p < v.vals.length, fitF d v (t.fs[i]) = Fm.fits d (t.fs[i]).2 (v.vals[p])) := by
          rcases Fm.idx_cases (t.fs[i]).1 v.names with ⟨hx, hno⟩ | ⟨p, hp, hx, he⟩
          · exact ⟨v.names.length, Or.inl ⟨rfl, by unfold fitF; rw [hx]; rfl, fun k hk e => hno (e ▸ List.getElem_mem hk)⟩⟩
          · have hpv : p < v.vals.length := by rw [HVN.out]; exact hp
            refine ⟨p, Or.inr ⟨hp, he, hpv, ?_⟩⟩
            unfold fitF Fm.Vl.at_
            rw [hx]; simp [hpv]
        have HND : Hid (v.names.Nodup) := Fm.asc_nodup RV.out.asc
        clear hfcell p0 p1 p2 hty hsl
        generalize t.fs[i] = f at *
        obtain ⟨s, ft⟩ := f
        dsimp only at hp HFX HTY HRF
        have HI : Hid (∃ q : Bool, (q = fitF d v (s, ft))) := ⟨_, rfl⟩
        generalize hq : fitF d v (s, ft) = q at *
        have HQ := Lib.hid hq
        clear hq HI
        go_wp2_with fail
        go_loopw [6, 7] (fun gv kv wz => ∃ k : Nat, k ≤ v.names.length ∧ gv = .bool (decide (p < k) && q) ∧ kv = .int .i64 (k : Int) ∧ Hid (Nw W wz)) (fun _ kv _ => v.names.length - (intOf kv).toNat)
        case atStart => exact ⟨0, Nat.zero_le _, by simp, rfl, hw⟩
        case round =>
          obtain ⟨k, hk, rfl, rfl, hwz⟩ := hrel
          clear c0 c1 d0 d1 d2 d3
          obtain ⟨⟨c0, c1⟩, d0, d1, d2, d3⟩ := HC.out _ hwz.out
          have huw := Lib.hid (HN.out.trans hwz.out)
          by_cases hkl : k < v.names.length
          · have hkl1 : (k : Int) < v.names.length := by omega
            have hk9 : (k : Int) ≤ 8 := by omega
            have hk0 : decide ((k : Int) < 0) = false := decide_eq_false (by omega)
            rcases HNC.out with hnil | ⟨nb, no, rfl, -, hncell⟩
            · rw [hnil] at hkl; simp at hkl
            have hkv : k < v.vals.length := by rw [HVN.out]; exact hkl
            have hkv1 : (k : Int) < v.vals.length := by omega
            rcases HVC.out with hnil | ⟨vb, vo, rfl, -, hvcell⟩
            · rw [hnil] at hkv; simp at hkv
            have r0 := (hncell k hkl).1
            have l1 : ∀ j : Later wr, j.1.cell? ⟨w.heap.size + 1, 2, none⟩ = some (.slice (some ⟨nb, no, none⟩) v.names.length nc) := fun j => (HC.out j.1 (hwz.out.trans j.nw)).2.2.2.1
            have l2 : ∀ j : Later wr, j.1.cell? ⟨w.heap.size, 1, none⟩ = some (.slice (some ⟨fb, fo, none⟩) t.fs.length fc) := fun j => (HC.out j.1 (hwz.out.trans j.nw)).1.2
            have l3 : ∀ j : Later wr, j.1.cell? ⟨fb, fo + i * 3, none⟩ = some (.string ⟨s.toArray⟩) := fun j => (HFX.out j.1 (huw.out.trans j.nw)).1
            by_cases he : v.names[k] = s
            · have l4 : ∀ j : Later wr, j.1.cell? ⟨nb, no + k, none⟩ = some (.string ⟨s.toArray⟩) := fun j => by rw [← he]; exact nw_cellF (huw.out.trans j.nw) r0
              have hpk : p = k := by
                rcases hp.out with ⟨_, _, hno⟩ | ⟨h1, h2, _⟩
                · exact absurd he (hno k hkl)
                · exact (List.getElem_inj HND.out).1 (h2.trans he.symm)
              subst hpk
              have hqe : Hid (q = Fm.fits d ft (v.vals[p])) := by
                rcases hp.out with ⟨h1, _⟩ | ⟨_, _, _, h3⟩
                · omega
                · exact h3
              obtain ⟨nv', vv', q0, q1, q2, q3, q4⟩ := hvcell p hkv
              obtain ⟨ga, gc, hga, -⟩ := q4.names
              obtain ⟨ka, kc, hka, -⟩ := q4.vals
              subst hga hka
              have hrec : Hid (∀ z, Nw wr z → _) := fun z (uz : Nw wr z) => IH.out ft _ (v.vals[p]) _ _ z HRF.out (RV.out.all _ (List.getElem_mem hkv)) (HTY.out.nw (huw.out.trans uz)) (q4.nw (huw.out.trans uz))
              have HCC : Hid (∀ y, Nw wr y → (∀ j : Later y, j.1.cell? ⟨w.heap.size + 1, 3, none⟩ = some (.slice (some ⟨vb, vo, none⟩) v.vals.length vc)) ∧ (∀ j : Later y, j.1.cell? ⟨w.heap.size, 1, none⟩ = some (.slice (some ⟨fb, fo, none⟩) t.fs.length fc)) ∧ ((∀ j : Later y, j.1.cell? ⟨vb, vo + p * 4, none⟩ = some (.int .i64 (v.vals[p]).kind)) ∧ (∀ j : Later y, j.1.cell? ⟨vb, vo + p * 4 + 1, none⟩ = some (.int .i64 (v.vals[p]).n)) ∧ (∀ j : Later y, j.1.cell? ⟨vb, vo + p * 4 + 2, none⟩ = some (.slice ga (v.vals[p]).names.length gc)) ∧ (∀ j : Later y, j.1.cell? ⟨vb, vo + p * 4 + 3, none⟩ = some (.slice ka (v.vals[p]).vals.length kc))) ∧ (∀ j : Later y, j.1.cell? ⟨fb, fo + i * 3 + 1, none⟩ = some (.int .i64 ft.kind)) ∧ (∀ j : Later y, j.1.cell? ⟨fb, fo + i * 3 + 2, none⟩ = some (.slice sa ft.fs.length sc))) := fun y u =>
                ⟨fun j => (HC.out j.1 (hwz.out.trans (u.trans j.nw))).2.2.2.2, fun j => (HC.out j.1 (hwz.out.trans (u.trans j.nw))).1.2, ⟨fun j => nw_cellF (huw.out.trans (u.trans j.nw)) q0, fun j => nw_cellF (huw.out.trans (u.trans j.nw)) q1, fun j => nw_cellF (huw.out.trans (u.trans j.nw)) q2, fun j => nw_cellF (huw.out.trans (u.trans j.nw)) q3⟩, fun j => (HFX.out j.1 (huw.out.trans (u.trans j.nw))).2.1, fun j => (HFX.out j.1 (huw.out.trans (u.trans j.nw))).2.2⟩
              have hdk : Hid ((decide (p < p + 1) && q) = Fm.fits d ft (v.vals[p])) := by show _ = _; rw [decide_eq_true (by omega), hqe.out]; rfl
              clear hncell hvcell r0 q0 q1 q2 q3 q4 he hp hqe HQ hnx hst
              generalize v.vals[p] = va' at *
              go_wp2_with fail
              refine wp_region_nw (by kernel_rfl) (by kernel_rfl) ?_
              repeat (go_big_quiet_step ((fail)))
              refine wpQuiet_nil ?_
              intro w3 u3
              replace u3 := later_out u3
              obtain ⟨e1, e2, ⟨e3, e4, e5, e6⟩, e7, e8⟩ := HCC.out w3 u3
              have hrec3 := Lib.hid (fun z (uz : Nw w3 z) => hrec.out z (u3.trans uz))
              have hw3 := Lib.hid (hwz.out.trans u3)
              clear u3 l1 l2 l3 l4 c0 c1 d0 d1 d2 d3 HCC hrec
              go_wp2_with fail
              refine wp_region_nw (by kernel_rfl) (by kernel_rfl) ?_
              repeat (go_big_quiet_step ((go_at_call 88; exact later_call (hrec3.out _ (Later.nw _)))))
              refine wpQuiet_nil ?_
              intro w4 u4
              replace u4 := later_out u4
              have hw4 := Lib.hid (hw3.out.trans u4)
              clear u4 e1 e2 e3 e4 e5 e6 e7 e8
              go_wp2_with fail
              go_roundw
              case rel => exact ⟨p + 1, by omega, by rw [hdk.out], by go_num, hw4.out⟩
              case measure => simp [intOf]; omega
            · have l4 : ∀ j : Later wr, j.1.cell? ⟨nb, no + k, none⟩ = some (.string ⟨(v.names[k]).toArray⟩) := fun j => nw_cellF (huw.out.trans j.nw) r0
              have hpk : p ≠ k := fun e => by
                subst e
                rcases hp.out with ⟨h1, _⟩ | ⟨_, h2, _⟩
                · omega
                · exact he h2
              have hdk : Hid (decide (p < k + 1) = decide (p < k)) := by
                show _ = _
                by_cases h : p < k
                · rw [decide_eq_true h, decide_eq_true (show p < k + 1 by omega)]
                · rw [decide_eq_false h, decide_eq_false (show ¬ p < k + 1 by omega)]
              clear hncell hvcell r0 hp hnx hst hpk
              generalize v.names[k] = sk at *
              have ht1 : (sk == s) = false := by simp; exact he
              clear he
              go_wp2_with fail
              refine wp_region_nw (by kernel_rfl) (by kernel_rfl) ?_
              repeat (go_big_quiet_step ((fail)))
              refine wpQuiet_nil ?_
              intro w3 u3
              replace u3 := later_out u3
              have hw3 := Lib.hid (hwz.out.trans u3)
              clear u3 l1 l2 l3 l4
              go_wp2_with fail
              go_roundw
              case rel => exact ⟨k + 1, by omega, by rw [hdk.out], by go_num, hw3.out⟩
              case measure => simp [intOf]; omega
          · obtain rfl : k = v.names.length := by omega
            have hdq : (decide (p < v.names.length) && q) = q := by
              rcases hp.out with ⟨h1, h2, _⟩ | ⟨h1, _⟩
              · rw [h2, Bool.and_false]
              · rw [decide_eq_true h1, Bool.true_and]
            rw [hdq]
            clear hp hdq
            cases q with
            | true =>
              have hB := Lib.hid (hnx.out rfl)
              clear hnx hst
              go_wp2_with fail
              go_roundw
              case rel => exact ⟨i + 1, by omega, by go_num, hB.out, hwz.out⟩
              case measure => simp [intOf]; omega
            | false =>
              have e8 := Lib.hid (hst.out rfl)
              clear hnx hst
              go_wp2_with fail
              go_ret
              exact ⟨by rw [e8.out]; rfl, HN.out.trans hwz.out⟩
      · obtain rfl : i = t.fs.length := by omega
        have e8 : Hid (Fm.fits (d + 1) t v = true) := by
          show _ = _
          rw [e9.out]
          exact List.all_eq_true.2 (fun x hx => by obtain ⟨j, hj, rfl⟩ := List.mem_iff_getElem.1 hx; exact hA.out j hj hj)
        go_wp2_with fail
        go_ret
        exact ⟨by rw [e8.out]; rfl, HN.out.trans hw.out⟩
set_option maxRecDepth 100000 in
theorem Has_r (P : Nat → Prop) (fv : Value) (t : Ty) (nv vv : Value) (v : Vl) (w : World) (hgb : nG ≤ w.heap.size) (ht : TyAt w fv t) (h : VlAt P w nv vv v) : Calls Tryz.prog 51 #[.agg #[.int .i64 t.kind, fv], .agg #[.int .i64 v.kind, .int .i64 v.n, nv, vv]] w fun e w' => e = .returned (.bool (Fm.has t v)) ∧ Nw w w' := by
  have HR := Lib.hid (fun (z : World) (u : Nw w z) => tyRight_r fv t z (Nat.le_trans hgb u.size) (ht.nw u))
  have HE := Lib.hid (fun (z : World) (u : Nw w z) => vlRight_r P nv vv v z (h.nw u))
  have HF := Lib.hid (fun (z : World) (u : Nw w z) (h1 : rightTy 4 t = true) (h2 : rightVl 4 v = true) => has_r P 4 t fv v nv vv z h1 h2 (ht.nw u) (h.nw u))
  have hdef : Fm.has t v = (rightTy 4 t && rightVl 4 v && Fm.fits 4 t v) := rfl
  have HD := Lib.hid hdef
  obtain ⟨fa, fc, rfl, -⟩ := ht.cells
  obtain ⟨na, nc, rfl, -⟩ := h.names
  obtain ⟨va, vc, rfl, -⟩ := h.vals
  have n1 := nw_alloc w (.cells #[.int .i64 t.kind, .slice fa t.fs.length fc] tTy)
  have n2 := nw_alloc (w.alloc (.cells #[.int .i64 t.kind, .slice fa t.fs.length fc] tTy)) (.cells #[.int .i64 v.kind, .int .i64 v.n, .slice na v.names.length nc, .slice va v.vals.length vc] tVl)
  have b1 := n2.keep (heap_new w (.cells #[.int .i64 t.kind, .slice fa t.fs.length fc] tTy))
  have b2 := heap_new (w.alloc (.cells #[.int .i64 t.kind, .slice fa t.fs.length fc] tTy)) (.cells #[.int .i64 v.kind, .int .i64 v.n, .slice na v.names.length nc, .slice va v.vals.length vc] tVl)
  rw [World.size_alloc] at b2
  have hN := n1.trans n2
  obtain ⟨W, hW⟩ : ∃ W, W = (w.alloc (.cells #[.int .i64 t.kind, .slice fa t.fs.length fc] tTy)).alloc (.cells #[.int .i64 v.kind, .int .i64 v.n, .slice na v.names.length nc, .slice va v.vals.length vc] tVl) := ⟨_, rfl⟩
  rw [← hW] at hN b1 b2
  have HN := Lib.hid hN
  have HW := Lib.hid hW
  have HC := Lib.hid (fun (y : World) (u : Nw W y) => (show (y.cell? ⟨w.heap.size, 0, none⟩ = some (.int .i64 t.kind) ∧ y.cell? ⟨w.heap.size, 1, none⟩ = some (.slice fa t.fs.length fc)) ∧ y.cell? ⟨w.heap.size + 1, 0, none⟩ = some (.int .i64 v.kind) ∧ y.cell? ⟨w.heap.size + 1, 1, none⟩ = some (.int .i64 v.n) ∧ y.cell? ⟨w.heap.size + 1, 2, none⟩ = some (.slice na v.names.length nc) ∧ y.cell? ⟨w.heap.size + 1, 3, none⟩ = some (.slice va v.vals.length vc) from ⟨⟨by rw [cells_cell (Nw.keep u b1)]; rfl, by rw [cells_cell (Nw.keep u b1)]; rfl⟩, cell4F (Nw.keep u b2)⟩))
  have hr1 := Lib.hid (HR.out W hN)
  obtain ⟨⟨c0, c1⟩, _⟩ := HC.out W (Upd.refl _ _)
  clear n1 n2 b1 b2 hN hW ht h HR hdef
  go_enter Tryz.func51, Tryz.ntmps51
  go_upto_region 1 with fail
  rw [← HW.out]
  clear HW
  cases h1 : rightTy 4 t with
  | false =>
    rw [h1] at hr1
    have e9 : Hid (Fm.has t v = false) := by show _ = _; rw [HD.out, h1]; rfl
    clear h1 HE HF
    go_wp2_with fail
    (with_reducible refine (hr1.out).mono ?_)
    rintro _ w2 ⟨rfl, u2⟩
    have U2 := Lib.hid u2
    clear u2
    go_wp2_with fail
    go_ret
    exact ⟨by rw [e9.out]; rfl, HN.out.trans U2.out⟩
  | true =>
  rw [h1] at hr1
  go_wp2_with fail
  (with_reducible refine (hr1.out).mono ?_)
  rintro _ w2 ⟨rfl, u2⟩
  have he1 := Lib.hid (HE.out w2 (HN.out.trans u2))
  obtain ⟨_, d0, d1, d2, d3⟩ := HC.out w2 u2
  have U2 := Lib.hid u2
  clear u2 hr1 c0 c1 HE
  cases h2 : rightVl 4 v with
  | false =>
    rw [h2] at he1
    have e9 : Hid (Fm.has t v = false) := by show _ = _; rw [HD.out, h1, h2]; rfl
    clear h1 h2 HF
    go_wp2_with fail
    (with_reducible refine (he1.out).mono ?_)
    rintro _ w3 ⟨rfl, u3⟩
    have U3 := Lib.hid (U2.out.trans u3)
    clear u3
    go_wp2_with fail
    go_ret
    exact ⟨by rw [e9.out]; rfl, HN.out.trans U3.out⟩
  | true =>
  rw [h2] at he1
  have e9 : Hid (Fm.has t v = Fm.fits 4 t v) := by show _ = _; rw [HD.out, h1, h2]; rfl
  go_wp2_with fail
  (with_reducible refine (he1.out).mono ?_)
  rintro _ w3 ⟨rfl, u3⟩
  have hf1 := Lib.hid (HF.out w3 (HN.out.trans (U2.out.trans u3)) h1 h2)
  obtain ⟨⟨x0, x1⟩, y0, y1, y2, y3⟩ := HC.out w3 (U2.out.trans u3)
  have U3 := Lib.hid (U2.out.trans u3)
  clear u3 he1 d0 d1 d2 d3 HF h1 h2
  generalize Fm.fits 4 t v = fb at *
  go_wp2_with fail
  (with_reducible refine (hf1.out).mono ?_)
  rintro _ w4 ⟨rfl, u4⟩
  have U4 := Lib.hid (U3.out.trans u4)
  clear u4
  go_wp2_with fail
  go_ret
  exact ⟨by rw [e9.out]; rfl, HN.out.trans U4.out⟩
end Go.Proofs.YthagiklfmkdmaaaGreatDoor
