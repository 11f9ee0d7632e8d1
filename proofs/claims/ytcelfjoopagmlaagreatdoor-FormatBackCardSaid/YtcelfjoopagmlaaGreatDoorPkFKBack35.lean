/- ladinglaw43.agrees, where it holds. -/
import Derived.Test.YtcelfjoopagmlaaGreatDoorPkFKBack34
import Derived.Test.YtcelfjoopagmlaaGreatDoorPkFKBack23
namespace Go.Proofs.YtcelfjoopagmlaaGreatDoor
open Go.RowKit Go.MapKept
set_option linter.unusedVariables false
set_option linter.unusedSimpArgs false
attribute [local irreducible] Calls
open Fm (Ty Vl Str nameB rightTy rightVl)

set_option maxHeartbeats 8000000 in
set_option maxRecDepth 100000 in
theorem agrees_c (P P' : Nat → Prop) : ∀ (d : Nat) (v x : Vl) (nv vv mv xv : Value) (w : World), Fm.agreesP d v x → VlAt P w nv vv v → VlAt P' w mv xv x →
    Calls Tryz.prog 23 #[.agg #[.int .i64 v.kind, .int .i64 v.n, nv, vv], .agg #[.int .i64 x.kind, .int .i64 x.n, mv, xv]] w fun e w' => e = .returned (.bool true) ∧ Nw w w' := by
  intro d
  induction d with
  | zero => intro v x nv vv mv xv w h; exact h.elim
  | succ d ih =>
    intro v x nv vv mv xv w hag hva hxa
    have IH := Lib.hid ih
    obtain ⟨hk, hn, hl1, hl2, hnd, hall⟩ := hag
    obtain ⟨na, nc, rfl, hnl, hnc⟩ := hva.names
    obtain ⟨va, vc, rfl, hvl, hvc⟩ := hva.vals
    obtain ⟨ma, mc, rfl, hml, hmc⟩ := hxa.names
    obtain ⟨xa, xc, rfl, hxl, hxc⟩ := hxa.vals
    rw [← hk, ← hn, ← hl1, ← hl2]
    have HNC : Hid (StrC w na v.names) := hnc
    have HVC : Hid (VsC P w va v.vals) := hvc
    have HMC : Hid (StrC w ma x.names) := hmc
    have HXC : Hid (VsC P' w xa x.vals) := hxc
    have HVL : Hid (v.names.length = v.vals.length ∧ x.names.length = x.vals.length) := ⟨hl1, hl2⟩
    have HND := Lib.hid hnd
    have HALL := Lib.hid hall
    have n1 := nw_alloc w (.cells #[.int .i64 v.kind, .int .i64 v.n, .slice na v.names.length nc, .slice va v.names.length vc] tVl)
    have n2 := nw_alloc (w.alloc (.cells #[.int .i64 v.kind, .int .i64 v.n, .slice na v.names.length nc, .slice va v.names.length vc] tVl)) (.cells #[.int .i64 v.kind, .int .i64 v.n, .slice ma x.names.length mc, .slice xa x.names.length xc] tVl)
    have b1 := n2.keep (heap_new w (.cells #[.int .i64 v.kind, .int .i64 v.n, .slice na v.names.length nc, .slice va v.names.length vc] tVl))
    have b2 := heap_new (w.alloc (.cells #[.int .i64 v.kind, .int .i64 v.n, .slice na v.names.length nc, .slice va v.names.length vc] tVl)) (.cells #[.int .i64 v.kind, .int .i64 v.n, .slice ma x.names.length mc, .slice xa x.names.length xc] tVl)
    rw [World.size_alloc] at b2
    have hN := n1.trans n2
    obtain ⟨W, hW⟩ : ∃ W, W = (w.alloc (.cells #[.int .i64 v.kind, .int .i64 v.n, .slice na v.names.length nc, .slice va v.names.length vc] tVl)).alloc (.cells #[.int .i64 v.kind, .int .i64 v.n, .slice ma x.names.length mc, .slice xa x.names.length xc] tVl) := ⟨_, rfl⟩
    rw [← hW] at hN b1 b2
    have HN := Lib.hid hN
    have HW := Lib.hid hW
    have HC : Hid (∀ y, Nw W y → (y.cell? ⟨w.heap.size, 0, none⟩ = some (.int .i64 v.kind) ∧ y.cell? ⟨w.heap.size, 1, none⟩ = some (.int .i64 v.n) ∧ y.cell? ⟨w.heap.size, 2, none⟩ = some (.slice na v.names.length nc) ∧ y.cell? ⟨w.heap.size, 3, none⟩ = some (.slice va v.names.length vc)) ∧ y.cell? ⟨w.heap.size + 1, 0, none⟩ = some (.int .i64 v.kind) ∧ y.cell? ⟨w.heap.size + 1, 1, none⟩ = some (.int .i64 v.n) ∧ y.cell? ⟨w.heap.size + 1, 2, none⟩ = some (.slice ma x.names.length mc) ∧ y.cell? ⟨w.heap.size + 1, 3, none⟩ = some (.slice xa x.names.length xc)) := fun y u => ⟨cell4F (Nw.keep u b1), cell4F (Nw.keep u b2)⟩
    unfold maxLen at hnl hml
    have hnl1 : (v.names.length : Int) ≤ 9223372036854775807 := by omega
    have hml1 : (x.names.length : Int) ≤ 9223372036854775807 := by omega
    obtain ⟨⟨c0, c1, c2, c3⟩, d0, d1, d2, d3⟩ := HC.out W (Upd.refl _ _)
    clear ih hva hxa hnc hvc hmc hxc n1 n2 b1 b2 hN hW hnl hvl hml hxl hk hn hl1 hl2 hnd hall
    go_enter Tryz.func23, Tryz.ntmps23
    go_upto_region 1 with fail
    rw [← HW.out]
    clear HW
    go_wp2_with fail
    go_loopw [5] (fun iv wr => ∃ i : Nat, i ≤ x.names.length ∧ iv = .int .i64 (i : Int) ∧ Hid (Nw W wr)) (fun iv _ => x.names.length - (intOf iv).toNat)
    case atStart => exact ⟨0, Nat.zero_le _, rfl, Upd.refl _ _⟩
    case round =>
      obtain ⟨i, hi, rfl, hw⟩ := hrel
      clear c0 c1 c2 c3 d0 d1 d2 d3
      obtain ⟨⟨c0, c1, c2, c3⟩, d0, d1, d2, d3⟩ := HC.out wr hw.out
      by_cases hlt : i < x.names.length
      · have hlt1 : (i : Int) < x.names.length := by omega
        have hi9 : (i : Int) ≤ 9223372036854775806 := by omega
        have hi0 : decide ((i : Int) < 0) = false := decide_eq_false (by omega)
        obtain ⟨hix, hag⟩ := HALL.out i hlt
        rcases HMC.out with hnil | ⟨mb, mo, rfl, -, hmcell⟩
        · rw [hnil] at hlt; simp at hlt
        have hxlt : i < x.vals.length := by rw [← HVL.out.2]; exact hlt
        rcases HXC.out with hnil | ⟨xb, xo, rfl, -, hxcell⟩
        · rw [hnil] at hxlt; simp at hxlt
        have p0 := (hmcell i hlt).1
        obtain ⟨nv', vv', q0, q1, q2, q3, q4⟩ := hxcell i hxlt
        obtain ⟨ga, gc, hga, -⟩ := q4.names
        obtain ⟨ka, kc, hka, -⟩ := q4.vals
        subst hga hka
        rw [getD_lt hxlt] at hag
        rcases Fm.idx_cases (x.names[i]) v.names with ⟨hx, hno⟩ | ⟨p, hp, hx, he⟩
        · rw [hx] at hix; simp at hix
        have hpv : p < v.vals.length := by rw [← HVL.out.1]; exact hp
        have hat : v.at_ x.names[i] = v.vals[p] := by unfold Fm.Vl.at_; rw [hx]; simp [hpv]
        rw [hat] at hag
        have HAG := Lib.hid hag
        have HE := Lib.hid he
        have HQ4 := Lib.hid q4
        have HMX : Hid (∀ y, Nw w y → y.cell? ⟨mb, mo + i, none⟩ = some (.string ⟨(x.names[i]).toArray⟩) ∧ y.cell? ⟨xb, xo + i * 4, none⟩ = some (.int .i64 (x.vals[i]).kind) ∧ y.cell? ⟨xb, xo + i * 4 + 1, none⟩ = some (.int .i64 (x.vals[i]).n) ∧ y.cell? ⟨xb, xo + i * 4 + 2, none⟩ = some (.slice ga (x.vals[i]).names.length gc) ∧ y.cell? ⟨xb, xo + i * 4 + 3, none⟩ = some (.slice ka (x.vals[i]).vals.length kc)) := fun y u => ⟨nw_cellF u p0, nw_cellF u q0, nw_cellF u q1, nw_cellF u q2, nw_cellF u q3⟩
        clear hmcell hxcell p0 q0 q1 q2 q3 q4 hix hag hx hat he
        go_wp2_with fail
        go_loopw [6, 7] (fun fv kv wz => ∃ k : Nat, k ≤ v.names.length ∧ fv = .bool (decide (p < k)) ∧ kv = .int .i64 (k : Int) ∧ Hid (Nw W wz)) (fun _ kv _ => v.names.length - (intOf kv).toNat)
        case atStart => exact ⟨0, Nat.zero_le _, rfl, rfl, hw⟩
        case round =>
          obtain ⟨k, hk, rfl, rfl, hwz⟩ := hrel
          clear c0 c1 c2 c3 d0 d1 d2 d3
          obtain ⟨⟨c0, c1, c2, c3⟩, d0, d1, d2, d3⟩ := HC.out _ hwz.out
          have huw := Lib.hid (HN.out.trans hwz.out)
          by_cases hkl : k < v.names.length
          · have hkl1 : (k : Int) < v.names.length := by omega
            have hk9 : (k : Int) ≤ 9223372036854775806 := by omega
            have hk0 : decide ((k : Int) < 0) = false := decide_eq_false (by omega)
            rcases HNC.out with hnil | ⟨nb, no, rfl, -, hncell⟩
            · rw [hnil] at hkl; simp at hkl
            have hkv : k < v.vals.length := by rw [← HVL.out.1]; exact hkl
            rcases HVC.out with hnil | ⟨vb, vo, rfl, -, hvcell⟩
            · rw [hnil] at hkv; simp at hkv
            have r0 := (hncell k hkl).1
            have l1 : ∀ j : Later wr, j.1.cell? ⟨w.heap.size, 2, none⟩ = some (.slice (some ⟨nb, no, none⟩) v.names.length nc) := fun j => (HC.out j.1 (hwz.out.trans j.nw)).1.2.2.1
            have l2 : ∀ j : Later wr, j.1.cell? ⟨w.heap.size + 1, 2, none⟩ = some (.slice (some ⟨mb, mo, none⟩) x.names.length mc) := fun j => (HC.out j.1 (hwz.out.trans j.nw)).2.2.2.1
            have l3 : ∀ j : Later wr, j.1.cell? ⟨mb, mo + i, none⟩ = some (.string ⟨(x.names[i]).toArray⟩) := fun j => (HMX.out j.1 (huw.out.trans j.nw)).1
            by_cases hkp : k = p
            · subst hkp
              have l4 : ∀ j : Later wr, j.1.cell? ⟨nb, no + k, none⟩ = some (.string ⟨(x.names[i]).toArray⟩) := fun j => by rw [← HE.out]; exact nw_cellF (huw.out.trans j.nw) r0
              obtain ⟨nv', vv', q0, q1, q2, q3, q4⟩ := hvcell k hkv
              obtain ⟨fa, fc, hfa, -⟩ := q4.names
              obtain ⟨ea, ec, hea, -⟩ := q4.vals
              subst hfa hea
              have hrec : Hid (∀ z, Nw wr z → _) := fun z (uz : Nw wr z) => IH.out v.vals[k] x.vals[i] _ _ _ _ z HAG.out (q4.nw (huw.out.trans uz)) (HQ4.out.nw (huw.out.trans uz))
              have hdk : decide (k < k + 1) = true := decide_eq_true (by omega)
              have HCC : Hid (∀ y, Nw wr y → (∀ j : Later y, j.1.cell? ⟨w.heap.size, 3, none⟩ = some (.slice (some ⟨vb, vo, none⟩) v.names.length vc)) ∧ (∀ j : Later y, j.1.cell? ⟨w.heap.size + 1, 3, none⟩ = some (.slice (some ⟨xb, xo, none⟩) x.names.length xc)) ∧ ((∀ j : Later y, j.1.cell? ⟨vb, vo + k * 4, none⟩ = some (.int .i64 (v.vals[k]).kind)) ∧ (∀ j : Later y, j.1.cell? ⟨vb, vo + k * 4 + 1, none⟩ = some (.int .i64 (v.vals[k]).n)) ∧ (∀ j : Later y, j.1.cell? ⟨vb, vo + k * 4 + 2, none⟩ = some (.slice fa (v.vals[k]).names.length fc)) ∧ (∀ j : Later y, j.1.cell? ⟨vb, vo + k * 4 + 3, none⟩ = some (.slice ea (v.vals[k]).vals.length ec))) ∧ ((∀ j : Later y, j.1.cell? ⟨xb, xo + i * 4, none⟩ = some (.int .i64 (x.vals[i]).kind)) ∧ (∀ j : Later y, j.1.cell? ⟨xb, xo + i * 4 + 1, none⟩ = some (.int .i64 (x.vals[i]).n)) ∧ (∀ j : Later y, j.1.cell? ⟨xb, xo + i * 4 + 2, none⟩ = some (.slice ga (x.vals[i]).names.length gc)) ∧ (∀ j : Later y, j.1.cell? ⟨xb, xo + i * 4 + 3, none⟩ = some (.slice ka (x.vals[i]).vals.length kc)))) := fun y u =>
                ⟨fun j => (HC.out j.1 (hwz.out.trans (u.trans j.nw))).1.2.2.2, fun j => (HC.out j.1 (hwz.out.trans (u.trans j.nw))).2.2.2.2, ⟨fun j => nw_cellF (huw.out.trans (u.trans j.nw)) q0, fun j => nw_cellF (huw.out.trans (u.trans j.nw)) q1, fun j => nw_cellF (huw.out.trans (u.trans j.nw)) q2, fun j => nw_cellF (huw.out.trans (u.trans j.nw)) q3⟩,
                  fun j => (HMX.out j.1 (huw.out.trans (u.trans j.nw))).2.1, fun j => (HMX.out j.1 (huw.out.trans (u.trans j.nw))).2.2.1, fun j => (HMX.out j.1 (huw.out.trans (u.trans j.nw))).2.2.2.1, fun j => (HMX.out j.1 (huw.out.trans (u.trans j.nw))).2.2.2.2⟩
              clear hncell hvcell r0 q0 q1 q2 q3 q4
              generalize x.names[i] = s at *
              generalize v.vals[k] = va' at *
              generalize x.vals[i] = xa' at *
              go_wp2_with fail
              refine wp_region_nw (by kernel_rfl) (by kernel_rfl) ?_
              repeat (go_big_quiet_step ((fail)))
              refine wpQuiet_nil ?_
              intro w3 u3
              replace u3 := later_out u3
              obtain ⟨e1, e2, ⟨e3, e4, e5, e6⟩, e7, e8, e9, e10⟩ := HCC.out w3 u3
              have hrec3 := Lib.hid (fun z (uz : Nw w3 z) => hrec.out z (u3.trans uz))
              have hw3 := Lib.hid (hwz.out.trans u3)
              clear u3 l1 l2 l3 l4 c0 c1 c2 c3 d0 d1 d2 d3 HCC hrec
              go_wp2_with fail
              refine wp_region_nw (by kernel_rfl) (by kernel_rfl) ?_
              repeat (go_big_quiet_step ((go_at_call 23; exact later_call (hrec3.out _ (Later.nw _)))))
              refine wpQuiet_nil ?_
              intro w4 u4
              replace u4 := later_out u4
              have hw4 := Lib.hid (hw3.out.trans u4)
              clear u4 e1 e2 e3 e4 e5 e6 e7 e8 e9 e10
              go_wp2_with fail
              go_roundw
              case rel => exact ⟨k + 1, by omega, by rw [hdk], by go_num, hw4.out⟩
              case measure => simp [intOf]; omega
            · have l4 : ∀ j : Later wr, j.1.cell? ⟨nb, no + k, none⟩ = some (.string ⟨(v.names[k]).toArray⟩) := fun j => nw_cellF (huw.out.trans j.nw) r0
              have hne : v.names[k] ≠ x.names[i] := fun e => hkp (by
                rw [← HE.out] at e
                exact (List.getElem_inj HND.out).1 e)
              have hdk : decide (p < k + 1) = decide (p < k) := by
                by_cases h : p < k
                · rw [decide_eq_true h, decide_eq_true (show p < k + 1 by omega)]
                · rw [decide_eq_false h, decide_eq_false (show ¬ p < k + 1 by omega)]
              clear hncell hvcell r0
              generalize v.names[k] = sk at *
              generalize x.names[i] = s at *
              have ht1 : (sk == s) = false := by simp; exact hne
              clear hne
              go_wp2_with fail
              refine wp_region_nw (by kernel_rfl) (by kernel_rfl) ?_
              repeat (go_big_quiet_step ((fail)))
              refine wpQuiet_nil ?_
              intro w3 u3
              replace u3 := later_out u3
              have hw3 := Lib.hid (hwz.out.trans u3)
              clear u3 l1 l2 l3 l4
              go_wp2_with fail
              go_roundw
              case rel => exact ⟨k + 1, by omega, by rw [hdk], by go_num, hw3.out⟩
              case measure => simp [intOf]; omega
          · obtain rfl : k = v.names.length := by omega
            have hdp : decide (p < v.names.length) = true := decide_eq_true hp
            rw [hdp]
            go_wp2_with fail
            go_roundw
            case rel => exact ⟨i + 1, by omega, by go_num, hwz⟩
            case measure => simp [intOf]; omega
      · obtain rfl : i = x.names.length := by omega
        go_wp2_with fail
        go_ret
        exact ⟨rfl, HN.out.trans hw.out⟩
end Go.Proofs.YtcelfjoopagmlaaGreatDoor
