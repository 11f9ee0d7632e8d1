/- ladingref43.Alike of one value that lies twice. -/
import Derived.Test.YtcelfjoopagmlaaGreatDoorPkFKChains14
import Derived.Test.YtcelfjoopagmlaaGreatDoorPkFKChains23
namespace Go.Proofs.YtcelfjoopagmlaaGreatDoor
open Go.RowKit Go.MapKept
set_option linter.unusedVariables false
set_option linter.unusedSimpArgs false
attribute [local irreducible] Calls
open Fm (Ty Vl Str nameB rightTy rightVl)

set_option maxHeartbeats 8000000 in
set_option maxRecDepth 100000 in
theorem alike_c (P P' : Nat → Prop) : ∀ (d : Nat) (v : Vl) (nv vv mv xv : Value) (w : World), rightVl d v = true → VlAt P w nv vv v → VlAt P' w mv xv v →
    Calls Tryz.prog 16 #[.agg #[.int .i64 v.kind, .int .i64 v.n, nv, vv], .agg #[.int .i64 v.kind, .int .i64 v.n, mv, xv]] w fun e w' => e = .returned (.bool true) ∧ Nw w w' := by
  intro d
  induction d with
  | zero => intro v nv vv mv xv w h; cases h
  | succ d ih =>
    intro v nv vv mv xv w hr hva hxa
    have IH := Lib.hid ih
    have RV := Lib.hid (Fm.rv_iff.1 hr)
    obtain ⟨na, nc, rfl, hnl, hnc⟩ := hva.names
    obtain ⟨va, vc, rfl, hvl, hvc⟩ := hva.vals
    obtain ⟨ma, mc, rfl, hml, hmc⟩ := hxa.names
    obtain ⟨xa, xc, rfl, hxl, hxc⟩ := hxa.vals
    have HNC : Hid (StrC w na v.names) := hnc
    have HVC : Hid (VsC P w va v.vals) := hvc
    have HMC : Hid (StrC w ma v.names) := hmc
    have HXC : Hid (VsC P' w xa v.vals) := hxc
    have n1 := nw_alloc w (.cells #[.int .i64 v.kind, .int .i64 v.n, .slice na v.names.length nc, .slice va v.vals.length vc] tVl)
    have n2 := nw_alloc (w.alloc (.cells #[.int .i64 v.kind, .int .i64 v.n, .slice na v.names.length nc, .slice va v.vals.length vc] tVl)) (.cells #[.int .i64 v.kind, .int .i64 v.n, .slice ma v.names.length mc, .slice xa v.vals.length xc] tVl)
    have b1 := n2.keep (heap_new w (.cells #[.int .i64 v.kind, .int .i64 v.n, .slice na v.names.length nc, .slice va v.vals.length vc] tVl))
    have b2 := heap_new (w.alloc (.cells #[.int .i64 v.kind, .int .i64 v.n, .slice na v.names.length nc, .slice va v.vals.length vc] tVl)) (.cells #[.int .i64 v.kind, .int .i64 v.n, .slice ma v.names.length mc, .slice xa v.vals.length xc] tVl)
    rw [World.size_alloc] at b2
    have hN := n1.trans n2
    obtain ⟨W, hW⟩ : ∃ W, W = (w.alloc (.cells #[.int .i64 v.kind, .int .i64 v.n, .slice na v.names.length nc, .slice va v.vals.length vc] tVl)).alloc (.cells #[.int .i64 v.kind, .int .i64 v.n, .slice ma v.names.length mc, .slice xa v.vals.length xc] tVl) := ⟨_, rfl⟩
    rw [← hW] at hN b1 b2
    have HN := Lib.hid hN
    have HW := Lib.hid hW
    have HC : Hid (∀ y, Nw W y → (y.cell? ⟨w.heap.size, 0, none⟩ = some (.int .i64 v.kind) ∧ y.cell? ⟨w.heap.size, 1, none⟩ = some (.int .i64 v.n) ∧ y.cell? ⟨w.heap.size, 2, none⟩ = some (.slice na v.names.length nc) ∧ y.cell? ⟨w.heap.size, 3, none⟩ = some (.slice va v.vals.length vc)) ∧ y.cell? ⟨w.heap.size + 1, 0, none⟩ = some (.int .i64 v.kind) ∧ y.cell? ⟨w.heap.size + 1, 1, none⟩ = some (.int .i64 v.n) ∧ y.cell? ⟨w.heap.size + 1, 2, none⟩ = some (.slice ma v.names.length mc) ∧ y.cell? ⟨w.heap.size + 1, 3, none⟩ = some (.slice xa v.vals.length xc)) := fun y u => ⟨cell4F (Nw.keep u b1), cell4F (Nw.keep u b2)⟩
    unfold maxLen at hnl hvl
    have hnl1 : (v.names.length : Int) ≤ 9223372036854775807 := by omega
    have hml1 : (v.vals.length : Int) ≤ 9223372036854775807 := by omega
    obtain ⟨⟨c0, c1, c2, c3⟩, d0, d1, d2, d3⟩ := HC.out W (Upd.refl _ _)
    clear ih hva hxa hnc hvc hmc hxc n1 n2 b1 b2 hN hW hnl hvl hml hxl hr
    go_enter Tryz.func16, Tryz.ntmps16
    go_upto_region 1 with fail
    rw [← HW.out]
    clear HW
    go_wp2_with fail
    go_loopw [5] (fun iv wr => ∃ i : Nat, i ≤ v.names.length ∧ iv = .int .i64 (i : Int) ∧ Hid (Nw W wr)) (fun iv _ => v.names.length - (intOf iv).toNat)
    case atStart => exact ⟨0, Nat.zero_le _, rfl, Upd.refl _ _⟩
    case round =>
      obtain ⟨i, hi, rfl, hw⟩ := hrel
      clear c0 c1 c2 c3 d0 d1 d2 d3
      obtain ⟨⟨c0, c1, c2, c3⟩, d0, d1, d2, d3⟩ := HC.out wr hw.out
      have huw := Lib.hid (HN.out.trans hw.out)
      by_cases hlt : i < v.names.length
      · have hlt1 : (i : Int) < v.names.length := by omega
        have hi9 : (i : Int) ≤ 9223372036854775806 := by omega
        have hi0 : decide ((i : Int) < 0) = false := decide_eq_false (by omega)
        rcases HNC.out with hnil | ⟨nb, no, rfl, -, hncell⟩
        · rw [hnil] at hlt; simp at hlt
        rcases HMC.out with hnil | ⟨mb, mo, rfl, -, hmcell⟩
        · rw [hnil] at hlt; simp at hlt
        have l1 : ∀ j : Later wr, j.1.cell? ⟨w.heap.size, 2, none⟩ = some (.slice (some ⟨nb, no, none⟩) v.names.length nc) := fun j => (HC.out j.1 (hw.out.trans j.nw)).1.2.2.1
        have l2 : ∀ j : Later wr, j.1.cell? ⟨w.heap.size + 1, 2, none⟩ = some (.slice (some ⟨mb, mo, none⟩) v.names.length mc) := fun j => (HC.out j.1 (hw.out.trans j.nw)).2.2.2.1
        have l3 : ∀ j : Later wr, j.1.cell? ⟨nb, no + i, none⟩ = some (.string ⟨(v.names[i]).toArray⟩) := fun j => nw_cellF (huw.out.trans j.nw) (hncell i hlt).1
        have l4 : ∀ j : Later wr, j.1.cell? ⟨mb, mo + i, none⟩ = some (.string ⟨(v.names[i]).toArray⟩) := fun j => nw_cellF (huw.out.trans j.nw) (hmcell i hlt).1
        clear hncell hmcell
        generalize v.names[i] = s at *
        go_wp2_with fail
        refine wp_region_nw (by kernel_rfl) (by kernel_rfl) ?_
        repeat (go_big_quiet_step ((fail)))
        refine wpQuiet_nil ?_
        intro w3 u3
        replace u3 := later_out u3
        have hw3 := Lib.hid (hw.out.trans u3)
        clear u3 l1 l2 l3 l4
        go_wp2_with fail
        go_roundw
        case rel => exact ⟨i + 1, by omega, by go_num, hw3.out⟩
        case measure => simp [intOf]; omega
      · obtain rfl : i = v.names.length := by omega
        go_wp2_with fail
        go_loopw [6] (fun kv wz => ∃ k : Nat, k ≤ v.vals.length ∧ kv = .int .i64 (k : Int) ∧ Hid (Nw W wz)) (fun kv _ => v.vals.length - (intOf kv).toNat)
        case atStart => exact ⟨0, Nat.zero_le _, rfl, hw⟩
        case round =>
          obtain ⟨k, hk, rfl, hwz⟩ := hrel
          clear c0 c1 c2 c3 d0 d1 d2 d3 huw
          obtain ⟨⟨c0, c1, c2, c3⟩, d0, d1, d2, d3⟩ := HC.out _ hwz.out
          have huw := Lib.hid (HN.out.trans hwz.out)
          by_cases hkl : k < v.vals.length
          · have hkl1 : (k : Int) < v.vals.length := by omega
            have hk9 : (k : Int) ≤ 9223372036854775806 := by omega
            have hk0 : decide ((k : Int) < 0) = false := decide_eq_false (by omega)
            rcases HVC.out with hnil | ⟨vb, vo, rfl, -, hvcell⟩
            · rw [hnil] at hkl; simp at hkl
            rcases HXC.out with hnil | ⟨xb, xo, rfl, -, hxcell⟩
            · rw [hnil] at hkl; simp at hkl
            obtain ⟨nv', vv', q0, q1, q2, q3, q4⟩ := hvcell k hkl
            obtain ⟨mv', xv', r0, r1, r2, r3, r4⟩ := hxcell k hkl
            obtain ⟨fa, fc, hfa, -⟩ := q4.names
            obtain ⟨ea, ec, hea, -⟩ := q4.vals
            obtain ⟨ga, gc, hga, -⟩ := r4.names
            obtain ⟨ka, kc, hka, -⟩ := r4.vals
            subst hfa hea hga hka
            have hrec : Hid (∀ z, Nw wr z → _) := fun z (uz : Nw wr z) => IH.out v.vals[k] _ _ _ _ z (RV.out.all _ (List.getElem_mem hkl)) (q4.nw (huw.out.trans uz)) (r4.nw (huw.out.trans uz))
            have e1 : ∀ j : Later wr, j.1.cell? ⟨w.heap.size, 3, none⟩ = some (.slice (some ⟨vb, vo, none⟩) v.vals.length vc) := fun j => (HC.out j.1 (hwz.out.trans j.nw)).1.2.2.2
            have e2 : ∀ j : Later wr, j.1.cell? ⟨w.heap.size + 1, 3, none⟩ = some (.slice (some ⟨xb, xo, none⟩) v.vals.length xc) := fun j => (HC.out j.1 (hwz.out.trans j.nw)).2.2.2.2
            have e3 : ∀ j : Later wr, j.1.cell? ⟨vb, vo + k * 4, none⟩ = some (.int .i64 (v.vals[k]).kind) := fun j => nw_cellF (huw.out.trans j.nw) q0
            have e4 : ∀ j : Later wr, j.1.cell? ⟨vb, vo + k * 4 + 1, none⟩ = some (.int .i64 (v.vals[k]).n) := fun j => nw_cellF (huw.out.trans j.nw) q1
            have e5 : ∀ j : Later wr, j.1.cell? ⟨vb, vo + k * 4 + 2, none⟩ = some (.slice fa (v.vals[k]).names.length fc) := fun j => nw_cellF (huw.out.trans j.nw) q2
            have e6 : ∀ j : Later wr, j.1.cell? ⟨vb, vo + k * 4 + 3, none⟩ = some (.slice ea (v.vals[k]).vals.length ec) := fun j => nw_cellF (huw.out.trans j.nw) q3
            have e7 : ∀ j : Later wr, j.1.cell? ⟨xb, xo + k * 4, none⟩ = some (.int .i64 (v.vals[k]).kind) := fun j => nw_cellF (huw.out.trans j.nw) r0
            have e8 : ∀ j : Later wr, j.1.cell? ⟨xb, xo + k * 4 + 1, none⟩ = some (.int .i64 (v.vals[k]).n) := fun j => nw_cellF (huw.out.trans j.nw) r1
            have e9 : ∀ j : Later wr, j.1.cell? ⟨xb, xo + k * 4 + 2, none⟩ = some (.slice ga (v.vals[k]).names.length gc) := fun j => nw_cellF (huw.out.trans j.nw) r2
            have e10 : ∀ j : Later wr, j.1.cell? ⟨xb, xo + k * 4 + 3, none⟩ = some (.slice ka (v.vals[k]).vals.length kc) := fun j => nw_cellF (huw.out.trans j.nw) r3
            clear hvcell hxcell q0 q1 q2 q3 q4 r0 r1 r2 r3 r4
            generalize v.vals[k] = va' at *
            go_wp2_with fail
            refine wp_region_nw (by kernel_rfl) (by kernel_rfl) ?_
            repeat (go_big_quiet_step ((go_at_call 16; exact later_call (hrec.out _ (Later.nw _)))))
            refine wpQuiet_nil ?_
            intro w4 u4
            replace u4 := later_out u4
            have hw4 := Lib.hid (hwz.out.trans u4)
            clear u4 e1 e2 e3 e4 e5 e6 e7 e8 e9 e10
            go_wp2_with fail
            go_roundw
            case rel => exact ⟨k + 1, by omega, by go_num, hw4.out⟩
            case measure => simp [intOf]; omega
          · obtain rfl : k = v.vals.length := by omega
            go_wp2_with fail
            go_ret
            exact ⟨rfl, HN.out.trans hwz.out⟩
end Go.Proofs.YtcelfjoopagmlaaGreatDoor
