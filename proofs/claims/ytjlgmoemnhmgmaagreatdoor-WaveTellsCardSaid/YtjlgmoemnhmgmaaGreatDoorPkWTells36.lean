/- The reference's Is, with where the service lies; the reference's Mixed. -/
import Derived.Test.YtjlgmoemnhmgmaaGreatDoorPkWTells34
import Derived.Test.YtjlgmoemnhmgmaaGreatDoorPkWTells35
namespace Go.Proofs.YtjlgmoemnhmgmaaGreatDoor
open Go.RowKit
set_option linter.unusedVariables false
set_option linter.unusedSimpArgs false
attribute [local irreducible] Calls
open Fm (Ty Vl Str)
open Wv (Svc FL)
set_option maxHeartbeats 4000000 in
set_option maxRecDepth 100000 in
theorem Is_e (oa na ra da : Option Addr) (oc nc rc dc : Nat) (f : FL) (done : List Bool) (i : Nat) (b off : Nat) (sa fa ga : Option Addr) (sc fc gc : Nat) (w : World) (h : FlAt w oa na ra oc nc f) (hr : Wv.Rg f) (hd : BC w da done) (hi : i < f.runs.length) (hloc : (if Wv.ver done i then na else oa) = some ⟨b, off, none⟩) (hk : SvcK w b (off + Wv.run f i * 6) (Wv.svcAt f (Wv.run f i) (Wv.ver done i)) sa fa ga sc fc gc) :
    Calls Tryz.prog 32 #[.agg (flV oa na ra oc nc rc f), .slice da done.length dc, .int .i64 (i : Int)] w fun e w' => e = .returned (svV (Wv.svcAt f (Wv.run f i) (Wv.ver done i)) sa fa ga sc fc gc) ∧ Nw w w' := by
  unfold flV svV
  have n1 := nw_alloc w (.cells #[.slice oa f.old.length oc, .slice na f.new.length nc, .slice ra f.runs.length rc] tFl)
  have b1 := heap_new w (.cells #[.slice oa f.old.length oc, .slice na f.new.length nc, .slice ra f.runs.length rc] tFl)
  have hfew := hr.few
  have h8 := hr.old8
  obtain ⟨hro, hrv⟩ := run_lt hr hi
  have hrn : Wv.run f i < f.new.length := by rw [← hr.len]; exact hro
  have hdl : ∀ (n : Nat), i < done.length → ∃ db off, da = some ⟨db, off, none⟩ ∧ w.cell? ⟨db, off + i, none⟩ = some (.bool (Wv.ver done i)) := fun n hlt => by
    rcases hd with hnil | ⟨b, off, rfl, _, hcell⟩
    · rw [hnil] at hlt; simp at hlt
    · refine ⟨b, off, rfl, ?_⟩
      rw [hcell i hlt, show Wv.ver done i = done[i] from getD_of hlt]
  rcases h.runs with hnil | ⟨rb, ro, rfl, hrb, hrcell⟩
  · rw [hnil] at hi; simp at hi
  have hrc := hrcell i hi
  rw [hrv] at hrc
  obtain ⟨W1, hW⟩ : ∃ z, z = w.alloc (.cells #[.slice oa f.old.length oc, .slice na f.new.length nc, .slice (some ⟨rb, ro, none⟩) f.runs.length rc] tFl) := ⟨_, rfl⟩
  rw [← hW] at n1 b1
  have HWS : Hid (W1.heap.size = w.heap.size + 1) := by show _ = _; rw [hW]; simp
  have HW := Lib.hid hW
  have HN := Lib.hid n1
  have HX : Hid (∀ y, Nw W1 y → y.cell? ⟨w.heap.size, 0, none⟩ = some (.slice oa f.old.length oc) ∧ y.cell? ⟨w.heap.size, 1, none⟩ = some (.slice na f.new.length nc) ∧ y.cell? ⟨w.heap.size, 2, none⟩ = some (.slice (some ⟨rb, ro, none⟩) f.runs.length rc)) := fun y u => ⟨by rw [cells_cell (Nw.keep u b1)]; rfl, by rw [cells_cell (Nw.keep u b1)]; rfl, by rw [cells_cell (Nw.keep u b1)]; rfl⟩
  have hi9 : (i : Int) ≤ 400 := by omega
  have hi0 : decide ((i : Int) < 0) = false := decide_eq_false (by omega)
  have hil : (i : Int) < f.runs.length := by omega
  have hr0 : decide ((Wv.run f i : Int) < 0) = false := decide_eq_false (by omega)
  have hro1 : (Wv.run f i : Int) < f.old.length := by omega
  have hrn1 : (Wv.run f i : Int) < f.new.length := by omega
  have hr9 : (Wv.run f i : Int) ≤ 8 := by omega
  clear hrcell b1 hW h hd
  cases hv : Wv.ver done i with
  | true =>
    have hlt : i < done.length := by
      rcases Nat.lt_or_ge i done.length with h1 | h1
      · exact h1
      · unfold Wv.ver at hv
        rw [getD_no (by omega)] at hv; cases hv
    obtain ⟨db, dof, rfl, hdc⟩ := hdl 0 hlt
    rw [hv] at hdc hk
    rw [hv, if_pos rfl] at hloc
    subst hloc
    generalize Wv.svcAt f (Wv.run f i) true = sv at *
    have ddl : (i : Int) < done.length := by omega
    have ddc : ∀ o, (W1.alloc o).cell? ⟨db, dof + i, none⟩ = some (.bool true) := fun o => nw_cellF (n1.trans (nw_alloc W1 o)) hdc
    -- 2: the region, 1: the fleet's cell, (.slice (some ⟨b, off, none⟩) f.new.length nc): the slice, trivial: the fact on the services, 2.1: that there are enough
    have HS : Hid (∀ y, Nw W1 y → y.cell? ⟨w.heap.size, 1, none⟩ = some (.slice (some ⟨b, off, none⟩) f.new.length nc) ∧ y.cell? ⟨w.heap.size, 2, none⟩ = some (.slice (some ⟨rb, ro, none⟩) f.runs.length rc) ∧ y.cell? ⟨rb, ro + i, none⟩ = some (.int .i64 (Wv.run f i : Int)) ∧ y.cell? ⟨b, off + Wv.run f i * 6, none⟩ = some (.string ⟨sv.name.toArray⟩) ∧ y.cell? ⟨b, off + Wv.run f i * 6 + 1, none⟩ = some (.slice sa sv.sends.length sc) ∧ y.cell? ⟨b, off + Wv.run f i * 6 + 2, none⟩ = some (.int .i64 sv.wr.kind) ∧ y.cell? ⟨b, off + Wv.run f i * 6 + 3, none⟩ = some (.slice fa sv.wr.fs.length fc) ∧ y.cell? ⟨b, off + Wv.run f i * 6 + 4, none⟩ = some (.int .i64 sv.rd.kind) ∧ y.cell? ⟨b, off + Wv.run f i * 6 + 5, none⟩ = some (.slice ga sv.rd.fs.length gc)) := fun y u => by
      obtain ⟨d0, d1, d2, d3, d4, d5⟩ := hk.nw (n1.trans u)
      exact ⟨(HX.out y u).2.1, (HX.out y u).2.2, nw_cellF (n1.trans u) hrc, d0, d1, d2, d3, d4, d5⟩
    clear hdl hdc hv n1 hk hrc
    go_enter Tryz.func32, Tryz.ntmps32
    go_upto_region 1 with fail
    rw [← HW.out, ← HWS.out]
    clear HW HWS
    go_upto_region 2 with fail
    refine wp_region_G (fun y => y.cell? ⟨w.heap.size, 1, none⟩ = some (.slice (some ⟨b, off, none⟩) f.new.length nc) ∧ y.cell? ⟨w.heap.size, 2, none⟩ = some (.slice (some ⟨rb, ro, none⟩) f.runs.length rc) ∧ y.cell? ⟨rb, ro + i, none⟩ = some (.int .i64 (Wv.run f i : Int)) ∧ y.cell? ⟨b, off + Wv.run f i * 6, none⟩ = some (.string ⟨sv.name.toArray⟩) ∧ y.cell? ⟨b, off + Wv.run f i * 6 + 1, none⟩ = some (.slice sa sv.sends.length sc) ∧ y.cell? ⟨b, off + Wv.run f i * 6 + 2, none⟩ = some (.int .i64 sv.wr.kind) ∧ y.cell? ⟨b, off + Wv.run f i * 6 + 3, none⟩ = some (.slice fa sv.wr.fs.length fc) ∧ y.cell? ⟨b, off + Wv.run f i * 6 + 4, none⟩ = some (.int .i64 sv.rd.kind) ∧ y.cell? ⟨b, off + Wv.run f i * 6 + 5, none⟩ = some (.slice ga sv.rd.fs.length gc)) 9 (by kernel_rfl) ?_
    refine wpAnyG_pure (i := 0) (v := ?_) rfl (by kernel_rfl) (by kernel_rfl) (by kernel_rfl) (by kernel_rfl) (by kernel_rfl) (fun _ _ _ h => h) (by kernel_rfl) ?_ (fun _ => HS.out _ (nw_alloc _ _).drew) ?_
    rotate_left 1
    · (intro zz; go_simp; first | done | with_reducible rfl)
    (try simp only [Act.put, List.setIfInBounds_toArray, List.set_cons_zero, List.set_cons_succ])
    refine wpAnyG_load (i := 1) (v := ?_) [] rfl (by kernel_rfl) (by kernel_rfl) (by kernel_rfl) (by kernel_rfl) (by kernel_rfl) (by kernel_rfl) (fun _ _ _ h => h) (by kernel_rfl) ?_ (fun _ => HS.out _ (nw_alloc _ _).drew) ?_
    rotate_left 1
    · (intro zz hS; obtain ⟨_, _, _, _, _, _, _, _, _⟩ := hS; go_simp; first | done | with_reducible rfl)
    (try simp only [Act.put, List.setIfInBounds_toArray, List.set_cons_zero, List.set_cons_succ])
    refine wpAnyG_pure (i := 2) (v := ?_) rfl (by kernel_rfl) (by kernel_rfl) (by kernel_rfl) (by kernel_rfl) (by kernel_rfl) (fun _ _ _ h => h) (by kernel_rfl) ?_ (fun _ => HS.out _ (nw_alloc _ _).drew) ?_
    rotate_left 1
    · (intro zz; go_simp; first | done | with_reducible rfl)
    (try simp only [Act.put, List.setIfInBounds_toArray, List.set_cons_zero, List.set_cons_succ])
    refine wpAnyG_load (i := 3) (v := ?_) [] rfl (by kernel_rfl) (by kernel_rfl) (by kernel_rfl) (by kernel_rfl) (by kernel_rfl) (by kernel_rfl) (fun _ _ _ h => h) (by kernel_rfl) ?_ (fun _ => HS.out _ (nw_alloc _ _).drew) ?_
    rotate_left 1
    · (intro zz hS; obtain ⟨_, _, _, _, _, _, _, _, _⟩ := hS; go_simp; first | done | with_reducible rfl)
    (try simp only [Act.put, List.setIfInBounds_toArray, List.set_cons_zero, List.set_cons_succ])
    refine wpAnyG_pure (i := 4) (v := ?_) rfl (by kernel_rfl) (by kernel_rfl) (by kernel_rfl) (by kernel_rfl) (by kernel_rfl) (fun _ _ _ h => h) (by kernel_rfl) ?_ (fun _ => HS.out _ (nw_alloc _ _).drew) ?_
    rotate_left 1
    · (intro zz; go_simp; first | done | with_reducible rfl)
    (try simp only [Act.put, List.setIfInBounds_toArray, List.set_cons_zero, List.set_cons_succ])
    refine wpAnyG_pure (i := 5) (v := ?_) rfl (by kernel_rfl) (by kernel_rfl) (by kernel_rfl) (by kernel_rfl) (by kernel_rfl) (fun _ _ _ h => h) (by kernel_rfl) ?_ (fun _ => HS.out _ (nw_alloc _ _).drew) ?_
    rotate_left 1
    · (intro zz; go_simp; first | done | with_reducible rfl)
    (try simp only [Act.put, List.setIfInBounds_toArray, List.set_cons_zero, List.set_cons_succ])
    refine wpAnyG_load (i := 6) (v := ?_) [] rfl (by kernel_rfl) (by kernel_rfl) (by kernel_rfl) (by kernel_rfl) (by kernel_rfl) (by kernel_rfl) (fun _ _ _ h => h) (by kernel_rfl) ?_ (fun _ => HS.out _ (nw_alloc _ _).drew) ?_
    rotate_left 1
    · (intro zz hS; obtain ⟨_, _, _, _, _, _, _, _, _⟩ := hS; go_simp; first | done | with_reducible rfl)
    (try simp only [Act.put, List.setIfInBounds_toArray, List.set_cons_zero, List.set_cons_succ])
    refine wpAnyG_pure (i := 7) (v := ?_) rfl (by kernel_rfl) (by kernel_rfl) (by kernel_rfl) (by kernel_rfl) (by kernel_rfl) (fun _ _ _ h => h) (by kernel_rfl) ?_ (fun _ => HS.out _ (nw_alloc _ _).drew) ?_
    rotate_left 1
    · (intro zz; go_simp; first | done | with_reducible rfl)
    (try simp only [Act.put, List.setIfInBounds_toArray, List.set_cons_zero, List.set_cons_succ])
    refine wpAnyG_load (i := 8) (v := ?_) [] rfl (by kernel_rfl) (by kernel_rfl) (by kernel_rfl) (by kernel_rfl) (by kernel_rfl) (by kernel_rfl) (fun _ _ _ h => h) (by kernel_rfl) ?_ (fun _ => HS.out _ (nw_alloc _ _).drew) ?_
    rotate_left 1
    · (intro zz hS; obtain ⟨_, _, _, _, _, _, _, _, _⟩ := hS; go_simp; first | done | with_reducible rfl)
    (try simp only [Act.put, List.setIfInBounds_toArray, List.set_cons_zero, List.set_cons_succ])
    refine wpAnyG_ready [9] (by kernel_rfl) (by simp) ?_
    refine AllG.cons rfl (fun K hK => ?_) AllG.nil
    go_simp
    refine hK.out _ _ (fun e => absurd (show true = false from e) (by decide)) ?_
    clear hK K
    (try simp only [Act.put, List.setIfInBounds_toArray, List.set_cons_zero, List.set_cons_succ])
    refine wpAnyG_done (by kernel_rfl) ?_ _
    go_wp2_with fail
    refine bodyPost_ret (is_results _ _ W1.heap.size (.string ⟨sv.name.toArray⟩) (.slice sa sv.sends.length sc) (.int .i64 sv.wr.kind) (.slice fa sv.wr.fs.length fc) (.int .i64 sv.rd.kind) (.slice ga sv.rd.fs.length gc) rfl ?_) rfl ?_
    · exact heap_new W1 _
    · exact ⟨rfl, HN.out.trans (nw_alloc _ _).drew⟩
  | false =>
    rw [hv] at hk
    rw [hv, if_neg (by simp)] at hloc
    subst hloc
    generalize Wv.svcAt f (Wv.run f i) false = sv at *
    -- 3: the region, 0: the fleet's cell, (.slice (some ⟨b, off, none⟩) f.old.length oc): the slice, trivial: the fact on the services, 1: that there are enough
    have HS : Hid (∀ y, Nw W1 y → y.cell? ⟨w.heap.size, 0, none⟩ = some (.slice (some ⟨b, off, none⟩) f.old.length oc) ∧ y.cell? ⟨w.heap.size, 2, none⟩ = some (.slice (some ⟨rb, ro, none⟩) f.runs.length rc) ∧ y.cell? ⟨rb, ro + i, none⟩ = some (.int .i64 (Wv.run f i : Int)) ∧ y.cell? ⟨b, off + Wv.run f i * 6, none⟩ = some (.string ⟨sv.name.toArray⟩) ∧ y.cell? ⟨b, off + Wv.run f i * 6 + 1, none⟩ = some (.slice sa sv.sends.length sc) ∧ y.cell? ⟨b, off + Wv.run f i * 6 + 2, none⟩ = some (.int .i64 sv.wr.kind) ∧ y.cell? ⟨b, off + Wv.run f i * 6 + 3, none⟩ = some (.slice fa sv.wr.fs.length fc) ∧ y.cell? ⟨b, off + Wv.run f i * 6 + 4, none⟩ = some (.int .i64 sv.rd.kind) ∧ y.cell? ⟨b, off + Wv.run f i * 6 + 5, none⟩ = some (.slice ga sv.rd.fs.length gc)) := fun y u => by
      obtain ⟨d0, d1, d2, d3, d4, d5⟩ := hk.nw (n1.trans u)
      exact ⟨(HX.out y u).1, (HX.out y u).2.2, nw_cellF (n1.trans u) hrc, d0, d1, d2, d3, d4, d5⟩
    by_cases hlt : i < done.length
    · obtain ⟨db, dof, rfl, hdc⟩ := hdl 0 hlt
      rw [hv] at hdc
      have ddl : (i : Int) < done.length := by omega
      have ddc : ∀ o, (W1.alloc o).cell? ⟨db, dof + i, none⟩ = some (.bool false) := fun o => nw_cellF (n1.trans (nw_alloc W1 o)) hdc
      clear hdl hdc hv n1 hk hrc
      go_enter Tryz.func32, Tryz.ntmps32
      go_upto_region 1 with fail
      rw [← HW.out, ← HWS.out]
      clear HW HWS
      go_upto_region 3 with fail
      refine wp_region_G (fun y => y.cell? ⟨w.heap.size, 0, none⟩ = some (.slice (some ⟨b, off, none⟩) f.old.length oc) ∧ y.cell? ⟨w.heap.size, 2, none⟩ = some (.slice (some ⟨rb, ro, none⟩) f.runs.length rc) ∧ y.cell? ⟨rb, ro + i, none⟩ = some (.int .i64 (Wv.run f i : Int)) ∧ y.cell? ⟨b, off + Wv.run f i * 6, none⟩ = some (.string ⟨sv.name.toArray⟩) ∧ y.cell? ⟨b, off + Wv.run f i * 6 + 1, none⟩ = some (.slice sa sv.sends.length sc) ∧ y.cell? ⟨b, off + Wv.run f i * 6 + 2, none⟩ = some (.int .i64 sv.wr.kind) ∧ y.cell? ⟨b, off + Wv.run f i * 6 + 3, none⟩ = some (.slice fa sv.wr.fs.length fc) ∧ y.cell? ⟨b, off + Wv.run f i * 6 + 4, none⟩ = some (.int .i64 sv.rd.kind) ∧ y.cell? ⟨b, off + Wv.run f i * 6 + 5, none⟩ = some (.slice ga sv.rd.fs.length gc)) 9 (by kernel_rfl) ?_
      refine wpAnyG_pure (i := 0) (v := ?_) rfl (by kernel_rfl) (by kernel_rfl) (by kernel_rfl) (by kernel_rfl) (by kernel_rfl) (fun _ _ _ h => h) (by kernel_rfl) ?_ (fun _ => HS.out _ (nw_alloc _ _).drew) ?_
      rotate_left 1
      · (intro zz; go_simp; first | done | with_reducible rfl)
      (try simp only [Act.put, List.setIfInBounds_toArray, List.set_cons_zero, List.set_cons_succ])
      refine wpAnyG_load (i := 1) (v := ?_) [] rfl (by kernel_rfl) (by kernel_rfl) (by kernel_rfl) (by kernel_rfl) (by kernel_rfl) (by kernel_rfl) (fun _ _ _ h => h) (by kernel_rfl) ?_ (fun _ => HS.out _ (nw_alloc _ _).drew) ?_
      rotate_left 1
      · (intro zz hS; obtain ⟨_, _, _, _, _, _, _, _, _⟩ := hS; go_simp; first | done | with_reducible rfl)
      (try simp only [Act.put, List.setIfInBounds_toArray, List.set_cons_zero, List.set_cons_succ])
      refine wpAnyG_pure (i := 2) (v := ?_) rfl (by kernel_rfl) (by kernel_rfl) (by kernel_rfl) (by kernel_rfl) (by kernel_rfl) (fun _ _ _ h => h) (by kernel_rfl) ?_ (fun _ => HS.out _ (nw_alloc _ _).drew) ?_
      rotate_left 1
      · (intro zz; go_simp; first | done | with_reducible rfl)
      (try simp only [Act.put, List.setIfInBounds_toArray, List.set_cons_zero, List.set_cons_succ])
      refine wpAnyG_load (i := 3) (v := ?_) [] rfl (by kernel_rfl) (by kernel_rfl) (by kernel_rfl) (by kernel_rfl) (by kernel_rfl) (by kernel_rfl) (fun _ _ _ h => h) (by kernel_rfl) ?_ (fun _ => HS.out _ (nw_alloc _ _).drew) ?_
      rotate_left 1
      · (intro zz hS; obtain ⟨_, _, _, _, _, _, _, _, _⟩ := hS; go_simp; first | done | with_reducible rfl)
      (try simp only [Act.put, List.setIfInBounds_toArray, List.set_cons_zero, List.set_cons_succ])
      refine wpAnyG_pure (i := 4) (v := ?_) rfl (by kernel_rfl) (by kernel_rfl) (by kernel_rfl) (by kernel_rfl) (by kernel_rfl) (fun _ _ _ h => h) (by kernel_rfl) ?_ (fun _ => HS.out _ (nw_alloc _ _).drew) ?_
      rotate_left 1
      · (intro zz; go_simp; first | done | with_reducible rfl)
      (try simp only [Act.put, List.setIfInBounds_toArray, List.set_cons_zero, List.set_cons_succ])
      refine wpAnyG_pure (i := 5) (v := ?_) rfl (by kernel_rfl) (by kernel_rfl) (by kernel_rfl) (by kernel_rfl) (by kernel_rfl) (fun _ _ _ h => h) (by kernel_rfl) ?_ (fun _ => HS.out _ (nw_alloc _ _).drew) ?_
      rotate_left 1
      · (intro zz; go_simp; first | done | with_reducible rfl)
      (try simp only [Act.put, List.setIfInBounds_toArray, List.set_cons_zero, List.set_cons_succ])
      refine wpAnyG_load (i := 6) (v := ?_) [] rfl (by kernel_rfl) (by kernel_rfl) (by kernel_rfl) (by kernel_rfl) (by kernel_rfl) (by kernel_rfl) (fun _ _ _ h => h) (by kernel_rfl) ?_ (fun _ => HS.out _ (nw_alloc _ _).drew) ?_
      rotate_left 1
      · (intro zz hS; obtain ⟨_, _, _, _, _, _, _, _, _⟩ := hS; go_simp; first | done | with_reducible rfl)
      (try simp only [Act.put, List.setIfInBounds_toArray, List.set_cons_zero, List.set_cons_succ])
      refine wpAnyG_pure (i := 7) (v := ?_) rfl (by kernel_rfl) (by kernel_rfl) (by kernel_rfl) (by kernel_rfl) (by kernel_rfl) (fun _ _ _ h => h) (by kernel_rfl) ?_ (fun _ => HS.out _ (nw_alloc _ _).drew) ?_
      rotate_left 1
      · (intro zz; go_simp; first | done | with_reducible rfl)
      (try simp only [Act.put, List.setIfInBounds_toArray, List.set_cons_zero, List.set_cons_succ])
      refine wpAnyG_load (i := 8) (v := ?_) [] rfl (by kernel_rfl) (by kernel_rfl) (by kernel_rfl) (by kernel_rfl) (by kernel_rfl) (by kernel_rfl) (fun _ _ _ h => h) (by kernel_rfl) ?_ (fun _ => HS.out _ (nw_alloc _ _).drew) ?_
      rotate_left 1
      · (intro zz hS; obtain ⟨_, _, _, _, _, _, _, _, _⟩ := hS; go_simp; first | done | with_reducible rfl)
      (try simp only [Act.put, List.setIfInBounds_toArray, List.set_cons_zero, List.set_cons_succ])
      refine wpAnyG_ready [9] (by kernel_rfl) (by simp) ?_
      refine AllG.cons rfl (fun K hK => ?_) AllG.nil
      go_simp
      refine hK.out _ _ (fun e => absurd (show true = false from e) (by decide)) ?_
      clear hK K
      (try simp only [Act.put, List.setIfInBounds_toArray, List.set_cons_zero, List.set_cons_succ])
      refine wpAnyG_done (by kernel_rfl) ?_ _
      go_wp2_with fail
      refine bodyPost_ret (is_results _ _ W1.heap.size (.string ⟨sv.name.toArray⟩) (.slice sa sv.sends.length sc) (.int .i64 sv.wr.kind) (.slice fa sv.wr.fs.length fc) (.int .i64 sv.rd.kind) (.slice ga sv.rd.fs.length gc) rfl ?_) rfl ?_
      · exact heap_new W1 _
      · exact ⟨rfl, HN.out.trans (nw_alloc _ _).drew⟩
    · have ddl : ¬ (i : Int) < done.length := by omega
      clear hdl hv n1 hk hrc
      go_enter Tryz.func32, Tryz.ntmps32
      go_upto_region 1 with fail
      rw [← HW.out, ← HWS.out]
      clear HW HWS
      go_upto_region 3 with fail
      refine wp_region_G (fun y => y.cell? ⟨w.heap.size, 0, none⟩ = some (.slice (some ⟨b, off, none⟩) f.old.length oc) ∧ y.cell? ⟨w.heap.size, 2, none⟩ = some (.slice (some ⟨rb, ro, none⟩) f.runs.length rc) ∧ y.cell? ⟨rb, ro + i, none⟩ = some (.int .i64 (Wv.run f i : Int)) ∧ y.cell? ⟨b, off + Wv.run f i * 6, none⟩ = some (.string ⟨sv.name.toArray⟩) ∧ y.cell? ⟨b, off + Wv.run f i * 6 + 1, none⟩ = some (.slice sa sv.sends.length sc) ∧ y.cell? ⟨b, off + Wv.run f i * 6 + 2, none⟩ = some (.int .i64 sv.wr.kind) ∧ y.cell? ⟨b, off + Wv.run f i * 6 + 3, none⟩ = some (.slice fa sv.wr.fs.length fc) ∧ y.cell? ⟨b, off + Wv.run f i * 6 + 4, none⟩ = some (.int .i64 sv.rd.kind) ∧ y.cell? ⟨b, off + Wv.run f i * 6 + 5, none⟩ = some (.slice ga sv.rd.fs.length gc)) 9 (by kernel_rfl) ?_
      refine wpAnyG_pure (i := 0) (v := ?_) rfl (by kernel_rfl) (by kernel_rfl) (by kernel_rfl) (by kernel_rfl) (by kernel_rfl) (fun _ _ _ h => h) (by kernel_rfl) ?_ (fun _ => HS.out _ (nw_alloc _ _).drew) ?_
      rotate_left 1
      · (intro zz; go_simp; first | done | with_reducible rfl)
      (try simp only [Act.put, List.setIfInBounds_toArray, List.set_cons_zero, List.set_cons_succ])
      refine wpAnyG_load (i := 1) (v := ?_) [] rfl (by kernel_rfl) (by kernel_rfl) (by kernel_rfl) (by kernel_rfl) (by kernel_rfl) (by kernel_rfl) (fun _ _ _ h => h) (by kernel_rfl) ?_ (fun _ => HS.out _ (nw_alloc _ _).drew) ?_
      rotate_left 1
      · (intro zz hS; obtain ⟨_, _, _, _, _, _, _, _, _⟩ := hS; go_simp; first | done | with_reducible rfl)
      (try simp only [Act.put, List.setIfInBounds_toArray, List.set_cons_zero, List.set_cons_succ])
      refine wpAnyG_pure (i := 2) (v := ?_) rfl (by kernel_rfl) (by kernel_rfl) (by kernel_rfl) (by kernel_rfl) (by kernel_rfl) (fun _ _ _ h => h) (by kernel_rfl) ?_ (fun _ => HS.out _ (nw_alloc _ _).drew) ?_
      rotate_left 1
      · (intro zz; go_simp; first | done | with_reducible rfl)
      (try simp only [Act.put, List.setIfInBounds_toArray, List.set_cons_zero, List.set_cons_succ])
      refine wpAnyG_load (i := 3) (v := ?_) [] rfl (by kernel_rfl) (by kernel_rfl) (by kernel_rfl) (by kernel_rfl) (by kernel_rfl) (by kernel_rfl) (fun _ _ _ h => h) (by kernel_rfl) ?_ (fun _ => HS.out _ (nw_alloc _ _).drew) ?_
      rotate_left 1
      · (intro zz hS; obtain ⟨_, _, _, _, _, _, _, _, _⟩ := hS; go_simp; first | done | with_reducible rfl)
      (try simp only [Act.put, List.setIfInBounds_toArray, List.set_cons_zero, List.set_cons_succ])
      refine wpAnyG_pure (i := 4) (v := ?_) rfl (by kernel_rfl) (by kernel_rfl) (by kernel_rfl) (by kernel_rfl) (by kernel_rfl) (fun _ _ _ h => h) (by kernel_rfl) ?_ (fun _ => HS.out _ (nw_alloc _ _).drew) ?_
      rotate_left 1
      · (intro zz; go_simp; first | done | with_reducible rfl)
      (try simp only [Act.put, List.setIfInBounds_toArray, List.set_cons_zero, List.set_cons_succ])
      refine wpAnyG_pure (i := 5) (v := ?_) rfl (by kernel_rfl) (by kernel_rfl) (by kernel_rfl) (by kernel_rfl) (by kernel_rfl) (fun _ _ _ h => h) (by kernel_rfl) ?_ (fun _ => HS.out _ (nw_alloc _ _).drew) ?_
      rotate_left 1
      · (intro zz; go_simp; first | done | with_reducible rfl)
      (try simp only [Act.put, List.setIfInBounds_toArray, List.set_cons_zero, List.set_cons_succ])
      refine wpAnyG_load (i := 6) (v := ?_) [] rfl (by kernel_rfl) (by kernel_rfl) (by kernel_rfl) (by kernel_rfl) (by kernel_rfl) (by kernel_rfl) (fun _ _ _ h => h) (by kernel_rfl) ?_ (fun _ => HS.out _ (nw_alloc _ _).drew) ?_
      rotate_left 1
      · (intro zz hS; obtain ⟨_, _, _, _, _, _, _, _, _⟩ := hS; go_simp; first | done | with_reducible rfl)
      (try simp only [Act.put, List.setIfInBounds_toArray, List.set_cons_zero, List.set_cons_succ])
      refine wpAnyG_pure (i := 7) (v := ?_) rfl (by kernel_rfl) (by kernel_rfl) (by kernel_rfl) (by kernel_rfl) (by kernel_rfl) (fun _ _ _ h => h) (by kernel_rfl) ?_ (fun _ => HS.out _ (nw_alloc _ _).drew) ?_
      rotate_left 1
      · (intro zz; go_simp; first | done | with_reducible rfl)
      (try simp only [Act.put, List.setIfInBounds_toArray, List.set_cons_zero, List.set_cons_succ])
      refine wpAnyG_load (i := 8) (v := ?_) [] rfl (by kernel_rfl) (by kernel_rfl) (by kernel_rfl) (by kernel_rfl) (by kernel_rfl) (by kernel_rfl) (fun _ _ _ h => h) (by kernel_rfl) ?_ (fun _ => HS.out _ (nw_alloc _ _).drew) ?_
      rotate_left 1
      · (intro zz hS; obtain ⟨_, _, _, _, _, _, _, _, _⟩ := hS; go_simp; first | done | with_reducible rfl)
      (try simp only [Act.put, List.setIfInBounds_toArray, List.set_cons_zero, List.set_cons_succ])
      refine wpAnyG_ready [9] (by kernel_rfl) (by simp) ?_
      refine AllG.cons rfl (fun K hK => ?_) AllG.nil
      go_simp
      refine hK.out _ _ (fun e => absurd (show true = false from e) (by decide)) ?_
      clear hK K
      (try simp only [Act.put, List.setIfInBounds_toArray, List.set_cons_zero, List.set_cons_succ])
      refine wpAnyG_done (by kernel_rfl) ?_ _
      go_wp2_with fail
      refine bodyPost_ret (is_results _ _ W1.heap.size (.string ⟨sv.name.toArray⟩) (.slice sa sv.sends.length sc) (.int .i64 sv.wr.kind) (.slice fa sv.wr.fs.length fc) (.int .i64 sv.rd.kind) (.slice ga sv.rd.fs.length gc) rfl ?_) rfl ?_
      · exact heap_new W1 _
      · exact ⟨rfl, HN.out.trans (nw_alloc _ _).drew⟩
/-- A field of a struct, in a quiet walk. -/
theorem wpQuiet_fieldV {P : Program} {ops : Array Oper} {C : World → Prop} {Q : Act → Prop} {a : Act} {o : Oper} {rest : List Oper} (x : Operand) (t : TypeId) (i : Nat) (hop : o.op = Op.field t x i) (hw : Region.wanted o (yielded ops a.tmps) = true)
    (v : Value) (hrun : ∀ w, (Instr.field t (a.eval x) i).run P w = .ok v w) (h : wpQuiet P ops C Q rest (a.put o.dst v)) : wpQuiet P ops C Q (o :: rest) a :=
  BigFrame.wpQuiet_want hw fun K hK => ⟨v, fun w _ => by
    have hr : (execOp a.eval o).run P w = .ok (.value v) w := by
      simp [execOp, hop, hrun, Result.andThen]
    unfold Oper.quietAt
    rw [hr]
    exact ⟨rfl, rfl⟩, hK _ h⟩
theorem mixedr_results (tmps : Array Value) (w : World) : (results Tryz.f11 tmps).run Tryz.prog w = .ok (.tuple #[tmps.getD 4 undef, tmps.getD 5 undef, tmps.getD 6 undef]) w := by
  simp [results, Tryz.results11, go_sem]
theorem svc_loc {w : World} {oa na ra : Option Addr} {oc nc : Nat} {f : FL} (h : FlAt w oa na ra oc nc f) (hr : Wv.Rg f) {i : Nat} (hi : i < f.runs.length) (v : Bool) :
    ∃ b off sa fa ga sc fc gc, (if v then na else oa) = some (⟨b, off, none⟩ : Addr) ∧ SvcK w b (off + Wv.run f i * 6) (Wv.svcAt f (Wv.run f i) v) sa fa ga sc fc gc ∧ SvcR w (Wv.svcAt f (Wv.run f i) v) sa fa ga fc gc := by
  have h1 := (run_lt hr hi).1
  cases v with
  | true =>
    have h2 : Wv.run f i < f.new.length := by rw [← hr.len]; exact h1
    rcases h.new with hnil | ⟨b, off, e, hb, hcell⟩
    · rw [hnil] at h2; simp at h2
    · obtain ⟨sa, fa, ga, sc, fc, gc, hk, hri⟩ := hcell _ h2
      have e2 : f.new[Wv.run f i] = Wv.svcAt f (Wv.run f i) true := (getD_of h2).symm
      rw [e2] at hk hri
      exact ⟨b, off, sa, fa, ga, sc, fc, gc, e, hk, hri⟩
  | false =>
    rcases h.old with hnil | ⟨b, off, e, hb, hcell⟩
    · rw [hnil] at h1; simp at h1
    · obtain ⟨sa, fa, ga, sc, fc, gc, hk, hri⟩ := hcell _ h1
      have e2 : f.old[Wv.run f i] = Wv.svcAt f (Wv.run f i) false := (getD_of h1).symm
      rw [e2] at hk hri
      exact ⟨b, off, sa, fa, ga, sc, fc, gc, e, hk, hri⟩
theorem bad_def (f : FL) (done : List Bool) (i k : Nat) : Wv.bad f done i k = (decide (((Wv.run f k : Nat) : Int) ∈ (Wv.svcAt f (Wv.run f i) (Wv.ver done i)).sends) && !fReads (Wv.svcAt f (Wv.run f i) (Wv.ver done i)).wr (Wv.svcAt f (Wv.run f k) (Wv.ver done k)).rd) := by
  unfold Wv.bad Wv.can
  cases decide (((Wv.run f k : Nat) : Int) ∈ (Wv.svcAt f (Wv.run f i) (Wv.ver done i)).sends) <;> simp
set_option maxHeartbeats 16000000 in
set_option maxRecDepth 100000 in
theorem Mixed_r (oa na ra da : Option Addr) (oc nc rc dc : Nat) (f : FL) (done : List Bool) (w : World) (g : Gm w) (h : FlAt w oa na ra oc nc f) (hs : Sm f) (hd : BC w da done) :
    Calls Tryz.prog 11 #[.agg (flV oa na ra oc nc rc f), .slice da done.length dc] w fun e w' => e = .returned (mixV (Wv.mixed f done)) ∧ Nw w w' := by
  unfold flV mixV
  have n1 := nw_alloc w (.cells #[.slice oa f.old.length oc, .slice na f.new.length nc, .slice ra f.runs.length rc] tFl)
  have b1 := heap_new w (.cells #[.slice oa f.old.length oc, .slice na f.new.length nc, .slice ra f.runs.length rc] tFl)
  obtain ⟨W, hW⟩ : ∃ z, z = w.alloc (.cells #[.slice oa f.old.length oc, .slice na f.new.length nc, .slice ra f.runs.length rc] tFl) := ⟨_, rfl⟩
  rw [← hW] at n1 b1
  have HW := Lib.hid hW
  have HN := Lib.hid n1
  have HX : Hid (∀ y, Nw W y → y.cell? ⟨w.heap.size, 0, none⟩ = some (.slice oa f.old.length oc) ∧ y.cell? ⟨w.heap.size, 1, none⟩ = some (.slice na f.new.length nc) ∧ y.cell? ⟨w.heap.size, 2, none⟩ = some (.slice ra f.runs.length rc)) := fun y u => ⟨by rw [cells_cell (Nw.keep u b1)]; rfl, by rw [cells_cell (Nw.keep u b1)]; rfl, by rw [cells_cell (Nw.keep u b1)]; rfl⟩
  have HF : Hid (∀ y, Nw W y → FlAt y oa na ra oc nc f) := fun y u => h.nw (n1.trans u)
  have HG : Hid (∀ y, Nw W y → Gm y) := fun y u => g.upd (n1.trans u)
  have HD : Hid (∀ y, Nw W y → BC y da done) := fun y u => BC.nw hd (n1.trans u)
  have hrt := Lib.hid (Right_r oa na ra oc nc rc f W (g.upd n1).g.big (h.nw n1) hs)
  unfold flV at hrt
  obtain ⟨m, hm⟩ : ∃ m, m = Wv.mixed f done := ⟨_, rfl⟩
  rw [← hm]
  have HM := Lib.hid hm
  clear hm
  obtain ⟨m0, m1, m2⟩ := m
  clear n1 b1 hW h hd hs g
  obtain ⟨x0, x1, x2⟩ := HX.out W (Upd.refl _ _)
  go_enter Tryz.func11, Tryz.ntmps11
  go_upto_region 1 with fail
  rw [← HW.out]
  clear HW
  cases hri : Wv.right f with
  | false =>
    have hmm : (m0, m1, m2) = ((0 : Int), (0 : Int), false) := by rw [HM.out]; unfold Wv.mixed; rw [hri]; rfl
    rw [hri] at hrt
    injection hmm with e1 e2
    injection e2 with e2 e3
    subst e1 e2 e3
    clear hri
    go_wp2_with fail
    (with_reducible refine (hrt.out).mono ?_)
    rintro _ w2 ⟨rfl, u2⟩
    have U2 := Lib.hid (HN.out.trans u2)
    clear u2
    go_wp2_with fail
    refine bodyPost_ret (mixedr_results _ _) rfl ?_
    exact ⟨rfl, U2.out⟩
  | true =>
  have hmm : (m0, m1, m2) = Wv.pairOf (Wv.firstBad f done) := by rw [HM.out]; unfold Wv.mixed; rw [if_pos hri]
  have HMM := Lib.hid hmm
  have HRG := Lib.hid (Wv.rg_of hri)
  rw [hri] at hrt
  clear hri hmm
  have hfew := HRG.out.few
  obtain ⟨rl, hrl⟩ : ∃ rl, rl = f.runs.length := ⟨_, rfl⟩
  have hfew1 : (rl : Int) ≤ 400 := by omega
  have HRL := Lib.hid hrl
  have HIS : Hid (∀ y (i : Nat) b off sa fa ga sc fc gc, Nw W y → i < rl → (if Wv.ver done i then na else oa) = some (⟨b, off, none⟩ : Addr) → SvcK y b (off + Wv.run f i * 6) (Wv.svcAt f (Wv.run f i) (Wv.ver done i)) sa fa ga sc fc gc → Calls Tryz.prog 32 #[.agg #[.slice oa f.old.length oc, .slice na f.new.length nc, .slice ra rl rc], .slice da done.length dc, .int .i64 (i : Int)] y fun e w' => e = .returned (svV (Wv.svcAt f (Wv.run f i) (Wv.ver done i)) sa fa ga sc fc gc) ∧ Nw y w') := fun y i b off sa fa ga sc fc gc u hi h1 h2 => by
    have := Is_e oa na ra da oc nc rc dc f done i b off sa fa ga sc fc gc y (HF.out y u) HRG.out (HD.out y u) (by omega) h1 h2
    unfold flV at this
    rw [← hrl] at this
    exact this
  have HLO : Hid (∀ (i : Nat), i < rl → ∃ b off sa fa ga sc fc gc, (if Wv.ver done i then na else oa) = some (⟨b, off, none⟩ : Addr) ∧ SvcK W b (off + Wv.run f i * 6) (Wv.svcAt f (Wv.run f i) (Wv.ver done i)) sa fa ga sc fc gc ∧ SvcR W (Wv.svcAt f (Wv.run f i) (Wv.ver done i)) sa fa ga fc gc) := fun i hi => svc_loc (HF.out W (Upd.refl _ _)) HRG.out (by omega) _
  have HRU : Hid (∀ y (k : Nat), Nw W y → k < rl → ∃ rb ro, ra = some ⟨rb, ro, none⟩ ∧ y.cell? ⟨rb, ro + k, none⟩ = some (.int .i64 (Wv.run f k : Int))) := fun y k u hk => by
    rcases (HF.out y u).runs with hnil | ⟨rb, ro, rfl, hrb, hrcell⟩
    · rw [hrl, hnil] at hk; simp at hk
    · refine ⟨rb, ro, rfl, ?_⟩
      have := hrcell k (by omega)
      rw [(run_lt HRG.out (show k < f.runs.length by omega)).2] at this
      exact this
  rw [← hrl] at HX hrt x2 ⊢
  clear hrl
  go_wp2_with fail
  (with_reducible refine (hrt.out).mono ?_)
  rintro _ w2 ⟨rfl, u2⟩
  have U2 := Lib.hid u2
  clear u2 hrt x0 x1 x2
  go_wp2_with fail
  go_loopw [7] (fun iv wr => ∃ i : Nat, i ≤ rl ∧ iv = .int .i64 (i : Int) ∧ Hid (∀ j, j < i → Wv.badRow f done j = none) ∧ Hid (Nw W wr)) (fun iv _ => rl - (intOf iv).toNat)
  case atStart => exact ⟨0, Nat.zero_le _, rfl, (fun j hj => by omega), U2.out⟩
  case round =>
    obtain ⟨i, hi, rfl, HRW, HU⟩ := hrel
    obtain ⟨x0, x1, x2⟩ := HX.out wr HU.out
    by_cases hlt : i < rl
    · have hlt1 : (i : Int) < rl := by omega
      have hi9 : (i : Int) ≤ 400 := by omega
      obtain ⟨b, off, sa, fa, ga, sc, fc, gc, hlc, hk1, hr1⟩ := HLO.out i hlt
      have HIA : Hid (∀ y, Nw W y → Calls Tryz.prog 32 #[.agg #[.slice oa f.old.length oc, .slice na f.new.length nc, .slice ra rl rc], .slice da done.length dc, .int .i64 (i : Int)] y fun e w' => e = .returned (svV (Wv.svcAt f (Wv.run f i) (Wv.ver done i)) sa fa ga sc fc gc) ∧ Nw y w') := fun y u => HIS.out y i b off sa fa ga sc fc gc u hlt hlc (hk1.nw u)
      have HR1 := Lib.hid hr1
      have HBD : Hid (∀ k, Wv.bad f done i k = (decide (((Wv.run f k : Nat) : Int) ∈ (Wv.svcAt f (Wv.run f i) (Wv.ver done i)).sends) && !fReads (Wv.svcAt f (Wv.run f i) (Wv.ver done i)).wr (Wv.svcAt f (Wv.run f k) (Wv.ver done k)).rd)) := fun k => bad_def f done i k
      have hsl : Hid ((Wv.svcAt f (Wv.run f i) (Wv.ver done i)).sends.length ≤ maxLen) := hr1.few
      clear hlc hk1 hr1
      generalize Wv.svcAt f (Wv.run f i) (Wv.ver done i) = sA at *
      unfold svV at HIA
      go_wp2_with fail
      clear x0 x1 x2
      go_loopw [8] (fun kv wr => ∃ k : Nat, k ≤ rl ∧ kv = .int .i64 (k : Int) ∧ Hid (∀ j, j < k → Wv.bad f done i j = false) ∧ Hid (Nw W wr)) (fun kv _ => rl - (intOf kv).toNat)
      case atStart => exact ⟨0, Nat.zero_le _, rfl, (fun j hj => by omega), HU.out⟩
      case round =>
        obtain ⟨k, hk, rfl, HNB, HK⟩ := hrel
        obtain ⟨wk, hwk⟩ : ∃ y, y = wr := ⟨_, rfl⟩
        subst hwk
        obtain ⟨x0, x1, x2⟩ := HX.out wk HK.out
        by_cases hkl : k < rl
        · have hkl1 : (k : Int) < rl := by omega
          have hk9 : (k : Int) ≤ 400 := by omega
          have hk0 : decide ((k : Int) < 0) = false := decide_eq_false (by omega)
          obtain ⟨b', off', sa', fa', ga', sc', fc', gc', hlc, hk1, hr1⟩ := HLO.out k hkl
          have HIB : Hid (∀ y, Nw W y → Calls Tryz.prog 32 #[.agg #[.slice oa f.old.length oc, .slice na f.new.length nc, .slice ra rl rc], .slice da done.length dc, .int .i64 (k : Int)] y fun e w' => e = .returned (svV (Wv.svcAt f (Wv.run f k) (Wv.ver done k)) sa' fa' ga' sc' fc' gc') ∧ Nw y w') := fun y u => HIS.out y k b' off' sa' fa' ga' sc' fc' gc' u hkl hlc (hk1.nw u)
          have HR2 := Lib.hid hr1
          have HBK := Lib.hid (HBD.out k)
          have HHIT : Hid (Wv.bad f done i k = true → (m0, m1, m2) = ((i : Int), (k : Int), true)) := fun e => by
            rw [HMM.out, Wv.first_hit (by have := HRL.out; omega) (Wv.row_hit (by have := HRL.out; omega) e HNB.out) HRW.out]; rfl
          have HNX : Hid (Wv.bad f done i k = false → ∀ j, j < k + 1 → Wv.bad f done i j = false) := fun e j hj => by
            by_cases ej : j = k
            · subst ej; exact e
            · exact HNB.out j (by omega)
          clear hlc hk1 hr1
          generalize Wv.svcAt f (Wv.run f k) (Wv.ver done k) = sB at *
          unfold svV at HIB
          have hca := Lib.hid (HIA.out wk HK.out)
          go_wp2_with fail
          (with_reducible refine (hca.out).mono ?_)
          rintro _ w3 ⟨rfl, u3⟩
          have nA := nw_alloc w3 (.cells #[.string ⟨sA.name.toArray⟩, .slice sa sA.sends.length sc, .int .i64 sA.wr.kind, .slice fa sA.wr.fs.length fc, .int .i64 sA.rd.kind, .slice ga sA.rd.fs.length gc] tSv)
          have bA := heap_new w3 (.cells #[.string ⟨sA.name.toArray⟩, .slice sa sA.sends.length sc, .int .i64 sA.wr.kind, .slice fa sA.wr.fs.length fc, .int .i64 sA.rd.kind, .slice ga sA.rd.fs.length gc] tSv)
          obtain ⟨WA, hWA⟩ : ∃ z, z = w3.alloc (.cells #[.string ⟨sA.name.toArray⟩, .slice sa sA.sends.length sc, .int .i64 sA.wr.kind, .slice fa sA.wr.fs.length fc, .int .i64 sA.rd.kind, .slice ga sA.rd.fs.length gc] tSv) := ⟨_, rfl⟩
          rw [← hWA] at nA bA
          have HWA := Lib.hid hWA
          have a1 : WA.cell? ⟨w3.heap.size, 1, none⟩ = some (.slice sa sA.sends.length sc) := by rw [cells_cell bA]; rfl
          have a2 : WA.cell? ⟨w3.heap.size, 2, none⟩ = some (.int .i64 sA.wr.kind) := by rw [cells_cell bA]; rfl
          have a3 : WA.cell? ⟨w3.heap.size, 3, none⟩ = some (.slice fa sA.wr.fs.length fc) := by rw [cells_cell bA]; rfl
          have HUA := Lib.hid (HK.out.trans (u3.trans nA))
          clear u3 nA bA hWA hca x0 x1 x2
          obtain ⟨x0, x1, x2⟩ := HX.out WA HUA.out
          obtain ⟨rb, ro, rfl, hrc⟩ := HRU.out WA k HUA.out hkl
          have y0 : ∀ j : Later WA, j.1.cell? ⟨w3.heap.size, 1, none⟩ = some (.slice sa sA.sends.length sc) := fun j => later_cell j a1
          have y1 : ∀ j : Later WA, j.1.cell? ⟨w3.heap.size, 2, none⟩ = some (.int .i64 sA.wr.kind) := fun j => later_cell j a2
          have y2 : ∀ j : Later WA, j.1.cell? ⟨w3.heap.size, 3, none⟩ = some (.slice fa sA.wr.fs.length fc) := fun j => later_cell j a3
          have y3 : ∀ j : Later WA, j.1.cell? ⟨w.heap.size, 0, none⟩ = some (.slice oa f.old.length oc) := fun j => later_cell j x0
          have y4 : ∀ j : Later WA, j.1.cell? ⟨w.heap.size, 1, none⟩ = some (.slice na f.new.length nc) := fun j => later_cell j x1
          have y5 : ∀ j : Later WA, j.1.cell? ⟨w.heap.size, 2, none⟩ = some (.slice (some ⟨rb, ro, none⟩) rl rc) := fun j => later_cell j x2
          have y6 : ∀ j : Later WA, j.1.cell? ⟨rb, ro + k, none⟩ = some (.int .i64 (Wv.run f k : Int)) := fun j => later_cell j hrc
          have HHA : Hid (∀ y, Nw WA y → Calls Tryz.prog 20 #[.slice sa sA.sends.length sc, .int .i64 (Wv.run f k : Int)] y fun e w' => e = .returned (.bool (decide (((Wv.run f k : Nat) : Int) ∈ sA.sends))) ∧ Nw y w') := fun y u => has_ic sa sc sA.sends _ y (IC.nw HR1.out.sends (HUA.out.trans u)) hsl.out
          have HIB2 : Hid (∀ y, Nw WA y → Calls Tryz.prog 32 #[.agg #[.slice oa f.old.length oc, .slice na f.new.length nc, .slice (some ⟨rb, ro, none⟩) rl rc], .slice da done.length dc, .int .i64 (k : Int)] y fun e w' => e = .returned (.agg #[.string ⟨sB.name.toArray⟩, .slice sa' sB.sends.length sc', .int .i64 sB.wr.kind, .slice fa' sB.wr.fs.length fc', .int .i64 sB.rd.kind, .slice ga' sB.rd.fs.length gc']) ∧ Nw y w') := fun y u => HIB.out y (HUA.out.trans u)
          have HRE : Hid (∀ y, Nw WA y → Calls Tryz.prog 33 #[.agg #[.int .i64 sA.wr.kind, .slice fa sA.wr.fs.length fc], .agg #[.int .i64 sB.rd.kind, .slice ga' sB.rd.fs.length gc']] y fun e w' => e = .returned (.bool (fReads sA.wr sB.rd)) ∧ Nw y w') := fun y u => Reads43_r _ _ _ _ y (HG.out y (HUA.out.trans u)).g (HR1.out.wr.nw (HUA.out.trans u)) (HR2.out.rd.nw (HUA.out.trans u))
          clear a1 a2 a3 x0 x1 x2 hrc HIB
          go_upto_region 10 with fail
          rw [← HWA.out]
          clear HWA
          cases hmem : decide (((Wv.run f k : Nat) : Int) ∈ sA.sends) with
          | false =>
            rw [hmem] at HHA HBK
            have hr := Lib.hid (HNX.out HBK.out)
            clear hmem HNX HHIT HBK
            generalize Wv.run f k = ru at *
            refine wp_region_nw (by kernel_rfl) (by kernel_rfl) ?_
            repeat (go_big_quiet_step ((go_at_call 20; exact later_call (HHA.out _ (Later.nw _)))))
            refine wpQuiet_nil ?_
            intro w8 u8
            replace u8 := later_out u8
            have H8 := Lib.hid (HUA.out.trans u8)
            clear u8 y0 y1 y2 y3 y4 y5 y6
            go_wp2_with fail
            go_roundw
            case rel => exact ⟨k + 1, by omega, by go_num, hr, H8⟩
            case measure => simp [intOf]; omega
          | true =>
          rw [hmem] at HHA HBK
          clear hmem
          cases hre : fReads sA.wr sB.rd with
          | true =>
            rw [hre] at HRE HBK
            have hr := Lib.hid (HNX.out HBK.out)
            clear hre HNX HHIT HBK
            generalize Wv.run f k = ru at *
            refine wp_region_nw (by kernel_rfl) (by kernel_rfl) ?_
            repeat (go_big_quiet_step ((first | (go_at_call 20; exact later_call (HHA.out _ (Later.nw _))) | (go_at_call 32; exact later_call (HIB2.out _ (Later.nw _))))))
            refine wpQuiet_fieldV _ _ _ rfl (by simp [Region.wanted, yielded]) (.agg #[.int .i64 sB.rd.kind, .slice ga' sB.rd.fs.length gc']) (fun w => by with_unfolding_all rfl) ?_
            simp only [Act.put, List.setIfInBounds_toArray, List.set_cons_zero, List.set_cons_succ]
            repeat (go_big_quiet_step ((first | (go_at_call 33; exact later_call (HRE.out _ (Later.nw _))))))
            refine wpQuiet_nil ?_
            intro w8 u8
            replace u8 := later_out u8
            have H8 := Lib.hid (HUA.out.trans u8)
            clear u8 y0 y1 y2 y3 y4 y5 y6
            go_wp2_with fail
            go_roundw
            case rel => exact ⟨k + 1, by omega, by go_num, hr, H8⟩
            case measure => simp [intOf]; omega
          | false =>
            rw [hre] at HRE HBK
            have hr := HHIT.out HBK.out
            injection hr with e1 e2
            injection e2 with e2 e3
            subst e1 e2 e3
            clear hre HNX HHIT HBK
            generalize Wv.run f k = ru at *
            refine wp_region_nw (by kernel_rfl) (by kernel_rfl) ?_
            repeat (go_big_quiet_step ((first | (go_at_call 20; exact later_call (HHA.out _ (Later.nw _))) | (go_at_call 32; exact later_call (HIB2.out _ (Later.nw _))))))
            refine wpQuiet_fieldV _ _ _ rfl (by simp [Region.wanted, yielded]) (.agg #[.int .i64 sB.rd.kind, .slice ga' sB.rd.fs.length gc']) (fun w => by with_unfolding_all rfl) ?_
            simp only [Act.put, List.setIfInBounds_toArray, List.set_cons_zero, List.set_cons_succ]
            repeat (go_big_quiet_step ((first | (go_at_call 33; exact later_call (HRE.out _ (Later.nw _))))))
            refine wpQuiet_nil ?_
            intro w8 u8
            replace u8 := later_out u8
            have H8 := Lib.hid (HUA.out.trans u8)
            clear u8 y0 y1 y2 y3 y4 y5 y6
            go_wp2_with fail
            refine bodyPost_ret (mixedr_results _ _) rfl ?_
            exact ⟨rfl, HN.out.trans H8.out⟩
        · obtain rfl : k = rl := by omega
          have hkl1 : ¬ ((k : Nat) : Int) < k := by omega
          have hrn : Hid (∀ j, j < i + 1 → Wv.badRow f done j = none) := fun j hj => by
            by_cases ej : j = i
            · subst ej; exact Wv.row_none (fun j hj2 => HNB.out j (by have := HRL.out; omega))
            · exact HRW.out j (by omega)
          go_wp2_with fail
          go_roundw
          case rel => exact ⟨i + 1, by omega, by go_num, hrn, HK⟩
          case measure => simp [intOf]; omega
    · obtain rfl : i = rl := by omega
      have hlt1 : ¬ ((i : Nat) : Int) < i := by omega
      have hr : (m0, m1, m2) = ((0 : Int), (0 : Int), false) := by
        rw [HMM.out, Wv.first_none (fun j hj => HRW.out j (by have := HRL.out; omega))]; rfl
      injection hr with e1 e2
      injection e2 with e2 e3
      subst e1 e2 e3
      go_wp2_with fail
      refine bodyPost_ret (mixedr_results _ _) rfl ?_
      exact ⟨rfl, HN.out.trans HU.out⟩
end Go.Proofs.YtjlgmoemnhmgmaaGreatDoor
