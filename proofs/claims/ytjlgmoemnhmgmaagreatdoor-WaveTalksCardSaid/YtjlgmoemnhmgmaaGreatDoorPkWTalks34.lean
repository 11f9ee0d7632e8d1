/- The reference's Has (of ints) and Is; the depth of a value. The law package's heard: who talks is heard. -/
import Derived.Test.YtjlgmoemnhmgmaaGreatDoorPkWTalks32
import Derived.Test.YtjlgmoemnhmgmaaGreatDoorPkWTalks33
import Derived.Test.YtjlgmoemnhmgmaaGreatDoorPkWTalks10
import Derived.Deep.Quiet
namespace Go.Proofs.YtjlgmoemnhmgmaaGreatDoor
open Go.RowKit
set_option linter.unusedVariables false
set_option linter.unusedSimpArgs false
attribute [local irreducible] Calls
open Fm (Ty Vl Str)
open Wv (Svc FL)

set_option maxHeartbeats 1000000 in
theorem has_ic (a : Option Addr) (cap : Nat) (l : List Int) (n : Int) (w : World) (h : IC w a l) (hl : l.length ≤ maxLen) :
    Calls Tryz.prog 20 #[.slice a l.length cap, .int .i64 n] w fun e w' => e = .returned (.bool (decide (n ∈ l))) ∧ Nw w w' := by
  have HC := Lib.hid h
  unfold maxLen at hl
  have hl1 : (l.length : Int) ≤ 9223372036854775807 := by omega
  clear h
  go_enter Tryz.func20, Tryz.ntmps20
  go_wp2_with fail
  go_loopw [5] (fun iv wr => ∃ k : Nat, k ≤ l.length ∧ iv = .int .i64 k ∧ Hid (∀ j (h : j < l.length), j < k → ¬ l[j] = n) ∧ Hid (Nw w wr)) (fun iv _ => l.length - (intOf iv).toNat)
  case atStart => exact ⟨0, Nat.zero_le _, rfl, fun j _ h => absurd h (Nat.not_lt_zero _), Upd.refl _ _⟩
  case round =>
    obtain ⟨k, hk, rfl, hall, u⟩ := hrel
    by_cases hlt : k < l.length
    · have hlt1 : (k : Int) < l.length := by omega
      rcases HC.out with hnil | ⟨b, o, rfl, hb, hc⟩
      · simp [hnil] at hlt
      have d0 := nw_cellF u.out (hc k hlt)
      have hnext : ¬ l[k] = n → Hid (∀ j (h : j < l.length), j < k + 1 → ¬ l[j] = n) := fun e j h hj => by
        by_cases ej : j = k
        · subst ej; exact e
        · exact hall.out j h (by omega)
      have hyes : l[k] = n → Hid (decide (n ∈ l) = true) := fun e => decide_eq_true (by rw [← e]; exact List.getElem_mem hlt)
      clear hc
      generalize l[k] = x at *
      by_cases hx : x = n
      · have hy := hyes hx
        have dx : (x == n) = true := beq_iff_eq.2 hx
        clear hnext hyes hx
        go_wp2_with fail
        go_ret
        exact ⟨ret_bool hy.out.symm, u.out⟩
      · have hy := hnext hx
        have dx : (x == n) = false := beq_eq_false_iff_ne.2 hx
        clear hnext hyes hx
        go_wp2_with fail
        go_roundw
        case rel => exact ⟨k + 1, by omega, by go_num, hy, u.out⟩
        case measure => simp [intOf]; omega
    · have hy : Hid (decide (n ∈ l) = false) := decide_eq_false fun hm => by
        obtain ⟨j, hj, e⟩ := List.mem_iff_getElem.1 hm
        exact hall.out j hj (by omega) e
      have hlt1 : ¬ (k : Int) < l.length := by omega
      go_wp2_with fail
      go_ret
      exact ⟨ret_bool hy.out.symm, u.out⟩
theorem is_results (tmps : Array Value) (w : World) (p : Nat) (x0 x1 x2 x3 x4 x5 : Value) (h2 : tmps.getD 6 undef = .pointer (some ⟨p, 0, none⟩)) (hb : w.heap[p]? = some (.cells #[x0, x1, x2, x3, x4, x5] tSv (0, 0))) :
    (results Tryz.f32 tmps).run Tryz.prog w = .ok (.agg #[x0, x1, x2, x3, x4, x5]) w := by
  have e0 : w.cell? ⟨p, 0, none⟩ = some x0 := by rw [cells_cell hb]; rfl
  have e1 : w.cell? ⟨p, 1, none⟩ = some x1 := by rw [cells_cell hb]; rfl
  have e2 : w.cell? ⟨p, 2, none⟩ = some x2 := by rw [cells_cell hb]; rfl
  have e3 : w.cell? ⟨p, 3, none⟩ = some x3 := by rw [cells_cell hb]; rfl
  have e4 : w.cell? ⟨p, 4, none⟩ = some x4 := by rw [cells_cell hb]; rfl
  have e5 : w.cell? ⟨p, 5, none⟩ = some x5 := by rw [cells_cell hb]; rfl
  rw [Array.getD_eq_getD_getElem?] at h2
  simp [results, Tryz.results32, h2, go_sem, e0, e1, e2, e3, e4, e5]
set_option maxHeartbeats 4000000 in
set_option maxRecDepth 100000 in
theorem Is_c (oa na ra da : Option Addr) (oc nc rc dc : Nat) (f : FL) (done : List Bool) (i : Nat) (w : World) (h : FlAt w oa na ra oc nc f) (hr : Wv.Rg f) (hd : BC w da done) (hi : i < f.runs.length) :
    Calls Tryz.prog 32 #[.agg (flV oa na ra oc nc rc f), .slice da done.length dc, .int .i64 (i : Int)] w fun e w' => ∃ sa fa ga sc fc gc, e = .returned (svV (Wv.svcAt f (Wv.run f i) (Wv.ver done i)) sa fa ga sc fc gc) ∧ Hid (SvcR w' (Wv.svcAt f (Wv.run f i) (Wv.ver done i)) sa fa ga fc gc ∧ Nw w w') := by
  unfold flV svV
  have n1 := nw_alloc w (.cells #[.slice oa f.old.length oc, .slice na f.new.length nc, .slice ra f.runs.length rc] tFl)
  have b1 := heap_new w (.cells #[.slice oa f.old.length oc, .slice na f.new.length nc, .slice ra f.runs.length rc] tFl)
  have hfew := hr.few
  have h8 := hr.old8
  obtain ⟨hro, hrv⟩ := run_lt hr hi
  have hrn : Wv.run f i < f.new.length := by rw [← hr.len]; exact hro
  have hdl : ∀ (n : Nat), i < done.length → ∃ db off, da = some ⟨db, off, none⟩ ∧ w.cell? ⟨db, off + i, none⟩ = some (.bool (Wv.ver done i)) := fun n hlt => by
    rcases hd with hnil | ⟨b, off, rfl, _, hcell⟩
    · rw [hnil] at hlt; simp at hlt
    · refine ⟨b, off, rfl, ?_⟩
      rw [hcell i hlt, show Wv.ver done i = done[i] from getD_of hlt]
  rcases h.runs with hnil | ⟨rb, ro, rfl, hrb, hrcell⟩
  · rw [hnil] at hi; simp at hi
  have hrc := hrcell i hi
  rw [hrv] at hrc
  obtain ⟨W1, hW⟩ : ∃ z, z = w.alloc (.cells #[.slice oa f.old.length oc, .slice na f.new.length nc, .slice (some ⟨rb, ro, none⟩) f.runs.length rc] tFl) := ⟨_, rfl⟩
  rw [← hW] at n1 b1
  have HWS : Hid (W1.heap.size = w.heap.size + 1) := by show _ = _; rw [hW]; simp
  have HW := Lib.hid hW
  have HN := Lib.hid n1
  have HX : Hid (∀ y, Nw W1 y → y.cell? ⟨w.heap.size, 0, none⟩ = some (.slice oa f.old.length oc) ∧ y.cell? ⟨w.heap.size, 1, none⟩ = some (.slice na f.new.length nc) ∧ y.cell? ⟨w.heap.size, 2, none⟩ = some (.slice (some ⟨rb, ro, none⟩) f.runs.length rc)) := fun y u => ⟨by rw [cells_cell (Nw.keep u b1)]; rfl, by rw [cells_cell (Nw.keep u b1)]; rfl, by rw [cells_cell (Nw.keep u b1)]; rfl⟩
  have hi9 : (i : Int) ≤ 400 := by omega
  have hi0 : decide ((i : Int) < 0) = false := decide_eq_false (by omega)
  have hil : (i : Int) < f.runs.length := by omega
  have hr0 : decide ((Wv.run f i : Int) < 0) = false := decide_eq_false (by omega)
  have hro1 : (Wv.run f i : Int) < f.old.length := by omega
  have hrn1 : (Wv.run f i : Int) < f.new.length := by omega
  have hr9 : (Wv.run f i : Int) ≤ 8 := by omega
  have HOL := Lib.hid h.old
  have HNE := Lib.hid h.new
  clear hrcell b1 hW h hd
  cases hv : Wv.ver done i with
  | true =>
    have hlt : i < done.length := by
      rcases Nat.lt_or_ge i done.length with h1 | h1
      · exact h1
      · unfold Wv.ver at hv
        rw [getD_no (by omega)] at hv; cases hv
    obtain ⟨db, dof, rfl, hdc⟩ := hdl 0 hlt
    rw [hv] at hdc
    have hs2 := hrn
    have hsv : f.new[Wv.run f i] = Wv.svcAt f (Wv.run f i) true := (getD_of hs2).symm
    generalize Wv.svcAt f (Wv.run f i) true = sv at *
    have ddl : (i : Int) < done.length := by omega
    have ddc : ∀ o, (W1.alloc o).cell? ⟨db, dof + i, none⟩ = some (.bool true) := fun o => nw_cellF (n1.trans (nw_alloc W1 o)) hdc
    -- 2: the region, 1: the fleet's cell, (.slice (some ⟨b, off, none⟩) f.new.length nc): the slice, HNE.out: the fact on the services, 2.1: that there are enough
    rcases HNE.out with hnil | ⟨b, off, rfl, hb, hcell⟩
    · exact absurd hs2 (by rw [hnil]; simp)
    obtain ⟨sa, fa, ga, sc, fc, gc, hk, hri⟩ := hcell _ hs2
    rw [hsv] at hk hri
    have HRI := Lib.hid hri
    have HS : Hid (∀ y, Nw W1 y → y.cell? ⟨w.heap.size, 1, none⟩ = some (.slice (some ⟨b, off, none⟩) f.new.length nc) ∧ y.cell? ⟨w.heap.size, 2, none⟩ = some (.slice (some ⟨rb, ro, none⟩) f.runs.length rc) ∧ y.cell? ⟨rb, ro + i, none⟩ = some (.int .i64 (Wv.run f i : Int)) ∧ y.cell? ⟨b, off + Wv.run f i * 6, none⟩ = some (.string ⟨sv.name.toArray⟩) ∧ y.cell? ⟨b, off + Wv.run f i * 6 + 1, none⟩ = some (.slice sa sv.sends.length sc) ∧ y.cell? ⟨b, off + Wv.run f i * 6 + 2, none⟩ = some (.int .i64 sv.wr.kind) ∧ y.cell? ⟨b, off + Wv.run f i * 6 + 3, none⟩ = some (.slice fa sv.wr.fs.length fc) ∧ y.cell? ⟨b, off + Wv.run f i * 6 + 4, none⟩ = some (.int .i64 sv.rd.kind) ∧ y.cell? ⟨b, off + Wv.run f i * 6 + 5, none⟩ = some (.slice ga sv.rd.fs.length gc)) := fun y u => by
      obtain ⟨d0, d1, d2, d3, d4, d5⟩ := hk.nw (n1.trans u)
      exact ⟨(HX.out y u).2.1, (HX.out y u).2.2, nw_cellF (n1.trans u) hrc, d0, d1, d2, d3, d4, d5⟩
    clear hdl hdc hv n1 hk hri hsv hrc hcell
    go_enter Tryz.func32, Tryz.ntmps32
    go_upto_region 1 with fail
    rw [← HW.out, ← HWS.out]
    clear HW HWS
    go_upto_region 2 with fail
    refine wp_region_G (fun y => y.cell? ⟨w.heap.size, 1, none⟩ = some (.slice (some ⟨b, off, none⟩) f.new.length nc) ∧ y.cell? ⟨w.heap.size, 2, none⟩ = some (.slice (some ⟨rb, ro, none⟩) f.runs.length rc) ∧ y.cell? ⟨rb, ro + i, none⟩ = some (.int .i64 (Wv.run f i : Int)) ∧ y.cell? ⟨b, off + Wv.run f i * 6, none⟩ = some (.string ⟨sv.name.toArray⟩) ∧ y.cell? ⟨b, off + Wv.run f i * 6 + 1, none⟩ = some (.slice sa sv.sends.length sc) ∧ y.cell? ⟨b, off + Wv.run f i * 6 + 2, none⟩ = some (.int .i64 sv.wr.kind) ∧ y.cell? ⟨b, off + Wv.run f i * 6 + 3, none⟩ = some (.slice fa sv.wr.fs.length fc) ∧ y.cell? ⟨b, off + Wv.run f i * 6 + 4, none⟩ = some (.int .i64 sv.rd.kind) ∧ y.cell? ⟨b, off + Wv.run f i * 6 + 5, none⟩ = some (.slice ga sv.rd.fs.length gc)) 9 (by kernel_rfl) ?_
    refine wpAnyG_pure (i := 0) (v := ?_) rfl (by kernel_rfl) (by kernel_rfl) (by kernel_rfl) (by kernel_rfl) (by kernel_rfl) (fun _ _ _ h => h) (by kernel_rfl) ?_ (fun _ => HS.out _ (nw_alloc _ _).drew) ?_
    rotate_left 1
    · (intro zz; go_simp; first | done | with_reducible rfl)
    (try simp only [Act.put, List.setIfInBounds_toArray, List.set_cons_zero, List.set_cons_succ])
    refine wpAnyG_load (i := 1) (v := ?_) [] rfl (by kernel_rfl) (by kernel_rfl) (by kernel_rfl) (by kernel_rfl) (by kernel_rfl) (by kernel_rfl) (fun _ _ _ h => h) (by kernel_rfl) ?_ (fun _ => HS.out _ (nw_alloc _ _).drew) ?_
    rotate_left 1
    · (intro zz hS; obtain ⟨_, _, _, _, _, _, _, _, _⟩ := hS; go_simp; first | done | with_reducible rfl)
    (try simp only [Act.put, List.setIfInBounds_toArray, List.set_cons_zero, List.set_cons_succ])
    refine wpAnyG_pure (i := 2) (v := ?_) rfl (by kernel_rfl) (by kernel_rfl) (by kernel_rfl) (by kernel_rfl) (by kernel_rfl) (fun _ _ _ h => h) (by kernel_rfl) ?_ (fun _ => HS.out _ (nw_alloc _ _).drew) ?_
    rotate_left 1
    · (intro zz; go_simp; first | done | with_reducible rfl)
    (try simp only [Act.put, List.setIfInBounds_toArray, List.set_cons_zero, List.set_cons_succ])
    refine wpAnyG_load (i := 3) (v := ?_) [] rfl (by kernel_rfl) (by kernel_rfl) (by kernel_rfl) (by kernel_rfl) (by kernel_rfl) (by kernel_rfl) (fun _ _ _ h => h) (by kernel_rfl) ?_ (fun _ => HS.out _ (nw_alloc _ _).drew) ?_
    rotate_left 1
    · (intro zz hS; obtain ⟨_, _, _, _, _, _, _, _, _⟩ := hS; go_simp; first | done | with_reducible rfl)
    (try simp only [Act.put, List.setIfInBounds_toArray, List.set_cons_zero, List.set_cons_succ])
    refine wpAnyG_pure (i := 4) (v := ?_) rfl (by kernel_rfl) (by kernel_rfl) (by kernel_rfl) (by kernel_rfl) (by kernel_rfl) (fun _ _ _ h => h) (by kernel_rfl) ?_ (fun _ => HS.out _ (nw_alloc _ _).drew) ?_
    rotate_left 1
    · (intro zz; go_simp; first | done | with_reducible rfl)
    (try simp only [Act.put, List.setIfInBounds_toArray, List.set_cons_zero, List.set_cons_succ])
    refine wpAnyG_pure (i := 5) (v := ?_) rfl (by kernel_rfl) (by kernel_rfl) (by kernel_rfl) (by kernel_rfl) (by kernel_rfl) (fun _ _ _ h => h) (by kernel_rfl) ?_ (fun _ => HS.out _ (nw_alloc _ _).drew) ?_
    rotate_left 1
    · (intro zz; go_simp; first | done | with_reducible rfl)
    (try simp only [Act.put, List.setIfInBounds_toArray, List.set_cons_zero, List.set_cons_succ])
    refine wpAnyG_load (i := 6) (v := ?_) [] rfl (by kernel_rfl) (by kernel_rfl) (by kernel_rfl) (by kernel_rfl) (by kernel_rfl) (by kernel_rfl) (fun _ _ _ h => h) (by kernel_rfl) ?_ (fun _ => HS.out _ (nw_alloc _ _).drew) ?_
    rotate_left 1
    · (intro zz hS; obtain ⟨_, _, _, _, _, _, _, _, _⟩ := hS; go_simp; first | done | with_reducible rfl)
    (try simp only [Act.put, List.setIfInBounds_toArray, List.set_cons_zero, List.set_cons_succ])
    refine wpAnyG_pure (i := 7) (v := ?_) rfl (by kernel_rfl) (by kernel_rfl) (by kernel_rfl) (by kernel_rfl) (by kernel_rfl) (fun _ _ _ h => h) (by kernel_rfl) ?_ (fun _ => HS.out _ (nw_alloc _ _).drew) ?_
    rotate_left 1
    · (intro zz; go_simp; first | done | with_reducible rfl)
    (try simp only [Act.put, List.setIfInBounds_toArray, List.set_cons_zero, List.set_cons_succ])
    refine wpAnyG_load (i := 8) (v := ?_) [] rfl (by kernel_rfl) (by kernel_rfl) (by kernel_rfl) (by kernel_rfl) (by kernel_rfl) (by kernel_rfl) (fun _ _ _ h => h) (by kernel_rfl) ?_ (fun _ => HS.out _ (nw_alloc _ _).drew) ?_
    rotate_left 1
    · (intro zz hS; obtain ⟨_, _, _, _, _, _, _, _, _⟩ := hS; go_simp; first | done | with_reducible rfl)
    (try simp only [Act.put, List.setIfInBounds_toArray, List.set_cons_zero, List.set_cons_succ])
    refine wpAnyG_ready [9] (by kernel_rfl) (by simp) ?_
    refine AllG.cons rfl (fun K hK => ?_) AllG.nil
    go_simp
    refine hK.out _ _ (fun e => absurd (show true = false from e) (by decide)) ?_
    clear hK K
    (try simp only [Act.put, List.setIfInBounds_toArray, List.set_cons_zero, List.set_cons_succ])
    refine wpAnyG_done (by kernel_rfl) ?_ _
    go_wp2_with fail
    refine bodyPost_ret (is_results _ _ W1.heap.size (.string ⟨sv.name.toArray⟩) (.slice sa sv.sends.length sc) (.int .i64 sv.wr.kind) (.slice fa sv.wr.fs.length fc) (.int .i64 sv.rd.kind) (.slice ga sv.rd.fs.length gc) rfl ?_) rfl ?_
    · exact heap_new W1 _
    · exact ⟨sa, fa, ga, sc, fc, gc, rfl, HRI.out.nw (HN.out.trans (nw_alloc _ _).drew), HN.out.trans (nw_alloc _ _).drew⟩
  | false =>
    have hs2 := hro
    have hsv : f.old[Wv.run f i] = Wv.svcAt f (Wv.run f i) false := (getD_of hs2).symm
    generalize Wv.svcAt f (Wv.run f i) false = sv at *
    -- 3: the region, 0: the fleet's cell, (.slice (some ⟨b, off, none⟩) f.old.length oc): the slice, HOL.out: the fact on the services, 1: that there are enough
    rcases HOL.out with hnil | ⟨b, off, rfl, hb, hcell⟩
    · exact absurd hs2 (by rw [hnil]; simp)
    obtain ⟨sa, fa, ga, sc, fc, gc, hk, hri⟩ := hcell _ hs2
    rw [hsv] at hk hri
    have HRI := Lib.hid hri
    have HS : Hid (∀ y, Nw W1 y → y.cell? ⟨w.heap.size, 0, none⟩ = some (.slice (some ⟨b, off, none⟩) f.old.length oc) ∧ y.cell? ⟨w.heap.size, 2, none⟩ = some (.slice (some ⟨rb, ro, none⟩) f.runs.length rc) ∧ y.cell? ⟨rb, ro + i, none⟩ = some (.int .i64 (Wv.run f i : Int)) ∧ y.cell? ⟨b, off + Wv.run f i * 6, none⟩ = some (.string ⟨sv.name.toArray⟩) ∧ y.cell? ⟨b, off + Wv.run f i * 6 + 1, none⟩ = some (.slice sa sv.sends.length sc) ∧ y.cell? ⟨b, off + Wv.run f i * 6 + 2, none⟩ = some (.int .i64 sv.wr.kind) ∧ y.cell? ⟨b, off + Wv.run f i * 6 + 3, none⟩ = some (.slice fa sv.wr.fs.length fc) ∧ y.cell? ⟨b, off + Wv.run f i * 6 + 4, none⟩ = some (.int .i64 sv.rd.kind) ∧ y.cell? ⟨b, off + Wv.run f i * 6 + 5, none⟩ = some (.slice ga sv.rd.fs.length gc)) := fun y u => by
      obtain ⟨d0, d1, d2, d3, d4, d5⟩ := hk.nw (n1.trans u)
      exact ⟨(HX.out y u).1, (HX.out y u).2.2, nw_cellF (n1.trans u) hrc, d0, d1, d2, d3, d4, d5⟩
    by_cases hlt : i < done.length
    · obtain ⟨db, dof, rfl, hdc⟩ := hdl 0 hlt
      rw [hv] at hdc
      have ddl : (i : Int) < done.length := by omega
      have ddc : ∀ o, (W1.alloc o).cell? ⟨db, dof + i, none⟩ = some (.bool false) := fun o => nw_cellF (n1.trans (nw_alloc W1 o)) hdc
      clear hdl hdc hv n1 hk hri hsv hrc hcell
      go_enter Tryz.func32, Tryz.ntmps32
      go_upto_region 1 with fail
      rw [← HW.out, ← HWS.out]
      clear HW HWS
      go_upto_region 3 with fail
      refine wp_region_G (fun y => y.cell? ⟨w.heap.size, 0, none⟩ = some (.slice (some ⟨b, off, none⟩) f.old.length oc) ∧ y.cell? ⟨w.heap.size, 2, none⟩ = some (.slice (some ⟨rb, ro, none⟩) f.runs.length rc) ∧ y.cell? ⟨rb, ro + i, none⟩ = some (.int .i64 (Wv.run f i : Int)) ∧ y.cell? ⟨b, off + Wv.run f i * 6, none⟩ = some (.string ⟨sv.name.toArray⟩) ∧ y.cell? ⟨b, off + Wv.run f i * 6 + 1, none⟩ = some (.slice sa sv.sends.length sc) ∧ y.cell? ⟨b, off + Wv.run f i * 6 + 2, none⟩ = some (.int .i64 sv.wr.kind) ∧ y.cell? ⟨b, off + Wv.run f i * 6 + 3, none⟩ = some (.slice fa sv.wr.fs.length fc) ∧ y.cell? ⟨b, off + Wv.run f i * 6 + 4, none⟩ = some (.int .i64 sv.rd.kind) ∧ y.cell? ⟨b, off + Wv.run f i * 6 + 5, none⟩ = some (.slice ga sv.rd.fs.length gc)) 9 (by kernel_rfl) ?_
      refine wpAnyG_pure (i := 0) (v := ?_) rfl (by kernel_rfl) (by kernel_rfl) (by kernel_rfl) (by kernel_rfl) (by kernel_rfl) (fun _ _ _ h => h) (by kernel_rfl) ?_ (fun _ => HS.out _ (nw_alloc _ _).drew) ?_
      rotate_left 1
      · (intro zz; go_simp; first | done | with_reducible rfl)
      (try simp only [Act.put, List.setIfInBounds_toArray, List.set_cons_zero, List.set_cons_succ])
      refine wpAnyG_load (i := 1) (v := ?_) [] rfl (by kernel_rfl) (by kernel_rfl) (by kernel_rfl) (by kernel_rfl) (by kernel_rfl) (by kernel_rfl) (fun _ _ _ h => h) (by kernel_rfl) ?_ (fun _ => HS.out _ (nw_alloc _ _).drew) ?_
      rotate_left 1
      · (intro zz hS; obtain ⟨_, _, _, _, _, _, _, _, _⟩ := hS; go_simp; first | done | with_reducible rfl)
      (try simp only [Act.put, List.setIfInBounds_toArray, List.set_cons_zero, List.set_cons_succ])
      refine wpAnyG_pure (i := 2) (v := ?_) rfl (by kernel_rfl) (by kernel_rfl) (by kernel_rfl) (by kernel_rfl) (by kernel_rfl) (fun _ _ _ h => h) (by kernel_rfl) ?_ (fun _ => HS.out _ (nw_alloc _ _).drew) ?_
      rotate_left 1
      · (intro zz; go_simp; first | done | with_reducible rfl)
      (try simp only [Act.put, List.setIfInBounds_toArray, List.set_cons_zero, List.set_cons_succ])
      refine wpAnyG_load (i := 3) (v := ?_) [] rfl (by kernel_rfl) (by kernel_rfl) (by kernel_rfl) (by kernel_rfl) (by kernel_rfl) (by kernel_rfl) (fun _ _ _ h => h) (by kernel_rfl) ?_ (fun _ => HS.out _ (nw_alloc _ _).drew) ?_
      rotate_left 1
      · (intro zz hS; obtain ⟨_, _, _, _, _, _, _, _, _⟩ := hS; go_simp; first | done | with_reducible rfl)
      (try simp only [Act.put, List.setIfInBounds_toArray, List.set_cons_zero, List.set_cons_succ])
      refine wpAnyG_pure (i := 4) (v := ?_) rfl (by kernel_rfl) (by kernel_rfl) (by kernel_rfl) (by kernel_rfl) (by kernel_rfl) (fun _ _ _ h => h) (by kernel_rfl) ?_ (fun _ => HS.out _ (nw_alloc _ _).drew) ?_
      rotate_left 1
      · (intro zz; go_simp; first | done | with_reducible rfl)
      (try simp only [Act.put, List.setIfInBounds_toArray, List.set_cons_zero, List.set_cons_succ])
      refine wpAnyG_pure (i := 5) (v := ?_) rfl (by kernel_rfl) (by kernel_rfl) (by kernel_rfl) (by kernel_rfl) (by kernel_rfl) (fun _ _ _ h => h) (by kernel_rfl) ?_ (fun _ => HS.out _ (nw_alloc _ _).drew) ?_
      rotate_left 1
      · (intro zz; go_simp; first | done | with_reducible rfl)
      (try simp only [Act.put, List.setIfInBounds_toArray, List.set_cons_zero, List.set_cons_succ])
      refine wpAnyG_load (i := 6) (v := ?_) [] rfl (by kernel_rfl) (by kernel_rfl) (by kernel_rfl) (by kernel_rfl) (by kernel_rfl) (by kernel_rfl) (fun _ _ _ h => h) (by kernel_rfl) ?_ (fun _ => HS.out _ (nw_alloc _ _).drew) ?_
      rotate_left 1
      · (intro zz hS; obtain ⟨_, _, _, _, _, _, _, _, _⟩ := hS; go_simp; first | done | with_reducible rfl)
      (try simp only [Act.put, List.setIfInBounds_toArray, List.set_cons_zero, List.set_cons_succ])
      refine wpAnyG_pure (i := 7) (v := ?_) rfl (by kernel_rfl) (by kernel_rfl) (by kernel_rfl) (by kernel_rfl) (by kernel_rfl) (fun _ _ _ h => h) (by kernel_rfl) ?_ (fun _ => HS.out _ (nw_alloc _ _).drew) ?_
      rotate_left 1
      · (intro zz; go_simp; first | done | with_reducible rfl)
      (try simp only [Act.put, List.setIfInBounds_toArray, List.set_cons_zero, List.set_cons_succ])
      refine wpAnyG_load (i := 8) (v := ?_) [] rfl (by kernel_rfl) (by kernel_rfl) (by kernel_rfl) (by kernel_rfl) (by kernel_rfl) (by kernel_rfl) (fun _ _ _ h => h) (by kernel_rfl) ?_ (fun _ => HS.out _ (nw_alloc _ _).drew) ?_
      rotate_left 1
      · (intro zz hS; obtain ⟨_, _, _, _, _, _, _, _, _⟩ := hS; go_simp; first | done | with_reducible rfl)
      (try simp only [Act.put, List.setIfInBounds_toArray, List.set_cons_zero, List.set_cons_succ])
      refine wpAnyG_ready [9] (by kernel_rfl) (by simp) ?_
      refine AllG.cons rfl (fun K hK => ?_) AllG.nil
      go_simp
      refine hK.out _ _ (fun e => absurd (show true = false from e) (by decide)) ?_
      clear hK K
      (try simp only [Act.put, List.setIfInBounds_toArray, List.set_cons_zero, List.set_cons_succ])
      refine wpAnyG_done (by kernel_rfl) ?_ _
      go_wp2_with fail
      refine bodyPost_ret (is_results _ _ W1.heap.size (.string ⟨sv.name.toArray⟩) (.slice sa sv.sends.length sc) (.int .i64 sv.wr.kind) (.slice fa sv.wr.fs.length fc) (.int .i64 sv.rd.kind) (.slice ga sv.rd.fs.length gc) rfl ?_) rfl ?_
      · exact heap_new W1 _
      · exact ⟨sa, fa, ga, sc, fc, gc, rfl, HRI.out.nw (HN.out.trans (nw_alloc _ _).drew), HN.out.trans (nw_alloc _ _).drew⟩
    · have ddl : ¬ (i : Int) < done.length := by omega
      clear hdl hv n1 hk hri hsv hrc hcell
      go_enter Tryz.func32, Tryz.ntmps32
      go_upto_region 1 with fail
      rw [← HW.out, ← HWS.out]
      clear HW HWS
      go_upto_region 3 with fail
      refine wp_region_G (fun y => y.cell? ⟨w.heap.size, 0, none⟩ = some (.slice (some ⟨b, off, none⟩) f.old.length oc) ∧ y.cell? ⟨w.heap.size, 2, none⟩ = some (.slice (some ⟨rb, ro, none⟩) f.runs.length rc) ∧ y.cell? ⟨rb, ro + i, none⟩ = some (.int .i64 (Wv.run f i : Int)) ∧ y.cell? ⟨b, off + Wv.run f i * 6, none⟩ = some (.string ⟨sv.name.toArray⟩) ∧ y.cell? ⟨b, off + Wv.run f i * 6 + 1, none⟩ = some (.slice sa sv.sends.length sc) ∧ y.cell? ⟨b, off + Wv.run f i * 6 + 2, none⟩ = some (.int .i64 sv.wr.kind) ∧ y.cell? ⟨b, off + Wv.run f i * 6 + 3, none⟩ = some (.slice fa sv.wr.fs.length fc) ∧ y.cell? ⟨b, off + Wv.run f i * 6 + 4, none⟩ = some (.int .i64 sv.rd.kind) ∧ y.cell? ⟨b, off + Wv.run f i * 6 + 5, none⟩ = some (.slice ga sv.rd.fs.length gc)) 9 (by kernel_rfl) ?_
      refine wpAnyG_pure (i := 0) (v := ?_) rfl (by kernel_rfl) (by kernel_rfl) (by kernel_rfl) (by kernel_rfl) (by kernel_rfl) (fun _ _ _ h => h) (by kernel_rfl) ?_ (fun _ => HS.out _ (nw_alloc _ _).drew) ?_
      rotate_left 1
      · (intro zz; go_simp; first | done | with_reducible rfl)
      (try simp only [Act.put, List.setIfInBounds_toArray, List.set_cons_zero, List.set_cons_succ])
      refine wpAnyG_load (i := 1) (v := ?_) [] rfl (by kernel_rfl) (by kernel_rfl) (by kernel_rfl) (by kernel_rfl) (by kernel_rfl) (by kernel_rfl) (fun _ _ _ h => h) (by kernel_rfl) ?_ (fun _ => HS.out _ (nw_alloc _ _).drew) ?_
      rotate_left 1
      · (intro zz hS; obtain ⟨_, _, _, _, _, _, _, _, _⟩ := hS; go_simp; first | done | with_reducible rfl)
      (try simp only [Act.put, List.setIfInBounds_toArray, List.set_cons_zero, List.set_cons_succ])
      refine wpAnyG_pure (i := 2) (v := ?_) rfl (by kernel_rfl) (by kernel_rfl) (by kernel_rfl) (by kernel_rfl) (by kernel_rfl) (fun _ _ _ h => h) (by kernel_rfl) ?_ (fun _ => HS.out _ (nw_alloc _ _).drew) ?_
      rotate_left 1
      · (intro zz; go_simp; first | done | with_reducible rfl)
      (try simp only [Act.put, List.setIfInBounds_toArray, List.set_cons_zero, List.set_cons_succ])
      refine wpAnyG_load (i := 3) (v := ?_) [] rfl (by kernel_rfl) (by kernel_rfl) (by kernel_rfl) (by kernel_rfl) (by kernel_rfl) (by kernel_rfl) (fun _ _ _ h => h) (by kernel_rfl) ?_ (fun _ => HS.out _ (nw_alloc _ _).drew) ?_
      rotate_left 1
      · (intro zz hS; obtain ⟨_, _, _, _, _, _, _, _, _⟩ := hS; go_simp; first | done | with_reducible rfl)
      (try simp only [Act.put, List.setIfInBounds_toArray, List.set_cons_zero, List.set_cons_succ])
      refine wpAnyG_pure (i := 4) (v := ?_) rfl (by kernel_rfl) (by kernel_rfl) (by kernel_rfl) (by kernel_rfl) (by kernel_rfl) (fun _ _ _ h => h) (by kernel_rfl) ?_ (fun _ => HS.out _ (nw_alloc _ _).drew) ?_
      rotate_left 1
      · (intro zz; go_simp; first | done | with_reducible rfl)
      (try simp only [Act.put, List.setIfInBounds_toArray, List.set_cons_zero, List.set_cons_succ])
      refine wpAnyG_pure (i := 5) (v := ?_) rfl (by kernel_rfl) (by kernel_rfl) (by kernel_rfl) (by kernel_rfl) (by kernel_rfl) (fun _ _ _ h => h) (by kernel_rfl) ?_ (fun _ => HS.out _ (nw_alloc _ _).drew) ?_
      rotate_left 1
      · (intro zz; go_simp; first | done | with_reducible rfl)
      (try simp only [Act.put, List.setIfInBounds_toArray, List.set_cons_zero, List.set_cons_succ])
      refine wpAnyG_load (i := 6) (v := ?_) [] rfl (by kernel_rfl) (by kernel_rfl) (by kernel_rfl) (by kernel_rfl) (by kernel_rfl) (by kernel_rfl) (fun _ _ _ h => h) (by kernel_rfl) ?_ (fun _ => HS.out _ (nw_alloc _ _).drew) ?_
      rotate_left 1
      · (intro zz hS; obtain ⟨_, _, _, _, _, _, _, _, _⟩ := hS; go_simp; first | done | with_reducible rfl)
      (try simp only [Act.put, List.setIfInBounds_toArray, List.set_cons_zero, List.set_cons_succ])
      refine wpAnyG_pure (i := 7) (v := ?_) rfl (by kernel_rfl) (by kernel_rfl) (by kernel_rfl) (by kernel_rfl) (by kernel_rfl) (fun _ _ _ h => h) (by kernel_rfl) ?_ (fun _ => HS.out _ (nw_alloc _ _).drew) ?_
      rotate_left 1
      · (intro zz; go_simp; first | done | with_reducible rfl)
      (try simp only [Act.put, List.setIfInBounds_toArray, List.set_cons_zero, List.set_cons_succ])
      refine wpAnyG_load (i := 8) (v := ?_) [] rfl (by kernel_rfl) (by kernel_rfl) (by kernel_rfl) (by kernel_rfl) (by kernel_rfl) (by kernel_rfl) (fun _ _ _ h => h) (by kernel_rfl) ?_ (fun _ => HS.out _ (nw_alloc _ _).drew) ?_
      rotate_left 1
      · (intro zz hS; obtain ⟨_, _, _, _, _, _, _, _, _⟩ := hS; go_simp; first | done | with_reducible rfl)
      (try simp only [Act.put, List.setIfInBounds_toArray, List.set_cons_zero, List.set_cons_succ])
      refine wpAnyG_ready [9] (by kernel_rfl) (by simp) ?_
      refine AllG.cons rfl (fun K hK => ?_) AllG.nil
      go_simp
      refine hK.out _ _ (fun e => absurd (show true = false from e) (by decide)) ?_
      clear hK K
      (try simp only [Act.put, List.setIfInBounds_toArray, List.set_cons_zero, List.set_cons_succ])
      refine wpAnyG_done (by kernel_rfl) ?_ _
      go_wp2_with fail
      refine bodyPost_ret (is_results _ _ W1.heap.size (.string ⟨sv.name.toArray⟩) (.slice sa sv.sends.length sc) (.int .i64 sv.wr.kind) (.slice fa sv.wr.fs.length fc) (.int .i64 sv.rd.kind) (.slice ga sv.rd.fs.length gc) rfl ?_) rfl ?_
      · exact heap_new W1 _
      · exact ⟨sa, fa, ga, sc, fc, gc, rfl, HRI.out.nw (HN.out.trans (nw_alloc _ _).drew), HN.out.trans (nw_alloc _ _).drew⟩
set_option maxHeartbeats 4000000 in
set_option maxRecDepth 100000 in
theorem depth_c (P : Nat → Prop) : ∀ (lv : Nat) (most : Int) (nv vv : Value) (v : Vl) (w : World), lv ≤ 6 → 0 ≤ most → most ≤ 100 → VlAt P w nv vv v →
    Calls Tryz.prog 25 #[.agg #[.int .i64 v.kind, .int .i64 v.n, nv, vv], .int .i64 most, .int .i64 (lv : Int)] w fun e w' => ∃ n : Int, e = .returned (.int .i64 n) ∧ Hid ((1 ≤ n ∧ n ≤ most + 1) ∧ Nw w w') := by
  intro lv
  induction lv with
  | zero =>
    intro most nv vv v w hlv h0 h1 ht
    obtain ⟨na, nc, rfl, -, -⟩ := ht.names
    obtain ⟨va, vc, rfl, -, -⟩ := ht.vals
    have n1 := Lib.hid (nw_alloc w (.cells #[.int .i64 v.kind, .int .i64 v.n, .slice na v.names.length nc, .slice va v.vals.length vc] tVl))
    clear ht
    go_enter Tryz.func25, Tryz.ntmps25
    go_wp2_with fail
    go_ret
    exact ⟨_, rfl, ⟨by omega, by omega⟩, n1.out⟩
  | succ lv ih =>
    intro most nv vv v w hlv h0 h1 ht
    obtain ⟨na, nc, rfl, hnm, -⟩ := ht.names
    obtain ⟨va, vc, rfl, hvm, hcs⟩ := ht.vals
    have HCS := Lib.hid hcs
    have HIH : Hid (∀ (m : Int) nv' vv' v' y, 0 ≤ m → m ≤ 100 → VlAt P y nv' vv' v' → Calls Tryz.prog 25 #[.agg #[.int .i64 v'.kind, .int .i64 v'.n, nv', vv'], .int .i64 m, .int .i64 (lv : Int)] y fun e w' => ∃ n : Int, e = .returned (.int .i64 n) ∧ Hid ((1 ≤ n ∧ n ≤ m + 1) ∧ Nw y w')) := fun m nv' vv' v' y a b c => ih m nv' vv' v' y (by omega) a b c
    have n1 := nw_alloc w (.cells #[.int .i64 v.kind, .int .i64 v.n, .slice na v.names.length nc, .slice va v.vals.length vc] tVl)
    have b1 := heap_new w (.cells #[.int .i64 v.kind, .int .i64 v.n, .slice na v.names.length nc, .slice va v.vals.length vc] tVl)
    obtain ⟨W, hW⟩ : ∃ z, z = w.alloc (.cells #[.int .i64 v.kind, .int .i64 v.n, .slice na v.names.length nc, .slice va v.vals.length vc] tVl) := ⟨_, rfl⟩
    rw [← hW] at n1 b1
    have HW := Lib.hid hW
    have HN := Lib.hid n1
    have HX : Hid (∀ y, Nw W y → y.cell? ⟨w.heap.size, 2, none⟩ = some (.slice na v.names.length nc) ∧ y.cell? ⟨w.heap.size, 3, none⟩ = some (.slice va v.vals.length vc)) := fun y u => ⟨by rw [cells_cell (Nw.keep u b1)]; rfl, by rw [cells_cell (Nw.keep u b1)]; rfl⟩
    unfold maxLen at hvm hnm
    have hvm1 : (v.vals.length : Int) ≤ 9223372036854775807 := by omega
    have hnm1 : (v.names.length : Int) ≤ 9223372036854775807 := by omega
    have hlv1 : ((lv + 1 : Nat) : Int) ≤ 6 := by omega
    have hlv2 : ¬ ((lv + 1 : Nat) : Int) < 1 := by omega
    have hlv3 : ((lv + 1 : Nat) : Int) - 1 = (lv : Int) := by omega
    clear n1 b1 hW ht hcs ih hlv
    obtain ⟨x2, x3⟩ := HX.out W (Upd.refl _ _)
    go_enter Tryz.func25, Tryz.ntmps25
    go_upto_region 1 with fail
    rw [← HW.out]
    clear HW
    by_cases h10 : (10 : Int) < v.names.length
    · go_wp2_with fail
      go_ret
      exact ⟨_, rfl, ⟨by omega, by omega⟩, HN.out⟩
    go_wp2_with fail
    clear x2 x3
    go_loopw [7, 8] (fun nv iv wr => ∃ i : Nat, ∃ n : Int, i ≤ v.vals.length ∧ iv = .int .i64 (i : Int) ∧ nv = .int .i64 n ∧ 1 ≤ n ∧ n ≤ most + 1 ∧ Hid (Nw W wr)) (fun nv iv _ => v.vals.length - (intOf iv).toNat)
    case atStart => exact ⟨0, 1, Nat.zero_le _, rfl, rfl, by omega, by omega, Upd.refl _ _⟩
    case round =>
      obtain ⟨i, n, hi, rfl, rfl, hs1, hs2, HU⟩ := hrel
      obtain ⟨x2, x3⟩ := HX.out wr HU.out
      by_cases hlt : i < v.vals.length
      · have hlt1 : (i : Int) < v.vals.length := by omega
        by_cases hle : n ≤ most
        · rcases HCS.out with hnil | ⟨b, off, rfl, hb, hcell⟩
          · rw [hnil] at hlt; simp at hlt
          obtain ⟨nv', vv', q0, q1, q2, q3, hv⟩ := hcell i hlt
          have uu := HN.out.trans HU.out
          have d0 := nw_cellF uu q0
          have d1 := nw_cellF uu q1
          have d2 := nw_cellF uu q2
          have d3 := nw_cellF uu q3
          obtain ⟨na', nc', rfl, -, -⟩ := hv.names
          obtain ⟨va', vc', rfl, -, -⟩ := hv.vals
          have hcl := Lib.hid (HIH.out (most - n) _ _ _ wr (by omega) (by omega) (hv.nw uu))
          have hin : (i : Int) ≤ 9223372036854775806 := by omega
          clear hcell q0 q1 q2 q3 hv uu
          generalize v.vals[i] = ft at *
          go_wp2_with fail
          (with_reducible refine (hcl.out).mono ?_)
          rintro _ w2 ⟨z, rfl, u2⟩
          obtain ⟨⟨g1, g2⟩, u2⟩ := u2.out
          have HU2 := Lib.hid (HU.out.trans u2)
          clear u2
          go_wp2_with fail
          go_roundw
          case rel => exact ⟨i + 1, n + z, by omega, by go_num, rfl, by omega, by omega, HU2.out⟩
          case measure => simp [intOf]; omega
        · go_wp2_with fail
          go_ret
          exact ⟨_, rfl, ⟨by omega, by omega⟩, HN.out.trans HU.out⟩
      · obtain rfl : i = v.vals.length := by omega
        have hlt1 : ¬ ((v.vals.length : Nat) : Int) < v.vals.length := by omega
        go_wp2_with fail
        go_ret
        exact ⟨_, rfl, ⟨by omega, by omega⟩, HN.out.trans HU.out⟩
end Go.Proofs.YtjlgmoemnhmgmaaGreatDoor
namespace Go.Proofs.YtjlgmoemnhmgmaaGreatDoor
open Go.RowKit
set_option linter.unusedVariables false
set_option linter.unusedSimpArgs false
attribute [local irreducible] Calls
open Fm (Ty Vl Str)
open Wv (Svc FL)

set_option maxHeartbeats 16000000 in
set_option maxRecDepth 100000 in
theorem heard_c (P : Nat → Prop) (oa na ra da va : Option Addr) (oc nc rc dc vc : Nat) (f : FL) (done : List Bool) (vs : List Vl) (w : World) (g : Gm w) (h : FlAt w oa na ra oc nc f) (hr : Wv.Rg f) (hno : Wv.firstBad f done = none) (hd : BC w da done) (hv : VsC P w va vs) (hvl : vs.length ≤ 4) :
    Calls Tryz.prog 27 #[.agg (flV oa na ra oc nc rc f), .slice da done.length dc, .slice va vs.length vc] w fun e w' => e = .returned (.bool true) ∧ Nw w w' := by
  unfold flV
  have n1 := nw_alloc w (.cells #[.slice oa f.old.length oc, .slice na f.new.length nc, .slice ra f.runs.length rc] tFl)
  have b1 := heap_new w (.cells #[.slice oa f.old.length oc, .slice na f.new.length nc, .slice ra f.runs.length rc] tFl)
  obtain ⟨W, hW⟩ : ∃ z, z = w.alloc (.cells #[.slice oa f.old.length oc, .slice na f.new.length nc, .slice ra f.runs.length rc] tFl) := ⟨_, rfl⟩
  rw [← hW] at n1 b1
  have HW := Lib.hid hW
  have HN := Lib.hid n1
  have HX : Hid (∀ y, Nw W y → y.cell? ⟨w.heap.size, 0, none⟩ = some (.slice oa f.old.length oc) ∧ y.cell? ⟨w.heap.size, 1, none⟩ = some (.slice na f.new.length nc) ∧ y.cell? ⟨w.heap.size, 2, none⟩ = some (.slice ra f.runs.length rc)) := fun y u => ⟨by rw [cells_cell (Nw.keep u b1)]; rfl, by rw [cells_cell (Nw.keep u b1)]; rfl, by rw [cells_cell (Nw.keep u b1)]; rfl⟩
  have HG : Hid (∀ y, Nw W y → Gm y) := fun y u => g.upd (n1.trans u)
  have HIS : Hid (∀ y (i : Nat), Nw W y → i < f.runs.length → Calls Tryz.prog 32 #[.agg #[.slice oa f.old.length oc, .slice na f.new.length nc, .slice ra f.runs.length rc], .slice da done.length dc, .int .i64 (i : Int)] y fun e w' => ∃ sa fa ga sc fc gc, e = .returned (svV (Wv.svcAt f (Wv.run f i) (Wv.ver done i)) sa fa ga sc fc gc) ∧ Hid (SvcR w' (Wv.svcAt f (Wv.run f i) (Wv.ver done i)) sa fa ga fc gc ∧ Nw y w')) := fun y i u hi => Is_c oa na ra da oc nc rc dc f done i y (h.nw (n1.trans u)) hr (BC.nw hd (n1.trans u)) hi
  have HV : Hid (∀ y, Nw W y → VsC P y va vs) := fun y u => VsC.nw hv (n1.trans u)
  have HRU : Hid (∀ y (k : Nat), Nw W y → k < f.runs.length → ∃ rb ro, ra = some ⟨rb, ro, none⟩ ∧ y.cell? ⟨rb, ro + k, none⟩ = some (.int .i64 (Wv.run f k : Int))) := fun y k u hk => by
    rcases h.runs with hnil | ⟨rb, ro, rfl, hrb, hrcell⟩
    · rw [hnil] at hk; simp at hk
    · refine ⟨rb, ro, rfl, ?_⟩
      have := nw_cellF (n1.trans u) (hrcell k hk)
      rw [(run_lt hr hk).2] at this
      exact this
  have HOK : Hid (∀ i k, i < f.runs.length → k < f.runs.length → ((Wv.run f k : Nat) : Int) ∈ (Wv.svcAt f (Wv.run f i) (Wv.ver done i)).sends → ∀ v, Fm.okI 4 v → Fm.has (Wv.svcAt f (Wv.run f i) (Wv.ver done i)).wr v = true →
      fWrite (Wv.svcAt f (Wv.run f i) (Wv.ver done i)).wr v = (Fm.writeF 4 (Wv.svcAt f (Wv.run f i) (Wv.ver done i)).wr v, 0) ∧ (Fm.writeF 4 (Wv.svcAt f (Wv.run f i) (Wv.ver done i)).wr v).length ≤ 1000000 ∧ (fRead (Wv.svcAt f (Wv.run f k) (Wv.ver done k)).rd (Fm.writeF 4 (Wv.svcAt f (Wv.run f i) (Wv.ver done i)).wr v)).2 = 0) := fun i k hi hk hs v h1 h2 => Wv.heard_ok hr hno hi hk hs h1 h2
  have hfew := hr.few
  obtain ⟨rl, hrl⟩ : ∃ rl, rl = f.runs.length := ⟨_, rfl⟩
  have hfew1 : (rl : Int) ≤ 400 := by omega
  have hvl1 : (vs.length : Int) ≤ 4 := by omega
  rw [← hrl] at HX HIS HRU HOK
  clear n1 b1 hW h hd hv hr hno g
  go_enter Tryz.func27, Tryz.ntmps27
  go_upto_region 1 with fail
  rw [← HW.out, ← hrl]
  clear HW hrl
  go_wp2_with fail
  go_loopw [7] (fun iv wr => ∃ i : Nat, i ≤ rl ∧ iv = .int .i64 (i : Int) ∧ Hid (Nw W wr)) (fun iv _ => rl - (intOf iv).toNat)
  case atStart => exact ⟨0, Nat.zero_le _, rfl, Upd.refl _ _⟩
  case round =>
    obtain ⟨i, hi, rfl, HU⟩ := hrel
    obtain ⟨x0, x1, x2⟩ := HX.out wr HU.out
    by_cases hlt : i < rl
    · have hlt1 : (i : Int) < rl := by omega
      have hi9 : (i : Int) ≤ 400 := by omega
      have hc1 := Lib.hid (HIS.out wr i HU.out hlt)
      have HOI := Lib.hid (fun k hk => HOK.out i k hlt hk)
      unfold svV at hc1
      generalize Wv.svcAt f (Wv.run f i) (Wv.ver done i) = sA at *
      go_wp2_with fail
      (with_reducible refine (hc1.out).mono ?_)
      rintro _ w2 ⟨sa, fa, ga, sc, fc, gc, rfl, hA⟩
      have nA := nw_alloc w2 (.cells #[.string ⟨sA.name.toArray⟩, .slice sa sA.sends.length sc, .int .i64 sA.wr.kind, .slice fa sA.wr.fs.length fc, .int .i64 sA.rd.kind, .slice ga sA.rd.fs.length gc] tSv)
      have bA := heap_new w2 (.cells #[.string ⟨sA.name.toArray⟩, .slice sa sA.sends.length sc, .int .i64 sA.wr.kind, .slice fa sA.wr.fs.length fc, .int .i64 sA.rd.kind, .slice ga sA.rd.fs.length gc] tSv)
      obtain ⟨WA, hWA⟩ : ∃ z, z = w2.alloc (.cells #[.string ⟨sA.name.toArray⟩, .slice sa sA.sends.length sc, .int .i64 sA.wr.kind, .slice fa sA.wr.fs.length fc, .int .i64 sA.rd.kind, .slice ga sA.rd.fs.length gc] tSv) := ⟨_, rfl⟩
      rw [← hWA] at nA bA
      have HWA := Lib.hid hWA
      have HXA : Hid (∀ y, Nw WA y → y.cell? ⟨w2.heap.size, 1, none⟩ = some (.slice sa sA.sends.length sc) ∧ y.cell? ⟨w2.heap.size, 2, none⟩ = some (.int .i64 sA.wr.kind) ∧ y.cell? ⟨w2.heap.size, 3, none⟩ = some (.slice fa sA.wr.fs.length fc)) := fun y u => ⟨by rw [cells_cell (Nw.keep u bA)]; rfl, by rw [cells_cell (Nw.keep u bA)]; rfl, by rw [cells_cell (Nw.keep u bA)]; rfl⟩
      have HSA : Hid (∀ y, Nw WA y → IC y sa sA.sends ∧ TyAt y (.slice fa sA.wr.fs.length fc) sA.wr) := fun y u => ⟨IC.nw hA.out.1.sends (nA.trans u), hA.out.1.wr.nw (nA.trans u)⟩
      have HUA := Lib.hid (HU.out.trans (hA.out.2.trans nA))
      have hsl := Lib.hid hA.out.1.few
      clear hA nA bA hWA hc1 x0 x1 x2
      go_upto_region 5 with fail
      rw [← HWA.out]
      clear HWA
      go_wp2_with fail
      go_loopw [9] (fun kv wr => ∃ k : Nat, k ≤ rl ∧ kv = .int .i64 (k : Int) ∧ Hid (Nw WA wr)) (fun kv _ => rl - (intOf kv).toNat)
      case atStart => exact ⟨0, Nat.zero_le _, rfl, Upd.refl _ _⟩
      case round =>
        obtain ⟨k, hk, rfl, HK⟩ := hrel
        obtain ⟨wk, hwk⟩ : ∃ y, y = wr := ⟨_, rfl⟩
        subst hwk
        have HUK := Lib.hid (HUA.out.trans HK.out)
        obtain ⟨x0, x1, x2⟩ := HX.out wk HUK.out
        by_cases hkl : k < rl
        · have hkl1 : (k : Int) < rl := by omega
          have hk9 : (k : Int) ≤ 400 := by omega
          have hk0 : decide ((k : Int) < 0) = false := decide_eq_false (by omega)
          have hc2 := Lib.hid (HIS.out wk k HUK.out hkl)
          have HOIK := Lib.hid (HOI.out k hkl)
          unfold svV at hc2
          generalize Wv.svcAt f (Wv.run f k) (Wv.ver done k) = sB at *
          go_wp2_with fail
          (with_reducible refine (hc2.out).mono ?_)
          rintro _ w3 ⟨sa', fa', ga', sc', fc', gc', rfl, hB⟩
          have nB := nw_alloc w3 (.cells #[.string ⟨sB.name.toArray⟩, .slice sa' sB.sends.length sc', .int .i64 sB.wr.kind, .slice fa' sB.wr.fs.length fc', .int .i64 sB.rd.kind, .slice ga' sB.rd.fs.length gc'] tSv)
          have bB := heap_new w3 (.cells #[.string ⟨sB.name.toArray⟩, .slice sa' sB.sends.length sc', .int .i64 sB.wr.kind, .slice fa' sB.wr.fs.length fc', .int .i64 sB.rd.kind, .slice ga' sB.rd.fs.length gc'] tSv)
          obtain ⟨WB, hWB⟩ : ∃ z, z = w3.alloc (.cells #[.string ⟨sB.name.toArray⟩, .slice sa' sB.sends.length sc', .int .i64 sB.wr.kind, .slice fa' sB.wr.fs.length fc', .int .i64 sB.rd.kind, .slice ga' sB.rd.fs.length gc'] tSv) := ⟨_, rfl⟩
          rw [← hWB] at nB bB
          have HWB := Lib.hid hWB
          have HXB : Hid (∀ y, Nw WB y → y.cell? ⟨w3.heap.size, 4, none⟩ = some (.int .i64 sB.rd.kind) ∧ y.cell? ⟨w3.heap.size, 5, none⟩ = some (.slice ga' sB.rd.fs.length gc')) := fun y u => ⟨by rw [cells_cell (Nw.keep u bB)]; rfl, by rw [cells_cell (Nw.keep u bB)]; rfl⟩
          have HSB : Hid (∀ y, Nw WB y → TyAt y (.slice ga' sB.rd.fs.length gc') sB.rd) := fun y u => hB.out.1.rd.nw (nB.trans u)
          have HKB := Lib.hid (HK.out.trans (hB.out.2.trans nB))
          clear hB nB bB hWB hc2 x0 x1 x2
          go_upto_region 9 with fail
          rw [← HWB.out]
          clear HWB
          go_wp2_with fail
          go_loopw [11] (fun nv wr => ∃ n : Nat, n ≤ vs.length ∧ nv = .int .i64 (n : Int) ∧ Hid (Nw WB wr)) (fun nv _ => vs.length - (intOf nv).toNat)
          case atStart => exact ⟨0, Nat.zero_le _, rfl, Upd.refl _ _⟩
          case round =>
            obtain ⟨n, hn, rfl, HB⟩ := hrel
            have HAB := Lib.hid (HKB.out.trans HB.out)
            have HUB := Lib.hid (HUA.out.trans HAB.out)
            obtain ⟨rb, ro, rfl, hrc⟩ := HRU.out wr k HUB.out hkl
            obtain ⟨a1, a2, a3⟩ := HXA.out wr HAB.out
            have y0 : ∀ j : Later wr, j.1.cell? ⟨w2.heap.size, 1, none⟩ = some (.slice sa sA.sends.length sc) := fun j => later_cell j a1
            have y1 : ∀ j : Later wr, j.1.cell? ⟨w.heap.size, 2, none⟩ = some (.slice (some ⟨rb, ro, none⟩) rl rc) := fun j => later_cell j (HX.out wr HUB.out).2.2
            have y2 : ∀ j : Later wr, j.1.cell? ⟨rb, ro + k, none⟩ = some (.int .i64 (Wv.run f k : Int)) := fun j => later_cell j hrc
            have HHA : Hid (∀ y, Nw wr y → Calls Tryz.prog 20 #[.slice sa sA.sends.length sc, .int .i64 (Wv.run f k : Int)] y fun e w' => e = .returned (.bool (decide (((Wv.run f k : Nat) : Int) ∈ sA.sends))) ∧ Nw y w') := fun y u => has_ic sa sc sA.sends _ y (HSA.out y (HAB.out.trans u)).1 hsl.out
            clear hrc a1 a2 a3
            by_cases hnl : n < vs.length
            · have hnl1 : decide ((n : Int) < vs.length) = true := decide_eq_true (by omega)
              have hn0 : decide ((n : Int) < 0) = false := decide_eq_false (by omega)
              have hn9 : (n : Int) ≤ 4 := by omega
              by_cases hmem : ((Wv.run f k : Nat) : Int) ∈ sA.sends
              · have HM : Hid (∀ v, Fm.okI 4 v → Fm.has sA.wr v = true → fWrite sA.wr v = (Fm.writeF 4 sA.wr v, 0) ∧ (Fm.writeF 4 sA.wr v).length ≤ 1000000 ∧ (fRead sB.rd (Fm.writeF 4 sA.wr v)).2 = 0) := HOIK.out hmem
                rw [decide_eq_true hmem] at HHA
                clear hmem
                go_upto_region 10 with fail
                refine wp_region_nw (by kernel_rfl) (by kernel_rfl) ?_
                repeat (go_big_quiet_step ((go_at_call 20; exact later_call (HHA.out _ (Later.nw _)))))
                refine wpQuiet_nil ?_
                intro w4 u4
                replace u4 := later_out u4
                have HB4 := Lib.hid (HB.out.trans u4)
                have HAB4 := Lib.hid (HAB.out.trans u4)
                have HUB4 := Lib.hid (HUB.out.trans u4)
                clear u4 y0 y1 y2 HHA
                rcases HV.out w4 HUB4.out with hnil | ⟨vb, vo, rfl, hvb, hvc⟩
                · rw [hnil] at hnl; simp at hnl
                obtain ⟨nv', vv', q0, q1, q2, q3, hvn⟩ := hvc n hnl
                have hokv := Lib.hid (hvn.okI 4)
                obtain ⟨na', nc', rfl, -, -⟩ := hvn.names
                obtain ⟨va', vc', rfl, -, -⟩ := hvn.vals
                have HVN := Lib.hid hvn
                obtain ⟨a1, a2, a3⟩ := HXA.out w4 HAB4.out
                have y0 : ∀ j : Later w4, j.1.cell? ⟨w2.heap.size, 2, none⟩ = some (.int .i64 sA.wr.kind) := fun j => later_cell j a2
                have y1 : ∀ j : Later w4, j.1.cell? ⟨w2.heap.size, 3, none⟩ = some (.slice fa sA.wr.fs.length fc) := fun j => later_cell j a3
                generalize vs[n]'hnl = v at *
                have y2 : ∀ j : Later w4, j.1.cell? ⟨vb, vo + n * 4, none⟩ = some (.int .i64 v.kind) := fun j => later_cell j q0
                have y3 : ∀ j : Later w4, j.1.cell? ⟨vb, vo + n * 4 + 1, none⟩ = some (.int .i64 v.n) := fun j => later_cell j q1
                have y4 : ∀ j : Later w4, j.1.cell? ⟨vb, vo + n * 4 + 2, none⟩ = some (.slice na' v.names.length nc') := fun j => later_cell j q2
                have y5 : ∀ j : Later w4, j.1.cell? ⟨vb, vo + n * 4 + 3, none⟩ = some (.slice va' v.vals.length vc') := fun j => later_cell j q3
                have HHS : Hid (∀ y, Nw w4 y → Calls Tryz.prog 49 #[.agg #[.int .i64 sA.wr.kind, .slice fa sA.wr.fs.length fc], .agg #[.int .i64 v.kind, .int .i64 v.n, .slice na' v.names.length nc', .slice va' v.vals.length vc']] y fun e w' => e = .returned (.bool (Fm.has sA.wr v)) ∧ Nw y w') := fun y u => has_c P _ _ _ _ v y (HG.out y (HUB4.out.trans u)) (HSA.out y (HAB4.out.trans u)).2 (HVN.out.nw u)
                have HWR : Hid (∀ y, Nw w4 y → Calls Tryz.prog 50 #[.agg #[.int .i64 sA.wr.kind, .slice fa sA.wr.fs.length fc], .agg #[.int .i64 v.kind, .int .i64 v.n, .slice na' v.names.length nc', .slice va' v.vals.length vc']] y fun e w' => e = .returned (.tuple #[.string ⟨(fWrite sA.wr v).1.toArray⟩, .int .i64 (fWrite sA.wr v).2]) ∧ Nw y w') := fun y u => Write_c P _ _ _ _ v y (HG.out y (HUB4.out.trans u)) (HSA.out y (HAB4.out.trans u)).2 (HVN.out.nw u)
                have HMV := Lib.hid (HM.out v hokv.out)
                clear q0 q1 q2 q3 hvn hvc a1 a2 a3
                cases hhas : Fm.has sA.wr v with
                | false =>
                  rw [hhas] at HHS
                  clear hhas HMV HWR
                  go_upto_region 12 with fail
                  refine wp_region_nw (by kernel_rfl) (by kernel_rfl) ?_
                  repeat (go_big_quiet_step ((go_at_call 49; exact later_call (HHS.out _ (Later.nw _)))))
                  refine wpQuiet_nil ?_
                  intro w5 u5
                  replace u5 := later_out u5
                  have HB5 := Lib.hid (HB4.out.trans u5)
                  clear u5 y0 y1 y2 y3 y4 y5
                  go_wp2_with fail
                  go_roundw
                  case rel => exact ⟨n + 1, by omega, by go_num, HB5.out⟩
                  case measure => simp [intOf]; omega
                | true =>
                  have hm3 := HMV.out hhas
                  rw [hhas] at HHS
                  clear hhas HMV
                  rw [hm3.1] at HWR
                  have HR3 := Lib.hid hm3.2
                  clear hm3
                  dsimp only at HWR
                  generalize Fm.writeF 4 sA.wr v = s at *
                  go_upto_region 12 with fail
                  refine wp_region_nw (by kernel_rfl) (by kernel_rfl) ?_
                  repeat (go_big_quiet_step ((go_at_call 49; exact later_call (HHS.out _ (Later.nw _)))))
                  refine wpQuiet_nil ?_
                  intro w5 u5
                  replace u5 := later_out u5
                  have HB5 := Lib.hid (HB4.out.trans u5)
                  have HWR5 : Hid (∀ y, Nw w5 y → Calls Tryz.prog 50 #[.agg #[.int .i64 sA.wr.kind, .slice fa sA.wr.fs.length fc], .agg #[.int .i64 v.kind, .int .i64 v.n, .slice na' v.names.length nc', .slice va' v.vals.length vc']] y fun e w' => e = .returned (.tuple #[.string ⟨s.toArray⟩, .int .i64 0]) ∧ Nw y w') := fun y u => HWR.out y (u5.trans u)
                  have z0 : ∀ j : Later w5, j.1.cell? ⟨w2.heap.size, 2, none⟩ = some (.int .i64 sA.wr.kind) := fun j => y0 ⟨j.1, u5.trans (Later.nw j)⟩
                  have z1 : ∀ j : Later w5, j.1.cell? ⟨w2.heap.size, 3, none⟩ = some (.slice fa sA.wr.fs.length fc) := fun j => y1 ⟨j.1, u5.trans (Later.nw j)⟩
                  have z2 : ∀ j : Later w5, j.1.cell? ⟨vb, vo + n * 4, none⟩ = some (.int .i64 v.kind) := fun j => y2 ⟨j.1, u5.trans (Later.nw j)⟩
                  have z3 : ∀ j : Later w5, j.1.cell? ⟨vb, vo + n * 4 + 1, none⟩ = some (.int .i64 v.n) := fun j => y3 ⟨j.1, u5.trans (Later.nw j)⟩
                  have z4 : ∀ j : Later w5, j.1.cell? ⟨vb, vo + n * 4 + 2, none⟩ = some (.slice na' v.names.length nc') := fun j => y4 ⟨j.1, u5.trans (Later.nw j)⟩
                  have z5 : ∀ j : Later w5, j.1.cell? ⟨vb, vo + n * 4 + 3, none⟩ = some (.slice va' v.vals.length vc') := fun j => y5 ⟨j.1, u5.trans (Later.nw j)⟩
                  clear u5 y0 y1 y2 y3 y4 y5 HWR HHS
                  go_upto_region 13 with fail
                  refine wp_region_nw (by kernel_rfl) (by kernel_rfl) ?_
                  repeat (go_big_quiet_step ((go_at_call 50; exact later_call (HWR5.out _ (Later.nw _)))))
                  refine wpQuiet_nil ?_
                  intro w6 u6
                  replace u6 := later_out u6
                  have HB6 := Lib.hid (HB5.out.trans u6)
                  have HUB6 := Lib.hid (HUA.out.trans (HKB.out.trans HB6.out))
                  clear u6 z0 z1 z2 z3 z4 z5
                  obtain ⟨b4, b5⟩ := HXB.out w6 HB6.out
                  have hrd := Lib.hid (Read_c _ sB.rd s w6 (HG.out w6 HUB6.out) (HSB.out w6 HB6.out) HR3.out.1)
                  rw [HR3.out.2] at hrd
                  go_wp2_with fail
                  (with_reducible refine (hrd.out).mono ?_)
                  rintro _ w7 ⟨xn, xv, rfl, hx⟩
                  have HB7 := Lib.hid (HB6.out.trans hx.out.2)
                  obtain ⟨xa, xc, rfl, -, -⟩ := hx.out.1.names
                  obtain ⟨ya, yc, rfl, -, -⟩ := hx.out.1.vals
                  clear hx b4 b5
                  go_wp2_with fail
                  go_roundw
                  case rel => exact ⟨n + 1, by omega, by go_num, HB7.out.trans (nw_alloc _ _)⟩
                  case measure => simp [intOf]; omega
              · rw [decide_eq_false hmem] at HHA
                clear hmem
                go_upto_region 10 with fail
                refine wp_region_nw (by kernel_rfl) (by kernel_rfl) ?_
                repeat (go_big_quiet_step ((go_at_call 20; exact later_call (HHA.out _ (Later.nw _)))))
                refine wpQuiet_nil ?_
                intro w4 u4
                replace u4 := later_out u4
                have HAB4 := Lib.hid (HAB.out.trans u4)
                clear u4 y0 y1 y2 HHA
                go_wp2_with fail
                go_roundw
                case rel => exact ⟨k + 1, by omega, by go_num, HAB4.out⟩
                case measure => simp [intOf]; omega
            · have hnl1 : decide ((n : Int) < vs.length) = false := decide_eq_false (by omega)
              go_upto_region 10 with fail
              refine wp_region_nw (by kernel_rfl) (by kernel_rfl) ?_
              repeat (go_big_quiet_step ((fail)))
              refine wpQuiet_nil ?_
              intro w4 u4
              replace u4 := later_out u4
              have HAB4 := Lib.hid (HAB.out.trans u4)
              clear u4 y0 y1 y2 HHA
              go_wp2_with fail
              go_roundw
              case rel => exact ⟨k + 1, by omega, by go_num, HAB4.out⟩
              case measure => simp [intOf]; omega
        · obtain rfl : k = rl := by omega
          have hkl1 : ¬ ((k : Nat) : Int) < k := by omega
          go_wp2_with fail
          go_roundw
          case rel => exact ⟨i + 1, by omega, by go_num, HUK.out⟩
          case measure => simp [intOf]; omega
    · obtain rfl : i = rl := by omega
      have hlt1 : ¬ ((i : Nat) : Int) < i := by omega
      go_wp2_with fail
      go_ret
      exact ⟨rfl, HN.out.trans HU.out⟩
end Go.Proofs.YtjlgmoemnhmgmaaGreatDoor
