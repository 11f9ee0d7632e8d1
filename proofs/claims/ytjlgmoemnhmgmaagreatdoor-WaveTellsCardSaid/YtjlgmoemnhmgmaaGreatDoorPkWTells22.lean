/- wave.Mixed. -/
import Derived.Test.YtjlgmoemnhmgmaaGreatDoorPkWTells21
namespace Go.Proofs.YtjlgmoemnhmgmaaGreatDoor
open Go.RowKit
set_option linter.unusedVariables false
set_option linter.unusedSimpArgs false
attribute [local irreducible] Calls
open Wv (Svc FL svcOk sendsOk inR)

/-- What the walks of this chapter are told of a fleet. -/
structure Sm (f : FL) : Prop where
  o : f.old.length ≤ 100000
  n : f.new.length ≤ 100000
  r : f.runs.length ≤ 100000
  so : ∀ s ∈ f.old, s.sends.length ≤ 1000
  sn : ∀ s ∈ f.new, s.sends.length ≤ 1000
theorem mixed_results (tmps : Array Value) (w : World) : (results Tryz.f10 tmps).run Tryz.prog w = .ok (.tuple #[tmps.getD 4 undef, tmps.getD 5 undef, tmps.getD 6 undef]) w := by
  simp [results, Tryz.results10, go_sem]
def mixV (m : Int × Int × Bool) : Value := .tuple #[.int .i64 m.1, .int .i64 m.2.1, .bool m.2.2]
set_option maxHeartbeats 4000000 in
set_option maxRecDepth 100000 in
theorem Mixed_c (oa na ra da : Option Addr) (oc nc rc dc : Nat) (f : FL) (done : List Bool) (w : World) (g : Gm w) (h : FlAt w oa na ra oc nc f) (hs : Sm f) (hd : BC w da done) (hdl : True) :
    Calls Tryz.prog 10 #[.agg (flV oa na ra oc nc rc f), .slice da done.length dc] w fun e w' => e = .returned (mixV (Wv.mixed f done)) ∧ Nw w w' := by
  unfold flV mixV
  have n1 := nw_alloc w (.cells #[.slice oa f.old.length oc, .slice na f.new.length nc, .slice ra f.runs.length rc] tFl)
  have b1 := heap_new w (.cells #[.slice oa f.old.length oc, .slice na f.new.length nc, .slice ra f.runs.length rc] tFl)
  obtain ⟨W, hW⟩ : ∃ z, z = w.alloc (.cells #[.slice oa f.old.length oc, .slice na f.new.length nc, .slice ra f.runs.length rc] tFl) := ⟨_, rfl⟩
  rw [← hW] at n1 b1
  have HW := Lib.hid hW
  have HN := Lib.hid n1
  have HX : Hid (∀ y, Nw W y → y.cell? ⟨w.heap.size, 0, none⟩ = some (.slice oa f.old.length oc) ∧ y.cell? ⟨w.heap.size, 1, none⟩ = some (.slice na f.new.length nc) ∧ y.cell? ⟨w.heap.size, 2, none⟩ = some (.slice ra f.runs.length rc)) := fun y u => ⟨by rw [cells_cell (Nw.keep u b1)]; rfl, by rw [cells_cell (Nw.keep u b1)]; rfl, by rw [cells_cell (Nw.keep u b1)]; rfl⟩
  have HF := Lib.hid (h.nw n1)
  have HG := Lib.hid (g.upd n1)
  have HD := Lib.hid (BC.nw hd n1)
  have hr1 := Lib.hid (wvRight_c oa na ra oc nc rc f W (g.upd n1) (h.nw n1) hs.o hs.n hs.r hs.so hs.sn)
  have HM : Hid (Wv.mixed f done = if Wv.right f = true then Wv.pairOf (Wv.firstBad f done) else (0, 0, false)) := rfl
  have HSM := Lib.hid hs
  obtain ⟨x0, x1, x2⟩ := HX.out W (Upd.refl _ _)
  unfold flV at hr1
  clear n1 b1 hW h g hd hs
  go_enter Tryz.func10, Tryz.ntmps10
  go_upto_region 1 with fail
  rw [← HW.out]
  clear HW
  go_wp2_with fail
  cases hR : Wv.right f with
  | false =>
    rw [hR] at hr1
    have e9 : Hid (Wv.mixed f done = (0, 0, false)) := by show _ = _; rw [HM.out, hR]; rfl
    clear hR
    (with_reducible refine (hr1.out).mono ?_)
    rintro _ w2 ⟨rfl, u2⟩
    have U2 := Lib.hid (HN.out.trans u2)
    clear u2
    go_wp2_with fail
    refine bodyPost_ret (mixed_results _ _) rfl ?_
    exact ⟨by rw [e9.out]; rfl, U2.out⟩
  | true =>
  rw [hR] at hr1
  have e9 : Hid (Wv.mixed f done = Wv.pairOf (Wv.firstBad f done)) := by show _ = _; rw [HM.out, hR]; rfl
  have HRG := Lib.hid (Wv.rg_of hR)
  clear hR
  (with_reducible refine (hr1.out).mono ?_)
  rintro _ w2 ⟨rfl, u2⟩
  have U2 := Lib.hid u2
  have HTK : Hid (∀ y, Nw W y → Calls Tryz.prog 30 #[.agg #[.slice oa f.old.length oc, .slice na f.new.length nc, .slice ra f.runs.length rc]] y fun e w' => ∃ tb T, e = .returned (.pointer (some ⟨tb, 0, none⟩)) ∧ Hid (TabAt w' tb T ∧ TabOk f T ∧ y.heap.size ≤ tb ∧ Nw y w')) := fun y u => talks_c oa na ra oc nc rc f y (HG.out.upd u) (HF.out.nw u) HRG.out HSM.out.so HSM.out.sn
  have HFS : Hid (∀ y tb T, Nw W y → TabAt y tb T → TabOk f T → Calls Tryz.prog 31 #[.pointer (some ⟨tb, 0, none⟩), .agg #[.slice oa f.old.length oc, .slice na f.new.length nc, .slice ra f.runs.length rc], .slice da done.length dc] y fun e w' => e = .returned (.tuple #[.int .i64 (Wv.pairOf (Wv.firstBad f done)).1, .int .i64 (Wv.pairOf (Wv.firstBad f done)).2.1, .bool (Wv.pairOf (Wv.firstBad f done)).2.2]) ∧ Nw y w') := fun y tb T u hT hok => first_c tb T oa na ra da oc nc rc dc f done y (HG.out.upd u).g.big (HF.out.nw u) HRG.out hT hok (BC.nw HD.out u) hdl
  clear u2 hr1 x0 x1 x2
  go_upto_region 3 with fail
  have hd0 : Nw W w2.drew := U2.out.trans (Upd.refl _ w2).drew
  have HS0 := Lib.hid (HX.out _ hd0)
  generalize Wv.pairOf (Wv.firstBad f done) = pr at *
  obtain ⟨p1, p2, p3⟩ := pr
  dsimp only at HFS
  refine wp_region_G (fun y => y.cell? ⟨w.heap.size, 0, none⟩ = some (.slice oa f.old.length oc) ∧ y.cell? ⟨w.heap.size, 1, none⟩ = some (.slice na f.new.length nc) ∧ y.cell? ⟨w.heap.size, 2, none⟩ = some (.slice ra f.runs.length rc)) 8 (by kernel_rfl) ?_
  refine wpAnyG_load (i := 0) (v := ?_) [] rfl (by kernel_rfl) (by kernel_rfl) (by kernel_rfl) (by kernel_rfl) (by kernel_rfl) (by kernel_rfl) (fun _ _ _ h => h) (by kernel_rfl) ?_ (fun _ => HS0.out) ?_
  rotate_left 1
  · (intro zz hS; obtain ⟨_, _, _⟩ := hS; go_simp; first | done | with_reducible rfl)
  (try simp only [Act.put, List.setIfInBounds_toArray, List.set_cons_zero, List.set_cons_succ])
  refine wpAnyG_load (i := 2) (v := ?_) [] rfl (by kernel_rfl) (by kernel_rfl) (by kernel_rfl) (by kernel_rfl) (by kernel_rfl) (by kernel_rfl) (fun _ _ _ h => h) (by kernel_rfl) ?_ (fun _ => HS0.out) ?_
  rotate_left 1
  · (intro zz hS; obtain ⟨_, _, _⟩ := hS; go_simp; first | done | with_reducible rfl)
  (try simp only [Act.put, List.setIfInBounds_toArray, List.set_cons_zero, List.set_cons_succ])
  refine wpAnyG_pure (i := 3) (v := ?_) rfl (by kernel_rfl) (by kernel_rfl) (by kernel_rfl) (by kernel_rfl) (by kernel_rfl) (fun _ _ _ h => h) (by kernel_rfl) ?_ (fun _ => HS0.out) ?_
  rotate_left 1
  · (intro zz; go_simp; first | done | with_reducible rfl)
  (try simp only [Act.put, List.setIfInBounds_toArray, List.set_cons_zero, List.set_cons_succ])
  refine wpAnyG_ready [1] (by kernel_rfl) (by simp) ?_
  refine AllG.cons rfl (fun K hK => ?_) AllG.nil
  have hCC := HTK.out w2.drew hd0
  go_simp
  (with_reducible refine (hCC).mono ?_)
  rintro _ w4 ⟨tb, T, rfl, HT⟩
  clear hCC
  have HU4 := Lib.hid (hd0.trans HT.out.2.2.2)
  refine hK.out _ _ (fun _ => HX.out _ HU4.out) ?_
  clear hK K
  (try simp only [Act.put, List.setIfInBounds_toArray, List.set_cons_zero, List.set_cons_succ])
  refine wpAnyG_ready [4] (by kernel_rfl) (by simp) ?_
  refine AllG.cons rfl (fun K hK => ?_) AllG.nil
  have hCC := HFS.out w4 tb T HU4.out HT.out.1 HT.out.2.1
  go_simp
  (with_reducible refine (hCC).mono ?_)
  rintro _ w5 ⟨rfl, u5⟩
  clear hCC
  have HU5 := Lib.hid (HU4.out.trans u5)
  refine hK.out _ _ (fun _ => HX.out _ HU5.out) ?_
  clear hK K
  (try simp only [Act.put, List.setIfInBounds_toArray, List.set_cons_zero, List.set_cons_succ])
  have HS1 := Lib.hid (HX.out _ HU5.out)
  refine wpAnyG_pure (i := 5) (v := ?_) rfl (by kernel_rfl) (by kernel_rfl) (by kernel_rfl) (by kernel_rfl) (by kernel_rfl) (fun _ _ _ h => h) (by kernel_rfl) ?_ (fun _ => HS1.out) ?_
  rotate_left 1
  · (intro zz; go_simp; first | done | with_reducible rfl)
  (try simp only [Act.put, List.setIfInBounds_toArray, List.set_cons_zero, List.set_cons_succ])
  refine wpAnyG_pure (i := 6) (v := ?_) rfl (by kernel_rfl) (by kernel_rfl) (by kernel_rfl) (by kernel_rfl) (by kernel_rfl) (fun _ _ _ h => h) (by kernel_rfl) ?_ (fun _ => HS1.out) ?_
  rotate_left 1
  · (intro zz; go_simp; first | done | with_reducible rfl)
  (try simp only [Act.put, List.setIfInBounds_toArray, List.set_cons_zero, List.set_cons_succ])
  refine wpAnyG_pure (i := 7) (v := ?_) rfl (by kernel_rfl) (by kernel_rfl) (by kernel_rfl) (by kernel_rfl) (by kernel_rfl) (fun _ _ _ h => h) (by kernel_rfl) ?_ (fun _ => HS1.out) ?_
  rotate_left 1
  · (intro zz; go_simp; first | done | with_reducible rfl)
  (try simp only [Act.put, List.setIfInBounds_toArray, List.set_cons_zero, List.set_cons_succ])
  refine wpAnyG_ready [8] (by kernel_rfl) (by simp) ?_
  refine AllG.cons rfl (fun K hK => ?_) AllG.nil
  go_simp
  refine hK.out _ _ (fun e => absurd (show true = false from e) (by decide)) ?_
  clear hK K
  (try simp only [Act.put, List.setIfInBounds_toArray, List.set_cons_zero, List.set_cons_succ])
  refine wpAnyG_ready [9] (by kernel_rfl) (by simp) ?_
  refine AllG.cons rfl (fun K hK => ?_) AllG.nil
  go_simp
  refine hK.out _ _ (fun e => absurd (show true = false from e) (by decide)) ?_
  clear hK K
  (try simp only [Act.put, List.setIfInBounds_toArray, List.set_cons_zero, List.set_cons_succ])
  refine wpAnyG_ready [10] (by kernel_rfl) (by simp) ?_
  refine AllG.cons rfl (fun K hK => ?_) AllG.nil
  go_simp
  refine hK.out _ _ (fun e => absurd (show true = false from e) (by decide)) ?_
  clear hK K
  (try simp only [Act.put, List.setIfInBounds_toArray, List.set_cons_zero, List.set_cons_succ])
  refine wpAnyG_done (by kernel_rfl) ?_ _
  clear u5
  go_wp2_with fail
  refine bodyPost_ret (mixed_results _ _) rfl ?_
  exact ⟨by rw [e9.out]; rfl, HN.out.trans HU5.out⟩
end Go.Proofs.YtjlgmoemnhmgmaaGreatDoor
