/- format.Reads, Witness, Both. -/
import Derived.Test.YtjlgmoemnhmgmaaGreatDoorPkWTells17
namespace Go.Proofs.YtjlgmoemnhmgmaaGreatDoor
open Go.RowKit Go.MapKept
set_option linter.unusedVariables false
set_option linter.unusedSimpArgs false
attribute [local irreducible] Calls
open Fm (Ty Vl Str nameB rightTy rightVl)

/-- What Reads answers. -/
def fReads (a b : Ty) : Bool := rightTy 4 a && rightTy 4 b && Fm.sub 4 a b
theorem reads_eq {a b : Ty} (ha : rightTy 4 a = true) (hb : rightTy 4 b = true) : (Fm.readF 4 b (Fm.writeF 4 a (Fm.zero 4 a))).isSome = Fm.sub 4 a b := by
  obtain ⟨h1, h2, h3⟩ := Fm.zero_ok ha
  rw [Fm.read_write (Nat.le_refl _) ha hb h1 h2 h3]
  cases h : Fm.sub 4 a b with
  | true => rfl
  | false => rfl
set_option maxHeartbeats 8000000 in
set_option maxRecDepth 100000 in
theorem Reads_c (fv gv : Value) (ta tb : Ty) (w : World) (g : Gm w) (ha : TyAt w fv ta) (hb : TyAt w gv tb) :
    Calls Tryz.prog 48 #[.agg #[.int .i64 ta.kind, fv], .agg #[.int .i64 tb.kind, gv]] w fun e w' => e = .returned (.bool (fReads ta tb)) ∧ Nw w w' := by
  have hgb := g.g.big
  obtain ⟨fa, fc, rfl, -, -⟩ := ha.cells
  obtain ⟨ga, gc, rfl, -, -⟩ := hb.cells
  have n1 := nw_alloc w (.cells #[.int .i64 ta.kind, .slice fa ta.fs.length fc] tTy)
  have n2 := nw_alloc (w.alloc (.cells #[.int .i64 ta.kind, .slice fa ta.fs.length fc] tTy)) (.cells #[.int .i64 tb.kind, .slice ga tb.fs.length gc] tTy)
  have b1 := n2.keep (heap_new w (.cells #[.int .i64 ta.kind, .slice fa ta.fs.length fc] tTy))
  have b2 := heap_new (w.alloc (.cells #[.int .i64 ta.kind, .slice fa ta.fs.length fc] tTy)) (.cells #[.int .i64 tb.kind, .slice ga tb.fs.length gc] tTy)
  rw [World.size_alloc] at b2
  have hN := n1.trans n2
  obtain ⟨W0, hW⟩ : ∃ W, W = (w.alloc (.cells #[.int .i64 ta.kind, .slice fa ta.fs.length fc] tTy)).alloc (.cells #[.int .i64 tb.kind, .slice ga tb.fs.length gc] tTy) := ⟨_, rfl⟩
  rw [← hW] at hN b1 b2
  have HN := Lib.hid hN
  have HW := Lib.hid hW
  have HC0 : Hid (∀ y, Nw W0 y → y.cell? ⟨w.heap.size, 0, none⟩ = some (.int .i64 ta.kind) ∧ y.cell? ⟨w.heap.size, 1, none⟩ = some (.slice fa ta.fs.length fc) ∧ y.cell? ⟨w.heap.size + 1, 0, none⟩ = some (.int .i64 tb.kind) ∧ y.cell? ⟨w.heap.size + 1, 1, none⟩ = some (.slice ga tb.fs.length gc)) := fun y u => ⟨by rw [cells_cell (Nw.keep u b1)]; rfl, by rw [cells_cell (Nw.keep u b1)]; rfl, by rw [cells_cell (Nw.keep u b2)]; rfl, by rw [cells_cell (Nw.keep u b2)]; rfl⟩
  have HG := Lib.hid (g.upd hN)
  have HTA := Lib.hid (ha.nw hN)
  have HTB := Lib.hid (hb.nw hN)
  have hr1 := Lib.hid (types_right_c _ ta W0 HG.out HTA.out)
  have HGB0 : Hid (nG ≤ W0.heap.size) := HG.out.g.big
  obtain ⟨x0, x1, x2, x3⟩ := HC0.out W0 (Upd.refl _ _)
  clear n1 n2 b1 b2 hN hW g ha hb hgb
  go_enter Tryz.func48, Tryz.ntmps48
  go_upto_region 1 with fail
  rw [← HW.out]
  clear HW
  go_wp2_with fail
  cases h1 : rightTy 4 ta with
  | false =>
    rw [h1] at hr1
    have e9 : Hid (fReads ta tb = false) := by show _ = _; unfold fReads; rw [h1]; rfl
    (with_reducible refine (hr1.out).mono ?_)
    rintro _ w2 ⟨rfl, u2⟩
    have U2 := Lib.hid u2
    clear u2 x0 x1 x2 x3
    go_wp2_with fail
    go_ret
    exact ⟨by rw [e9.out]; rfl, HN.out.trans U2.out⟩
  | true =>
  rw [h1] at hr1
  (with_reducible refine (hr1.out).mono ?_)
  rintro _ w2 ⟨rfl, u2⟩
  have hr2 := Lib.hid (types_right_c _ tb w2 (HG.out.upd u2) (HTB.out.nw u2))
  have U2 := Lib.hid u2
  clear x0 x1 x2 x3 hr1
  obtain ⟨x0, x1, x2, x3⟩ := HC0.out w2 u2
  clear u2
  cases h2 : rightTy 4 tb with
  | false =>
    rw [h2] at hr2
    have e9 : Hid (fReads ta tb = false) := by show _ = _; unfold fReads; rw [h2]; simp
    go_wp2_with fail
    (with_reducible refine (hr2.out).mono ?_)
    rintro _ w3 ⟨rfl, u3⟩
    have U3 := Lib.hid (U2.out.trans u3)
    clear u3 x0 x1 x2 x3
    go_wp2_with fail
    go_ret
    exact ⟨by rw [e9.out]; rfl, HN.out.trans U3.out⟩
  | true =>
  rw [h2] at hr2
  go_wp2_with fail
  (with_reducible refine (hr2.out).mono ?_)
  rintro _ W ⟨rfl, u3⟩
  have U3 := Lib.hid (U2.out.trans u3)
  have e9 : Hid (fReads ta tb = (Fm.readF 4 tb (Fm.writeF 4 ta (Fm.zero 4 ta))).isSome) := by show _ = _; unfold fReads; rw [h1, h2, reads_eq h1 h2]; rfl
  have HGB : Hid (nG ≤ W.heap.size) := Nat.le_trans HGB0.out U3.out.size
  have HC : Hid (∀ y, Nw W y → y.cell? ⟨w.heap.size, 0, none⟩ = some (.int .i64 ta.kind) ∧ y.cell? ⟨w.heap.size, 1, none⟩ = some (.slice fa ta.fs.length fc) ∧ y.cell? ⟨w.heap.size + 1, 0, none⟩ = some (.int .i64 tb.kind) ∧ y.cell? ⟨w.heap.size + 1, 1, none⟩ = some (.slice ga tb.fs.length gc)) := fun y u => HC0.out y (U3.out.trans u)
  have hzo := Fm.zero_ok h1
  have HZ : Hid (∀ y, Nw W y → Calls Tryz.prog 69 #[.agg #[.int .i64 ta.kind, .slice fa ta.fs.length fc]] y fun e w' => ∃ nv vv, e = .returned (.agg #[.int .i64 (Fm.zero 4 ta).kind, .int .i64 (Fm.zero 4 ta).n, nv, vv]) ∧ VlAt (fun k => y.heap.size ≤ k) w' nv vv (Fm.zero 4 ta) ∧ Nw y w') := fun y u => zero_c 4 (Nat.le_refl _) ta _ y (HG.out.upd (U3.out.trans u)) h1 (HTA.out.nw (U3.out.trans u))
  have HWr : Hid (∀ y, Nw W y → ∀ nv vv, (∃ P, VlAt P y nv vv (Fm.zero 4 ta)) → Calls Tryz.prog 68 #[.agg #[.int .i64 ta.kind, .slice fa ta.fs.length fc], .agg #[.int .i64 (Fm.zero 4 ta).kind, .int .i64 (Fm.zero 4 ta).n, nv, vv]] y fun e w' => e = .returned (.string ⟨(Fm.writeF 4 ta (Fm.zero 4 ta)).toArray⟩) ∧ Nw y w') := fun y u nv vv hv => by
    obtain ⟨P, hv⟩ := hv
    exact fmwrite_c P 4 (Nat.le_refl _) ta _ _ _ _ y (HG.out.upd (U3.out.trans u)) h1 hzo.1 hzo.2.1 (HTA.out.nw (U3.out.trans u)) hv
  have HRd : Hid (∀ y, Nw W y → Calls Tryz.prog 67 #[.agg #[.int .i64 tb.kind, .slice ga tb.fs.length gc], .string ⟨(Fm.writeF 4 ta (Fm.zero 4 ta)).toArray⟩] y (RdPost 4 tb (Fm.writeF 4 ta (Fm.zero 4 ta)) y)) := fun y u => fmread_c 4 (Nat.le_refl _) tb _ _ y (HG.out.upd (U3.out.trans u)) h2 (HTB.out.nw (U3.out.trans u)) (Nat.le_trans (Fm.write_len (Nat.le_refl _) h1 hzo.2.2) (by have := Fm.W4; omega))
  clear x0 x1 x2 x3 hr2 u3 h1 h2 hzo
  go_upto_region 3 with fail
  go_cut [6] from 15 to 23 (fun c wx => c = .bool (fReads ta tb) ∧ Nw W wx)
  case first =>
    have HRE : Hid ((Fm.readF 4 tb (Fm.writeF 4 ta (Fm.zero 4 ta))).isSome = fReads ta tb) := e9.out.symm
    obtain ⟨y, hy⟩ : ∃ y, y = W.drew := ⟨_, rfl⟩
    have HUy : Hid (Nw W y) := by show Nw _ _; rw [hy]; exact (Upd.refl _ _).drew
    have HY := Lib.hid hy
    have HS0 := Lib.hid (HC.out y HUy.out)
    clear hy
    refine wp_region_G (fun y => y.cell? ⟨w.heap.size, 0, none⟩ = some (.int .i64 ta.kind) ∧ y.cell? ⟨w.heap.size, 1, none⟩ = some (.slice fa ta.fs.length fc) ∧ y.cell? ⟨w.heap.size + 1, 0, none⟩ = some (.int .i64 tb.kind) ∧ y.cell? ⟨w.heap.size + 1, 1, none⟩ = some (.slice ga tb.fs.length gc)) 5 (by kernel_rfl) ?_
    rw [← HY.out]
    clear HY
    generalize Fm.writeF 4 ta (Fm.zero 4 ta) = sw at *
    refine wpAnyG_load (i := 0) (v := ?_) [] rfl (by kernel_rfl) (by kernel_rfl) (by kernel_rfl) (by kernel_rfl) (by kernel_rfl) (by kernel_rfl) (fun _ _ _ h => h) (by kernel_rfl) ?_ (fun _ => HS0.out) ?_
    rotate_left 1
    · (intro zz hS; obtain ⟨_, _, _, _⟩ := hS; go_simp; first | done | with_reducible rfl)
    (try simp only [Act.put, List.setIfInBounds_toArray, List.set_cons_zero, List.set_cons_succ])
    refine wpAnyG_load (i := 1) (v := ?_) [4] rfl (by kernel_rfl) (by kernel_rfl) (by kernel_rfl) (by kernel_rfl) (by kernel_rfl) (by kernel_rfl) (fun _ _ _ h => h) (by kernel_rfl) ?_ (fun _ => HS0.out) ?_
    rotate_left 1
    · (intro zz hS; obtain ⟨_, _, _, _⟩ := hS; go_simp; first | done | with_reducible rfl)
    (try simp only [Act.put, List.setIfInBounds_toArray, List.set_cons_zero, List.set_cons_succ])
    refine wpAnyG_load (i := 2) (v := ?_) [4, 3] rfl (by kernel_rfl) (by kernel_rfl) (by kernel_rfl) (by kernel_rfl) (by kernel_rfl) (by kernel_rfl) (fun _ _ _ h => h) (by kernel_rfl) ?_ (fun _ => HS0.out) ?_
    rotate_left 1
    · (intro zz hS; obtain ⟨_, _, _, _⟩ := hS; go_simp; first | done | with_reducible rfl)
    (try simp only [Act.put, List.setIfInBounds_toArray, List.set_cons_zero, List.set_cons_succ])
    refine wpAnyG_ready [3, 9] (by kernel_rfl) (by simp) ?_
    refine AllG.cons rfl (fun K hK => ?_) (AllG.cons rfl (fun K hK => ?_) AllG.nil)
    · -- Zero at y (HUy: behind W): the world y3
      have hCC := HZ.out (y) HUy.out
      go_simp
      (with_reducible refine (hCC).mono ?_)
      rintro _ y3 ⟨xn, xv, rfl, hx3, u3⟩
      clear hCC
      have HUy3 := Lib.hid (HUy.out.trans u3)
      have HVy3 : Hid (∃ P, VlAt P y3 xn xv (Fm.zero 4 ta)) := ⟨_, hx3⟩
      have HSy3 := Lib.hid u3
      clear hx3 u3
      refine hK.out _ _ (fun _ => HC.out _ HUy3.out) ?_
      clear hK K
      (try simp only [Act.put, List.setIfInBounds_toArray, List.set_cons_zero, List.set_cons_succ])
      refine wpAnyG_ready [4, 9] (by kernel_rfl) (by simp) ?_
      refine AllG.cons rfl (fun K hK => ?_) (AllG.cons rfl (fun K hK => ?_) AllG.nil)
      · -- write at y3 (HVy3: the value lies there): the world y4
        have hCC := HWr.out (y3) HUy3.out _ _ HVy3.out
        go_simp
        (with_reducible refine (hCC).mono ?_)
        rintro _ y4 ⟨rfl, u4⟩
        clear hCC
        have HUy4 := Lib.hid (HUy3.out.trans u4)
        have HSy4 := Lib.hid u4
        clear u4
        refine hK.out _ _ (fun _ => HC.out _ HUy4.out) ?_
        clear hK K
        (try simp only [Act.put, List.setIfInBounds_toArray, List.set_cons_zero, List.set_cons_succ])
        refine wpAnyG_ready [5, 9] (by kernel_rfl) (by simp) ?_
        refine AllG.cons rfl (fun K hK => ?_) (AllG.cons rfl (fun K hK => ?_) AllG.nil)
        · -- read at y4: the world y5
          have hCC := HRd.out (y4) HUy4.out
          go_simp
          (with_reducible refine (hCC).mono ?_)
          rintro _ y5 ⟨k1, n1, ra, rl, rc, qa, ql, qc, rfl, HP5⟩
          clear hCC
          have HUy5 := Lib.hid (HUy4.out.trans HP5.out.2)
          have HSy5 := Lib.hid HP5.out.2
          clear HP5
          refine hK.out _ _ (fun e => absurd (show true = false from e) (by decide)) ?_
          clear hK K
          (try simp only [Act.put, List.setIfInBounds_toArray, List.set_cons_zero, List.set_cons_succ])
          refine wpAnyG_pure (i := 6) (v := ?_) rfl (by kernel_rfl) (by kernel_rfl) (by kernel_rfl) (by kernel_rfl) (by kernel_rfl) (fun _ _ _ h => h) (by kernel_rfl) ?_ (fun e => absurd (show true = false from e) (by decide)) ?_
          rotate_left 1
          · (intro zz; go_simp; first | done | with_reducible rfl)
          (try simp only [Act.put, List.setIfInBounds_toArray, List.set_cons_zero, List.set_cons_succ])
          refine wpAnyG_pure (i := 7) (v := ?_) rfl (by kernel_rfl) (by kernel_rfl) (by kernel_rfl) (by kernel_rfl) (by kernel_rfl) (fun _ _ _ h => h) (by kernel_rfl) ?_ (fun e => absurd (show true = false from e) (by decide)) ?_
          rotate_left 1
          · (intro zz; go_simp; first | done | with_reducible rfl)
          (try simp only [Act.put, List.setIfInBounds_toArray, List.set_cons_zero, List.set_cons_succ])
          refine wpAnyG_pure (i := 8) (v := ?_) rfl (by kernel_rfl) (by kernel_rfl) (by kernel_rfl) (by kernel_rfl) (by kernel_rfl) (fun _ _ _ h => h) (by kernel_rfl) ?_ (fun e => absurd (show true = false from e) (by decide)) ?_
          rotate_left 1
          · (intro zz; go_simp; first | done | with_reducible rfl)
          (try simp only [Act.put, List.setIfInBounds_toArray, List.set_cons_zero, List.set_cons_succ])
          refine wpAnyG_ready [9] (by kernel_rfl) (by simp) ?_
          refine AllG.cons rfl (fun K hK => ?_) AllG.nil
          -- the alloc at y5: the world z of the cells at p; (fun e => absurd (show true = false from e) (by decide)) shows S there
          have nz := nw_alloc (y5) (.cells #[.int .i64 0, .int .i64 0, .slice none 0 0, .slice none 0 0] tVl)
          have bz := heap_new (y5) (.cells #[.int .i64 0, .int .i64 0, .slice none 0 0, .slice none 0 0] tVl)
          obtain ⟨z, hz⟩ : ∃ z, z = (y5).alloc (.cells #[.int .i64 0, .int .i64 0, .slice none 0 0, .slice none 0 0] tVl) := ⟨_, rfl⟩
          rw [← hz] at nz bz
          have Hz := Lib.hid hz
          clear hz
          go_simp
          rw [← Hz.out]
          clear Hz
          have HUz := Lib.hid (HUy5.out.trans nz)
          have HNz := Lib.hid nz
          have hp : ∃ p, p = (y5).heap.size := ⟨_, rfl⟩
          obtain ⟨p, hp⟩ := hp
          rw [← hp] at bz
          rw [← hp]
          have HPW : Hid (W.heap.size ≤ p) := by have := HUy5.out.size; show _ ≤ _; omega
          have HBz := Lib.hid bz
          clear hp bz nz
          refine hK.out _ _ (fun e => absurd (show true = false from e) (by decide)) ?_
          clear hK K
          (try simp only [Act.put, List.setIfInBounds_toArray, List.set_cons_zero, List.set_cons_succ])
          have HBE := HBz
          -- the store, the flag, at z (HBE: the cells at p there)
          obtain ⟨d0, d1, d2, d3⟩ := cell4F HBE.out
          obtain ⟨f0, f1, f2, f3⟩ := froz4F HBE.out
          refine wpAnyG_ready [10] (by kernel_rfl) (by simp) ?_
          refine AllG.cons rfl (fun K hK => ?_) AllG.nil
          go_simp
          refine hK.out _ _ (fun e => absurd (show true = false from e) (by decide)) ?_
          clear hK K
          (try simp only [Act.put, List.setIfInBounds_toArray, List.set_cons_zero, List.set_cons_succ])
          refine wpAnyG_ready [11] (by kernel_rfl) (by simp) ?_
          refine AllG.cons rfl (fun K hK => ?_) AllG.nil
          go_simp
          refine hK.out _ _ (fun e => absurd (show true = false from e) (by decide)) ?_
          clear hK K
          (try simp only [Act.put, List.setIfInBounds_toArray, List.set_cons_zero, List.set_cons_succ])
          refine wpAnyG_done (by kernel_rfl) ?_ _
          go_wp2_with fail
          go_meet
          have hg : nG ≤ p := by have := HPW.out; have := HGB.out; omega
          have hu := Upd.set1 (Upd.set1 (Upd.set1 (Upd.set1 (Upd.refl _ (z)) hg 0 (.int .i64 k1)) hg 1 (.int .i64 n1)) hg 2 (.slice ra rl rc)) hg 3 (.slice qa ql qc)
          exact ⟨by rw [HRE.out], HUz.out.trans' hu (fun k hk e => by have := HPW.out; omega)⟩
        · -- the alloc at y4: the world z of the cells at p; (fun _ => HC.out _ HUz.out) shows S there
          have nz := nw_alloc (y4) (.cells #[.int .i64 0, .int .i64 0, .slice none 0 0, .slice none 0 0] tVl)
          have bz := heap_new (y4) (.cells #[.int .i64 0, .int .i64 0, .slice none 0 0, .slice none 0 0] tVl)
          obtain ⟨z, hz⟩ : ∃ z, z = (y4).alloc (.cells #[.int .i64 0, .int .i64 0, .slice none 0 0, .slice none 0 0] tVl) := ⟨_, rfl⟩
          rw [← hz] at nz bz
          have Hz := Lib.hid hz
          clear hz
          go_simp
          rw [← Hz.out]
          clear Hz
          have HUz := Lib.hid (HUy4.out.trans nz)
          have HNz := Lib.hid nz
          have hp : ∃ p, p = (y4).heap.size := ⟨_, rfl⟩
          obtain ⟨p, hp⟩ := hp
          rw [← hp] at bz
          rw [← hp]
          have HPW : Hid (W.heap.size ≤ p) := by have := HUy4.out.size; show _ ≤ _; omega
          have HBz := Lib.hid bz
          clear hp bz nz
          refine hK.out _ _ (fun _ => HC.out _ HUz.out) ?_
          clear hK K
          (try simp only [Act.put, List.setIfInBounds_toArray, List.set_cons_zero, List.set_cons_succ])
          refine wpAnyG_ready [5] (by kernel_rfl) (by simp) ?_
          refine AllG.cons rfl (fun K hK => ?_) AllG.nil
          -- read at z: the world y5
          have hCC := HRd.out (z) HUz.out
          go_simp
          (with_reducible refine (hCC).mono ?_)
          rintro _ y5 ⟨k1, n1, ra, rl, rc, qa, ql, qc, rfl, HP5⟩
          clear hCC
          have HUy5 := Lib.hid (HUz.out.trans HP5.out.2)
          have HSy5 := Lib.hid HP5.out.2
          clear HP5
          refine hK.out _ _ (fun e => absurd (show true = false from e) (by decide)) ?_
          clear hK K
          (try simp only [Act.put, List.setIfInBounds_toArray, List.set_cons_zero, List.set_cons_succ])
          refine wpAnyG_pure (i := 6) (v := ?_) rfl (by kernel_rfl) (by kernel_rfl) (by kernel_rfl) (by kernel_rfl) (by kernel_rfl) (fun _ _ _ h => h) (by kernel_rfl) ?_ (fun e => absurd (show true = false from e) (by decide)) ?_
          rotate_left 1
          · (intro zz; go_simp; first | done | with_reducible rfl)
          (try simp only [Act.put, List.setIfInBounds_toArray, List.set_cons_zero, List.set_cons_succ])
          refine wpAnyG_pure (i := 7) (v := ?_) rfl (by kernel_rfl) (by kernel_rfl) (by kernel_rfl) (by kernel_rfl) (by kernel_rfl) (fun _ _ _ h => h) (by kernel_rfl) ?_ (fun e => absurd (show true = false from e) (by decide)) ?_
          rotate_left 1
          · (intro zz; go_simp; first | done | with_reducible rfl)
          (try simp only [Act.put, List.setIfInBounds_toArray, List.set_cons_zero, List.set_cons_succ])
          refine wpAnyG_pure (i := 8) (v := ?_) rfl (by kernel_rfl) (by kernel_rfl) (by kernel_rfl) (by kernel_rfl) (by kernel_rfl) (fun _ _ _ h => h) (by kernel_rfl) ?_ (fun e => absurd (show true = false from e) (by decide)) ?_
          rotate_left 1
          · (intro zz; go_simp; first | done | with_reducible rfl)
          (try simp only [Act.put, List.setIfInBounds_toArray, List.set_cons_zero, List.set_cons_succ])
          have HBE := Lib.hid (Nw.keep HSy5.out HBz.out)
          -- the store, the flag, at y5 (HBE: the cells at p there)
          obtain ⟨d0, d1, d2, d3⟩ := cell4F HBE.out
          obtain ⟨f0, f1, f2, f3⟩ := froz4F HBE.out
          refine wpAnyG_ready [10] (by kernel_rfl) (by simp) ?_
          refine AllG.cons rfl (fun K hK => ?_) AllG.nil
          go_simp
          refine hK.out _ _ (fun e => absurd (show true = false from e) (by decide)) ?_
          clear hK K
          (try simp only [Act.put, List.setIfInBounds_toArray, List.set_cons_zero, List.set_cons_succ])
          refine wpAnyG_ready [11] (by kernel_rfl) (by simp) ?_
          refine AllG.cons rfl (fun K hK => ?_) AllG.nil
          go_simp
          refine hK.out _ _ (fun e => absurd (show true = false from e) (by decide)) ?_
          clear hK K
          (try simp only [Act.put, List.setIfInBounds_toArray, List.set_cons_zero, List.set_cons_succ])
          refine wpAnyG_done (by kernel_rfl) ?_ _
          go_wp2_with fail
          go_meet
          have hg : nG ≤ p := by have := HPW.out; have := HGB.out; omega
          have hu := Upd.set1 (Upd.set1 (Upd.set1 (Upd.set1 (Upd.refl _ (y5)) hg 0 (.int .i64 k1)) hg 1 (.int .i64 n1)) hg 2 (.slice ra rl rc)) hg 3 (.slice qa ql qc)
          exact ⟨by rw [HRE.out], HUy5.out.trans' hu (fun k hk e => by have := HPW.out; omega)⟩
      · -- the alloc at y3: the world z of the cells at p; (fun _ => HC.out _ HUz.out) shows S there
        have nz := nw_alloc (y3) (.cells #[.int .i64 0, .int .i64 0, .slice none 0 0, .slice none 0 0] tVl)
        have bz := heap_new (y3) (.cells #[.int .i64 0, .int .i64 0, .slice none 0 0, .slice none 0 0] tVl)
        obtain ⟨z, hz⟩ : ∃ z, z = (y3).alloc (.cells #[.int .i64 0, .int .i64 0, .slice none 0 0, .slice none 0 0] tVl) := ⟨_, rfl⟩
        rw [← hz] at nz bz
        have Hz := Lib.hid hz
        clear hz
        go_simp
        rw [← Hz.out]
        clear Hz
        have HUz := Lib.hid (HUy3.out.trans nz)
        have HNz := Lib.hid nz
        have hp : ∃ p, p = (y3).heap.size := ⟨_, rfl⟩
        obtain ⟨p, hp⟩ := hp
        rw [← hp] at bz
        rw [← hp]
        have HPW : Hid (W.heap.size ≤ p) := by have := HUy3.out.size; show _ ≤ _; omega
        have HBz := Lib.hid bz
        clear hp bz nz
        refine hK.out _ _ (fun _ => HC.out _ HUz.out) ?_
        clear hK K
        (try simp only [Act.put, List.setIfInBounds_toArray, List.set_cons_zero, List.set_cons_succ])
        have HVz : Hid (∃ P, VlAt P z xn xv (Fm.zero 4 ta)) := by
          obtain ⟨P, h⟩ := HVy3.out
          exact ⟨P, h.nw HNz.out⟩
        refine wpAnyG_ready [4] (by kernel_rfl) (by simp) ?_
        refine AllG.cons rfl (fun K hK => ?_) AllG.nil
        -- write at z (HVz: the value lies there): the world y4
        have hCC := HWr.out (z) HUz.out _ _ HVz.out
        go_simp
        (with_reducible refine (hCC).mono ?_)
        rintro _ y4 ⟨rfl, u4⟩
        clear hCC
        have HUy4 := Lib.hid (HUz.out.trans u4)
        have HSy4 := Lib.hid u4
        clear u4
        refine hK.out _ _ (fun _ => HC.out _ HUy4.out) ?_
        clear hK K
        (try simp only [Act.put, List.setIfInBounds_toArray, List.set_cons_zero, List.set_cons_succ])
        refine wpAnyG_ready [5] (by kernel_rfl) (by simp) ?_
        refine AllG.cons rfl (fun K hK => ?_) AllG.nil
        -- read at y4: the world y5
        have hCC := HRd.out (y4) HUy4.out
        go_simp
        (with_reducible refine (hCC).mono ?_)
        rintro _ y5 ⟨k1, n1, ra, rl, rc, qa, ql, qc, rfl, HP5⟩
        clear hCC
        have HUy5 := Lib.hid (HUy4.out.trans HP5.out.2)
        have HSy5 := Lib.hid HP5.out.2
        clear HP5
        refine hK.out _ _ (fun e => absurd (show true = false from e) (by decide)) ?_
        clear hK K
        (try simp only [Act.put, List.setIfInBounds_toArray, List.set_cons_zero, List.set_cons_succ])
        refine wpAnyG_pure (i := 6) (v := ?_) rfl (by kernel_rfl) (by kernel_rfl) (by kernel_rfl) (by kernel_rfl) (by kernel_rfl) (fun _ _ _ h => h) (by kernel_rfl) ?_ (fun e => absurd (show true = false from e) (by decide)) ?_
        rotate_left 1
        · (intro zz; go_simp; first | done | with_reducible rfl)
        (try simp only [Act.put, List.setIfInBounds_toArray, List.set_cons_zero, List.set_cons_succ])
        refine wpAnyG_pure (i := 7) (v := ?_) rfl (by kernel_rfl) (by kernel_rfl) (by kernel_rfl) (by kernel_rfl) (by kernel_rfl) (fun _ _ _ h => h) (by kernel_rfl) ?_ (fun e => absurd (show true = false from e) (by decide)) ?_
        rotate_left 1
        · (intro zz; go_simp; first | done | with_reducible rfl)
        (try simp only [Act.put, List.setIfInBounds_toArray, List.set_cons_zero, List.set_cons_succ])
        refine wpAnyG_pure (i := 8) (v := ?_) rfl (by kernel_rfl) (by kernel_rfl) (by kernel_rfl) (by kernel_rfl) (by kernel_rfl) (fun _ _ _ h => h) (by kernel_rfl) ?_ (fun e => absurd (show true = false from e) (by decide)) ?_
        rotate_left 1
        · (intro zz; go_simp; first | done | with_reducible rfl)
        (try simp only [Act.put, List.setIfInBounds_toArray, List.set_cons_zero, List.set_cons_succ])
        have HBE := Lib.hid (Nw.keep (HSy4.out.trans HSy5.out) HBz.out)
        -- the store, the flag, at y5 (HBE: the cells at p there)
        obtain ⟨d0, d1, d2, d3⟩ := cell4F HBE.out
        obtain ⟨f0, f1, f2, f3⟩ := froz4F HBE.out
        refine wpAnyG_ready [10] (by kernel_rfl) (by simp) ?_
        refine AllG.cons rfl (fun K hK => ?_) AllG.nil
        go_simp
        refine hK.out _ _ (fun e => absurd (show true = false from e) (by decide)) ?_
        clear hK K
        (try simp only [Act.put, List.setIfInBounds_toArray, List.set_cons_zero, List.set_cons_succ])
        refine wpAnyG_ready [11] (by kernel_rfl) (by simp) ?_
        refine AllG.cons rfl (fun K hK => ?_) AllG.nil
        go_simp
        refine hK.out _ _ (fun e => absurd (show true = false from e) (by decide)) ?_
        clear hK K
        (try simp only [Act.put, List.setIfInBounds_toArray, List.set_cons_zero, List.set_cons_succ])
        refine wpAnyG_done (by kernel_rfl) ?_ _
        go_wp2_with fail
        go_meet
        have hg : nG ≤ p := by have := HPW.out; have := HGB.out; omega
        have hu := Upd.set1 (Upd.set1 (Upd.set1 (Upd.set1 (Upd.refl _ (y5)) hg 0 (.int .i64 k1)) hg 1 (.int .i64 n1)) hg 2 (.slice ra rl rc)) hg 3 (.slice qa ql qc)
        exact ⟨by rw [HRE.out], HUy5.out.trans' hu (fun k hk e => by have := HPW.out; omega)⟩
    · -- the alloc at y: the world z of the cells at p; (fun _ => HC.out _ HUz.out) shows S there
      have nz := nw_alloc (y) (.cells #[.int .i64 0, .int .i64 0, .slice none 0 0, .slice none 0 0] tVl)
      have bz := heap_new (y) (.cells #[.int .i64 0, .int .i64 0, .slice none 0 0, .slice none 0 0] tVl)
      obtain ⟨z, hz⟩ : ∃ z, z = (y).alloc (.cells #[.int .i64 0, .int .i64 0, .slice none 0 0, .slice none 0 0] tVl) := ⟨_, rfl⟩
      rw [← hz] at nz bz
      have Hz := Lib.hid hz
      clear hz
      go_simp
      rw [← Hz.out]
      clear Hz
      have HUz := Lib.hid (HUy.out.trans nz)
      have HNz := Lib.hid nz
      have hp : ∃ p, p = (y).heap.size := ⟨_, rfl⟩
      obtain ⟨p, hp⟩ := hp
      rw [← hp] at bz
      rw [← hp]
      have HPW : Hid (W.heap.size ≤ p) := by have := HUy.out.size; show _ ≤ _; omega
      have HBz := Lib.hid bz
      clear hp bz nz
      refine hK.out _ _ (fun _ => HC.out _ HUz.out) ?_
      clear hK K
      (try simp only [Act.put, List.setIfInBounds_toArray, List.set_cons_zero, List.set_cons_succ])
      refine wpAnyG_ready [3] (by kernel_rfl) (by simp) ?_
      refine AllG.cons rfl (fun K hK => ?_) AllG.nil
      -- Zero at z (HUz: behind W): the world y3
      have hCC := HZ.out (z) HUz.out
      go_simp
      (with_reducible refine (hCC).mono ?_)
      rintro _ y3 ⟨xn, xv, rfl, hx3, u3⟩
      clear hCC
      have HUy3 := Lib.hid (HUz.out.trans u3)
      have HVy3 : Hid (∃ P, VlAt P y3 xn xv (Fm.zero 4 ta)) := ⟨_, hx3⟩
      have HSy3 := Lib.hid u3
      clear hx3 u3
      refine hK.out _ _ (fun _ => HC.out _ HUy3.out) ?_
      clear hK K
      (try simp only [Act.put, List.setIfInBounds_toArray, List.set_cons_zero, List.set_cons_succ])
      refine wpAnyG_ready [4] (by kernel_rfl) (by simp) ?_
      refine AllG.cons rfl (fun K hK => ?_) AllG.nil
      -- write at y3 (HVy3: the value lies there): the world y4
      have hCC := HWr.out (y3) HUy3.out _ _ HVy3.out
      go_simp
      (with_reducible refine (hCC).mono ?_)
      rintro _ y4 ⟨rfl, u4⟩
      clear hCC
      have HUy4 := Lib.hid (HUy3.out.trans u4)
      have HSy4 := Lib.hid u4
      clear u4
      refine hK.out _ _ (fun _ => HC.out _ HUy4.out) ?_
      clear hK K
      (try simp only [Act.put, List.setIfInBounds_toArray, List.set_cons_zero, List.set_cons_succ])
      refine wpAnyG_ready [5] (by kernel_rfl) (by simp) ?_
      refine AllG.cons rfl (fun K hK => ?_) AllG.nil
      -- read at y4: the world y5
      have hCC := HRd.out (y4) HUy4.out
      go_simp
      (with_reducible refine (hCC).mono ?_)
      rintro _ y5 ⟨k1, n1, ra, rl, rc, qa, ql, qc, rfl, HP5⟩
      clear hCC
      have HUy5 := Lib.hid (HUy4.out.trans HP5.out.2)
      have HSy5 := Lib.hid HP5.out.2
      clear HP5
      refine hK.out _ _ (fun e => absurd (show true = false from e) (by decide)) ?_
      clear hK K
      (try simp only [Act.put, List.setIfInBounds_toArray, List.set_cons_zero, List.set_cons_succ])
      refine wpAnyG_pure (i := 6) (v := ?_) rfl (by kernel_rfl) (by kernel_rfl) (by kernel_rfl) (by kernel_rfl) (by kernel_rfl) (fun _ _ _ h => h) (by kernel_rfl) ?_ (fun e => absurd (show true = false from e) (by decide)) ?_
      rotate_left 1
      · (intro zz; go_simp; first | done | with_reducible rfl)
      (try simp only [Act.put, List.setIfInBounds_toArray, List.set_cons_zero, List.set_cons_succ])
      refine wpAnyG_pure (i := 7) (v := ?_) rfl (by kernel_rfl) (by kernel_rfl) (by kernel_rfl) (by kernel_rfl) (by kernel_rfl) (fun _ _ _ h => h) (by kernel_rfl) ?_ (fun e => absurd (show true = false from e) (by decide)) ?_
      rotate_left 1
      · (intro zz; go_simp; first | done | with_reducible rfl)
      (try simp only [Act.put, List.setIfInBounds_toArray, List.set_cons_zero, List.set_cons_succ])
      refine wpAnyG_pure (i := 8) (v := ?_) rfl (by kernel_rfl) (by kernel_rfl) (by kernel_rfl) (by kernel_rfl) (by kernel_rfl) (fun _ _ _ h => h) (by kernel_rfl) ?_ (fun e => absurd (show true = false from e) (by decide)) ?_
      rotate_left 1
      · (intro zz; go_simp; first | done | with_reducible rfl)
      (try simp only [Act.put, List.setIfInBounds_toArray, List.set_cons_zero, List.set_cons_succ])
      have HBE := Lib.hid (Nw.keep ((HSy3.out.trans HSy4.out).trans HSy5.out) HBz.out)
      -- the store, the flag, at y5 (HBE: the cells at p there)
      obtain ⟨d0, d1, d2, d3⟩ := cell4F HBE.out
      obtain ⟨f0, f1, f2, f3⟩ := froz4F HBE.out
      refine wpAnyG_ready [10] (by kernel_rfl) (by simp) ?_
      refine AllG.cons rfl (fun K hK => ?_) AllG.nil
      go_simp
      refine hK.out _ _ (fun e => absurd (show true = false from e) (by decide)) ?_
      clear hK K
      (try simp only [Act.put, List.setIfInBounds_toArray, List.set_cons_zero, List.set_cons_succ])
      refine wpAnyG_ready [11] (by kernel_rfl) (by simp) ?_
      refine AllG.cons rfl (fun K hK => ?_) AllG.nil
      go_simp
      refine hK.out _ _ (fun e => absurd (show true = false from e) (by decide)) ?_
      clear hK K
      (try simp only [Act.put, List.setIfInBounds_toArray, List.set_cons_zero, List.set_cons_succ])
      refine wpAnyG_done (by kernel_rfl) ?_ _
      go_wp2_with fail
      go_meet
      have hg : nG ≤ p := by have := HPW.out; have := HGB.out; omega
      have hu := Upd.set1 (Upd.set1 (Upd.set1 (Upd.set1 (Upd.refl _ (y5)) hg 0 (.int .i64 k1)) hg 1 (.int .i64 n1)) hg 2 (.slice ra rl rc)) hg 3 (.slice qa ql qc)
      exact ⟨by rw [HRE.out], HUy5.out.trans' hu (fun k hk e => by have := HPW.out; omega)⟩
  case rest =>
    obtain ⟨rfl, hw⟩ := hcut
    have HF := Lib.hid ((HN.out.trans U3.out).trans hw)
    clear hw
    go_wp2_with fail
    go_ret
    exact ⟨rfl, HF.out⟩
end Go.Proofs.YtjlgmoemnhmgmaaGreatDoor
