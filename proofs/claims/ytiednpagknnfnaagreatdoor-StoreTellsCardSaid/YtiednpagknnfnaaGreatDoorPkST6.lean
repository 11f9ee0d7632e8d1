/- The reference's copied (PRINTED by wip/tools/gen_src.py). -/
import Derived.Test.YtiednpagknnfnaaGreatDoorPkST5
import Derived.Test.YtiednpagknnfnaaGreatDoorPkST0
set_option linter.unusedVariables false
set_option linter.unusedSimpArgs false
namespace Go.Proofs.YtiednpagknnfnaaGreatDoor
open Go.RowKit
attribute [local irreducible] Calls CallsIn
theorem cp_results (tmps : Array Value) (w : World) {r : Nat} {a b c : Value} {T : TypeId} (hr : tmps.getD 2 undef = .pointer (some ⟨r, 0, none⟩)) (hb : w.heap[r]? = some (.cells #[a, b, c] T (0, 0))) :
    (results Tryz.f107 tmps).run Tryz.prog w = .ok (.agg #[a, b, c]) w := by
  have c0 : w.cell? ⟨r, 0, none⟩ = some a := by rw [cells_cell hb]; rfl
  have c1 : w.cell? ⟨r, 1, none⟩ = some b := by rw [cells_cell hb]; rfl
  have c2 : w.cell? ⟨r, 2, none⟩ = some c := by rw [cells_cell hb]; rfl
  rw [Array.getD_eq_getD_getElem?] at hr
  simp [results, Tryz.results107, go_sem, hr, c0, c1, c2]
section
variable {B : Nat} {P : Nat → Prop} {z : World} {v : SvR} {S : Sg.Sta}
set_option maxHeartbeats 40000000 in
set_option maxRecDepth 100000 in
theorem rCopied_c (hgb : nG ≤ z.heap.size) (hBz : B ≤ z.heap.size) (h : SvAt B P z v S) :
    Calls Tryz.prog 107 #[v.val] z fun e z' => ∃ v' : SvR, e = .returned v'.val ∧ SvAt B (fun k => P k ∨ (z.heap.size ≤ k ∧ k < z'.heap.size)) z' v' S ∧ (∀ k, v'.blk k → z.heap.size ≤ k) ∧ Nw z z' := by
  obtain ⟨l1, l2, l3, l4⟩ := h.len
  obtain ⟨C, eC, hpo, hit⟩ := h.p
  obtain ⟨tv, hv, pv⟩ := v
  obtain ⟨ta, tc, et⟩ := own_slS h.t
  obtain ⟨ha, hc, eh⟩ := own_slS h.h
  obtain ⟨pa, pc, ep⟩ := own_slS hpo
  dsimp only at et eh ep
  subst et eh ep
  have hlC : C.length = S.pf.length := by rw [eC, List.length_map]
  have n1 := nw_alloc z (.cells #[.slice ta S.tx.length tc, .slice ha S.th.length hc, .slice pa C.length pc] tSta)
  have b1 := heap_new z (.cells #[.slice ta S.tx.length tc, .slice ha S.th.length hc, .slice pa C.length pc] tSta)
  have n2 := nw_alloc (z.alloc (.cells #[.slice ta S.tx.length tc, .slice ha S.th.length hc, .slice pa C.length pc] tSta)) (.cells #[.slice none 0 0, .slice none 0 0, .slice none 0 0] tSta)
  have b2 := heap_new (z.alloc (.cells #[.slice ta S.tx.length tc, .slice ha S.th.length hc, .slice pa C.length pc] tSta)) (.cells #[.slice none 0 0, .slice none 0 0, .slice none 0 0] tSta)
  obtain ⟨w1, hw1⟩ : ∃ y, y = (z.alloc (.cells #[.slice ta S.tx.length tc, .slice ha S.th.length hc, .slice pa C.length pc] tSta)).alloc (.cells #[.slice none 0 0, .slice none 0 0, .slice none 0 0] tSta) := ⟨_, rfl⟩
  have b1' := Nw.keep n2 b1
  have n12 := n1.trans n2
  rw [World.size_alloc] at b2
  rw [← hw1] at n12 b1' b2
  have hs1 : w1.heap.size = z.heap.size + 2 := by rw [hw1, World.size_alloc, World.size_alloc]
  obtain ⟨wd, hwd, nd⟩ := nw_drew w1
  have hsd := nd.size
  have HW1 := Lib.hid hw1
  have HWd := Lib.hid hwd
  have HB2 := Lib.hid (nd.keep b2)
  have hNd := n12.trans nd
  have hss : ∀ y, Nw wd y → (y.cell? ⟨z.heap.size, 0, none⟩ = some (.slice ta S.tx.length tc) ∧ y.cell? ⟨z.heap.size, 1, none⟩ = some (.slice ha S.th.length hc) ∧ y.cell? ⟨z.heap.size, 2, none⟩ = some (.slice pa C.length pc) ∧ True ∧ True ∧ True ∧ True) := fun y u => by
    have hb := Nw.keep u (nd.keep b1')
    exact ⟨by rw [cells_cell hb]; rfl, by rw [cells_cell hb]; rfl, by rw [cells_cell hb]; rfl, trivial, trivial, trivial, trivial⟩
  have HSS := Lib.hid hss
  have HT := Lib.hid (fun y (u : Nw wd y) => owns_upd' h.t (hNd.trans u) (fun _ _ e => e))
  have HH := Lib.hid (fun y (u : Nw wd y) => owns_upd' h.h (hNd.trans u) (fun _ _ e => e))
  have HP := Lib.hid (fun y (u : Nw wd y) => owns_upd' hpo (hNd.trans u) (fun _ _ e => e))
  have hgd : nG ≤ wd.heap.size := by omega
  have hfin : ∀ y tv' hv' pv', CpI S C wd y tv' hv' pv' 2 2 2 → y.ownsRow wd.heap.size 9 1 tv' S.tx.length (S.tx.map bsV) → y.ownsRow wd.heap.size 4 1 hv' S.th.length (S.th.map Value.bool) → y.ownsRow wd.heap.size tPf 2 pv' C.length (pfL C) →
      (((y.setCell ⟨z.heap.size + 1, 0, none⟩ tv').setCell ⟨z.heap.size + 1, 1, none⟩ hv').setCell ⟨z.heap.size + 1, 2, none⟩ pv').heap[z.heap.size + 1]? = some (.cells #[tv', hv', pv'] tSta (0, 0)) ∧
      SvAt B (fun k => P k ∨ (z.heap.size ≤ k ∧ k < (((y.setCell ⟨z.heap.size + 1, 0, none⟩ tv').setCell ⟨z.heap.size + 1, 1, none⟩ hv').setCell ⟨z.heap.size + 1, 2, none⟩ pv').heap.size)) (((y.setCell ⟨z.heap.size + 1, 0, none⟩ tv').setCell ⟨z.heap.size + 1, 1, none⟩ hv').setCell ⟨z.heap.size + 1, 2, none⟩ pv') ⟨tv', hv', pv'⟩ S ∧
      (∀ k, (SvR.mk tv' hv' pv').blk k → z.heap.size ≤ k) ∧ Nw z (((y.setCell ⟨z.heap.size + 1, 0, none⟩ tv').setCell ⟨z.heap.size + 1, 1, none⟩ hv').setCell ⟨z.heap.size + 1, 2, none⟩ pv') := fun y tv' hv' pv' hi t2 h2 p2 => by
    have hb := setCell_block (setCell_block (setCell_block (Nw.keep hi.nw HB2.out) 0 tv') 1 hv') 2 pv'
    have us := Upd.set1 (Upd.set1 (Upd.set1 (Upd.refl _ y) (b := z.heap.size + 1) (by omega) 0 tv') (b := z.heap.size + 1) (by omega) 1 hv') (b := z.heap.size + 1) (by omega) 2 pv'
    have uz : Nw z (((y.setCell ⟨z.heap.size + 1, 0, none⟩ tv').setCell ⟨z.heap.size + 1, 1, none⟩ hv').setCell ⟨z.heap.size + 1, 2, none⟩ pv') := Nw.upd' (hNd.trans hi.nw) us (fun k hk => by omega)
    have hsz := us.size
    have hblk : ∀ k, (SvR.mk tv' hv' pv').blk k → wd.heap.size ≤ k ∧ k < y.heap.size := fun k hk => by
      rcases hk with hk | hk | hk
      · exact t2.lt k hk
      · exact h2.lt k hk
      · exact p2.lt k hk
    refine ⟨hb, ⟨h.g, h.big, h.tl, ownsRow_base_a (owns_upd' t2 us (fun k hk e => by have := t2.lt k hk; omega)) (by omega), ownsRow_base_a (owns_upd' h2 us (fun k hk e => by have := h2.lt k hk; omega)) (by omega), ⟨C, eC, ownsRow_base_a (owns_upd' p2 us (fun k hk e => by have := p2.lt k hk; omega)) (by omega), fun q hq => ((hit q hq).upd uz (fun _ _ e => e)).mono (fun k _ hk => Or.inl hk)⟩, fun k hk => Or.inr ?_⟩, fun k hk => ?_, uz⟩
    · have := hblk k hk; omega
    · have := hblk k hk; omega
  have HFin := Lib.hid hfin
  have hO1 : ∀ u ∈ S.tx.map bsV, u.oneCell' = true := fun u hu => by obtain ⟨x, _, rfl⟩ := List.mem_map.1 hu; rfl
  have hO2 : ∀ u ∈ S.th.map Value.bool, u.oneCell' = true := fun u hu => by obtain ⟨x, _, rfl⟩ := List.mem_map.1 hu; rfl
  have hO3 := pfL_one C (fun q hq => by obtain ⟨a, c, e⟩ := own_slS (hit q hq).1; rw [e]; rfl)
  have HO := Lib.hid (And.intro hO1 (And.intro hO2 hO3))
  have HN : Hid ((0 + S.tx.length ≤ maxLen ∧ (0 + S.tx.length) * 16 ≤ 140737488355328) ∧ (0 + S.th.length ≤ maxLen ∧ (0 + S.th.length) * 1 ≤ 140737488355328) ∧ (0 + C.length ≤ maxLen ∧ (0 + C.length) * 40 ≤ 140737488355328)) := ⟨⟨by unfold maxLen; omega, by omega⟩, ⟨by unfold maxLen; omega, by omega⟩, ⟨by unfold maxLen; omega, by omega⟩⟩
  have HG := Lib.hid hgd
  clear h n1 b1 n2 b2 b1' n12 hw1 hwd hNd hss hfin hO1 hO2 hO3 hgd hit hpo eC hlC l4 nd
  unfold SvR.val
  go_enter Tryz.func107, Tryz.ntmps107
  go_upto_region 1 with fail
  rw [← HW1.out]
  clear HW1
  refine wp_region_G (fun y => y.cell? ⟨z.heap.size, 0, none⟩ = some (.slice ta S.tx.length tc) ∧ y.cell? ⟨z.heap.size, 1, none⟩ = some (.slice ha S.th.length hc) ∧ y.cell? ⟨z.heap.size, 2, none⟩ = some (.slice pa C.length pc) ∧ True ∧ True ∧ True ∧ True) 13 (by kernel_rfl) ?_
  rw [HWd.out]
  clear HWd
  refine wpAnyG_pure (i := 1) (v := ?_) rfl (by kernel_rfl) (by kernel_rfl) (by kernel_rfl) (by kernel_rfl) (by kernel_rfl) (fun _ _ _ h => h) (by rfl) ?_ (fun _ => HSS.out _ (Upd.refl _ _)) ?_
  rotate_left 1
  · (intro zz; go_simp; first | done | with_reducible rfl)
  (try simp only [Act.put, List.setIfInBounds_toArray, List.set_cons_zero, List.set_cons_succ])
  refine wpAnyG_pure (i := 5) (v := ?_) rfl (by kernel_rfl) (by kernel_rfl) (by kernel_rfl) (by kernel_rfl) (by kernel_rfl) (fun _ _ _ h => h) (by rfl) ?_ (fun _ => HSS.out _ (Upd.refl _ _)) ?_
  rotate_left 1
  · (intro zz; go_simp; first | done | with_reducible rfl)
  (try simp only [Act.put, List.setIfInBounds_toArray, List.set_cons_zero, List.set_cons_succ])
  refine wpAnyG_pure (i := 9) (v := ?_) rfl (by kernel_rfl) (by kernel_rfl) (by kernel_rfl) (by kernel_rfl) (by kernel_rfl) (fun _ _ _ h => h) (by rfl) ?_ (fun _ => HSS.out _ (Upd.refl _ _)) ?_
  rotate_left 1
  · (intro zz; go_simp; first | done | with_reducible rfl)
  (try simp only [Act.put, List.setIfInBounds_toArray, List.set_cons_zero, List.set_cons_succ])
  refine wpAnyG_load (i := 2) (v := ?_) [] rfl (by kernel_rfl) (by kernel_rfl) (by kernel_rfl) (by kernel_rfl) (by kernel_rfl) (by kernel_rfl) (fun _ _ _ h => h) (by rfl) ?_ (fun _ => HSS.out _ (Upd.refl _ _)) ?_
  rotate_left 1
  · (intro zz hS; obtain ⟨_, _, _, _, _, _, _⟩ := hS; go_simp; first | done | with_reducible rfl)
  (try simp only [Act.put, List.setIfInBounds_toArray, List.set_cons_zero, List.set_cons_succ])
  refine wpAnyG_load (i := 6) (v := ?_) [] rfl (by kernel_rfl) (by kernel_rfl) (by kernel_rfl) (by kernel_rfl) (by kernel_rfl) (by kernel_rfl) (fun _ _ _ h => h) (by rfl) ?_ (fun _ => HSS.out _ (Upd.refl _ _)) ?_
  rotate_left 1
  · (intro zz hS; obtain ⟨_, _, _, _, _, _, _⟩ := hS; go_simp; first | done | with_reducible rfl)
  (try simp only [Act.put, List.setIfInBounds_toArray, List.set_cons_zero, List.set_cons_succ])
  refine wpAnyG_load (i := 10) (v := ?_) [] rfl (by kernel_rfl) (by kernel_rfl) (by kernel_rfl) (by kernel_rfl) (by kernel_rfl) (by kernel_rfl) (fun _ _ _ h => h) (by rfl) ?_ (fun _ => HSS.out _ (Upd.refl _ _)) ?_
  rotate_left 1
  · (intro zz hS; obtain ⟨_, _, _, _, _, _, _⟩ := hS; go_simp; first | done | with_reducible rfl)
  (try simp only [Act.put, List.setIfInBounds_toArray, List.set_cons_zero, List.set_cons_succ])
  have HI := Lib.hid (CpI.start S C wd (.bool true) (.bool true) (.bool true))
  obtain ⟨y, hyy⟩ : ∃ y, y = wd := ⟨_, rfl⟩
  rw [show CpI S C wd wd (.bool true) (.bool true) (.bool true) 0 0 0 = CpI S C wd y (.bool true) (.bool true) (.bool true) 0 0 0 by rw [hyy]] at HI
  rw [show wpAnyG _ _ _ _ _ _ _ _ _ wd = wpAnyG _ _ _ _ _ _ _ _ _ y by rw [hyy]]
  clear hyy
  refine wpAnyG_ready [0, 4, 8] (by kernel_rfl) (by simp) ?_
  refine AllG.cons rfl (fun K hK => ?_) (AllG.cons rfl (fun K hK => ?_) (AllG.cons rfl (fun K hK => ?_) AllG.nil))
  · have HI1 := Lib.hid HI.out.mkT
    go_simp
    refine hK.out _ _ (fun _ => HSS.out _ HI1.out.nw) ?_
    clear hK K HI
    (try simp only [Act.put, List.setIfInBounds_toArray, List.set_cons_zero, List.set_cons_succ])
    generalize y.alloc (.cells #[] 9) = y1 at HI1 ⊢
    generalize y.heap.size = bb at HI1 ⊢
    clear y
    rename World => y
    rename Hid _ => HI
    refine wpAnyG_ready [3, 4, 8] (by kernel_rfl) (by simp) ?_
    refine AllG.cons rfl (fun K hK => ?_) (AllG.cons rfl (fun K hK => ?_) (AllG.cons rfl (fun K hK => ?_) AllG.nil))
    · refine step_catO rfl _ _ 38 rfl 9 _ 1 16 Tryz.underlying38 infoStrR rfl (by decide) wd.heap.size HI.out.nw.size HG.out _ 0 [] rfl (HI.out.t.1 rfl) B _ S.tx.length (S.tx.map bsV) rfl (HT.out _ HI.out.nw) HO.out.1 HN.out.1.1 HN.out.1.2 ?_
      intro v1 y1 o1 u1 u1b
      have HI1 := Lib.hid (HI.out.catT o1 u1)
      refine hK.out _ _ (fun _ => HSS.out _ HI1.out.nw) ?_
      clear hK K HI o1 u1 u1b
      (try simp only [Act.put, List.setIfInBounds_toArray, List.set_cons_zero, List.set_cons_succ])
      clear y
      rename World => y
      rename Hid _ => HI
      refine wpAnyG_ready [4, 8] (by kernel_rfl) (by simp) ?_
      refine AllG.cons rfl (fun K hK => ?_) (AllG.cons rfl (fun K hK => ?_) AllG.nil)
      · have HI1 := Lib.hid HI.out.mkH
        go_simp
        refine hK.out _ _ (fun _ => HSS.out _ HI1.out.nw) ?_
        clear hK K HI
        (try simp only [Act.put, List.setIfInBounds_toArray, List.set_cons_zero, List.set_cons_succ])
        generalize y.alloc (.cells #[] 4) = y1 at HI1 ⊢
        generalize y.heap.size = bb at HI1 ⊢
        clear y
        rename World => y
        rename Hid _ => HI
        refine wpAnyG_ready [7, 8] (by kernel_rfl) (by simp) ?_
        refine AllG.cons rfl (fun K hK => ?_) (AllG.cons rfl (fun K hK => ?_) AllG.nil)
        · refine step_catO rfl _ _ 39 rfl 4 _ 1 1 Tryz.underlying39 infoBoolS rfl (by decide) wd.heap.size HI.out.nw.size HG.out _ 0 [] rfl (HI.out.h.1 rfl) B _ S.th.length (S.th.map Value.bool) rfl (HH.out _ HI.out.nw) HO.out.2.1 HN.out.2.1.1 HN.out.2.1.2 ?_
          intro v1 y1 o1 u1 u1b
          have HI1 := Lib.hid (HI.out.catH o1 u1)
          refine hK.out _ _ (fun _ => HSS.out _ HI1.out.nw) ?_
          clear hK K HI o1 u1 u1b
          (try simp only [Act.put, List.setIfInBounds_toArray, List.set_cons_zero, List.set_cons_succ])
          clear y
          rename World => y
          rename Hid _ => HI
          refine wpAnyG_ready [8] (by kernel_rfl) (by simp) ?_
          refine AllG.cons rfl (fun K hK => ?_) AllG.nil
          · have HI1 := Lib.hid HI.out.mkP
            go_simp
            refine hK.out _ _ (fun _ => HSS.out _ HI1.out.nw) ?_
            clear hK K HI
            (try simp only [Act.put, List.setIfInBounds_toArray, List.set_cons_zero, List.set_cons_succ])
            generalize y.alloc (.cells #[] tPf) = y1 at HI1 ⊢
            generalize y.heap.size = bb at HI1 ⊢
            clear y
            rename World => y
            rename Hid _ => HI
            refine wpAnyG_ready [11] (by kernel_rfl) (by simp) ?_
            refine AllG.cons rfl (fun K hK => ?_) AllG.nil
            · refine step_catO rfl _ _ 40 rfl tPf _ 2 40 Tryz.underlying40 infoPfS rfl (by decide) wd.heap.size HI.out.nw.size HG.out _ 0 [] rfl (HI.out.p.1 rfl) B _ C.length (pfL C) rfl (HP.out _ HI.out.nw) HO.out.2.2 HN.out.2.2.1 HN.out.2.2.2 ?_
              intro v1 y1 o1 u1 u1b
              have HI1 := Lib.hid (HI.out.catP o1 u1)
              refine hK.out _ _ (fun _ => HSS.out _ HI1.out.nw) ?_
              clear hK K HI o1 u1 u1b
              (try simp only [Act.put, List.setIfInBounds_toArray, List.set_cons_zero, List.set_cons_succ])
              clear y
              rename World => y
              rename Hid _ => HI
              have t2 := HI.out.t.2 rfl
              have h2 := HI.out.h.2 rfl
              have p2 := HI.out.p.2 rfl
              obtain ⟨xa, xc, rfl⟩ := own_slS t2
              obtain ⟨ya, yc, rfl⟩ := own_slS h2
              obtain ⟨qa, qc, rfl⟩ := own_slS p2
              refine wpAnyG_pure (i := 12) (v := ?_) rfl (by kernel_rfl) (by kernel_rfl) (by kernel_rfl) (by kernel_rfl) (by kernel_rfl) (fun _ _ _ h => h) (by rfl) ?_ (fun _ => HSS.out _ HI.out.nw) ?_
              rotate_left 1
              · (intro zz; go_simp; first | done | with_reducible rfl)
              (try simp only [Act.put, List.setIfInBounds_toArray, List.set_cons_zero, List.set_cons_succ])
              refine wpAnyG_ready [13] (by kernel_rfl) (by simp) ?_
              refine AllG.cons rfl (fun K hK => ?_) AllG.nil
              have hb2 := Nw.keep HI.out.nw HB2.out
              have r0 : y.cell? ⟨z.heap.size + 1, 0, none⟩ = some (.slice none 0 0) := by rw [cells_cell hb2]; rfl
              have r1 : y.cell? ⟨z.heap.size + 1, 1, none⟩ = some (.slice none 0 0) := by rw [cells_cell hb2]; rfl
              have r2 : y.cell? ⟨z.heap.size + 1, 2, none⟩ = some (.slice none 0 0) := by rw [cells_cell hb2]; rfl
              have f0 := cells_frozen hb2 0
              have f1 := cells_frozen hb2 1
              have f2 := cells_frozen hb2 2
              have HF := Lib.hid (HFin.out y _ _ _ HI.out t2 h2 p2)
              clear t2 h2 p2 hb2
              go_simp
              refine hK.out _ _ (fun e => absurd (show true = false from e) (by decide)) ?_
              clear hK K
              (try simp only [Act.put, List.setIfInBounds_toArray, List.set_cons_zero, List.set_cons_succ])
              refine wpAnyG_done (by kernel_rfl) ?_ _
              go_wp2_with fail
              exact bodyPost_ret (cp_results _ _ (by simp) HF.out.1) rfl ⟨⟨_, _, _⟩, rfl, HF.out.2⟩
        · have HI1 := Lib.hid HI.out.mkP
          go_simp
          refine hK.out _ _ (fun _ => HSS.out _ HI1.out.nw) ?_
          clear hK K HI
          (try simp only [Act.put, List.setIfInBounds_toArray, List.set_cons_zero, List.set_cons_succ])
          generalize y.alloc (.cells #[] tPf) = y1 at HI1 ⊢
          generalize y.heap.size = bb at HI1 ⊢
          clear y
          rename World => y
          rename Hid _ => HI
          refine wpAnyG_ready [7] (by kernel_rfl) (by simp) ?_
          refine AllG.cons rfl (fun K hK => ?_) AllG.nil
          · refine step_catO rfl _ _ 39 rfl 4 _ 1 1 Tryz.underlying39 infoBoolS rfl (by decide) wd.heap.size HI.out.nw.size HG.out _ 0 [] rfl (HI.out.h.1 rfl) B _ S.th.length (S.th.map Value.bool) rfl (HH.out _ HI.out.nw) HO.out.2.1 HN.out.2.1.1 HN.out.2.1.2 ?_
            intro v1 y1 o1 u1 u1b
            have HI1 := Lib.hid (HI.out.catH o1 u1)
            refine hK.out _ _ (fun _ => HSS.out _ HI1.out.nw) ?_
            clear hK K HI o1 u1 u1b
            (try simp only [Act.put, List.setIfInBounds_toArray, List.set_cons_zero, List.set_cons_succ])
            clear y
            rename World => y
            rename Hid _ => HI
            refine wpAnyG_ready [11] (by kernel_rfl) (by simp) ?_
            refine AllG.cons rfl (fun K hK => ?_) AllG.nil
            · refine step_catO rfl _ _ 40 rfl tPf _ 2 40 Tryz.underlying40 infoPfS rfl (by decide) wd.heap.size HI.out.nw.size HG.out _ 0 [] rfl (HI.out.p.1 rfl) B _ C.length (pfL C) rfl (HP.out _ HI.out.nw) HO.out.2.2 HN.out.2.2.1 HN.out.2.2.2 ?_
              intro v1 y1 o1 u1 u1b
              have HI1 := Lib.hid (HI.out.catP o1 u1)
              refine hK.out _ _ (fun _ => HSS.out _ HI1.out.nw) ?_
              clear hK K HI o1 u1 u1b
              (try simp only [Act.put, List.setIfInBounds_toArray, List.set_cons_zero, List.set_cons_succ])
              clear y
              rename World => y
              rename Hid _ => HI
              have t2 := HI.out.t.2 rfl
              have h2 := HI.out.h.2 rfl
              have p2 := HI.out.p.2 rfl
              obtain ⟨xa, xc, rfl⟩ := own_slS t2
              obtain ⟨ya, yc, rfl⟩ := own_slS h2
              obtain ⟨qa, qc, rfl⟩ := own_slS p2
              refine wpAnyG_pure (i := 12) (v := ?_) rfl (by kernel_rfl) (by kernel_rfl) (by kernel_rfl) (by kernel_rfl) (by kernel_rfl) (fun _ _ _ h => h) (by rfl) ?_ (fun _ => HSS.out _ HI.out.nw) ?_
              rotate_left 1
              · (intro zz; go_simp; first | done | with_reducible rfl)
              (try simp only [Act.put, List.setIfInBounds_toArray, List.set_cons_zero, List.set_cons_succ])
              refine wpAnyG_ready [13] (by kernel_rfl) (by simp) ?_
              refine AllG.cons rfl (fun K hK => ?_) AllG.nil
              have hb2 := Nw.keep HI.out.nw HB2.out
              have r0 : y.cell? ⟨z.heap.size + 1, 0, none⟩ = some (.slice none 0 0) := by rw [cells_cell hb2]; rfl
              have r1 : y.cell? ⟨z.heap.size + 1, 1, none⟩ = some (.slice none 0 0) := by rw [cells_cell hb2]; rfl
              have r2 : y.cell? ⟨z.heap.size + 1, 2, none⟩ = some (.slice none 0 0) := by rw [cells_cell hb2]; rfl
              have f0 := cells_frozen hb2 0
              have f1 := cells_frozen hb2 1
              have f2 := cells_frozen hb2 2
              have HF := Lib.hid (HFin.out y _ _ _ HI.out t2 h2 p2)
              clear t2 h2 p2 hb2
              go_simp
              refine hK.out _ _ (fun e => absurd (show true = false from e) (by decide)) ?_
              clear hK K
              (try simp only [Act.put, List.setIfInBounds_toArray, List.set_cons_zero, List.set_cons_succ])
              refine wpAnyG_done (by kernel_rfl) ?_ _
              go_wp2_with fail
              exact bodyPost_ret (cp_results _ _ (by simp) HF.out.1) rfl ⟨⟨_, _, _⟩, rfl, HF.out.2⟩
      · have HI1 := Lib.hid HI.out.mkP
        go_simp
        refine hK.out _ _ (fun _ => HSS.out _ HI1.out.nw) ?_
        clear hK K HI
        (try simp only [Act.put, List.setIfInBounds_toArray, List.set_cons_zero, List.set_cons_succ])
        generalize y.alloc (.cells #[] tPf) = y1 at HI1 ⊢
        generalize y.heap.size = bb at HI1 ⊢
        clear y
        rename World => y
        rename Hid _ => HI
        refine wpAnyG_ready [4] (by kernel_rfl) (by simp) ?_
        refine AllG.cons rfl (fun K hK => ?_) AllG.nil
        · have HI1 := Lib.hid HI.out.mkH
          go_simp
          refine hK.out _ _ (fun _ => HSS.out _ HI1.out.nw) ?_
          clear hK K HI
          (try simp only [Act.put, List.setIfInBounds_toArray, List.set_cons_zero, List.set_cons_succ])
          generalize y.alloc (.cells #[] 4) = y1 at HI1 ⊢
          generalize y.heap.size = bb at HI1 ⊢
          clear y
          rename World => y
          rename Hid _ => HI
          refine wpAnyG_ready [7] (by kernel_rfl) (by simp) ?_
          refine AllG.cons rfl (fun K hK => ?_) AllG.nil
          · refine step_catO rfl _ _ 39 rfl 4 _ 1 1 Tryz.underlying39 infoBoolS rfl (by decide) wd.heap.size HI.out.nw.size HG.out _ 0 [] rfl (HI.out.h.1 rfl) B _ S.th.length (S.th.map Value.bool) rfl (HH.out _ HI.out.nw) HO.out.2.1 HN.out.2.1.1 HN.out.2.1.2 ?_
            intro v1 y1 o1 u1 u1b
            have HI1 := Lib.hid (HI.out.catH o1 u1)
            refine hK.out _ _ (fun _ => HSS.out _ HI1.out.nw) ?_
            clear hK K HI o1 u1 u1b
            (try simp only [Act.put, List.setIfInBounds_toArray, List.set_cons_zero, List.set_cons_succ])
            clear y
            rename World => y
            rename Hid _ => HI
            refine wpAnyG_ready [11] (by kernel_rfl) (by simp) ?_
            refine AllG.cons rfl (fun K hK => ?_) AllG.nil
            · refine step_catO rfl _ _ 40 rfl tPf _ 2 40 Tryz.underlying40 infoPfS rfl (by decide) wd.heap.size HI.out.nw.size HG.out _ 0 [] rfl (HI.out.p.1 rfl) B _ C.length (pfL C) rfl (HP.out _ HI.out.nw) HO.out.2.2 HN.out.2.2.1 HN.out.2.2.2 ?_
              intro v1 y1 o1 u1 u1b
              have HI1 := Lib.hid (HI.out.catP o1 u1)
              refine hK.out _ _ (fun _ => HSS.out _ HI1.out.nw) ?_
              clear hK K HI o1 u1 u1b
              (try simp only [Act.put, List.setIfInBounds_toArray, List.set_cons_zero, List.set_cons_succ])
              clear y
              rename World => y
              rename Hid _ => HI
              have t2 := HI.out.t.2 rfl
              have h2 := HI.out.h.2 rfl
              have p2 := HI.out.p.2 rfl
              obtain ⟨xa, xc, rfl⟩ := own_slS t2
              obtain ⟨ya, yc, rfl⟩ := own_slS h2
              obtain ⟨qa, qc, rfl⟩ := own_slS p2
              refine wpAnyG_pure (i := 12) (v := ?_) rfl (by kernel_rfl) (by kernel_rfl) (by kernel_rfl) (by kernel_rfl) (by kernel_rfl) (fun _ _ _ h => h) (by rfl) ?_ (fun _ => HSS.out _ HI.out.nw) ?_
              rotate_left 1
              · (intro zz; go_simp; first | done | with_reducible rfl)
              (try simp only [Act.put, List.setIfInBounds_toArray, List.set_cons_zero, List.set_cons_succ])
              refine wpAnyG_ready [13] (by kernel_rfl) (by simp) ?_
              refine AllG.cons rfl (fun K hK => ?_) AllG.nil
              have hb2 := Nw.keep HI.out.nw HB2.out
              have r0 : y.cell? ⟨z.heap.size + 1, 0, none⟩ = some (.slice none 0 0) := by rw [cells_cell hb2]; rfl
              have r1 : y.cell? ⟨z.heap.size + 1, 1, none⟩ = some (.slice none 0 0) := by rw [cells_cell hb2]; rfl
              have r2 : y.cell? ⟨z.heap.size + 1, 2, none⟩ = some (.slice none 0 0) := by rw [cells_cell hb2]; rfl
              have f0 := cells_frozen hb2 0
              have f1 := cells_frozen hb2 1
              have f2 := cells_frozen hb2 2
              have HF := Lib.hid (HFin.out y _ _ _ HI.out t2 h2 p2)
              clear t2 h2 p2 hb2
              go_simp
              refine hK.out _ _ (fun e => absurd (show true = false from e) (by decide)) ?_
              clear hK K
              (try simp only [Act.put, List.setIfInBounds_toArray, List.set_cons_zero, List.set_cons_succ])
              refine wpAnyG_done (by kernel_rfl) ?_ _
              go_wp2_with fail
              exact bodyPost_ret (cp_results _ _ (by simp) HF.out.1) rfl ⟨⟨_, _, _⟩, rfl, HF.out.2⟩
    · have HI1 := Lib.hid HI.out.mkH
      go_simp
      refine hK.out _ _ (fun _ => HSS.out _ HI1.out.nw) ?_
      clear hK K HI
      (try simp only [Act.put, List.setIfInBounds_toArray, List.set_cons_zero, List.set_cons_succ])
      generalize y.alloc (.cells #[] 4) = y1 at HI1 ⊢
      generalize y.heap.size = bb at HI1 ⊢
      clear y
      rename World => y
      rename Hid _ => HI
      refine wpAnyG_ready [3, 8] (by kernel_rfl) (by simp) ?_
      refine AllG.cons rfl (fun K hK => ?_) (AllG.cons rfl (fun K hK => ?_) AllG.nil)
      · refine step_catO rfl _ _ 38 rfl 9 _ 1 16 Tryz.underlying38 infoStrR rfl (by decide) wd.heap.size HI.out.nw.size HG.out _ 0 [] rfl (HI.out.t.1 rfl) B _ S.tx.length (S.tx.map bsV) rfl (HT.out _ HI.out.nw) HO.out.1 HN.out.1.1 HN.out.1.2 ?_
        intro v1 y1 o1 u1 u1b
        have HI1 := Lib.hid (HI.out.catT o1 u1)
        refine hK.out _ _ (fun _ => HSS.out _ HI1.out.nw) ?_
        clear hK K HI o1 u1 u1b
        (try simp only [Act.put, List.setIfInBounds_toArray, List.set_cons_zero, List.set_cons_succ])
        clear y
        rename World => y
        rename Hid _ => HI
        refine wpAnyG_ready [7, 8] (by kernel_rfl) (by simp) ?_
        refine AllG.cons rfl (fun K hK => ?_) (AllG.cons rfl (fun K hK => ?_) AllG.nil)
        · refine step_catO rfl _ _ 39 rfl 4 _ 1 1 Tryz.underlying39 infoBoolS rfl (by decide) wd.heap.size HI.out.nw.size HG.out _ 0 [] rfl (HI.out.h.1 rfl) B _ S.th.length (S.th.map Value.bool) rfl (HH.out _ HI.out.nw) HO.out.2.1 HN.out.2.1.1 HN.out.2.1.2 ?_
          intro v1 y1 o1 u1 u1b
          have HI1 := Lib.hid (HI.out.catH o1 u1)
          refine hK.out _ _ (fun _ => HSS.out _ HI1.out.nw) ?_
          clear hK K HI o1 u1 u1b
          (try simp only [Act.put, List.setIfInBounds_toArray, List.set_cons_zero, List.set_cons_succ])
          clear y
          rename World => y
          rename Hid _ => HI
          refine wpAnyG_ready [8] (by kernel_rfl) (by simp) ?_
          refine AllG.cons rfl (fun K hK => ?_) AllG.nil
          · have HI1 := Lib.hid HI.out.mkP
            go_simp
            refine hK.out _ _ (fun _ => HSS.out _ HI1.out.nw) ?_
            clear hK K HI
            (try simp only [Act.put, List.setIfInBounds_toArray, List.set_cons_zero, List.set_cons_succ])
            generalize y.alloc (.cells #[] tPf) = y1 at HI1 ⊢
            generalize y.heap.size = bb at HI1 ⊢
            clear y
            rename World => y
            rename Hid _ => HI
            refine wpAnyG_ready [11] (by kernel_rfl) (by simp) ?_
            refine AllG.cons rfl (fun K hK => ?_) AllG.nil
            · refine step_catO rfl _ _ 40 rfl tPf _ 2 40 Tryz.underlying40 infoPfS rfl (by decide) wd.heap.size HI.out.nw.size HG.out _ 0 [] rfl (HI.out.p.1 rfl) B _ C.length (pfL C) rfl (HP.out _ HI.out.nw) HO.out.2.2 HN.out.2.2.1 HN.out.2.2.2 ?_
              intro v1 y1 o1 u1 u1b
              have HI1 := Lib.hid (HI.out.catP o1 u1)
              refine hK.out _ _ (fun _ => HSS.out _ HI1.out.nw) ?_
              clear hK K HI o1 u1 u1b
              (try simp only [Act.put, List.setIfInBounds_toArray, List.set_cons_zero, List.set_cons_succ])
              clear y
              rename World => y
              rename Hid _ => HI
              have t2 := HI.out.t.2 rfl
              have h2 := HI.out.h.2 rfl
              have p2 := HI.out.p.2 rfl
              obtain ⟨xa, xc, rfl⟩ := own_slS t2
              obtain ⟨ya, yc, rfl⟩ := own_slS h2
              obtain ⟨qa, qc, rfl⟩ := own_slS p2
              refine wpAnyG_pure (i := 12) (v := ?_) rfl (by kernel_rfl) (by kernel_rfl) (by kernel_rfl) (by kernel_rfl) (by kernel_rfl) (fun _ _ _ h => h) (by rfl) ?_ (fun _ => HSS.out _ HI.out.nw) ?_
              rotate_left 1
              · (intro zz; go_simp; first | done | with_reducible rfl)
              (try simp only [Act.put, List.setIfInBounds_toArray, List.set_cons_zero, List.set_cons_succ])
              refine wpAnyG_ready [13] (by kernel_rfl) (by simp) ?_
              refine AllG.cons rfl (fun K hK => ?_) AllG.nil
              have hb2 := Nw.keep HI.out.nw HB2.out
              have r0 : y.cell? ⟨z.heap.size + 1, 0, none⟩ = some (.slice none 0 0) := by rw [cells_cell hb2]; rfl
              have r1 : y.cell? ⟨z.heap.size + 1, 1, none⟩ = some (.slice none 0 0) := by rw [cells_cell hb2]; rfl
              have r2 : y.cell? ⟨z.heap.size + 1, 2, none⟩ = some (.slice none 0 0) := by rw [cells_cell hb2]; rfl
              have f0 := cells_frozen hb2 0
              have f1 := cells_frozen hb2 1
              have f2 := cells_frozen hb2 2
              have HF := Lib.hid (HFin.out y _ _ _ HI.out t2 h2 p2)
              clear t2 h2 p2 hb2
              go_simp
              refine hK.out _ _ (fun e => absurd (show true = false from e) (by decide)) ?_
              clear hK K
              (try simp only [Act.put, List.setIfInBounds_toArray, List.set_cons_zero, List.set_cons_succ])
              refine wpAnyG_done (by kernel_rfl) ?_ _
              go_wp2_with fail
              exact bodyPost_ret (cp_results _ _ (by simp) HF.out.1) rfl ⟨⟨_, _, _⟩, rfl, HF.out.2⟩
        · have HI1 := Lib.hid HI.out.mkP
          go_simp
          refine hK.out _ _ (fun _ => HSS.out _ HI1.out.nw) ?_
          clear hK K HI
          (try simp only [Act.put, List.setIfInBounds_toArray, List.set_cons_zero, List.set_cons_succ])
          generalize y.alloc (.cells #[] tPf) = y1 at HI1 ⊢
          generalize y.heap.size = bb at HI1 ⊢
          clear y
          rename World => y
          rename Hid _ => HI
          refine wpAnyG_ready [7] (by kernel_rfl) (by simp) ?_
          refine AllG.cons rfl (fun K hK => ?_) AllG.nil
          · refine step_catO rfl _ _ 39 rfl 4 _ 1 1 Tryz.underlying39 infoBoolS rfl (by decide) wd.heap.size HI.out.nw.size HG.out _ 0 [] rfl (HI.out.h.1 rfl) B _ S.th.length (S.th.map Value.bool) rfl (HH.out _ HI.out.nw) HO.out.2.1 HN.out.2.1.1 HN.out.2.1.2 ?_
            intro v1 y1 o1 u1 u1b
            have HI1 := Lib.hid (HI.out.catH o1 u1)
            refine hK.out _ _ (fun _ => HSS.out _ HI1.out.nw) ?_
            clear hK K HI o1 u1 u1b
            (try simp only [Act.put, List.setIfInBounds_toArray, List.set_cons_zero, List.set_cons_succ])
            clear y
            rename World => y
            rename Hid _ => HI
            refine wpAnyG_ready [11] (by kernel_rfl) (by simp) ?_
            refine AllG.cons rfl (fun K hK => ?_) AllG.nil
            · refine step_catO rfl _ _ 40 rfl tPf _ 2 40 Tryz.underlying40 infoPfS rfl (by decide) wd.heap.size HI.out.nw.size HG.out _ 0 [] rfl (HI.out.p.1 rfl) B _ C.length (pfL C) rfl (HP.out _ HI.out.nw) HO.out.2.2 HN.out.2.2.1 HN.out.2.2.2 ?_
              intro v1 y1 o1 u1 u1b
              have HI1 := Lib.hid (HI.out.catP o1 u1)
              refine hK.out _ _ (fun _ => HSS.out _ HI1.out.nw) ?_
              clear hK K HI o1 u1 u1b
              (try simp only [Act.put, List.setIfInBounds_toArray, List.set_cons_zero, List.set_cons_succ])
              clear y
              rename World => y
              rename Hid _ => HI
              have t2 := HI.out.t.2 rfl
              have h2 := HI.out.h.2 rfl
              have p2 := HI.out.p.2 rfl
              obtain ⟨xa, xc, rfl⟩ := own_slS t2
              obtain ⟨ya, yc, rfl⟩ := own_slS h2
              obtain ⟨qa, qc, rfl⟩ := own_slS p2
              refine wpAnyG_pure (i := 12) (v := ?_) rfl (by kernel_rfl) (by kernel_rfl) (by kernel_rfl) (by kernel_rfl) (by kernel_rfl) (fun _ _ _ h => h) (by rfl) ?_ (fun _ => HSS.out _ HI.out.nw) ?_
              rotate_left 1
              · (intro zz; go_simp; first | done | with_reducible rfl)
              (try simp only [Act.put, List.setIfInBounds_toArray, List.set_cons_zero, List.set_cons_succ])
              refine wpAnyG_ready [13] (by kernel_rfl) (by simp) ?_
              refine AllG.cons rfl (fun K hK => ?_) AllG.nil
              have hb2 := Nw.keep HI.out.nw HB2.out
              have r0 : y.cell? ⟨z.heap.size + 1, 0, none⟩ = some (.slice none 0 0) := by rw [cells_cell hb2]; rfl
              have r1 : y.cell? ⟨z.heap.size + 1, 1, none⟩ = some (.slice none 0 0) := by rw [cells_cell hb2]; rfl
              have r2 : y.cell? ⟨z.heap.size + 1, 2, none⟩ = some (.slice none 0 0) := by rw [cells_cell hb2]; rfl
              have f0 := cells_frozen hb2 0
              have f1 := cells_frozen hb2 1
              have f2 := cells_frozen hb2 2
              have HF := Lib.hid (HFin.out y _ _ _ HI.out t2 h2 p2)
              clear t2 h2 p2 hb2
              go_simp
              refine hK.out _ _ (fun e => absurd (show true = false from e) (by decide)) ?_
              clear hK K
              (try simp only [Act.put, List.setIfInBounds_toArray, List.set_cons_zero, List.set_cons_succ])
              refine wpAnyG_done (by kernel_rfl) ?_ _
              go_wp2_with fail
              exact bodyPost_ret (cp_results _ _ (by simp) HF.out.1) rfl ⟨⟨_, _, _⟩, rfl, HF.out.2⟩
      · have HI1 := Lib.hid HI.out.mkP
        go_simp
        refine hK.out _ _ (fun _ => HSS.out _ HI1.out.nw) ?_
        clear hK K HI
        (try simp only [Act.put, List.setIfInBounds_toArray, List.set_cons_zero, List.set_cons_succ])
        generalize y.alloc (.cells #[] tPf) = y1 at HI1 ⊢
        generalize y.heap.size = bb at HI1 ⊢
        clear y
        rename World => y
        rename Hid _ => HI
        refine wpAnyG_ready [3] (by kernel_rfl) (by simp) ?_
        refine AllG.cons rfl (fun K hK => ?_) AllG.nil
        · refine step_catO rfl _ _ 38 rfl 9 _ 1 16 Tryz.underlying38 infoStrR rfl (by decide) wd.heap.size HI.out.nw.size HG.out _ 0 [] rfl (HI.out.t.1 rfl) B _ S.tx.length (S.tx.map bsV) rfl (HT.out _ HI.out.nw) HO.out.1 HN.out.1.1 HN.out.1.2 ?_
          intro v1 y1 o1 u1 u1b
          have HI1 := Lib.hid (HI.out.catT o1 u1)
          refine hK.out _ _ (fun _ => HSS.out _ HI1.out.nw) ?_
          clear hK K HI o1 u1 u1b
          (try simp only [Act.put, List.setIfInBounds_toArray, List.set_cons_zero, List.set_cons_succ])
          clear y
          rename World => y
          rename Hid _ => HI
          refine wpAnyG_ready [7] (by kernel_rfl) (by simp) ?_
          refine AllG.cons rfl (fun K hK => ?_) AllG.nil
          · refine step_catO rfl _ _ 39 rfl 4 _ 1 1 Tryz.underlying39 infoBoolS rfl (by decide) wd.heap.size HI.out.nw.size HG.out _ 0 [] rfl (HI.out.h.1 rfl) B _ S.th.length (S.th.map Value.bool) rfl (HH.out _ HI.out.nw) HO.out.2.1 HN.out.2.1.1 HN.out.2.1.2 ?_
            intro v1 y1 o1 u1 u1b
            have HI1 := Lib.hid (HI.out.catH o1 u1)
            refine hK.out _ _ (fun _ => HSS.out _ HI1.out.nw) ?_
            clear hK K HI o1 u1 u1b
            (try simp only [Act.put, List.setIfInBounds_toArray, List.set_cons_zero, List.set_cons_succ])
            clear y
            rename World => y
            rename Hid _ => HI
            refine wpAnyG_ready [11] (by kernel_rfl) (by simp) ?_
            refine AllG.cons rfl (fun K hK => ?_) AllG.nil
            · refine step_catO rfl _ _ 40 rfl tPf _ 2 40 Tryz.underlying40 infoPfS rfl (by decide) wd.heap.size HI.out.nw.size HG.out _ 0 [] rfl (HI.out.p.1 rfl) B _ C.length (pfL C) rfl (HP.out _ HI.out.nw) HO.out.2.2 HN.out.2.2.1 HN.out.2.2.2 ?_
              intro v1 y1 o1 u1 u1b
              have HI1 := Lib.hid (HI.out.catP o1 u1)
              refine hK.out _ _ (fun _ => HSS.out _ HI1.out.nw) ?_
              clear hK K HI o1 u1 u1b
              (try simp only [Act.put, List.setIfInBounds_toArray, List.set_cons_zero, List.set_cons_succ])
              clear y
              rename World => y
              rename Hid _ => HI
              have t2 := HI.out.t.2 rfl
              have h2 := HI.out.h.2 rfl
              have p2 := HI.out.p.2 rfl
              obtain ⟨xa, xc, rfl⟩ := own_slS t2
              obtain ⟨ya, yc, rfl⟩ := own_slS h2
              obtain ⟨qa, qc, rfl⟩ := own_slS p2
              refine wpAnyG_pure (i := 12) (v := ?_) rfl (by kernel_rfl) (by kernel_rfl) (by kernel_rfl) (by kernel_rfl) (by kernel_rfl) (fun _ _ _ h => h) (by rfl) ?_ (fun _ => HSS.out _ HI.out.nw) ?_
              rotate_left 1
              · (intro zz; go_simp; first | done | with_reducible rfl)
              (try simp only [Act.put, List.setIfInBounds_toArray, List.set_cons_zero, List.set_cons_succ])
              refine wpAnyG_ready [13] (by kernel_rfl) (by simp) ?_
              refine AllG.cons rfl (fun K hK => ?_) AllG.nil
              have hb2 := Nw.keep HI.out.nw HB2.out
              have r0 : y.cell? ⟨z.heap.size + 1, 0, none⟩ = some (.slice none 0 0) := by rw [cells_cell hb2]; rfl
              have r1 : y.cell? ⟨z.heap.size + 1, 1, none⟩ = some (.slice none 0 0) := by rw [cells_cell hb2]; rfl
              have r2 : y.cell? ⟨z.heap.size + 1, 2, none⟩ = some (.slice none 0 0) := by rw [cells_cell hb2]; rfl
              have f0 := cells_frozen hb2 0
              have f1 := cells_frozen hb2 1
              have f2 := cells_frozen hb2 2
              have HF := Lib.hid (HFin.out y _ _ _ HI.out t2 h2 p2)
              clear t2 h2 p2 hb2
              go_simp
              refine hK.out _ _ (fun e => absurd (show true = false from e) (by decide)) ?_
              clear hK K
              (try simp only [Act.put, List.setIfInBounds_toArray, List.set_cons_zero, List.set_cons_succ])
              refine wpAnyG_done (by kernel_rfl) ?_ _
              go_wp2_with fail
              exact bodyPost_ret (cp_results _ _ (by simp) HF.out.1) rfl ⟨⟨_, _, _⟩, rfl, HF.out.2⟩
    · have HI1 := Lib.hid HI.out.mkP
      go_simp
      refine hK.out _ _ (fun _ => HSS.out _ HI1.out.nw) ?_
      clear hK K HI
      (try simp only [Act.put, List.setIfInBounds_toArray, List.set_cons_zero, List.set_cons_succ])
      generalize y.alloc (.cells #[] tPf) = y1 at HI1 ⊢
      generalize y.heap.size = bb at HI1 ⊢
      clear y
      rename World => y
      rename Hid _ => HI
      refine wpAnyG_ready [3, 4] (by kernel_rfl) (by simp) ?_
      refine AllG.cons rfl (fun K hK => ?_) (AllG.cons rfl (fun K hK => ?_) AllG.nil)
      · refine step_catO rfl _ _ 38 rfl 9 _ 1 16 Tryz.underlying38 infoStrR rfl (by decide) wd.heap.size HI.out.nw.size HG.out _ 0 [] rfl (HI.out.t.1 rfl) B _ S.tx.length (S.tx.map bsV) rfl (HT.out _ HI.out.nw) HO.out.1 HN.out.1.1 HN.out.1.2 ?_
        intro v1 y1 o1 u1 u1b
        have HI1 := Lib.hid (HI.out.catT o1 u1)
        refine hK.out _ _ (fun _ => HSS.out _ HI1.out.nw) ?_
        clear hK K HI o1 u1 u1b
        (try simp only [Act.put, List.setIfInBounds_toArray, List.set_cons_zero, List.set_cons_succ])
        clear y
        rename World => y
        rename Hid _ => HI
        refine wpAnyG_ready [4] (by kernel_rfl) (by simp) ?_
        refine AllG.cons rfl (fun K hK => ?_) AllG.nil
        · have HI1 := Lib.hid HI.out.mkH
          go_simp
          refine hK.out _ _ (fun _ => HSS.out _ HI1.out.nw) ?_
          clear hK K HI
          (try simp only [Act.put, List.setIfInBounds_toArray, List.set_cons_zero, List.set_cons_succ])
          generalize y.alloc (.cells #[] 4) = y1 at HI1 ⊢
          generalize y.heap.size = bb at HI1 ⊢
          clear y
          rename World => y
          rename Hid _ => HI
          refine wpAnyG_ready [7] (by kernel_rfl) (by simp) ?_
          refine AllG.cons rfl (fun K hK => ?_) AllG.nil
          · refine step_catO rfl _ _ 39 rfl 4 _ 1 1 Tryz.underlying39 infoBoolS rfl (by decide) wd.heap.size HI.out.nw.size HG.out _ 0 [] rfl (HI.out.h.1 rfl) B _ S.th.length (S.th.map Value.bool) rfl (HH.out _ HI.out.nw) HO.out.2.1 HN.out.2.1.1 HN.out.2.1.2 ?_
            intro v1 y1 o1 u1 u1b
            have HI1 := Lib.hid (HI.out.catH o1 u1)
            refine hK.out _ _ (fun _ => HSS.out _ HI1.out.nw) ?_
            clear hK K HI o1 u1 u1b
            (try simp only [Act.put, List.setIfInBounds_toArray, List.set_cons_zero, List.set_cons_succ])
            clear y
            rename World => y
            rename Hid _ => HI
            refine wpAnyG_ready [11] (by kernel_rfl) (by simp) ?_
            refine AllG.cons rfl (fun K hK => ?_) AllG.nil
            · refine step_catO rfl _ _ 40 rfl tPf _ 2 40 Tryz.underlying40 infoPfS rfl (by decide) wd.heap.size HI.out.nw.size HG.out _ 0 [] rfl (HI.out.p.1 rfl) B _ C.length (pfL C) rfl (HP.out _ HI.out.nw) HO.out.2.2 HN.out.2.2.1 HN.out.2.2.2 ?_
              intro v1 y1 o1 u1 u1b
              have HI1 := Lib.hid (HI.out.catP o1 u1)
              refine hK.out _ _ (fun _ => HSS.out _ HI1.out.nw) ?_
              clear hK K HI o1 u1 u1b
              (try simp only [Act.put, List.setIfInBounds_toArray, List.set_cons_zero, List.set_cons_succ])
              clear y
              rename World => y
              rename Hid _ => HI
              have t2 := HI.out.t.2 rfl
              have h2 := HI.out.h.2 rfl
              have p2 := HI.out.p.2 rfl
              obtain ⟨xa, xc, rfl⟩ := own_slS t2
              obtain ⟨ya, yc, rfl⟩ := own_slS h2
              obtain ⟨qa, qc, rfl⟩ := own_slS p2
              refine wpAnyG_pure (i := 12) (v := ?_) rfl (by kernel_rfl) (by kernel_rfl) (by kernel_rfl) (by kernel_rfl) (by kernel_rfl) (fun _ _ _ h => h) (by rfl) ?_ (fun _ => HSS.out _ HI.out.nw) ?_
              rotate_left 1
              · (intro zz; go_simp; first | done | with_reducible rfl)
              (try simp only [Act.put, List.setIfInBounds_toArray, List.set_cons_zero, List.set_cons_succ])
              refine wpAnyG_ready [13] (by kernel_rfl) (by simp) ?_
              refine AllG.cons rfl (fun K hK => ?_) AllG.nil
              have hb2 := Nw.keep HI.out.nw HB2.out
              have r0 : y.cell? ⟨z.heap.size + 1, 0, none⟩ = some (.slice none 0 0) := by rw [cells_cell hb2]; rfl
              have r1 : y.cell? ⟨z.heap.size + 1, 1, none⟩ = some (.slice none 0 0) := by rw [cells_cell hb2]; rfl
              have r2 : y.cell? ⟨z.heap.size + 1, 2, none⟩ = some (.slice none 0 0) := by rw [cells_cell hb2]; rfl
              have f0 := cells_frozen hb2 0
              have f1 := cells_frozen hb2 1
              have f2 := cells_frozen hb2 2
              have HF := Lib.hid (HFin.out y _ _ _ HI.out t2 h2 p2)
              clear t2 h2 p2 hb2
              go_simp
              refine hK.out _ _ (fun e => absurd (show true = false from e) (by decide)) ?_
              clear hK K
              (try simp only [Act.put, List.setIfInBounds_toArray, List.set_cons_zero, List.set_cons_succ])
              refine wpAnyG_done (by kernel_rfl) ?_ _
              go_wp2_with fail
              exact bodyPost_ret (cp_results _ _ (by simp) HF.out.1) rfl ⟨⟨_, _, _⟩, rfl, HF.out.2⟩
      · have HI1 := Lib.hid HI.out.mkH
        go_simp
        refine hK.out _ _ (fun _ => HSS.out _ HI1.out.nw) ?_
        clear hK K HI
        (try simp only [Act.put, List.setIfInBounds_toArray, List.set_cons_zero, List.set_cons_succ])
        generalize y.alloc (.cells #[] 4) = y1 at HI1 ⊢
        generalize y.heap.size = bb at HI1 ⊢
        clear y
        rename World => y
        rename Hid _ => HI
        refine wpAnyG_ready [3] (by kernel_rfl) (by simp) ?_
        refine AllG.cons rfl (fun K hK => ?_) AllG.nil
        · refine step_catO rfl _ _ 38 rfl 9 _ 1 16 Tryz.underlying38 infoStrR rfl (by decide) wd.heap.size HI.out.nw.size HG.out _ 0 [] rfl (HI.out.t.1 rfl) B _ S.tx.length (S.tx.map bsV) rfl (HT.out _ HI.out.nw) HO.out.1 HN.out.1.1 HN.out.1.2 ?_
          intro v1 y1 o1 u1 u1b
          have HI1 := Lib.hid (HI.out.catT o1 u1)
          refine hK.out _ _ (fun _ => HSS.out _ HI1.out.nw) ?_
          clear hK K HI o1 u1 u1b
          (try simp only [Act.put, List.setIfInBounds_toArray, List.set_cons_zero, List.set_cons_succ])
          clear y
          rename World => y
          rename Hid _ => HI
          refine wpAnyG_ready [7] (by kernel_rfl) (by simp) ?_
          refine AllG.cons rfl (fun K hK => ?_) AllG.nil
          · refine step_catO rfl _ _ 39 rfl 4 _ 1 1 Tryz.underlying39 infoBoolS rfl (by decide) wd.heap.size HI.out.nw.size HG.out _ 0 [] rfl (HI.out.h.1 rfl) B _ S.th.length (S.th.map Value.bool) rfl (HH.out _ HI.out.nw) HO.out.2.1 HN.out.2.1.1 HN.out.2.1.2 ?_
            intro v1 y1 o1 u1 u1b
            have HI1 := Lib.hid (HI.out.catH o1 u1)
            refine hK.out _ _ (fun _ => HSS.out _ HI1.out.nw) ?_
            clear hK K HI o1 u1 u1b
            (try simp only [Act.put, List.setIfInBounds_toArray, List.set_cons_zero, List.set_cons_succ])
            clear y
            rename World => y
            rename Hid _ => HI
            refine wpAnyG_ready [11] (by kernel_rfl) (by simp) ?_
            refine AllG.cons rfl (fun K hK => ?_) AllG.nil
            · refine step_catO rfl _ _ 40 rfl tPf _ 2 40 Tryz.underlying40 infoPfS rfl (by decide) wd.heap.size HI.out.nw.size HG.out _ 0 [] rfl (HI.out.p.1 rfl) B _ C.length (pfL C) rfl (HP.out _ HI.out.nw) HO.out.2.2 HN.out.2.2.1 HN.out.2.2.2 ?_
              intro v1 y1 o1 u1 u1b
              have HI1 := Lib.hid (HI.out.catP o1 u1)
              refine hK.out _ _ (fun _ => HSS.out _ HI1.out.nw) ?_
              clear hK K HI o1 u1 u1b
              (try simp only [Act.put, List.setIfInBounds_toArray, List.set_cons_zero, List.set_cons_succ])
              clear y
              rename World => y
              rename Hid _ => HI
              have t2 := HI.out.t.2 rfl
              have h2 := HI.out.h.2 rfl
              have p2 := HI.out.p.2 rfl
              obtain ⟨xa, xc, rfl⟩ := own_slS t2
              obtain ⟨ya, yc, rfl⟩ := own_slS h2
              obtain ⟨qa, qc, rfl⟩ := own_slS p2
              refine wpAnyG_pure (i := 12) (v := ?_) rfl (by kernel_rfl) (by kernel_rfl) (by kernel_rfl) (by kernel_rfl) (by kernel_rfl) (fun _ _ _ h => h) (by rfl) ?_ (fun _ => HSS.out _ HI.out.nw) ?_
              rotate_left 1
              · (intro zz; go_simp; first | done | with_reducible rfl)
              (try simp only [Act.put, List.setIfInBounds_toArray, List.set_cons_zero, List.set_cons_succ])
              refine wpAnyG_ready [13] (by kernel_rfl) (by simp) ?_
              refine AllG.cons rfl (fun K hK => ?_) AllG.nil
              have hb2 := Nw.keep HI.out.nw HB2.out
              have r0 : y.cell? ⟨z.heap.size + 1, 0, none⟩ = some (.slice none 0 0) := by rw [cells_cell hb2]; rfl
              have r1 : y.cell? ⟨z.heap.size + 1, 1, none⟩ = some (.slice none 0 0) := by rw [cells_cell hb2]; rfl
              have r2 : y.cell? ⟨z.heap.size + 1, 2, none⟩ = some (.slice none 0 0) := by rw [cells_cell hb2]; rfl
              have f0 := cells_frozen hb2 0
              have f1 := cells_frozen hb2 1
              have f2 := cells_frozen hb2 2
              have HF := Lib.hid (HFin.out y _ _ _ HI.out t2 h2 p2)
              clear t2 h2 p2 hb2
              go_simp
              refine hK.out _ _ (fun e => absurd (show true = false from e) (by decide)) ?_
              clear hK K
              (try simp only [Act.put, List.setIfInBounds_toArray, List.set_cons_zero, List.set_cons_succ])
              refine wpAnyG_done (by kernel_rfl) ?_ _
              go_wp2_with fail
              exact bodyPost_ret (cp_results _ _ (by simp) HF.out.1) rfl ⟨⟨_, _, _⟩, rfl, HF.out.2⟩
  · have HI1 := Lib.hid HI.out.mkH
    go_simp
    refine hK.out _ _ (fun _ => HSS.out _ HI1.out.nw) ?_
    clear hK K HI
    (try simp only [Act.put, List.setIfInBounds_toArray, List.set_cons_zero, List.set_cons_succ])
    generalize y.alloc (.cells #[] 4) = y1 at HI1 ⊢
    generalize y.heap.size = bb at HI1 ⊢
    clear y
    rename World => y
    rename Hid _ => HI
    refine wpAnyG_ready [0, 8] (by kernel_rfl) (by simp) ?_
    refine AllG.cons rfl (fun K hK => ?_) (AllG.cons rfl (fun K hK => ?_) AllG.nil)
    · have HI1 := Lib.hid HI.out.mkT
      go_simp
      refine hK.out _ _ (fun _ => HSS.out _ HI1.out.nw) ?_
      clear hK K HI
      (try simp only [Act.put, List.setIfInBounds_toArray, List.set_cons_zero, List.set_cons_succ])
      generalize y.alloc (.cells #[] 9) = y1 at HI1 ⊢
      generalize y.heap.size = bb at HI1 ⊢
      clear y
      rename World => y
      rename Hid _ => HI
      refine wpAnyG_ready [3, 8] (by kernel_rfl) (by simp) ?_
      refine AllG.cons rfl (fun K hK => ?_) (AllG.cons rfl (fun K hK => ?_) AllG.nil)
      · refine step_catO rfl _ _ 38 rfl 9 _ 1 16 Tryz.underlying38 infoStrR rfl (by decide) wd.heap.size HI.out.nw.size HG.out _ 0 [] rfl (HI.out.t.1 rfl) B _ S.tx.length (S.tx.map bsV) rfl (HT.out _ HI.out.nw) HO.out.1 HN.out.1.1 HN.out.1.2 ?_
        intro v1 y1 o1 u1 u1b
        have HI1 := Lib.hid (HI.out.catT o1 u1)
        refine hK.out _ _ (fun _ => HSS.out _ HI1.out.nw) ?_
        clear hK K HI o1 u1 u1b
        (try simp only [Act.put, List.setIfInBounds_toArray, List.set_cons_zero, List.set_cons_succ])
        clear y
        rename World => y
        rename Hid _ => HI
        refine wpAnyG_ready [7, 8] (by kernel_rfl) (by simp) ?_
        refine AllG.cons rfl (fun K hK => ?_) (AllG.cons rfl (fun K hK => ?_) AllG.nil)
        · refine step_catO rfl _ _ 39 rfl 4 _ 1 1 Tryz.underlying39 infoBoolS rfl (by decide) wd.heap.size HI.out.nw.size HG.out _ 0 [] rfl (HI.out.h.1 rfl) B _ S.th.length (S.th.map Value.bool) rfl (HH.out _ HI.out.nw) HO.out.2.1 HN.out.2.1.1 HN.out.2.1.2 ?_
          intro v1 y1 o1 u1 u1b
          have HI1 := Lib.hid (HI.out.catH o1 u1)
          refine hK.out _ _ (fun _ => HSS.out _ HI1.out.nw) ?_
          clear hK K HI o1 u1 u1b
          (try simp only [Act.put, List.setIfInBounds_toArray, List.set_cons_zero, List.set_cons_succ])
          clear y
          rename World => y
          rename Hid _ => HI
          refine wpAnyG_ready [8] (by kernel_rfl) (by simp) ?_
          refine AllG.cons rfl (fun K hK => ?_) AllG.nil
          · have HI1 := Lib.hid HI.out.mkP
            go_simp
            refine hK.out _ _ (fun _ => HSS.out _ HI1.out.nw) ?_
            clear hK K HI
            (try simp only [Act.put, List.setIfInBounds_toArray, List.set_cons_zero, List.set_cons_succ])
            generalize y.alloc (.cells #[] tPf) = y1 at HI1 ⊢
            generalize y.heap.size = bb at HI1 ⊢
            clear y
            rename World => y
            rename Hid _ => HI
            refine wpAnyG_ready [11] (by kernel_rfl) (by simp) ?_
            refine AllG.cons rfl (fun K hK => ?_) AllG.nil
            · refine step_catO rfl _ _ 40 rfl tPf _ 2 40 Tryz.underlying40 infoPfS rfl (by decide) wd.heap.size HI.out.nw.size HG.out _ 0 [] rfl (HI.out.p.1 rfl) B _ C.length (pfL C) rfl (HP.out _ HI.out.nw) HO.out.2.2 HN.out.2.2.1 HN.out.2.2.2 ?_
              intro v1 y1 o1 u1 u1b
              have HI1 := Lib.hid (HI.out.catP o1 u1)
              refine hK.out _ _ (fun _ => HSS.out _ HI1.out.nw) ?_
              clear hK K HI o1 u1 u1b
              (try simp only [Act.put, List.setIfInBounds_toArray, List.set_cons_zero, List.set_cons_succ])
              clear y
              rename World => y
              rename Hid _ => HI
              have t2 := HI.out.t.2 rfl
              have h2 := HI.out.h.2 rfl
              have p2 := HI.out.p.2 rfl
              obtain ⟨xa, xc, rfl⟩ := own_slS t2
              obtain ⟨ya, yc, rfl⟩ := own_slS h2
              obtain ⟨qa, qc, rfl⟩ := own_slS p2
              refine wpAnyG_pure (i := 12) (v := ?_) rfl (by kernel_rfl) (by kernel_rfl) (by kernel_rfl) (by kernel_rfl) (by kernel_rfl) (fun _ _ _ h => h) (by rfl) ?_ (fun _ => HSS.out _ HI.out.nw) ?_
              rotate_left 1
              · (intro zz; go_simp; first | done | with_reducible rfl)
              (try simp only [Act.put, List.setIfInBounds_toArray, List.set_cons_zero, List.set_cons_succ])
              refine wpAnyG_ready [13] (by kernel_rfl) (by simp) ?_
              refine AllG.cons rfl (fun K hK => ?_) AllG.nil
              have hb2 := Nw.keep HI.out.nw HB2.out
              have r0 : y.cell? ⟨z.heap.size + 1, 0, none⟩ = some (.slice none 0 0) := by rw [cells_cell hb2]; rfl
              have r1 : y.cell? ⟨z.heap.size + 1, 1, none⟩ = some (.slice none 0 0) := by rw [cells_cell hb2]; rfl
              have r2 : y.cell? ⟨z.heap.size + 1, 2, none⟩ = some (.slice none 0 0) := by rw [cells_cell hb2]; rfl
              have f0 := cells_frozen hb2 0
              have f1 := cells_frozen hb2 1
              have f2 := cells_frozen hb2 2
              have HF := Lib.hid (HFin.out y _ _ _ HI.out t2 h2 p2)
              clear t2 h2 p2 hb2
              go_simp
              refine hK.out _ _ (fun e => absurd (show true = false from e) (by decide)) ?_
              clear hK K
              (try simp only [Act.put, List.setIfInBounds_toArray, List.set_cons_zero, List.set_cons_succ])
              refine wpAnyG_done (by kernel_rfl) ?_ _
              go_wp2_with fail
              exact bodyPost_ret (cp_results _ _ (by simp) HF.out.1) rfl ⟨⟨_, _, _⟩, rfl, HF.out.2⟩
        · have HI1 := Lib.hid HI.out.mkP
          go_simp
          refine hK.out _ _ (fun _ => HSS.out _ HI1.out.nw) ?_
          clear hK K HI
          (try simp only [Act.put, List.setIfInBounds_toArray, List.set_cons_zero, List.set_cons_succ])
          generalize y.alloc (.cells #[] tPf) = y1 at HI1 ⊢
          generalize y.heap.size = bb at HI1 ⊢
          clear y
          rename World => y
          rename Hid _ => HI
          refine wpAnyG_ready [7] (by kernel_rfl) (by simp) ?_
          refine AllG.cons rfl (fun K hK => ?_) AllG.nil
          · refine step_catO rfl _ _ 39 rfl 4 _ 1 1 Tryz.underlying39 infoBoolS rfl (by decide) wd.heap.size HI.out.nw.size HG.out _ 0 [] rfl (HI.out.h.1 rfl) B _ S.th.length (S.th.map Value.bool) rfl (HH.out _ HI.out.nw) HO.out.2.1 HN.out.2.1.1 HN.out.2.1.2 ?_
            intro v1 y1 o1 u1 u1b
            have HI1 := Lib.hid (HI.out.catH o1 u1)
            refine hK.out _ _ (fun _ => HSS.out _ HI1.out.nw) ?_
            clear hK K HI o1 u1 u1b
            (try simp only [Act.put, List.setIfInBounds_toArray, List.set_cons_zero, List.set_cons_succ])
            clear y
            rename World => y
            rename Hid _ => HI
            refine wpAnyG_ready [11] (by kernel_rfl) (by simp) ?_
            refine AllG.cons rfl (fun K hK => ?_) AllG.nil
            · refine step_catO rfl _ _ 40 rfl tPf _ 2 40 Tryz.underlying40 infoPfS rfl (by decide) wd.heap.size HI.out.nw.size HG.out _ 0 [] rfl (HI.out.p.1 rfl) B _ C.length (pfL C) rfl (HP.out _ HI.out.nw) HO.out.2.2 HN.out.2.2.1 HN.out.2.2.2 ?_
              intro v1 y1 o1 u1 u1b
              have HI1 := Lib.hid (HI.out.catP o1 u1)
              refine hK.out _ _ (fun _ => HSS.out _ HI1.out.nw) ?_
              clear hK K HI o1 u1 u1b
              (try simp only [Act.put, List.setIfInBounds_toArray, List.set_cons_zero, List.set_cons_succ])
              clear y
              rename World => y
              rename Hid _ => HI
              have t2 := HI.out.t.2 rfl
              have h2 := HI.out.h.2 rfl
              have p2 := HI.out.p.2 rfl
              obtain ⟨xa, xc, rfl⟩ := own_slS t2
              obtain ⟨ya, yc, rfl⟩ := own_slS h2
              obtain ⟨qa, qc, rfl⟩ := own_slS p2
              refine wpAnyG_pure (i := 12) (v := ?_) rfl (by kernel_rfl) (by kernel_rfl) (by kernel_rfl) (by kernel_rfl) (by kernel_rfl) (fun _ _ _ h => h) (by rfl) ?_ (fun _ => HSS.out _ HI.out.nw) ?_
              rotate_left 1
              · (intro zz; go_simp; first | done | with_reducible rfl)
              (try simp only [Act.put, List.setIfInBounds_toArray, List.set_cons_zero, List.set_cons_succ])
              refine wpAnyG_ready [13] (by kernel_rfl) (by simp) ?_
              refine AllG.cons rfl (fun K hK => ?_) AllG.nil
              have hb2 := Nw.keep HI.out.nw HB2.out
              have r0 : y.cell? ⟨z.heap.size + 1, 0, none⟩ = some (.slice none 0 0) := by rw [cells_cell hb2]; rfl
              have r1 : y.cell? ⟨z.heap.size + 1, 1, none⟩ = some (.slice none 0 0) := by rw [cells_cell hb2]; rfl
              have r2 : y.cell? ⟨z.heap.size + 1, 2, none⟩ = some (.slice none 0 0) := by rw [cells_cell hb2]; rfl
              have f0 := cells_frozen hb2 0
              have f1 := cells_frozen hb2 1
              have f2 := cells_frozen hb2 2
              have HF := Lib.hid (HFin.out y _ _ _ HI.out t2 h2 p2)
              clear t2 h2 p2 hb2
              go_simp
              refine hK.out _ _ (fun e => absurd (show true = false from e) (by decide)) ?_
              clear hK K
              (try simp only [Act.put, List.setIfInBounds_toArray, List.set_cons_zero, List.set_cons_succ])
              refine wpAnyG_done (by kernel_rfl) ?_ _
              go_wp2_with fail
              exact bodyPost_ret (cp_results _ _ (by simp) HF.out.1) rfl ⟨⟨_, _, _⟩, rfl, HF.out.2⟩
      · have HI1 := Lib.hid HI.out.mkP
        go_simp
        refine hK.out _ _ (fun _ => HSS.out _ HI1.out.nw) ?_
        clear hK K HI
        (try simp only [Act.put, List.setIfInBounds_toArray, List.set_cons_zero, List.set_cons_succ])
        generalize y.alloc (.cells #[] tPf) = y1 at HI1 ⊢
        generalize y.heap.size = bb at HI1 ⊢
        clear y
        rename World => y
        rename Hid _ => HI
        refine wpAnyG_ready [3] (by kernel_rfl) (by simp) ?_
        refine AllG.cons rfl (fun K hK => ?_) AllG.nil
        · refine step_catO rfl _ _ 38 rfl 9 _ 1 16 Tryz.underlying38 infoStrR rfl (by decide) wd.heap.size HI.out.nw.size HG.out _ 0 [] rfl (HI.out.t.1 rfl) B _ S.tx.length (S.tx.map bsV) rfl (HT.out _ HI.out.nw) HO.out.1 HN.out.1.1 HN.out.1.2 ?_
          intro v1 y1 o1 u1 u1b
          have HI1 := Lib.hid (HI.out.catT o1 u1)
          refine hK.out _ _ (fun _ => HSS.out _ HI1.out.nw) ?_
          clear hK K HI o1 u1 u1b
          (try simp only [Act.put, List.setIfInBounds_toArray, List.set_cons_zero, List.set_cons_succ])
          clear y
          rename World => y
          rename Hid _ => HI
          refine wpAnyG_ready [7] (by kernel_rfl) (by simp) ?_
          refine AllG.cons rfl (fun K hK => ?_) AllG.nil
          · refine step_catO rfl _ _ 39 rfl 4 _ 1 1 Tryz.underlying39 infoBoolS rfl (by decide) wd.heap.size HI.out.nw.size HG.out _ 0 [] rfl (HI.out.h.1 rfl) B _ S.th.length (S.th.map Value.bool) rfl (HH.out _ HI.out.nw) HO.out.2.1 HN.out.2.1.1 HN.out.2.1.2 ?_
            intro v1 y1 o1 u1 u1b
            have HI1 := Lib.hid (HI.out.catH o1 u1)
            refine hK.out _ _ (fun _ => HSS.out _ HI1.out.nw) ?_
            clear hK K HI o1 u1 u1b
            (try simp only [Act.put, List.setIfInBounds_toArray, List.set_cons_zero, List.set_cons_succ])
            clear y
            rename World => y
            rename Hid _ => HI
            refine wpAnyG_ready [11] (by kernel_rfl) (by simp) ?_
            refine AllG.cons rfl (fun K hK => ?_) AllG.nil
            · refine step_catO rfl _ _ 40 rfl tPf _ 2 40 Tryz.underlying40 infoPfS rfl (by decide) wd.heap.size HI.out.nw.size HG.out _ 0 [] rfl (HI.out.p.1 rfl) B _ C.length (pfL C) rfl (HP.out _ HI.out.nw) HO.out.2.2 HN.out.2.2.1 HN.out.2.2.2 ?_
              intro v1 y1 o1 u1 u1b
              have HI1 := Lib.hid (HI.out.catP o1 u1)
              refine hK.out _ _ (fun _ => HSS.out _ HI1.out.nw) ?_
              clear hK K HI o1 u1 u1b
              (try simp only [Act.put, List.setIfInBounds_toArray, List.set_cons_zero, List.set_cons_succ])
              clear y
              rename World => y
              rename Hid _ => HI
              have t2 := HI.out.t.2 rfl
              have h2 := HI.out.h.2 rfl
              have p2 := HI.out.p.2 rfl
              obtain ⟨xa, xc, rfl⟩ := own_slS t2
              obtain ⟨ya, yc, rfl⟩ := own_slS h2
              obtain ⟨qa, qc, rfl⟩ := own_slS p2
              refine wpAnyG_pure (i := 12) (v := ?_) rfl (by kernel_rfl) (by kernel_rfl) (by kernel_rfl) (by kernel_rfl) (by kernel_rfl) (fun _ _ _ h => h) (by rfl) ?_ (fun _ => HSS.out _ HI.out.nw) ?_
              rotate_left 1
              · (intro zz; go_simp; first | done | with_reducible rfl)
              (try simp only [Act.put, List.setIfInBounds_toArray, List.set_cons_zero, List.set_cons_succ])
              refine wpAnyG_ready [13] (by kernel_rfl) (by simp) ?_
              refine AllG.cons rfl (fun K hK => ?_) AllG.nil
              have hb2 := Nw.keep HI.out.nw HB2.out
              have r0 : y.cell? ⟨z.heap.size + 1, 0, none⟩ = some (.slice none 0 0) := by rw [cells_cell hb2]; rfl
              have r1 : y.cell? ⟨z.heap.size + 1, 1, none⟩ = some (.slice none 0 0) := by rw [cells_cell hb2]; rfl
              have r2 : y.cell? ⟨z.heap.size + 1, 2, none⟩ = some (.slice none 0 0) := by rw [cells_cell hb2]; rfl
              have f0 := cells_frozen hb2 0
              have f1 := cells_frozen hb2 1
              have f2 := cells_frozen hb2 2
              have HF := Lib.hid (HFin.out y _ _ _ HI.out t2 h2 p2)
              clear t2 h2 p2 hb2
              go_simp
              refine hK.out _ _ (fun e => absurd (show true = false from e) (by decide)) ?_
              clear hK K
              (try simp only [Act.put, List.setIfInBounds_toArray, List.set_cons_zero, List.set_cons_succ])
              refine wpAnyG_done (by kernel_rfl) ?_ _
              go_wp2_with fail
              exact bodyPost_ret (cp_results _ _ (by simp) HF.out.1) rfl ⟨⟨_, _, _⟩, rfl, HF.out.2⟩
    · have HI1 := Lib.hid HI.out.mkP
      go_simp
      refine hK.out _ _ (fun _ => HSS.out _ HI1.out.nw) ?_
      clear hK K HI
      (try simp only [Act.put, List.setIfInBounds_toArray, List.set_cons_zero, List.set_cons_succ])
      generalize y.alloc (.cells #[] tPf) = y1 at HI1 ⊢
      generalize y.heap.size = bb at HI1 ⊢
      clear y
      rename World => y
      rename Hid _ => HI
      refine wpAnyG_ready [0] (by kernel_rfl) (by simp) ?_
      refine AllG.cons rfl (fun K hK => ?_) AllG.nil
      · have HI1 := Lib.hid HI.out.mkT
        go_simp
        refine hK.out _ _ (fun _ => HSS.out _ HI1.out.nw) ?_
        clear hK K HI
        (try simp only [Act.put, List.setIfInBounds_toArray, List.set_cons_zero, List.set_cons_succ])
        generalize y.alloc (.cells #[] 9) = y1 at HI1 ⊢
        generalize y.heap.size = bb at HI1 ⊢
        clear y
        rename World => y
        rename Hid _ => HI
        refine wpAnyG_ready [3] (by kernel_rfl) (by simp) ?_
        refine AllG.cons rfl (fun K hK => ?_) AllG.nil
        · refine step_catO rfl _ _ 38 rfl 9 _ 1 16 Tryz.underlying38 infoStrR rfl (by decide) wd.heap.size HI.out.nw.size HG.out _ 0 [] rfl (HI.out.t.1 rfl) B _ S.tx.length (S.tx.map bsV) rfl (HT.out _ HI.out.nw) HO.out.1 HN.out.1.1 HN.out.1.2 ?_
          intro v1 y1 o1 u1 u1b
          have HI1 := Lib.hid (HI.out.catT o1 u1)
          refine hK.out _ _ (fun _ => HSS.out _ HI1.out.nw) ?_
          clear hK K HI o1 u1 u1b
          (try simp only [Act.put, List.setIfInBounds_toArray, List.set_cons_zero, List.set_cons_succ])
          clear y
          rename World => y
          rename Hid _ => HI
          refine wpAnyG_ready [7] (by kernel_rfl) (by simp) ?_
          refine AllG.cons rfl (fun K hK => ?_) AllG.nil
          · refine step_catO rfl _ _ 39 rfl 4 _ 1 1 Tryz.underlying39 infoBoolS rfl (by decide) wd.heap.size HI.out.nw.size HG.out _ 0 [] rfl (HI.out.h.1 rfl) B _ S.th.length (S.th.map Value.bool) rfl (HH.out _ HI.out.nw) HO.out.2.1 HN.out.2.1.1 HN.out.2.1.2 ?_
            intro v1 y1 o1 u1 u1b
            have HI1 := Lib.hid (HI.out.catH o1 u1)
            refine hK.out _ _ (fun _ => HSS.out _ HI1.out.nw) ?_
            clear hK K HI o1 u1 u1b
            (try simp only [Act.put, List.setIfInBounds_toArray, List.set_cons_zero, List.set_cons_succ])
            clear y
            rename World => y
            rename Hid _ => HI
            refine wpAnyG_ready [11] (by kernel_rfl) (by simp) ?_
            refine AllG.cons rfl (fun K hK => ?_) AllG.nil
            · refine step_catO rfl _ _ 40 rfl tPf _ 2 40 Tryz.underlying40 infoPfS rfl (by decide) wd.heap.size HI.out.nw.size HG.out _ 0 [] rfl (HI.out.p.1 rfl) B _ C.length (pfL C) rfl (HP.out _ HI.out.nw) HO.out.2.2 HN.out.2.2.1 HN.out.2.2.2 ?_
              intro v1 y1 o1 u1 u1b
              have HI1 := Lib.hid (HI.out.catP o1 u1)
              refine hK.out _ _ (fun _ => HSS.out _ HI1.out.nw) ?_
              clear hK K HI o1 u1 u1b
              (try simp only [Act.put, List.setIfInBounds_toArray, List.set_cons_zero, List.set_cons_succ])
              clear y
              rename World => y
              rename Hid _ => HI
              have t2 := HI.out.t.2 rfl
              have h2 := HI.out.h.2 rfl
              have p2 := HI.out.p.2 rfl
              obtain ⟨xa, xc, rfl⟩ := own_slS t2
              obtain ⟨ya, yc, rfl⟩ := own_slS h2
              obtain ⟨qa, qc, rfl⟩ := own_slS p2
              refine wpAnyG_pure (i := 12) (v := ?_) rfl (by kernel_rfl) (by kernel_rfl) (by kernel_rfl) (by kernel_rfl) (by kernel_rfl) (fun _ _ _ h => h) (by rfl) ?_ (fun _ => HSS.out _ HI.out.nw) ?_
              rotate_left 1
              · (intro zz; go_simp; first | done | with_reducible rfl)
              (try simp only [Act.put, List.setIfInBounds_toArray, List.set_cons_zero, List.set_cons_succ])
              refine wpAnyG_ready [13] (by kernel_rfl) (by simp) ?_
              refine AllG.cons rfl (fun K hK => ?_) AllG.nil
              have hb2 := Nw.keep HI.out.nw HB2.out
              have r0 : y.cell? ⟨z.heap.size + 1, 0, none⟩ = some (.slice none 0 0) := by rw [cells_cell hb2]; rfl
              have r1 : y.cell? ⟨z.heap.size + 1, 1, none⟩ = some (.slice none 0 0) := by rw [cells_cell hb2]; rfl
              have r2 : y.cell? ⟨z.heap.size + 1, 2, none⟩ = some (.slice none 0 0) := by rw [cells_cell hb2]; rfl
              have f0 := cells_frozen hb2 0
              have f1 := cells_frozen hb2 1
              have f2 := cells_frozen hb2 2
              have HF := Lib.hid (HFin.out y _ _ _ HI.out t2 h2 p2)
              clear t2 h2 p2 hb2
              go_simp
              refine hK.out _ _ (fun e => absurd (show true = false from e) (by decide)) ?_
              clear hK K
              (try simp only [Act.put, List.setIfInBounds_toArray, List.set_cons_zero, List.set_cons_succ])
              refine wpAnyG_done (by kernel_rfl) ?_ _
              go_wp2_with fail
              exact bodyPost_ret (cp_results _ _ (by simp) HF.out.1) rfl ⟨⟨_, _, _⟩, rfl, HF.out.2⟩
  · have HI1 := Lib.hid HI.out.mkP
    go_simp
    refine hK.out _ _ (fun _ => HSS.out _ HI1.out.nw) ?_
    clear hK K HI
    (try simp only [Act.put, List.setIfInBounds_toArray, List.set_cons_zero, List.set_cons_succ])
    generalize y.alloc (.cells #[] tPf) = y1 at HI1 ⊢
    generalize y.heap.size = bb at HI1 ⊢
    clear y
    rename World => y
    rename Hid _ => HI
    refine wpAnyG_ready [0, 4] (by kernel_rfl) (by simp) ?_
    refine AllG.cons rfl (fun K hK => ?_) (AllG.cons rfl (fun K hK => ?_) AllG.nil)
    · have HI1 := Lib.hid HI.out.mkT
      go_simp
      refine hK.out _ _ (fun _ => HSS.out _ HI1.out.nw) ?_
      clear hK K HI
      (try simp only [Act.put, List.setIfInBounds_toArray, List.set_cons_zero, List.set_cons_succ])
      generalize y.alloc (.cells #[] 9) = y1 at HI1 ⊢
      generalize y.heap.size = bb at HI1 ⊢
      clear y
      rename World => y
      rename Hid _ => HI
      refine wpAnyG_ready [3, 4] (by kernel_rfl) (by simp) ?_
      refine AllG.cons rfl (fun K hK => ?_) (AllG.cons rfl (fun K hK => ?_) AllG.nil)
      · refine step_catO rfl _ _ 38 rfl 9 _ 1 16 Tryz.underlying38 infoStrR rfl (by decide) wd.heap.size HI.out.nw.size HG.out _ 0 [] rfl (HI.out.t.1 rfl) B _ S.tx.length (S.tx.map bsV) rfl (HT.out _ HI.out.nw) HO.out.1 HN.out.1.1 HN.out.1.2 ?_
        intro v1 y1 o1 u1 u1b
        have HI1 := Lib.hid (HI.out.catT o1 u1)
        refine hK.out _ _ (fun _ => HSS.out _ HI1.out.nw) ?_
        clear hK K HI o1 u1 u1b
        (try simp only [Act.put, List.setIfInBounds_toArray, List.set_cons_zero, List.set_cons_succ])
        clear y
        rename World => y
        rename Hid _ => HI
        refine wpAnyG_ready [4] (by kernel_rfl) (by simp) ?_
        refine AllG.cons rfl (fun K hK => ?_) AllG.nil
        · have HI1 := Lib.hid HI.out.mkH
          go_simp
          refine hK.out _ _ (fun _ => HSS.out _ HI1.out.nw) ?_
          clear hK K HI
          (try simp only [Act.put, List.setIfInBounds_toArray, List.set_cons_zero, List.set_cons_succ])
          generalize y.alloc (.cells #[] 4) = y1 at HI1 ⊢
          generalize y.heap.size = bb at HI1 ⊢
          clear y
          rename World => y
          rename Hid _ => HI
          refine wpAnyG_ready [7] (by kernel_rfl) (by simp) ?_
          refine AllG.cons rfl (fun K hK => ?_) AllG.nil
          · refine step_catO rfl _ _ 39 rfl 4 _ 1 1 Tryz.underlying39 infoBoolS rfl (by decide) wd.heap.size HI.out.nw.size HG.out _ 0 [] rfl (HI.out.h.1 rfl) B _ S.th.length (S.th.map Value.bool) rfl (HH.out _ HI.out.nw) HO.out.2.1 HN.out.2.1.1 HN.out.2.1.2 ?_
            intro v1 y1 o1 u1 u1b
            have HI1 := Lib.hid (HI.out.catH o1 u1)
            refine hK.out _ _ (fun _ => HSS.out _ HI1.out.nw) ?_
            clear hK K HI o1 u1 u1b
            (try simp only [Act.put, List.setIfInBounds_toArray, List.set_cons_zero, List.set_cons_succ])
            clear y
            rename World => y
            rename Hid _ => HI
            refine wpAnyG_ready [11] (by kernel_rfl) (by simp) ?_
            refine AllG.cons rfl (fun K hK => ?_) AllG.nil
            · refine step_catO rfl _ _ 40 rfl tPf _ 2 40 Tryz.underlying40 infoPfS rfl (by decide) wd.heap.size HI.out.nw.size HG.out _ 0 [] rfl (HI.out.p.1 rfl) B _ C.length (pfL C) rfl (HP.out _ HI.out.nw) HO.out.2.2 HN.out.2.2.1 HN.out.2.2.2 ?_
              intro v1 y1 o1 u1 u1b
              have HI1 := Lib.hid (HI.out.catP o1 u1)
              refine hK.out _ _ (fun _ => HSS.out _ HI1.out.nw) ?_
              clear hK K HI o1 u1 u1b
              (try simp only [Act.put, List.setIfInBounds_toArray, List.set_cons_zero, List.set_cons_succ])
              clear y
              rename World => y
              rename Hid _ => HI
              have t2 := HI.out.t.2 rfl
              have h2 := HI.out.h.2 rfl
              have p2 := HI.out.p.2 rfl
              obtain ⟨xa, xc, rfl⟩ := own_slS t2
              obtain ⟨ya, yc, rfl⟩ := own_slS h2
              obtain ⟨qa, qc, rfl⟩ := own_slS p2
              refine wpAnyG_pure (i := 12) (v := ?_) rfl (by kernel_rfl) (by kernel_rfl) (by kernel_rfl) (by kernel_rfl) (by kernel_rfl) (fun _ _ _ h => h) (by rfl) ?_ (fun _ => HSS.out _ HI.out.nw) ?_
              rotate_left 1
              · (intro zz; go_simp; first | done | with_reducible rfl)
              (try simp only [Act.put, List.setIfInBounds_toArray, List.set_cons_zero, List.set_cons_succ])
              refine wpAnyG_ready [13] (by kernel_rfl) (by simp) ?_
              refine AllG.cons rfl (fun K hK => ?_) AllG.nil
              have hb2 := Nw.keep HI.out.nw HB2.out
              have r0 : y.cell? ⟨z.heap.size + 1, 0, none⟩ = some (.slice none 0 0) := by rw [cells_cell hb2]; rfl
              have r1 : y.cell? ⟨z.heap.size + 1, 1, none⟩ = some (.slice none 0 0) := by rw [cells_cell hb2]; rfl
              have r2 : y.cell? ⟨z.heap.size + 1, 2, none⟩ = some (.slice none 0 0) := by rw [cells_cell hb2]; rfl
              have f0 := cells_frozen hb2 0
              have f1 := cells_frozen hb2 1
              have f2 := cells_frozen hb2 2
              have HF := Lib.hid (HFin.out y _ _ _ HI.out t2 h2 p2)
              clear t2 h2 p2 hb2
              go_simp
              refine hK.out _ _ (fun e => absurd (show true = false from e) (by decide)) ?_
              clear hK K
              (try simp only [Act.put, List.setIfInBounds_toArray, List.set_cons_zero, List.set_cons_succ])
              refine wpAnyG_done (by kernel_rfl) ?_ _
              go_wp2_with fail
              exact bodyPost_ret (cp_results _ _ (by simp) HF.out.1) rfl ⟨⟨_, _, _⟩, rfl, HF.out.2⟩
      · have HI1 := Lib.hid HI.out.mkH
        go_simp
        refine hK.out _ _ (fun _ => HSS.out _ HI1.out.nw) ?_
        clear hK K HI
        (try simp only [Act.put, List.setIfInBounds_toArray, List.set_cons_zero, List.set_cons_succ])
        generalize y.alloc (.cells #[] 4) = y1 at HI1 ⊢
        generalize y.heap.size = bb at HI1 ⊢
        clear y
        rename World => y
        rename Hid _ => HI
        refine wpAnyG_ready [3] (by kernel_rfl) (by simp) ?_
        refine AllG.cons rfl (fun K hK => ?_) AllG.nil
        · refine step_catO rfl _ _ 38 rfl 9 _ 1 16 Tryz.underlying38 infoStrR rfl (by decide) wd.heap.size HI.out.nw.size HG.out _ 0 [] rfl (HI.out.t.1 rfl) B _ S.tx.length (S.tx.map bsV) rfl (HT.out _ HI.out.nw) HO.out.1 HN.out.1.1 HN.out.1.2 ?_
          intro v1 y1 o1 u1 u1b
          have HI1 := Lib.hid (HI.out.catT o1 u1)
          refine hK.out _ _ (fun _ => HSS.out _ HI1.out.nw) ?_
          clear hK K HI o1 u1 u1b
          (try simp only [Act.put, List.setIfInBounds_toArray, List.set_cons_zero, List.set_cons_succ])
          clear y
          rename World => y
          rename Hid _ => HI
          refine wpAnyG_ready [7] (by kernel_rfl) (by simp) ?_
          refine AllG.cons rfl (fun K hK => ?_) AllG.nil
          · refine step_catO rfl _ _ 39 rfl 4 _ 1 1 Tryz.underlying39 infoBoolS rfl (by decide) wd.heap.size HI.out.nw.size HG.out _ 0 [] rfl (HI.out.h.1 rfl) B _ S.th.length (S.th.map Value.bool) rfl (HH.out _ HI.out.nw) HO.out.2.1 HN.out.2.1.1 HN.out.2.1.2 ?_
            intro v1 y1 o1 u1 u1b
            have HI1 := Lib.hid (HI.out.catH o1 u1)
            refine hK.out _ _ (fun _ => HSS.out _ HI1.out.nw) ?_
            clear hK K HI o1 u1 u1b
            (try simp only [Act.put, List.setIfInBounds_toArray, List.set_cons_zero, List.set_cons_succ])
            clear y
            rename World => y
            rename Hid _ => HI
            refine wpAnyG_ready [11] (by kernel_rfl) (by simp) ?_
            refine AllG.cons rfl (fun K hK => ?_) AllG.nil
            · refine step_catO rfl _ _ 40 rfl tPf _ 2 40 Tryz.underlying40 infoPfS rfl (by decide) wd.heap.size HI.out.nw.size HG.out _ 0 [] rfl (HI.out.p.1 rfl) B _ C.length (pfL C) rfl (HP.out _ HI.out.nw) HO.out.2.2 HN.out.2.2.1 HN.out.2.2.2 ?_
              intro v1 y1 o1 u1 u1b
              have HI1 := Lib.hid (HI.out.catP o1 u1)
              refine hK.out _ _ (fun _ => HSS.out _ HI1.out.nw) ?_
              clear hK K HI o1 u1 u1b
              (try simp only [Act.put, List.setIfInBounds_toArray, List.set_cons_zero, List.set_cons_succ])
              clear y
              rename World => y
              rename Hid _ => HI
              have t2 := HI.out.t.2 rfl
              have h2 := HI.out.h.2 rfl
              have p2 := HI.out.p.2 rfl
              obtain ⟨xa, xc, rfl⟩ := own_slS t2
              obtain ⟨ya, yc, rfl⟩ := own_slS h2
              obtain ⟨qa, qc, rfl⟩ := own_slS p2
              refine wpAnyG_pure (i := 12) (v := ?_) rfl (by kernel_rfl) (by kernel_rfl) (by kernel_rfl) (by kernel_rfl) (by kernel_rfl) (fun _ _ _ h => h) (by rfl) ?_ (fun _ => HSS.out _ HI.out.nw) ?_
              rotate_left 1
              · (intro zz; go_simp; first | done | with_reducible rfl)
              (try simp only [Act.put, List.setIfInBounds_toArray, List.set_cons_zero, List.set_cons_succ])
              refine wpAnyG_ready [13] (by kernel_rfl) (by simp) ?_
              refine AllG.cons rfl (fun K hK => ?_) AllG.nil
              have hb2 := Nw.keep HI.out.nw HB2.out
              have r0 : y.cell? ⟨z.heap.size + 1, 0, none⟩ = some (.slice none 0 0) := by rw [cells_cell hb2]; rfl
              have r1 : y.cell? ⟨z.heap.size + 1, 1, none⟩ = some (.slice none 0 0) := by rw [cells_cell hb2]; rfl
              have r2 : y.cell? ⟨z.heap.size + 1, 2, none⟩ = some (.slice none 0 0) := by rw [cells_cell hb2]; rfl
              have f0 := cells_frozen hb2 0
              have f1 := cells_frozen hb2 1
              have f2 := cells_frozen hb2 2
              have HF := Lib.hid (HFin.out y _ _ _ HI.out t2 h2 p2)
              clear t2 h2 p2 hb2
              go_simp
              refine hK.out _ _ (fun e => absurd (show true = false from e) (by decide)) ?_
              clear hK K
              (try simp only [Act.put, List.setIfInBounds_toArray, List.set_cons_zero, List.set_cons_succ])
              refine wpAnyG_done (by kernel_rfl) ?_ _
              go_wp2_with fail
              exact bodyPost_ret (cp_results _ _ (by simp) HF.out.1) rfl ⟨⟨_, _, _⟩, rfl, HF.out.2⟩
    · have HI1 := Lib.hid HI.out.mkH
      go_simp
      refine hK.out _ _ (fun _ => HSS.out _ HI1.out.nw) ?_
      clear hK K HI
      (try simp only [Act.put, List.setIfInBounds_toArray, List.set_cons_zero, List.set_cons_succ])
      generalize y.alloc (.cells #[] 4) = y1 at HI1 ⊢
      generalize y.heap.size = bb at HI1 ⊢
      clear y
      rename World => y
      rename Hid _ => HI
      refine wpAnyG_ready [0] (by kernel_rfl) (by simp) ?_
      refine AllG.cons rfl (fun K hK => ?_) AllG.nil
      · have HI1 := Lib.hid HI.out.mkT
        go_simp
        refine hK.out _ _ (fun _ => HSS.out _ HI1.out.nw) ?_
        clear hK K HI
        (try simp only [Act.put, List.setIfInBounds_toArray, List.set_cons_zero, List.set_cons_succ])
        generalize y.alloc (.cells #[] 9) = y1 at HI1 ⊢
        generalize y.heap.size = bb at HI1 ⊢
        clear y
        rename World => y
        rename Hid _ => HI
        refine wpAnyG_ready [3] (by kernel_rfl) (by simp) ?_
        refine AllG.cons rfl (fun K hK => ?_) AllG.nil
        · refine step_catO rfl _ _ 38 rfl 9 _ 1 16 Tryz.underlying38 infoStrR rfl (by decide) wd.heap.size HI.out.nw.size HG.out _ 0 [] rfl (HI.out.t.1 rfl) B _ S.tx.length (S.tx.map bsV) rfl (HT.out _ HI.out.nw) HO.out.1 HN.out.1.1 HN.out.1.2 ?_
          intro v1 y1 o1 u1 u1b
          have HI1 := Lib.hid (HI.out.catT o1 u1)
          refine hK.out _ _ (fun _ => HSS.out _ HI1.out.nw) ?_
          clear hK K HI o1 u1 u1b
          (try simp only [Act.put, List.setIfInBounds_toArray, List.set_cons_zero, List.set_cons_succ])
          clear y
          rename World => y
          rename Hid _ => HI
          refine wpAnyG_ready [7] (by kernel_rfl) (by simp) ?_
          refine AllG.cons rfl (fun K hK => ?_) AllG.nil
          · refine step_catO rfl _ _ 39 rfl 4 _ 1 1 Tryz.underlying39 infoBoolS rfl (by decide) wd.heap.size HI.out.nw.size HG.out _ 0 [] rfl (HI.out.h.1 rfl) B _ S.th.length (S.th.map Value.bool) rfl (HH.out _ HI.out.nw) HO.out.2.1 HN.out.2.1.1 HN.out.2.1.2 ?_
            intro v1 y1 o1 u1 u1b
            have HI1 := Lib.hid (HI.out.catH o1 u1)
            refine hK.out _ _ (fun _ => HSS.out _ HI1.out.nw) ?_
            clear hK K HI o1 u1 u1b
            (try simp only [Act.put, List.setIfInBounds_toArray, List.set_cons_zero, List.set_cons_succ])
            clear y
            rename World => y
            rename Hid _ => HI
            refine wpAnyG_ready [11] (by kernel_rfl) (by simp) ?_
            refine AllG.cons rfl (fun K hK => ?_) AllG.nil
            · refine step_catO rfl _ _ 40 rfl tPf _ 2 40 Tryz.underlying40 infoPfS rfl (by decide) wd.heap.size HI.out.nw.size HG.out _ 0 [] rfl (HI.out.p.1 rfl) B _ C.length (pfL C) rfl (HP.out _ HI.out.nw) HO.out.2.2 HN.out.2.2.1 HN.out.2.2.2 ?_
              intro v1 y1 o1 u1 u1b
              have HI1 := Lib.hid (HI.out.catP o1 u1)
              refine hK.out _ _ (fun _ => HSS.out _ HI1.out.nw) ?_
              clear hK K HI o1 u1 u1b
              (try simp only [Act.put, List.setIfInBounds_toArray, List.set_cons_zero, List.set_cons_succ])
              clear y
              rename World => y
              rename Hid _ => HI
              have t2 := HI.out.t.2 rfl
              have h2 := HI.out.h.2 rfl
              have p2 := HI.out.p.2 rfl
              obtain ⟨xa, xc, rfl⟩ := own_slS t2
              obtain ⟨ya, yc, rfl⟩ := own_slS h2
              obtain ⟨qa, qc, rfl⟩ := own_slS p2
              refine wpAnyG_pure (i := 12) (v := ?_) rfl (by kernel_rfl) (by kernel_rfl) (by kernel_rfl) (by kernel_rfl) (by kernel_rfl) (fun _ _ _ h => h) (by rfl) ?_ (fun _ => HSS.out _ HI.out.nw) ?_
              rotate_left 1
              · (intro zz; go_simp; first | done | with_reducible rfl)
              (try simp only [Act.put, List.setIfInBounds_toArray, List.set_cons_zero, List.set_cons_succ])
              refine wpAnyG_ready [13] (by kernel_rfl) (by simp) ?_
              refine AllG.cons rfl (fun K hK => ?_) AllG.nil
              have hb2 := Nw.keep HI.out.nw HB2.out
              have r0 : y.cell? ⟨z.heap.size + 1, 0, none⟩ = some (.slice none 0 0) := by rw [cells_cell hb2]; rfl
              have r1 : y.cell? ⟨z.heap.size + 1, 1, none⟩ = some (.slice none 0 0) := by rw [cells_cell hb2]; rfl
              have r2 : y.cell? ⟨z.heap.size + 1, 2, none⟩ = some (.slice none 0 0) := by rw [cells_cell hb2]; rfl
              have f0 := cells_frozen hb2 0
              have f1 := cells_frozen hb2 1
              have f2 := cells_frozen hb2 2
              have HF := Lib.hid (HFin.out y _ _ _ HI.out t2 h2 p2)
              clear t2 h2 p2 hb2
              go_simp
              refine hK.out _ _ (fun e => absurd (show true = false from e) (by decide)) ?_
              clear hK K
              (try simp only [Act.put, List.setIfInBounds_toArray, List.set_cons_zero, List.set_cons_succ])
              refine wpAnyG_done (by kernel_rfl) ?_ _
              go_wp2_with fail
              exact bodyPost_ret (cp_results _ _ (by simp) HF.out.1) rfl ⟨⟨_, _, _⟩, rfl, HF.out.2⟩
end
end Go.Proofs.YtiednpagknnfnaaGreatDoor
