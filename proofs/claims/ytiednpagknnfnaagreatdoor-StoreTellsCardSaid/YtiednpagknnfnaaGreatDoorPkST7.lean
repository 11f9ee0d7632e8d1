/- The reference's without. The reference's readSet: the text of a right profile is read back. The and so on. -/
import Derived.Test.YtiednpagknnfnaaGreatDoorPkST6
import Derived.Test.YtiednpagknnfnaaGreatDoorPkST2
import Derived.Test.YtiednpagknnfnaaGreatDoorPkST0
set_option linter.unusedVariables false
set_option linter.unusedSimpArgs false
namespace Go.Proofs.YtiednpagknnfnaaGreatDoor
open Go.RowKit
attribute [local irreducible] Calls CallsIn
theorem wo_results (tmps : Array Value) (w : World) {r : Nat} {a b c : Value} {T : TypeId} (hr : tmps.getD 4 undef = .pointer (some ⟨r, 0, none⟩)) (hb : w.heap[r]? = some (.cells #[a, b, c] T (0, 0))) :
    (results Tryz.f109 tmps).run Tryz.prog w = .ok (.agg #[a, b, c]) w := by
  have c0 : w.cell? ⟨r, 0, none⟩ = some a := by rw [cells_cell hb]; rfl
  have c1 : w.cell? ⟨r, 1, none⟩ = some b := by rw [cells_cell hb]; rfl
  have c2 : w.cell? ⟨r, 2, none⟩ = some c := by rw [cells_cell hb]; rfl
  rw [Array.getD_eq_getD_getElem?] at hr
  simp [results, Tryz.results109, go_sem, hr, c0, c1, c2]
theorem withoutC_succ {C : List (Sg.Pf × Value)} {i : Nat} (h : i < C.length) (nm : List UInt8) : withoutC (C.take (i + 1)) nm = withoutC (C.take i) nm ++ (if C[i].1.nm = nm then [] else [C[i]]) := by
  unfold withoutC
  rw [List.take_succ_eq_append_getElem h, List.filter_append]
  congr 1
  by_cases e : C[i].1.nm = nm <;> simp [e]
structure WoI (C : List (Sg.Pf × Value)) (nm : List UInt8) (w5 : World) (q5 : Nat) (tv hv : Value) (i : Nat) (wr : World) : Prop where
  blk : ∃ pv, wr.heap[q5]? = some (.cells #[tv, hv, pv] tSta (0, 0)) ∧ wr.ownsRow w5.heap.size tPf 2 pv (withoutC (C.take i) nm).length (pfL (withoutC (C.take i) nm))
  upd : Upd (fun k => k = q5) w5 wr
section
variable {B : Nat} {P : Nat → Prop} {z : World} {v : SvR} {S : Sg.Sta}
set_option maxHeartbeats 8000000 in
set_option maxRecDepth 100000 in
theorem rWithout_c (hgb : nG ≤ z.heap.size) (hBz : B ≤ z.heap.size) (h : SvAt B P z v S) (nm : List UInt8) :
    Calls Tryz.prog 109 #[v.val, .string ⟨nm.toArray⟩] z fun e z' => ∃ v' : SvR, e = .returned v'.val ∧ SvAt B (fun k => P k ∨ (z.heap.size ≤ k ∧ k < z'.heap.size)) z' v' (Sg.after S (.drop nm)) ∧ (∀ k, v'.blk k → z.heap.size ≤ k) ∧ Nw z z' := by
  obtain ⟨l1, l2, l3, l4⟩ := h.len
  obtain ⟨C, eC, hpo, hit⟩ := h.p
  obtain ⟨tv, hv, pv⟩ := v
  obtain ⟨ta, tc, et⟩ := own_slS h.t
  obtain ⟨ha, hc, eh⟩ := own_slS h.h
  obtain ⟨pa, pc, ep⟩ := own_slS hpo
  dsimp only at et eh ep
  subst et eh ep
  have hlC : C.length = S.pf.length := by rw [eC, List.length_map]
  have n1 := nw_alloc z (.cells #[.slice ta S.tx.length tc, .slice ha S.th.length hc, .slice pa C.length pc] tSta)
  have b1 := heap_new z (.cells #[.slice ta S.tx.length tc, .slice ha S.th.length hc, .slice pa C.length pc] tSta)
  have n2 := nw_alloc (z.alloc (.cells #[.slice ta S.tx.length tc, .slice ha S.th.length hc, .slice pa C.length pc] tSta)) (.cells #[.slice none 0 0, .slice none 0 0, .slice none 0 0] tSta)
  have b2 := heap_new (z.alloc (.cells #[.slice ta S.tx.length tc, .slice ha S.th.length hc, .slice pa C.length pc] tSta)) (.cells #[.slice none 0 0, .slice none 0 0, .slice none 0 0] tSta)
  obtain ⟨w1, hw1⟩ : ∃ y, y = (z.alloc (.cells #[.slice ta S.tx.length tc, .slice ha S.th.length hc, .slice pa C.length pc] tSta)).alloc (.cells #[.slice none 0 0, .slice none 0 0, .slice none 0 0] tSta) := ⟨_, rfl⟩
  have b1' := Nw.keep n2 b1
  have n12 := n1.trans n2
  rw [World.size_alloc] at b2
  rw [← hw1] at n12 b1' b2
  have hs1 : w1.heap.size = z.heap.size + 2 := by rw [hw1, World.size_alloc, World.size_alloc]
  have HCo := Lib.hid (rCopied_c (v := ⟨.slice ta S.tx.length tc, .slice ha S.th.length hc, .slice pa C.length pc⟩) (by omega) (by omega) (h.nw n12))
  have c0 : w1.cell? ⟨z.heap.size, 0, none⟩ = some (.slice ta S.tx.length tc) := by rw [cells_cell b1']; rfl
  have c1 : w1.cell? ⟨z.heap.size, 1, none⟩ = some (.slice ha S.th.length hc) := by rw [cells_cell b1']; rfl
  have c2 : w1.cell? ⟨z.heap.size, 2, none⟩ = some (.slice pa C.length pc) := by rw [cells_cell b1']; rfl
  have HW1 := Lib.hid hw1
  have HN1 := Lib.hid n12
  have HB1 := Lib.hid b1'
  have HB2 := Lib.hid b2
  have H := Lib.hid h
  have HE := Lib.hid eC
  have HPo := Lib.hid hpo
  have HIt := Lib.hid hit
  have hl1 : (C.length : Int) ≤ 1000 := by omega
  clear h n1 b1 n2 b2 b1' n12 hw1 hit hpo eC hlC l4
  unfold SvR.val at *
  go_enter Tryz.func109, Tryz.ntmps109
  go_upto_region 1 with fail
  rw [← HW1.out]
  clear HW1
  go_wp2_with fail
  (with_reducible refine (HCo.out).mono ?_)
  rintro _ w3 ⟨⟨tv', hv', pv'⟩, rfl, hs3, hb3, u3⟩
  obtain ⟨C3, eC3, hpo3, hit3⟩ := hs3.p
  obtain ⟨ta', tc', et⟩ := own_slS hs3.t
  obtain ⟨ha', hc', eh⟩ := own_slS hs3.h
  obtain ⟨pa', pc', ep⟩ := own_slS hpo3
  dsimp only at et eh ep
  subst et eh ep
  have n5 := nw_alloc w3 (.cells #[.slice ta' S.tx.length tc', .slice ha' S.th.length hc', .slice pa' C3.length pc'] tSta)
  have b5 := heap_new w3 (.cells #[.slice ta' S.tx.length tc', .slice ha' S.th.length hc', .slice pa' C3.length pc'] tSta)
  have HS3 := Lib.hid hs3
  have HBk := Lib.hid hb3
  have HU3 := Lib.hid u3
  have hz3 := u3.size
  clear hs3 hb3 u3 hpo3 hit3 HCo c0 c1 c2
  obtain ⟨w4, hw4⟩ : ∃ y, y = w3.alloc (.cells #[.slice ta' S.tx.length tc', .slice ha' S.th.length hc', .slice pa' C3.length pc'] tSta) := ⟨_, rfl⟩
  rw [← hw4] at n5 b5
  have hz4 : w4.heap.size = w3.heap.size + 1 := by rw [hw4, World.size_alloc]
  generalize hq5 : w3.heap.size = q5 at *
  have d2 : w4.cell? ⟨q5, 2, none⟩ = some (.slice pa' C3.length pc') := by rw [cells_cell b5]; rfl
  have f2 := cells_frozen b5 2
  have b5' := setCell_block b5 2 (.slice none 0 0)
  have u5 := Upd.set1 (Upd.refl _ w4) (b := q5) (by omega) 2 (.slice none 0 0)
  have HW4 := Lib.hid hw4
  clear hw4
  go_upto_region 2 with fail
  rw [← HW4.out]
  clear HW4
  go_upto_region 3 with fail
  obtain ⟨w5, hw5⟩ : ∃ y, y = w4.setCell ⟨q5, 2, none⟩ (.slice none 0 0) := ⟨_, rfl⟩
  rw [← hw5] at b5' u5 ⊢
  have hz5 := u5.size
  have HN5 := Lib.hid (Nw.upd' (HN1.out.trans (HU3.out.trans n5)) u5 (fun k hk => by omega))
  have HN35 := Lib.hid (Nw.upd' n5 u5 (fun k hk => by omega))
  have HI0 := Lib.hid (show WoI C nm w5 q5 (.slice ta' S.tx.length tc') (.slice ha' S.th.length hc') 0 w5 from ⟨⟨_, b5', World.ownsRow_nil _ _ _ _⟩, Upd.refl _ _⟩)
  clear hw5 b5 b5' u5 n5 d2 f2
  go_wp2_with fail
  go_loopw [6] (fun iv wr => ∃ i : Nat, i ≤ C.length ∧ iv = .int .i64 (i : Int) ∧ Hid (WoI C nm w5 q5 (.slice ta' S.tx.length tc') (.slice ha' S.th.length hc') i wr)) (fun iv _ => C.length - (intOf iv).toNat)
  case atStart => exact ⟨0, Nat.zero_le _, rfl, HI0⟩
  case round =>
    obtain ⟨i, hi, rfl, hI⟩ := hrel
    obtain ⟨⟨pvi, hblk, hrow⟩, hup⟩ := hI.out
    obtain ⟨pai, pci, rfl⟩ := own_slS hrow
    have hNr : Nw z wr := Nw.upd' HN5.out hup (fun k hk => by omega)
    have hzr := hup.size
    have HNr := Lib.hid hNr
    have HUp := Lib.hid hup
    have HBlk := Lib.hid hblk
    have HRow := Lib.hid hrow
    have x2 : wr.cell? ⟨z.heap.size, 2, none⟩ = some (.slice pa C.length pc) := by
      rw [cells_cell (Nw.keep (Nw.upd' (HU3.out.trans HN35.out) hup (fun k hk => by omega)) HB1.out)]; rfl
    clear hI hblk hrow hup hNr
    by_cases hlt : i < C.length
    · have hpo := HPo.out
      rcases hpo.2 with ⟨e, hn⟩ | ⟨pb, cap', cur, e, _⟩
      · omega
      cases e
      obtain ⟨p0, p1⟩ := pf_cells hpo i hlt
      have y0 := nw_cellS HNr.out p0
      have y1 := nw_cellS HNr.out p1
      have hsu := withoutC_succ hlt nm
      obtain ⟨ia, ic, hiv⟩ := own_slS (HIt.out _ (List.getElem_mem hlt)).1
      rw [hiv] at y1
      have HSu := Lib.hid hsu
      have HLt := Lib.hid hlt
      have HIv := Lib.hid hiv
      clear hpo p0 p1 hsu hiv
      generalize hci : C[i] = ci at *
      obtain ⟨⟨cn, cits⟩, cv⟩ := ci
      dsimp only at *
      cases hbt : (cn == nm) with
      | true =>
        have he : cn = nm := beq_iff_eq.1 hbt
        have hR : Hid (WoI C nm w5 q5 (.slice ta' S.tx.length tc') (.slice ha' S.th.length hc') (i + 1) wr) := by
          have e1 : withoutC (C.take (i + 1)) nm = withoutC (C.take i) nm := by rw [HSu.out, if_pos he, List.append_nil]
          exact ⟨⟨_, HBlk.out, by rw [e1]; exact HRow.out⟩, HUp.out⟩
        clear he
        go_wp2_with fail
        go_roundw
        case rel => exact ⟨i + 1, HLt.out, by simp, hR⟩
        case measure =>
          have := HLt.out
          simp only [intOf]
          omega
      | false =>
        have hne : ¬ cn = nm := fun e => by rw [e] at hbt; simp at hbt
        have e1 : withoutC (C.take (i + 1)) nm = withoutC (C.take i) nm ++ [(⟨cn, cits⟩, cv)] := by rw [HSu.out, if_neg hne]
        have HE1 := Lib.hid e1
        have hlw : (withoutC (C.take i) nm).length ≤ 1000 := by
          have h1 := List.length_filter_le (fun q : Sg.Pf × Value => !decide (q.1.nm = nm)) (C.take i)
          rw [List.length_take] at h1
          unfold withoutC
          omega
        obtain ⟨wd, hwd, nd⟩ := nw_drew wr
        have hzd := nd.size
        have HWd := Lib.hid hwd
        have hq5r : q5 < wr.heap.size := by omega
        have HSS := Lib.hid (show ∀ y, Upd (fun k => w5.heap.size ≤ k) wd y → (y.cell? ⟨q5, 2, none⟩ = some (.slice pai (withoutC (C.take i) nm).length pci) ∧ y.cell? ⟨z.heap.size, 2, none⟩ = some (.slice (some ⟨pb, 0, none⟩) C.length pc) ∧ y.cell? ⟨pb, i * 2, none⟩ = some (.string ⟨cn.toArray⟩) ∧ y.cell? ⟨pb, i * 2 + 1, none⟩ = some (.slice ia cits.length ic) ∧ True ∧ True ∧ True) from fun y u => by
          have hb := u.keep (nd.keep HBlk.out) (show ¬ w5.heap.size ≤ q5 by omega)
          have hpz := (HPo.out.lt pb rfl).2
          have hbz := u.block z.heap.size (by omega) (Or.inr (show ¬ w5.heap.size ≤ z.heap.size by omega))
          have hbp := u.block pb (by omega) (Or.inr (show ¬ w5.heap.size ≤ pb by omega))
          exact ⟨by rw [cells_cell hb]; rfl, by rw [World.cell?_of_block hbz]; exact nw_cellS nd x2, by rw [World.cell?_of_block hbp]; exact nw_cellS nd y0, by rw [World.cell?_of_block hbp]; exact nw_cellS nd y1, trivial, trivial, trivial⟩)
        have HR0 := Lib.hid (owns_upd' HRow.out nd (fun _ _ e => e))
        have HBd := Lib.hid (nd.keep HBlk.out)
        have HUd := Lib.hid (HUp.out.nw nd)
        clear hne e1 hwd nd
        generalize hln : (withoutC (C.take i) nm).length = ln at *
        go_upto_region 7 with fail
        clear x2 y0 y1
        refine wp_region_G (fun y => y.cell? ⟨q5, 2, none⟩ = some (.slice pai ln pci) ∧ y.cell? ⟨z.heap.size, 2, none⟩ = some (.slice (some ⟨pb, 0, none⟩) C.length pc) ∧ y.cell? ⟨pb, i * 2, none⟩ = some (.string ⟨cn.toArray⟩) ∧ y.cell? ⟨pb, i * 2 + 1, none⟩ = some (.slice ia cits.length ic) ∧ True ∧ True ∧ True) 10 (by kernel_rfl) ?_
        rw [HWd.out]
        clear HWd
        refine wpAnyG_pure (i := 0) (v := ?_) rfl (by kernel_rfl) (by kernel_rfl) (by kernel_rfl) (by kernel_rfl) (by kernel_rfl) (fun _ _ _ h => h) (by rfl) ?_ (fun _ => HSS.out _ (Upd.refl _ _)) ?_
        rotate_left 1
        · (intro zz; go_simp; first | done | with_reducible rfl)
        (try simp only [Act.put, List.setIfInBounds_toArray, List.set_cons_zero, List.set_cons_succ])
        refine wpAnyG_pure (i := 2) (v := ?_) rfl (by kernel_rfl) (by kernel_rfl) (by kernel_rfl) (by kernel_rfl) (by kernel_rfl) (fun _ _ _ h => h) (by rfl) ?_ (fun _ => HSS.out _ (Upd.refl _ _)) ?_
        rotate_left 1
        · (intro zz; go_simp; first | done | with_reducible rfl)
        (try simp only [Act.put, List.setIfInBounds_toArray, List.set_cons_zero, List.set_cons_succ])
        refine wpAnyG_pure (i := 4) (v := ?_) rfl (by kernel_rfl) (by kernel_rfl) (by kernel_rfl) (by kernel_rfl) (by kernel_rfl) (fun _ _ _ h => h) (by rfl) ?_ (fun _ => HSS.out _ (Upd.refl _ _)) ?_
        rotate_left 1
        · (intro zz; go_simp; first | done | with_reducible rfl)
        (try simp only [Act.put, List.setIfInBounds_toArray, List.set_cons_zero, List.set_cons_succ])
        refine wpAnyG_load (i := 1) (v := ?_) [] rfl (by kernel_rfl) (by kernel_rfl) (by kernel_rfl) (by kernel_rfl) (by kernel_rfl) (by kernel_rfl) (fun _ _ _ h => h) (by rfl) ?_ (fun _ => HSS.out _ (Upd.refl _ _)) ?_
        rotate_left 1
        · (intro zz hS; obtain ⟨_, _, _, _, _, _, _⟩ := hS; go_simp; first | done | with_reducible rfl)
        (try simp only [Act.put, List.setIfInBounds_toArray, List.set_cons_zero, List.set_cons_succ])
        refine wpAnyG_load (i := 3) (v := ?_) [] rfl (by kernel_rfl) (by kernel_rfl) (by kernel_rfl) (by kernel_rfl) (by kernel_rfl) (by kernel_rfl) (fun _ _ _ h => h) (by rfl) ?_ (fun _ => HSS.out _ (Upd.refl _ _)) ?_
        rotate_left 1
        · (intro zz hS; obtain ⟨_, _, _, _, _, _, _⟩ := hS; go_simp; first | done | with_reducible rfl)
        (try simp only [Act.put, List.setIfInBounds_toArray, List.set_cons_zero, List.set_cons_succ])
        refine wpAnyG_pure (i := 5) (v := ?_) rfl (by kernel_rfl) (by kernel_rfl) (by kernel_rfl) (by kernel_rfl) (by kernel_rfl) (fun _ _ _ h => h) (by rfl) ?_ (fun _ => HSS.out _ (Upd.refl _ _)) ?_
        rotate_left 1
        · (intro zz; go_simp; first | done | with_reducible rfl)
        (try simp only [Act.put, List.setIfInBounds_toArray, List.set_cons_zero, List.set_cons_succ])
        refine wpAnyG_load (i := 6) (v := ?_) [] rfl (by kernel_rfl) (by kernel_rfl) (by kernel_rfl) (by kernel_rfl) (by kernel_rfl) (by kernel_rfl) (fun _ _ _ h => h) (by rfl) ?_ (fun _ => HSS.out _ (Upd.refl _ _)) ?_
        rotate_left 1
        · (intro zz hS; obtain ⟨_, _, _, _, _, _, _⟩ := hS; go_simp; first | done | with_reducible rfl)
        (try simp only [Act.put, List.setIfInBounds_toArray, List.set_cons_zero, List.set_cons_succ])
        refine wpAnyG_ready [7] (by kernel_rfl) (by simp) ?_
        refine AllG.cons rfl (fun K hK => ?_) AllG.nil
        have n6 := nw_alloc wd (.cells #[.string ⟨cn.toArray⟩, .slice ia cits.length ic] tPf)
        have b6 := heap_new wd (.cells #[.string ⟨cn.toArray⟩, .slice ia cits.length ic] tPf)
        go_simp
        obtain ⟨w6, hw6⟩ : ∃ y, y = wd.alloc (.cells #[.string ⟨cn.toArray⟩, .slice ia cits.length ic] tPf) := ⟨_, rfl⟩
        rw [← hw6] at n6 b6
        have HW6 := Lib.hid hw6
        clear hw6
        rw [← HW6.out]
        have HN6 := Lib.hid n6
        have HB6 := Lib.hid b6
        refine hK.out _ _ (fun _ => HSS.out _ (Nw.upd _ HN6.out)) ?_
        clear hK K n6 b6 HW6
        (try simp only [Act.put, List.setIfInBounds_toArray, List.set_cons_zero, List.set_cons_succ])
        refine wpAnyG_ready [8] (by kernel_rfl) (by simp) ?_
        refine AllG.cons rfl (fun K hK => ?_) AllG.nil
        have HR6 := Lib.hid (owns_upd' HR0.out HN6.out (fun _ _ e => e))
        have hz6 := HN6.out.size
        have HLn : Hid (ln ≤ 1000) := hlw
        refine step_catC rfl _ _ 40 rfl tPf _ 2 40 Tryz.underlying40 infoPfS rfl (by decide) w5.heap.size (by omega) (by omega) _ ln _ rfl HR6.out ⟨wd.heap.size, 0, none⟩ 1 1 [.string ⟨cn.toArray⟩, .slice ia cits.length ic] rfl rfl (World.news_of_block (cs := #[.string ⟨cn.toArray⟩, .slice ia cits.length ic]) (t := tPf) (fr := (0, 0)) HB6.out) (by intro u hu; simp at hu; rcases hu with rfl | rfl <;> rfl) (by omega) (by have := HLn.out; unfold maxLen; omega) (by have := HLn.out; omega) ?_
        intro g7 cap7 w7 o7 u7 k7
        have hs7 : Upd (fun k => w5.heap.size ≤ k) wd w7 := (Nw.upd _ HN6.out).trans (u7.mono (fun k _ hk => (HR6.out.lt k hk).1))
        have HU7 := Lib.hid hs7
        have HB7 := Lib.hid (hs7.keep HBd.out (show ¬ w5.heap.size ≤ q5 by omega))
        have HO7 := Lib.hid o7
        refine hK.out _ _ (fun _ => HSS.out _ HU7.out) ?_
        clear hK K o7 u7 k7 hs7 HR6
        (try simp only [Act.put, List.setIfInBounds_toArray, List.set_cons_zero, List.set_cons_succ])
        refine wpAnyG_pure (i := 9) (v := ?_) rfl (by kernel_rfl) (by kernel_rfl) (by kernel_rfl) (by kernel_rfl) (by kernel_rfl) (fun _ _ _ h => h) (by rfl) ?_ (fun _ => HSS.out _ HU7.out) ?_
        rotate_left 1
        · (intro zz; go_simp; first | done | with_reducible rfl)
        (try simp only [Act.put, List.setIfInBounds_toArray, List.set_cons_zero, List.set_cons_succ])
        refine wpAnyG_ready [10] (by kernel_rfl) (by simp) ?_
        refine AllG.cons rfl (fun K hK => ?_) AllG.nil
        have d2 : w7.cell? ⟨q5, 2, none⟩ = some (.slice pai ln pci) := by rw [cells_cell HB7.out]; rfl
        have f2 := cells_frozen HB7.out 2
        have u8 := Upd.set1 (Upd.refl _ w7) (b := q5) (by omega) 2 (.slice (some ⟨g7, 0, none⟩) (ln + 1) cap7)
        have hR : Hid (WoI C nm w5 q5 (.slice ta' S.tx.length tc') (.slice ha' S.th.length hc') (i + 1) (w7.setCell ⟨q5, 2, none⟩ (.slice (some ⟨g7, 0, none⟩) (ln + 1) cap7))) := by
          refine ⟨⟨_, setCell_block HB7.out 2 _, ?_⟩, ((HUd.out.trans' HU7.out (fun k hk e => by omega)).trans u8)⟩
          rw [HE1.out, pfL_snoc, List.length_append, hln, show pfC (⟨cn, cits⟩, cv) = [.string ⟨cn.toArray⟩, .slice ia cits.length ic] by show [bsV cn, cv] = _; rw [HIv.out]; rfl]
          exact owns_upd' HO7.out u8 (fun k hk e => by have := (HO7.out.lt k hk).1; omega)
        clear u8
        go_simp
        refine hK.out _ _ (fun e => absurd (show true = false from e) (by decide)) ?_
        clear hK K d2 f2
        (try simp only [Act.put, List.setIfInBounds_toArray, List.set_cons_zero, List.set_cons_succ])
        refine wpAnyG_done (by kernel_rfl) ?_ _
        go_wp2_with fail
        go_roundw
        case rel => exact ⟨i + 1, HLt.out, by simp, hR⟩
        case measure =>
          have := HLt.out
          simp only [intOf]
          omega
    · obtain hke : i = C.length := by omega
      have hrw := HRow.out
      rw [hke, List.take_length] at hrw
      have hbk := HBlk.out
      rw [hke, List.take_length] at hbk
      have HRw := Lib.hid hrw
      have hb2 := Nw.keep (Nw.upd' (HU3.out.trans HN35.out) HUp.out (fun k hk => by omega)) HB2.out
      have e0 : wr.cell? ⟨q5, 0, none⟩ = some (.slice ta' S.tx.length tc') := by rw [cells_cell hbk]; rfl
      have e1 : wr.cell? ⟨q5, 1, none⟩ = some (.slice ha' S.th.length hc') := by rw [cells_cell hbk]; rfl
      have e2 : wr.cell? ⟨q5, 2, none⟩ = some (.slice pai (withoutC C nm).length pci) := by rw [cells_cell hbk]; rfl
      have r0 : wr.cell? ⟨z.heap.size + 1, 0, none⟩ = some (.slice none 0 0) := by rw [cells_cell hb2]; rfl
      have r1 : wr.cell? ⟨z.heap.size + 1, 1, none⟩ = some (.slice none 0 0) := by rw [cells_cell hb2]; rfl
      have r2 : wr.cell? ⟨z.heap.size + 1, 2, none⟩ = some (.slice none 0 0) := by rw [cells_cell hb2]; rfl
      have f0 := cells_frozen hb2 0
      have f1 := cells_frozen hb2 1
      have f2 := cells_frozen hb2 2
      have hbf := setCell_block (setCell_block (setCell_block hb2 0 (.slice ta' S.tx.length tc')) 1 (.slice ha' S.th.length hc')) 2 (.slice pai (withoutC C nm).length pci)
      have uf := Upd.set1 (Upd.set1 (Upd.set1 (Upd.refl _ wr) (b := z.heap.size + 1) (by omega) 0 (.slice ta' S.tx.length tc')) (b := z.heap.size + 1) (by omega) 1 (.slice ha' S.th.length hc')) (b := z.heap.size + 1) (by omega) 2 (.slice pai (withoutC C nm).length pci)
      have HBf := Lib.hid hbf
      have HUf := Lib.hid uf
      rw [hke]
      clear hrw hbk hb2 hbf uf hke hlt hi
      go_wp2_with fail
      refine bodyPost_ret (wo_results _ _ (by simp) HBf.out) rfl ⟨⟨_, _, _⟩, rfl, ?_, ?_, Nw.upd' HNr.out HUf.out (fun k hk => by omega)⟩
      · have hsf := HUf.out.size
        have U3f : Upd (fun k => k = q5 ∨ k = z.heap.size + 1) w3 _ := ((Nw.upd _ HN35.out).trans (HUp.out.mono (fun k _ e => Or.inl e))).trans (HUf.out.mono (fun k _ e => Or.inr e))
        have hbk3 := HBk.out
        have hlo : ∀ k, (Value.slice ta' S.tx.length tc').ownBlock = some k ∨ (Value.slice ha' S.th.length hc').ownBlock = some k → z.heap.size + 2 ≤ k ∧ k < q5 := fun k hk => by
          refine ⟨by have := hbk3 k (by rcases hk with hk | hk; exact Or.inl hk; exact Or.inr (Or.inl hk)); omega, ?_⟩
          rcases hk with hk | hk
          · exact hq5 ▸ (HS3.out.t.lt k hk).2
          · exact hq5 ▸ (HS3.out.h.lt k hk).2
        have hrwlt := HRw.out.lt
        refine ⟨H.out.g.after trivial, ?_, H.out.tl, owns_upd' HS3.out.t U3f (fun k hk e => by have := hlo k (Or.inl hk); omega), owns_upd' HS3.out.h U3f (fun k hk e => by have := hlo k (Or.inr hk); omega), ⟨withoutC C nm, ?_, ownsRow_base_a (owns_upd' HRw.out HUf.out (fun k hk e => by have := hrwlt k hk; omega)) (by omega), fun q hq => ?_⟩, fun k hk => Or.inr ?_⟩
        · have h1 := H.out.big
          have h2 := List.length_filter_le (fun p : Sg.Pf => !decide (p.nm = nm)) S.pf
          unfold Sg.big at h1 ⊢
          show S.th.length + (Sg.without S.pf nm).length ≤ 1000
          unfold Sg.without
          omega
        · rw [withoutC_map, ← HE.out]; rfl
        · have := HIt.out q (mem_withoutC.1 hq).1
          exact (this.upd (Nw.upd' HNr.out HUf.out (fun k hk => by omega)) (fun _ _ e => e)).mono (fun k _ hk => Or.inl hk)
        · rcases hk with hk | hk | hk
          · have := hlo k (Or.inl hk); omega
          · have := hlo k (Or.inr hk); omega
          · have := hrwlt k hk; omega
      · intro k hk
        rcases hk with hk | hk | hk
        · have := HBk.out k (Or.inl hk); omega
        · have := HBk.out k (Or.inr (Or.inl hk)); omega
        · have := HRw.out.lt k hk; omega
end
end Go.Proofs.YtiednpagknnfnaaGreatDoor
namespace Go.Proofs.YtiednpagknnfnaaGreatDoor
open Go.RowKit
open Sg (itsE itE pfE)
open Wire (textE numE rText rNum)
attribute [local irreducible] Calls CallsIn
theorem rq_text {b : Nat} {s r : List UInt8} {w : World} (h : Rdr tQ w b (some (textE s ++ r))) (hs : s.length ≤ 1000000) (hl : (textE s ++ r).length ≤ 1000000000) :
    Calls Tryz.prog 103 #[.pointer (some ⟨b, 0, none⟩)] w fun e w' => e = .returned (.string ⟨s.toArray⟩) ∧ Rdr tQ w' b (some r) ∧ Upd (· = b) w w' := by
  have := TextQ b _ w h (by simp only [Option.getD_some]; omega)
  rwa [Wire.rText_back (s := s) (r := r) (by omega)] at this
theorem rq_num {b : Nat} {n : Int} {r : List UInt8} {w : World} (h : Rdr tQ w b (some (numE n ++ r))) (hn : I64 n) (h0 : 0 ≤ n) (hl : (numE n ++ r).length ≤ 1000000000) :
    Calls Tryz.prog 104 #[.pointer (some ⟨b, 0, none⟩)] w fun e w' => e = .returned (.int .i64 n) ∧ Rdr tQ w' b (some r) ∧ Upd (· = b) w w' := by
  have := NumQ b _ w h (by simp only [Option.getD_some]; omega)
  rwa [Wire.rNum_back (n := n) (r := r) hn h0] at this
structure RdI (z : World) (b q : Nat) (p : Sg.Pf) (k : Nat) (wr : World) : Prop where
  rdr : Rdr tQ wr b (some (itsE (p.its.drop k)))
  box : ∃ v, wr.heap[q]? = some (.cells #[.string ⟨p.nm.toArray⟩, v] tPf (0, 0)) ∧ wr.ownsRow (q + 1) tPl 5 v k (itL (p.its.take k))
  res : wr.heap[z.heap.size]? = some (.cells #[.string ⟨#[]⟩, .slice none 0 0] tPf (0, 0))
  upd : Nw z wr
  ord : z.heap.size < b ∧ b < q ∧ q < wr.heap.size
theorem rs_results (tmps : Array Value) (w : World) {r : Nat} {s : ByteArray} {nv : Value} {T : TypeId} (hr : tmps.getD 2 undef = .pointer (some ⟨r, 0, none⟩)) (hb : w.heap[r]? = some (.cells #[.string s, nv] T (0, 0))) :
    (results Tryz.f108 tmps).run Tryz.prog w = .ok (.agg #[.string s, nv]) w := by
  have c0 : w.cell? ⟨r, 0, none⟩ = some (.string s) := by rw [cells_cell hb]; rfl
  have c1 : w.cell? ⟨r, 1, none⟩ = some nv := by rw [cells_cell hb]; rfl
  rw [Array.getD_eq_getD_getElem?] at hr
  simp [results, Tryz.results108, go_sem, hr, c0, c1]
set_option maxHeartbeats 4000000 in
set_option maxRecDepth 100000 in
theorem readSet_c {p : Sg.Pf} {z : World} (g : Gl z) (hn : p.nm.length ≤ 100) (hl : p.its.length ≤ 60) (hx : ∀ x ∈ p.its, ItOk x) :
    Calls Tryz.prog 108 #[.string ⟨(115 :: pfE p).toArray⟩] z fun e z' => ∃ v, e = .returned (.agg #[.string ⟨p.nm.toArray⟩, v]) ∧ ItsAt z.heap.size (fun k => z.heap.size ≤ k ∧ k < z'.heap.size) z' v p.its ∧ Nw z z' := by
  have hgb := g.big
  have hE := itsE_len hx
  have hE2 : (itsE p.its).length ≤ 18000 := by omega
  have hT := Fm.textE_len p.nm (by omega)
  have hN := Fm.num_len (n := (p.its.length : Int)) (by constructor <;> omega)
  have hP : (pfE p).length ≤ 20000 := by unfold pfE; simp only [List.length_append]; omega
  have hN2 : (numE (p.its.length : Int) ++ itsE p.its).length ≤ 20000 := by simp only [List.length_append]; omega
  have n1 := nw_alloc z (.cells #[.string ⟨#[]⟩, .slice none 0 0] tPf)
  have b1 := heap_new z (.cells #[.string ⟨#[]⟩, .slice none 0 0] tPf)
  have HO := Lib.hid (OpenQ ⟨(pfE p).toArray⟩ (pfE p) (bs_list _) _ (g.upd n1))
  have htail := op_tail 115 (pfE p)
  have HG := Lib.hid g
  have HB1 := Lib.hid b1
  have HX := Lib.hid hx
  have HS := Lib.hid (And.intro hP (And.intro hN2 hE2))
  have HL := Lib.hid (And.intro hn hl)
  have hl1 : (p.its.length : Int) ≤ 60 := by omega
  clear g hx hE hE2 hT hN hP hN2 hn hl b1
  generalize (⟨(115 :: pfE p).toArray⟩ : ByteArray) = op at *
  generalize (⟨(pfE p).toArray⟩ : ByteArray) = ot at *
  go_enter Tryz.func108, Tryz.ntmps108
  go_wp2_with fail
  (with_reducible refine (HO.out).mono ?_)
  rintro _ w1 ⟨b, rfl, hb, hr1, u1⟩
  clear HO htail
  rw [World.size_alloc] at hb
  have HR1 := Lib.hid hr1
  have HN1 := Lib.hid (n1.trans u1)
  have HB2 := Lib.hid (u1.keep HB1.out)
  have HT := Lib.hid (rq_text (s := p.nm) (r := numE (p.its.length : Int) ++ itsE p.its) hr1 (by have := HL.out.1; omega) (by have := HS.out.1; unfold pfE at this; omega))
  clear n1 u1 hr1 HB1
  go_wp2_with fail
  (with_reducible refine (HT.out).mono ?_)
  rintro _ w2 ⟨rfl, hr2, u2⟩
  clear HT
  have n3 := nw_alloc w2 (.cells #[.string ⟨p.nm.toArray⟩, .slice none 0 0] tPf)
  have b3 := heap_new w2 (.cells #[.string ⟨p.nm.toArray⟩, .slice none 0 0] tPf)
  have hbl := hr2.lt
  have N2 : Nw z w2 := HN1.out.trans' u2 (fun k hk e => by omega)
  have hb2 := u2.keep HB2.out (show ¬ z.heap.size = b by omega)
  have HNm := Lib.hid (rq_num (n := (p.its.length : Int)) (r := itsE p.its) (hr2.nw n3) (by have := HL.out.2; unfold I64; omega) (by omega) (by have := HS.out.2.1; omega))
  have HR2 := Lib.hid hr2
  have HN3 := Lib.hid (N2.trans n3)
  have HB3 := Lib.hid b3
  have HB4 := Lib.hid (n3.keep hb2)
  have hgs : z.heap.size < b ∧ b < w2.heap.size := ⟨by omega, hbl⟩
  generalize hq : w2.heap.size = q at *
  clear n3 b3 N2 hb2 hr2 u2 HB2 HN1 HR1
  go_wp2_with fail
  (with_reducible refine (HNm.out).mono ?_)
  rintro _ w3 ⟨rfl, hr3, u3⟩
  clear HNm
  have hs3 := u3.size
  rw [World.size_alloc, hq] at hs3
  have HD0 := Lib.hid (show RdI z b q p 0 w3 from ⟨hr3, ⟨_, u3.keep HB3.out (by omega), World.ownsRow_nil _ _ _ _⟩, u3.keep HB4.out (by omega), HN3.out.trans' u3 (fun k hk e => by omega), hgs.1, hgs.2, by omega⟩)
  clear hr3 u3 HN3 HB3 HB4 HR2 hs3
  go_wp2_with fail
  go_loopw [6] (fun iv wr => ∃ k : Nat, k ≤ p.its.length ∧ iv = .int .i64 (k : Int) ∧ Hid (RdI z b q p k wr)) (fun iv _ => p.its.length - (intOf iv).toNat)
  case atStart => exact ⟨0, Nat.zero_le _, rfl, HD0⟩
  case round =>
    obtain ⟨k, hk, rfl, hd⟩ := hrel
    obtain ⟨o1, o2, o3⟩ := hd.out.ord
    by_cases hlt : k < p.its.length
    · have hdr : p.its.drop k = p.its[k] :: p.its.drop (k + 1) := List.drop_eq_getElem_cons hlt
      have hrd := hd.out.rdr
      rw [hdr, itsE_cons] at hrd
      have hok := HX.out _ (List.getElem_mem hlt)
      obtain ⟨bv, hbox, hown⟩ := hd.out.box
      have hlen : (textE p.its[k].nm ++ (numE p.its[k].a ++ (numE p.its[k].b ++ (numE p.its[k].c ++ (numE p.its[k].pr ++ itsE (p.its.drop (k + 1))))))).length ≤ 20000 := by
        rw [← itsE_cons, ← hdr]
        have h1 := itsE_len (fun x hx => HX.out x (List.mem_of_mem_drop hx)) (l := p.its.drop k)
        have h2 := HL.out.2
        rw [List.length_drop] at h1
        have : (p.its.length - k) * 300 ≤ 60 * 300 := Nat.mul_le_mul_right _ (by omega)
        omega
      have htk : itL (p.its.take (k + 1)) = itL (p.its.take k) ++ itC p.its[k] := by
        unfold itL
        rw [List.take_succ_eq_append_getElem hlt, List.map_append, List.flatten_append]
        simp
      have hpos : 0 < (textE p.its[k].nm ++ (numE p.its[k].a ++ (numE p.its[k].b ++ (numE p.its[k].c ++ (numE p.its[k].pr ++ itsE (p.its.drop (k + 1))))))).length := by
        unfold textE
        simp only [List.length_append, List.length_cons]
        omega
      generalize p.its[k] = it at *
      generalize hrest : itsE (p.its.drop (k + 1)) = rest at *
      have HRest := Lib.hid hrest
      obtain ⟨inm, ia, ib, ic, ipr⟩ := it
      dsimp only at *
      obtain ⟨lm, hlm, hLf⟩ : ∃ lm : Int, 0 < lm ∧ Calls Tryz.prog 102 #[.pointer (some ⟨b, 0, none⟩)] wr fun e w' => e = .returned (.int .i64 lm) ∧ wr = w' := ⟨_, by simp only [Option.getD_some]; omega, LeftQ b _ _ hrd⟩
      have HLf := Lib.hid hLf
      have HT := Lib.hid (rq_text hrd (by have := hok.nm; dsimp only at this; omega) (by omega))
      have HOk := Lib.hid hok
      have HHd := Lib.hid hd.out
      have HBox := Lib.hid hbox
      have HOwn := Lib.hid hown
      have HTk := Lib.hid htk
      have HLen := Lib.hid hlen
      have HDr := Lib.hid hdr
      have hk1 : (k : Int) < p.its.length := by omega
      clear hd hrd hok hbox hown htk hlen hdr hpos HD0 hLf hrest
      go_upto_region 7 with (first | (go_at_call 102; with_reducible refine HLf.out.mono ?_; rintro _ _ ⟨rfl, rfl⟩))
      clear HLf
      go_wp2_with fail
      (with_reducible refine (HT.out).mono ?_)
      rintro _ w4 ⟨rfl, hr4, u4⟩
      clear HT
      have n5 := nw_alloc w4 (.cells #[.string ⟨inm.toArray⟩, .int .i64 0, .int .i64 0, .int .i64 0, .int .i64 0] tPl)
      have b5 := heap_new w4 (.cells #[.string ⟨inm.toArray⟩, .int .i64 0, .int .i64 0, .int .i64 0, .int .i64 0] tPl)
      have U4 := Lib.hid u4
      have hs4 := u4.size
      have hr5 := hr4.nw n5
      obtain ⟨w5, hw5⟩ : ∃ y, y = w4.alloc (.cells #[.string ⟨inm.toArray⟩, .int .i64 0, .int .i64 0, .int .i64 0, .int .i64 0] tPl) := ⟨_, rfl⟩
      have hs5 : w5.heap.size = w4.heap.size + 1 := by rw [hw5, World.size_alloc]
      rw [← hw5] at n5 b5 hr5
      have HW5 := Lib.hid hw5
      have HXB := Lib.hid b5
      have HN5 := Lib.hid n5
      have HRd := Lib.hid hr5
      have HUx : Hid (Upd (fun j => j = b ∨ j = w4.heap.size) w5 w5) := Upd.refl _ _
      clear u4 hr4 n5 b5 hr5 hw5
      go_upto_region 8 with fail
      rw [← HW5.out]
      clear HW5
      have HNm := Lib.hid (rq_num HRd.out (n := ia) (by have := HOk.out.a; dsimp only at this; unfold I64; omega) HOk.out.a.1 (by have := HLen.out; simp only [List.length_append] at this ⊢; omega))
      clear HRd
      go_wp2_with fail
      (with_reducible refine (HNm.out).mono ?_)
      rintro _ wn ⟨rfl, hrn, un⟩
      clear HNm
      have hbn := un.keep HXB.out (by omega)
      have xc : wn.cell? ⟨w4.heap.size, 1, none⟩ = some (.int .i64 0) := by rw [cells_cell hbn]; rfl
      have fc := cells_frozen hbn 1
      have hbn' := setCell_block hbn 1 (.int .i64 ia)
      have us := Upd.set1 (Upd.refl _ wn) (b := w4.heap.size) (by omega) 1 (.int .i64 ia)
      have hrn' := hrn.upd us (by omega)
      have hun := (HUx.out.trans (un.mono (fun k _ e => Or.inl e))).trans (us.mono (fun k _ e => Or.inr e))
      go_upto_region 9 with fail
      obtain ⟨wm, hwm⟩ : ∃ y, y = wn.setCell ⟨w4.heap.size, 1, none⟩ (.int .i64 ia) := ⟨_, rfl⟩
      rw [← hwm] at hbn' us hrn' hun ⊢
      clear HXB HUx
      have HXB := Lib.hid hbn'
      have HRd := Lib.hid hrn'
      have HUx := Lib.hid hun
      clear hwm hbn hbn' us hrn hrn' hun un xc fc
      have HNm := Lib.hid (rq_num HRd.out (n := ib) (by have := HOk.out.b; dsimp only at this; unfold I64; omega) HOk.out.b.1 (by have := HLen.out; simp only [List.length_append] at this ⊢; omega))
      clear HRd
      go_wp2_with fail
      (with_reducible refine (HNm.out).mono ?_)
      rintro _ wn ⟨rfl, hrn, un⟩
      clear HNm
      have hbn := un.keep HXB.out (by omega)
      have xc : wn.cell? ⟨w4.heap.size, 2, none⟩ = some (.int .i64 0) := by rw [cells_cell hbn]; rfl
      have fc := cells_frozen hbn 2
      have hbn' := setCell_block hbn 2 (.int .i64 ib)
      have us := Upd.set1 (Upd.refl _ wn) (b := w4.heap.size) (by omega) 2 (.int .i64 ib)
      have hrn' := hrn.upd us (by omega)
      have hun := (HUx.out.trans (un.mono (fun k _ e => Or.inl e))).trans (us.mono (fun k _ e => Or.inr e))
      go_upto_region 10 with fail
      obtain ⟨wm, hwm⟩ : ∃ y, y = wn.setCell ⟨w4.heap.size, 2, none⟩ (.int .i64 ib) := ⟨_, rfl⟩
      rw [← hwm] at hbn' us hrn' hun ⊢
      clear HXB HUx
      have HXB := Lib.hid hbn'
      have HRd := Lib.hid hrn'
      have HUx := Lib.hid hun
      clear hwm hbn hbn' us hrn hrn' hun un xc fc
      have HNm := Lib.hid (rq_num HRd.out (n := ic) (by have := HOk.out.c; dsimp only at this; unfold I64; omega) HOk.out.c.1 (by have := HLen.out; simp only [List.length_append] at this ⊢; omega))
      clear HRd
      go_wp2_with fail
      (with_reducible refine (HNm.out).mono ?_)
      rintro _ wn ⟨rfl, hrn, un⟩
      clear HNm
      have hbn := un.keep HXB.out (by omega)
      have xc : wn.cell? ⟨w4.heap.size, 3, none⟩ = some (.int .i64 0) := by rw [cells_cell hbn]; rfl
      have fc := cells_frozen hbn 3
      have hbn' := setCell_block hbn 3 (.int .i64 ic)
      have us := Upd.set1 (Upd.refl _ wn) (b := w4.heap.size) (by omega) 3 (.int .i64 ic)
      have hrn' := hrn.upd us (by omega)
      have hun := (HUx.out.trans (un.mono (fun k _ e => Or.inl e))).trans (us.mono (fun k _ e => Or.inr e))
      go_upto_region 11 with fail
      obtain ⟨wm, hwm⟩ : ∃ y, y = wn.setCell ⟨w4.heap.size, 3, none⟩ (.int .i64 ic) := ⟨_, rfl⟩
      rw [← hwm] at hbn' us hrn' hun ⊢
      clear HXB HUx
      have HXB := Lib.hid hbn'
      have HRd := Lib.hid hrn'
      have HUx := Lib.hid hun
      clear hwm hbn hbn' us hrn hrn' hun un xc fc
      have HNm := Lib.hid (rq_num HRd.out (n := ipr) (by have := HOk.out.pr; dsimp only at this; unfold I64; omega) HOk.out.pr.1 (by have := HLen.out; simp only [List.length_append] at this ⊢; omega))
      clear HRd
      go_wp2_with fail
      (with_reducible refine (HNm.out).mono ?_)
      rintro _ wn ⟨rfl, hrn, un⟩
      clear HNm
      have hbn := un.keep HXB.out (by omega)
      have xc : wn.cell? ⟨w4.heap.size, 4, none⟩ = some (.int .i64 0) := by rw [cells_cell hbn]; rfl
      have fc := cells_frozen hbn 4
      have hbn' := setCell_block hbn 4 (.int .i64 ipr)
      have us := Upd.set1 (Upd.refl _ wn) (b := w4.heap.size) (by omega) 4 (.int .i64 ipr)
      have hrn' := hrn.upd us (by omega)
      have hun := (HUx.out.trans (un.mono (fun k _ e => Or.inl e))).trans (us.mono (fun k _ e => Or.inr e))
      go_upto_region 12 with fail
      obtain ⟨wm, hwm⟩ : ∃ y, y = wn.setCell ⟨w4.heap.size, 4, none⟩ (.int .i64 ipr) := ⟨_, rfl⟩
      rw [← hwm] at hbn' us hrn' hun ⊢
      clear HXB HUx
      have HXB := Lib.hid hbn'
      have HRd := Lib.hid hrn'
      have HUx := Lib.hid hun
      clear hwm hbn hbn' us hrn hrn' hun un xc fc
      obtain ⟨w11, hw11⟩ : ∃ y : World, y = wm := ⟨_, rfl⟩
      rw [← hw11] at HXB HUx HRd ⊢
      clear hw11
      have hs11 := HUx.out.size
      have hbx : nG ≤ w4.heap.size := by omega
      have HU11 := Lib.hid (show Upd (fun j => j = b) wr w11 from (U4.out.nw HN5.out).trans' HUx.out (fun j hj e => e.elim id (fun e => by omega)))
      have y0 : w11.cell? ⟨w4.heap.size, 0, none⟩ = some (.string ⟨inm.toArray⟩) := by rw [cells_cell HXB.out]; rfl
      have y1 : w11.cell? ⟨w4.heap.size, 1, none⟩ = some (.int .i64 ia) := by rw [cells_cell HXB.out]; rfl
      have y2 : w11.cell? ⟨w4.heap.size, 2, none⟩ = some (.int .i64 ib) := by rw [cells_cell HXB.out]; rfl
      have y3 : w11.cell? ⟨w4.heap.size, 3, none⟩ = some (.int .i64 ic) := by rw [cells_cell HXB.out]; rfl
      have y4 : w11.cell? ⟨w4.heap.size, 4, none⟩ = some (.int .i64 ipr) := by rw [cells_cell HXB.out]; rfl
      have hbq := HU11.out.keep HBox.out (by omega)
      have hown := owns_upd' HOwn.out HU11.out (fun k hk e => by have := (HOwn.out.lt k hk).1; omega)
      obtain ⟨ba, bc, rfl⟩ := own_slS hown
      have yq : w11.cell? ⟨q, 1, none⟩ = some (.slice ba k bc) := by rw [cells_cell hbq]; rfl
      have HOw := Lib.hid hown
      have HBq := Lib.hid hbq
      clear hown hbq
      go_wp2_with (at_builtin; refine wpList_appL rfl _ _ 45 rfl (q + 1) tPl _ 5 48 Tryz.underlying45 infoPl rfl (by decide) (.slice ba k bc) k _ rfl HOw.out [.string ⟨inm.toArray⟩, .int .i64 ia, .int .i64 ib, .int .i64 ic, .int .i64 ipr] rfl rfl ?c1 ?c2 ?c3 ?c4 ?c5 ?_)
      case c1 => intro u hu; simp only [List.mem_cons, List.not_mem_nil, or_false] at hu; rcases hu with rfl | rfl | rfl | rfl | rfl <;> rfl
      case c2 => have := HL.out.2; unfold maxLen; omega
      case c3 => have := HL.out.2; omega
      case c4 => omega
      case c5 => omega
      intro v12 w12 hown12 u12 hob
      have hs12 := u12.size
      have hb12 := u12.keep HBq.out (fun e => by have := (HOw.out.lt q e).1; omega)
      have fq := cells_frozen hb12 1
      have yq2 : w12.cell? ⟨q, 1, none⟩ = some (.slice ba k bc) := by rw [cells_cell hb12]; rfl
      have hb13 := setCell_block hb12 1 v12
      have u13 := Upd.set1 (Upd.refl _ w12) (b := q) (by omega) 1 v12
      have hr13 := (HRd.out.upd u12 (fun e => by have := (HOw.out.lt b e).1; omega)).upd u13 (by omega)
      have hown13 := owns_upd' hown12 u13 (fun j hj e => by have := (hown12.lt j hj).1; omega)
      have hU13 : Upd (fun j => z.heap.size < j) wr (w12.setCell ⟨q, 1, none⟩ v12) := ((HU11.out.mono (fun j _ e => by omega)).trans (u12.mono (fun j hj e => by have := (HOw.out.lt j e).1; omega))).trans (u13.mono (fun j _ e => by omega))
      obtain ⟨va, vc, rfl⟩ := own_slS hown12
      have hfin := Lib.hid (show RdI z b q p (k + 1) (w12.setCell ⟨q, 1, none⟩ (.slice va (k + 1) vc)) from ⟨by rw [HRest.out]; exact hr13, ⟨_, hb13, by rw [HTk.out]; exact hown13⟩, hU13.keep HHd.out.res (by omega), HHd.out.upd.trans' hU13 (fun j hj e => by omega), o1, o2, by have := u13.size; omega⟩)
      clear hb12 hb13 u13 hr13 hown13 hU13 hown12 u12 hob HBq HOw yq y0 y1 y2 y3 y4 HXB
      go_wp2_with fail
      go_roundw
      case rel => exact ⟨k + 1, hlt, by simp, hfin⟩
      case measure =>
        simp only [intOf]
        omega
    · obtain ⟨bv, hbox, hown⟩ := hd.out.box
      obtain hke : k = p.its.length := by omega
      rw [hke, List.take_length] at hown
      obtain ⟨ba, bc, rfl⟩ := own_slS hown
      have q0 : wr.cell? ⟨q, 0, none⟩ = some (.string ⟨p.nm.toArray⟩) := by rw [cells_cell hbox]; rfl
      have q1 : wr.cell? ⟨q, 1, none⟩ = some (.slice ba p.its.length bc) := by rw [cells_cell hbox]; rfl
      have r0 : wr.cell? ⟨z.heap.size, 0, none⟩ = some (.string ⟨#[]⟩) := by rw [cells_cell hd.out.res]; rfl
      have r1 : wr.cell? ⟨z.heap.size, 1, none⟩ = some (.slice none 0 0) := by rw [cells_cell hd.out.res]; rfl
      have f0 := cells_frozen hd.out.res 0
      have f1 := cells_frozen hd.out.res 1
      have hz1 := setCell_block (setCell_block hd.out.res 0 (.string ⟨p.nm.toArray⟩)) 1 (.slice ba p.its.length bc)
      have hu9 := Upd.set1 (Upd.set1 (Upd.refl _ wr) hgb 0 (.string ⟨p.nm.toArray⟩)) hgb 1 (.slice ba p.its.length bc)
      have HZ1 := Lib.hid hz1
      have HU9 := Lib.hid hu9
      have HDu := Lib.hid hd.out.upd
      have HOw := Lib.hid hown
      rw [hke]
      clear hd hbox hown hz1 hu9 HD0 hk hlt hke
      go_wp2_with fail
      refine bodyPost_ret (rs_results _ _ (by simp) HZ1.out) rfl ⟨_, rfl, ?_, HDu.out.trans' HU9.out (fun k hk e => by omega)⟩
      have h9 := owns_upd' HOw.out HU9.out (fun k hk e => by have := (HOw.out.lt k hk).1; omega)
      have hsz := HU9.out.size
      exact ⟨ownsRow_base_a h9 (by omega), fun k hk => by have := HOw.out.lt k hk; omega⟩
end Go.Proofs.YtiednpagknnfnaaGreatDoor
namespace Go.Proofs.YtiednpagknnfnaaGreatDoor
open Go.RowKit
open Sg (opE)
attribute [local irreducible] Calls CallsIn
theorem af_results (tmps : Array Value) (w : World) {r : Nat} {a b c : Value} {T : TypeId} (hr : tmps.getD 4 undef = .pointer (some ⟨r, 0, none⟩)) (hb : w.heap[r]? = some (.cells #[a, b, c] T (0, 0))) :
    (results Tryz.f66 tmps).run Tryz.prog w = .ok (.agg #[a, b, c]) w := by
  have c0 : w.cell? ⟨r, 0, none⟩ = some a := by rw [cells_cell hb]; rfl
  have c1 : w.cell? ⟨r, 1, none⟩ = some b := by rw [cells_cell hb]; rfl
  have c2 : w.cell? ⟨r, 2, none⟩ = some c := by rw [cells_cell hb]; rfl
  rw [Array.getD_eq_getD_getElem?] at hr
  simp [results, Tryz.results66, go_sem, hr, c0, c1, c2]
def AfD (B : Nat) (P : Nat → Prop) (z : World) (S' : Sg.Sta) (e : Ending) (z' : World) : Prop := ∃ v' : SvR, e = .returned v'.val ∧ SvAt B (fun k => P k ∨ (z.heap.size ≤ k ∧ k < z'.heap.size)) z' v' S' ∧ Nw z z'
def Oth (Ts : List TypeId) (y : World) (U : Nat → Prop) : Prop := ∀ j, U j → ∃ cs T' fz, T' ∉ Ts ∧ y.heap[j]? = some (.cells cs T' fz)
theorem row_oth {B sz n : Nat} {T : TypeId} {Ts : List TypeId} {y y' : World} {U : Nat → Prop} {v : Value} {xs : List Value} (h : y.ownsRow B T sz v n xs) (u : Upd U y y') (hU : Oth Ts y U) (hT : T ∈ Ts) : y'.ownsRow B T sz v n xs :=
  owns_upd' h u (fun k hk e => by
    obtain ⟨_, cs, hc⟩ := own_block h hk
    obtain ⟨cs', T', fz, h1, h2⟩ := hU k e
    rw [hc] at h2
    simp only [Option.some.injEq, Obj.cells.injEq] at h2
    exact h1 (h2.2.1 ▸ hT))
theorem ps_oth {B : Nat} {P : Nat → Prop} {Ts : List TypeId} {y y' : World} {U : Nat → Prop} {pv : Value} {l : List Sg.Pf} (h : PsAt B P y pv l) (u : Upd U y y') (hU : Oth Ts y U) (h1 : tPf ∈ Ts) (h2 : tPl ∈ Ts) : PsAt B P y' pv l := by
  obtain ⟨C, e, ho, hi⟩ := h
  exact ⟨C, e, row_oth ho u hU h1, fun q hq => ⟨row_oth (hi q hq).1 u hU h2, (hi q hq).2⟩⟩
theorem oth_own {B sz n : Nat} {T : TypeId} {Ts : List TypeId} {y : World} {v : Value} {xs : List Value} (h : y.ownsRow B T sz v n xs) (hT : T ∉ Ts) : Oth Ts y (fun k => v.ownBlock = some k) := fun j hj => by
  obtain ⟨_, cs, hc⟩ := own_block h hj
  exact ⟨cs, T, _, hT, hc⟩
theorem oth_blk {b : Nat} {T : TypeId} {Ts : List TypeId} {y : World} {cs : Array Value} {fz : Nat × Nat} (h : y.heap[b]? = some (.cells cs T fz)) (hT : T ∉ Ts) : Oth Ts y (fun k => k = b) := fun j hj => ⟨cs, T, fz, hT, by rw [hj]; exact h⟩
theorem ps_mono {B : Nat} {P Q : Nat → Prop} {y : World} {pv : Value} {l : List Sg.Pf} (h : PsAt B P y pv l) (hp : ∀ k, k < y.heap.size → P k → Q k) : PsAt B Q y pv l := by
  obtain ⟨C, e, ho, hi⟩ := h
  exact ⟨C, e, ho, fun q hq => (hi q hq).mono hp⟩
section
variable {B : Nat} {P : Nat → Prop} {z : World} {v : SvR} {S : Sg.Sta}
set_option maxHeartbeats 8000000 in
set_option maxRecDepth 100000 in
theorem rAfter_put (hgB : nG ≤ B) (hBz : B ≤ z.heap.size) (h : SvAt B P z v S) {t : List UInt8} (hta : Sg.find S t = none) (htl : t.length ≤ 20000) (hbig : Sg.big S + 1 ≤ 1000) :
    Calls Tryz.prog 66 #[v.val, .string ⟨(112 :: t).toArray⟩] z (AfD B P z (Sg.after S (.put t))) := by
  have hgb : nG ≤ z.heap.size := by omega
  have htail := op_tail 112 t
  have hhead := op_head 112 t
  have hsome := op_some 112 t
  have hbt := hbig
  generalize (⟨(112 :: t).toArray⟩ : ByteArray) = op at *
  obtain ⟨l1, l2, l3, l4⟩ := h.len
  obtain ⟨C, eC, hpo, hit⟩ := h.p
  obtain ⟨tv, hv, pv⟩ := v
  obtain ⟨ta, tc, et⟩ := own_slS h.t
  obtain ⟨ha, hc, eh⟩ := own_slS h.h
  obtain ⟨pa, pc, ep⟩ := own_slS hpo
  dsimp only at et eh ep
  subst et eh ep
  have hlC : C.length = S.pf.length := by rw [eC, List.length_map]
  have n1 := nw_alloc z (.cells #[.slice ta S.tx.length tc, .slice ha S.th.length hc, .slice pa C.length pc] tSta)
  have b1 := heap_new z (.cells #[.slice ta S.tx.length tc, .slice ha S.th.length hc, .slice pa C.length pc] tSta)
  have n2 := nw_alloc (z.alloc (.cells #[.slice ta S.tx.length tc, .slice ha S.th.length hc, .slice pa C.length pc] tSta)) (.cells #[.slice none 0 0, .slice none 0 0, .slice none 0 0] tSta)
  have b2 := heap_new (z.alloc (.cells #[.slice ta S.tx.length tc, .slice ha S.th.length hc, .slice pa C.length pc] tSta)) (.cells #[.slice none 0 0, .slice none 0 0, .slice none 0 0] tSta)
  obtain ⟨w1, hw1⟩ : ∃ y, y = (z.alloc (.cells #[.slice ta S.tx.length tc, .slice ha S.th.length hc, .slice pa C.length pc] tSta)).alloc (.cells #[.slice none 0 0, .slice none 0 0, .slice none 0 0] tSta) := ⟨_, rfl⟩
  have b1' := Nw.keep n2 b1
  have n12 := n1.trans n2
  rw [World.size_alloc] at b2
  rw [← hw1] at n12 b1' b2
  have hs1 : w1.heap.size = z.heap.size + 2 := by rw [hw1, World.size_alloc, World.size_alloc]
  have HCo := Lib.hid (rCopied_c (v := ⟨.slice ta S.tx.length tc, .slice ha S.th.length hc, .slice pa C.length pc⟩) (by omega) (by omega) (h.nw n12))
  have c0 : w1.cell? ⟨z.heap.size, 0, none⟩ = some (.slice ta S.tx.length tc) := by rw [cells_cell b1']; rfl
  have c1 : w1.cell? ⟨z.heap.size, 1, none⟩ = some (.slice ha S.th.length hc) := by rw [cells_cell b1']; rfl
  have c2 : w1.cell? ⟨z.heap.size, 2, none⟩ = some (.slice pa C.length pc) := by rw [cells_cell b1']; rfl
  have HW1 := Lib.hid hw1
  have HN1 := Lib.hid n12
  have HB1 := Lib.hid b1'
  have HB2 := Lib.hid b2
  have H := Lib.hid h
  have HE := Lib.hid eC
  have HPo := Lib.hid hpo
  have HIt := Lib.hid hit
  have hl1 : (C.length : Int) ≤ 1000 := by omega
  clear h n1 b1 n2 b2 b1' n12 hw1 hit hpo eC hlC l4
  unfold SvR.val at *
  go_enter Tryz.func66, Tryz.ntmps66
  go_upto_region 1 with fail
  rw [← HW1.out]
  clear HW1
  go_wp2_with fail
  (with_reducible refine (HCo.out).mono ?_)
  rintro _ w3 ⟨⟨tv', hv', pv'⟩, rfl, hs3, hb3, u3⟩
  obtain ⟨C3, eC3, hpo3, hit3⟩ := hs3.p
  obtain ⟨ta', tc', et⟩ := own_slS hs3.t
  obtain ⟨ha', hc', eh⟩ := own_slS hs3.h
  obtain ⟨pa', pc', ep⟩ := own_slS hpo3
  dsimp only at et eh ep
  subst et eh ep
  have n5 := nw_alloc w3 (.cells #[.slice ta' S.tx.length tc', .slice ha' S.th.length hc', .slice pa' C3.length pc'] tSta)
  have b5 := heap_new w3 (.cells #[.slice ta' S.tx.length tc', .slice ha' S.th.length hc', .slice pa' C3.length pc'] tSta)
  have HS3 := Lib.hid hs3
  have HBk := Lib.hid hb3
  have HU3 := Lib.hid u3
  have hz3 := u3.size
  clear hs3 hb3 u3 hpo3 hit3 HCo c0 c1 c2
  obtain ⟨w4, hw4⟩ : ∃ y, y = w3.alloc (.cells #[.slice ta' S.tx.length tc', .slice ha' S.th.length hc', .slice pa' C3.length pc'] tSta) := ⟨_, rfl⟩
  rw [← hw4] at n5 b5
  have hz4 : w4.heap.size = w3.heap.size + 1 := by rw [hw4, World.size_alloc]
  generalize hq5 : w3.heap.size = q5 at *
  have HB5 := Lib.hid b5
  have HN5 := Lib.hid n5
  have HW4 := Lib.hid hw4
  clear hw4 b5 n5
  go_upto_region 6 with fail
  rw [← HW4.out]
  clear HW4
  obtain ⟨wd, hwd, nd⟩ := nw_drew w4
  have hzd := nd.size
  have HWd := Lib.hid hwd
  have HBd := Lib.hid (nd.keep HB5.out)
  have HSS := Lib.hid (show ∀ y, Upd (fun k => w1.heap.size ≤ k ∧ k ≠ q5) wd y → (y.cell? ⟨q5, 0, none⟩ = some (.slice ta' S.tx.length tc') ∧ True ∧ True ∧ True ∧ True ∧ True ∧ True) from fun y u => by
    have hb := u.keep HBd.out (fun e => e.2 rfl)
    exact ⟨by rw [cells_cell hb]; rfl, trivial, trivial, trivial, trivial, trivial, trivial⟩)
  have HRt := Lib.hid (owns_upd' HS3.out.t (HN5.out.trans nd) (fun _ _ e => e))
  have HRlo := Lib.hid (show ∀ k, (Value.slice ta' S.tx.length tc').ownBlock = some k → w1.heap.size ≤ k ∧ k < q5 from fun k hk => ⟨HBk.out k (Or.inl hk), by have := (HS3.out.t.lt k hk).2; omega⟩)
  have HNd := Lib.hid nd
  clear nd hwd
  refine wp_region_G (fun y => y.cell? ⟨q5, 0, none⟩ = some (.slice ta' S.tx.length tc') ∧ True ∧ True ∧ True ∧ True ∧ True ∧ True) 7 (by kernel_rfl) ?_
  rw [HWd.out]
  clear HWd
  refine wpAnyG_pure (i := 0) (v := ?_) rfl (by kernel_rfl) (by kernel_rfl) (by kernel_rfl) (by kernel_rfl) (by kernel_rfl) (fun _ _ _ h => h) (by rfl) ?_ (fun _ => HSS.out _ (Upd.refl _ _)) ?_
  rotate_left 1
  · (intro zz; go_simp; first | done | with_reducible rfl)
  (try simp only [Act.put, List.setIfInBounds_toArray, List.set_cons_zero, List.set_cons_succ])
  refine wpAnyG_pure (i := 2) (v := ?_) rfl (by kernel_rfl) (by kernel_rfl) (by kernel_rfl) (by kernel_rfl) (by kernel_rfl) (fun _ _ _ h => h) (by rfl) ?_ (fun _ => HSS.out _ (Upd.refl _ _)) ?_
  rotate_left 1
  · (intro zz; go_simp; first | done | with_reducible rfl)
  (try simp only [Act.put, List.setIfInBounds_toArray, List.set_cons_zero, List.set_cons_succ])
  refine wpAnyG_pure (i := 3) (v := ?_) rfl (by kernel_rfl) (by kernel_rfl) (by kernel_rfl) (by kernel_rfl) (by kernel_rfl) (fun _ _ _ h => h) (by rfl) ?_ (fun _ => HSS.out _ (Upd.refl _ _)) ?_
  rotate_left 1
  · (intro zz; go_simp; first | done | with_reducible rfl)
  (try simp only [Act.put, List.setIfInBounds_toArray, List.set_cons_zero, List.set_cons_succ])
  refine wpAnyG_load (i := 1) (v := ?_) [] rfl (by kernel_rfl) (by kernel_rfl) (by kernel_rfl) (by kernel_rfl) (by kernel_rfl) (by kernel_rfl) (fun _ _ _ h => h) (by rfl) ?_ (fun _ => HSS.out _ (Upd.refl _ _)) ?_
  rotate_left 1
  · (intro zz hS; obtain ⟨_, _, _, _, _, _, _⟩ := hS; go_simp; first | done | with_reducible rfl)
  (try simp only [Act.put, List.setIfInBounds_toArray, List.set_cons_zero, List.set_cons_succ])
  refine wpAnyG_ready [4] (by kernel_rfl) (by simp) ?_
  refine AllG.cons rfl (fun K hK => ?_) AllG.nil
  have n6 := nw_alloc wd (.cells #[.string ⟨t.toArray⟩] 9)
  have b6 := heap_new wd (.cells #[.string ⟨t.toArray⟩] 9)
  go_simp
  obtain ⟨w6, hw6⟩ : ∃ y, y = wd.alloc (.cells #[.string ⟨t.toArray⟩] 9) := ⟨_, rfl⟩
  rw [← hw6] at n6 b6 ⊢
  have HN6 := Lib.hid n6
  have HB6 := Lib.hid b6
  refine hK.out _ _ (fun _ => HSS.out _ (Nw.upd _ HN6.out)) ?_
  clear hK K n6 b6 hw6
  (try simp only [Act.put, List.setIfInBounds_toArray, List.set_cons_zero, List.set_cons_succ])
  refine wpAnyG_ready [5] (by kernel_rfl) (by simp) ?_
  refine AllG.cons rfl (fun K hK => ?_) AllG.nil
  have HR6 := Lib.hid (owns_upd' HRt.out HN6.out (fun _ _ e => e))
  have hz6 := HN6.out.size
  have hlt1 := l1
  refine step_catC rfl _ _ 38 rfl 9 _ 1 16 Tryz.underlying38 infoStrR rfl (by decide) B (by omega) hgB _ S.tx.length _ rfl HR6.out ⟨wd.heap.size, 0, none⟩ 1 1 [.string ⟨t.toArray⟩] rfl rfl (World.news_of_block (cs := #[.string ⟨t.toArray⟩]) (t := 9) (fr := (0, 0)) HB6.out) (by intro u hu; rw [List.mem_singleton.1 hu]; rfl) (by omega) (by unfold maxLen; omega) (by omega) ?_
  intro g7 cap7 w7 o7 u7 k7
  have hs7 : Upd (fun k => w1.heap.size ≤ k ∧ k ≠ q5) wd w7 := (Nw.upd _ HN6.out).trans (u7.mono (fun k _ hk => by have := HRlo.out k hk; exact ⟨this.1, by omega⟩))
  have HU7 := Lib.hid hs7
  have HB7 := Lib.hid (hs7.keep HBd.out (fun e => e.2 rfl))
  have HO7 := Lib.hid o7
  have hz7 := hs7.size
  have hz67 := u7.size
  have HR7 := Lib.hid (row_oth (Ts := [4]) (owns_upd' HS3.out.h (HN5.out.trans (Nw.trans HNd.out HN6.out)) (fun _ _ e => e)) u7 (oth_own HR6.out (by decide)) (by decide))
  have HP7 := Lib.hid (ps_oth (Ts := [tPf, tPl]) ((HS3.out.p).nw (HN5.out.trans (Nw.trans HNd.out HN6.out))) u7 (oth_own HR6.out (by decide)) (by decide) (by decide))
  have hgq : g7 ≠ q5 ∧ w1.heap.size ≤ g7 := by
    rcases k7 with e | e
    · have := HRlo.out g7 e; omega
    · omega
  refine hK.out _ _ (fun _ => HSS.out _ HU7.out) ?_
  clear hK K o7 u7 k7 hs7 HR6
  (try simp only [Act.put, List.setIfInBounds_toArray, List.set_cons_zero, List.set_cons_succ])
  refine wpAnyG_pure (i := 6) (v := ?_) rfl (by kernel_rfl) (by kernel_rfl) (by kernel_rfl) (by kernel_rfl) (by kernel_rfl) (fun _ _ _ h => h) (by rfl) ?_ (fun _ => HSS.out _ HU7.out) ?_
  rotate_left 1
  · (intro zz; go_simp; first | done | with_reducible rfl)
  (try simp only [Act.put, List.setIfInBounds_toArray, List.set_cons_zero, List.set_cons_succ])
  refine wpAnyG_ready [7] (by kernel_rfl) (by simp) ?_
  refine AllG.cons rfl (fun K hK => ?_) AllG.nil
  have d2 : w7.cell? ⟨q5, 0, none⟩ = some (.slice ta' S.tx.length tc') := by rw [cells_cell HB7.out]; rfl
  have f2 := cells_frozen HB7.out 0
  have u8 := Upd.set1 (Upd.refl _ w7) (b := q5) (by omega) 0 (.slice (some ⟨g7, 0, none⟩) (S.tx.length + 1) cap7)
  have b8 := setCell_block HB7.out 0 (.slice (some ⟨g7, 0, none⟩) (S.tx.length + 1) cap7)
  go_simp
  refine hK.out _ _ (fun e => absurd (show true = false from e) (by decide)) ?_
  clear hK K d2 f2
  (try simp only [Act.put, List.setIfInBounds_toArray, List.set_cons_zero, List.set_cons_succ])
  refine wpAnyG_done (by kernel_rfl) ?_ _
  obtain ⟨w8, hw8⟩ : ∃ y, y = w7.setCell ⟨q5, 0, none⟩ (.slice (some ⟨g7, 0, none⟩) (S.tx.length + 1) cap7) := ⟨_, rfl⟩
  rw [← hw8] at u8 b8 ⊢
  have HT8 := Lib.hid (owns_upd' HO7.out u8 (fun k hk e => by have : g7 = k := Option.some.inj hk; omega))
  have HR8 := Lib.hid (row_oth (Ts := [4]) HR7.out u8 (oth_blk HB7.out (by decide)) (by decide))
  have HP8 := Lib.hid (ps_oth (Ts := [tPf, tPl]) HP7.out u8 (oth_blk HB7.out (by decide)) (by decide) (by decide))
  have HB8 := Lib.hid b8
  have HU8 := Lib.hid (show Upd (fun k => w1.heap.size ≤ k) wd w8 from (HU7.out.mono (fun k _ e => e.1)).trans (u8.mono (fun k _ e => by omega)))
  have hz8 := u8.size
  clear hw8 u8 b8 HR7 HP7 HO7 HB7
  have d1 : w8.cell? ⟨q5, 1, none⟩ = some (.slice ha' S.th.length hc') := by rw [cells_cell HB8.out]; rfl
  go_wp2_with (at_builtin; refine wpList_appL rfl _ _ 39 rfl B 4 _ 1 1 Tryz.underlying39 infoBoolS rfl (by decide) _ S.th.length _ rfl HR8.out [.bool true] rfl rfl (by intro u hu; rw [List.mem_singleton.1 hu]; rfl) (by unfold maxLen; omega) (by omega) (by omega) hgB ?_)
  intro v9 w9 o9 u9 k9
  obtain ⟨va9, vc9, rfl⟩ := own_slS o9
  have hhlo : ∀ k, (Value.slice ha' S.th.length hc').ownBlock = some k → w1.heap.size ≤ k ∧ k < q5 := fun k hk => ⟨HBk.out k (Or.inr (Or.inl hk)), by have := (HS3.out.h.lt k hk).2; omega⟩
  have HB9 := u9.keep HB8.out (fun e => by have := hhlo q5 e; omega)
  have HT9 := row_oth (Ts := [9]) HT8.out u9 (oth_own HR8.out (by decide)) (by decide)
  have HP9 := ps_oth (Ts := [tPf, tPl]) HP8.out u9 (oth_own HR8.out (by decide)) (by decide) (by decide)
  have e1 : w9.cell? ⟨q5, 1, none⟩ = some (.slice ha' S.th.length hc') := by rw [cells_cell HB9]; rfl
  have f1 := cells_frozen HB9 1
  have u10 := Upd.set1 (Upd.refl _ w9) (b := q5) (by omega) 1 (.slice va9 (S.th.length + 1) vc9)
  have b10 := setCell_block HB9 1 (.slice va9 (S.th.length + 1) vc9)
  have hz9 := u9.size
  have HT10 := Lib.hid (row_oth (Ts := [9]) HT9 u10 (oth_blk HB9 (by decide)) (by decide))
  have HR10 := Lib.hid (row_oth (Ts := [4]) o9 u10 (oth_blk HB9 (by decide)) (by decide))
  have HP10 := Lib.hid (ps_oth (Ts := [tPf, tPl]) HP9 u10 (oth_blk HB9 (by decide)) (by decide) (by decide))
  have U10 : Upd (fun k => w1.heap.size ≤ k) wd (w9.setCell ⟨q5, 1, none⟩ (.slice va9 (S.th.length + 1) vc9)) := (HU8.out.trans (u9.mono (fun k _ hk => (hhlo k hk).1))).trans (u10.mono (fun k _ e => by omega))
  have hg9 : ∀ k, (Value.slice va9 (S.th.length + 1) vc9).ownBlock = some k → w1.heap.size ≤ k := fun k hk => by
    rcases k9 k hk with e | e
    · exact (hhlo k e).1
    · omega
  have HG9 := Lib.hid hg9
  clear o9 u9 k9 HT9 HP9 hhlo hg9
  go_upto_region 25 with fail
  obtain ⟨w10, hw10⟩ : ∃ y, y = w9.setCell ⟨q5, 1, none⟩ (.slice va9 (S.th.length + 1) vc9) := ⟨_, rfl⟩
  rw [← hw10] at b10 HT10 HR10 HP10 U10 ⊢
  have HBX := Lib.hid b10
  have HZ2 := Lib.hid (Nw.upd' (HU3.out.trans (HN5.out.trans HNd.out)) U10 (fun k hk => hk))
  have HZ := Lib.hid (HN1.out.trans HZ2.out)
  have hz10 := U10.size
  clear hw10 b10 U10 HB9 e1 f1 u10 d1
  have hb2 := Nw.keep HZ2.out HB2.out
  have e0 : World.cell? w10 ⟨q5, 0, none⟩ = some (.slice (some ⟨g7, 0, none⟩) (S.tx.length + 1) cap7) := by rw [cells_cell HBX.out]; rfl
  have e1 : World.cell? w10 ⟨q5, 1, none⟩ = some (.slice va9 (S.th.length + 1) vc9) := by rw [cells_cell HBX.out]; rfl
  have e2 : World.cell? w10 ⟨q5, 2, none⟩ = some (.slice pa' C3.length pc') := by rw [cells_cell HBX.out]; rfl
  have r0 : World.cell? w10 ⟨z.heap.size + 1, 0, none⟩ = some (.slice none 0 0) := by rw [cells_cell hb2]; rfl
  have r1 : World.cell? w10 ⟨z.heap.size + 1, 1, none⟩ = some (.slice none 0 0) := by rw [cells_cell hb2]; rfl
  have r2 : World.cell? w10 ⟨z.heap.size + 1, 2, none⟩ = some (.slice none 0 0) := by rw [cells_cell hb2]; rfl
  have f0 := cells_frozen hb2 0
  have f1 := cells_frozen hb2 1
  have f2 := cells_frozen hb2 2
  have HBf := Lib.hid (setCell_block (setCell_block (setCell_block hb2 0 (.slice (some ⟨g7, 0, none⟩) (S.tx.length + 1) cap7)) 1 (.slice va9 (S.th.length + 1) vc9)) 2 (.slice pa' C3.length pc'))
  have HUf := Lib.hid (Upd.set1 (Upd.set1 (Upd.set1 (Upd.refl _ w10) (b := z.heap.size + 1) (by omega) 0 (.slice (some ⟨g7, 0, none⟩) (S.tx.length + 1) cap7)) (b := z.heap.size + 1) (by omega) 1 (.slice va9 (S.th.length + 1) vc9)) (b := z.heap.size + 1) (by omega) 2 (.slice pa' C3.length pc'))
  clear hb2
  go_wp2_with fail
  refine bodyPost_ret (af_results _ _ (by simp) HBf.out) rfl ⟨⟨_, _, _⟩, rfl, ?_, Nw.upd' HZ.out HUf.out (fun k hk => by omega)⟩
  have hsf := HUf.out.size
  have hq : Oth [9, 4, tPf, tPl] w10 (fun k => k = z.heap.size + 1) := oth_blk (Nw.keep HZ2.out HB2.out) (by decide)
  have hTf := row_oth HT10.out HUf.out hq (by decide)
  have hRf := row_oth HR10.out HUf.out hq (by decide)
  have hPf := ps_oth HP10.out HUf.out hq (by decide) (by decide)
  refine ⟨H.out.g.after hta, Nat.le_trans (Sg.big_after S _) hbt, fun s hs => ?_, ?_, ?_, ps_mono hPf (fun k hk e => ?_), fun k hk => Or.inr ?_⟩
  · rcases List.mem_append.1 hs with hs | hs
    · exact H.out.tl s hs
    · rw [List.mem_singleton.1 hs]; exact htl
  · show World.ownsRow _ _ _ _ _ (S.tx ++ [t]).length ((S.tx ++ [t]).map bsV)
    rw [List.length_append, List.map_append]
    exact hTf
  · show World.ownsRow _ _ _ _ _ (S.th ++ [true]).length ((S.th ++ [true]).map Value.bool)
    rw [List.length_append, List.map_append]
    exact hRf
  · rcases e with e | e
    · exact Or.inl e
    · exact Or.inr (by omega)
  · obtain ⟨C9, _, hp9, _⟩ := hPf
    rcases hk with hk | hk | hk
    · have := (hTf.lt k hk).2
      have e : g7 = k := Option.some.inj hk
      omega
    · have := (hRf.lt k hk).2
      have := HG9.out k hk
      omega
    · have := (hp9.lt k hk).2
      have := HBk.out k (Or.inr (Or.inr hk))
      omega
end
theorem sv_oth {B : Nat} {P : Nat → Prop} {y y' : World} {v : SvR} {S : Sg.Sta} {U : Nat → Prop} (h : SvAt B P y v S) (u : Upd U y y') (hU : Oth [9, 4, tPf, tPl] y U) : SvAt B P y' v S :=
  ⟨h.g, h.big, h.tl, row_oth h.t u hU (by decide), row_oth h.h u hU (by decide), ps_oth h.p u hU (by decide) (by decide), h.pb⟩
section
variable {B : Nat} {P : Nat → Prop} {z : World} {v : SvR} {S : Sg.Sta}
set_option maxHeartbeats 8000000 in
set_option maxRecDepth 100000 in
theorem rAfter_drop (hgB : nG ≤ B) (hBz : B ≤ z.heap.size) (h : SvAt B P z v S) (nm : List UInt8) :
    Calls Tryz.prog 66 #[v.val, .string ⟨(100 :: nm).toArray⟩] z (AfD B P z (Sg.after S (.drop nm))) := by
  have hgb : nG ≤ z.heap.size := by omega
  have htail := op_tail 100 nm
  have hhead := op_head 100 nm
  have hsome := op_some 100 nm
  generalize (⟨(100 :: nm).toArray⟩ : ByteArray) = op at *
  obtain ⟨l1, l2, l3, l4⟩ := h.len
  obtain ⟨C, eC, hpo, hit⟩ := h.p
  obtain ⟨tv, hv, pv⟩ := v
  obtain ⟨ta, tc, et⟩ := own_slS h.t
  obtain ⟨ha, hc, eh⟩ := own_slS h.h
  obtain ⟨pa, pc, ep⟩ := own_slS hpo
  dsimp only at et eh ep
  subst et eh ep
  have hlC : C.length = S.pf.length := by rw [eC, List.length_map]
  have n1 := nw_alloc z (.cells #[.slice ta S.tx.length tc, .slice ha S.th.length hc, .slice pa C.length pc] tSta)
  have b1 := heap_new z (.cells #[.slice ta S.tx.length tc, .slice ha S.th.length hc, .slice pa C.length pc] tSta)
  have n2 := nw_alloc (z.alloc (.cells #[.slice ta S.tx.length tc, .slice ha S.th.length hc, .slice pa C.length pc] tSta)) (.cells #[.slice none 0 0, .slice none 0 0, .slice none 0 0] tSta)
  have b2 := heap_new (z.alloc (.cells #[.slice ta S.tx.length tc, .slice ha S.th.length hc, .slice pa C.length pc] tSta)) (.cells #[.slice none 0 0, .slice none 0 0, .slice none 0 0] tSta)
  obtain ⟨w1, hw1⟩ : ∃ y, y = (z.alloc (.cells #[.slice ta S.tx.length tc, .slice ha S.th.length hc, .slice pa C.length pc] tSta)).alloc (.cells #[.slice none 0 0, .slice none 0 0, .slice none 0 0] tSta) := ⟨_, rfl⟩
  have b1' := Nw.keep n2 b1
  have n12 := n1.trans n2
  rw [World.size_alloc] at b2
  rw [← hw1] at n12 b1' b2
  have hs1 : w1.heap.size = z.heap.size + 2 := by rw [hw1, World.size_alloc, World.size_alloc]
  have HCo := Lib.hid (rCopied_c (v := ⟨.slice ta S.tx.length tc, .slice ha S.th.length hc, .slice pa C.length pc⟩) (by omega) (by omega) (h.nw n12))
  have c0 : w1.cell? ⟨z.heap.size, 0, none⟩ = some (.slice ta S.tx.length tc) := by rw [cells_cell b1']; rfl
  have c1 : w1.cell? ⟨z.heap.size, 1, none⟩ = some (.slice ha S.th.length hc) := by rw [cells_cell b1']; rfl
  have c2 : w1.cell? ⟨z.heap.size, 2, none⟩ = some (.slice pa C.length pc) := by rw [cells_cell b1']; rfl
  have HW1 := Lib.hid hw1
  have HN1 := Lib.hid n12
  have HB1 := Lib.hid b1'
  have HB2 := Lib.hid b2
  have H := Lib.hid h
  have HE := Lib.hid eC
  have HPo := Lib.hid hpo
  have HIt := Lib.hid hit
  have hl1 : (C.length : Int) ≤ 1000 := by omega
  clear h n1 b1 n2 b2 b1' n12 hw1 hit hpo eC hlC l4
  unfold SvR.val at *
  go_enter Tryz.func66, Tryz.ntmps66
  go_upto_region 1 with fail
  rw [← HW1.out]
  clear HW1
  go_wp2_with fail
  (with_reducible refine (HCo.out).mono ?_)
  rintro _ w3 ⟨⟨tv', hv', pv'⟩, rfl, hs3, hb3, u3⟩
  obtain ⟨C3, eC3, hpo3, hit3⟩ := hs3.p
  obtain ⟨ta', tc', et⟩ := own_slS hs3.t
  obtain ⟨ha', hc', eh⟩ := own_slS hs3.h
  obtain ⟨pa', pc', ep⟩ := own_slS hpo3
  dsimp only at et eh ep
  subst et eh ep
  have n5 := nw_alloc w3 (.cells #[.slice ta' S.tx.length tc', .slice ha' S.th.length hc', .slice pa' C3.length pc'] tSta)
  have b5 := heap_new w3 (.cells #[.slice ta' S.tx.length tc', .slice ha' S.th.length hc', .slice pa' C3.length pc'] tSta)
  have HS3 := Lib.hid hs3
  have HBk := Lib.hid hb3
  have HU3 := Lib.hid u3
  have hz3 := u3.size
  clear hs3 hb3 u3 hpo3 hit3 HCo c0 c1 c2
  obtain ⟨w4, hw4⟩ : ∃ y, y = w3.alloc (.cells #[.slice ta' S.tx.length tc', .slice ha' S.th.length hc', .slice pa' C3.length pc'] tSta) := ⟨_, rfl⟩
  rw [← hw4] at n5 b5
  have hz4 : w4.heap.size = w3.heap.size + 1 := by rw [hw4, World.size_alloc]
  generalize hq5 : w3.heap.size = q5 at *
  have HB5 := Lib.hid b5
  have HN5 := Lib.hid n5
  have HW4 := Lib.hid hw4
  clear hw4 b5 n5
  go_upto_region 19 with fail
  rw [← HW4.out]
  clear HW4
  have hb1 := Nw.keep (HU3.out.trans HN5.out) HB1.out
  have l0 : ∀ j : Later w4, j.1.cell? ⟨z.heap.size, 0, none⟩ = some (.slice ta S.tx.length tc) := fun j => by rw [cells_cell (Nw.keep j.nw hb1)]; rfl
  have l1' : ∀ j : Later w4, j.1.cell? ⟨z.heap.size, 1, none⟩ = some (.slice ha S.th.length hc) := fun j => by rw [cells_cell (Nw.keep j.nw hb1)]; rfl
  have l2' : ∀ j : Later w4, j.1.cell? ⟨z.heap.size, 2, none⟩ = some (.slice pa C.length pc) := fun j => by rw [cells_cell (Nw.keep j.nw hb1)]; rfl
  clear hb1
  refine wp_region_nw_tail 3 (by kernel_rfl) (by kernel_rfl) ?_
  simp only [List.take_succ_cons, List.take_zero, List.drop_succ_cons, List.drop_zero]
  repeat (go_big_quiet_step ((fail)))
  refine wpQuiet_nil ?_
  intro w5 u5
  replace u5 := later_out u5
  have hz5 := u5.size
  have HU45 := Lib.hid u5
  have HU5 := Lib.hid (HN1.out.trans (HU3.out.trans (HN5.out.trans u5)))
  have HB55 := Lib.hid (u5.keep HB5.out)
  have HWo := Lib.hid (rWithout_c (v := ⟨.slice ta S.tx.length tc, .slice ha S.th.length hc, .slice pa C.length pc⟩) (by omega) (by omega) (H.out.nw HU5.out) nm)
  clear u5 l0 l1' l2'
  unfold SvR.val at HWo
  go_wp2_with fail
  (with_reducible refine (HWo.out).mono ?_)
  rintro _ w6 ⟨⟨tv6, hv6, pv6⟩, rfl, hs6, hb6, u6⟩
  obtain ⟨C6, eC6, hpo6, hit6⟩ := hs6.p
  obtain ⟨ta6, tc6, et⟩ : ∃ a c, tv6 = .slice a S.tx.length c := own_slS hs6.t
  obtain ⟨ha6, hc6, eh⟩ : ∃ a c, hv6 = .slice a S.th.length c := own_slS hs6.h
  obtain ⟨pa6, pc6, ep⟩ : ∃ a c, pv6 = .slice a C6.length c := own_slS hpo6
  subst et eh ep
  have hz6 := u6.size
  have hbq := Nw.keep u6 HB55.out
  have x0 : w6.cell? ⟨q5, 0, none⟩ = some (.slice ta' S.tx.length tc') := by rw [cells_cell hbq]; rfl
  have x1 : w6.cell? ⟨q5, 1, none⟩ = some (.slice ha' S.th.length hc') := by rw [cells_cell hbq]; rfl
  have x2 : w6.cell? ⟨q5, 2, none⟩ = some (.slice pa' C3.length pc') := by rw [cells_cell hbq]; rfl
  have f0 := cells_frozen hbq 0
  have f1 := cells_frozen hbq 1
  have f2 := cells_frozen hbq 2
  have b7 := setCell_block (setCell_block (setCell_block hbq 0 (.slice ta6 S.tx.length tc6)) 1 (.slice ha6 S.th.length hc6)) 2 (.slice pa6 C6.length pc6)
  have u7 := Upd.set1 (Upd.set1 (Upd.set1 (Upd.refl _ w6) (b := q5) (by omega) 0 (.slice ta6 S.tx.length tc6)) (b := q5) (by omega) 1 (.slice ha6 S.th.length hc6)) (b := q5) (by omega) 2 (.slice pa6 C6.length pc6)
  have hs7 := sv_oth hs6 u7 (oth_blk hbq (by decide))
  have HBk6 := Lib.hid hb6
  have HZ20 := Lib.hid (show Nw w1 w6 from HU3.out.trans (HN5.out.trans (Nw.trans (show Nw w4 w5 from HU45.out) u6)))
  clear hs6 hpo6 hit6 hb6 u6 hbq HWo
  go_upto_region 25 with fail
  obtain ⟨w7, hw7⟩ : ∃ y, y = ((w6.setCell ⟨q5, 0, none⟩ (.slice ta6 S.tx.length tc6)).setCell ⟨q5, 1, none⟩ (.slice ha6 S.th.length hc6)).setCell ⟨q5, 2, none⟩ (.slice pa6 C6.length pc6) := ⟨_, rfl⟩
  rw [← hw7] at b7 u7 hs7 ⊢
  have HBX := Lib.hid b7
  have HZ2 := Lib.hid (Nw.upd' HZ20.out u7 (fun k hk => by omega))
  have HZ := Lib.hid (HN1.out.trans HZ2.out)
  have HS7 := Lib.hid hs7
  have hz7 := u7.size
  clear hw7 b7 u7 hs7 x0 x1 x2 f0 f1 f2
  have hb2 := Nw.keep HZ2.out HB2.out
  have e0 : World.cell? w7 ⟨q5, 0, none⟩ = some (.slice ta6 S.tx.length tc6) := by rw [cells_cell HBX.out]; rfl
  have e1 : World.cell? w7 ⟨q5, 1, none⟩ = some (.slice ha6 S.th.length hc6) := by rw [cells_cell HBX.out]; rfl
  have e2 : World.cell? w7 ⟨q5, 2, none⟩ = some (.slice pa6 C6.length pc6) := by rw [cells_cell HBX.out]; rfl
  have r0 : World.cell? w7 ⟨z.heap.size + 1, 0, none⟩ = some (.slice none 0 0) := by rw [cells_cell hb2]; rfl
  have r1 : World.cell? w7 ⟨z.heap.size + 1, 1, none⟩ = some (.slice none 0 0) := by rw [cells_cell hb2]; rfl
  have r2 : World.cell? w7 ⟨z.heap.size + 1, 2, none⟩ = some (.slice none 0 0) := by rw [cells_cell hb2]; rfl
  have f0 := cells_frozen hb2 0
  have f1 := cells_frozen hb2 1
  have f2 := cells_frozen hb2 2
  have HBf := Lib.hid (setCell_block (setCell_block (setCell_block hb2 0 (.slice ta6 S.tx.length tc6)) 1 (.slice ha6 S.th.length hc6)) 2 (.slice pa6 C6.length pc6))
  have HUf := Lib.hid (Upd.set1 (Upd.set1 (Upd.set1 (Upd.refl _ w7) (b := z.heap.size + 1) (by omega) 0 (.slice ta6 S.tx.length tc6)) (b := z.heap.size + 1) (by omega) 1 (.slice ha6 S.th.length hc6)) (b := z.heap.size + 1) (by omega) 2 (.slice pa6 C6.length pc6))
  clear hb2
  go_wp2_with fail
  refine bodyPost_ret (af_results _ _ (by simp) HBf.out) rfl ⟨⟨_, _, _⟩, rfl, ?_, Nw.upd' HZ.out HUf.out (fun k hk => by omega)⟩
  have hsf := HUf.out.size
  have hf := sv_oth HS7.out HUf.out (oth_blk (Nw.keep HZ2.out HB2.out) (by decide))
  exact hf.mono (fun k hk e => by
    rcases e with e | e
    · exact Or.inl e
    · exact Or.inr (by omega))
end
def rowAt (S : Sg.Sta) (i : Nat) : List Bool := (List.range S.th.length).map fun j => if j < i then (Sg.thereN S j && Sg.used S j) else Sg.thereN S j
theorem rowAt_len (S : Sg.Sta) (i : Nat) : (rowAt S i).length = S.th.length := by unfold rowAt; rw [List.length_map, List.length_range]
theorem rowAt_get {S : Sg.Sta} {i j : Nat} (h : j < (rowAt S i).length) : (rowAt S i)[j] = if j < i then (Sg.thereN S j && Sg.used S j) else Sg.thereN S j := by
  refine (List.getElem_map _).trans ?_
  rw [List.getElem_range]
theorem rowAt_zero (S : Sg.Sta) : rowAt S 0 = S.th := by
  refine List.ext_getElem (rowAt_len S 0) fun j h1 h2 => ?_
  rw [rowAt_get, if_neg (by omega), there_at h2]
theorem rowAt_all (S : Sg.Sta) : rowAt S S.th.length = (Sg.after S .sweep).th := by
  refine List.ext_getElem (by rw [rowAt_len]; show _ = ((List.range S.th.length).map _).length; rw [List.length_map, List.length_range]) fun j h1 h2 => ?_
  rw [rowAt_len] at h1
  rw [rowAt_get, if_pos h1]
  refine Eq.symm ((List.getElem_map _).trans ?_)
  rw [List.getElem_range]
theorem rowAt_succ {S : Sg.Sta} {i : Nat} (h : i < S.th.length) : (rowAt S i).set i (Sg.thereN S i && Sg.used S i) = rowAt S (i + 1) := by
  refine List.ext_getElem (by rw [List.length_set, rowAt_len, rowAt_len]) fun j h1 h2 => ?_
  rw [List.getElem_set, rowAt_get, rowAt_get]
  by_cases e : i = j
  · subst e; rw [if_pos rfl, if_pos (by omega)]
  · rw [if_neg e]
    by_cases hj : j < i
    · rw [if_pos hj, if_pos (by omega)]
    · rw [if_neg hj, if_neg (by omega)]
section
variable {B : Nat} {P : Nat → Prop} {z : World} {v : SvR} {S : Sg.Sta}
set_option maxHeartbeats 8000000 in
set_option maxRecDepth 100000 in
theorem rAfter_sweep (hgB : nG ≤ B) (hBz : B ≤ z.heap.size) (h : SvAt B P z v S) :
    Calls Tryz.prog 66 #[v.val, .string ⟨(119 :: ([] : List UInt8)).toArray⟩] z (AfD B P z (Sg.after S .sweep)) := by
  have hgb : nG ≤ z.heap.size := by omega
  have hhead := op_head 119 []
  have hsome := op_some 119 []
  have hall := rowAt_all S
  have hzero := rowAt_zero S
  generalize (⟨(119 :: ([] : List UInt8)).toArray⟩ : ByteArray) = op at *
  have HAll := Lib.hid hall
  have HZero := Lib.hid hzero
  clear hall hzero
  have h' := h
  obtain ⟨l1, l2, l3, l4⟩ := h.len
  obtain ⟨C, eC, hpo, hit⟩ := h.p
  obtain ⟨tv, hv, pv⟩ := v
  obtain ⟨ta, tc, et⟩ := own_slS h.t
  obtain ⟨ha, hc, eh⟩ := own_slS h.h
  obtain ⟨pa, pc, ep⟩ := own_slS hpo
  dsimp only at et eh ep
  subst et eh ep
  have hlC : C.length = S.pf.length := by rw [eC, List.length_map]
  have n1 := nw_alloc z (.cells #[.slice ta S.tx.length tc, .slice ha S.th.length hc, .slice pa C.length pc] tSta)
  have b1 := heap_new z (.cells #[.slice ta S.tx.length tc, .slice ha S.th.length hc, .slice pa C.length pc] tSta)
  have n2 := nw_alloc (z.alloc (.cells #[.slice ta S.tx.length tc, .slice ha S.th.length hc, .slice pa C.length pc] tSta)) (.cells #[.slice none 0 0, .slice none 0 0, .slice none 0 0] tSta)
  have b2 := heap_new (z.alloc (.cells #[.slice ta S.tx.length tc, .slice ha S.th.length hc, .slice pa C.length pc] tSta)) (.cells #[.slice none 0 0, .slice none 0 0, .slice none 0 0] tSta)
  obtain ⟨w1, hw1⟩ : ∃ y, y = (z.alloc (.cells #[.slice ta S.tx.length tc, .slice ha S.th.length hc, .slice pa C.length pc] tSta)).alloc (.cells #[.slice none 0 0, .slice none 0 0, .slice none 0 0] tSta) := ⟨_, rfl⟩
  have b1' := Nw.keep n2 b1
  have n12 := n1.trans n2
  rw [World.size_alloc] at b2
  rw [← hw1] at n12 b1' b2
  have hs1 : w1.heap.size = z.heap.size + 2 := by rw [hw1, World.size_alloc, World.size_alloc]
  have HCo := Lib.hid (rCopied_c (v := ⟨.slice ta S.tx.length tc, .slice ha S.th.length hc, .slice pa C.length pc⟩) (by omega) (by omega) (h.nw n12))
  have c0 : w1.cell? ⟨z.heap.size, 0, none⟩ = some (.slice ta S.tx.length tc) := by rw [cells_cell b1']; rfl
  have c1 : w1.cell? ⟨z.heap.size, 1, none⟩ = some (.slice ha S.th.length hc) := by rw [cells_cell b1']; rfl
  have c2 : w1.cell? ⟨z.heap.size, 2, none⟩ = some (.slice pa C.length pc) := by rw [cells_cell b1']; rfl
  have HW1 := Lib.hid hw1
  have HN1 := Lib.hid n12
  have HB1 := Lib.hid b1'
  have HB2 := Lib.hid b2
  have H := Lib.hid h
  have HE := Lib.hid eC
  have HPo := Lib.hid hpo
  have HIt := Lib.hid hit
  have hl1 : (C.length : Int) ≤ 1000 := by omega
  clear h n1 b1 n2 b2 b1' n12 hw1 hit hpo eC hlC l4
  unfold SvR.val at *
  go_enter Tryz.func66, Tryz.ntmps66
  go_upto_region 1 with fail
  rw [← HW1.out]
  clear HW1
  go_wp2_with fail
  (with_reducible refine (HCo.out).mono ?_)
  rintro _ w3 ⟨⟨tv', hv', pv'⟩, rfl, hs3, hb3, u3⟩
  obtain ⟨C3, eC3, hpo3, hit3⟩ := hs3.p
  obtain ⟨ta', tc', et⟩ := own_slS hs3.t
  obtain ⟨ha', hc', eh⟩ := own_slS hs3.h
  obtain ⟨pa', pc', ep⟩ := own_slS hpo3
  dsimp only at et eh ep
  subst et eh ep
  have n5 := nw_alloc w3 (.cells #[.slice ta' S.tx.length tc', .slice ha' S.th.length hc', .slice pa' C3.length pc'] tSta)
  have b5 := heap_new w3 (.cells #[.slice ta' S.tx.length tc', .slice ha' S.th.length hc', .slice pa' C3.length pc'] tSta)
  have HS3 := Lib.hid hs3
  have HBk := Lib.hid hb3
  have HU3 := Lib.hid u3
  have hz3 := u3.size
  clear hs3 hb3 u3 hpo3 hit3 HCo c0 c1 c2
  obtain ⟨w4, hw4⟩ : ∃ y, y = w3.alloc (.cells #[.slice ta' S.tx.length tc', .slice ha' S.th.length hc', .slice pa' C3.length pc'] tSta) := ⟨_, rfl⟩
  rw [← hw4] at n5 b5
  have hz4 : w4.heap.size = w3.heap.size + 1 := by rw [hw4, World.size_alloc]
  generalize hq5 : w3.heap.size = q5 at *
  have HB5 := Lib.hid b5
  have HN5 := Lib.hid n5
  have HW4 := Lib.hid hw4
  clear hw4 b5 n5
  have HUs := Lib.hid (fun y (u : Nw z y) (n : Int) => rUsed_c (v := ⟨.slice ta S.tx.length tc, .slice ha S.th.length hc, .slice pa C.length pc⟩) (H.out.nw u) n)
  unfold SvR.val at HUs
  go_upto_region 21 with fail
  rw [← HW4.out]
  clear HW4
  have hhlo : ∀ k, (Value.slice ha' S.th.length hc').ownBlock = some k → w1.heap.size ≤ k ∧ k < q5 := fun k hk => ⟨HBk.out k (Or.inr (Or.inl hk)), by have := (HS3.out.h.lt k hk).2; omega⟩
  have HHlo := Lib.hid hhlo
  have HR0 := Lib.hid (show w4.ownsRow B 4 1 (.slice ha' S.th.length hc') S.th.length ((rowAt S 0).map Value.bool) by rw [HZero.out]; exact owns_upd' HS3.out.h HN5.out (fun _ _ e => e))
  have hn1 : (S.th.length : Int) ≤ 1000 := by omega
  clear hhlo
  go_wp2_with fail
  go_loopw [9] (fun iv wr => ∃ i : Nat, i ≤ S.th.length ∧ iv = .int .i64 (i : Int) ∧ Hid (wr.ownsRow B 4 1 (.slice ha' S.th.length hc') S.th.length ((rowAt S i).map Value.bool)) ∧ Hid (Upd (fun k => (Value.slice ha' S.th.length hc').ownBlock = some k) w4 wr)) (fun iv _ => S.th.length - (intOf iv).toNat)
  case atStart => exact ⟨0, Nat.zero_le _, rfl, HR0, Upd.refl _ _⟩
  case round =>
    obtain ⟨i, hi, rfl, hrow, hup⟩ := hrel
    have hzr := hup.out.size
    have HN4 := Lib.hid (Nw.upd' (HU3.out.trans HN5.out) hup.out (fun k hk => (HHlo.out k hk).1))
    have HBq := Lib.hid (hup.out.keep HB5.out (fun e => by have := HHlo.out q5 e; omega))
    have x1 : wr.cell? ⟨q5, 1, none⟩ = some (.slice ha' S.th.length hc') := by rw [cells_cell HBq.out]; rfl
    by_cases hlt : i < S.th.length
    · have hro := hrow.out
      rcases hro.2 with ⟨e, hn⟩ | ⟨hb, cap', cur, e, _⟩
      · omega
      cases e
      have hcell := hro.cellAt i (by omega)
      rw [List.getElem?_map, List.getElem?_eq_getElem (by rw [rowAt_len]; exact hlt), rowAt_get, if_neg (by omega)] at hcell
      have hcell : wr.cell? ⟨hb, i, none⟩ = some (.bool (Sg.thereN S i)) := hcell
      have HSt := Lib.hid (fun u => hro.stored i (.bool u))
      have HFr := Lib.hid (hro.frozenAt i)
      have hsu := rowAt_succ hlt
      have HSu := Lib.hid hsu
      have HLt := Lib.hid hlt
      have HU1 := Lib.hid (HUs.out wr (HN1.out.trans HN4.out) (i : Int))
      have hUs := fun y (u : Nw wr y) => HUs.out y ((HN1.out.trans HN4.out).trans u) (i : Int)
      have HUy := Lib.hid hUs
      have hb1 := Nw.keep HN4.out HB1.out
      have l0 : ∀ j : Later wr, j.1.cell? ⟨z.heap.size, 0, none⟩ = some (.slice ta S.tx.length tc) := fun j => by rw [cells_cell (Nw.keep j.nw hb1)]; rfl
      have l1' : ∀ j : Later wr, j.1.cell? ⟨z.heap.size, 1, none⟩ = some (.slice ha S.th.length hc) := fun j => by rw [cells_cell (Nw.keep j.nw hb1)]; rfl
      have l2' : ∀ j : Later wr, j.1.cell? ⟨z.heap.size, 2, none⟩ = some (.slice pa C.length pc) := fun j => by rw [cells_cell (Nw.keep j.nw hb1)]; rfl
      have l3' : ∀ j : Later wr, j.1.cell? ⟨q5, 1, none⟩ = some (.slice (some ⟨hb, 0, none⟩) S.th.length hc') := fun j => nw_cellS j.nw x1
      have l4' : ∀ j : Later wr, j.1.cell? ⟨hb, i, none⟩ = some (.bool (Sg.thereN S i)) := fun j => nw_cellS j.nw hcell
      clear hro hsu hUs hb1 HU1
      have hhb := HHlo.out hb rfl
      generalize Sg.used S (i : Int) = us at *
      generalize Sg.thereN S i = th at *
      go_upto_region 24 with fail
      have hd : ∀ (b : Bool), Hid (∀ w5, Nw wr w5 → (w5.setCell ⟨hb, i, none⟩ (.bool b)).ownsRow B 4 1 (.slice (some ⟨hb, 0, none⟩) S.th.length hc') S.th.length (((rowAt S i).set i b).map Value.bool) ∧ Upd (fun k => (Value.slice (some ⟨hb, 0, none⟩) S.th.length hc').ownBlock = some k) w4 (w5.setCell ⟨hb, i, none⟩ (.bool b)) ∧ w5.frozen? ⟨hb, i, none⟩ = false ∧ w5.cell? ⟨hb, i, none⟩ = some (.bool th)) := fun b w5 u5 => by
        have hr5 := owns_upd' hrow.out u5 (fun _ _ e => e)
        refine ⟨by rw [List.map_set]; exact (hr5.stored i (.bool b)).1, (hup.out.nw u5).trans (Upd.mono (S := fun k => k = hb) (Upd.set1 (Upd.refl _ w5) (by omega) i _) (fun k _ e => by rw [e]; rfl)), hr5.frozenAt i, nw_cellS u5 hcell⟩
      cases th with
      | false =>
        refine wp_region_nw_tail 13 (by kernel_rfl) (by kernel_rfl) ?_
        simp only [List.take_succ_cons, List.take_zero, List.drop_succ_cons, List.drop_zero]
        repeat (go_big_quiet_step ((fail)))
        refine wpQuiet_nil ?_
        intro w5 u5
        replace u5 := later_out u5
        obtain ⟨k1, k2, k3, k4⟩ := (hd false).out w5 u5
        have hR : Hid ((w5.setCell ⟨hb, i, none⟩ (.bool false)).ownsRow B 4 1 (.slice (some ⟨hb, 0, none⟩) S.th.length hc') S.th.length ((rowAt S (i + 1)).map Value.bool)) := by
          have := HSu.out
          rw [Bool.false_and] at this
          show World.ownsRow _ _ _ _ _ _ _
          rw [← this]; exact k1
        have HK2 := Lib.hid k2
        have l5 : w5.cell? ⟨q5, 1, none⟩ = some (.slice (some ⟨hb, 0, none⟩) S.th.length hc') := nw_cellS u5 x1
        clear k1 k2 l0 l1' l2' l3' l4' hcell
        go_wp2_with fail
        go_roundw
        case rel => exact ⟨i + 1, HLt.out, by simp, hR, HK2⟩
        case measure =>
          have := HLt.out
          simp only [intOf]
          omega
      | true =>
        refine wp_region_nw_tail 13 (by kernel_rfl) (by kernel_rfl) ?_
        simp only [List.take_succ_cons, List.take_zero, List.drop_succ_cons, List.drop_zero]
        repeat (go_big_quiet_step (((go_at_call 75; exact later_call (HUy.out _ (Later.nw _))))))
        refine wpQuiet_nil ?_
        intro w5 u5
        replace u5 := later_out u5
        obtain ⟨k1, k2, k3, k4⟩ := (hd us).out w5 u5
        have hR : Hid ((w5.setCell ⟨hb, i, none⟩ (.bool us)).ownsRow B 4 1 (.slice (some ⟨hb, 0, none⟩) S.th.length hc') S.th.length ((rowAt S (i + 1)).map Value.bool)) := by
          have := HSu.out
          rw [Bool.true_and] at this
          show World.ownsRow _ _ _ _ _ _ _
          rw [← this]; exact k1
        have HK2 := Lib.hid k2
        have l5 : w5.cell? ⟨q5, 1, none⟩ = some (.slice (some ⟨hb, 0, none⟩) S.th.length hc') := nw_cellS u5 x1
        clear k1 k2 l0 l1' l2' l3' l4' hcell
        go_wp2_with fail
        go_roundw
        case rel => exact ⟨i + 1, HLt.out, by simp, hR, HK2⟩
        case measure =>
          have := HLt.out
          simp only [intOf]
          omega
    · obtain hke : i = S.th.length := by omega
      have hrf := hrow.out
      rw [hke, HAll.out] at hrf
      have HRf := Lib.hid hrf
      rw [hke]
      have hh4 := fun k (hk : (Value.slice ha' S.th.length hc').ownBlock = some k) => hk
      have HT4 := Lib.hid (row_oth (Ts := [9]) (owns_upd' HS3.out.t HN5.out (fun _ _ e => e)) hup.out (oth_own HR0.out (by decide)) (by decide))
      have HP4 := Lib.hid (ps_oth (Ts := [tPf, tPl]) (HS3.out.p.nw HN5.out) hup.out (oth_own HR0.out (by decide)) (by decide) (by decide))
      have HBX := Lib.hid HBq.out
      have HZ2 := Lib.hid HN4.out
      have HZ := Lib.hid (HN1.out.trans HN4.out)
      clear hrow hrf hke hlt hi hh4 x1
      have hb2 := Nw.keep HZ2.out HB2.out
      have e0 : World.cell? wr ⟨q5, 0, none⟩ = some (.slice ta' S.tx.length tc') := by rw [cells_cell HBX.out]; rfl
      have e1 : World.cell? wr ⟨q5, 1, none⟩ = some (.slice ha' S.th.length hc') := by rw [cells_cell HBX.out]; rfl
      have e2 : World.cell? wr ⟨q5, 2, none⟩ = some (.slice pa' C3.length pc') := by rw [cells_cell HBX.out]; rfl
      have r0 : World.cell? wr ⟨z.heap.size + 1, 0, none⟩ = some (.slice none 0 0) := by rw [cells_cell hb2]; rfl
      have r1 : World.cell? wr ⟨z.heap.size + 1, 1, none⟩ = some (.slice none 0 0) := by rw [cells_cell hb2]; rfl
      have r2 : World.cell? wr ⟨z.heap.size + 1, 2, none⟩ = some (.slice none 0 0) := by rw [cells_cell hb2]; rfl
      have f0 := cells_frozen hb2 0
      have f1 := cells_frozen hb2 1
      have f2 := cells_frozen hb2 2
      have HBf := Lib.hid (setCell_block (setCell_block (setCell_block hb2 0 (.slice ta' S.tx.length tc')) 1 (.slice ha' S.th.length hc')) 2 (.slice pa' C3.length pc'))
      have HUf := Lib.hid (Upd.set1 (Upd.set1 (Upd.set1 (Upd.refl _ wr) (b := z.heap.size + 1) (by omega) 0 (.slice ta' S.tx.length tc')) (b := z.heap.size + 1) (by omega) 1 (.slice ha' S.th.length hc')) (b := z.heap.size + 1) (by omega) 2 (.slice pa' C3.length pc'))
      clear hb2
      go_wp2_with fail
      refine bodyPost_ret (af_results _ _ (by simp) HBf.out) rfl ⟨⟨_, _, _⟩, rfl, ?_, Nw.upd' HZ.out HUf.out (fun k hk => by omega)⟩
      have hsf := HUf.out.size
      have hq : Oth [9, 4, tPf, tPl] wr (fun k => k = z.heap.size + 1) := oth_blk (Nw.keep HZ2.out HB2.out) (by decide)
      have hTf := row_oth HT4.out HUf.out hq (by decide)
      have hRf := row_oth HRf.out HUf.out hq (by decide)
      have hPf := ps_oth HP4.out HUf.out hq (by decide) (by decide)
      have hln : (Sg.after S .sweep).th.length = S.th.length := by show ((List.range S.th.length).map _).length = _; rw [List.length_map, List.length_range]
      refine ⟨H.out.g.after trivial, by have := H.out.big; unfold Sg.big at this ⊢; rw [hln]; exact this, H.out.tl, hTf, ?_, ps_mono hPf (fun k hk e => ?_), fun k hk => Or.inr ?_⟩
      · rw [hln]; exact hRf
      · rcases e with e | e
        · exact Or.inl e
        · exact Or.inr (by omega)
      · obtain ⟨C9, _, hp9, _⟩ := hPf
        rcases hk with hk | hk | hk
        · have := (hTf.lt k hk).2
          have := HBk.out k (Or.inl hk)
          omega
        · have := (hRf.lt k hk).2
          have := HHlo.out k hk
          omega
        · have := (hp9.lt k hk).2
          have := HBk.out k (Or.inr (Or.inr hk))
          omega
end
end Go.Proofs.YtiednpagknnfnaaGreatDoor
