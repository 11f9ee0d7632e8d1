/- The statement's same: a program's store and a reference's state that are alike. -/
import Derived.Test.YtiednpagknnfnaaGreatDoorPkST10
import Derived.Test.YtiednpagknnfnaaGreatDoorPkST0
set_option linter.unusedVariables false
set_option linter.unusedSimpArgs false
namespace Go.Proofs.YtiednpagknnfnaaGreatDoor
open Go.RowKit
attribute [local irreducible] Calls CallsIn
namespace Sg
def cntT (S : Sta) (i : Nat) : Nat := ((List.range i).filter (thereN S)).length
theorem cntT_succ (S : Sta) (i : Nat) : cntT S (i + 1) = cntT S i + (if thereN S i = true then 1 else 0) := by
  unfold cntT
  rw [List.range_succ, List.filter_append, List.length_append]
  cases h : thereN S i <;> simp [List.filter, h]
theorem cntT_end (S : Sta) : cntT S S.th.length = (numbers S).length := rfl
theorem cntT_le (S : Sta) (i : Nat) : cntT S i ≤ i := by
  unfold cntT
  exact Nat.le_trans (List.length_filter_le _ _) (by simp)
theorem num_at {S : Sta} {i : Nat} (hi : i < S.th.length) (ht : thereN S i = true) : (numbers S)[cntT S i]? = some i := by
  obtain ⟨m, hm⟩ : ∃ m, S.th.length = i + (m + 1) := ⟨S.th.length - i - 1, by omega⟩
  unfold numbers cntT
  rw [hm, List.range_add, List.filter_append, List.getElem?_append_right (Nat.le_refl _), Nat.sub_self, List.range_succ_eq_map, List.map_cons, Nat.add_zero, List.filter_cons, if_pos ht]
  rfl
end Sg
theorem numI_cell {S : Sg.Sta} {B : Nat} {z : World} {v : Value} (h : z.ownsRow B 3 1 v (numI S).length ((numI S).map intD)) {i : Nat} (hi : i < S.th.length) (ht : Sg.thereN S i = true) :
    Sg.cntT S i < (numI S).length ∧ ∃ b c, v = .slice (some ⟨b, 0, none⟩) (numI S).length c ∧ z.cell? ⟨b, Sg.cntT S i, none⟩ = some (.int .i64 (i : Int)) := by
  have hn := Sg.num_at hi ht
  have hlt := (List.getElem?_eq_some_iff.1 hn).1
  have hl : (numI S).length = (Sg.numbers S).length := by unfold numI; rw [List.length_map]
  refine ⟨by omega, ?_⟩
  rcases h.2 with ⟨e, hn⟩ | ⟨gb, cap, cur, e, _⟩
  · omega
  · subst e
    have := h.cells (g := gb) rfl (Sg.cntT S i) (.int .i64 (i : Int)) (by
      unfold numI
      rw [List.getElem?_map, List.getElem?_map, hn]; rfl)
    rw [add_plain, Nat.zero_add] at this
    exact ⟨gb, cap, rfl, this⟩
set_option maxHeartbeats 8000000 in
set_option maxRecDepth 100000 in
theorem same_c {B B2 : Nat} {P : Nat → Prop} {z : World} {x : SgR} {v : SvR} {S : Sg.Sta} (g : Gl z) (hs : SgAt B z x S) (hv : SvAt B2 P z v S) :
    Calls Tryz.prog 10 #[.pointer (some ⟨x.sb, 0, none⟩), v.val] z fun e z' => e = .returned (.bool true) ∧ Nw z z' := by
  have hgb := g.big
  obtain ⟨l1, l2, l3, l4⟩ := hv.len
  have hv' := hv
  have hs' := hs
  obtain ⟨C, eC, hpo, hit⟩ := hv.p
  obtain ⟨tv, hv0, pv⟩ := v
  obtain ⟨ta, tc, et⟩ := own_slS hv.t
  obtain ⟨ha, hc, eh⟩ := own_slS hv.h
  obtain ⟨pa, pc, ep⟩ := own_slS hpo
  dsimp only at et eh ep
  have hlC : C.length = S.pf.length := by rw [eC, List.length_map]
  rw [hlC] at ep
  subst et eh ep
  have n1 := nw_alloc z (.cells #[.slice ta S.tx.length tc, .slice ha S.th.length hc, .slice pa S.pf.length pc] tSta)
  have b1 := heap_new z (.cells #[.slice ta S.tx.length tc, .slice ha S.th.length hc, .slice pa S.pf.length pc] tSta)
  obtain ⟨w1, hw1⟩ : ∃ y, y = z.alloc (.cells #[.slice ta S.tx.length tc, .slice ha S.th.length hc, .slice pa S.pf.length pc] tSta) := ⟨_, rfl⟩
  rw [← hw1] at n1 b1
  have HNum := Lib.hid (sNumbers_c (hs.nw n1))
  have HS := Lib.hid hs
  have HV := Lib.hid hv'
  have HN1 := Lib.hid n1
  have HB1 := Lib.hid b1
  have HW1 := Lib.hid hw1
  have HC := Lib.hid hlC
  have hl1 : (S.tx.length : Int) ≤ 1000 := by omega
  have hl3 : (S.pf.length : Int) ≤ 1000 := by omega
  have HL4 := Lib.hid l4
  clear hs hv hv' hs' n1 b1 hw1 hpo hit eC hlC l4
  unfold SvR.val
  dsimp only
  go_enter Tryz.func10, Tryz.ntmps10
  go_upto_region 1 with fail
  rw [← HW1.out]
  clear HW1
  go_wp2_with fail
  (with_reducible refine (HNum.out).mono ?_)
  rintro _ w2 ⟨nv, rfl, hown, u2⟩
  obtain ⟨na, nc, rfl⟩ := own_slS hown
  have HOw := Lib.hid hown
  have HU2 := Lib.hid u2
  clear hown u2 HNum
  go_wp2_with fail
  go_loopw [6, 7] (fun kv iv wr => ∃ i : Nat, i ≤ S.tx.length ∧ iv = .int .i64 (i : Int) ∧ kv = .int .i64 (Sg.cntT S i : Int) ∧ Hid (Nw w2 wr)) (fun _ iv _ => S.tx.length - (intOf iv).toNat)
  case atStart => exact ⟨0, Nat.zero_le _, rfl, rfl, Upd.refl _ _⟩
  case round =>
    obtain ⟨i, hi, rfl, rfl, hu⟩ := hrel
    have U := (HN1.out.trans HU2.out).trans hu.out
    have hb := Nw.keep (HU2.out.trans hu.out) HB1.out
    have c0 : wr.cell? ⟨z.heap.size, 0, none⟩ = some (.slice ta S.tx.length tc) := by rw [cells_cell hb]; rfl
    have c1 : wr.cell? ⟨z.heap.size, 1, none⟩ = some (.slice ha S.th.length hc) := by rw [cells_cell hb]; rfl
    have c2 : wr.cell? ⟨z.heap.size, 2, none⟩ = some (.slice pa S.pf.length pc) := by rw [cells_cell hb]; rfl
    by_cases hlt : i < S.tx.length
    · have hlth : i < S.th.length := by have := HL4.out; omega
      obtain ⟨a', c', e, ht⟩ := HV.out.tcell
      cases e
      obtain ⟨tb, rfl, htc⟩ := ht i hlt
      obtain ⟨a', c', e, hh⟩ := HV.out.hcell
      cases e
      obtain ⟨hb', rfl, hhc⟩ := hh i hlth
      have htc := nw_cellS U htc
      have hhc := nw_cellS U hhc
      have hiI : I64 (i : Int) := by unfold I64; omega
      have hT := sText_c (HS.out.nw U) hiI
      rw [there_natR, there_at hlth, Int.toNat_natCast, text_at hlt] at hT
      have htl := HV.out.tl _ (List.getElem_mem hlt)
      have hF := sFind_c (HS.out.nw U) (t := S.tx[i]) (by omega)
      have hR := fun (y : World) (u : Nw wr y) => rFind_c (HV.out.nw (U.trans u)) S.tx[i]
      have hsc := Sg.cntT_succ S i
      have hcl := Sg.cntT_le S i
      have hci : (Sg.cntT S i : Int) ≤ 1000 := by omega
      have hcell := fun ht => numI_cell (owns_upd' HOw.out hu.out (fun _ _ s => s)) hlth ht
      rw [there_at hlth] at hsc hcell
      unfold bsV SvR.val at *
      dsimp only at hR
      generalize S.tx[i] = t at *
      generalize S.th[i] = th at *
      generalize ((Sg.find S t).getD 0 : Nat) = fn at *
      generalize (Sg.find S t).isSome = fb at *
      have HT := Lib.hid hT
      have HF := Lib.hid hF
      have HR := Lib.hid hR
      have HLt := Lib.hid hlt
      have HSc := Lib.hid hsc
      have HCell := Lib.hid hcell
      clear hT hF hR hsc hcell htl ht hh hcl
      cases th with
      | false =>
        have HSc := Lib.hid (show Sg.cntT S (i + 1) = Sg.cntT S i by rw [HSc.out]; rfl)
        simp only [Bool.false_eq_true, if_false] at HT
        go_wp2_with fail
        (with_reducible refine (HT.out).mono ?_)
        rintro _ _ ⟨rfl, rfl⟩
        go_wp2_with fail
        (with_reducible refine (HF.out).mono ?_)
        rintro _ _ ⟨rfl, rfl⟩
        have l0 : ∀ j : Later wr, j.1.cell? ⟨z.heap.size, 0, none⟩ = some (.slice (some ⟨tb, 0, none⟩) S.tx.length tc) := fun j => nw_cellS j.nw c0
        have l1' : ∀ j : Later wr, j.1.cell? ⟨z.heap.size, 1, none⟩ = some (.slice (some ⟨hb', 0, none⟩) S.th.length hc) := fun j => nw_cellS j.nw c1
        have l2' : ∀ j : Later wr, j.1.cell? ⟨z.heap.size, 2, none⟩ = some (.slice pa S.pf.length pc) := fun j => nw_cellS j.nw c2
        have l3' : ∀ j : Later wr, j.1.cell? ⟨tb, i, none⟩ = some (.string ⟨t.toArray⟩) := fun j => nw_cellS j.nw htc
        go_upto_region 8 with fail
        refine wp_region_nw (by kernel_rfl) (by kernel_rfl) ?_
        repeat (go_big_quiet_step ((go_at_call 37; exact later_call (HR.out _ (Later.nw _)))))
        refine wpQuiet_nil ?_
        intro w5 u5
        replace u5 := later_out u5
        have e0 := nw_cellS u5 c0
        have e1 := nw_cellS u5 c1
        have e2 := nw_cellS u5 c2
        have e3 := nw_cellS u5 htc
        have e4 := nw_cellS u5 hhc
        clear l0 l1' l2' l3' c0 c1 c2
        go_wp2_with fail
        go_roundw
        case rel => exact ⟨i + 1, HLt.out, by simp, by rw [HSc.out], hu.out.trans u5⟩
        case measure =>
          have := HLt.out
          simp only [intOf]
          omega
      | true =>
        have HSc := Lib.hid (show Sg.cntT S (i + 1) = Sg.cntT S i + 1 by rw [HSc.out]; rfl)
        obtain ⟨hk, nb, nc', e, hnc⟩ := HCell.out rfl
        cases e
        have hki : (Sg.cntT S i : Int) < (numI S).length := by omega
        simp only [if_true] at HT
        go_wp2_with fail
        (with_reducible refine (HT.out).mono ?_)
        rintro _ _ ⟨rfl, rfl⟩
        go_wp2_with fail
        (with_reducible refine (HF.out).mono ?_)
        rintro _ _ ⟨rfl, rfl⟩
        have l0 : ∀ j : Later wr, j.1.cell? ⟨z.heap.size, 0, none⟩ = some (.slice (some ⟨tb, 0, none⟩) S.tx.length tc) := fun j => nw_cellS j.nw c0
        have l1' : ∀ j : Later wr, j.1.cell? ⟨z.heap.size, 1, none⟩ = some (.slice (some ⟨hb', 0, none⟩) S.th.length hc) := fun j => nw_cellS j.nw c1
        have l2' : ∀ j : Later wr, j.1.cell? ⟨z.heap.size, 2, none⟩ = some (.slice pa S.pf.length pc) := fun j => nw_cellS j.nw c2
        have l3' : ∀ j : Later wr, j.1.cell? ⟨tb, i, none⟩ = some (.string ⟨t.toArray⟩) := fun j => nw_cellS j.nw htc
        go_upto_region 8 with fail
        refine wp_region_nw (by kernel_rfl) (by kernel_rfl) ?_
        repeat (go_big_quiet_step ((go_at_call 37; exact later_call (HR.out _ (Later.nw _)))))
        refine wpQuiet_nil ?_
        intro w5 u5
        replace u5 := later_out u5
        have e0 := nw_cellS u5 c0
        have e1 := nw_cellS u5 c1
        have e2 := nw_cellS u5 c2
        have e3 := nw_cellS u5 htc
        have e4 := nw_cellS u5 hhc
        clear l0 l1' l2' l3' c0 c1 c2
        have e5 := nw_cellS u5 hnc
        have hkl : ¬ ((numI S).length : Int) ≤ (Sg.cntT S i : Int) := by omega
        go_wp2_with fail
        go_roundw
        case rel => exact ⟨i + 1, HLt.out, by simp, by rw [HSc.out]; simp, hu.out.trans u5⟩
        case measure =>
          have := HLt.out
          simp only [intOf]
          omega
    · obtain rfl : i = S.tx.length := by omega
      have hk : Sg.cntT S S.tx.length = (numI S).length := by
        rw [HL4.out, Sg.cntT_end]; unfold numI; rw [List.length_map]
      have HP := Lib.hid (sProfiles_c (HS.out.nw U))
      have hnl : (nmsS S).length = S.pf.length := by unfold nmsS; rw [List.length_map]
      rw [hnl] at HP
      rw [hk]
      clear hk hnl c1
      go_wp2_with fail
      (with_reducible refine (HP.out).mono ?_)
      rintro _ w3 ⟨mv, rfl, hnm, u3⟩
      obtain ⟨ma, mc, rfl⟩ := own_slS hnm
      have d2 := nw_cellS u3 c2
      have HU3 := Lib.hid (U.trans u3)
      have HNm := Lib.hid hnm
      have HB3 := Lib.hid (Nw.keep u3 hb)
      clear U u3 hnm HP c0 c2 hb
      go_wp2_with fail
      go_loopw [15] (fun iv wr => ∃ j : Nat, j ≤ S.pf.length ∧ iv = .int .i64 (j : Int) ∧ Hid (Nw w3 wr)) (fun iv _ => S.pf.length - (intOf iv).toNat)
      case atStart => exact ⟨0, Nat.zero_le _, rfl, Upd.refl _ _⟩
      case round =>
        obtain ⟨j, hj, rfl, hu'⟩ := hrel
        have U := HU3.out.trans hu'.out
        have hb := Nw.keep hu'.out HB3.out
        have c0 : wr.cell? ⟨z.heap.size, 0, none⟩ = some (.slice ta S.tx.length tc) := by rw [cells_cell hb]; rfl
        have c2 : wr.cell? ⟨z.heap.size, 2, none⟩ = some (.slice pa S.pf.length pc) := by rw [cells_cell hb]; rfl
        by_cases hlt2 : j < S.pf.length
        · have hnm := owns_upd' HNm.out hu'.out (fun _ _ s => s)
          rcases hnm.2 with ⟨_, hn⟩ | ⟨nb, cap, cur, e, _⟩
          · omega
          cases e
          have hnc := hnm.cells (g := nb) rfl j (.string ⟨(S.pf[j]).nm.toArray⟩) (by unfold nmsS; rw [List.map_map, List.getElem?_map, List.getElem?_eq_getElem hlt2]; rfl)
          rw [add_plain, Nat.zero_add] at hnc
          obtain ⟨a', c', e, hpc⟩ := HV.out.p.cells
          cases e
          obtain ⟨pb, iv, rfl, hp0, hp1, hpi⟩ := hpc j hlt2
          have hmem : S.pf[j] ∈ S.pf := List.getElem_mem hlt2
          have hrl := right_len (HV.out.g.right _ hmem)
          have hP := sProfile_c (HS.out.nw U) (nm := (S.pf[j]).nm) (by omega)
          rw [prof_mem HS.out.g hmem] at hP
          dsimp only [Option.elim_some, Option.isSome_some] at hP
          unfold bsV at hP
          have hp0 := nw_cellS U hp0
          have hp1 := nw_cellS U hp1
          have hpi := hpi.upd U (fun _ _ s => s)
          have hil := hrl.2.1
          generalize S.pf[j] = q at *
          obtain ⟨ia, ic, rfl⟩ := own_slS hpi.1
          have HP := Lib.hid hP
          have HPi := Lib.hid hpi
          have HLt := Lib.hid hlt2
          clear hP hpi hmem hrl hpc hnm
          go_wp2_with fail
          (with_reducible refine (HP.out).mono ?_)
          rintro _ w4 ⟨pv', rfl, hits, u4⟩
          obtain ⟨ja, jc, rfl⟩ := own_slS hits.1
          have n5 := nw_alloc w4 (.cells #[.string ⟨q.nm.toArray⟩, .slice ja q.its.length jc] tPf)
          have b5 := heap_new w4 (.cells #[.string ⟨q.nm.toArray⟩, .slice ja q.its.length jc] tPf)
          obtain ⟨w5, hw5⟩ : ∃ y, y = w4.alloc (.cells #[.string ⟨q.nm.toArray⟩, .slice ja q.its.length jc] tPf) := ⟨_, rfl⟩
          rw [← hw5] at n5 b5
          have U5 := u4.trans n5
          have HSm := Lib.hid (fun (y : World) (u : Nw w5 y) => same_prof_c (p := q) ((hits.upd (n5.trans u) (fun _ _ s => s)).sl (by omega)) ((HPi.out.upd (U5.trans u) (fun _ _ s => s)).sl (by omega)) (by omega))
          have k0 : ∀ j : Later w5, j.1.cell? ⟨w4.heap.size, 0, none⟩ = some (.string ⟨q.nm.toArray⟩) := fun j => by rw [cells_cell (Nw.keep j.nw b5)]; rfl
          have k1 : ∀ j : Later w5, j.1.cell? ⟨w4.heap.size, 1, none⟩ = some (.slice ja q.its.length jc) := fun j => by rw [cells_cell (Nw.keep j.nw b5)]; rfl
          have k2 : ∀ j' : Later w5, j'.1.cell? ⟨nb, j, none⟩ = some (.string ⟨q.nm.toArray⟩) := fun j => nw_cellS (U5.trans j.nw) hnc
          have k3 : ∀ j' : Later w5, j'.1.cell? ⟨pb, j * 2, none⟩ = some (.string ⟨q.nm.toArray⟩) := fun j => nw_cellS (U5.trans j.nw) hp0
          have k4 : ∀ j' : Later w5, j'.1.cell? ⟨pb, j * 2 + 1, none⟩ = some (.slice ia q.its.length ic) := fun j => nw_cellS (U5.trans j.nw) hp1
          have k5 : ∀ j' : Later w5, j'.1.cell? ⟨z.heap.size, 2, none⟩ = some (.slice (some ⟨pb, 0, none⟩) S.pf.length pc) := fun j => nw_cellS (U5.trans j.nw) c2
          have HU5 := Lib.hid (hu'.out.trans U5)
          have HW5 := Lib.hid hw5
          clear hits u4 n5 b5 hw5 U5 hnc hp0 hp1 c0 c2 hb U
          generalize (⟨q.nm.toArray⟩ : ByteArray) = qn at *
          have hqq : (qn.toList == qn.toList) = true := beq_self_eq_true _
          go_upto_region 22 with fail
          rw [← HW5.out]
          clear HW5
          refine wp_region_nw (by kernel_rfl) (by kernel_rfl) ?_
          repeat (go_big_quiet_step ((go_at_call 40; exact later_call (HSm.out _ (Later.nw _)))))
          refine wpQuiet_nil ?_
          intro w6 u6
          replace u6 := later_out u6
          go_wp2_with fail
          go_roundw
          case rel => exact ⟨j + 1, HLt.out, by simp, HU5.out.trans u6⟩
          case measure =>
            have := HLt.out
            simp only [intOf]
            omega
        · have t1 : Sg.there S (S.tx.length : Int) = false := by
            rw [there_natR]
            refine Bool.eq_false_iff.2 fun h => ?_
            have := Sg.thereN_lt h
            have := HL4.out
            omega
          have t2 : Sg.there S (-1) = false := rfl
          have hT1 := Lib.hid (fun (y : World) (u : Nw z y) => sText_c (HS.out.nw u) (n := (S.tx.length : Int)) (by unfold I64; omega))
          have hT2 := Lib.hid (fun (y : World) (u : Nw z y) => sText_c (HS.out.nw u) (n := (-1 : Int)) (by unfold I64; omega))
          rw [t1] at hT1
          rw [t2] at hT2
          simp only [Bool.false_eq_true, if_false, bsV] at hT1 hT2
          have hT1' := Lib.hid (hT1.out _ U)
          have hT2' := Lib.hid (hT2.out _ U)
          clear t1 t2 hT1 hT2
          go_wp2_with fail
          (with_reducible refine (hT1'.out).mono ?_)
          rintro _ _ ⟨rfl, rfl⟩
          go_wp2_with fail
          (with_reducible refine (hT2'.out).mono ?_)
          rintro _ _ ⟨rfl, rfl⟩
          go_wp2_with fail
          go_ret
          exact ⟨rfl, U⟩
end Go.Proofs.YtiednpagknnfnaaGreatDoor
