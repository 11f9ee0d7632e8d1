/- The contracts of the reference's list readers, and of SameNums, SameTexts (layer 1). Written by tools/gen_reft.py. -/
import Derived.Test.YtiambnllidingaaGreatDoorRef
import Derived.Test.YtiambnllidingaaGreatDoorRdrC
namespace Go.Proofs.YtiambnllidingaaGreatDoor
open Go.RowKit
set_option linter.unusedVariables false
set_option linter.unusedSimpArgs false
attribute [local irreducible] Calls

set_option maxHeartbeats 400000 in
theorem SameTextsQ (lo1 hi1 lo2 hi2 : Nat) (v1 v2 : Value) (l1 l2 : List (List UInt8)) (w : World) (h1 : Sl lo1 hi1 w v1 (l1.map (fun s => Value.string ⟨s.toArray⟩))) (h2 : Sl lo2 hi2 w v2 (l2.map (fun s => Value.string ⟨s.toArray⟩))) :
    Calls Tryz.prog 27 #[v1, v2] w fun e w' => e = .returned (.bool (decide (l1 = l2))) ∧ Nw w w' := by
  obtain ⟨a1, cap1, rfl, hm1, ha1⟩ := h1.open_
  obtain ⟨a2, cap2, rfl, hm2, ha2⟩ := h2.open_
  rw [List.length_map] at hm1 hm2
  simp only [List.length_map]
  unfold maxLen at hm1 hm2
  by_cases hlen : l1.length = l2.length
  · have hb : ((l1.length : Int) != (l2.length : Int)) = false := by rw [hlen]; simp
    have Hlen := Lib.hid hlen; clear hlen
    have Ha1 := Lib.hid ha1; clear ha1
    have Ha2 := Lib.hid ha2; clear ha2
    go_enter Tryz.func27, Tryz.ntmps27
    go_wp2_with fail
    go_loopw [5] (fun i wr => ∃ k : Nat, k ≤ l1.length ∧ i = .int .i64 k ∧ Hid (l1.take k = l2.take k) ∧ Nw w wr) (fun i _ => l1.length - (intOf i).toNat)
    case atStart => exact ⟨0, Nat.zero_le _, rfl, rfl, Upd.refl _ _⟩
    case round =>
      obtain ⟨k, hk, rfl, hq, u⟩ := hrel
      by_cases hlt : k < l1.length
      · have hlt2 : k < l2.length := by rw [← Hlen.out]; exact hlt
        rcases Ha1.out with ⟨_, _, hnil⟩ | ⟨b1, o1, rfl, _, _, hb1, hc1⟩
        · rw [List.map_eq_nil_iff] at hnil; simp [hnil] at hlt
        · rcases Ha2.out with ⟨_, _, hnil⟩ | ⟨b2, o2, rfl, _, _, hb2, hc2⟩
          · rw [List.map_eq_nil_iff] at hnil; simp [hnil] at hlt2
          · have e1 : wr.cell? ⟨b1, o1 + k, none⟩ = some (.string ⟨l1[k].toArray⟩) := by
              rw [u.below.cell hb1, hc1 k (by simpa using hlt)]; simp [hlt]
            have e2 : wr.cell? ⟨b2, o2 + k, none⟩ = some (.string ⟨l2[k].toArray⟩) := by
              rw [u.below.cell hb2, hc2 k (by simpa using hlt2)]; simp [hlt2]
            have hs1 := Lib.hid (List.take_succ_eq_append_getElem hlt)
            have hs2 := Lib.hid (List.take_succ_eq_append_getElem hlt2)
            clear hc1 hc2
            have hkz : (k : Int) < (l2.length : Int) := by omega
            by_cases he : l1[k] = l2[k]
            · have hbb : (!(l1[k] == l2[k])) = false := by rw [he]; simp
              have He := Lib.hid he; clear he
              go_wp2_with fail
              go_quiet (fail)
              obtain ⟨w1, ew, u1⟩ := nw_drewN wr nq
              rw [ew]; clear ew
              go_wp2_with fail
              go_roundw
              case rel => exact ⟨k + 1, by omega, by go_num, by show _ = _; rw [hs1.out, hs2.out, hq.out, He.out], u.trans u1⟩
              case measure => simp [intOf]; omega
            · have hbb : (!(l1[k] == l2[k])) = true := by simpa using he
              have hne : Hid (decide (l1 = l2) = false) := by
                refine decide_eq_false fun e => he ?_
                subst e; rfl
              have He := Lib.hid he; clear he
              go_wp2_with fail
              go_quiet (fail)
              obtain ⟨w1, ew, u1⟩ := nw_drewN wr nq
              rw [ew]; clear ew
              go_wp2_with fail
              go_ret
              rw [hne.out]
              exact ⟨rfl, u.trans u1⟩
      · have heq : Hid (decide (l1 = l2) = true) := by
          refine decide_eq_true ?_
          have := hq.out
          rwa [List.take_of_length_le (by omega), List.take_of_length_le (by rw [← Hlen.out]; omega)] at this
        go_wp2_with fail
        go_ret
        rw [heq.out]
        exact ⟨rfl, u⟩
  · have hb : ((l1.length : Int) != (l2.length : Int)) = true := by rw [bne_iff_ne]; omega
    have hne : Hid (decide (l1 = l2) = false) := decide_eq_false fun e => hlen (by rw [e])
    have Hlen := Lib.hid hlen; clear hlen
    go_enter Tryz.func27, Tryz.ntmps27
    go_wp2_with fail
    go_ret
    rw [hne.out]
    exact ⟨rfl, Upd.refl _ _⟩
end Go.Proofs.YtiambnllidingaaGreatDoor
