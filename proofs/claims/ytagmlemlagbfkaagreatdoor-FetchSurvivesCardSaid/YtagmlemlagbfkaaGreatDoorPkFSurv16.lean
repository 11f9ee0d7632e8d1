/- torn. -/
import Derived.Test.YtagmlemlagbfkaaGreatDoorPkFSurv3
import Derived.Test.YtagmlemlagbfkaaGreatDoorPkFSurv14
import Derived.Test.YtagmlemlagbfkaaGreatDoorPkFSurv15
import Derived.Test.YtagmlemlagbfkaaGreatDoorPkFSurv12
namespace Go.Proofs.YtagmlemlagbfkaaGreatDoor
open Go.RowKit
set_option linter.unusedVariables false
set_option linter.unusedSimpArgs false
attribute [local irreducible] Calls

theorem sl_one {w : World} {b off cap : Nat} {l : List Int} {i : Nat} (hi2 : i < l.length) (hle : l.length ≤ cap) (hcap : cap ≤ maxLen) (hb : b < w.heap.size) (hc : ∀ k (h : k < l.length), w.cell? ⟨b, off + k, none⟩ = some (.int .i64 l[k])) :
    Sl 0 w.heap.size w (.slice (some ⟨b, off + i, none⟩) 1 (cap - i)) ([l[i]].map intD) := by
  refine Or.inr ⟨b, off + i, cap - i, rfl, ?_, ?_, Nat.zero_le _, hb, hb, fun k hk => ?_⟩
  · show 1 ≤ cap - i; omega
  · omega
  · obtain rfl : k = 0 := by simpa using hk
    rw [Nat.add_zero, hc i hi2]; rfl
set_option maxHeartbeats 2000000 in
set_option maxRecDepth 100000 in
theorem torn_c (lo hi lo2 hi2 lo3 hi3 : Nat) (mp mz : Int) (cv : Value) (mc : List Int) (v1 v2 : Value) (was now : List Int) (w : World) (hm : Sl lo hi w cv (mc.map intD)) (hm60 : mc.length ≤ 60) (h1 : Sl lo2 hi2 w v1 (was.map intD)) (hw60 : was.length ≤ 60) (h2 : Sl lo3 hi3 w v2 (now.map intD)) (hn60 : now.length ≤ 60)
    (hw : ∀ x ∈ was, ∃ k : Nat, ∃ hk : k < mc.length, x = k) (p : Int) (hp : ∀ x ∈ was, x ∉ now → ∃ k : Nat, ∃ hk : k < mc.length, x = k ∧ mc[k] = p) :
    Calls Tryz.prog 50 #[.agg #[.int .i64 mp, .int .i64 mz, cv], v1, v2] w fun e w' => e = .returned (.bool true) ∧ Nw w w' := by
  obtain ⟨am, cm, rfl, -, hcm⟩ := int_cells hm
  have n1 := nw_alloc w (.cells #[.int .i64 mp, .int .i64 mz, .slice am mc.length cm] tManU)
  have b1 : (w.alloc (.cells #[.int .i64 mp, .int .i64 mz, .slice am mc.length cm] tManU)).heap[w.heap.size]? = some (.cells #[.int .i64 mp, .int .i64 mz, .slice am mc.length cm] tManU (0, 0)) := heap_new _ _
  generalize hW : w.alloc (.cells #[.int .i64 mp, .int .i64 mz, .slice am mc.length cm] tManU) = W at *
  have k2 : W.cell? ⟨w.heap.size, 2, none⟩ = some (.slice am mc.length cm) := by rw [cells_cell b1]; rfl
  have HK2 := Lib.hid k2
  have HMC := Lib.hid (int_cells (hm.nw n1))
  have HS1 := Lib.hid (h1.nw n1)
  have HS2 := Lib.hid (h2.nw n1)
  obtain ⟨a1, c1, rfl, -, -⟩ := int_cells h1
  obtain ⟨a2, c2, rfl, -, -⟩ := int_cells h2
  have HU := Lib.hid n1
  have HW := Lib.hid hw
  have HP := Lib.hid hp
  have hm1 : (mc.length : Int) ≤ 60 := by omega
  have hw1 : (was.length : Int) ≤ 60 := by omega
  have HWW := Lib.hid hW
  clear hm h1 h2 hcm n1 b1 k2 hw hp
  go_enter Tryz.func50, Tryz.ntmps50
  go_upto_region 1 with fail
  clear hW
  go_wp2_with fail
  go_loopw [7, 8] (fun pv iv wr => ∃ (i : Nat) (q : Int), i ≤ was.length ∧ iv = .int .i64 (i : Int) ∧ pv = .int .i64 q ∧ Hid (q = -1 ∨ q = p) ∧ Hid (Nw W wr)) (fun pv iv _ => was.length - (intOf iv).toNat)
  case atStart => exact ⟨0, -1, Nat.zero_le _, rfl, rfl, Or.inl rfl, Upd.refl _ _⟩
  case round =>
    obtain ⟨i, q, hi, rfl, rfl, HQ, U⟩ := hrel
    by_cases hlt : i < was.length
    · have hlt1 : (i : Int) < was.length := by omega
      rcases HS1.out with ⟨_, _, _, hnil⟩ | ⟨b1, o1, cap, e, hle, hcap, _, _, hb1, hc1⟩
      · rw [List.map_eq_nil_iff] at hnil; simp [hnil] at hlt
      rw [List.length_map] at e hle
      injection e with e3 e4 e5
      subst e3 e5
      clear e4
      have hc2 : ∀ k (h : k < was.length), W.cell? ⟨b1, o1 + k, none⟩ = some (.int .i64 was[k]) := fun k h => by rw [hc1 k (by simpa using h), List.getElem?_map, List.getElem?_eq_getElem h]; rfl
      have hone := (sl_one hlt hle hcap hb1 hc2).nw U.out
      have hcap1 : (c1 : Int) ≤ 9223372036854775807 := by unfold maxLen at hcap; omega
      have hle1 : (was.length : Int) ≤ c1 := by omega
      obtain ⟨k, hk, hwk⟩ := HW.out was[i] (List.getElem_mem hlt)
      have s0 : ∀ j : Later wr, j.1.cell? ⟨b1, o1 + i, none⟩ = some (.int .i64 was[i]) := fun j => later_cell j (nw_cell U.out (hc2 i hlt))
      have m0 : ∀ j : Later wr, j.1.cell? ⟨w.heap.size, 2, none⟩ = some (.slice am mc.length cm) := fun j => later_cell j (nw_cell U.out HK2.out)
      rcases HMC.out with ⟨_, _, e, _, hnil | ⟨bm, om, e2, _, _, hcm⟩⟩
      · simp [hnil] at hk
      injection e with e3 e4 e5
      subst e3 e5
      subst e2
      clear e4
      have m1 : ∀ j : Later wr, j.1.cell? ⟨bm, om + k, none⟩ = some (.int .i64 mc[k]) := fun j => later_cell j (nw_cell U.out (hcm k hk))
      have hwi := Lib.hid (fun (y : World) (u : Nw wr y) => within_c _ _ _ _ _ _ [was[i]] now y (hone.nw u) (HS2.out.nw (U.out.trans u)) (by simp) (by omega))
      have hpi := Lib.hid (HP.out was[i] (List.getElem_mem hlt))
      have hk1 : (k : Int) < mc.length := by omega
      have hk3 : decide ((k : Int) < 0) = false := decide_eq_false (by omega)
      have hk4 : decide ((mc.length : Int) ≤ (k : Int)) = false := decide_eq_false (by omega)
      clear hone hc1 hc2 hcm hcap hle
      rw [hwk] at s0 hwi hpi
      clear hwk
      go_wp2_with fail
      refine wp_region_nw (by kernel_rfl) (by kernel_rfl) ?_
      repeat (go_big_quiet_step ((fail)))
      refine wpQuiet_nil ?_
      intro w5 u5
      replace u5 := later_out u5
      have hwi5 := Lib.hid (hwi.out w5 u5)
      have U5 := Lib.hid (U.out.trans u5)
      have s5 : ∀ j : Later w5, j.1.cell? ⟨b1, o1 + i, none⟩ = some (.int .i64 (k : Int)) := fun j => s0 ⟨j.1, u5.trans j.2⟩
      have m5 : ∀ j : Later w5, j.1.cell? ⟨w.heap.size, 2, none⟩ = some (.slice (some ⟨bm, om, none⟩) mc.length cm) := fun j => m0 ⟨j.1, u5.trans j.2⟩
      have n5 : ∀ j : Later w5, j.1.cell? ⟨bm, om + k, none⟩ = some (.int .i64 mc[k]) := fun j => m1 ⟨j.1, u5.trans j.2⟩
      clear hwi s0 m0 m1 u5
      by_cases hin : (k : Int) ∈ now
      · have hwd : wdB [(k : Int)] now = true := by unfold wdB; rw [List.all_cons, decide_eq_true hin]; rfl
        rw [hwd] at hwi5
        clear hin hwd hpi
        go_wp2_with fail
        (with_reducible refine (hwi5.out).mono ?_)
        rintro _ w6 ⟨rfl, u6⟩
        have U6 := Lib.hid (U5.out.trans u6)
        clear u6 hwi5 s5 m5 n5
        go_wp2_with fail
        go_roundw
        case rel => exact ⟨i + 1, q, by omega, by go_num, rfl, HQ.out, U6.out⟩
        case measure => simp [intOf]; omega
      · have hwd : wdB [(k : Int)] now = false := by unfold wdB; rw [List.all_cons, decide_eq_false hin]; rfl
        rw [hwd] at hwi5
        obtain ⟨k', hk', hkk, hpp⟩ := hpi.out hin
        obtain rfl : k = k' := by omega
        rw [hpp] at n5
        clear hin hwd hpi hkk hpp
        go_wp2_with fail
        (with_reducible refine (hwi5.out).mono ?_)
        rintro _ w6 ⟨rfl, u6⟩
        have U6 := Lib.hid (U5.out.trans u6)
        have s6 : ∀ j : Later w6, j.1.cell? ⟨b1, o1 + i, none⟩ = some (.int .i64 (k : Int)) := fun j => s5 ⟨j.1, u6.trans j.2⟩
        have m6 : ∀ j : Later w6, j.1.cell? ⟨w.heap.size, 2, none⟩ = some (.slice (some ⟨bm, om, none⟩) mc.length cm) := fun j => m5 ⟨j.1, u6.trans j.2⟩
        have n6 : ∀ j : Later w6, j.1.cell? ⟨bm, om + k, none⟩ = some (.int .i64 p) := fun j => n5 ⟨j.1, u6.trans j.2⟩
        clear u6 hwi5 s5 m5 n5
        go_wp2_with fail
        refine wp_region_nw (by kernel_rfl) (by kernel_rfl) ?_
        repeat (go_big_quiet_step ((fail)))
        refine wpQuiet_nil ?_
        intro w7 u7
        replace u7 := later_out u7
        have U7 := Lib.hid (U6.out.trans u7)
        clear s6 m6 n6 u7
        by_cases hq : q = p
        · subst hq
          by_cases hq0 : 0 ≤ q
          · have e0 : decide (0 ≤ q) = true := decide_eq_true hq0
            clear hq0
            go_wp2_with fail
            go_roundw
            case rel => exact ⟨i + 1, q, by omega, by go_num, rfl, HQ.out, U7.out⟩
            case measure => simp [intOf]; omega
          · have e0 : decide (0 ≤ q) = false := decide_eq_false hq0
            clear hq0
            go_wp2_with fail
            go_roundw
            case rel => exact ⟨i + 1, q, by omega, by go_num, rfl, HQ.out, U7.out⟩
            case measure => simp [intOf]; omega
        · obtain rfl : q = -1 := HQ.out.resolve_right hq
          clear hq
          go_wp2_with fail
          go_roundw
          case rel => exact ⟨i + 1, p, by omega, by go_num, rfl, Or.inr rfl, U7.out⟩
          case measure => simp [intOf]; omega
    · obtain rfl : i = was.length := by omega
      go_wp2_with fail
      go_ret
      exact ⟨rfl, HU.out.trans U.out⟩
end Go.Proofs.YtagmlemlagbfkaaGreatDoor
