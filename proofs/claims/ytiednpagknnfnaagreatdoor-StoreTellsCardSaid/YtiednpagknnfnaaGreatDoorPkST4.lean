/- ladinglaw39.few. -/
import Derived.Test.YtiednpagknnfnaaGreatDoorPkST3
set_option linter.unusedVariables false
set_option linter.unusedSimpArgs false
namespace Go.Proofs.YtiednpagknnfnaaGreatDoor
open Go.RowKit
attribute [local irreducible] Calls CallsIn
theorem few_no {C : List GC} {i : Nat} (h : i < C.length) (hi : i < 17) (hb : fewOp C[i] = false) : fewSB C = false := by
  unfold fewSB
  cases hh : (C.take 17).all fewOp with
  | false => rfl
  | true =>
    have := List.all_eq_true.1 hh C[i] (List.mem_take_iff_getElem.2 ⟨i, by omega, rfl⟩)
    rw [hb] at this; cases this
theorem few_all {C : List GC} {i : Nat} (hi : ¬ (i < C.length ∧ i < 17)) (h : ∀ j (hj : j < C.length), j < i → fewOp C[j] = true) : fewSB C = decide (C.length ≤ 16) := by
  unfold fewSB
  have : (C.take 17).all fewOp = true := List.all_eq_true.2 fun c hc => by
    obtain ⟨j, hj, rfl⟩ := List.mem_take_iff_getElem.1 hc
    exact h j (by omega) (by omega)
  rw [this, Bool.true_and]
set_option maxHeartbeats 4000000 in
set_option maxRecDepth 100000 in
theorem few_c {hi : Nat} {v : Value} {C : List GC} {w : World} (h : GopS hi w v C) : Calls Tryz.prog 5 #[v] w fun e w' => e = .returned (.bool (fewSB C)) ∧ w = w' := by
  obtain ⟨a, cap, rfl, hm, hc⟩ := gop_cells h
  unfold maxLen at hm
  have hm1 : (C.length : Int) ≤ 9223372036854775807 := by omega
  have Hc := Lib.hid hc
  have He := Lib.hid h.each
  clear h hc hm
  go_enter Tryz.func5, Tryz.ntmps5
  go_wp2_with fail
  go_loopw [3] (fun iv wr => ∃ i : Nat, i ≤ C.length ∧ i ≤ 17 ∧ iv = .int .i64 (i : Int) ∧ Hid (∀ j (hj : j < C.length), j < i → fewOp C[j] = true) ∧ Hid (w = wr)) (fun iv _ => C.length - (intOf iv).toNat)
  case atStart => exact ⟨0, Nat.zero_le _, by omega, rfl, (fun j hj h => by omega), rfl⟩
  case round =>
    obtain ⟨i, hi1, hi2, rfl, hok, hw⟩ := hrel
    obtain rfl := hw.out
    by_cases hlt : i < C.length ∧ i < 17
    · obtain ⟨hlt, h17⟩ := hlt
      rcases Hc.out with h | ⟨cb, co, rfl, hcb1, hcb2, hcl⟩
      · omega
      obtain ⟨d0, d1, d2, d3, d4, d5⟩ := hcl i hlt
      have hno := fun h => few_no hlt h17 h
      have hyes : fewOp C[i] = true → ∀ j (hj : j < C.length), j < i + 1 → fewOp C[j] = true := fun h j hj hji => by
        rcases Nat.lt_or_ge j i with h1 | h1
        · exact hok.out j hj h1
        · obtain rfl : j = i := by omega
          exact h
      obtain ⟨q1, q2, q3, _⟩ := He.out _ (List.getElem_mem hlt)
      generalize C[i] = c at *
      obtain ⟨⟨iv, kv⟩, ⟨kd, s, n, ⟨nm, its⟩, keep⟩⟩ := c
      dsimp only at *
      obtain ⟨ia, ic, rfl, him, hic⟩ := items_open q1
      obtain ⟨ka, kc, rfl, hkm, hkc⟩ := q3.open_
      rw [List.length_map] at *
      have hf : fewOp ((.slice ia its.length ic, .slice ka keep.length kc), ⟨kd, s, n, ⟨nm, its⟩, keep⟩) = (decide (s.length ≤ 300) && (decide (its.length ≤ 6) && (decide (keep.length ≤ 40) && (decide (nm.length ≤ 60) && its.all fun x => decide (x.nm.length ≤ 60))))) := rfl
      rw [hf] at hno hyes
      have HNo := Lib.hid hno
      have HYes := Lib.hid hyes
      have HIc := Lib.hid hic
      have HLt := Lib.hid (And.intro hlt h17)
      have hcn : (i : Int) < 17 := by omega
      clear hno hyes hok q1 q2 q3 hkc hf hcl hic him hkm
      by_cases h1 : 300 < s.length
      · have hE := Lib.hid (HNo.out (by rw [decide_eq_false (by omega), Bool.false_and]))
        go_wp2_with fail
        go_ret
        rw [hE.out]
        exact ⟨rfl, rfl⟩
      by_cases h2 : 6 < its.length
      · have hE := Lib.hid (HNo.out (by rw [decide_eq_false (p := its.length ≤ 6) (by omega), Bool.false_and, Bool.and_false]))
        go_wp2_with fail
        go_ret
        rw [hE.out]
        exact ⟨rfl, rfl⟩
      by_cases h3 : 40 < keep.length
      · have hE := Lib.hid (HNo.out (by rw [decide_eq_false (p := keep.length ≤ 40) (by omega), Bool.false_and, Bool.and_false, Bool.and_false]))
        go_wp2_with fail
        go_ret
        rw [hE.out]
        exact ⟨rfl, rfl⟩
      by_cases h4 : 60 < nm.length
      · have hE := Lib.hid (HNo.out (by rw [decide_eq_false (p := nm.length ≤ 60) (by omega), Bool.false_and, Bool.and_false, Bool.and_false, Bool.and_false]))
        go_wp2_with fail
        go_ret
        rw [hE.out]
        exact ⟨rfl, rfl⟩
      have hN5 := Lib.hid (fun (h : (its.all fun x => decide (x.nm.length ≤ 60)) = false) => HNo.out (by rw [h, Bool.and_false, Bool.and_false, Bool.and_false, Bool.and_false]))
      have hY5 := Lib.hid (fun (h : (its.all fun x => decide (x.nm.length ≤ 60)) = true) => HYes.out (by rw [h, decide_eq_true (p := s.length ≤ 300) (by omega), decide_eq_true (p := its.length ≤ 6) (by omega), decide_eq_true (p := keep.length ≤ 40) (by omega), decide_eq_true (p := nm.length ≤ 60) (by omega)]; rfl))
      have hi6 : (its.length : Int) ≤ 6 := by omega
      go_wp2_with fail
      go_loopw [4] (fun kv wr => ∃ k : Nat, k ≤ its.length ∧ kv = .int .i64 (k : Int) ∧ Hid (∀ j (hj : j < its.length), j < k → its[j].nm.length ≤ 60) ∧ Hid (w = wr)) (fun kv _ => its.length - (intOf kv).toNat)
      case atStart => exact ⟨0, Nat.zero_le _, rfl, (fun j hj h => by omega), rfl⟩
      case round =>
        obtain ⟨k, hk, rfl, hall, hw2⟩ := hrel
        obtain rfl := hw2.out
        by_cases hkt : k < its.length
        · rcases HIc.out with h | ⟨ib, io, rfl, hib, hcl⟩
          · omega
          obtain ⟨e0, -⟩ := hcl k hkt
          have hy : its[k].nm.length ≤ 60 → ∀ j (hj : j < its.length), j < k + 1 → its[j].nm.length ≤ 60 := fun h j hj hjk => by
            rcases Nat.lt_or_ge j k with h1 | h1
            · exact hall.out j hj h1
            · obtain rfl : j = k := by omega
              exact h
          have hn : ¬ its[k].nm.length ≤ 60 → (its.all fun x => decide (x.nm.length ≤ 60)) = false := fun h => by
            cases hh : its.all fun x => decide (x.nm.length ≤ 60) with
            | false => rfl
            | true => exact absurd (of_decide_eq_true (List.all_eq_true.1 hh _ (List.getElem_mem hkt))) h
          generalize its[k].nm = inm at *
          have HY := Lib.hid hy
          have HN := Lib.hid hn
          have HKt := Lib.hid hkt
          clear hy hn hall hcl
          by_cases h5 : 60 < inm.length
          · have hE := Lib.hid (hN5.out (HN.out (by omega)))
            go_wp2_with fail
            go_ret
            rw [hE.out]
            exact ⟨rfl, rfl⟩
          · have hR := Lib.hid (HY.out (by omega))
            go_wp2_with fail
            go_roundw
            case rel => exact ⟨k + 1, HKt.out, by simp, hR, trivial⟩
            case measure =>
              have := HKt.out
              simp only [intOf]
              omega
        · have hR := Lib.hid (hY5.out (List.all_eq_true.2 fun x hx => by
            obtain ⟨j, hj, rfl⟩ := List.getElem_of_mem hx
            exact decide_eq_true (hall.out j hj (by omega))))
          clear hall
          go_wp2_with fail
          go_roundw
          case rel => exact ⟨i + 1, HLt.out.1, HLt.out.2, by simp, hR, trivial⟩
          case measure =>
            have := HLt.out.1
            simp only [intOf]
            omega
    · have hE := Lib.hid (few_all hlt hok.out)
      clear hok
      go_wp2_with fail
      all_goals (go_ret; rw [hE.out]; first | exact ⟨rfl, rfl⟩ | (refine ⟨?_, rfl⟩; simp; done) | (refine ⟨?_, rfl⟩; simp; omega))
end Go.Proofs.YtiednpagknnfnaaGreatDoor
