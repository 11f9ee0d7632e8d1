/- The walk of FetchEnds. -/
import Derived.Test.YtagmlemlagbfkaaGreatDoorPkFSurv21
import Derived.Test.YtagmlemlagbfkaaGreatDoorPkFSurv15
import Derived.Deep.CutBlock
namespace Go.Proofs.YtagmlemlagbfkaaGreatDoor
open Go.RowKit
set_option linter.unusedVariables false
set_option linter.unusedSimpArgs false
attribute [local irreducible] Calls

theorem take60E (s : ByteArray) : s.extract 0 (min (s.size : Int) 60).toNat = ⟨(s.data.toList.take 60).toArray⟩ := by
  rw [← bs_eta (s.extract 0 (min (s.size : Int) 60).toNat), bs_extract_list]
  congr 2
  have h := bs_size s
  rw [List.drop_zero, Nat.sub_zero]
  by_cases hc : s.size ≤ 60
  · rw [List.take_of_length_le (by omega), List.take_of_length_le (by omega)]
  · have : (min (s.size : Int) 60).toNat = 60 := by omega
    rw [this]
theorem RowsO.kept {W w w' : World} {F : Nat → Prop} {B : Nat} {v : Value} {C : List (Value × List Int)} (h : RowsO B w v C) (u : Moves W F w w') (hF : ∀ k, B ≤ k → k < w.heap.size → F k) : RowsO B w' v C :=
  ⟨owns_kept h.own u (fun k e => Or.inl (hF k (h.own.lt k e).1 (h.own.lt k e).2)), fun c hc => owns_kept (h.each c hc) u (fun k e => Or.inl (hF k ((h.each c hc).lt k e).1 ((h.each c hc).lt k e).2))⟩
end Go.Proofs.YtagmlemlagbfkaaGreatDoor
