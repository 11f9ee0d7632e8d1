/- A manifest among a statement's arguments. -/
import Derived.Test.YtagmlemlagbfkaaDoorPkFRef8
import Derived.Test.YtagmlemlagbfkaaDoorPkFRef14
import Derived.Test.YtagmlemlagbfkaaDoorPkFRef2
namespace Go.Proofs.YtagmlemlagbfkaaDoor
open Go.ChangeShapes Go.WideShapes Go.ChangeAt Go.RowKit Go.Joins
set_option linter.unusedVariables false
set_option linter.unusedSimpArgs false
section
variable {H : Type} {enc : TypeId × Value → H} {w : World} {base : Nat} {sp : Nat → Bool} {held : Bool} {n : Nat} {x : DataW H × List MemPlace}
theorem u8_of_wfM {m : Int} (h : (Lit.int .u8 m).wf = true) : 0 ≤ m ∧ m ≤ 255 := by
  have := h
  simp [Lit.wf, IntKind.min, IntKind.max, IntKind.signed, IntKind.bits] at this
  omega
set_option maxRecDepth 100000 in
theorem trod_man {cs : List Value} (h : DataW.trod enc Tryd.prog w base sp held n 26 cs = some x) : ∃ (y : Ck.Man) (v : Value), cs = [.int .i64 y.print, .int .i64 y.size, v] ∧ (Sl 0 w.heap.size w v (y.chunks.map intD) ∧ I64 y.print ∧ I64 y.size ∧ ∀ k ∈ y.chunks, I64 k) := by
  obtain ⟨xs, m, _, rfl, hl, hlen, hf⟩ := DataW.trod_struct Tryd.underlying26 h
  have hc : Tryd.prog.cellsOf 26 = 3 := by kernel_rfl
  rw [hc] at hl
  match cs, hl with
  | [c0, c1, c2], _ =>
    match xs, hlen with
    | [y0, y1, y2], _ =>
      have k0 : DataW.trod enc Tryd.prog w base sp held m 3 [c0] = some y0 := hf 0 _ rfl
      have k1 : DataW.trod enc Tryd.prog w base sp held m 3 [c1] = some y1 := hf 1 _ rfl
      have k2 : DataW.trod enc Tryd.prog w base sp held m 24 [c2] = some y2 := hf 2 _ rfl
      obtain ⟨z0, e0, w0⟩ := trod_int_cell Tryd.underlying3 k0
      obtain ⟨z1, e1, w1⟩ := trod_int_cell Tryd.underlying3 k1
      obtain ⟨z2, l2, e2, w2, u2⟩ := trod_ints_cell Tryd.underlying24 Tryd.underlying3 (by kernel_rfl) k2
      simp only [List.cons.injEq, and_true] at e0 e1 e2
      subst e0 e1 e2
      exact ⟨⟨z0, z1, l2⟩, c2, rfl, w2, i64_of_wf w0, i64_of_wf w1, fun k hk => i64_of_wf (u2 k hk)⟩
end
end Go.Proofs.YtagmlemlagbfkaaDoor
