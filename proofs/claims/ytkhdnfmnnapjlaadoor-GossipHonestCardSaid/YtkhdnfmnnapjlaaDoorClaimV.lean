/- A claim among a statement's arguments: from the form's reading to the words of the walks. -/
import Derived.Test.YtkhdnfmnnapjlaaDoorOwns
import Derived.Test.YtkhdnfmnnapjlaaDoorClaimW
namespace Go.Proofs.YtkhdnfmnnapjlaaDoor
open Go.ChangeShapes Go.WideShapes Go.ChangeAt Go.RowKit Go.Joins
set_option linter.unusedVariables false
set_option linter.unusedSimpArgs false

section
variable {H : Type} {enc : TypeId × Value → H} {w : World} {base : Nat} {sp : Nat → Bool} {held : Bool} {n : Nat} {x : DataW H × List MemPlace}
set_option maxRecDepth 100000 in
theorem trod_claim {cs : List Value} (h : DataW.trod enc Tryd.prog w base sp held n 65 cs = some x) : ∃ y : Cl.Clm, cs = [.int .i64 y.kind, .int .i64 y.n, .int .i64 y.time, .string ⟨y.text.toArray⟩] ∧ I64C y := by
  obtain ⟨xs, m, _, rfl, hl, hlen, hf⟩ := DataW.trod_struct Tryd.underlying65 h
  have hc : Tryd.prog.cellsOf 65 = 4 := by kernel_rfl
  rw [hc] at hl
  match cs, hl with
  | [c0, c1, c2, c3], _ =>
    match xs, hlen with
    | [y0, y1, y2, y3], _ =>
      have k0 : DataW.trod enc Tryd.prog w base sp held m 3 [c0] = some y0 := hf 0 _ rfl
      have k1 : DataW.trod enc Tryd.prog w base sp held m 3 [c1] = some y1 := hf 1 _ rfl
      have k2 : DataW.trod enc Tryd.prog w base sp held m 3 [c2] = some y2 := hf 2 _ rfl
      have k3 : DataW.trod enc Tryd.prog w base sp held m 9 [c3] = some y3 := hf 3 _ rfl
      obtain ⟨z0, e0, w0⟩ := trod_int_cell Tryd.underlying3 k0
      obtain ⟨z1, e1, w1⟩ := trod_int_cell Tryd.underlying3 k1
      obtain ⟨z2, e2, w2⟩ := trod_int_cell Tryd.underlying3 k2
      obtain ⟨z3, e3, w3⟩ := trod_str_cell Tryd.underlying9 k3
      simp only [List.cons.injEq, and_true] at e0 e1 e2 e3
      subst e0 e1 e2 e3
      exact ⟨⟨z0, z1, z2, z3⟩, rfl, i64_of_wf w0, i64_of_wf w1, i64_of_wf w2, w3⟩
end
end Go.Proofs.YtkhdnfmnnapjlaaDoor
