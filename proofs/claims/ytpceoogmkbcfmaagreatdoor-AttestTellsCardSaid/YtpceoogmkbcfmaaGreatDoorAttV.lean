/- Lists of groups among a statement's arguments: from the form's reading to the words of the walks. -/
import Derived.Test.YtpceoogmkbcfmaaGreatDoorViewV
import Derived.Test.YtpceoogmkbcfmaaGreatDoorAttW
namespace Go.Proofs.YtpceoogmkbcfmaaGreatDoor
open Go.ChangeShapes Go.WideShapes Go.ChangeAt Go.RowKit Go.Joins
set_option linter.unusedVariables false
set_option linter.unusedSimpArgs false

section
variable {H : Type} {enc : TypeId × Value → H} {w : World} {base : Nat} {sp : Nat → Bool} {held : Bool} {n : Nat} {x : DataW H × List MemPlace}
set_option maxRecDepth 100000 in
theorem trod_group {cs : List Value} (h : DataW.trod enc Tryz.prog w base sp held n 35 cs = some x) : ∃ c : Value × At.Grp, cs = grpL c ∧ (Sl 0 w.heap.size w c.1 (c.2.members.map intV) ∧ I64 c.2.bad ∧ ∀ k ∈ c.2.members, I64 k) := by
  obtain ⟨xs, m, _, rfl, hl, hlen, hf⟩ := DataW.trod_struct Tryz.underlying35 h
  have hc : Tryz.prog.cellsOf 35 = 2 := by kernel_rfl
  rw [hc] at hl
  match cs, hl with
  | [c0, c1], _ =>
    match xs, hlen with
    | [y0, y1], _ =>
      have k0 : DataW.trod enc Tryz.prog w base sp held m 31 [c0] = some y0 := hf 0 _ rfl
      have k1 : DataW.trod enc Tryz.prog w base sp held m 3 [c1] = some y1 := hf 1 _ rfl
      obtain ⟨z0, l0, e0, w0, u0⟩ := trod_ints_cell Tryz.underlying31 Tryz.underlying3 (by kernel_rfl) k0
      obtain ⟨z1, e1, w1⟩ := trod_int_cell Tryz.underlying3 k1
      simp only [List.cons.injEq, and_true] at e0 e1
      subst e0 e1
      exact ⟨(c0, ⟨l0, z1⟩), rfl, w0, i64_of_wf w1, fun k hk => i64_of_wf (u0 k hk)⟩
set_option maxRecDepth 100000 in
theorem trod_groups {cs : List Value} (h : DataW.trod enc Tryz.prog w base sp held n 23 cs = some x) : ∃ (v : Value) (C : List (Value × At.Grp)), cs = [v] ∧ GrpS w.heap.size w v (C.map (·.2)) C ∧ True := by
  obtain ⟨v, xs, h1, h2, h3⟩ := trod_slice_cells Tryz.underlying23 (sz := 2) (by kernel_rfl) (by omega) h
  obtain ⟨C, rfl, h5⟩ := list_of_rel8 (f := grpL) (Q := fun c : Value × At.Grp => Sl 0 w.heap.size w c.1 (c.2.members.map intV) ∧ I64 c.2.bad ∧ ∀ k ∈ c.2.members, I64 k) xs (fun c hc => by
    obtain ⟨m, y, hy⟩ := h3 c hc
    exact trod_group hy)
  exact ⟨v, C, h1, ⟨rfl, h2, h5⟩, trivial⟩
end
end Go.Proofs.YtpceoogmkbcfmaaGreatDoor
