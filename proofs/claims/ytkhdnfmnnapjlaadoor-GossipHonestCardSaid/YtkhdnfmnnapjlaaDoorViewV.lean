/- Lists of what is said, and of turns, among a statement's arguments: from the form's reading to the words of the walks. -/
import Derived.Test.YtkhdnfmnnapjlaaDoorClaimV
import Derived.Test.YtkhdnfmnnapjlaaDoorView6
namespace Go.Proofs.YtkhdnfmnnapjlaaDoor
open Go.ChangeShapes Go.WideShapes Go.ChangeAt Go.RowKit Go.Joins
set_option linter.unusedVariables false
set_option linter.unusedSimpArgs false

theorem list_of_rel8 {α : Type} {f : α → List Value} {Q : α → Prop} : ∀ (xs : List (List Value)), (∀ c ∈ xs, ∃ y, c = f y ∧ Q y) → ∃ l : List α, xs = l.map f ∧ ∀ y ∈ l, Q y := by
  intro xs
  induction xs with
  | nil => exact fun _ => ⟨[], rfl, fun y hy => by cases hy⟩
  | cons c xs ih =>
    intro h
    obtain ⟨l, h1, h2⟩ := ih (fun c hc => h c (List.mem_cons_of_mem _ hc))
    obtain ⟨y, h3, h4⟩ := h c (List.mem_cons_self ..)
    exact ⟨y :: l, by rw [h1, h3]; rfl, fun z hz => by rcases List.mem_cons.1 hz with rfl | hz; exact h4; exact h2 z hz⟩
section
variable {H : Type} {enc : TypeId × Value → H} {w : World} {base : Nat} {sp : Nat → Bool} {held : Bool} {n : Nat} {x : DataW H × List MemPlace}
set_option maxRecDepth 100000 in
theorem trod_say {cs : List Value} (h : DataW.trod enc Tryd.prog w base sp held n 84 cs = some x) : ∃ y : Vw.Say, cs = sayL y ∧ SayOk y := by
  obtain ⟨xs, m, _, rfl, hl, hlen, hf⟩ := DataW.trod_struct Tryd.underlying84 h
  have hc : Tryd.prog.cellsOf 84 = 7 := by kernel_rfl
  rw [hc] at hl
  match cs, hl with
  | [c0, c1, c2, c3, c4, c5, c6], _ =>
    match xs, hlen with
    | [y0, y1, y2, y3], _ =>
      have k0 : DataW.trod enc Tryd.prog w base sp held m 3 [c0] = some y0 := hf 0 _ rfl
      have k1 : DataW.trod enc Tryd.prog w base sp held m 65 [c1, c2, c3, c4] = some y1 := hf 1 _ rfl
      have k2 : DataW.trod enc Tryd.prog w base sp held m 9 [c5] = some y2 := hf 2 _ rfl
      have k3 : DataW.trod enc Tryd.prog w base sp held m 3 [c6] = some y3 := hf 3 _ rfl
      obtain ⟨z0, e0, w0⟩ := trod_int_cell Tryd.underlying3 k0
      obtain ⟨z1, e1, w1⟩ := trod_claim k1
      obtain ⟨z2, e2, w2⟩ := trod_str_cell Tryd.underlying9 k2
      obtain ⟨z3, e3, w3⟩ := trod_int_cell Tryd.underlying3 k3
      simp only [List.cons.injEq, and_true] at e0 e1 e2 e3
      obtain ⟨rfl, rfl, rfl, rfl⟩ := e1
      subst e0 e2 e3
      exact ⟨⟨z0, z1, z2, z3⟩, rfl, i64_of_wf w0, w1, w2, i64_of_wf w3⟩
end
end Go.Proofs.YtkhdnfmnnapjlaaDoor
