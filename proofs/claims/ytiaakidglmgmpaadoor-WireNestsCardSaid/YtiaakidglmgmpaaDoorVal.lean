/- The values of the statements of layer 1, in memory: a Value, a slice of Values. -/
import Derived.Test.YtiaakidglmgmpaaDoorOpen
import Derived.Test.YtiaakidglmgmpaaDoorWire
namespace Go.Proofs.YtiaakidglmgmpaaDoor
open Go.ChangeShapes Go.WideShapes Go.ChangeAt Go.RowKit Go.Joins
set_option linter.unusedVariables false
set_option linter.unusedSimpArgs false

structure Val where
  kind : Int
  n : Int
  s : List UInt8
  l : List Int
  t : List (List UInt8)
/-- The cells cs are those of x. -/
def IsVal (hi : Nat) (w : World) (cs : List Value) (x : Val) : Prop :=
  ∃ vl vt, cs = [.int .i64 x.kind, .int .i64 x.n, .string ⟨x.s.toArray⟩, vl, vt] ∧ Sl 0 hi w vl (x.l.map (Value.int .i64)) ∧ Sl 0 hi w vt (x.t.map fun s => Value.string ⟨s.toArray⟩) ∧ I64 x.kind ∧ I64 x.n ∧ ∀ m ∈ x.l, I64 m
theorem IsVal.nw {hi : Nat} {w w' : World} {cs : List Value} {x : Val} (h : IsVal hi w cs x) (u : Nw w w') : IsVal hi w' cs x := by
  obtain ⟨vl, vt, h1, h2, h3, h4⟩ := h
  exact ⟨vl, vt, h1, h2.nw u, h3.nw u, h4⟩
def Vals (hi : Nat) (w : World) (v : Value) (l : List Val) : Prop :=
  ∃ xs, SlS 5 0 hi w v xs ∧ l.length = xs.length ∧ ∀ i (h1 : i < xs.length) (h2 : i < l.length), IsVal hi w xs[i] l[i]
theorem Vals.nw {hi : Nat} {w w' : World} {v : Value} {l : List Val} (h : Vals hi w v l) (u : Nw w w') : Vals hi w' v l := by
  obtain ⟨xs, h1, h2, h3⟩ := h
  exact ⟨xs, h1.nw u, h2, fun i a b => (h3 i a b).nw u⟩

section
variable {H : Type} {enc : TypeId × Value → H} {w : World} {base : Nat} {sp : Nat → Bool} {held : Bool} {n : Nat} {x : DataW H × List MemPlace}
set_option maxRecDepth 100000 in
theorem trod_val {cs : List Value} (h : DataW.trod enc Tryd.prog w base sp held n 25 cs = some x) : ∃ y, IsVal w.heap.size w cs y := by
  obtain ⟨xs, m, _, rfl, hl, hlen, hf⟩ := DataW.trod_struct Tryd.underlying25 h
  have hc : Tryd.prog.cellsOf 25 = 5 := by kernel_rfl
  rw [hc] at hl
  match cs, hl with
  | [c0, c1, c2, c3, c4], _ =>
    match xs, hlen with
    | [y0, y1, y2, y3, y4], _ =>
      have k0 : DataW.trod enc Tryd.prog w base sp held m 3 [c0] = some y0 := hf 0 _ rfl
      have k1 : DataW.trod enc Tryd.prog w base sp held m 3 [c1] = some y1 := hf 1 _ rfl
      have k2 : DataW.trod enc Tryd.prog w base sp held m 9 [c2] = some y2 := hf 2 _ rfl
      have k3 : DataW.trod enc Tryd.prog w base sp held m 22 [c3] = some y3 := hf 3 _ rfl
      have k4 : DataW.trod enc Tryd.prog w base sp held m 23 [c4] = some y4 := hf 4 _ rfl
      obtain ⟨z0, e0, w0⟩ := trod_int_cell Tryd.underlying3 k0
      obtain ⟨z1, e1, w1⟩ := trod_int_cell Tryd.underlying3 k1
      obtain ⟨z2, e2, w2⟩ := trod_str_cell Tryd.underlying9 k2
      obtain ⟨v3, z3, e3, w3, b3⟩ := trod_ints_cell Tryd.underlying22 Tryd.underlying3 (by kernel_rfl) k3
      obtain ⟨v4, z4, e4, w4, b4⟩ := trod_strs_cell Tryd.underlying23 Tryd.underlying9 (by kernel_rfl) k4
      simp only [List.cons.injEq, and_true] at e0 e1 e2 e3 e4
      subst e0 e1 e2 e3 e4
      exact ⟨⟨z0, z1, z2, z3, z4⟩, _, _, rfl, w3, w4, i64_of_wf w0, i64_of_wf w1, fun m hm => i64_of_wf (b3 m hm)⟩
set_option maxRecDepth 100000 in
theorem trod_vals {cs : List Value} (h : DataW.trod enc Tryd.prog w base sp held n 28 cs = some x) : ∃ v l, cs = [v] ∧ Vals w.heap.size w v l := by
  obtain ⟨v, xs, h1, h2, h3⟩ := trod_slice_cells Tryd.underlying28 (sz := 5) (by kernel_rfl) (by omega) h
  obtain ⟨l, h4, h5⟩ := sls_all (sz := 5) (lo := 0) (hi := 0) (v := v) (fun c y => IsVal w.heap.size w c y) (fun c hc => by
    obtain ⟨m, y, hy⟩ := h3 c hc
    exact trod_val hy)
  exact ⟨v, l, h1, xs, h2, h4, h5⟩
end
end Go.Proofs.YtiaakidglmgmpaaDoor
