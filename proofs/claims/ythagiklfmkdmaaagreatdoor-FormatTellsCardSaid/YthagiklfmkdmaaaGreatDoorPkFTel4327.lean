/- The values of the statements of layer 1, in memory: a Value, a slice of Values. -/
import Derived.Test.YthagiklfmkdmaaaGreatDoorPkFTel430
namespace Go.Proofs.YthagiklfmkdmaaaGreatDoor
open Go.ChangeShapes Go.WideShapes Go.ChangeAt Go.RowKit Go.Joins
set_option linter.unusedVariables false
set_option linter.unusedSimpArgs false

structure Val where
  kind : Int
  n : Int
  s : List UInt8
  l : List Int
  t : List (List UInt8)
/-- The cells cs are those of x. -/
def IsVal (hi : Nat) (w : World) (cs : List Value) (x : Val) : Prop :=
  ∃ vl vt, cs = [.int .i64 x.kind, .int .i64 x.n, .string ⟨x.s.toArray⟩, vl, vt] ∧ Sl 0 hi w vl (x.l.map (Value.int .i64)) ∧ Sl 0 hi w vt (x.t.map fun s => Value.string ⟨s.toArray⟩) ∧ I64 x.kind ∧ I64 x.n ∧ ∀ m ∈ x.l, I64 m
theorem IsVal.nw {hi : Nat} {w w' : World} {cs : List Value} {x : Val} (h : IsVal hi w cs x) (u : Nw w w') : IsVal hi w' cs x := by
  obtain ⟨vl, vt, h1, h2, h3, h4⟩ := h
  exact ⟨vl, vt, h1, h2.nw u, h3.nw u, h4⟩
def Vals (hi : Nat) (w : World) (v : Value) (l : List Val) : Prop :=
  ∃ xs, SlS 5 0 hi w v xs ∧ l.length = xs.length ∧ ∀ i (h1 : i < xs.length) (h2 : i < l.length), IsVal hi w xs[i] l[i]
theorem Vals.nw {hi : Nat} {w w' : World} {v : Value} {l : List Val} (h : Vals hi w v l) (u : Nw w w') : Vals hi w' v l := by
  obtain ⟨xs, h1, h2, h3⟩ := h
  exact ⟨xs, h1.nw u, h2, fun i a b => (h3 i a b).nw u⟩

section
variable {H : Type} {enc : TypeId × Value → H} {w : World} {base : Nat} {sp : Nat → Bool} {held : Bool} {n : Nat} {x : DataW H × List MemPlace}
end
end Go.Proofs.YthagiklfmkdmaaaGreatDoor
