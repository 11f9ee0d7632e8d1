/- Layer 37 in plain words: the documentation's example. No program stands in this text. -/
import Derived.Test.YtkhdnfmnnapjlaaDoorMirP
namespace Go.Proofs.YtkhdnfmnnapjlaaDoor.Ex37
open Go.Lib Go.RowKit
open Bk (Seal Sgn noSgn Book)
set_option linter.unusedVariables false
set_option linter.unusedSimpArgs false

def ta : List UInt8 := [49, 58, 97, 44]
def tb : List UInt8 := [49, 58, 98, 44]
def td : List UInt8 := [49, 58, 100, 44]
def B1 : Book := (Bk.append (Bk.new 3) ta).2
def B2 : Book := (Bk.append B1 tb).2
/-- Fed at 5 and at 8. -/
def F1 (k : Int) := Mi.feed [] B2 (Mi.fresh k) [[122]] [[99]] 5
def L1 (k : Int) : List Seal := (F1 k).2.1
def B3 (k : Int) : Book := (F1 k).2.2.1
def M1 (k : Int) : Mi.Mir := (F1 k).2.2.2
def B4 (k : Int) : Book := (Bk.append (B3 k) td).2
def F2 (k : Int) := Mi.feed (L1 k) (B4 k) (M1 k) [[122]] [[99]] 8
def L2 (k : Int) : List Seal := (F2 k).2.1
def B5 (k : Int) : Book := (F2 k).2.2.1
def M2 (k : Int) : Mi.Mir := (F2 k).2.2.2
def HD (k : Int) := Bk.head (L2 k) (B5 k) 8
def hd (k : Int) : Sgn := (HD k).1.1
def q1 : Mi.Ques := ⟨0, 0, []⟩
def q2 : Mi.Ques := ⟨1, 2, []⟩
def h3 : List UInt8 := [49, 59, 51, 59, 56, 59, 48, 58, 44]
def h2 : List UInt8 := [49, 59, 50, 59, 53, 59, 48, 58, 44]
def heads : List (List UInt8) := [h3, h2, h2, h2, h3 ++ [120]]
def told : List Nat := [1, 0, 0, 1, 1]
def sizes (m : Mi.Mir) : List Nat := [(m.l 0).length, (m.l 1).length, (m.l 2).length, m.cs.length]
/-- All that the example says of a mode. -/
def Says (i : Nat) : Prop :=
  (F1 i).1 = 0 ∧ (F2 i).1 = 0 ∧ (HD i).1.2 = 0 ∧ sizes (M2 i) = (if i = 1 then [2, 1, 1, 1] else [3, 2, 2, 1]) ∧
  (Mi.answer (M2 i) q1).claims.map (·.text) = [heads.getD i []] ∧ (Mi.answer (M2 i) q2).claims.length = told.getD i 0 ∧ (i = 4 → (Mi.answer (M2 i) q1).claims.map (·.mark) = [(hd i).mark]) ∧
  ((L1 i).length ≤ 100 ∧ (L2 i).length ≤ 100 ∧ (B4 i).es.length ≤ 100 ∧ ∀ t ∈ (B4 i).es, t.length ≤ 100) ∧ ((M1 i).l 1).length ≤ 100 ∧ ((M1 i).l 2).length ≤ 100
instance (i : Nat) : Decidable (Says i) := by unfold Says; infer_instance
theorem says0 : Says 0 := by decide +kernel
theorem says1 : Says 1 := by decide +kernel
theorem says2 : Says 2 := by decide +kernel
theorem says3 : Says 3 := by decide +kernel
theorem says4 : Says 4 := by decide +kernel
theorem says (i : Nat) (hi : i < 5) : Says i := by
  match i, hi with
  | 0, _ => exact says0
  | 1, _ => exact says1
  | 2, _ => exact says2
  | 3, _ => exact says3
  | 4, _ => exact says4
end Go.Proofs.YtkhdnfmnnapjlaaDoor.Ex37
