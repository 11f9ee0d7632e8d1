/- The contracts of the view's New, Key, Text, Size, Age, Absent, Known, and of about. -/
import Derived.Test.YtpceoogmkbcfmaaGreatDoorView0
namespace Go.Proofs.YtpceoogmkbcfmaaGreatDoor
open Go.RowKit
open Go.Maps (Keyed)
set_option linter.unusedVariables false
set_option linter.unusedSimpArgs false
attribute [local irreducible] Calls

section
variable (B : Nat) (r : ViewR) (rb : Nat) (key : Int) (L : List Bk.Sgn) (w : World)
/-- 'len(m)'. -/
theorem MapL.len {P : Program} {k : TypeId} {b : Nat} {l : List (Value × Value)} (h : MapL P k w b l) : ∃ es clock, w.heap[b]? = some (.map es clock) ∧ es.size = l.length := by
  obtain ⟨es, clock, hb, hp, _⟩ := h
  exact ⟨es, clock, hb, by rw [← hp.length_eq, List.length_map, Array.length_toList]⟩
theorem wpList_lenL {P : Program} {ops : Array Oper} {rest : List Oper} {o : Oper} {a : Act} {Q : Exit → Act → World → Prop} (hg : o.guard = none) (m : Operand) (t k e : TypeId) (hop : o.op = Op.call { callee := Callee.builtin Builtin.len, args := #[m], argTypes := #[t] })
    (ht : P.underlying t = some (.map k e)) (b : Nat) (l : List (Value × Value)) (hm : a.eval m = .map (some b)) (h : MapL P k w b l) (hK : wpList P ops Q rest (a.put o.dst (.int .i64 l.length)) w) : wpList P ops Q (o :: rest) a w := by
  refine wpList_plain hg fun K' hK' => ?_
  obtain ⟨es, clock, hb, hes⟩ := h.len
  unfold Oper.wp
  simp [execOp, hop, resolve, invoke, builtin, hm, Result.andThen, Builtin.len_, run_underlying ht, MapKept.run_getObj_map hb, goInt, hes]
  exact hK' _ _ hK
end
end Go.Proofs.YtpceoogmkbcfmaaGreatDoor
