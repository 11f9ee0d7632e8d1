/- The contracts of the reference's encoders (layer 1). The contracts of the reference's reader (layer 1): it does what the plain reader does. The contracts of the reference's reader (layer 1), second part: number, Num, Int, close, Text, Tail, Left, Done, Open. -/
import Derived.Test.YtkhdnfmnnapjlaaDoorLib
import Derived.Test.YtkhdnfmnnapjlaaDoorWireP
import Derived.Test.YtkhdnfmnnapjlaaDoorRdr
namespace Go.Proofs.YtkhdnfmnnapjlaaDoor
open Go.RowKit
set_option linter.unusedVariables false
set_option linter.unusedSimpArgs false
attribute [local irreducible] Calls

theorem conv1 (w : World) (x : Int) (h0 : 0 ≤ x) (h1 : x < 256) :
    (convert 153 9 (.slice (some ⟨w.heap.size, 0, none⟩) 1 1)).run Tryd.prog (w.alloc (.cells #[.int .u8 x] 5)) = .ok (.string ⟨#[UInt8.ofNat x.toNat]⟩) (w.alloc (.cells #[.int .u8 x] 5)) := by
  refine run_convert_bytes_back (P := Tryd.prog) _ 153 9 5 ⟨w.heap.size, 0, none⟩ 1 [UInt8.ofNat x.toNat] Tryd.underlying153 Tryd.underlying5 Tryd.underlying9 fun j hj => ?_
  have hj0 : j = 0 := by simpa using hj
  subst hj0
  rw [add_plain, cells_cell (heap_new w _)]
  simp
  omega
theorem decDigits_step {u : Nat} (h : ¬ u < 10) : Lib.decDigits u = Lib.decDigits (u / 10) ++ [UInt8.ofNat (48 + u % 10)] := by
  conv => lhs; rw [Lib.decDigits, dif_neg h]
theorem decDigits_len {u : Nat} (h : u ≤ 9223372036854775808) : (Lib.decDigits u).length ≤ 21 := by
  have h2 : I64 (-(u : Int)) := by unfold I64; omega
  have := itoa_le h2
  by_cases h0 : u = 0
  · subst h0; rw [Lib.decDigits_one (by omega)]; simp
  · rw [Lib.itoa_neg u (by omega)] at this; simp at this; omega
theorem decDigits_pos (u : Nat) : Lib.decDigits u = Lib.itoa (u : Int) := (Lib.itoa_nonneg u).symm
end Go.Proofs.YtkhdnfmnnapjlaaDoor
namespace Go.Proofs.YtkhdnfmnnapjlaaDoor
open Go.RowKit
set_option linter.unusedVariables false
set_option linter.unusedSimpArgs false
attribute [local irreducible] Calls
def BackPost (l : List UInt8) (w : World) (e : Ending) (w' : World) : Prop :=
  ∃ (n : Int) (ok : Bool), e = .returned (.tuple #[.int .i64 n, .bool ok]) ∧ I64 n ∧ (ok = true → Wire.numOf l = some n) ∧ (ok = false → Wire.numOf l = none) ∧ Nw w w'
theorem byte_list {s : ByteArray} {l : List UInt8} (hs : s.data.toList = l) (k : Nat) (h : k < s.size) : ∃ hk : k < l.length, s[k] = l[k] := by
  subst hs
  exact ⟨by rw [← bs_size]; exact h, by show s.data[k] = _; simp⟩
theorem back_cmp {s : ByteArray} {l : List UInt8} (hs : s.data.toList = l) (n : Int) : (Wire.intE n == (s ++ { data := #[59] }).toList) = decide (Lib.itoa n = l) := by
  rw [bs_toList, bs_append_list, hs]
  apply Bool.eq_iff_iff.2
  simp [Wire.intE]
theorem back_end {s : ByteArray} {l : List UInt8} {w w1 : World} {a n : Int} (hs : s.data.toList = l) (h : Wire.backGo 0 (Wire.backFrom l) (l.drop (Wire.backFrom l)) = some a) (hn : (if Wire.backFrom l = 0 then wrap64 (-a) else a) = n) (hi : I64 n) (u : Nw w w1) :
    BackPost l w (.returned (.tuple #[.int .i64 n, .bool (Wire.intE n == (s ++ { data := #[59] }).toList)])) w1 := by
  have h2 := Wire.back_some h hn hi (fun v h0 h1 => itoa_le ⟨h0, h1⟩)
  refine ⟨n, _, rfl, hi, ?_, ?_, u⟩
  · intro hb
    rw [back_cmp hs] at hb
    rw [h2, if_pos (of_decide_eq_true hb)]
  · intro hb
    rw [back_cmp hs] at hb
    rw [h2, if_neg (of_decide_eq_false hb)]
end Go.Proofs.YtkhdnfmnnapjlaaDoor
namespace Go.Proofs.YtkhdnfmnnapjlaaDoor
open Go.RowKit
set_option linter.unusedVariables false
set_option linter.unusedSimpArgs false
attribute [local irreducible] Calls

end Go.Proofs.YtkhdnfmnnapjlaaDoor
