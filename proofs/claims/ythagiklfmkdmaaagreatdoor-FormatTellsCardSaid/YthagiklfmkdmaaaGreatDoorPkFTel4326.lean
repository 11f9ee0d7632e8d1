/- What the rows' lists of package-level variables give the walks; a world in which the variables lie as their initialisers lay them. -/
import Derived.Test.YthagiklfmkdmaaaGreatDoorCards
import Derived.Test.YthagiklfmkdmaaaGreatDoorTie
import Derived.Test.YthagiklfmkdmaaaGreatDoorPkFTel430
import Derived.ProofKit
import Derived.OpenShut
import Derived.ShutString
import Derived.LaidMore
import Derived.MakeChecks
import Derived.Stop.Joined
import Derived.Stop.LaidErr
import Derived.Deep.DeepHandedRow
import Derived.Deep.DeepWitnessRowRef
import Derived.Lib.LaidTab
namespace Go.Proofs.YthagiklfmkdmaaaGreatDoor
open Go.ChangeShapes Go.WideShapes Go.ChangeAt Go.RowKit
set_option linter.unusedVariables false
set_option linter.unusedSimpArgs false

theorem own : ownKnob Tryz.prog.godebug = none := by kernel_rfl
theorem laidOut : laidOutB Tryz.prog = true := by kernel_rfl
def laidAll {H : Type} : List (String × DataW H) := [("math/bits.deBruijn32tab", Rows.laid_math_bits_deBruijn32tab), ("math/bits.deBruijn64tab", Rows.laid_math_bits_deBruijn64tab), ("internal/strconv.uint64pow10", Rows.laid_internal_strconv_uint64pow10), ("strconv.ErrRange", Rows.laid_strconv_ErrRange), ("strconv.ErrSyntax", Rows.laid_strconv_ErrSyntax)]
theorem tTab : (Tryz.prog.globals[0]?).map (·.type) = some 199 := by kernel_rfl
theorem tErr1 : (Tryz.prog.globals[3]?).map (·.type) = some 113 := by kernel_rfl
theorem tErr2 : (Tryz.prog.globals[2]?).map (·.type) = some 113 := by kernel_rfl
theorem cTab : Tryz.prog.cellsOf 199 = 20 := by kernel_rfl
theorem cU64 : Tryz.prog.cellsOf 188 = 1 := by kernel_rfl
theorem pow_eq : (Rows.laid_internal_strconv_uint64pow10 : DataW Unit) = Lib.tabData .u64 Lib.pow10Tab := by rfl
theorem rowErr : ∀ u, Tryz.prog.typeName? 3 u = some "*errors.errorString" → u = 221 :=
  fun u h => typeName_ptr_named (nm := "errors.errorString") (by kernel_rfl) (by kernel_rfl) (by decide) u h
theorem lt_of_var {W : World} {n : String} {g : Nat} {cs : Array Value} (hg : Tryz.prog.globalNamed n = some g) (h : W.var? Tryz.prog n = some cs) : g < W.heap.size := by
  simp only [World.var?, hg, Option.bind_some] at h
  rcases Nat.lt_or_ge g W.heap.size with h' | h'
  · exact h'
  · rw [Array.getElem?_eq_none h'] at h; cases h
theorem cErr : Tryz.prog.cellsOf 223 = 1 := by kernel_rfl
theorem cStr : Tryz.prog.cellsOf 9 = 1 := by kernel_rfl
theorem gl_of_laid {W : World} (h : laidMetH Tryz.prog laidAll W) : Gl W := by
  rw [MakeChecks.laidMetH_plain _ _ _ (by kernel_rfl)] at h
  have h1 := h.tail.tail
  have h2 := h1.tail
  have h3 := h2.tail
  have ht : Lib.TabIs Tryz.prog W "internal/strconv.uint64pow10" .u64 Lib.pow10Tab := by
    have h1' : laidMet Tryz.prog (("internal/strconv.uint64pow10", Lib.tabData .u64 Lib.pow10Tab) :: laidAll.tail.tail.tail) W := by rw [← pow_eq]; exact h1
    exact Lib.tabIs_of_head gTab tTab Tryz.underlying199 Tryz.underlying188 cU64 cTab h1'
  obtain ⟨a, s, hv, _⟩ := laid_sentinel h3 gSyn tErr2 Tryz.underlying113 rowErr Tryz.underlying221 Tryz.underlying223 rfl rfl Tryz.underlying9 cErr cStr
  obtain ⟨a', s', hv', _⟩ := laid_sentinel h2 gRng tErr1 Tryz.underlying113 rowErr Tryz.underlying221 Tryz.underlying223 rfl rfl Tryz.underlying9 cErr cStr
  have b1 := lt_of_var gTab ht
  have b2 := lt_of_var gSyn hv
  have b3 := lt_of_var gRng hv'
  exact ⟨by unfold nG; omega, ht, ⟨_, _, hv⟩, ⟨_, _, hv'⟩⟩
noncomputable def laidWorld (os : Os) : World := World.doorLaid Tryz.prog 400 os
end Go.Proofs.YthagiklfmkdmaaaGreatDoor
