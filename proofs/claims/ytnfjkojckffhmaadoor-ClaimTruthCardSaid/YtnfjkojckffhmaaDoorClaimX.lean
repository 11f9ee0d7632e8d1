/- Layer 6 in plain words: the documentation's examples. -/
import Derived.Test.YtnfjkojckffhmaaDoorClaimQ
namespace Go.Proofs.YtnfjkojckffhmaaDoor.Cl
theorem ex_r1 : read [49, 59, 51, 59, 55, 59, 48, 58, 44] = (⟨1, 3, 7, []⟩, true) := by decide +kernel
theorem ex_r2 : read [49, 59, 51, 59, 55, 59, 49, 58, 97, 44] = (zero, false) := by decide +kernel
theorem ex_r3 : read [49, 59, 48, 51, 59, 55, 59, 48, 58, 44] = (zero, false) := by decide +kernel
theorem ex_k1 : key [49, 58, 97, 44, 120] = ([97], true) := by decide +kernel
theorem ex_k2 : key [97] = ([], false) := by decide +kernel
theorem ex_t : text ⟨0, 2, 0, [49, 58, 97, 44, 120]⟩ = [48, 59, 50, 59, 48, 59, 53, 58, 49, 58, 97, 44, 120, 44] := by decide +kernel
theorem ex_c1 : contra ⟨0, 2, 0, [49, 58, 97, 44, 120]⟩ ⟨2, 3, 0, [97]⟩ = true := by decide +kernel
theorem ex_c2 : contra ⟨0, 2, 0, [49, 58, 97, 44, 120]⟩ ⟨2, 2, 0, [97]⟩ = false := by decide +kernel
theorem ex_c3 : contra ⟨1, 3, 7, []⟩ ⟨1, 2, 8, []⟩ = true := by decide +kernel
theorem ex_c4 : contra ⟨1, 3, 7, []⟩ ⟨1, 3, 8, []⟩ = false := by decide +kernel
theorem ex_g1 : right ⟨0, 2, 0, [49, 58, 97, 44, 120]⟩ = true := by decide +kernel
theorem ex_g2 : right ⟨1, 0, 0, [97]⟩ = false := by decide +kernel
end Go.Proofs.YtnfjkojckffhmaaDoor.Cl
