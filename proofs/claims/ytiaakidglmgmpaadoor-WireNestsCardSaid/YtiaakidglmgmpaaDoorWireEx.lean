/- The documented examples of layer 1, in the plain words. No program stands in this text. -/
import Derived.Test.YtiaakidglmgmpaaDoorWireNum
namespace Go.Proofs.YtiaakidglmgmpaaDoor.Wire
open Go.Lib Go.RowKit
set_option linter.unusedVariables false
set_option linter.unusedSimpArgs false
theorem dd0 : decDigits 0 = [48] := decDigits_one (by decide)
theorem dd1 : decDigits 1 = [49] := decDigits_one (by decide)
theorem dd2 : decDigits 2 = [50] := decDigits_one (by decide)
theorem dd3 : decDigits 3 = [51] := decDigits_one (by decide)
theorem dd7 : decDigits 7 = [55] := decDigits_one (by decide)
theorem dd300 : decDigits 300 = [51, 48, 48] := by
  rw [decDigits_step' (by decide), decDigits_step' (by decide), decDigits_one (by decide)]; rfl
theorem ex_num0 : numE 0 = [48, 59] := by simp [numE, intE, itoa, dd0]
theorem ex_num300 : numE 300 = [51, 48, 48, 59] := by simp [numE, intE, itoa, dd300]
theorem ex_num1 : numE (-1) = [] := by simp [numE]
theorem ex_int7 : intE 7 = [55, 59] := by simp [intE, itoa, dd7]
theorem ex_int7' : intE (-7) = [45, 55, 59] := by simp [intE, itoa, dd7]
theorem ex_text : textE [97, 44, 98] = [51, 58, 97, 44, 98, 44] := by simp [textE, itoa, dd3]
theorem ex_nums : numsE [1, -1] = [50, 91, 49, 59, 45, 49, 59, 93] := by simp [numsE, listE, intE, itoa, dd2, dd1]
theorem ex_texts : textsE [] = [48, 91, 93] := by simp [textsE, listE, itoa, dd0]
theorem ex_atoi : atoiAll [48, 48, 55] = .ok 7 := by decide
theorem ex_read : rNum (some [48, 48, 55, 59]) = (0, none) := by
  have h : numOf [48, 48, 55] = none := numOf_ne ex_atoi (by simp [itoa, dd7])
  simp [rNum, rNumber, indexByte, h]
end Go.Proofs.YtiaakidglmgmpaaDoor.Wire
