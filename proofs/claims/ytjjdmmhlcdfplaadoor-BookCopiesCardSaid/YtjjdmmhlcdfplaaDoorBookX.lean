/- Layer 7 in plain words: the documentation's example. No program stands in this text. -/
import Derived.Test.YtjjdmmhlcdfplaaDoorBookQ
namespace Go.Proofs.YtjjdmmhlcdfplaaDoor.Bk
def xt : List UInt8 := [49, 58, 107, 44, 118]
def xj : List UInt8 := [49, 58, 106, 44]
def xb1 : Book := ⟨3, [xt], -1, 0⟩
def xb2 : Book := ⟨3, [xt], 5, 1⟩
def xb3 : Book := ⟨3, [xt, xj], 5, 1⟩
def xb4 : Book := ⟨3, [xt, xj], 6, 2⟩
def xa : List UInt8 := [50, 59, 48, 59, 48, 59, 49, 58, 107, 44]
def xh : List UInt8 := [49, 59, 49, 59, 53, 59, 48, 58, 44]
def xi : List UInt8 := [49, 59, 50, 59, 54, 59, 48, 58, 44]
def xL1 : List Seal := [⟨3, xa⟩]
def xL2 : List Seal := [⟨3, xa⟩, ⟨3, xh⟩]
def xL3 : List Seal := [⟨3, xa⟩, ⟨3, xh⟩, ⟨3, xi⟩]
theorem x1 : append (new 3) xt = ((0, 0), xb1) := by decide +kernel
theorem x2 : absent [] xb1 [107] 0 = ((⟨3, xa, 0⟩, 0), xL1) := by decide +kernel
theorem x3 : absent xL1 xb1 [107] 1 = ((⟨0, [], 0⟩, 5), xL1) := by decide +kernel
theorem x4 : head xL1 xb1 5 = ((⟨3, xh, 1⟩, 0), xL2, xb2) := by decide +kernel
theorem x5 : head xL2 xb2 5 = ((⟨3, xh, 1⟩, 0), xL2, xb2) := by decide +kernel
theorem x6 : append xb2 xj = ((1, 0), xb3) := by decide +kernel
theorem x7 : head xL2 xb3 5 = ((⟨0, [], 0⟩, 7), xL2, xb3) := by decide +kernel
theorem x8 : head xL2 xb3 6 = ((⟨3, xi, 2⟩, 0), xL3, xb4) := by decide +kernel
theorem x9 : valid xL3 ⟨3, xh, 1⟩ = true := by decide +kernel
theorem xk : Wire.textE [107] = [49, 58, 107, 44] := by decide +kernel
theorem xl : Wire.textE [106] = xj := by decide +kernel
end Go.Proofs.YtjjdmmhlcdfplaaDoor.Bk
