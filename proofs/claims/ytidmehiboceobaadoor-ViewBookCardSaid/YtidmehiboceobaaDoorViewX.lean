/- Layer 8 in plain words: the documentation's example. No program stands in this text. -/
import Derived.Test.YtidmehiboceobaaDoorViewPl
namespace Go.Proofs.YtidmehiboceobaaDoor.Vw
open Bk (Seal Sgn noSgn)
def ta : List UInt8 := [49, 59, 50, 59, 55, 59, 48, 58, 44]
def tb : List UInt8 := [48, 59, 48, 59, 48, 59, 53, 58, 49, 58, 97, 44, 120, 44]
def tc : List UInt8 := [50, 59, 48, 59, 48, 59, 49, 58, 97, 44]
def td : List UInt8 := [49, 59, 49, 59, 56, 59, 48, 58, 44]
def sa : Sgn := ⟨3, ta, 0⟩
def sb : Sgn := ⟨3, tb, 1⟩
def sc : Sgn := ⟨3, tc, 2⟩
def sd : Sgn := ⟨3, td, 3⟩
def R1 : List Seal := [⟨3, ta⟩]
def R2 : List Seal := [⟨3, ta⟩, ⟨3, tb⟩]
def R3 : List Seal := [⟨3, ta⟩, ⟨3, tb⟩, ⟨3, tc⟩]
def R4 : List Seal := [⟨3, ta⟩, ⟨3, tb⟩, ⟨3, tc⟩, ⟨3, td⟩]
theorem e1 : Bk.sign [] 3 ta = (sa, R1) := by decide +kernel
theorem e2 : Bk.sign R1 3 tb = (sb, R2) := by decide +kernel
theorem e3 : Bk.sign R2 3 tc = (sc, R3) := by decide +kernel
theorem e4 : Bk.sign R3 3 td = (sd, R4) := by decide +kernel
theorem a1 : accept R4 3 [] sa = (0, [sa]) := by decide +kernel
theorem a2 : accept R4 3 [sa] sb = (0, [sa, sb]) := by decide +kernel
theorem a3 : accept R4 3 [sa, sb] sc = (0, [sa, sb, sc]) := by decide +kernel
theorem a4 : accept R4 3 [sa, sb, sc] sd = (21, [sa, sb, sc]) := by decide +kernel
theorem a5 : accept R4 3 [sa, sb, sc] sa = (0, [sa, sb, sc]) := by decide +kernel
theorem b1 : sizeOf [sa, sb, sc] = (2, 7) := by decide +kernel
theorem b2 : textAt [sa, sb, sc] 0 = ([49, 58, 97, 44, 120], true) := by decide +kernel
theorem b3 : textAt [sa, sb, sc] 1 = ([], false) := by decide +kernel
theorem b4 : absentOf [sa, sb, sc] [97] = (0, true) := by decide +kernel
theorem b5 : absentOf [sa, sb, sc] [98] = (0, false) := by decide +kernel
theorem b6 : clash [sa, sb, sc] sd = (sa, true) := by decide +kernel
theorem b7 : age [sa, sb, sc] 9 = 2 := by decide +kernel
theorem b8 : age [sa, sb, sc] 6 = -1 := by decide +kernel
theorem b9 : known [sa, sb, sc] 1 = true := by decide +kernel
theorem b10 : known [sa, sb, sc] 2 = false := by decide +kernel
end Go.Proofs.YtidmehiboceobaaDoor.Vw
