/- The contract of the reference's Contradict; the walk of the statement ClaimTells. -/
import Derived.Test.YtpceoogmkbcfmaaGreatDoorClaimJ
namespace Go.Proofs.YtpceoogmkbcfmaaGreatDoor
open Go.RowKit
set_option linter.unusedVariables false
set_option linter.unusedSimpArgs false
attribute [local irreducible] Calls

theorem read_gen (s : ByteArray) (l : List UInt8) (c : Cl.Clm) (ok : Bool) (n : Int) (hs : s.data.toList = l) (hr : Cl.read l = (c, ok)) (hn : n = if ok then 0 else 2) (hl : l.length ≤ 9223372036854775807) (w : World) (g : Gl w) :
    Calls Tryz.prog 51 #[.string s] w fun e w' => e = .returned (.tuple #[.agg #[.int .i64 c.kind, .int .i64 c.n, .int .i64 c.time, .string ⟨c.text.toArray⟩], .int .i64 n]) ∧ Nw w w' := by
  subst hn
  refine (read_c s l hs hl w g).mono ?_
  rw [hr]
  exact fun _ _ h => h
theorem cread_gen (s : ByteArray) (l : List UInt8) (c : Cl.Clm) (ok : Bool) (n : Int) (hs : s.data.toList = l) (hr : Cl.read l = (c, ok)) (hn : n = if ok then 0 else 2) (hl : l.length ≤ 9223372036854775807) (w : World) (g : Gl w) :
    Calls Tryz.prog 66 #[.string s] w fun e w' => e = .returned (.tuple #[.agg #[.int .i64 c.kind, .int .i64 c.n, .int .i64 c.time, .string ⟨c.text.toArray⟩], .int .i64 n]) ∧ Nw w w' := by
  subst hn
  refine (cread_q s l hs hl w g).mono ?_
  rw [hr]
  exact fun _ _ h => h
end Go.Proofs.YtpceoogmkbcfmaaGreatDoor
