/- format.read; format.Write and format.Read. -/
import Derived.Test.YtjlgmoemnhmgmaaGreatDoorPkWTells13
import Derived.Test.YtjlgmoemnhmgmaaGreatDoorPkWTells14
import Derived.Test.YtjlgmoemnhmgmaaGreatDoorPkWTells16
namespace Go.Proofs.YtjlgmoemnhmgmaaGreatDoor
open Go.RowKit Go.MapKept
set_option linter.unusedVariables false
set_option linter.unusedSimpArgs false
attribute [local irreducible] Calls
open Fm (Ty Vl Str nameB rightTy rightVl)

theorem fmread_c : ∀ (d : Nat), d ≤ 4 → ∀ (t : Ty) (fv : Value) (s : Str) (w : World), Gm w → rightTy d t = true → TyAt w fv t → s.length ≤ 1000000 →
    Calls Tryz.prog 67 #[.agg #[.int .i64 t.kind, fv], .string ⟨s.toArray⟩] w (RdPost d t s w) := by
  intro d
  induction d with
  | zero => intro _ t fv s w g h; cases h
  | succ d ih =>
    intro hd t fv s w g hr ht hs
    have hR := Fm.rt_iff.1 hr
    have hkc : t.kind = 0 ∨ t.kind = 1 ∨ t.kind = 2 := by have := hR.k0; have := hR.k3; omega
    rcases hkc with hk | hk | hk
    · exact fmread_k0 d hd (ih (by omega)) t hk fv s w g hr ht hs
    · exact fmread_k1 d hd (ih (by omega)) t hk fv s w g hr ht hs
    · exact fmread_k2 d hd (ih (by omega)) t hk fv s w g hr ht hs
end Go.Proofs.YtjlgmoemnhmgmaaGreatDoor
