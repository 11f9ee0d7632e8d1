/- strings.Builder at this seat's numbers: WriteString (copyCheck first), String; a builder that the call has made itself. -/
import Derived.Test.YtjjdmmhlcdfplaaDoorLib
namespace Go.Proofs.YtjjdmmhlcdfplaaDoor
open Go.RowKit
set_option linter.unusedVariables false
set_option linter.unusedSimpArgs false

theorem bInfoByte : (Tryd.prog.info? 5).map (fun i => (i.zero, i.size, i.bytes)) = some (some (.int .u8 0), 1, 1) := by kernel_rfl

theorem builderAt_nw {T e : TypeId} {B b : Nat} {p : Value} {bs : List Value} {w w' : World} (h : Lib.BuilderAt T e B b p bs w) (u : Nw w w') : Lib.BuilderAt T e B b p bs w' := by
  obtain ⟨h1, v, h2, h3, h4⟩ := h
  refine ⟨h1, v, u.keep h2, ⟨h3.1, ?_⟩, h4⟩
  rcases h3.2 with h | ⟨g, cap, cur, r1, r2, r3, r4⟩
  · exact Or.inl h
  · exact Or.inr ⟨g, cap, cur, r1, r2, u.keep r3, r4⟩
end Go.Proofs.YtjjdmmhlcdfplaaDoor
