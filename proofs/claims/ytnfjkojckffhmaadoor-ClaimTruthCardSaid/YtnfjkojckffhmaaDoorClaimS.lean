/- The contract of small: the documentation's examples, called. -/
import Derived.Test.YtnfjkojckffhmaaDoorClaimE
import Derived.Test.YtnfjkojckffhmaaDoorClaimX
namespace Go.Proofs.YtnfjkojckffhmaaDoor
open Go.RowKit
set_option linter.unusedVariables false
set_option linter.unusedSimpArgs false
attribute [local irreducible] Calls

theorem i64c {k n t : Int} {s : List UInt8} (h : (-100 ≤ k ∧ k ≤ 100) ∧ (-100 ≤ n ∧ n ≤ 100) ∧ (-100 ≤ t ∧ t ≤ 100) ∧ s.length ≤ 100) : I64C ⟨k, n, t, s⟩ := by
  exact ⟨show I64 k by unfold I64; omega, show I64 n by unfold I64; omega, show I64 t by unfold I64; omega, show s.length ≤ 9223372036854775807 by omega⟩
theorem lit_r1 (w : World) (g : Gl w) : Calls Tryd.prog 9 #[.string ⟨#[49, 59, 51, 59, 55, 59, 48, 58, 44]⟩] w fun e w' => e = .returned (.tuple #[.agg #[.int .i64 1, .int .i64 3, .int .i64 7, .string ⟨#[]⟩], .int .i64 0]) ∧ Nw w w' := by
  refine (read_c _ [49, 59, 51, 59, 55, 59, 48, 58, 44] rfl (by decide) w g).mono ?_
  rw [Cl.ex_r1]
  exact fun _ _ h => h
theorem lit_r2 (w : World) (g : Gl w) : Calls Tryd.prog 9 #[.string ⟨#[49, 59, 51, 59, 55, 59, 49, 58, 97, 44]⟩] w fun e w' => e = .returned (.tuple #[.agg #[.int .i64 0, .int .i64 0, .int .i64 0, .string ⟨#[]⟩], .int .i64 2]) ∧ Nw w w' := by
  refine (read_c _ [49, 59, 51, 59, 55, 59, 49, 58, 97, 44] rfl (by decide) w g).mono ?_
  rw [Cl.ex_r2]
  exact fun _ _ h => h
theorem lit_r3 (w : World) (g : Gl w) : Calls Tryd.prog 9 #[.string ⟨#[49, 59, 48, 51, 59, 55, 59, 48, 58, 44]⟩] w fun e w' => e = .returned (.tuple #[.agg #[.int .i64 0, .int .i64 0, .int .i64 0, .string ⟨#[]⟩], .int .i64 2]) ∧ Nw w w' := by
  refine (read_c _ [49, 59, 48, 51, 59, 55, 59, 48, 58, 44] rfl (by decide) w g).mono ?_
  rw [Cl.ex_r3]
  exact fun _ _ h => h
theorem lit_k1 (w : World) (g : Gl w) : Calls Tryd.prog 11 #[.string ⟨#[49, 58, 97, 44, 120]⟩] w fun e w' => e = .returned (.tuple #[.string ⟨#[97]⟩, .bool true]) ∧ Nw w w' := by
  refine (key_c _ [49, 58, 97, 44, 120] rfl (by decide) w g).mono ?_
  rw [Cl.ex_k1]
  exact fun _ _ h => h
theorem lit_k2 (w : World) (g : Gl w) : Calls Tryd.prog 11 #[.string ⟨#[97]⟩] w fun e w' => e = .returned (.tuple #[.string ⟨#[]⟩, .bool false]) ∧ Nw w w' := by
  refine (key_c _ [97] rfl (by decide) w g).mono ?_
  rw [Cl.ex_k2]
  exact fun _ _ h => h
theorem lit_t (w : World) (g : Gl w) : Calls Tryd.prog 15 #[.agg #[.int .i64 0, .int .i64 2, .int .i64 0, .string ⟨#[49, 58, 97, 44, 120]⟩]] w fun e w' => e = .returned (.string ⟨#[48, 59, 50, 59, 48, 59, 53, 58, 49, 58, 97, 44, 120, 44]⟩) ∧ Nw w w' := by
  refine (text_c ⟨0, 2, 0, [49, 58, 97, 44, 120]⟩ _ rfl (i64c (by decide)) w g).mono ?_
  rw [Cl.ex_t]
  exact fun _ _ h => h
theorem lit_c1 (w : World) (g : Gl w) : Calls Tryd.prog 17 #[.agg #[.int .i64 0, .int .i64 2, .int .i64 0, .string ⟨#[49, 58, 97, 44, 120]⟩], .agg #[.int .i64 2, .int .i64 3, .int .i64 0, .string ⟨#[97]⟩]] w fun e w' => e = .returned (.bool true) ∧ Nw w w' := by
  refine (contra_c ⟨0, 2, 0, [49, 58, 97, 44, 120]⟩ ⟨2, 3, 0, [97]⟩ _ _ rfl rfl (i64c (by decide)) (i64c (by decide)) w g).mono ?_
  rw [Cl.ex_c1]
  exact fun _ _ h => h
theorem lit_c2 (w : World) (g : Gl w) : Calls Tryd.prog 17 #[.agg #[.int .i64 0, .int .i64 2, .int .i64 0, .string ⟨#[49, 58, 97, 44, 120]⟩], .agg #[.int .i64 2, .int .i64 2, .int .i64 0, .string ⟨#[97]⟩]] w fun e w' => e = .returned (.bool false) ∧ Nw w w' := by
  refine (contra_c ⟨0, 2, 0, [49, 58, 97, 44, 120]⟩ ⟨2, 2, 0, [97]⟩ _ _ rfl rfl (i64c (by decide)) (i64c (by decide)) w g).mono ?_
  rw [Cl.ex_c2]
  exact fun _ _ h => h
theorem lit_c3 (w : World) (g : Gl w) : Calls Tryd.prog 17 #[.agg #[.int .i64 1, .int .i64 3, .int .i64 7, .string ⟨#[]⟩], .agg #[.int .i64 1, .int .i64 2, .int .i64 8, .string ⟨#[]⟩]] w fun e w' => e = .returned (.bool true) ∧ Nw w w' := by
  refine (contra_c ⟨1, 3, 7, []⟩ ⟨1, 2, 8, []⟩ _ _ rfl rfl (i64c (by decide)) (i64c (by decide)) w g).mono ?_
  rw [Cl.ex_c3]
  exact fun _ _ h => h
theorem lit_c4 (w : World) (g : Gl w) : Calls Tryd.prog 17 #[.agg #[.int .i64 1, .int .i64 3, .int .i64 7, .string ⟨#[]⟩], .agg #[.int .i64 1, .int .i64 3, .int .i64 8, .string ⟨#[]⟩]] w fun e w' => e = .returned (.bool false) ∧ Nw w w' := by
  refine (contra_c ⟨1, 3, 7, []⟩ ⟨1, 3, 8, []⟩ _ _ rfl rfl (i64c (by decide)) (i64c (by decide)) w g).mono ?_
  rw [Cl.ex_c4]
  exact fun _ _ h => h
theorem lit_g1 (w : World) (g : Gl w) : Calls Tryd.prog 13 #[.agg #[.int .i64 0, .int .i64 2, .int .i64 0, .string ⟨#[49, 58, 97, 44, 120]⟩]] w fun e w' => e = .returned (.bool true) ∧ Nw w w' := by
  refine (right_c ⟨0, 2, 0, [49, 58, 97, 44, 120]⟩ _ rfl (i64c (by decide)) w g).mono ?_
  rw [Cl.ex_g1]
  exact fun _ _ h => h
theorem lit_g2 (w : World) (g : Gl w) : Calls Tryd.prog 13 #[.agg #[.int .i64 1, .int .i64 0, .int .i64 0, .string ⟨#[97]⟩]] w fun e w' => e = .returned (.bool false) ∧ Nw w w' := by
  refine (right_c ⟨1, 0, 0, [97]⟩ _ rfl (i64c (by decide)) w g).mono ?_
  rw [Cl.ex_g2]
  exact fun _ _ h => h
end Go.Proofs.YtnfjkojckffhmaaDoor
