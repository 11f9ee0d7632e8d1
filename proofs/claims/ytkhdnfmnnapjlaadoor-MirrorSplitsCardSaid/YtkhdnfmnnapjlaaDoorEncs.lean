/- strings.Builder at this seat's numbers: WriteString (copyCheck first), String; a builder that the call has made itself. The contracts of the encoders of layer 1: Int, Num, Text, list[int], list[string], Nums, Texts. -/
import Derived.Test.YtkhdnfmnnapjlaaDoorLib
import Derived.Test.YtkhdnfmnnapjlaaDoorWireP
namespace Go.Proofs.YtkhdnfmnnapjlaaDoor
open Go.RowKit
set_option linter.unusedVariables false
set_option linter.unusedSimpArgs false

theorem bInfoByte : (Tryd.prog.info? 5).map (fun i => (i.zero, i.size, i.bytes)) = some (some (.int .u8 0), 1, 1) := by kernel_rfl

theorem builderAt_nw {T e : TypeId} {B b : Nat} {p : Value} {bs : List Value} {w w' : World} (h : Lib.BuilderAt T e B b p bs w) (u : Nw w w') : Lib.BuilderAt T e B b p bs w' := by
  obtain ⟨h1, v, h2, h3, h4⟩ := h
  refine ⟨h1, v, u.keep h2, ⟨h3.1, ?_⟩, h4⟩
  rcases h3.2 with h | ⟨g, cap, cur, r1, r2, r3, r4⟩
  · exact Or.inl h
  · exact Or.inr ⟨g, cap, cur, r1, r2, u.keep r3, r4⟩
end Go.Proofs.YtkhdnfmnnapjlaaDoor
namespace Go.Proofs.YtkhdnfmnnapjlaaDoor
open Go.RowKit
set_option linter.unusedVariables false
set_option linter.unusedSimpArgs false
attribute [local irreducible] Calls

theorem Int_e (n : Int) (w : World) (g : Gl w) (h : I64 n) :
    Calls Tryd.prog 83 #[.int .i64 n] w fun e w' => e = .returned (.string ⟨(Wire.intE n).toArray⟩) ∧ Nw w w' := by
  have hl := itoa_le h
  go_enter Tryd.func83, Tryd.ntmps83
  go_wp2_with fail
  (with_reducible refine (Itoa_c n _ g h).mono ?_)
  rintro _ w1 ⟨rfl, u1⟩
  go_wp2_with fail
  go_ret
  exact ⟨rfl, u1⟩
theorem Num_e (n : Int) (w : World) (g : Gl w) (h : I64 n) :
    Calls Tryd.prog 74 #[.int .i64 n] w fun e w' => e = .returned (.string ⟨(Wire.numE n).toArray⟩) ∧ Nw w w' := by
  by_cases hn : n < 0
  · go_enter Tryd.func74, Tryd.ntmps74
    go_wp2_with fail
    go_ret
    rw [show Wire.numE n = [] from if_pos hn]
    exact ⟨rfl, Upd.refl _ _⟩
  · go_enter Tryd.func74, Tryd.ntmps74
    go_wp2_with fail
    (with_reducible refine (Int_e n _ g h).mono ?_)
    rintro _ w1 ⟨rfl, u1⟩
    go_wp2_with fail
    go_ret
    rw [show Wire.numE n = Wire.intE n from if_neg (by omega)]
    exact ⟨rfl, u1⟩
theorem Text_e (s : ByteArray) (l : List UInt8) (hs : s.data.toList = l) (w : World) (g : Gl w) (h : l.length ≤ 140737488351232) :
    Calls Tryd.prog 27 #[.string s] w fun e w' => e = .returned (.string ⟨(Wire.textE l).toArray⟩) ∧ Nw w w' := by
  have hz := bs_size s
  rw [hs] at hz
  have hi : I64 s.size := by unfold I64; omega
  have hl := itoa_le hi
  have Hz := Lib.hid hz
  replace hz : s.size ≤ 140737488351232 := by omega
  go_enter Tryd.func27, Tryd.ntmps27
  go_wp2_with fail
  (with_reducible refine (Itoa_c _ _ g hi).mono ?_)
  rintro _ w1 ⟨rfl, u1⟩
  go_wp2_with fail
  go_ret
  refine ⟨ret_bs ?_, u1⟩
  simp only [bs_append_list, bs_list, hs, Hz.out]
  rfl
end Go.Proofs.YtkhdnfmnnapjlaaDoor
