/- Layer 8 in plain words: what is refused, and why. No program stands in this text. -/
import Derived.Test.YtidmehiboceobaaGreatDoorViewGr
namespace Go.Proofs.YtidmehiboceobaaGreatDoor.Vw
open Go.Lib Go.RowKit Wire
open Bk (Seal Sgn noSgn isKey place valid)
open Cl (Clm contra)
set_option linter.unusedVariables false
set_option linter.unusedSimpArgs false

def mineB (Lr : List Seal) (key : Int) (s : Sgn) : Bool := valid Lr s && (s.key == key) && isLog s.text
/-- What Accept answers, against what Clash answers. -/
theorem kp_cases (Lr : List Seal) (key : Int) (L : List Sgn) (s : Sgn) :
    (mineB Lr key s = true ∧ (accept Lr key L s).1 = 0 ∧ (clash L s).2 = false) ∨
    (mineB Lr key s = true ∧ (accept Lr key L s).1 = 21 ∧ (clash L s).2 = true ∧ (accept Lr key L s).2 = L) ∨
    (mineB Lr key s = false ∧ ((accept Lr key L s).1 = 18 ∨ (accept Lr key L s).1 = 22 ∨ (accept Lr key L s).1 = 2) ∧ (accept Lr key L s).2 = L) := by
  have hcl : isLog s.text = true → (clash L s).2 = clashes L (claimOf s) := fun h => by
    unfold clash
    rw [if_neg (by rw [(log_spec h).2.2.1]; simp)]
    cases hf : L.find? (fun x => contra (claimOf x) (claimOf s)) with
    | none =>
      have := List.find?_eq_none.1 hf
      rw [show clashes L (claimOf s) = false from clashes_no.2 fun x hx => by simpa using this x hx]
    | some x =>
      have h1 := List.mem_of_find?_eq_some hf
      have h2 := List.find?_some hf
      rw [show clashes L (claimOf s) = true from clashes_yes.2 ⟨x, h1, by simpa using h2⟩]
  unfold mineB
  rcases accept_cases Lr key L s with ⟨h1, e⟩ | ⟨h1, h2, e⟩ | ⟨h1, h2, h3, e⟩ | ⟨h1, h2, h3, h4, e⟩ | ⟨h1, h2, h3, h4, h5, e⟩ | ⟨h1, h2, h3, h4, h5, e⟩
  · exact Or.inr (Or.inr ⟨by rw [h1]; rfl, Or.inl (by rw [e]), by rw [e]⟩)
  · exact Or.inr (Or.inr ⟨by rw [h1, beq_eq_false_iff_ne.2 h2]; rfl, Or.inr (Or.inl (by rw [e])), by rw [e]⟩)
  · exact Or.inr (Or.inr ⟨by rw [h3]; simp, Or.inr (Or.inr (by rw [e])), by rw [e]⟩)
  · exact Or.inr (Or.inl ⟨by rw [h1, h3, beq_iff_eq.2 h2]; rfl, by rw [e], by rw [hcl h3, h4], by rw [e]⟩)
  · exact Or.inl ⟨by rw [h1, h3, beq_iff_eq.2 h2]; rfl, by rw [e], by rw [hcl h3, h4]⟩
  · exact Or.inl ⟨by rw [h1, h3, beq_iff_eq.2 h2]; rfl, by rw [e], by rw [hcl h3, h4]⟩
/-- What Clash returns, contradicts, and has been accepted. -/
theorem clash_is {L : List Sgn} {s : Sgn} (h : (clash L s).2 = true) : (Cl.read s.text).2 = true ∧ (clash L s).1 ∈ L ∧ contra (claimOf s) (claimOf (clash L s).1) = true := by
  unfold clash at h ⊢
  by_cases hr : (Cl.read s.text).2 = false
  · rw [if_pos hr] at h; cases h
  · rw [if_neg hr] at h ⊢
    cases hf : L.find? (fun x => contra (claimOf x) (claimOf s)) with
    | none => rw [hf] at h; cases h
    | some x =>
      have h1 := List.mem_of_find?_eq_some hf
      have h2 := List.find?_some hf
      refine ⟨by simpa using hr, h1, ?_⟩
      dsimp only
      rw [Cl.contra_symm]
      simpa using h2
theorem mine_ok {Lr : List Seal} {key : Int} {s : Sgn} (ok : Bool) (c : Clm) (h : Cl.read s.text = (c, ok)) :
    mineB Lr key s = (valid Lr s && (s.key == key) && ok && decide (c.kind ≤ 2)) := by
  unfold mineB isLog
  rw [h, Bool.and_assoc (valid Lr s && (s.key == key))]
end Go.Proofs.YtidmehiboceobaaGreatDoor.Vw
