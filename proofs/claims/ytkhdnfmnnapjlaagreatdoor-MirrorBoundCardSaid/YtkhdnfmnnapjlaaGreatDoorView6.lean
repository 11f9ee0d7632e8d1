/- The contracts of what the statements' helpers do: Words, Turned, Few, signed. -/
import Derived.Test.YtkhdnfmnnapjlaaGreatDoorView5
import Derived.Test.YtkhdnfmnnapjlaaGreatDoorViewSay
import Derived.Deep.RegionHeldLaw
namespace Go.Proofs.YtkhdnfmnnapjlaaGreatDoor
open Go.RowKit
set_option linter.unusedVariables false
set_option linter.unusedSimpArgs false
attribute [local irreducible] Calls

def sayL (x : Vw.Say) : List Value := [.int .i64 x.key, .int .i64 x.c.kind, .int .i64 x.c.n, .int .i64 x.c.time, .string ⟨x.c.text.toArray⟩, .string ⟨x.raw.toArray⟩, .int .i64 x.odd]
structure SayOk (x : Vw.Say) : Prop where
  k : I64 x.key
  c : I64C x.c
  r : x.raw.length ≤ 9223372036854775807
  o : I64 x.odd
theorem text_len8 (c : Cl.Clm) (hi : I64C c) : (Cl.text c).length ≤ 30000 := by
  cases h : Cl.right c with
  | false => rw [Cl.text, h]; simp
  | true =>
    obtain ⟨h1, h2, h3, h4, h5, h6, h7⟩ := Cl.right_bounds h
    have i1 := itoa_le hi.k
    have i2 := itoa_le hi.n
    have i3 := itoa_le hi.t
    have i4 := itoa_le (n := (c.text.length : Int)) (by unfold I64; omega)
    rw [Cl.text, if_pos h]
    unfold Cl.enc Wire.numE
    rw [if_neg (by omega), if_neg (by omega), if_neg (by omega)]
    simp only [Wire.intE, Wire.textE, List.length_append, List.length_cons, List.length_nil]
    omega
theorem words_len {x : Vw.Say} (hx : SayOk x) (hr : x.raw.length ≤ 300) : (Vw.words x).length ≤ 30000 := by
  unfold Vw.words
  split
  · exact text_len8 x.c hx.c
  · omega
theorem say_cells {lo hi : Nat} {w : World} {v : Value} {X : List Vw.Say} (h : SlS 7 lo hi w v (X.map sayL)) :
    ∃ a cap, v = .slice a X.length cap ∧ X.length ≤ maxLen ∧ (X = [] ∨ ∃ b off, a = some ⟨b, off, none⟩ ∧ b < hi ∧ b < w.heap.size ∧ ∀ i (h : i < X.length),
      w.cell? ⟨b, off + i * 7, none⟩ = some (.int .i64 X[i].key) ∧ w.cell? ⟨b, off + i * 7 + 1, none⟩ = some (.int .i64 X[i].c.kind) ∧ w.cell? ⟨b, off + i * 7 + 2, none⟩ = some (.int .i64 X[i].c.n) ∧ w.cell? ⟨b, off + i * 7 + 3, none⟩ = some (.int .i64 X[i].c.time) ∧
      w.cell? ⟨b, off + i * 7 + 4, none⟩ = some (.string ⟨X[i].c.text.toArray⟩) ∧ w.cell? ⟨b, off + i * 7 + 5, none⟩ = some (.string ⟨X[i].raw.toArray⟩) ∧ w.cell? ⟨b, off + i * 7 + 6, none⟩ = some (.int .i64 X[i].odd)) := by
  obtain ⟨a, cap, rfl, hm, h⟩ := h.open_
  rw [List.length_map] at hm
  refine ⟨a, cap, by rw [List.length_map], hm, ?_⟩
  rcases h with h | ⟨b, off, rfl, _, hb1, hb, hc⟩
  · exact Or.inl (List.map_eq_nil_iff.1 h)
  · refine Or.inr ⟨b, off, rfl, hb1, hb, fun i hi => ?_⟩
    have h2 := (hc i (by simpa using hi)).2
    simp only [List.getElem_map] at h2
    exact ⟨by rw [← Nat.add_zero (off + i * 7), h2 0 (by omega)]; rfl, by rw [h2 1 (by omega)]; rfl, by rw [h2 2 (by omega)]; rfl, by rw [h2 3 (by omega)]; rfl, by rw [h2 4 (by omega)]; rfl, by rw [h2 5 (by omega)]; rfl, by rw [h2 6 (by omega)]; rfl⟩
def FewP (l : List Vw.Say) (w : World) (e : Ending) (w' : World) : Prop := ∃ b, e = .returned (.bool b) ∧ (b = true → l.length ≤ 20 ∧ ∀ x ∈ l, x.raw.length ≤ 300 ∧ x.c.text.length ≤ 300) ∧ Nw w w'
end Go.Proofs.YtkhdnfmnnapjlaaGreatDoor
