/- The contracts of layer 6's Right and Text. -/
import Derived.Test.YtjjdmmhlcdfplaaDoorClaimA
namespace Go.Proofs.YtjjdmmhlcdfplaaDoor
open Go.RowKit
set_option linter.unusedVariables false
set_option linter.unusedSimpArgs false
attribute [local irreducible] Calls

def Bounds (c : Cl.Clm) (L T X : Int) : Prop := 0 ≤ c.n ∧ c.n ≤ L ∧ 0 ≤ c.time ∧ c.time ≤ T ∧ (c.text.length : Int) ≤ X
instance (c : Cl.Clm) (L T X : Int) : Decidable (Bounds c L T X) := by unfold Bounds; infer_instance
theorem right_lim {c : Cl.Clm} {L T X : Int} {is : Bool} (h : lim c.kind = (L, T, X, is)) : Cl.right c = (is && decide (Bounds c L T X) && (if c.kind = 0 then (Cl.key c.text).2 else true)) := by
  have hB : (decide (Bounds c L T X) = true) ↔ Bounds c L T X := decide_eq_true_iff
  rw [Bool.eq_iff_iff, Bool.and_eq_true, Bool.and_eq_true, hB]
  clear hB
  unfold Bounds Cl.right Cl.within
  unfold lim at h
  have e : c.text = [] ↔ c.text.length = 0 := by rw [List.length_eq_zero_iff]
  by_cases h0 : c.kind = 0
  · rw [if_pos h0] at h ⊢
    simp only [Prod.mk.injEq] at h
    obtain ⟨rfl, rfl, rfl, rfl⟩ := h
    rw [if_pos h0]
    simp only [Bool.and_eq_true, decide_eq_true_eq]
    constructor
    · intro h; exact ⟨⟨trivial, by omega⟩, h.2⟩
    · intro h; exact ⟨by omega, h.2⟩
  rw [if_neg h0] at h ⊢
  rw [if_neg h0]
  by_cases h1 : c.kind = 1
  · rw [if_pos h1] at h ⊢
    simp only [Prod.mk.injEq] at h
    obtain ⟨rfl, rfl, rfl, rfl⟩ := h
    simp only [Bool.and_eq_true, decide_eq_true_eq, e, true_and, and_true]
    omega
  rw [if_neg h1] at h ⊢
  by_cases h2 : c.kind = 2
  · rw [if_pos h2] at h ⊢
    simp only [Prod.mk.injEq] at h
    obtain ⟨rfl, rfl, rfl, rfl⟩ := h
    simp only [Bool.and_eq_true, decide_eq_true_eq, true_and, and_true]
    omega
  rw [if_neg h2] at h ⊢
  by_cases h3 : c.kind = 3
  · rw [if_pos h3] at h ⊢
    simp only [Prod.mk.injEq] at h
    obtain ⟨rfl, rfl, rfl, rfl⟩ := h
    simp only [Bool.and_eq_true, decide_eq_true_eq, true_and, and_true]
    omega
  rw [if_neg h3] at h ⊢
  by_cases h4 : c.kind = 4
  · rw [if_pos h4] at h ⊢
    simp only [Prod.mk.injEq] at h
    obtain ⟨rfl, rfl, rfl, rfl⟩ := h
    simp only [Bool.and_eq_true, decide_eq_true_eq, true_and, and_true]
    omega
  rw [if_neg h4] at h ⊢
  simp only [Prod.mk.injEq] at h
  obtain ⟨rfl, rfl, rfl, rfl⟩ := h
  simp
set_option maxHeartbeats 2000000 in
theorem right_c (c : Cl.Clm) (s : ByteArray) (hs : s.data.toList = c.text) (hi : I64C c) (w : World) (g : Gl w) :
    Calls Tryd.prog 29 #[.agg #[.int .i64 c.kind, .int .i64 c.n, .int .i64 c.time, .string s]] w fun e w' => e = .returned (.bool (Cl.right c)) ∧ Nw w w' := by
  obtain ⟨L, T, X, is, hlim⟩ : ∃ L T X is, lim c.kind = (L, T, X, is) := ⟨_, _, _, _, rfl⟩
  have hr := Lib.hid (right_lim hlim)
  have hb := heap_new w (.cells #[.int .i64 c.kind, .int .i64 c.n, .int .i64 c.time, .string s] 59)
  have Hb := Lib.hid hb; clear hb
  have hz : s.size = c.text.length := by rw [bs_size, hs]
  have Hz := Lib.hid hz; clear hz
  have Hs := Lib.hid hs; clear hs
  go_enter Tryd.func29, Tryd.ntmps29
  go_wp2_with fail
  (with_reducible refine (limits_c _ _ (g.upd (nw_alloc _ _))).mono ?_)
  rintro _ w1 ⟨rfl, u1⟩
  rw [hlim]
  have hb1 := u1.keep Hb.out
  have u1' := (nw_alloc _ _).trans u1
  have g1 := g.upd u1'
  have u2 := u1'.trans (nw_alloc w1 (.cells #[.int .i64 L, .int .i64 T, .int .i64 X] 93))
  have g2 := g.upd u2
  have hlt : w.heap.size < w1.heap.size := lt_of_block hb1
  have c0 : w1.cell? ⟨w.heap.size, 0, none⟩ = some (.int .i64 c.kind) := by rw [cells_cell hb1]; rfl
  have c1 : w1.cell? ⟨w.heap.size, 1, none⟩ = some (.int .i64 c.n) := by rw [cells_cell hb1]; rfl
  have c2 : w1.cell? ⟨w.heap.size, 2, none⟩ = some (.int .i64 c.time) := by rw [cells_cell hb1]; rfl
  have c3 : w1.cell? ⟨w.heap.size, 3, none⟩ = some (.string s) := by rw [cells_cell hb1]; rfl
  have hz := Hz.out
  have hzl := hi.z
  rw [← hz] at hzl
  have hB : Bounds c L T X ↔ (0 ≤ c.n ∧ c.n ≤ L ∧ 0 ≤ c.time ∧ c.time ≤ T ∧ (s.size : Int) ≤ X) := by unfold Bounds; rw [← hz]
  clear hz u1 hb1 Hb u1' g1 hlim hi
  cases is with
  | false =>
    go_wp2_with fail
    go_ret
    exact ⟨ret_bool (by rw [hr.out]; rfl), u2⟩
  | true =>
    by_cases hb : 0 ≤ c.n ∧ c.n ≤ L ∧ 0 ≤ c.time ∧ c.time ≤ T ∧ (s.size : Int) ≤ X
    · have hr2 : Hid (Cl.right c = (if c.kind = 0 then (Cl.key c.text).2 else true)) := by show _ = _; rw [hr.out, decide_eq_true (hB.2 hb)]; rfl
      clear hr hB
      obtain ⟨b1, b2, b3, b4, b5⟩ := hb
      by_cases hk : c.kind = 0
      · go_wp2_with fail
        (with_reducible refine (key_c s c.text Hs.out (by rw [← Hz.out]; exact hzl) _ g2).mono ?_)
        rintro _ w3 ⟨rfl, u3⟩
        go_wp2_with fail
        go_ret
        exact ⟨ret_bool (by rw [hr2.out, if_pos hk]), u2.trans u3⟩
      · go_wp2_with fail
        go_ret
        exact ⟨ret_bool (by rw [hr2.out, if_neg hk]), u2⟩
    · have hr2 : Hid (Cl.right c = false) := by show _ = _; rw [hr.out, decide_eq_false (fun h => hb (hB.1 h))]; rfl
      clear hr hB
      have hb5 : c.n < 0 ∨ L < c.n ∨ c.time < 0 ∨ T < c.time ∨ X < (s.size : Int) := by omega
      clear hb
      rcases hb5 with h | h | h | h | h
      all_goals go_wp2_with fail
      all_goals go_ret
      all_goals exact ⟨ret_bool hr2.out.symm, u2⟩
end Go.Proofs.YtjjdmmhlcdfplaaDoor
