/- The reference's Text and Own. -/
import Derived.Test.YtagmlemlagbfkaaGreatDoorPkFSurv14
namespace Go.Proofs.YtagmlemlagbfkaaGreatDoor
open Go.RowKit
set_option linter.unusedVariables false
set_option linter.unusedSimpArgs false
attribute [local irreducible] Calls

set_option maxRecDepth 100000 in
theorem rtext_c (lo hi : Nat) (v : Value) (l : List (List UInt8)) (n : Int) (w : World) (hv : Sl lo hi w v (l.map bsMU)) (hl : l.length ≤ 90) :
    Calls Tryz.prog 91 #[v, .int .i64 n] w fun e w' => e = .returned (.tuple #[.string ⟨(textAtU l n).toArray⟩, .bool (hasAtU l n)]) ∧ Nw w w' := by
  obtain ⟨a, cap, rfl, hc⟩ := strs_cellsU hv
  have HC := Lib.hid hc
  have hl1 : (l.length : Int) ≤ 90 := by omega
  clear hv hc hl
  by_cases h0 : n < 0
  · have d0 : decide (n < 0) = true := decide_eq_true h0
    have h1 : Hid (textAtU l n = [] ∧ hasAtU l n = false) := by
      refine ⟨?_, ?_⟩
      · unfold textAtU; rw [if_neg (by omega)]
      · unfold hasAtU; rw [decide_eq_false (by omega)]; rfl
    rw [h1.out.1, h1.out.2]
    clear h1 h0
    go_enter Tryz.func91, Tryz.ntmps91
    go_wp2_with fail
    go_ret2
    exact ⟨rfl, Upd.refl _ _⟩
  · obtain ⟨k, rfl⟩ : ∃ k : Nat, n = (k : Int) := ⟨n.toNat, by omega⟩
    have d0 : decide ((k : Int) < 0) = false := decide_eq_false h0
    by_cases h1 : k < l.length
    · have d1 : decide ((l.length : Int) ≤ (k : Int)) = false := decide_eq_false (by omega)
      rcases HC.out with hnil | ⟨b, off, rfl, hcell⟩
      · simp [hnil] at h1
      have c0 := hcell k h1
      have h2 : Hid (textAtU l (k : Int) = l[k] ∧ hasAtU l (k : Int) = true) := by
        refine ⟨?_, ?_⟩
        · unfold textAtU; rw [if_pos (by omega)]; simp [h1]
        · unfold hasAtU; simp [h1]
      rw [h2.out.1, h2.out.2]
      clear h2 hcell h0
      generalize l[k] = x at *
      have hk1 : (k : Int) < l.length := by omega
      go_enter Tryz.func91, Tryz.ntmps91
      go_wp2_with fail
      go_ret2
      exact ⟨rfl, Upd.refl _ _⟩
    · have d1 : decide ((l.length : Int) ≤ (k : Int)) = true := decide_eq_true (by omega)
      have h2 : Hid (textAtU l (k : Int) = [] ∧ hasAtU l (k : Int) = false) := by
        refine ⟨?_, ?_⟩
        · unfold textAtU; rw [if_pos (by omega)]; simp [List.getElem?_eq_none (Nat.le_of_not_lt h1)]
        · unfold hasAtU; simp; omega
      rw [h2.out.1, h2.out.2]
      clear h2 h0
      go_enter Tryz.func91, Tryz.ntmps91
      go_wp2_with fail
      go_ret2
      exact ⟨rfl, Upd.refl _ _⟩
/-- The text that is taken at an index. -/
def ownT (cs : List (List UInt8)) (mc : List Int) (i : Int) (odd : List UInt8) : List UInt8 := if odd ≠ [] ∨ i < 0 ∨ (mc.length : Int) ≤ i then odd else textAtU cs (mc.getD i.toNat 0)
set_option maxHeartbeats 1000000 in
set_option maxRecDepth 100000 in
theorem own_c (lo hi lo2 hi2 : Nat) (v : Value) (cs : List (List UInt8)) (p z : Int) (cv : Value) (l : List Int) (i : Int) (hi64 : I64 i) (t : List UInt8) (w : World) (hv : Sl lo hi w v (cs.map bsMU)) (hl : cs.length ≤ 90) (hc : Sl lo2 hi2 w cv (l.map intD)) (hl2 : l.length ≤ 1000000) :
    Calls Tryz.prog 43 #[v, .agg #[.int .i64 p, .int .i64 z, cv], .int .i64 i, .string ⟨t.toArray⟩] w fun e w' => e = .returned (.string ⟨(ownT cs l i t).toArray⟩) ∧ Nw w w' := by
  obtain ⟨a, cap, rfl, -, hcc⟩ := int_cells hc
  have n1 := nw_alloc w (.cells #[.int .i64 p, .int .i64 z, .slice a l.length cap] tManU)
  have HCC := Lib.hid (int_cells (hc.nw n1))
  have HT := Lib.hid (fun n : Int => rtext_c lo hi v cs n _ (hv.nw n1) hl)
  obtain ⟨a1, c1, rfl, -⟩ := strs_cellsU hv
  have hl3 : (l.length : Int) ≤ 1000000 := by omega
  have HU := Lib.hid n1
  clear hv hc hcc n1
  unfold I64 at hi64
  obtain ⟨hi1, hi2'⟩ := hi64
  by_cases ht : t = []
  · subst ht
    by_cases h0 : i < 0
    · have d0 : decide (i < 0) = true := decide_eq_true h0
      have hr : Hid (ownT cs l i [] = []) := by show _ = _; unfold ownT; rw [if_pos (Or.inr (Or.inl h0))]
      clear h0
      go_enter Tryz.func43, Tryz.ntmps43
      go_wp2_with fail
      go_ret
      exact ⟨by rw [hr.out]; rfl, HU.out⟩
    have d0 : decide (i < 0) = false := decide_eq_false h0
    by_cases h1 : (l.length : Int) ≤ i
    · have d1 : decide ((l.length : Int) ≤ i) = true := decide_eq_true h1
      have hr : Hid (ownT cs l i [] = []) := by show _ = _; unfold ownT; rw [if_pos (Or.inr (Or.inr h1))]
      clear h1 h0
      go_enter Tryz.func43, Tryz.ntmps43
      go_wp2_with fail
      go_ret
      exact ⟨by rw [hr.out]; rfl, HU.out⟩
    have d1 : decide ((l.length : Int) ≤ i) = false := decide_eq_false h1
    obtain ⟨k, rfl⟩ : ∃ k : Nat, i = k := ⟨i.toNat, by omega⟩
    have hk : k < l.length := by omega
    have hr : Hid (ownT cs l k [] = textAtU cs l[k]) := by
      show _ = _
      unfold ownT
      rw [if_neg (by rintro (h | h | h); exact h rfl; exact h0 h; exact h1 h)]
      simp [hk]
    rcases HCC.out with ⟨_, _, e, _, hnil | ⟨b, off, e2, _, _, hcell⟩⟩
    · simp [hnil] at hk
    injection e with e3 e4 e5
    subst e3 e5
    subst e2
    have c0 := hcell k hk
    have hk1 : (k : Int) < l.length := by omega
    have HT1 := Lib.hid (HT.out l[k])
    clear hcell h0 h1 HCC HT
    generalize l[k] = n at *
    go_enter Tryz.func43, Tryz.ntmps43
    go_wp2_with fail
    (with_reducible refine (HT1.out).mono ?_)
    rintro _ w2 ⟨rfl, u2⟩
    have HU2 := Lib.hid (HU.out.trans u2)
    clear u2 HT1
    go_wp2_with fail
    go_ret
    exact ⟨by rw [hr.out]; rfl, HU2.out⟩
  · have e1 : t.isEmpty = false := by cases t <;> simp_all
    have hr : Hid (ownT cs l i t = t) := by show _ = _; unfold ownT; rw [if_pos (Or.inl ht)]
    clear ht
    go_enter Tryz.func43, Tryz.ntmps43
    go_wp2_with fail
    go_ret
    exact ⟨by rw [hr.out]; rfl, HU.out⟩
end Go.Proofs.YtagmlemlagbfkaaGreatDoor
