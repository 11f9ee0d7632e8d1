/- The contracts of view.about, and of what the view asks of the library: slices.IndexFunc and ContainsFunc over claims, Index and Contains over signatures, Clone. -/
import Derived.Test.YtagmlemlagbfkaaGreatDoorPkMTells7
import Derived.Test.YtagmlemlagbfkaaGreatDoorPkMTells8
import Derived.BigRegion
namespace Go.Proofs.YtagmlemlagbfkaaGreatDoor
open Go.RowKit
set_option linter.unusedVariables false
set_option linter.unusedSimpArgs false
attribute [local irreducible] Calls

theorem about_results {w : World} {bp : Nat} {tmps : Array Value} {v0 v1 v2 v3 : Value} {T : TypeId} {fz : Nat × Nat} (h : w.heap[bp]? = some (.cells #[v0, v1, v2, v3] T fz)) (ht : tmps.getD 2 undef = .pointer (some ⟨bp, 0, none⟩)) :
    (results Tryz.f73 tmps).run Tryz.prog w = .ok (.tuple #[.agg #[v0, v1, v2, v3], tmps.getD 3 undef]) w := by
  have c0 : w.cell? ⟨bp, 0, none⟩ = some v0 := by rw [cells_cell h]; rfl
  have c1 : w.cell? ⟨bp, 1, none⟩ = some v1 := by rw [cells_cell h]; rfl
  have c2 : w.cell? ⟨bp, 2, none⟩ = some v2 := by rw [cells_cell h]; rfl
  have c3 : w.cell? ⟨bp, 3, none⟩ = some v3 := by rw [cells_cell h]; rfl
  clear h
  have ht2 : tmps[2]?.getD undef = .pointer (some ⟨bp, 0, none⟩) := by simpa using ht
  clear ht
  simp [results, Tryz.results73, go_sem, ht2, c0, c1, c2, c3]
theorem later4 {w : World} {b : Nat} {a0 a1 a2 a3 : Value} {T : TypeId} (h : w.heap[b]? = some (.cells #[a0, a1, a2, a3] T (0, 0))) :
    (∀ i : Later w, i.1.cell? ⟨b, 0, none⟩ = some a0) ∧ (∀ i : Later w, i.1.cell? ⟨b, 1, none⟩ = some a1) ∧ (∀ i : Later w, i.1.cell? ⟨b, 2, none⟩ = some a2) ∧ ∀ i : Later w, i.1.cell? ⟨b, 3, none⟩ = some a3 := by
  refine ⟨fun i => ?_, fun i => ?_, fun i => ?_, fun i => ?_⟩ <;> (rw [cells_cell (i.nw.keep h)]; rfl)
theorem cell4 {w : World} {b : Nat} {a0 a1 a2 a3 : Value} {T : TypeId} (h : w.heap[b]? = some (.cells #[a0, a1, a2, a3] T (0, 0))) :
    w.cell? ⟨b, 0, none⟩ = some a0 ∧ w.cell? ⟨b, 1, none⟩ = some a1 ∧ w.cell? ⟨b, 2, none⟩ = some a2 ∧ w.cell? ⟨b, 3, none⟩ = some a3 := by
  refine ⟨?_, ?_, ?_, ?_⟩ <;> (rw [cells_cell h]; rfl)
set_option maxHeartbeats 1000000 in
theorem about_v (l : List UInt8) (hl : l.length ≤ 9223372036854775807) (w : World) (g : Gl w) : Calls Tryz.prog 73 #[.string ⟨l.toArray⟩] w fun e w' => e = .returned (.tuple #[clmV (Cl.read l).1, .bool (Vw.isLog l)]) ∧ Nw w w' := by
  have hgb := g.big
  have n1 := nw_alloc w (.cells #[.int .i64 0, .int .i64 0, .int .i64 0, .string ⟨#[]⟩] tC)
  have k1 := heap_new w (.cells #[.int .i64 0, .int .i64 0, .int .i64 0, .string ⟨#[]⟩] tC)
  have HL := Lib.hid (show Vw.isLog l = ((Cl.read l).2 && decide ((Cl.read l).1.kind ≤ 2)) from rfl)
  have hb : (Cl.read l).2 = true → 0 ≤ (Cl.read l).1.kind ∧ (Cl.read l).1.kind ≤ 4 := fun h => by
    have := Cl.right_bounds (Cl.read_inv (s := l) (c := (Cl.read l).1) (by rw [← h])).1
    exact ⟨this.1, this.2.1⟩
  obtain ⟨c, ok, hc⟩ : ∃ c ok, Cl.read l = (c, ok) := ⟨_, _, rfl⟩
  have hrd := read_c ⟨l.toArray⟩ l (bs_list _) hl (w.alloc (.cells #[.int .i64 0, .int .i64 0, .int .i64 0, .string ⟨#[]⟩] tC)) (g.upd n1)
  rw [hc] at HL hb hrd ⊢
  unfold errV clmV at hrd
  unfold clmV
  dsimp only at HL hb hrd ⊢
  have Hrd := Lib.hid hrd
  clear hc hrd
  go_enter Tryz.func73, Tryz.ntmps73
  go_wp2_with fail
  (with_reducible refine (Hrd.out).mono ?_)
  rintro _ w2 ⟨rfl, u2⟩
  have K2 := Lib.hid (u2.keep k1)
  have u1 := n1.trans u2
  clear k1 n1 u2
  have kb := heap_new w2 (.cells #[.int .i64 c.kind, .int .i64 c.n, .int .i64 c.time, .string ⟨c.text.toArray⟩] tC)
  have u3 := u1.trans (nw_alloc w2 (.cells #[.int .i64 c.kind, .int .i64 c.n, .int .i64 c.time, .string ⟨c.text.toArray⟩] tC))
  have kz := Nw.keep (nw_alloc w2 (.cells #[.int .i64 c.kind, .int .i64 c.n, .int .i64 c.time, .string ⟨c.text.toArray⟩] tC)) K2.out
  generalize hW : w2.alloc (.cells #[.int .i64 c.kind, .int .i64 c.n, .int .i64 c.time, .string ⟨c.text.toArray⟩] tC) = W at kb u3 kz
  have HW := Lib.hid hW
  obtain ⟨_, _, _, _⟩ := cell4 kb
  obtain ⟨_, _, _, _⟩ := cell4 kz
  have f0 := cells_frozen kz 0
  have f1 := cells_frozen kz 1
  have f2 := cells_frozen kz 2
  have f3 := cells_frozen kz 3
  have KZ : Hid (W.drew.heap[w.heap.size]? = _) := kz
  have hlt2 := lt_of_block K2.out
  have hne1 : ¬ w2.heap.size = w.heap.size := by omega
  have hne2 : ¬ w.heap.size = w2.heap.size := by omega
  clear kb kz hW K2 hlt2
  cases ok with
  | false =>
    clear hb
    replace HL : Hid (Vw.isLog l = false) := by show _ = _; rw [HL.out]; rfl
    go_wp2_with fail
    rw [HW.out]
    go_region
    all_goals go_wp2_with fail
    all_goals (try simp only [Exit.inBlock, Exit.then])
    all_goals exact bodyPost_ret (about_results (set4 KZ.out) rfl) rfl ⟨by rw [HL.out]; rfl, set4_nw u3.drew (Nat.le_refl _) hgb _ _ _ _⟩
  | true =>
    obtain ⟨hb1, hb2⟩ := hb rfl
    by_cases k0 : c.kind = 0
    · replace HL : Hid (Vw.isLog l = true) := by show _ = _; rw [HL.out, decide_eq_true (by omega)]; rfl
      have d0 : (c.kind == 0) = true := beq_iff_eq.2 k0
      clear k0 hb1 hb2 hb
      go_wp2_with fail
      rw [HW.out]
      go_region
      all_goals go_wp2_with fail
      all_goals (try simp only [Exit.inBlock, Exit.then])
      all_goals exact bodyPost_ret (about_results (set4 KZ.out) rfl) rfl ⟨by rw [HL.out]; rfl, set4_nw u3.drew (Nat.le_refl _) hgb _ _ _ _⟩
    have d0 : (c.kind == 0) = false := beq_eq_false_iff_ne.2 k0
    by_cases k1 : c.kind = 1
    · replace HL : Hid (Vw.isLog l = true) := by show _ = _; rw [HL.out, decide_eq_true (by omega)]; rfl
      have d1 : (c.kind == 1) = true := beq_iff_eq.2 k1
      clear k0 k1 hb1 hb2 hb
      go_wp2_with fail
      rw [HW.out]
      go_region
      all_goals go_wp2_with fail
      all_goals (try simp only [Exit.inBlock, Exit.then])
      all_goals exact bodyPost_ret (about_results (set4 KZ.out) rfl) rfl ⟨by rw [HL.out]; rfl, set4_nw u3.drew (Nat.le_refl _) hgb _ _ _ _⟩
    have d1 : (c.kind == 1) = false := beq_eq_false_iff_ne.2 k1
    by_cases k2 : c.kind = 2
    · replace HL : Hid (Vw.isLog l = true) := by show _ = _; rw [HL.out, decide_eq_true (by omega)]; rfl
      have d2 : (c.kind == 2) = true := beq_iff_eq.2 k2
      clear k0 k1 k2 hb1 hb2 hb
      go_wp2_with fail
      rw [HW.out]
      go_region
      all_goals go_wp2_with fail
      all_goals (try simp only [Exit.inBlock, Exit.then])
      all_goals exact bodyPost_ret (about_results (set4 KZ.out) rfl) rfl ⟨by rw [HL.out]; rfl, set4_nw u3.drew (Nat.le_refl _) hgb _ _ _ _⟩
    have d2 : (c.kind == 2) = false := beq_eq_false_iff_ne.2 k2
    replace HL : Hid (Vw.isLog l = false) := by show _ = _; rw [HL.out, decide_eq_false (by omega)]; rfl
    clear k0 k1 k2 hb1 hb2 hb
    go_wp2_with fail
    rw [HW.out]
    go_region
    all_goals go_wp2_with fail
    all_goals (try simp only [Exit.inBlock, Exit.then])
    all_goals exact bodyPost_ret (about_results (set4 KZ.out) rfl) rfl ⟨by rw [HL.out]; rfl, set4_nw u3.drew (Nat.le_refl _) hgb _ _ _ _⟩
end Go.Proofs.YtagmlemlagbfkaaGreatDoor
