/- The contracts of the reference of layer 6: one, Contradict; the walk of the statement ClaimTells. -/
import Derived.Test.YtagmlemlagbfkaaGreatDoorPkMTells13
namespace Go.Proofs.YtagmlemlagbfkaaGreatDoor
open Go.RowKit
set_option linter.unusedVariables false
set_option linter.unusedSimpArgs false
attribute [local irreducible] Calls

set_option maxHeartbeats 2000000 in
set_option maxRecDepth 100000 in
theorem one_q (a b : Cl.Clm) (ia : I64C a) (ib : I64C b) (w : World) (g : Gl w) :
    Calls Tryz.prog 191 #[.agg #[.int .i64 a.kind, .int .i64 a.n, .int .i64 a.time, .string ⟨a.text.toArray⟩], .agg #[.int .i64 b.kind, .int .i64 b.n, .int .i64 b.time, .string ⟨b.text.toArray⟩]] w fun e w' => e = .returned (.bool (Cl.one a b)) ∧ Nw w w' := by
  have nn : Nw w ((w.alloc (.cells (cellsC a ⟨a.text.toArray⟩) tC)).alloc (.cells (cellsC b ⟨b.text.toArray⟩) tC)) := (nw_alloc _ _).trans (nw_alloc _ _)
  have g0 := g.upd nn
  have h1 := Nw.keep (nw_alloc (w.alloc (.cells (cellsC a ⟨a.text.toArray⟩) tC)) (.cells (cellsC b ⟨b.text.toArray⟩) tC)) (heap_new w (.cells (cellsC a ⟨a.text.toArray⟩) tC))
  have h2 := heap_new (w.alloc (.cells (cellsC a ⟨a.text.toArray⟩) tC)) (.cells (cellsC b ⟨b.text.toArray⟩) tC)
  rw [show (w.alloc (.cells (cellsC a ⟨a.text.toArray⟩) tC)).heap.size = w.heap.size + 1 by simp] at h2
  unfold cellsC at *
  obtain ⟨⟨_, _, _, _⟩, _, _, _, _⟩ := two_claims h1 h2
  have H1 := Lib.hid h1; clear h1
  have H2 := Lib.hid h2; clear h2
  obtain ⟨ak, an, am, ax⟩ := a
  obtain ⟨bk, bn, bm, bx⟩ := b
  by_cases c1 : ak = 2 ∧ bk = 0
  · obtain ⟨rfl, rfl⟩ := c1
    have hr : Cl.one ⟨2, an, am, ax⟩ ⟨0, bn, bm, bx⟩ = ((Cl.key bx).2 && decide (bn < an) && decide ((Cl.key bx).1 = ax)) := by
      unfold Cl.one; rw [if_pos ⟨rfl, rfl⟩]; rfl
    have Hr := Lib.hid hr; clear hr
    have hbz := ib.z
    dsimp only at hbz
    go_enter Tryz.func191, Tryz.ntmps191
    go_wp2_with fail
    (with_reducible refine (key_q ⟨bx.toArray⟩ bx (bs_list _) hbz _ g0).mono ?_)
    rintro _ w2 ⟨rfl, u2⟩
    have h1 := u2.keep H1.out
    have h2 := u2.keep H2.out
    replace nn := nn.trans u2
    obtain ⟨⟨_, _, _, _⟩, _, _, _, _⟩ := two_claims h1 h2
    clear H1 H2 h1 h2 g0 u2
    generalize (Cl.key bx).1 = k at *
    generalize (Cl.key bx).2 = ok at *
    cases ok with
    | false =>
      all_goals go_wp2_with fail
      all_goals go_ret
      all_goals exact ⟨ret_bool (by rw [Hr.out] <;> first | rfl | simp [*]), nn⟩
    | true =>
      by_cases hn : bn < an <;> by_cases hk : k = ax
      · subst hk
        all_goals go_wp2_with fail
        all_goals go_ret
        all_goals exact ⟨ret_bool (by rw [Hr.out] <;> first | rfl | simp [*]), nn⟩
      · have hk2 : (k == ax) = false := beq_eq_false_iff_ne.2 hk
        all_goals go_wp2_with fail
        all_goals go_ret
        all_goals exact ⟨ret_bool (by rw [Hr.out] <;> first | rfl | simp [*]), nn⟩
      · all_goals go_wp2_with fail
        all_goals go_ret
        all_goals exact ⟨ret_bool (by rw [Hr.out] <;> first | rfl | simp [*]), nn⟩
      · all_goals go_wp2_with fail
        all_goals go_ret
        all_goals exact ⟨ret_bool (by rw [Hr.out] <;> first | rfl | simp [*]), nn⟩
  by_cases c2 : ak = bk
  · subst c2
    have hr : Cl.one ⟨ak, an, am, ax⟩ ⟨ak, bn, bm, bx⟩ = if ak = 0 then decide (an = bn) && decide (ax ≠ bx)
        else if ak = 1 then (decide (am = bm) && decide (an ≠ bn)) || (decide (am < bm) && decide (bn < an))
        else if ak = 3 then decide (ax = bx) && decide (an ≠ bn)
        else if ak = 4 then decide (am = bm) && decide (an = bn) && decide (ax ≠ bx)
        else false := by
      unfold Cl.one; rw [if_neg c1, if_neg (by simp)]
    have Hr := Lib.hid hr; clear hr
    clear c1
    have hx : ax = bx ∨ (¬ ax = bx ∧ (ax == bx) = false) := by
      by_cases h : ax = bx
      · exact Or.inl h
      · exact Or.inr ⟨h, beq_eq_false_iff_ne.2 h⟩
    by_cases h0 : ak = 0
    · subst h0
      replace Hr := Lib.hid (Hr.out.trans (if_pos rfl))
      rcases Classical.em (an = bn) with rfl | hn
      · rcases hx with rfl | ⟨hx1, hx2⟩
        all_goals go_enter Tryz.func191, Tryz.ntmps191
        all_goals go_wp2_with fail
        all_goals go_ret
        all_goals exact ⟨ret_bool (by rw [Hr.out] <;> first | rfl | simp [*]), nn⟩
      · clear hx
        go_enter Tryz.func191, Tryz.ntmps191
        all_goals go_wp2_with fail
        all_goals go_ret
        all_goals exact ⟨ret_bool (by rw [Hr.out] <;> first | rfl | simp [*]), nn⟩
    replace Hr := Lib.hid (Hr.out.trans (if_neg h0))
    by_cases h1 : ak = 1
    · subst h1
      clear hx
      replace Hr := Lib.hid (Hr.out.trans (if_pos rfl))
      by_cases hm : am = bm
      · subst hm
        by_cases hn : an = bn
        · subst hn
          go_enter Tryz.func191, Tryz.ntmps191
          all_goals go_wp2_with fail
          all_goals go_ret
          all_goals exact ⟨ret_bool (by rw [Hr.out] <;> first | rfl | simp [*]), nn⟩
        · go_enter Tryz.func191, Tryz.ntmps191
          all_goals go_wp2_with fail
          all_goals go_ret
          all_goals exact ⟨ret_bool (by rw [Hr.out] <;> first | rfl | simp [*]), nn⟩
      · by_cases hm2 : am < bm <;> by_cases hn : bn < an
        all_goals go_enter Tryz.func191, Tryz.ntmps191
        all_goals go_wp2_with fail
        all_goals go_ret
        all_goals exact ⟨ret_bool (by rw [Hr.out] <;> first | rfl | simp [*]), nn⟩
    replace Hr := Lib.hid (Hr.out.trans (if_neg h1))
    by_cases h3 : ak = 3
    · subst h3
      replace Hr := Lib.hid (Hr.out.trans (if_pos rfl))
      rcases hx with rfl | ⟨hx1, hx2⟩
      · rcases Classical.em (an = bn) with rfl | hn
        all_goals go_enter Tryz.func191, Tryz.ntmps191
        all_goals go_wp2_with fail
        all_goals go_ret
        all_goals exact ⟨ret_bool (by rw [Hr.out] <;> first | rfl | simp [*]), nn⟩
      · go_enter Tryz.func191, Tryz.ntmps191
        all_goals go_wp2_with fail
        all_goals go_ret
        all_goals exact ⟨ret_bool (by rw [Hr.out] <;> first | rfl | simp [*]), nn⟩
    replace Hr := Lib.hid (Hr.out.trans (if_neg h3))
    by_cases h4 : ak = 4
    · subst h4
      replace Hr := Lib.hid (Hr.out.trans (if_pos rfl))
      rcases Classical.em (am = bm) with rfl | hm
      · rcases Classical.em (an = bn) with rfl | hn
        · rcases hx with rfl | ⟨hx1, hx2⟩
          all_goals go_enter Tryz.func191, Tryz.ntmps191
          all_goals go_wp2_with fail
          all_goals go_ret
          all_goals exact ⟨ret_bool (by rw [Hr.out] <;> first | rfl | simp [*]), nn⟩
        · clear hx
          go_enter Tryz.func191, Tryz.ntmps191
          all_goals go_wp2_with fail
          all_goals go_ret
          all_goals exact ⟨ret_bool (by rw [Hr.out] <;> first | rfl | simp [*]), nn⟩
      · clear hx
        go_enter Tryz.func191, Tryz.ntmps191
        all_goals go_wp2_with fail
        all_goals go_ret
        all_goals exact ⟨ret_bool (by rw [Hr.out] <;> first | rfl | simp [*]), nn⟩
    replace Hr := Lib.hid (Hr.out.trans (if_neg h4))
    clear hx
    by_cases h2 : ak = 2
    · subst h2
      go_enter Tryz.func191, Tryz.ntmps191
      all_goals go_wp2_with fail
      all_goals go_ret
      all_goals exact ⟨ret_bool (by rw [Hr.out] <;> first | rfl | simp [*]), nn⟩
    · go_enter Tryz.func191, Tryz.ntmps191
      all_goals go_wp2_with fail
      all_goals go_ret
      all_goals exact ⟨ret_bool (by rw [Hr.out] <;> first | rfl | simp [*]), nn⟩
  · have hr : Cl.one ⟨ak, an, am, ax⟩ ⟨bk, bn, bm, bx⟩ = false := by
      unfold Cl.one; rw [if_neg c1, if_pos c2]
    have Hr := Lib.hid hr; clear hr
    by_cases c3 : ak = 2
    · have c4 : ¬ bk = 0 := fun e => c1 ⟨c3, e⟩
      subst c3
      clear c1
      go_enter Tryz.func191, Tryz.ntmps191
      all_goals go_wp2_with fail
      all_goals go_ret
      all_goals exact ⟨ret_bool (by rw [Hr.out] <;> first | rfl | simp [*]), nn⟩
    · clear c1
      go_enter Tryz.func191, Tryz.ntmps191
      all_goals go_wp2_with fail
      all_goals go_ret
      all_goals exact ⟨ret_bool (by rw [Hr.out] <;> first | rfl | simp [*]), nn⟩
end Go.Proofs.YtagmlemlagbfkaaGreatDoor
