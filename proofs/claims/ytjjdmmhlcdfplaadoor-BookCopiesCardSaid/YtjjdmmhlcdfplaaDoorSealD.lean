/- The contracts of slices.Clone on entries, and of the ring's All. -/
import Derived.Test.YtjjdmmhlcdfplaaDoorSealC
import Derived.Lib.SliceRun
namespace Go.Proofs.YtjjdmmhlcdfplaaDoor
open Go.RowKit
set_option linter.unusedVariables false
set_option linter.unusedSimpArgs false
attribute [local irreducible] Calls

theorem owns_empty (w : World) (e : TypeId) (sz : Nat) : (w.alloc (.cells #[] e)).ownsRow w.heap.size e sz (.slice (some ⟨w.heap.size, 0, none⟩) 0 0) 0 [] :=
  ⟨by simp, Or.inr ⟨w.heap.size, 0, #[], rfl, Nat.le_refl _, heap_new w _, Nat.le_refl _, Nat.zero_le _, by simp, by simp⟩⟩
theorem sealL_one (L : List Bk.Seal) : ∀ u ∈ (L.map sealL).flatten, u.oneCell' = true := by
  intro u hu
  obtain ⟨x, hx, hu⟩ := List.mem_flatten.1 hu
  obtain ⟨c, _, rfl⟩ := List.mem_map.1 hx
  simp only [sealL, List.mem_cons, List.not_mem_nil, or_false] at hu
  rcases hu with rfl | rfl <;> rfl
set_option maxRecDepth 100000 in
theorem clone_s (B : Nat) (v : Value) (L : List Bk.Seal) (w : World) (g : Gl w) (h : w.ownsRow B tSealed 2 v L.length ((L.map sealL).flatten)) (hL : L.length ≤ 1000000) :
    Calls Tryd.prog 39 #[v] w fun e w' => ∃ v', e = .returned v' ∧ w'.ownsRow w.heap.size tSealed 2 v' L.length ((L.map sealL).flatten) ∧ Nw w w' := by
  have hgb := g.big
  have h' := h
  have HL := Lib.hid hL; clear hL
  have hnil := fun (w : World) (a : Option Addr) (n c : Nat) => Lib.run_eql_slice_nil (P := Tryd.prog) w 50 _ a n c 0 0 Tryd.underlying50
  rcases h.2 with ⟨rfl, hn⟩ | ⟨gg, cap, cur, rfl, _, _, _⟩
  · have hn' := Lib.hid hn
    obtain rfl : L = [] := List.length_eq_zero_iff.1 hn
    clear h h' hn
    go_enter Tryd.func39, Tryd.ntmps39
    go_wp2_with fail
    go_ret
    exact ⟨_, rfl, ⟨by simp, Or.inl ⟨rfl, rfl⟩⟩, Upd.refl _ _⟩
  · have Hn := Lib.hid (h'.alloc (.cells #[] tSealed))
    clear h h'
    have n1 := nw_alloc w (.cells #[] tSealed)
    have o1 := owns_empty w tSealed 2
    go_enter Tryd.func39, Tryd.ntmps39
    go_wp2_with (at_builtin; refine wpList_cat rfl _ _ 50 rfl w.heap.size B tSealed _ 2 24 Tryd.underlying50 infoSealed rfl (by decide) _ _ _ _ _ _ rfl o1 rfl Hn.out ?c1 ?c2 ?c3 ?c4 ?_)
    case c1 => exact sealL_one L
    case c2 => have := HL.out; unfold maxLen; omega
    case c3 => have := HL.out; omega
    case c4 => simp
    intro v' w2 hown hgrow hob
    have u2 : Nw w w2 := n1.grown hgrow (fun k hk => ⟨Or.inr (hob k hk).1, by have := (hob k hk).1; omega⟩)
    go_wp2_with fail
    go_ret
    refine ⟨_, rfl, ?_, u2⟩
    simpa using hown
theorem all_s (B : Nat) (r : RingR) (L : List Bk.Seal) (w : World) (g : Gl w) (h : RingAt B w r L) (hL : L.length ≤ 1000000) :
    Calls Tryd.prog 19 #[.pointer (some ⟨r.rb, 0, none⟩)] w fun e w' => ∃ v', e = .returned v' ∧ w'.ownsRow w.heap.size tSealed 2 v' L.length ((L.map sealL).flatten) ∧ Nw w w' := by
  have c0 := h.c0
  have HL := Lib.hid hL; clear hL
  go_enter Tryd.func19, Tryd.ntmps19
  go_wp2_with fail
  (with_reducible refine (clone_s B r.ev L _ g h.own HL.out).mono ?_)
  rintro _ w1 ⟨v', rfl, ho, u1⟩
  go_wp2_with fail
  go_ret
  exact ⟨_, rfl, ho, u1⟩
end Go.Proofs.YtjjdmmhlcdfplaaDoor
