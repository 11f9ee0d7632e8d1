/- Pairs of numbers, and turns, among a statement's arguments; FewTurns for 20. -/
import Derived.Test.YtkhdnfmnnapjlaaDoorVTurn
import Derived.OpenShut
namespace Go.Proofs.YtkhdnfmnnapjlaaDoor
open Go.ChangeShapes Go.WideShapes Go.ChangeAt Go.RowKit Go.Joins
set_option linter.unusedVariables false
set_option linter.unusedSimpArgs false
attribute [local irreducible] Calls

def pairL (p : Int × Int) : List Value := [.int .i64 p.1, .int .i64 p.2]
section
variable {H : Type} {enc : TypeId × Value → H} {w : World} {base : Nat} {sp : Nat → Bool} {held : Bool} {n : Nat} {x : DataW H × List MemPlace}
set_option maxRecDepth 100000 in
theorem trod_pair {cs : List Value} (h : DataW.trod enc Tryd.prog w base sp held n 73 cs = some x) : ∃ p : Int × Int, cs = pairL p ∧ I64 p.1 ∧ I64 p.2 := by
  obtain ⟨xs, m, rfl, hx, hl, hlen, hel⟩ := Go.DataW.trod_array Tryd.underlying73 h
  have hc : Tryd.prog.cellsOf 73 = 2 := by kernel_rfl
  have hi : Tryd.prog.cellsOf 3 = 1 := by kernel_rfl
  rw [hc] at hl
  match cs, hl with
  | [c0, c1], _ =>
    match xs, hlen with
    | [y0, y1], _ =>
      have q0 := hel 0 (by omega)
      have q1 := hel 1 (by omega)
      rw [hi] at q0 q1
      have k0 : DataW.trod enc Tryd.prog w base sp held m 3 [c0] = some y0 := q0
      have k1 : DataW.trod enc Tryd.prog w base sp held m 3 [c1] = some y1 := q1
      obtain ⟨z0, e0, w0⟩ := trod_int_cell Tryd.underlying3 k0
      obtain ⟨z1, e1, w1⟩ := trod_int_cell Tryd.underlying3 k1
      simp only [List.cons.injEq, and_true] at e0 e1
      subst e0 e1
      exact ⟨(z0, z1), rfl, i64_of_wf w0, i64_of_wf w1⟩
set_option maxRecDepth 100000 in
theorem trod_pairs {cs : List Value} (h : DataW.trod enc Tryd.prog w base sp held n 24 cs = some x) : ∃ (v : Value) (l : List (Int × Int)), cs = [v] ∧ SlS 2 0 w.heap.size w v (l.map pairL) ∧ ∀ p ∈ l, I64 p.1 ∧ I64 p.2 := by
  obtain ⟨v, xs, h1, h2, h3⟩ := trod_slice_cells Tryd.underlying24 (sz := 2) (by kernel_rfl) (by omega) h
  obtain ⟨l, rfl, h5⟩ := list_of_rel8 (f := pairL) (Q := fun p : Int × Int => I64 p.1 ∧ I64 p.2) xs (fun c hc => by
    obtain ⟨m, y, hy⟩ := h3 c hc
    exact trod_pair hy)
  exact ⟨v, l, h1, h2, h5⟩
end
theorem pair_cells {lo hi : Nat} {w : World} {v : Value} {X : List (Int × Int)} (h : SlS 2 lo hi w v (X.map pairL)) :
    ∃ a cap, v = .slice a X.length cap ∧ X.length ≤ maxLen ∧ (X = [] ∨ ∃ b off, a = some ⟨b, off, none⟩ ∧ b < hi ∧ b < w.heap.size ∧ ∀ i (h : i < X.length),
      w.cell? ⟨b, off + i * 2, none⟩ = some (.int .i64 X[i].1) ∧ w.cell? ⟨b, off + i * 2 + 1, none⟩ = some (.int .i64 X[i].2)) := by
  obtain ⟨a, cap, rfl, hm, h⟩ := h.open_
  rw [List.length_map] at hm
  refine ⟨a, cap, by rw [List.length_map], hm, ?_⟩
  rcases h with h | ⟨b, off, rfl, _, hb1, hb, hc⟩
  · exact Or.inl (List.map_eq_nil_iff.1 h)
  · refine Or.inr ⟨b, off, rfl, hb1, hb, fun i hi => ?_⟩
    have h2 := (hc i (by simpa using hi)).2
    simp only [List.getElem_map] at h2
    exact ⟨by rw [← Nat.add_zero (off + i * 2), h2 0 (by simp [pairL])]; rfl, by rw [h2 1 (by simp [pairL])]; rfl⟩
def FewT20 (l : List Vw.Turn) (w : World) (e : Ending) (w' : World) : Prop := ∃ b, e = .returned (.bool b) ∧ (b = true → l.length ≤ 20 ∧ ∀ x ∈ l, x.name.length ≤ 100 ∧ x.text.length ≤ 100) ∧ Nw w w'
set_option maxHeartbeats 2000000 in
set_option maxRecDepth 100000 in
theorem fewturns20_w (lo hi : Nat) (v : Value) (l : List Vw.Turn) (w : World) (hv : SlS 4 lo hi w v (l.map turnL)) (ho : ∀ o ∈ l, TurnOk o) :
    Calls Tryd.prog 6 #[v, .int .i64 20] w (FewT20 l w) := by
  obtain ⟨a, cap, rfl, hm, ha⟩ := turn_cells hv
  unfold maxLen at hm
  have Ha := Lib.hid ha; clear ha
  have Ho := Lib.hid ho; clear ho
  go_enter Tryd.func6, Tryd.ntmps6
  go_wp2_with fail
  go_loopw [5] (fun i wr => ∃ k : Nat, k ≤ l.length ∧ k ≤ 21 ∧ i = .int .i64 k ∧ Hid (∀ j (h : j < l.length), j < k → l[j].name.length ≤ 100 ∧ l[j].text.length ≤ 100) ∧ Nw w wr) (fun i _ => l.length - (intOf i).toNat)
  case atStart => exact ⟨0, Nat.zero_le _, Nat.zero_le _, rfl, (fun j _ h => by omega), Upd.refl _ _⟩
  case round =>
    obtain ⟨k, hk, hk21, rfl, hall, u⟩ := hrel
    by_cases hlt : k < l.length
    · by_cases h21 : k < 21
      · rcases Ha.out with hnil | ⟨b, off, rfl, _, hbl, hcell⟩
        · simp [hnil] at hlt
        · have c1 := ((Nw.below u).cell (p := ⟨b, off + k * 4 + 1, none⟩) hbl).trans (hcell k hlt).2.1
          have c2 := ((Nw.below u).cell (p := ⟨b, off + k * 4 + 2, none⟩) hbl).trans (hcell k hlt).2.2.1
          have hok1 := (Ho.out l[k] (List.getElem_mem hlt)).m
          have hok2 := (Ho.out l[k] (List.getElem_mem hlt)).t
          have hnext : (l[k].name.length ≤ 100 ∧ l[k].text.length ≤ 100) → Hid (∀ j (h : j < l.length), j < k + 1 → l[j].name.length ≤ 100 ∧ l[j].text.length ≤ 100) := fun h100 j h hj => by
            by_cases e : j = k
            · subst e; exact h100
            · exact hall.out j h (by omega)
          clear hcell
          generalize l[k] = x at *
          by_cases hx : x.name.length ≤ 100
          · by_cases hx2 : x.text.length ≤ 100
            · have hn := hnext ⟨hx, hx2⟩
              clear hnext
              go_wp2_with fail
              go_roundw
              case rel => exact ⟨k + 1, by omega, by omega, by go_num, hn, u⟩
              case measure => simp [intOf]; omega
            · clear hnext
              go_wp2_with fail
              go_ret
              exact ⟨false, rfl, (fun h => by cases h), u⟩
          · clear hnext
            go_wp2_with fail
            go_ret
            exact ⟨false, rfl, (fun h => by cases h), u⟩
      · have hk2 : k = 21 := by omega
        subst hk2
        have hb : Hid (¬ l.length ≤ 20) := by show ¬ _; omega
        go_wp2_with fail
        go_ret
        refine ⟨_, rfl, fun h => ?_, u⟩
        simp at h
        have := hb.out
        omega
    · have hfin : Hid (∀ o ∈ l, o.name.length ≤ 100 ∧ o.text.length ≤ 100) := fun o hoo => by
        obtain ⟨j, hj, rfl⟩ := List.mem_iff_getElem.1 hoo
        exact hall.out j hj (by omega)
      clear hall
      by_cases h21 : k < 21
      all_goals go_wp2_with fail
      all_goals go_ret
      all_goals exact ⟨_, rfl, fun h => ⟨by simp at h; omega, hfin.out⟩, u⟩
end Go.Proofs.YtkhdnfmnnapjlaaDoor
