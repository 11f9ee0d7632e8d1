/- Turns of a book among a statement's arguments: their cells; the contract of FewTurns. -/
import Derived.Test.YtkhdnfmnnapjlaaDoorViewV
import Derived.Test.YtkhdnfmnnapjlaaDoorViewBk
namespace Go.Proofs.YtkhdnfmnnapjlaaDoor
open Go.ChangeShapes Go.WideShapes Go.ChangeAt Go.RowKit Go.Joins
set_option linter.unusedVariables false
set_option linter.unusedSimpArgs false
attribute [local irreducible] Calls

def turnL (o : Vw.Turn) : List Value := [.int .i64 o.kind, .string ⟨o.name.toArray⟩, .string ⟨o.text.toArray⟩, .int .i64 o.n]
structure TurnOk (o : Vw.Turn) : Prop where
  k : I64 o.kind
  m : o.name.length ≤ 9223372036854775807
  t : o.text.length ≤ 9223372036854775807
  n : I64 o.n
section
variable {H : Type} {enc : TypeId × Value → H} {w : World} {base : Nat} {sp : Nat → Bool} {held : Bool} {n : Nat} {x : DataW H × List MemPlace}
set_option maxRecDepth 100000 in
theorem trod_turn {cs : List Value} (h : DataW.trod enc Tryd.prog w base sp held n 41 cs = some x) : ∃ y : Vw.Turn, cs = turnL y ∧ TurnOk y := by
  obtain ⟨xs, m, _, rfl, hl, hlen, hf⟩ := DataW.trod_struct Tryd.underlying41 h
  have hc : Tryd.prog.cellsOf 41 = 4 := by kernel_rfl
  rw [hc] at hl
  match cs, hl with
  | [c0, c1, c2, c3], _ =>
    match xs, hlen with
    | [y0, y1, y2, y3], _ =>
      have k0 : DataW.trod enc Tryd.prog w base sp held m 3 [c0] = some y0 := hf 0 _ rfl
      have k1 : DataW.trod enc Tryd.prog w base sp held m 9 [c1] = some y1 := hf 1 _ rfl
      have k2 : DataW.trod enc Tryd.prog w base sp held m 9 [c2] = some y2 := hf 2 _ rfl
      have k3 : DataW.trod enc Tryd.prog w base sp held m 3 [c3] = some y3 := hf 3 _ rfl
      obtain ⟨z0, e0, w0⟩ := trod_int_cell Tryd.underlying3 k0
      obtain ⟨z1, e1, w1⟩ := trod_str_cell Tryd.underlying9 k1
      obtain ⟨z2, e2, w2⟩ := trod_str_cell Tryd.underlying9 k2
      obtain ⟨z3, e3, w3⟩ := trod_int_cell Tryd.underlying3 k3
      simp only [List.cons.injEq, and_true] at e0 e1 e2 e3
      subst e0 e1 e2 e3
      exact ⟨⟨z0, z1, z2, z3⟩, rfl, i64_of_wf w0, w1, w2, i64_of_wf w3⟩
set_option maxRecDepth 100000 in
theorem trod_turns {cs : List Value} (h : DataW.trod enc Tryd.prog w base sp held n 22 cs = some x) : ∃ (v : Value) (l : List Vw.Turn), cs = [v] ∧ SlS 4 0 w.heap.size w v (l.map turnL) ∧ ∀ o ∈ l, TurnOk o := by
  obtain ⟨v, xs, h1, h2, h3⟩ := trod_slice_cells Tryd.underlying22 (sz := 4) (by kernel_rfl) (by omega) h
  obtain ⟨l, rfl, h5⟩ := list_of_rel8 (f := turnL) (Q := TurnOk) xs (fun c hc => by
    obtain ⟨m, y, hy⟩ := h3 c hc
    exact trod_turn hy)
  exact ⟨v, l, h1, h2, h5⟩
end
theorem turn_cells {lo hi : Nat} {w : World} {v : Value} {X : List Vw.Turn} (h : SlS 4 lo hi w v (X.map turnL)) :
    ∃ a cap, v = .slice a X.length cap ∧ X.length ≤ maxLen ∧ (X = [] ∨ ∃ b off, a = some ⟨b, off, none⟩ ∧ b < hi ∧ b < w.heap.size ∧ ∀ i (h : i < X.length),
      w.cell? ⟨b, off + i * 4, none⟩ = some (.int .i64 X[i].kind) ∧ w.cell? ⟨b, off + i * 4 + 1, none⟩ = some (.string ⟨X[i].name.toArray⟩) ∧ w.cell? ⟨b, off + i * 4 + 2, none⟩ = some (.string ⟨X[i].text.toArray⟩) ∧ w.cell? ⟨b, off + i * 4 + 3, none⟩ = some (.int .i64 X[i].n)) := by
  obtain ⟨a, cap, rfl, hm, h⟩ := h.open_
  rw [List.length_map] at hm
  refine ⟨a, cap, by rw [List.length_map], hm, ?_⟩
  rcases h with h | ⟨b, off, rfl, _, hb1, hb, hc⟩
  · exact Or.inl (List.map_eq_nil_iff.1 h)
  · refine Or.inr ⟨b, off, rfl, hb1, hb, fun i hi => ?_⟩
    have h2 := (hc i (by simpa using hi)).2
    simp only [List.getElem_map] at h2
    exact ⟨by rw [← Nat.add_zero (off + i * 4), h2 0 (by omega)]; rfl, by rw [h2 1 (by omega)]; rfl, by rw [h2 2 (by omega)]; rfl, by rw [h2 3 (by omega)]; rfl⟩
def FewTP (l : List Vw.Turn) (w : World) (e : Ending) (w' : World) : Prop := ∃ b, e = .returned (.bool b) ∧ (b = true → l.length ≤ 25 ∧ ∀ x ∈ l, x.name.length ≤ 100 ∧ x.text.length ≤ 100) ∧ Nw w w'
set_option maxHeartbeats 2000000 in
set_option maxRecDepth 100000 in
theorem fewturns_w (lo hi : Nat) (v : Value) (l : List Vw.Turn) (w : World) (hv : SlS 4 lo hi w v (l.map turnL)) (ho : ∀ o ∈ l, TurnOk o) :
    Calls Tryd.prog 6 #[v, .int .i64 25] w (FewTP l w) := by
  obtain ⟨a, cap, rfl, hm, ha⟩ := turn_cells hv
  unfold maxLen at hm
  have Ha := Lib.hid ha; clear ha
  have Ho := Lib.hid ho; clear ho
  go_enter Tryd.func6, Tryd.ntmps6
  go_wp2_with fail
  go_loopw [5] (fun i wr => ∃ k : Nat, k ≤ l.length ∧ k ≤ 26 ∧ i = .int .i64 k ∧ Hid (∀ j (h : j < l.length), j < k → l[j].name.length ≤ 100 ∧ l[j].text.length ≤ 100) ∧ Nw w wr) (fun i _ => l.length - (intOf i).toNat)
  case atStart => exact ⟨0, Nat.zero_le _, Nat.zero_le _, rfl, (fun j _ h => by omega), Upd.refl _ _⟩
  case round =>
    obtain ⟨k, hk, hk26, rfl, hall, u⟩ := hrel
    by_cases hlt : k < l.length
    · by_cases h26 : k < 26
      · rcases Ha.out with hnil | ⟨b, off, rfl, _, hbl, hcell⟩
        · simp [hnil] at hlt
        · have c1 := ((Nw.below u).cell (p := ⟨b, off + k * 4 + 1, none⟩) hbl).trans (hcell k hlt).2.1
          have c2 := ((Nw.below u).cell (p := ⟨b, off + k * 4 + 2, none⟩) hbl).trans (hcell k hlt).2.2.1
          have hok1 := (Ho.out l[k] (List.getElem_mem hlt)).m
          have hok2 := (Ho.out l[k] (List.getElem_mem hlt)).t
          have hnext : (l[k].name.length ≤ 100 ∧ l[k].text.length ≤ 100) → Hid (∀ j (h : j < l.length), j < k + 1 → l[j].name.length ≤ 100 ∧ l[j].text.length ≤ 100) := fun h100 j h hj => by
            by_cases e : j = k
            · subst e; exact h100
            · exact hall.out j h (by omega)
          clear hcell
          generalize l[k] = x at *
          by_cases hx : x.name.length ≤ 100
          · by_cases hx2 : x.text.length ≤ 100
            · have hn := hnext ⟨hx, hx2⟩
              clear hnext
              go_wp2_with fail
              go_roundw
              case rel => exact ⟨k + 1, by omega, by omega, by go_num, hn, u⟩
              case measure => simp [intOf]; omega
            · clear hnext
              go_wp2_with fail
              go_ret
              exact ⟨false, rfl, (fun h => by cases h), u⟩
          · clear hnext
            go_wp2_with fail
            go_ret
            exact ⟨false, rfl, (fun h => by cases h), u⟩
      · have hk2 : k = 26 := by omega
        subst hk2
        have hb : Hid (¬ l.length ≤ 25) := by show ¬ _; omega
        go_wp2_with fail
        go_ret
        refine ⟨_, rfl, fun h => ?_, u⟩
        simp at h
        have := hb.out
        omega
    · have hfin : Hid (∀ o ∈ l, o.name.length ≤ 100 ∧ o.text.length ≤ 100) := fun o hoo => by
        obtain ⟨j, hj, rfl⟩ := List.mem_iff_getElem.1 hoo
        exact hall.out j hj (by omega)
      clear hall
      by_cases h26 : k < 26
      all_goals go_wp2_with fail
      all_goals go_ret
      all_goals exact ⟨_, rfl, fun h => ⟨by simp at h; omega, hfin.out⟩, u⟩
end Go.Proofs.YtkhdnfmnnapjlaaDoor
