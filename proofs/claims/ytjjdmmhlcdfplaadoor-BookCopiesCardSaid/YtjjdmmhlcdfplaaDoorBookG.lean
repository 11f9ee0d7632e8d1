/- Lists of operations among a statement's arguments; the contract of ladinglaw07's few. -/
import Derived.Test.YtjjdmmhlcdfplaaDoorBookF
namespace Go.Proofs.YtjjdmmhlcdfplaaDoor
open Go.ChangeShapes Go.WideShapes Go.ChangeAt Go.RowKit Go.Joins
set_option linter.unusedVariables false
set_option linter.unusedSimpArgs false
attribute [local irreducible] Calls

def opL (o : Bk.Opn) : List Value := [.int .i64 o.kind, .int .i64 o.n, .string ⟨o.s.toArray⟩]
structure OpOk (o : Bk.Opn) : Prop where
  k : I64 o.kind
  n : I64 o.n
  s : o.s.length ≤ 9223372036854775807
section
variable {H : Type} {enc : TypeId × Value → H} {w : World} {base : Nat} {sp : Nat → Bool} {held : Bool} {n : Nat} {x : DataW H × List MemPlace}
set_option maxRecDepth 100000 in
theorem trod_opn {cs : List Value} (h : DataW.trod enc Tryd.prog w base sp held n tOp cs = some x) : ∃ y : Bk.Opn, cs = opL y ∧ OpOk y := by
  obtain ⟨xs, m, _, rfl, hl, hlen, hf⟩ := DataW.trod_struct Tryd.underlying41 h
  have hc : Tryd.prog.cellsOf 41 = 3 := by kernel_rfl
  rw [hc] at hl
  match cs, hl with
  | [c0, c1, c2], _ =>
    match xs, hlen with
    | [y0, y1, y2], _ =>
      have k0 : DataW.trod enc Tryd.prog w base sp held m 3 [c0] = some y0 := hf 0 _ rfl
      have k1 : DataW.trod enc Tryd.prog w base sp held m 3 [c1] = some y1 := hf 1 _ rfl
      have k2 : DataW.trod enc Tryd.prog w base sp held m 9 [c2] = some y2 := hf 2 _ rfl
      obtain ⟨z0, e0, w0⟩ := trod_int_cell Tryd.underlying3 k0
      obtain ⟨z1, e1, w1⟩ := trod_int_cell Tryd.underlying3 k1
      obtain ⟨z2, e2, w2⟩ := trod_str_cell Tryd.underlying9 k2
      simp only [List.cons.injEq, and_true] at e0 e1 e2
      subst e0 e1 e2
      exact ⟨⟨z0, z1, z2⟩, rfl, i64_of_wf w0, i64_of_wf w1, w2⟩
theorem list_of_rel {α : Type} {f : α → List Value} {Q : α → Prop} : ∀ (xs : List (List Value)), (∀ c ∈ xs, ∃ y, c = f y ∧ Q y) → ∃ l : List α, xs = l.map f ∧ ∀ y ∈ l, Q y := by
  intro xs
  induction xs with
  | nil => exact fun _ => ⟨[], rfl, fun y hy => by cases hy⟩
  | cons c xs ih =>
    intro h
    obtain ⟨l, h1, h2⟩ := ih (fun c hc => h c (List.mem_cons_of_mem _ hc))
    obtain ⟨y, h3, h4⟩ := h c (List.mem_cons_self ..)
    exact ⟨y :: l, by rw [h1, h3]; rfl, fun z hz => by rcases List.mem_cons.1 hz with rfl | hz; exact h4; exact h2 z hz⟩
set_option maxRecDepth 100000 in
theorem trod_ops {cs : List Value} (h : DataW.trod enc Tryd.prog w base sp held n 22 cs = some x) : ∃ (v : Value) (l : List Bk.Opn), cs = [v] ∧ SlS 3 0 w.heap.size w v (l.map opL) ∧ ∀ o ∈ l, OpOk o := by
  obtain ⟨v, xs, h1, h2, h3⟩ := trod_slice_cells Tryd.underlying22 (sz := 3) (by kernel_rfl) (by omega) h
  obtain ⟨l, rfl, h5⟩ := list_of_rel (f := opL) (Q := OpOk) xs (fun c hc => by
    obtain ⟨m, y, hy⟩ := h3 c hc
    exact trod_opn hy)
  exact ⟨v, l, h1, h2, h5⟩
end
/-- The cells of a list of operations. -/
theorem op_cells {lo hi : Nat} {w : World} {v : Value} {X : List Bk.Opn} (h : SlS 3 lo hi w v (X.map opL)) :
    ∃ a cap, v = .slice a X.length cap ∧ X.length ≤ maxLen ∧ (X = [] ∨ ∃ b off, a = some ⟨b, off, none⟩ ∧ b < hi ∧ b < w.heap.size ∧ ∀ i (h : i < X.length), w.cell? ⟨b, off + i * 3, none⟩ = some (.int .i64 X[i].kind) ∧
      w.cell? ⟨b, off + i * 3 + 1, none⟩ = some (.int .i64 X[i].n) ∧ w.cell? ⟨b, off + i * 3 + 2, none⟩ = some (.string ⟨X[i].s.toArray⟩)) := by
  obtain ⟨a, cap, rfl, hm, h⟩ := h.open_
  rw [List.length_map] at hm
  refine ⟨a, cap, by rw [List.length_map], hm, ?_⟩
  rcases h with h | ⟨b, off, rfl, _, hb1, hb, hc⟩
  · exact Or.inl (List.map_eq_nil_iff.1 h)
  · refine Or.inr ⟨b, off, rfl, hb1, hb, fun i hi => ?_⟩
    have h2 := (hc i (by simpa using hi)).2
    simp only [List.getElem_map] at h2
    exact ⟨by rw [← Nat.add_zero (off + i * 3), h2 0 (by omega)]; rfl, by rw [h2 1 (by omega)]; rfl, by rw [h2 2 (by omega)]; rfl⟩
def FewPost (l : List Bk.Opn) (w : World) (e : Ending) (w' : World) : Prop := ∃ b, e = .returned (.bool b) ∧ (b = true → l.length ≤ 25 ∧ ∀ o ∈ l, o.s.length ≤ 300) ∧ Nw w w'
set_option maxHeartbeats 2000000 in
set_option maxRecDepth 100000 in
theorem few_b (lo hi : Nat) (v : Value) (l : List Bk.Opn) (w : World) (hv : SlS 3 lo hi w v (l.map opL)) (ho : ∀ o ∈ l, OpOk o) :
    Calls Tryd.prog 8 #[v] w (FewPost l w) := by
  obtain ⟨a, cap, rfl, hm, ha⟩ := op_cells hv
  unfold maxLen at hm
  have Ha := Lib.hid ha; clear ha
  have Ho := Lib.hid ho; clear ho
  go_enter Tryd.func8, Tryd.ntmps8
  go_wp2_with fail
  go_loopw [3] (fun i wr => ∃ k : Nat, k ≤ l.length ∧ k ≤ 26 ∧ i = .int .i64 k ∧ Hid (∀ j (h : j < l.length), j < k → l[j].s.length ≤ 300) ∧ Nw w wr) (fun i _ => l.length - (intOf i).toNat)
  case atStart => exact ⟨0, Nat.zero_le _, Nat.zero_le _, rfl, (fun j _ h => by omega), Upd.refl _ _⟩
  case round =>
    obtain ⟨k, hk, hk26, rfl, hall, u⟩ := hrel
    by_cases hlt : k < l.length
    · by_cases h26 : k < 26
      · rcases Ha.out with hnil | ⟨b, off, rfl, _, hbl, hcell⟩
        · simp [hnil] at hlt
        · have c2 := ((Nw.below u).cell (p := ⟨b, off + k * 3 + 2, none⟩) hbl).trans (hcell k hlt).2.2
          have hok := (Ho.out l[k] (List.getElem_mem hlt)).s
          have hnext : l[k].s.length ≤ 300 → Hid (∀ j (h : j < l.length), j < k + 1 → l[j].s.length ≤ 300) := fun h100 j h hj => by
            by_cases e : j = k
            · subst e; exact h100
            · exact hall.out j h (by omega)
          clear hcell
          generalize l[k] = x at *
          by_cases hx : x.s.length ≤ 300
          · go_wp2_with fail
            go_roundw
            case rel => exact ⟨k + 1, by omega, by omega, by go_num, hnext hx, u⟩
            case measure => simp [intOf]; omega
          · go_wp2_with fail
            go_ret
            exact ⟨false, rfl, (fun h => by cases h), u⟩
      · have hk2 : k = 26 := by omega
        subst hk2
        have hb : Hid (¬ l.length ≤ 25) := by show ¬ _; omega
        go_wp2_with fail
        go_ret
        refine ⟨_, rfl, fun h => ?_, u⟩
        simp at h
        have := hb.out
        omega
    · have hfin : Hid (∀ o ∈ l, o.s.length ≤ 300) := fun o hoo => by
        obtain ⟨j, hj, rfl⟩ := List.mem_iff_getElem.1 hoo
        exact hall.out j hj (by omega)
      clear hall
      by_cases h26 : k < 26
      all_goals go_wp2_with fail
      all_goals go_ret
      all_goals exact ⟨_, rfl, fun h => ⟨by simp at h; omega, hfin.out⟩, u⟩
end Go.Proofs.YtjjdmmhlcdfplaaDoor
