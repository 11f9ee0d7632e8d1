/- Lists of a fetch's operations among a statement's arguments; Few. -/
import Derived.Test.YtagmlemlagbfkaaGreatDoorPkFSurv18
import Derived.Test.YtagmlemlagbfkaaGreatDoorPkFSurv10
namespace Go.Proofs.YtagmlemlagbfkaaGreatDoor
open Go.ChangeShapes Go.WideShapes Go.ChangeAt Go.RowKit Go.Joins
set_option linter.unusedVariables false
set_option linter.unusedSimpArgs false
attribute [local irreducible] Calls

structure FOp where
  kind : Int
  n : Int
  s : List UInt8
  keep : List Int
def fopL (c : Value × FOp) : List Value := [.int .i64 c.2.kind, .int .i64 c.2.n, .string ⟨c.2.s.toArray⟩, c.1]
/-- The operations C in memory: the keeps' slices beside them. -/
structure FOpS (hi : Nat) (w : World) (v : Value) (C : List (Value × FOp)) : Prop where
  sl : SlS 4 0 hi w v (C.map fopL)
  each : ∀ c ∈ C, Sl 0 hi w c.1 (c.2.keep.map intD) ∧ I64 c.2.kind ∧ I64 c.2.n ∧ ∀ k ∈ c.2.keep, I64 k
theorem list_of_relF {α : Type} {f : α → List Value} {Q : α → Prop} : ∀ (xs : List (List Value)), (∀ c ∈ xs, ∃ y, c = f y ∧ Q y) → ∃ l : List α, xs = l.map f ∧ ∀ y ∈ l, Q y := by
  intro xs
  induction xs with
  | nil => exact fun _ => ⟨[], rfl, fun y hy => by cases hy⟩
  | cons c xs ih =>
    intro h
    obtain ⟨l, h1, h2⟩ := ih (fun c hc => h c (List.mem_cons_of_mem _ hc))
    obtain ⟨y, h3, h4⟩ := h c (List.mem_cons_self ..)
    exact ⟨y :: l, by rw [h1, h3]; rfl, fun z hz => by rcases List.mem_cons.1 hz with rfl | hz; exact h4; exact h2 z hz⟩
section
variable {H : Type} {enc : TypeId × Value → H} {w : World} {base : Nat} {sp : Nat → Bool} {held : Bool} {n : Nat} {x : DataW H × List MemPlace}
set_option maxRecDepth 100000 in
theorem trod_fop {cs : List Value} (h : DataW.trod enc Tryz.prog w base sp held n 103 cs = some x) : ∃ c : Value × FOp, cs = fopL c ∧ (Sl 0 w.heap.size w c.1 (c.2.keep.map intD) ∧ I64 c.2.kind ∧ I64 c.2.n ∧ ∀ k ∈ c.2.keep, I64 k) := by
  obtain ⟨xs, m, _, rfl, hl, hlen, hf⟩ := DataW.trod_struct Tryz.underlying103 h
  have hc : Tryz.prog.cellsOf 103 = 4 := by kernel_rfl
  rw [hc] at hl
  match cs, hl with
  | [c0, c1, c2, c3], _ =>
    match xs, hlen with
    | [y0, y1, y2, y3], _ =>
      have k0 : DataW.trod enc Tryz.prog w base sp held m 3 [c0] = some y0 := hf 0 _ rfl
      have k1 : DataW.trod enc Tryz.prog w base sp held m 3 [c1] = some y1 := hf 1 _ rfl
      have k2 : DataW.trod enc Tryz.prog w base sp held m 9 [c2] = some y2 := hf 2 _ rfl
      have k3 : DataW.trod enc Tryz.prog w base sp held m 22 [c3] = some y3 := hf 3 _ rfl
      obtain ⟨z0, e0, w0⟩ := trod_int_cell Tryz.underlying3 k0
      obtain ⟨z1, e1, w1⟩ := trod_int_cell Tryz.underlying3 k1
      obtain ⟨z2, e2, w2⟩ := trod_str_cell Tryz.underlying9 k2
      obtain ⟨z3, l3, e3, w3, u3⟩ := trod_ints_cell Tryz.underlying22 Tryz.underlying3 (by kernel_rfl) k3
      simp only [List.cons.injEq, and_true] at e0 e1 e2 e3
      subst e0 e1 e2 e3
      exact ⟨(c3, ⟨z0, z1, z2, l3⟩), rfl, w3, i64_of_wf w0, i64_of_wf w1, fun k hk => i64_of_wf (u3 k hk)⟩
set_option maxRecDepth 100000 in
theorem trod_fops {cs : List Value} (h : DataW.trod enc Tryz.prog w base sp held n 100 cs = some x) : ∃ (v : Value) (C : List (Value × FOp)), cs = [v] ∧ FOpS w.heap.size w v C ∧ True := by
  obtain ⟨v, xs, h1, h2, h3⟩ := trod_slice_cells Tryz.underlying100 (sz := 4) (by kernel_rfl) (by omega) h
  obtain ⟨C, rfl, h5⟩ := list_of_relF (f := fopL) (Q := fun c : Value × FOp => Sl 0 w.heap.size w c.1 (c.2.keep.map intD) ∧ I64 c.2.kind ∧ I64 c.2.n ∧ ∀ k ∈ c.2.keep, I64 k) xs (fun c hc => by
    obtain ⟨m, y, hy⟩ := h3 c hc
    exact trod_fop hy)
  exact ⟨v, C, h1, ⟨h2, h5⟩, trivial⟩
end
theorem fop_cells {hi : Nat} {w : World} {v : Value} {C : List (Value × FOp)} (h : FOpS hi w v C) :
    ∃ a cap, v = .slice a C.length cap ∧ C.length ≤ maxLen ∧ (C = [] ∨ ∃ b off, a = some ⟨b, off, none⟩ ∧ b < hi ∧ b < w.heap.size ∧ ∀ i (h : i < C.length),
      w.cell? ⟨b, off + i * 4, none⟩ = some (.int .i64 C[i].2.kind) ∧ w.cell? ⟨b, off + i * 4 + 1, none⟩ = some (.int .i64 C[i].2.n) ∧ w.cell? ⟨b, off + i * 4 + 2, none⟩ = some (.string ⟨C[i].2.s.toArray⟩) ∧ w.cell? ⟨b, off + i * 4 + 3, none⟩ = some C[i].1) := by
  obtain ⟨a, cap, rfl, hm, h⟩ := h.sl.open_
  rw [List.length_map] at hm
  refine ⟨a, cap, by rw [List.length_map], hm, ?_⟩
  rcases h with h | ⟨b, off, rfl, _, hb1, hb, hc⟩
  · exact Or.inl (List.map_eq_nil_iff.1 h)
  · refine Or.inr ⟨b, off, rfl, hb1, hb, fun i hi => ?_⟩
    have h2 := (hc i (by simpa using hi)).2
    simp only [List.getElem_map] at h2
    exact ⟨by rw [← Nat.add_zero (off + i * 4), h2 0 (by omega)]; rfl, by rw [h2 1 (by omega)]; rfl, by rw [h2 2 (by omega)]; rfl, by rw [h2 3 (by omega)]; rfl⟩
theorem FOpS.nw {hi : Nat} {w w' : World} {v : Value} {C : List (Value × FOp)} (h : FOpS hi w v C) (u : Nw w w') : FOpS hi w' v C := ⟨h.sl.nw u, fun c hc => ⟨(h.each c hc).1.nw u, (h.each c hc).2⟩⟩
/-- What few says. -/
def FewF (C : List (Value × FOp)) : Prop := (∀ c ∈ C, c.2.s.length ≤ 100 ∧ c.2.keep.length ≤ 20) ∧ C.length ≤ 20
def fewFB (C : List (Value × FOp)) : Bool := (C.all fun c => decide (c.2.s.length ≤ 100 ∧ c.2.keep.length ≤ 20)) && decide (C.length ≤ 20)
theorem fewFB_iff {C : List (Value × FOp)} : fewFB C = true ↔ FewF C := by unfold fewFB FewF; simp
theorem fewFB_not {C : List (Value × FOp)} (h : ¬ FewF C) : fewFB C = false := by
  cases hb : fewFB C with
  | false => rfl
  | true => exact absurd (fewFB_iff.1 hb) h
set_option maxHeartbeats 1000000 in
set_option maxRecDepth 100000 in
theorem few38_c (hi : Nat) (v : Value) (C : List (Value × FOp)) (w : World) (h : FOpS hi w v C) :
    Calls Tryz.prog 45 #[v, .int .i64 20] w fun e w' => e = .returned (.bool (fewFB C)) ∧ w = w' := by
  obtain ⟨a, cap, rfl, hm, hc⟩ := fop_cells h
  unfold maxLen at hm
  have hm1 : (C.length : Int) ≤ 9223372036854775807 := by omega
  have hm0 : (0 : Int) ≤ C.length := by omega
  have Hc := Lib.hid hc
  have He := Lib.hid h.each
  clear h hc hm
  go_enter Tryz.func45, Tryz.ntmps45
  go_wp2_with fail
  go_loopw [5] (fun iv wr => ∃ k : Nat, k ≤ C.length ∧ k ≤ 21 ∧ iv = .int .i64 k ∧ Hid (∀ i (h : i < C.length), i < k → C[i].2.s.length ≤ 100 ∧ C[i].2.keep.length ≤ 20) ∧ w = wr) (fun iv _ => C.length - (intOf iv).toNat)
  case atStart => exact ⟨0, Nat.zero_le _, Nat.zero_le _, rfl, fun i _ h => by omega, rfl⟩
  case round =>
    obtain ⟨k, hk, hk21, rfl, HA, rfl⟩ := hrel
    by_cases hlt : k < C.length
    · by_cases h21 : k = 21
      · subst h21
        have hb := Lib.hid (fewFB_not (C := C) (fun f => by have := f.2; omega))
        have e1 : decide ((21 : Int) < C.length) = true := decide_eq_true (by omega)
        have e2 : decide ((C.length : Int) ≤ 20) = false := decide_eq_false (by omega)
        go_wp2_with fail
        go_ret
        exact ⟨by rw [hb.out]; rfl, rfl⟩
      have hk20 := Lib.hid (show k ≤ 20 by omega)
      have e0 : decide ((k : Int) ≤ 20) = true := decide_eq_true (by omega)
      clear h21 hk21
      rcases Hc.out with hnil | ⟨b, off, rfl, _, _, hcell⟩
      · rw [hnil] at hlt; simp at hlt
      obtain ⟨c0, c1, c2, c3⟩ := hcell k hlt
      obtain ⟨ak, ck, hkv, hkm, hkx⟩ := int_cells (He.out C[k] (List.getElem_mem hlt)).1
      clear hkx
      rw [hkv] at c3
      have hk1 : (k : Int) < 9223372036854775807 := by omega
      have hstep : Hid (C[k].2.s.length ≤ 100 → C[k].2.keep.length ≤ 20 → ∀ i (h : i < C.length), i < k + 1 → C[i].2.s.length ≤ 100 ∧ C[i].2.keep.length ≤ 20) := fun h1 h2 i hi hik => by
        by_cases e : i = k
        · subst e; exact ⟨h1, h2⟩
        · exact HA.out i hi (by omega)
      have hbad : Hid (100 < C[k].2.s.length ∨ 20 < C[k].2.keep.length → fewFB C = false) := fun e => fewFB_not (fun f => by have := f.1 _ (List.getElem_mem hlt); omega)
      generalize C[k].2.keep.length = kl at *
      generalize C[k].2.s = ks at *
      have hkl : (kl : Int) ≤ 9223372036854775807 := by unfold maxLen at hkm; omega
      clear hcell hkm hkv
      by_cases h1 : (100 : Int) < ks.length
      · have hb := Lib.hid (hbad.out (Or.inl (by omega)))
        clear hbad hstep
        go_wp2_with fail
        go_ret
        exact ⟨by rw [hb.out]; rfl, rfl⟩
      by_cases h2 : (20 : Int) < kl
      · have hb := Lib.hid (hbad.out (Or.inr (by omega)))
        clear hbad hstep
        go_wp2_with fail
        go_ret
        exact ⟨by rw [hb.out]; rfl, rfl⟩
      clear hbad
      have hz := Lib.hid (hstep.out (by omega) (by omega))
      clear hstep
      go_wp2_with fail
      go_roundw
      case rel => exact ⟨k + 1, by omega, by have := hk20.out; omega, by go_num, hz.out, trivial⟩
      case measure => simp [intOf]; omega
    · obtain rfl : k = C.length := by omega
      by_cases h25 : (C.length : Int) ≤ 20
      · have hz : Hid (FewF C) := ⟨fun c hc => by
          obtain ⟨i, hi, rfl⟩ := List.getElem_of_mem hc
          exact HA.out i hi hi, by omega⟩
        have hb := Lib.hid (fewFB_iff.2 hz.out)
        go_wp2_with fail
        go_ret
        exact ⟨by rw [hb.out]; rfl, rfl⟩
      · have hb := Lib.hid (fewFB_not (C := C) (fun f => h25 (by have := f.2; omega)))
        go_wp2_with fail
        go_ret
        exact ⟨by rw [hb.out]; rfl, rfl⟩
end Go.Proofs.YtagmlemlagbfkaaGreatDoor
