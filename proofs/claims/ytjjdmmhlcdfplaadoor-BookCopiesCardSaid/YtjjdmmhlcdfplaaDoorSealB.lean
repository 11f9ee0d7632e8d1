/- The contracts of the ring's Valid and Sign. -/
import Derived.Test.YtjjdmmhlcdfplaaDoorSealA
namespace Go.Proofs.YtjjdmmhlcdfplaaDoor
open Go.RowKit
open Go.Maps (Keyed)
set_option linter.unusedVariables false
set_option linter.unusedSimpArgs false
attribute [local irreducible] Calls

structure SgnOk (s : Bk.Sgn) : Prop where
  k : I64 s.key
  t : s.text.length ≤ 140737488351232
  m : I64 s.mark
theorem later3 {w : World} {b : Nat} {a0 a1 a2 : Value} {T : TypeId} (h : w.heap[b]? = some (.cells #[a0, a1, a2] T (0, 0))) :
    (∀ i : Later w, i.1.cell? ⟨b, 0, none⟩ = some a0) ∧ (∀ i : Later w, i.1.cell? ⟨b, 1, none⟩ = some a1) ∧ ∀ i : Later w, i.1.cell? ⟨b, 2, none⟩ = some a2 := by
  refine ⟨fun i => ?_, fun i => ?_, fun i => ?_⟩ <;> (rw [cells_cell (i.nw.keep h)]; rfl)
theorem later2 {w : World} {b : Nat} {a0 a1 : Value} {T : TypeId} (h : w.heap[b]? = some (.cells #[a0, a1] T (0, 0))) :
    (∀ i : Later w, i.1.cell? ⟨b, 0, none⟩ = some a0) ∧ ∀ i : Later w, i.1.cell? ⟨b, 1, none⟩ = some a1 := by
  refine ⟨fun i => ?_, fun i => ?_⟩ <;> (rw [cells_cell (i.nw.keep h)]; rfl)
theorem cell3 {w : World} {b : Nat} {a0 a1 a2 : Value} {T : TypeId} (h : w.heap[b]? = some (.cells #[a0, a1, a2] T (0, 0))) :
    w.cell? ⟨b, 0, none⟩ = some a0 ∧ w.cell? ⟨b, 1, none⟩ = some a1 ∧ w.cell? ⟨b, 2, none⟩ = some a2 := by
  refine ⟨?_, ?_, ?_⟩ <;> (rw [cells_cell h]; rfl)
theorem cell2 {w : World} {b : Nat} {a0 a1 : Value} {T : TypeId} (h : w.heap[b]? = some (.cells #[a0, a1] T (0, 0))) :
    w.cell? ⟨b, 0, none⟩ = some a0 ∧ w.cell? ⟨b, 1, none⟩ = some a1 := by
  refine ⟨?_, ?_⟩ <;> (rw [cells_cell h]; rfl)
set_option maxHeartbeats 1000000 in
theorem valid_s (B : Nat) (r : RingR) (L : List Bk.Seal) (s : Bk.Sgn) (w : World) (g : Gl w) (h : RingAt B w r L) (hs : SgnOk s) :
    Calls Tryd.prog 28 #[.pointer (some ⟨r.rb, 0, none⟩), .agg #[.int .i64 s.key, .string ⟨s.text.toArray⟩, .int .i64 s.mark]] w fun e w' => e = .returned (.bool (Bk.valid L s)) ∧ Nw w w' := by
  have n1 := nw_alloc w (.cells #[.int .i64 s.key, .string ⟨s.text.toArray⟩, .int .i64 s.mark] tSigned)
  have k1 := heap_new w (.cells #[.int .i64 s.key, .string ⟨s.text.toArray⟩, .int .i64 s.mark] tSigned)
  have h1 := h.nw n1
  have hl := fun i : Later (w.alloc (.cells #[.int .i64 s.key, .string ⟨s.text.toArray⟩, .int .i64 s.mark] tSigned)) => (h1.nw i.nw).look ⟨s.key, s.text⟩ hs.k hs.t
  have hv : Bk.valid L s = match Bk.place L ⟨s.key, s.text⟩ with
    | some i => decide ((i : Int) = s.mark)
    | none => false := rfl
  have Hv := Lib.hid hv; clear hv
  dsimp only [sealV] at hl
  obtain ⟨l0, l1, l2⟩ := later3 k1
  have c1 := fun i : Later (w.alloc (.cells #[.int .i64 s.key, .string ⟨s.text.toArray⟩, .int .i64 s.mark] tSigned)) => (h1.nw i.nw).c1
  have K1 := Lib.hid k1; clear k1
  cases hp : Bk.place L ⟨s.key, s.text⟩ with
  | none =>
    rw [hp] at hl Hv
    clear hp
    go_enter Tryd.func28, Tryd.ntmps28
    go_wp2_with fail
    refine wp_region_nw (by kernel_rfl) (by kernel_rfl) ?_
    repeat (go_big_quiet_step ((fail)))
    refine wpQuiet_nil ?_
    intro w2 u2
    replace u2 := later_out u2
    obtain ⟨_, _, _⟩ := cell3 (u2.keep K1.out)
    go_wp2_with fail
    go_ret
    exact ⟨ret_bool Hv.out.symm, n1.trans u2⟩
  | some i =>
    rw [hp] at hl Hv
    clear hp
    go_enter Tryd.func28, Tryd.ntmps28
    go_wp2_with fail
    refine wp_region_nw (by kernel_rfl) (by kernel_rfl) ?_
    repeat (go_big_quiet_step ((fail)))
    refine wpQuiet_nil ?_
    intro w2 u2
    replace u2 := later_out u2
    obtain ⟨_, _, _⟩ := cell3 (u2.keep K1.out)
    go_wp2_with fail
    all_goals go_ret
    all_goals exact ⟨ret_bool (by rw [Hv.out]; rw [Bool.eq_iff_iff]; simp), n1.trans u2⟩
end Go.Proofs.YtjjdmmhlcdfplaaDoor
