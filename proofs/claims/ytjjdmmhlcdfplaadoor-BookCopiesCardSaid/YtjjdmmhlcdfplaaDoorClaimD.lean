/- The contracts of layer 6's refutes and Contradict. -/
import Derived.Test.YtjjdmmhlcdfplaaDoorClaimC
namespace Go.Proofs.YtjjdmmhlcdfplaaDoor
open Go.RowKit
set_option linter.unusedVariables false
set_option linter.unusedSimpArgs false
attribute [local irreducible] Calls

abbrev tC : TypeId := 59
def cellsC (c : Cl.Clm) (s : ByteArray) : Array Value := #[.int .i64 c.kind, .int .i64 c.n, .int .i64 c.time, .string s]
/-- Two boxed claims. -/
theorem two_claims {w : World} {b b' : Nat} {a0 a1 a2 a3 d0 d1 d2 d3 : Value} {T T' : TypeId} (h : w.heap[b]? = some (.cells #[a0, a1, a2, a3] T (0, 0))) (h' : w.heap[b']? = some (.cells #[d0, d1, d2, d3] T' (0, 0))) :
    (w.cell? ⟨b, 0, none⟩ = some a0 ∧ w.cell? ⟨b, 1, none⟩ = some a1 ∧ w.cell? ⟨b, 2, none⟩ = some a2 ∧ w.cell? ⟨b, 3, none⟩ = some a3) ∧
    w.cell? ⟨b', 0, none⟩ = some d0 ∧ w.cell? ⟨b', 1, none⟩ = some d1 ∧ w.cell? ⟨b', 2, none⟩ = some d2 ∧ w.cell? ⟨b', 3, none⟩ = some d3 := by
  refine ⟨⟨?_, ?_, ?_, ?_⟩, ?_, ?_, ?_, ?_⟩ <;> first | (rw [cells_cell h]; rfl) | (rw [cells_cell h']; rfl)
set_option maxRecDepth 100000 in
theorem refutes_c (a b : Cl.Clm) (s t : ByteArray) (hs : s.data.toList = a.text) (ht : t.data.toList = b.text) (hz : a.text.length ≤ 9223372036854775807) (w : World) (g : Gl w) :
    Calls Tryd.prog 48 #[.agg #[.int .i64 a.kind, .int .i64 a.n, .int .i64 a.time, .string s], .agg #[.int .i64 b.kind, .int .i64 b.n, .int .i64 b.time, .string t]] w fun e w' => e = .returned (.bool (Cl.refutes a b)) ∧ Nw w w' := by
  have nn : Nw w ((w.alloc (.cells (cellsC a s) tC)).alloc (.cells (cellsC b t) tC)) := (nw_alloc _ _).trans (nw_alloc _ _)
  have g0 := g.upd nn
  have h1 := Nw.keep (nw_alloc (w.alloc (.cells (cellsC a s) tC)) (.cells (cellsC b t) tC)) (heap_new w (.cells (cellsC a s) tC))
  have h2 := heap_new (w.alloc (.cells (cellsC a s) tC)) (.cells (cellsC b t) tC)
  rw [show (w.alloc (.cells (cellsC a s) tC)).heap.size = w.heap.size + 1 by simp] at h2
  have Hs := Lib.hid hs; clear hs
  have Ht := Lib.hid ht; clear ht
  have hre : Cl.refutes a b = ((Cl.key a.text).2 && decide (a.n < b.n) && decide ((Cl.key a.text).1 = b.text)) := rfl
  have Hre := Lib.hid hre; clear hre
  unfold cellsC at *
  have H1 := Lib.hid h1; clear h1
  have H2 := Lib.hid h2; clear h2
  go_enter Tryd.func48, Tryd.ntmps48
  go_wp2_with fail
  (with_reducible refine (key_c s a.text Hs.out hz _ g0).mono ?_)
  rintro _ w1 ⟨rfl, u1⟩
  obtain ⟨⟨_, _, _, _⟩, _, _, _, _⟩ := two_claims (Nw.keep u1 H1.out) (Nw.keep u1 H2.out)
  replace u1 := nn.trans u1
  cases hk : Cl.key a.text with
  | mk k ok =>
  rw [hk] at Hre
  cases ok with
  | false =>
    go_wp2_with fail
    go_ret
    exact ⟨by rw [Hre.out]; rfl, u1⟩
  | true =>
    by_cases hn : a.n < b.n
    · go_wp2_with fail
      go_ret
      refine ⟨ret_bool ?_, u1⟩
      rw [Hre.out, decide_eq_true hn, Bool.true_and, Bool.true_and, ← Ht.out]
      first | rfl | (rw [Bool.eq_iff_iff]; simp [bs_toList])
    · go_wp2_with fail
      go_ret
      exact ⟨ret_bool (by rw [Hre.out, decide_eq_false (by omega)]; rfl), u1⟩
theorem one_claim {w : World} {b : Nat} {a0 a1 a2 a3 : Value} {T : TypeId} (h : w.heap[b]? = some (.cells #[a0, a1, a2, a3] T (0, 0))) :
    w.cell? ⟨b, 0, none⟩ = some a0 ∧ w.cell? ⟨b, 1, none⟩ = some a1 ∧ w.cell? ⟨b, 2, none⟩ = some a2 ∧ w.cell? ⟨b, 3, none⟩ = some a3 := by
  refine ⟨?_, ?_, ?_, ?_⟩ <;> (rw [cells_cell h]; rfl)
theorem later_claim {w : World} {b : Nat} {a0 a1 a2 a3 : Value} {T : TypeId} (h : w.heap[b]? = some (.cells #[a0, a1, a2, a3] T (0, 0))) :
    (∀ i : Later w, i.1.cell? ⟨b, 0, none⟩ = some a0) ∧ (∀ i : Later w, i.1.cell? ⟨b, 1, none⟩ = some a1) ∧ (∀ i : Later w, i.1.cell? ⟨b, 2, none⟩ = some a2) ∧ ∀ i : Later w, i.1.cell? ⟨b, 3, none⟩ = some a3 :=
  ⟨fun i => (one_claim (i.nw.keep h)).1, fun i => (one_claim (i.nw.keep h)).2.1, fun i => (one_claim (i.nw.keep h)).2.2.1, fun i => (one_claim (i.nw.keep h)).2.2.2⟩
end Go.Proofs.YtjjdmmhlcdfplaaDoor
