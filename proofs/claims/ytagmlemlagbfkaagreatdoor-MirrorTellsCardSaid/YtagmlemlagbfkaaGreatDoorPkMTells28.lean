/- The contract of the reference's Contradict; the walk of the statement ClaimTells. -/
import Derived.Test.YtagmlemlagbfkaaGreatDoorPkMTells27
namespace Go.Proofs.YtagmlemlagbfkaaGreatDoor
open Go.RowKit
set_option linter.unusedVariables false
set_option linter.unusedSimpArgs false
attribute [local irreducible] Calls

set_option maxHeartbeats 2000000 in
set_option maxRecDepth 100000 in
theorem contra_q (a b : Cl.Clm) (ia : I64C a) (ib : I64C b) (w : World) (g : Gl w) :
    Calls Tryz.prog 145 #[.agg #[.int .i64 a.kind, .int .i64 a.n, .int .i64 a.time, .string ⟨a.text.toArray⟩], .agg #[.int .i64 b.kind, .int .i64 b.n, .int .i64 b.time, .string ⟨b.text.toArray⟩]] w fun e w' => e = .returned (.bool (Cl.contra a b)) ∧ Nw w w' := by
  have nn : Nw w ((w.alloc (.cells (cellsC a ⟨a.text.toArray⟩) tC)).alloc (.cells (cellsC b ⟨b.text.toArray⟩) tC)) := (nw_alloc _ _).trans (nw_alloc _ _)
  have g0 := g.upd nn
  have h1 := Nw.keep (nw_alloc (w.alloc (.cells (cellsC a ⟨a.text.toArray⟩) tC)) (.cells (cellsC b ⟨b.text.toArray⟩) tC)) (heap_new w (.cells (cellsC a ⟨a.text.toArray⟩) tC))
  have h2 := heap_new (w.alloc (.cells (cellsC a ⟨a.text.toArray⟩) tC)) (.cells (cellsC b ⟨b.text.toArray⟩) tC)
  rw [show (w.alloc (.cells (cellsC a ⟨a.text.toArray⟩) tC)).heap.size = w.heap.size + 1 by simp] at h2
  unfold cellsC at *
  obtain ⟨⟨_, _, _, _⟩, _, _, _, _⟩ := two_claims h1 h2
  have Hr := Lib.hid (Cl.contra_ref a b)
  clear h1 h2
  have h1 := Nw.keep (nw_alloc (w.alloc (.cells (cellsC a ⟨a.text.toArray⟩) tC)) (.cells (cellsC b ⟨b.text.toArray⟩) tC)) (heap_new w (.cells (cellsC a ⟨a.text.toArray⟩) tC))
  have h2 := heap_new (w.alloc (.cells (cellsC a ⟨a.text.toArray⟩) tC)) (.cells (cellsC b ⟨b.text.toArray⟩) tC)
  rw [show (w.alloc (.cells (cellsC a ⟨a.text.toArray⟩) tC)).heap.size = w.heap.size + 1 by simp] at h2
  unfold cellsC at *
  have H1 := Lib.hid h1; clear h1
  have H2 := Lib.hid h2; clear h2
  go_enter Tryz.func145, Tryz.ntmps145
  go_wp2_with fail
  (with_reducible refine (right_q a _ (bs_list _) ia _ g0).mono ?_)
  rintro _ w1 ⟨rfl, u1⟩
  have h1 := H1.out
  have h2 := H2.out
  replace h1 := Nw.keep u1 h1
  replace h2 := Nw.keep u1 h2
  replace nn := Nw.trans nn u1
  replace g0 := g.upd nn
  obtain ⟨⟨_, _, _, _⟩, _, _, _, _⟩ := two_claims h1 h2
  clear H1 H2 u1
  generalize Cl.right a = ra at *
  cases ra with
  | false =>
    go_wp2_with fail
    go_ret
    exact ⟨ret_bool (by rw [← Hr.out]; rfl), nn⟩
  | true =>
  go_wp2_with fail
  (with_reducible refine (right_q b _ (bs_list _) ib _ g0).mono ?_)
  rintro _ w1 ⟨rfl, u1⟩
  replace h1 := Nw.keep u1 h1
  replace h2 := Nw.keep u1 h2
  replace nn := Nw.trans nn u1
  replace g0 := g.upd nn
  obtain ⟨⟨_, _, _, _⟩, _, _, _, _⟩ := two_claims h1 h2
  clear u1
  generalize Cl.right b = rb at *
  cases rb with
  | false =>
    go_wp2_with fail
    go_ret
    exact ⟨ret_bool (by rw [← Hr.out]; rfl), nn⟩
  | true =>
  go_wp2_with fail
  (with_reducible refine (one_q a b ia ib _ g0).mono ?_)
  rintro _ w1 ⟨rfl, u1⟩
  replace h1 := Nw.keep u1 h1
  replace h2 := Nw.keep u1 h2
  replace nn := Nw.trans nn u1
  replace g0 := g.upd nn
  obtain ⟨⟨_, _, _, _⟩, _, _, _, _⟩ := two_claims h1 h2
  clear u1
  generalize Cl.one a b = rb at *
  cases rb with
  | true =>
    go_wp2_with fail
    go_ret
    exact ⟨ret_bool (by rw [← Hr.out]; rfl), nn⟩
  | false =>
  go_wp2_with fail
  (with_reducible refine (one_q b a ib ia _ g0).mono ?_)
  rintro _ w1 ⟨rfl, u1⟩
  replace h1 := Nw.keep u1 h1
  replace h2 := Nw.keep u1 h2
  replace nn := Nw.trans nn u1
  replace g0 := g.upd nn
  obtain ⟨⟨_, _, _, _⟩, _, _, _, _⟩ := two_claims h1 h2
  clear u1
  go_wp2_with fail
  go_ret
  exact ⟨ret_bool (by rw [← Hr.out]; rfl), nn⟩
theorem cread_gen (s : ByteArray) (l : List UInt8) (c : Cl.Clm) (ok : Bool) (n : Int) (hs : s.data.toList = l) (hr : Cl.read l = (c, ok)) (hn : n = if ok then 0 else 2) (hl : l.length ≤ 9223372036854775807) (w : World) (g : Gl w) :
    Calls Tryz.prog 89 #[.string s] w fun e w' => e = .returned (.tuple #[.agg #[.int .i64 c.kind, .int .i64 c.n, .int .i64 c.time, .string ⟨c.text.toArray⟩], .int .i64 n]) ∧ Nw w w' := by
  subst hn
  refine (cread_q s l hs hl w g).mono ?_
  rw [hr]
  exact fun _ _ h => h
end Go.Proofs.YtagmlemlagbfkaaGreatDoor
