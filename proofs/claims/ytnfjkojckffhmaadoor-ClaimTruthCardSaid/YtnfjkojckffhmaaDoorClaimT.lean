/- The contract of layer 6's small. -/
import Derived.Test.YtnfjkojckffhmaaDoorClaimS
namespace Go.Proofs.YtnfjkojckffhmaaDoor
open Go.RowKit
set_option linter.unusedVariables false
set_option linter.unusedSimpArgs false
attribute [local irreducible] Calls

theorem one_claim {w : World} {b : Nat} {a0 a1 a2 a3 : Value} {T : TypeId} (h : w.heap[b]? = some (.cells #[a0, a1, a2, a3] T (0, 0))) :
    w.cell? ⟨b, 0, none⟩ = some a0 ∧ w.cell? ⟨b, 1, none⟩ = some a1 ∧ w.cell? ⟨b, 2, none⟩ = some a2 ∧ w.cell? ⟨b, 3, none⟩ = some a3 := by
  refine ⟨?_, ?_, ?_, ?_⟩ <;> (rw [cells_cell h]; rfl)
set_option maxHeartbeats 2000000 in
set_option maxRecDepth 100000 in
theorem small_c (w : World) (g : Gl w) : Calls Tryd.prog 8 #[] w fun e w' => e = .returned (.bool true) ∧ Nw w w' := by
  have n1 := nw_alloc w (.cells #[.int .i64 0, .int .i64 2, .int .i64 0, .string ⟨#[49, 58, 97, 44, 120]⟩] tC)
  have h1 := heap_new w (.cells #[.int .i64 0, .int .i64 2, .int .i64 0, .string ⟨#[49, 58, 97, 44, 120]⟩] tC)
  have n2 := nw_alloc (w.alloc (.cells #[.int .i64 0, .int .i64 2, .int .i64 0, .string ⟨#[49, 58, 97, 44, 120]⟩] tC)) (.cells #[.int .i64 1, .int .i64 3, .int .i64 7, .string ⟨#[]⟩] tC)
  have h2 := heap_new (w.alloc (.cells #[.int .i64 0, .int .i64 2, .int .i64 0, .string ⟨#[49, 58, 97, 44, 120]⟩] tC)) (.cells #[.int .i64 1, .int .i64 3, .int .i64 7, .string ⟨#[]⟩] tC)
  replace h1 := Nw.keep n2 h1
  rw [show (w.alloc (.cells #[.int .i64 0, .int .i64 2, .int .i64 0, .string ⟨#[49, 58, 97, 44, 120]⟩] tC)).heap.size = w.heap.size + 1 by simp] at h2
  have u0 := n1.trans n2
  clear n1 n2
  have H1 := Lib.hid h1; clear h1
  have H2 := Lib.hid h2; clear h2
  go_enter Tryd.func8, Tryd.ntmps8
  go_wp2_with fail
  (with_reducible refine (lit_r1 _ (g.upd u0)).mono ?_)
  rintro _ w1 ⟨rfl, u1⟩
  have k1 := Nw.keep u1 H1.out
  have k2 := Nw.keep u1 H2.out
  replace u1 := u0.trans u1
  clear u0 H1 H2
  have k3 := heap_new w1 (.cells #[.int .i64 1, .int .i64 3, .int .i64 7, .string ⟨#[]⟩] tC)
  have n3 := nw_alloc w1 (.cells #[.int .i64 1, .int .i64 3, .int .i64 7, .string ⟨#[]⟩] tC)
  have K1 := Lib.hid (Nw.keep n3 k1)
  have K2 := Lib.hid (Nw.keep n3 k2)
  have K3 := Lib.hid k3
  clear k1 k2 k3
  go_wp2_with fail
  (with_reducible refine (lit_r2 _ (g.upd (u1.trans n3))).mono ?_)
  rintro _ w2 ⟨rfl, u2⟩
  replace K1 := Lib.hid (Nw.keep u2 K1.out)
  replace K2 := Lib.hid (Nw.keep u2 K2.out)
  replace K3 := Lib.hid (Nw.keep u2 K3.out)
  replace u2 := u1.trans (n3.trans u2)
  clear n3 u1
  go_wp2_with fail
  (with_reducible refine (lit_r3 _ (g.upd (u2.trans (nw_alloc _ _)))).mono ?_)
  rintro _ w3 ⟨rfl, u3⟩
  replace u3 := (nw_alloc _ _).trans u3
  replace K1 := Lib.hid (Nw.keep u3 K1.out)
  replace K2 := Lib.hid (Nw.keep u3 K2.out)
  replace K3 := Lib.hid (Nw.keep u3 K3.out)
  replace u3 := Nw.trans u2 u3
  clear u2
  go_wp2_with fail
  (with_reducible refine (lit_k1 _ (g.upd (u3.trans (nw_alloc _ _)))).mono ?_)
  rintro _ w4 ⟨rfl, u4⟩
  replace u4 := (nw_alloc _ _).trans u4
  replace K1 := Lib.hid (Nw.keep u4 K1.out)
  replace K2 := Lib.hid (Nw.keep u4 K2.out)
  replace K3 := Lib.hid (Nw.keep u4 K3.out)
  replace u4 := Nw.trans u3 u4
  clear u3
  go_wp2_with fail
  (with_reducible refine (lit_k2 _ (g.upd u4)).mono ?_)
  rintro _ w5 ⟨rfl, u5⟩
  replace K1 := Lib.hid (Nw.keep u5 K1.out)
  replace K2 := Lib.hid (Nw.keep u5 K2.out)
  replace K3 := Lib.hid (Nw.keep u5 K3.out)
  replace u5 := Nw.trans u4 u5
  clear u4
  obtain ⟨_, _, _, _⟩ := one_claim K1.out
  go_wp2_with fail
  (with_reducible refine (lit_t _ (g.upd u5)).mono ?_)
  rintro _ w6 ⟨rfl, u6⟩
  replace K1 := Lib.hid (Nw.keep u6 K1.out)
  replace K2 := Lib.hid (Nw.keep u6 K2.out)
  replace K3 := Lib.hid (Nw.keep u6 K3.out)
  replace u6 := Nw.trans u5 u6
  clear u5
  obtain ⟨_, _, _, _⟩ := one_claim K1.out
  obtain ⟨_, _, _, _⟩ := one_claim K2.out
  obtain ⟨_, _, _, _⟩ := one_claim K3.out
  go_wp2_with fail
  (with_reducible refine (lit_c1 _ (g.upd u6)).mono ?_)
  rintro _ w7 ⟨rfl, u7⟩
  replace K1 := Lib.hid (Nw.keep u7 K1.out)
  replace K2 := Lib.hid (Nw.keep u7 K2.out)
  replace u7 := Nw.trans u6 u7
  obtain ⟨_, _, _, _⟩ := one_claim K1.out
  go_wp2_with fail
  (with_reducible refine (lit_c2 _ (g.upd u7)).mono ?_)
  rintro _ w8 ⟨rfl, u8⟩
  replace K1 := Lib.hid (Nw.keep u8 K1.out)
  replace K2 := Lib.hid (Nw.keep u8 K2.out)
  replace u8 := Nw.trans u7 u8
  obtain ⟨_, _, _, _⟩ := one_claim K2.out
  go_wp2_with fail
  (with_reducible refine (lit_c3 _ (g.upd u8)).mono ?_)
  rintro _ w9 ⟨rfl, u9⟩
  replace K1 := Lib.hid (Nw.keep u9 K1.out)
  replace K2 := Lib.hid (Nw.keep u9 K2.out)
  replace u9 := Nw.trans u8 u9
  obtain ⟨_, _, _, _⟩ := one_claim K2.out
  go_wp2_with fail
  (with_reducible refine (lit_c4 _ (g.upd u9)).mono ?_)
  rintro _ wa ⟨rfl, ua⟩
  replace K1 := Lib.hid (Nw.keep ua K1.out)
  replace ua := Nw.trans u9 ua
  obtain ⟨_, _, _, _⟩ := one_claim K1.out
  go_wp2_with fail
  (with_reducible refine (lit_g1 _ (g.upd ua)).mono ?_)
  rintro _ wb ⟨rfl, ub⟩
  replace ub := Nw.trans ua ub
  go_wp2_with fail
  (with_reducible refine (lit_g2 _ (g.upd ub)).mono ?_)
  rintro _ wc ⟨rfl, uc⟩
  replace uc := Nw.trans ub uc
  go_wp2_with fail
  go_ret
  exact ⟨rfl, uc⟩
end Go.Proofs.YtnfjkojckffhmaaDoor
