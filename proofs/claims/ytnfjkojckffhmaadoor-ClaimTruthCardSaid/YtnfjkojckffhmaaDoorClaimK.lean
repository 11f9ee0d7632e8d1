/- The contract of the reference's Contradict; the walk of the statement ClaimTells. -/
import Derived.Test.YtnfjkojckffhmaaDoorClaimJ
namespace Go.Proofs.YtnfjkojckffhmaaDoor
open Go.RowKit
set_option linter.unusedVariables false
set_option linter.unusedSimpArgs false
attribute [local irreducible] Calls

set_option maxHeartbeats 2000000 in
set_option maxRecDepth 100000 in
theorem contra_q (a b : Cl.Clm) (ia : I64C a) (ib : I64C b) (w : World) (g : Gl w) :
    Calls Tryd.prog 18 #[.agg #[.int .i64 a.kind, .int .i64 a.n, .int .i64 a.time, .string ⟨a.text.toArray⟩], .agg #[.int .i64 b.kind, .int .i64 b.n, .int .i64 b.time, .string ⟨b.text.toArray⟩]] w fun e w' => e = .returned (.bool (Cl.contra a b)) ∧ Nw w w' := by
  have nn : Nw w ((w.alloc (.cells (cellsC a ⟨a.text.toArray⟩) tC)).alloc (.cells (cellsC b ⟨b.text.toArray⟩) tC)) := (nw_alloc _ _).trans (nw_alloc _ _)
  have g0 := g.upd nn
  have h1 := Nw.keep (nw_alloc (w.alloc (.cells (cellsC a ⟨a.text.toArray⟩) tC)) (.cells (cellsC b ⟨b.text.toArray⟩) tC)) (heap_new w (.cells (cellsC a ⟨a.text.toArray⟩) tC))
  have h2 := heap_new (w.alloc (.cells (cellsC a ⟨a.text.toArray⟩) tC)) (.cells (cellsC b ⟨b.text.toArray⟩) tC)
  rw [show (w.alloc (.cells (cellsC a ⟨a.text.toArray⟩) tC)).heap.size = w.heap.size + 1 by simp] at h2
  unfold cellsC at *
  obtain ⟨⟨_, _, _, _⟩, _, _, _, _⟩ := two_claims h1 h2
  have Hr := Lib.hid (Cl.contra_ref a b)
  clear h1 h2
  have h1 := Nw.keep (nw_alloc (w.alloc (.cells (cellsC a ⟨a.text.toArray⟩) tC)) (.cells (cellsC b ⟨b.text.toArray⟩) tC)) (heap_new w (.cells (cellsC a ⟨a.text.toArray⟩) tC))
  have h2 := heap_new (w.alloc (.cells (cellsC a ⟨a.text.toArray⟩) tC)) (.cells (cellsC b ⟨b.text.toArray⟩) tC)
  rw [show (w.alloc (.cells (cellsC a ⟨a.text.toArray⟩) tC)).heap.size = w.heap.size + 1 by simp] at h2
  unfold cellsC at *
  have H1 := Lib.hid h1; clear h1
  have H2 := Lib.hid h2; clear h2
  go_enter Tryd.func18, Tryd.ntmps18
  go_wp2_with fail
  (with_reducible refine (right_q a _ (bs_list _) ia _ g0).mono ?_)
  rintro _ w1 ⟨rfl, u1⟩
  have h1 := H1.out
  have h2 := H2.out
  replace h1 := Nw.keep u1 h1
  replace h2 := Nw.keep u1 h2
  replace nn := Nw.trans nn u1
  replace g0 := g.upd nn
  obtain ⟨⟨_, _, _, _⟩, _, _, _, _⟩ := two_claims h1 h2
  clear H1 H2 u1
  generalize Cl.right a = ra at *
  cases ra with
  | false =>
    go_wp2_with fail
    go_ret
    exact ⟨ret_bool (by rw [← Hr.out]; rfl), nn⟩
  | true =>
  go_wp2_with fail
  (with_reducible refine (right_q b _ (bs_list _) ib _ g0).mono ?_)
  rintro _ w1 ⟨rfl, u1⟩
  replace h1 := Nw.keep u1 h1
  replace h2 := Nw.keep u1 h2
  replace nn := Nw.trans nn u1
  replace g0 := g.upd nn
  obtain ⟨⟨_, _, _, _⟩, _, _, _, _⟩ := two_claims h1 h2
  clear u1
  generalize Cl.right b = rb at *
  cases rb with
  | false =>
    go_wp2_with fail
    go_ret
    exact ⟨ret_bool (by rw [← Hr.out]; rfl), nn⟩
  | true =>
  go_wp2_with fail
  (with_reducible refine (one_q a b ia ib _ g0).mono ?_)
  rintro _ w1 ⟨rfl, u1⟩
  replace h1 := Nw.keep u1 h1
  replace h2 := Nw.keep u1 h2
  replace nn := Nw.trans nn u1
  replace g0 := g.upd nn
  obtain ⟨⟨_, _, _, _⟩, _, _, _, _⟩ := two_claims h1 h2
  clear u1
  generalize Cl.one a b = rb at *
  cases rb with
  | true =>
    go_wp2_with fail
    go_ret
    exact ⟨ret_bool (by rw [← Hr.out]; rfl), nn⟩
  | false =>
  go_wp2_with fail
  (with_reducible refine (one_q b a ib ia _ g0).mono ?_)
  rintro _ w1 ⟨rfl, u1⟩
  replace h1 := Nw.keep u1 h1
  replace h2 := Nw.keep u1 h2
  replace nn := Nw.trans nn u1
  replace g0 := g.upd nn
  obtain ⟨⟨_, _, _, _⟩, _, _, _, _⟩ := two_claims h1 h2
  clear u1
  go_wp2_with fail
  go_ret
  exact ⟨ret_bool (by rw [← Hr.out]; rfl), nn⟩
theorem read_gen (s : ByteArray) (l : List UInt8) (c : Cl.Clm) (ok : Bool) (n : Int) (hs : s.data.toList = l) (hr : Cl.read l = (c, ok)) (hn : n = if ok then 0 else 2) (hl : l.length ≤ 9223372036854775807) (w : World) (g : Gl w) :
    Calls Tryd.prog 9 #[.string s] w fun e w' => e = .returned (.tuple #[.agg #[.int .i64 c.kind, .int .i64 c.n, .int .i64 c.time, .string ⟨c.text.toArray⟩], .int .i64 n]) ∧ Nw w w' := by
  subst hn
  refine (read_c s l hs hl w g).mono ?_
  rw [hr]
  exact fun _ _ h => h
theorem cread_gen (s : ByteArray) (l : List UInt8) (c : Cl.Clm) (ok : Bool) (n : Int) (hs : s.data.toList = l) (hr : Cl.read l = (c, ok)) (hn : n = if ok then 0 else 2) (hl : l.length ≤ 9223372036854775807) (w : World) (g : Gl w) :
    Calls Tryd.prog 10 #[.string s] w fun e w' => e = .returned (.tuple #[.agg #[.int .i64 c.kind, .int .i64 c.n, .int .i64 c.time, .string ⟨c.text.toArray⟩], .int .i64 n]) ∧ Nw w w' := by
  subst hn
  refine (cread_q s l hs hl w g).mono ?_
  rw [hr]
  exact fun _ _ h => h
set_option maxHeartbeats 2000000 in
set_option maxRecDepth 100000 in
theorem tells_law (a b : Cl.Clm) (ia : I64C a) (ib : I64C b) (s : ByteArray) (hz : s.size ≤ 9223372036854775807) (w : World) (g : Gl w) :
    Calls Tryd.prog 3 #[.agg #[.int .i64 a.kind, .int .i64 a.n, .int .i64 a.time, .string ⟨a.text.toArray⟩], .agg #[.int .i64 b.kind, .int .i64 b.n, .int .i64 b.time, .string ⟨b.text.toArray⟩], .string s] w fun e w' => e = .returned (.bool true) ∧ Nw w w' := by
  obtain ⟨l, hs⟩ : ∃ l, s.data.toList = l := ⟨_, rfl⟩
  have hl : l.length ≤ 9223372036854775807 := by rw [← hs, ← bs_size]; exact hz
  clear hz
  obtain rfl : s = ⟨l.toArray⟩ := by rw [← hs, bs_eta]
  clear hs
  obtain ⟨c, ok, hr⟩ : ∃ c ok, Cl.read l = (c, ok) := ⟨_, _, rfl⟩
  obtain ⟨n, hn⟩ : ∃ n : Int, n = if ok then 0 else 2 := ⟨_, rfl⟩
  have Q1 := Lib.hid (read_gen ⟨l.toArray⟩ l c ok n (bs_list _) hr hn hl)
  have Q2 := Lib.hid (cread_gen ⟨l.toArray⟩ l c ok n (bs_list _) hr hn hl)
  clear hr hn
  have nn : Nw w ((w.alloc (.cells (cellsC a ⟨a.text.toArray⟩) tC)).alloc (.cells (cellsC b ⟨b.text.toArray⟩) tC)) := (nw_alloc _ _).trans (nw_alloc _ _)
  have g0 := g.upd nn
  have h1 := Nw.keep (nw_alloc (w.alloc (.cells (cellsC a ⟨a.text.toArray⟩) tC)) (.cells (cellsC b ⟨b.text.toArray⟩) tC)) (heap_new w (.cells (cellsC a ⟨a.text.toArray⟩) tC))
  have h2 := heap_new (w.alloc (.cells (cellsC a ⟨a.text.toArray⟩) tC)) (.cells (cellsC b ⟨b.text.toArray⟩) tC)
  rw [show (w.alloc (.cells (cellsC a ⟨a.text.toArray⟩) tC)).heap.size = w.heap.size + 1 by simp] at h2
  unfold cellsC at *
  obtain ⟨⟨_, _, _, _⟩, _, _, _, _⟩ := two_claims h1 h2
  have H1 := Lib.hid h1; clear h1
  have H2 := Lib.hid h2; clear h2
  go_enter Tryd.func3, Tryd.ntmps3
  go_wp2_with fail
  (with_reducible refine (small_c _ g0).mono ?_)
  rintro _ w1 ⟨rfl, u1⟩
  have h1 := H1.out
  have h2 := H2.out
  replace h1 := Nw.keep u1 h1
  replace h2 := Nw.keep u1 h2
  replace nn := Nw.trans nn u1
  replace g0 := g.upd nn
  obtain ⟨⟨_, _, _, _⟩, _, _, _, _⟩ := two_claims h1 h2
  clear H1 H2 u1
  go_wp2_with fail
  (with_reducible refine (Q1.out _ g0).mono ?_)
  rintro _ w1 ⟨rfl, u1⟩
  replace u1 := u1.trans (nw_alloc w1 (.cells #[.int .i64 c.kind, .int .i64 c.n, .int .i64 c.time, .string ⟨c.text.toArray⟩] tC))
  have h3 := heap_new w1 (.cells #[.int .i64 c.kind, .int .i64 c.n, .int .i64 c.time, .string ⟨c.text.toArray⟩] tC)
  replace h1 := Nw.keep u1 h1
  replace h2 := Nw.keep u1 h2
  replace nn := Nw.trans nn u1
  replace g0 := g.upd nn
  obtain ⟨⟨_, _, _, _⟩, _, _, _, _⟩ := two_claims h1 h2
  clear u1
  have H3 := Lib.hid h3; clear h3
  go_wp2_with fail
  generalize w1.heap.size = b3 at *
  (with_reducible refine (Q2.out _ g0).mono ?_)
  rintro _ w2 ⟨rfl, u1⟩
  have h3 := u1.keep H3.out
  have u2 := nw_alloc w2 (.cells #[.int .i64 c.kind, .int .i64 c.n, .int .i64 c.time, .string ⟨c.text.toArray⟩] tC)
  replace h3 := u2.keep h3
  have h4 := heap_new w2 (.cells #[.int .i64 c.kind, .int .i64 c.n, .int .i64 c.time, .string ⟨c.text.toArray⟩] tC)
  have H4 := Lib.hid h4; clear h4
  replace u1 := u1.trans u2
  replace h1 := Nw.keep u1 h1
  replace h2 := Nw.keep u1 h2
  replace nn := Nw.trans nn u1
  replace g0 := g.upd nn
  obtain ⟨⟨_, _, _, _⟩, _, _, _, _⟩ := two_claims h1 h2
  clear u1 u2 H3 Q1 Q2
  go_wp2_with fail
  generalize w2.heap.size = b4 at *
  (with_reducible refine (key_c ⟨l.toArray⟩ l (bs_list _) hl _ g0).mono ?_)
  rintro _ w3 ⟨rfl, u1⟩
  replace h3 := u1.keep h3
  have h4 := u1.keep H4.out
  clear H4
  replace h1 := Nw.keep u1 h1
  replace h2 := Nw.keep u1 h2
  replace nn := Nw.trans nn u1
  replace g0 := g.upd nn
  obtain ⟨⟨_, _, _, _⟩, _, _, _, _⟩ := two_claims h1 h2
  clear u1
  go_wp2_with fail
  (with_reducible refine (key_q ⟨l.toArray⟩ l (bs_list _) hl _ g0).mono ?_)
  rintro _ w4 ⟨rfl, u1⟩
  replace h3 := Nw.keep u1 h3
  replace h4 := Nw.keep u1 h4
  replace h1 := Nw.keep u1 h1
  replace h2 := Nw.keep u1 h2
  replace nn := Nw.trans nn u1
  replace g0 := g.upd nn
  obtain ⟨⟨_, _, _, _⟩, _, _, _, _⟩ := two_claims h1 h2
  obtain ⟨⟨_, _, _, _⟩, _, _, _, _⟩ := two_claims h3 h4
  clear u1
  generalize (Cl.key l).1 = kk at *
  generalize (Cl.key l).2 = is at *
  go_wp2_with fail
  have q1 := right_c a _ (bs_list _) ia
  have q2 := right_q a _ (bs_list _) ia
  have q3 := text_c a _ (bs_list _) ia
  have q4 := ctext_q a _ (bs_list _) ia
  have q5 := contra_c a b _ _ (bs_list _) (bs_list _) ia ib
  have q6 := contra_q a b ia ib
  generalize Cl.right a = ra at *
  generalize Cl.text a = ta at *
  generalize Cl.contra a b = co at *
  replace q1 := Lib.hid q1
  replace q2 := Lib.hid q2
  replace q3 := Lib.hid q3
  replace q4 := Lib.hid q4
  replace q5 := Lib.hid q5
  replace q6 := Lib.hid q6
  have H1 := Lib.hid h1
  have H2 := Lib.hid h2
  obtain ⟨_, _, _, _⟩ := later_claim h1
  obtain ⟨_, _, _, _⟩ := later_claim h2
  obtain ⟨_, _, _, _⟩ := later_claim h3
  obtain ⟨_, _, _, _⟩ := later_claim h4
  clear h1 h2 h3 h4
  refine wp_region_nw (by kernel_rfl) (by kernel_rfl) ?_
  repeat (go_big_quiet_step ((first | (go_at_call 13; exact later_call (q1.out _ (g0.upd (Later.nw _)))) | (go_at_call 14; exact later_call (q2.out _ (g0.upd (Later.nw _)))) | (go_at_call 15; exact later_call (q3.out _ (g0.upd (Later.nw _)))) | (go_at_call 16; exact later_call (q4.out _ (g0.upd (Later.nw _)))))))
  refine wpQuiet_nil ?_
  intro w5 u5
  replace u5 := later_out u5
  have h1 := u5.keep H1.out
  have h2 := u5.keep H2.out
  replace nn := Nw.trans nn u5
  replace g0 := g.upd nn
  clear H1 H2
  obtain ⟨_, _, _, _⟩ := later_claim h1
  obtain ⟨_, _, _, _⟩ := later_claim h2
  clear h1 h2
  go_wp2_with fail
  refine wp_region_nw (by kernel_rfl) (by kernel_rfl) ?_
  repeat (go_big_quiet_step ((first | (go_at_call 17; exact later_call (q5.out _ (g0.upd (Later.nw _)))) | (go_at_call 18; exact later_call (q6.out _ (g0.upd (Later.nw _)))))))
  refine wpQuiet_nil ?_
  intro w6 u6
  replace u6 := later_out u6
  go_wp2_with fail
  go_ret
  exact ⟨rfl, nn.trans u6⟩
end Go.Proofs.YtnfjkojckffhmaaDoor
