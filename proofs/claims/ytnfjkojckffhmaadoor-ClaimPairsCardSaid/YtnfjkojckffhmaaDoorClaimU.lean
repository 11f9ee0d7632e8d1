/- The walk of the statement ClaimPairs. -/
import Derived.Test.YtnfjkojckffhmaaDoorClaimT
namespace Go.Proofs.YtnfjkojckffhmaaDoor
open Go.RowKit
set_option linter.unusedVariables false
set_option linter.unusedSimpArgs false
attribute [local irreducible] Calls

theorem clm_same {k n n' m m' : Int} {x y : List UInt8} {s t : ByteArray} (hne : (⟨k, n, m, x⟩ : Cl.Clm) ≠ ⟨k, n', m', y⟩) (h1 : n = n') (h2 : m = m') (h3 : s.toList = t.toList) (hs : s.data.toList = x) (ht : t.data.toList = y) : False := by
  subst h1 h2
  rw [bs_toList, bs_toList, hs, ht] at h3
  subst h3
  exact hne rfl
set_option maxHeartbeats 2000000 in
set_option maxRecDepth 100000 in
theorem pairs_c (a b : Cl.Clm) (s t : ByteArray) (hs : s.data.toList = a.text) (ht : t.data.toList = b.text) (ia : I64C a) (ib : I64C b) (w : World) (g : Gl w) :
    Calls Tryd.prog 6 #[.agg #[.int .i64 a.kind, .int .i64 a.n, .int .i64 a.time, .string s], .agg #[.int .i64 b.kind, .int .i64 b.n, .int .i64 b.time, .string t]] w fun e w' => e = .returned (.bool true) ∧ Nw w w' := by
  have nn : Nw w ((w.alloc (.cells (cellsC a s) tC)).alloc (.cells (cellsC b t) tC)) := (nw_alloc _ _).trans (nw_alloc _ _)
  have g0 := g.upd nn
  have h1 := Nw.keep (nw_alloc (w.alloc (.cells (cellsC a s) tC)) (.cells (cellsC b t) tC)) (heap_new w (.cells (cellsC a s) tC))
  have h2 := heap_new (w.alloc (.cells (cellsC a s) tC)) (.cells (cellsC b t) tC)
  rw [show (w.alloc (.cells (cellsC a s) tC)).heap.size = w.heap.size + 1 by simp] at h2
  have Hs := Lib.hid hs; clear hs
  have Ht := Lib.hid ht; clear ht
  unfold cellsC at *
  have H1 := Lib.hid h1; clear h1
  have H2 := Lib.hid h2; clear h2
  go_enter Tryd.func6, Tryd.ntmps6
  go_wp2_with fail
  (with_reducible refine (small_c _ g0).mono ?_)
  rintro _ w1 ⟨rfl, u1⟩
  have k1 := Nw.keep u1 H1.out
  have k2 := Nw.keep u1 H2.out
  obtain ⟨⟨_, _, _, _⟩, _, _, _, _⟩ := two_claims k1 k2
  replace u1 := nn.trans u1
  have g1 := g.upd u1
  clear H1 H2 g0 nn
  go_wp2_with fail
  (with_reducible refine (contra_c a b s t Hs.out Ht.out ia ib _ g1).mono ?_)
  rintro _ w2 ⟨rfl, u2⟩
  replace k1 := Nw.keep u2 k1
  replace k2 := Nw.keep u2 k2
  obtain ⟨⟨_, _, _, _⟩, _, _, _, _⟩ := two_claims k1 k2
  replace u2 := Nw.trans u1 u2
  have g2 := g.upd u2
  go_wp2_with fail
  (with_reducible refine (contra_c b a t s Ht.out Hs.out ib ia _ g2).mono ?_)
  rintro _ w3 ⟨rfl, u3⟩
  rw [Cl.contra_symm b a]
  replace k1 := Nw.keep u3 k1
  replace k2 := Nw.keep u3 k2
  obtain ⟨⟨_, _, _, _⟩, _, _, _, _⟩ := two_claims k1 k2
  replace u3 := Nw.trans u2 u3
  have g3 := g.upd u3
  have hck := Lib.hid (Cl.contra_kinds (a := a) (b := b))
  generalize hcv : Cl.contra a b = cv at *
  have Hcv := Lib.hid hcv; clear hcv
  clear u1 g1 u2 g2
  go_wp2_with fail
  (with_reducible refine (contra_c a a s s Hs.out Hs.out ia ia _ g3).mono ?_)
  rintro _ w4 ⟨rfl, u4⟩
  rw [Cl.contra_self a]
  replace k1 := Nw.keep u4 k1
  replace k2 := Nw.keep u4 k2
  obtain ⟨⟨_, _, _, _⟩, _, _, _, _⟩ := two_claims k1 k2
  replace u4 := Nw.trans u3 u4
  have g4 := g.upd u4
  clear u3 g3
  cases cv with
  | false =>
    go_wp2_with fail
    go_ret
    exact ⟨rfl, u4⟩
  | true =>
    obtain ⟨ra, rb, hne, hkk⟩ := hck.out rfl
    have Ra := Lib.hid ra
    have Rb := Lib.hid rb
    have Hne := Lib.hid hne
    clear hck ra rb hne Hcv
    obtain ⟨ak, an, am, ax⟩ := a
    obtain ⟨bk, bn, bm, bx⟩ := b
    dsimp only at hkk k1 k2
    rcases hkk with ⟨e, h2⟩ | ⟨e1, e2⟩ | ⟨e1, e2⟩
    · subst e
      by_cases h0 : ak = 0
      · subst h0
        go_wp2_with fail
        (with_reducible refine (right_c ⟨_, an, am, ax⟩ s Hs.out ia _ g4).mono ?_)
        rintro _ w5 ⟨rfl, u5⟩
        rw [Ra.out]
        replace k1 := Nw.keep u5 k1
        replace k2 := Nw.keep u5 k2
        obtain ⟨⟨_, _, _, _⟩, _, _, _, _⟩ := two_claims k1 k2
        replace u5 := Nw.trans u4 u5
        have g5 := g.upd u5
        go_wp2_with fail
        (with_reducible refine (right_c ⟨_, bn, bm, bx⟩ t Ht.out ib _ g5).mono ?_)
        rintro _ w6 ⟨rfl, u6⟩
        rw [Rb.out]
        replace k1 := Nw.keep u6 k1
        replace k2 := Nw.keep u6 k2
        obtain ⟨⟨_, _, _, _⟩, _, _, _, _⟩ := two_claims k1 k2
        replace u6 := Nw.trans u5 u6
        go_wp2_with fail
        all_goals go_ret
        all_goals refine ⟨?_, u6⟩
        all_goals first | rfl | exact (clm_same Hne.out (by assumption) (by assumption) (by assumption) Hs.out Ht.out).elim
      · go_wp2_with fail
        (with_reducible refine (right_c ⟨_, an, am, ax⟩ s Hs.out ia _ g4).mono ?_)
        rintro _ w5 ⟨rfl, u5⟩
        rw [Ra.out]
        replace k1 := Nw.keep u5 k1
        replace k2 := Nw.keep u5 k2
        obtain ⟨⟨_, _, _, _⟩, _, _, _, _⟩ := two_claims k1 k2
        replace u5 := Nw.trans u4 u5
        have g5 := g.upd u5
        go_wp2_with fail
        (with_reducible refine (right_c ⟨_, bn, bm, bx⟩ t Ht.out ib _ g5).mono ?_)
        rintro _ w6 ⟨rfl, u6⟩
        rw [Rb.out]
        replace k1 := Nw.keep u6 k1
        replace k2 := Nw.keep u6 k2
        obtain ⟨⟨_, _, _, _⟩, _, _, _, _⟩ := two_claims k1 k2
        replace u6 := Nw.trans u5 u6
        go_wp2_with fail
        all_goals go_ret
        all_goals refine ⟨?_, u6⟩
        all_goals first | rfl | exact (clm_same Hne.out (by assumption) (by assumption) (by assumption) Hs.out Ht.out).elim
    · subst e1 e2
      go_wp2_with fail
      (with_reducible refine (right_c ⟨_, an, am, ax⟩ s Hs.out ia _ g4).mono ?_)
      rintro _ w5 ⟨rfl, u5⟩
      rw [Ra.out]
      replace k1 := Nw.keep u5 k1
      replace k2 := Nw.keep u5 k2
      obtain ⟨⟨_, _, _, _⟩, _, _, _, _⟩ := two_claims k1 k2
      replace u5 := Nw.trans u4 u5
      have g5 := g.upd u5
      go_wp2_with fail
      (with_reducible refine (right_c ⟨_, bn, bm, bx⟩ t Ht.out ib _ g5).mono ?_)
      rintro _ w6 ⟨rfl, u6⟩
      rw [Rb.out]
      replace k1 := Nw.keep u6 k1
      replace k2 := Nw.keep u6 k2
      obtain ⟨⟨_, _, _, _⟩, _, _, _, _⟩ := two_claims k1 k2
      replace u6 := Nw.trans u5 u6
      go_wp2_with fail
      all_goals go_ret
      all_goals refine ⟨?_, u6⟩
      all_goals rfl
    · subst e1 e2
      go_wp2_with fail
      (with_reducible refine (right_c ⟨_, an, am, ax⟩ s Hs.out ia _ g4).mono ?_)
      rintro _ w5 ⟨rfl, u5⟩
      rw [Ra.out]
      replace k1 := Nw.keep u5 k1
      replace k2 := Nw.keep u5 k2
      obtain ⟨⟨_, _, _, _⟩, _, _, _, _⟩ := two_claims k1 k2
      replace u5 := Nw.trans u4 u5
      have g5 := g.upd u5
      go_wp2_with fail
      (with_reducible refine (right_c ⟨_, bn, bm, bx⟩ t Ht.out ib _ g5).mono ?_)
      rintro _ w6 ⟨rfl, u6⟩
      rw [Rb.out]
      replace k1 := Nw.keep u6 k1
      replace k2 := Nw.keep u6 k2
      obtain ⟨⟨_, _, _, _⟩, _, _, _, _⟩ := two_claims k1 k2
      replace u6 := Nw.trans u5 u6
      go_wp2_with fail
      all_goals go_ret
      all_goals refine ⟨?_, u6⟩
      all_goals rfl
end Go.Proofs.YtnfjkojckffhmaaDoor
