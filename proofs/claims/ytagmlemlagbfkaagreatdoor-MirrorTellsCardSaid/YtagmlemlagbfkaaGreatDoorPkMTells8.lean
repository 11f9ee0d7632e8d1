/- The contract of layer 6's Contradict. -/
import Derived.Test.YtagmlemlagbfkaaGreatDoorPkMTells1
namespace Go.Proofs.YtagmlemlagbfkaaGreatDoor
open Go.RowKit
set_option linter.unusedVariables false
set_option linter.unusedSimpArgs false
attribute [local irreducible] Calls

theorem contra_no {a b : Cl.Clm} (h : Cl.right a = false ∨ Cl.right b = false) : Cl.contra a b = false := by rw [Cl.contra, if_pos h]
/-- .. of two right claims. -/
def contra1 (a b : Cl.Clm) : Bool :=
  if a.kind = 0 ∧ b.kind = 2 then Cl.refutes a b
  else if a.kind = 2 ∧ b.kind = 0 then Cl.refutes b a
  else if a.kind ≠ b.kind then false
  else if a.kind = 1 then (if a.time = b.time then decide (a.n ≠ b.n) else (decide (a.time < b.time) != decide (a.n < b.n)) && decide (a.n ≠ b.n))
  else if a.kind = 3 then decide (a.text = b.text) && decide (a.n ≠ b.n)
  else decide (a.kind ≠ 2) && decide (a.n = b.n) && decide (a.time = b.time) && decide (a.text ≠ b.text)
theorem contra_yes {a b : Cl.Clm} (ha : Cl.right a = true) (hb : Cl.right b = true) : Cl.contra a b = contra1 a b := by
  rw [Cl.contra, if_neg (by rw [ha, hb]; simp)]; rfl
set_option maxHeartbeats 1000000 in
set_option maxRecDepth 100000 in
theorem contra_c (a b : Cl.Clm) (s t : ByteArray) (hs : s.data.toList = a.text) (ht : t.data.toList = b.text) (ia : I64C a) (ib : I64C b) (w : World) (g : Gl w) :
    Calls Tryz.prog 77 #[.agg #[.int .i64 a.kind, .int .i64 a.n, .int .i64 a.time, .string s], .agg #[.int .i64 b.kind, .int .i64 b.n, .int .i64 b.time, .string t]] w fun e w' => e = .returned (.bool (Cl.contra a b)) ∧ Nw w w' := by
  have nn : Nw w ((w.alloc (.cells (cellsC a s) tC)).alloc (.cells (cellsC b t) tC)) := (nw_alloc _ _).trans (nw_alloc _ _)
  have g0 := g.upd nn
  have h1 := Nw.keep (nw_alloc (w.alloc (.cells (cellsC a s) tC)) (.cells (cellsC b t) tC)) (heap_new w (.cells (cellsC a s) tC))
  have h2 := heap_new (w.alloc (.cells (cellsC a s) tC)) (.cells (cellsC b t) tC)
  rw [show (w.alloc (.cells (cellsC a s) tC)).heap.size = w.heap.size + 1 by simp] at h2
  have Hs := Lib.hid hs; clear hs
  have Ht := Lib.hid ht; clear ht
  unfold cellsC at *
  have H1 := Lib.hid h1; clear h1
  have H2 := Lib.hid h2; clear h2
  go_enter Tryz.func77, Tryz.ntmps77
  go_wp2_with fail
  (with_reducible refine (right_c a s Hs.out ia _ g0).mono ?_)
  rintro _ w1 ⟨rfl, u1⟩
  have k1 := Nw.keep u1 H1.out
  have k2 := Nw.keep u1 H2.out
  obtain ⟨⟨_, _, _, _⟩, _, _, _, _⟩ := two_claims k1 k2
  replace u1 := nn.trans u1
  have g1 := g.upd u1
  clear H1 H2 g0 nn
  cases hra : Cl.right a with
  | false =>
    have Hr := Lib.hid (contra_no (b := b) (Or.inl hra))
    clear hra
    go_wp2_with fail
    go_ret
    exact ⟨ret_bool Hr.out.symm, u1⟩
  | true =>
  go_wp2_with fail
  (with_reducible refine (right_c b t Ht.out ib _ g1).mono ?_)
  rintro _ w2 ⟨rfl, u2⟩
  replace k1 := Nw.keep u2 k1
  replace k2 := Nw.keep u2 k2
  obtain ⟨⟨_, _, _, _⟩, _, _, _, _⟩ := two_claims k1 k2
  replace u2 := u1.trans u2
  have g2 := g.upd u2
  clear u1 g1
  cases hrb : Cl.right b with
  | false =>
    have Hr := Lib.hid (contra_no (a := a) (Or.inr hrb))
    clear hrb hra
    go_wp2_with fail
    go_ret
    exact ⟨ret_bool Hr.out.symm, u2⟩
  | true =>
  have Hcon := Lib.hid (contra_yes hra hrb); clear hra hrb
  clear k1 k2
  obtain ⟨ak, an, am, ax⟩ := a
  obtain ⟨bk, bn, bm, bx⟩ := b
  by_cases c1 : ak = 0 ∧ bk = 2
  · obtain ⟨rfl, rfl⟩ := c1
    go_wp2_with fail
    (with_reducible refine (refutes_c ⟨0, an, am, ax⟩ ⟨2, bn, bm, bx⟩ s t Hs.out Ht.out ia.z _ g2).mono ?_)
    rintro _ w3 ⟨rfl, u3⟩
    go_wp2_with fail
    go_ret
    exact ⟨ret_bool (by rw [Hcon.out]; rfl), u2.trans u3⟩
  by_cases c2 : ak = 2 ∧ bk = 0
  · obtain ⟨rfl, rfl⟩ := c2
    go_wp2_with fail
    (with_reducible refine (refutes_c ⟨0, bn, bm, bx⟩ ⟨2, an, am, ax⟩ t s Ht.out Hs.out ib.z _ g2).mono ?_)
    rintro _ w3 ⟨rfl, u3⟩
    go_wp2_with fail
    go_ret
    exact ⟨ret_bool (by rw [Hcon.out]; rfl), u2.trans u3⟩
  have Hc1 := Lib.hid c1
  have Hc2 := Lib.hid c2
  by_cases c3 : ak = bk
  · subst c3
    have Hk : Hid (contra1 ⟨ak, an, am, ax⟩ ⟨ak, bn, bm, bx⟩ = if ak = 1 then (if am = bm then decide (an ≠ bn) else (decide (am < bm) != decide (an < bn)) && decide (an ≠ bn))
        else if ak = 3 then decide (ax = bx) && decide (an ≠ bn) else decide (ak ≠ 2) && decide (an = bn) && decide (am = bm) && decide (ax ≠ bx)) := by
      show _ = _
      unfold contra1; rw [if_neg Hc1.out, if_neg Hc2.out, if_neg (by simp)]
    have hst : (s.toList == t.toList) = decide (ax = bx) := by rw [bs_beq, Hs.out, Ht.out]
    clear Hc1 Hc2 c1 c2
    by_cases c4 : ak = 1
    · subst c4
      clear hst
      have Hr := Lib.hid ((Hcon.out.trans Hk.out).trans (if_pos rfl))
      clear Hcon Hk
      by_cases hm : am = bm
      · replace Hr := Lib.hid (Hr.out.trans (if_pos hm))
        go_wp2_with fail
        all_goals go_ret
        all_goals (refine ⟨ret_bool ?_, u2⟩; rw [Hr.out])
        all_goals first | rfl | (simp; done) | (rw [Bool.eq_iff_iff]; simp; done)
      · replace Hr := Lib.hid (Hr.out.trans (if_neg hm))
        by_cases hn : an = bn
        · subst hn
          have Hr2 : Hid (Cl.contra ⟨1, an, am, ax⟩ ⟨1, an, bm, bx⟩ = false) := by show _ = _; rw [Hr.out, decide_eq_false (p := an ≠ an) (fun h => h rfl), Bool.and_false]
          clear Hr
          go_wp2_with fail
          all_goals go_ret
          all_goals (refine ⟨ret_bool ?_, u2⟩; rw [Hr2.out])
          all_goals first | rfl | (simp; done) | (simp [*]; done) | (rw [Bool.eq_iff_iff]; simp; omega)
        · have Hr2 : Hid (Cl.contra ⟨1, an, am, ax⟩ ⟨1, bn, bm, bx⟩ = (decide (am < bm) != decide (an < bn))) := by show _ = _; rw [Hr.out, decide_eq_true (p := an ≠ bn) hn, Bool.and_true]
          clear Hr
          by_cases hm2 : am < bm <;> by_cases hn2 : an < bn
          all_goals go_wp2_with fail
          all_goals go_ret
          all_goals (refine ⟨ret_bool ?_, u2⟩; rw [Hr2.out])
          all_goals first | rfl | (simp; done) | (simp [*]; done) | (rw [Bool.eq_iff_iff]; simp; omega)
    · have Hr := Lib.hid ((Hcon.out.trans Hk.out).trans (if_neg c4))
      clear Hcon Hk
      by_cases c5 : ak = 3
      · replace Hr := Lib.hid (Hr.out.trans (if_pos c5))
        by_cases hx : ax = bx
        · have h2 : (s.toList == t.toList) = true := by rw [hst, decide_eq_true hx]
          have Hr2 : Hid (Cl.contra ⟨ak, an, am, ax⟩ ⟨ak, bn, bm, bx⟩ = decide (an ≠ bn)) := by show _ = _; rw [Hr.out, decide_eq_true hx, Bool.true_and]
          clear Hr hst hx
          subst c5
          go_wp2_with fail
          all_goals go_ret
          all_goals (refine ⟨ret_bool ?_, u2⟩; rw [Hr2.out])
          all_goals first | rfl | (simp; done) | (rw [Bool.eq_iff_iff]; simp; done)
        · have h2 : (s.toList == t.toList) = false := by rw [hst, decide_eq_false hx]
          have Hr2 : Hid (Cl.contra ⟨ak, an, am, ax⟩ ⟨ak, bn, bm, bx⟩ = false) := by show _ = _; rw [Hr.out, decide_eq_false hx, Bool.false_and]
          clear Hr hst hx
          subst c5
          go_wp2_with fail
          all_goals go_ret
          all_goals (refine ⟨ret_bool ?_, u2⟩; rw [Hr2.out])
          all_goals first | rfl | (simp; done)
      · replace Hr := Lib.hid (Hr.out.trans (if_neg c5))
        by_cases hall : ak ≠ 2 ∧ an = bn ∧ am = bm
        · obtain ⟨h6, rfl, rfl⟩ := hall
          have Hr2 : Hid (Cl.contra ⟨ak, an, am, ax⟩ ⟨ak, an, am, bx⟩ = !(s.toList == t.toList)) := by show _ = _; rw [Hr.out, hst, decide_eq_true (p := ak ≠ 2) h6]; simp
          clear Hr hst
          go_wp2_with fail
          all_goals go_ret
          all_goals (refine ⟨ret_bool ?_, u2⟩; rw [Hr2.out])
          all_goals first | rfl | (simp; done) | (simp [*]; done)
        · have Hr2 : Hid (Cl.contra ⟨ak, an, am, ax⟩ ⟨ak, bn, bm, bx⟩ = false) := by
            show _ = _
            rw [Hr.out, ← Bool.not_eq_true]
            simp only [Bool.and_eq_true, decide_eq_true_eq]
            exact fun h => hall ⟨h.1.1.1, h.1.1.2, h.1.2⟩
          clear Hr hst
          have h7 : ak = 2 ∨ (ak ≠ 2 ∧ an ≠ bn) ∨ (ak ≠ 2 ∧ am ≠ bm) := by omega
          clear hall
          rcases h7 with h | ⟨h, h'⟩ | ⟨h, h'⟩
          · subst h
            go_wp2_with fail
            all_goals go_ret
            all_goals (refine ⟨ret_bool ?_, u2⟩; rw [Hr2.out])
            all_goals first | rfl | (simp; done) | (simp [*]; done)
          all_goals go_wp2_with fail
          all_goals go_ret
          all_goals (refine ⟨ret_bool ?_, u2⟩; first | rw [Hr2.out] | skip)
          all_goals first | rfl | (simp; done) | (simp [*]; done)
  · go_wp2_with fail
    all_goals first | (exfalso; omega) | skip
    all_goals go_ret
    all_goals exact ⟨ret_bool (by rw [Hcon.out, contra1, if_neg Hc1.out, if_neg Hc2.out, if_pos c3]), u2⟩
end Go.Proofs.YtagmlemlagbfkaaGreatDoor
