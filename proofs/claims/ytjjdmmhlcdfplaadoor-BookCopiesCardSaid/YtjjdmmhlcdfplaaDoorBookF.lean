/- The contract of ladinglaw07's do. -/
import Derived.Test.YtjjdmmhlcdfplaaDoorBookE
import Derived.Test.YtjjdmmhlcdfplaaDoorSealD
namespace Go.Proofs.YtjjdmmhlcdfplaaDoor
open Go.RowKit
set_option linter.unusedVariables false
set_option linter.unusedSimpArgs false
attribute [local irreducible] Calls

namespace Bk
structure Opn where
  kind : Int
  n : Int
  s : List UInt8
structure St where
  L : List Seal
  b : Book
def doS (key : Int) (x : St) (o : Opn) : (Sgn × Int × Int) × St :=
  if o.kind = 0 then ((noSgn, (append x.b o.s).1.1, (append x.b o.s).1.2), ⟨x.L, (append x.b o.s).2⟩)
  else if o.kind = 1 then (((entry x.L x.b o.n).1.1, 0, (entry x.L x.b o.n).1.2), ⟨(entry x.L x.b o.n).2, x.b⟩)
  else if o.kind = 2 then (((head x.L x.b o.n).1.1, 0, (head x.L x.b o.n).1.2), ⟨(head x.L x.b o.n).2.1, (head x.L x.b o.n).2.2⟩)
  else if o.kind = 3 then (((absent x.L x.b o.s o.n).1.1, 0, (absent x.L x.b o.s o.n).1.2), ⟨(absent x.L x.b o.s o.n).2, x.b⟩)
  else if o.n = key then ((noSgn, 0, 0), x)
  else (((sign x.L o.n o.s).1, 0, 0), ⟨(sign x.L o.n o.s).2, x.b⟩)
end Bk
/-- A ring and a book that signs into it, apart from one another. -/
structure Both (B : Nat) (w : World) (r : RingR) (br : BookR) (x : Bk.St) : Prop where
  ring : RingAt B w r x.L
  book : BookAt B w br r.rb x.b
  dis : ∀ k, r.foot k → ¬ br.foot k
theorem Both.upd {B : Nat} {S : Nat → Prop} {w w' : World} {r : RingR} {br : BookR} {x : Bk.St} (h : Both B w r br x) (u : Upd S w w') (h1 : ∀ k, r.foot k → ¬ S k) (h2 : ∀ k, br.foot k → ¬ S k) : Both B w' r br x :=
  ⟨h.ring.upd u h1, h.book.upd u h2, h.dis⟩
theorem Both.nw {B : Nat} {w w' : World} {r : RingR} {br : BookR} {x : Bk.St} (h : Both B w r br x) (u : Nw w w') : Both B w' r br x := h.upd u (fun _ _ s => s) (fun _ _ s => s)
/-- What an operation leaves: a ring r', a book br', with the contents x'. -/
structure Moved (B : Nat) (r : RingR) (br : BookR) (x' : Bk.St) (w w' : World) (r' : RingR) (br' : BookR) : Prop where
  both : Both B w' r' br' x'
  rb : r'.rb = r.rb
  bb : br'.bb = br.bb
  upd : Upd (fun k => r.foot k ∨ br.foot k) w w'
  f1 : ∀ j, r'.foot j → r.foot j ∨ w.heap.size ≤ j
  f2 : ∀ j, br'.foot j → br.foot j ∨ w.heap.size ≤ j
theorem moved_sgn {B : Nat} {r r' : RingR} {br : BookR} {x : Bk.St} {L' : List Bk.Seal} {w w' : World} (h : Both B w r br x) (hr : RingAt B w' r' L') (hrb : r'.rb = r.rb) (u : Upd r.foot w w') (hf : ∀ j, r'.foot j → r.foot j ∨ w.heap.size ≤ j) : Moved B r br ⟨L', x.b⟩ w w' r' br :=
  ⟨⟨hr, by rw [hrb]; exact h.book.upd u (fun k hk e => h.dis k e hk), fun k hk e => by
    rcases hf k hk with h2 | h2
    · exact h.dis k h2 e
    · have := (h.book.foot_lt e).2; omega⟩, hrb, rfl, u.mono (fun k _ e => Or.inl e), hf, fun j hj => Or.inl hj⟩
theorem moved_app {B : Nat} {r : RingR} {br br' : BookR} {x : Bk.St} {b' : Bk.Book} {w w' : World} (h : Both B w r br x) (hb : BookAt B w' br' r.rb b') (hbb : br'.bb = br.bb) (u : Upd br.foot w w') (hf : ∀ j, br'.foot j → br.foot j ∨ w.heap.size ≤ j) : Moved B r br ⟨x.L, b'⟩ w w' r br' :=
  ⟨⟨h.ring.upd u (fun k hk e => h.dis k hk e), hb, fun k hk e => by
    rcases hf k e with h2 | h2
    · exact h.dis k hk h2
    · have := (h.ring.foot_lt hk).2; omega⟩, rfl, hbb, u.mono (fun k _ e => Or.inr e), fun j hj => Or.inl hj, hf⟩
theorem moved_head {B : Nat} {r r' : RingR} {br : BookR} {x x' : Bk.St} {w w' : World} (h : Both B w r br x) (hr : RingAt B w' r' x'.L) (hb : BookAt B w' br r.rb x'.b) (hrb : r'.rb = r.rb) (u : Upd (fun k => r.foot k ∨ k = br.bb) w w') (hf : ∀ j, r'.foot j → r.foot j ∨ w.heap.size ≤ j) : Moved B r br x' w w' r' br :=
  ⟨⟨hr, by rw [hrb]; exact hb, fun k hk e => by
    rcases hf k hk with h2 | h2
    · exact h.dis k h2 e
    · have := (h.book.foot_lt e).2; omega⟩, hrb, rfl, u.mono (fun k _ e => e.imp id (fun e => Or.inl e)), hf, fun j hj => Or.inl hj⟩
theorem moved_not {B : Nat} {r : RingR} {br : BookR} {x : Bk.St} {w w' : World} (h : Both B w r br x) (u : Nw w w') : Moved B r br x w w' r br :=
  ⟨h.nw u, rfl, rfl, Nw.upd _ u, fun j hj => Or.inl hj, fun j hj => Or.inl hj⟩
def DoPost (B : Nat) (r : RingR) (br : BookR) (y : (Bk.Sgn × Int × Int) × Bk.St) (w : World) (e : Ending) (w' : World) : Prop :=
  ∃ r' br', e = .returned (.tuple #[sgnV y.1.1, .int .i64 y.1.2.1, .int .i64 y.1.2.2]) ∧ Moved B r br y.2 w w' r' br'
theorem do_end {B : Nat} {r r' : RingR} {br br' : BookR} {x x' : Bk.St} {y : (Bk.Sgn × Int × Int) × Bk.St} {w w2 w4 w5 : World} (hgb : nG ≤ w.heap.size) (h : Both B w r br x) (u2 : Nw w w2) (hs2 : w.heap.size + 1 < w2.heap.size) (m : Moved B r br x' w2 w4 r' br') (u5 : Nw w4 w5) (v0 v1 v2 : Value) {s : Bk.Sgn} {n e : Int} (hy : y = ((s, n, e), x')) :
    DoPost B r br y w (.returned (.tuple #[sgnV s, .int .i64 n, .int .i64 e])) (((w5.setCell ⟨w.heap.size + 1, 0, none⟩ v0).setCell ⟨w.heap.size + 1, 1, none⟩ v1).setCell ⟨w.heap.size + 1, 2, none⟩ v2) := by
  subst hy
  have q : Upd (fun x => x = w.heap.size + 1) w5 (((w5.setCell ⟨w.heap.size + 1, 0, none⟩ v0).setCell ⟨w.heap.size + 1, 1, none⟩ v1).setCell ⟨w.heap.size + 1, 2, none⟩ v2) :=
    Upd.set1 (Upd.set1 (Upd.set1 (Upd.refl _ _) (by omega) 0 _) (by omega) 1 _) (by omega) 2 _
  have j1 : ∀ j, r'.foot j → ¬ j = w.heap.size + 1 := by
    intro j hj e
    rcases m.f1 j hj with e2 | e2
    · have := (h.ring.foot_lt e2).2; omega
    · omega
  have j2 : ∀ j, br'.foot j → ¬ j = w.heap.size + 1 := by
    intro j hj e
    rcases m.f2 j hj with e2 | e2
    · have := (h.book.foot_lt e2).2; omega
    · omega
  exact ⟨r', br', rfl, (m.both.nw u5).upd q j1 j2, m.rb, m.bb, (((Nw.upd _ u2).trans m.upd).nw u5).trans' q (fun j hj e => by omega), fun j hj => (m.f1 j hj).imp id (fun e => by omega), fun j hj => (m.f2 j hj).imp id (fun e => by omega)⟩
theorem do_results {w : World} {bp : Nat} {tmps : Array Value} {v0 v1 v2 : Value} {T : TypeId} {fz : Nat × Nat} (h : w.heap[bp]? = some (.cells #[v0, v1, v2] T fz)) (ht : tmps.getD 8 undef = .pointer (some ⟨bp, 0, none⟩)) :
    (results Tryd.f13 tmps).run Tryd.prog w = .ok (.tuple #[.agg #[v0, v1, v2], tmps.getD 9 undef, tmps.getD 10 undef]) w := by
  have c0 : w.cell? ⟨bp, 0, none⟩ = some v0 := by rw [cells_cell h]; rfl
  have c1 : w.cell? ⟨bp, 1, none⟩ = some v1 := by rw [cells_cell h]; rfl
  have c2 : w.cell? ⟨bp, 2, none⟩ = some v2 := by rw [cells_cell h]; rfl
  clear h
  have ht2 : tmps[8]?.getD undef = .pointer (some ⟨bp, 0, none⟩) := by simpa using ht
  clear ht
  simp [results, Tryd.results13, go_sem, ht2, c0, c1, c2]
abbrev tOp : TypeId := 41
set_option maxHeartbeats 2000000 in
set_option maxRecDepth 100000 in
theorem do_c (B : Nat) (r : RingR) (br : BookR) (x : Bk.St) (o : Bk.Opn) (w : World) (g : Gl w) (h : Both B w r br x) (hB : B ≤ w.heap.size) (hn : I64 o.n) (hs : o.s.length ≤ 20000000) (hL : x.L.length ≤ 1000000) :
    Calls Tryd.prog 13 #[.pointer (some ⟨br.bb, 0, none⟩), .pointer (some ⟨r.rb, 0, none⟩), .int .i64 x.b.key, .agg #[.int .i64 o.kind, .int .i64 o.n, .string ⟨o.s.toArray⟩]] w (DoPost B r br (Bk.doS x.b.key x o) w) := by
  have n1 := nw_alloc w (.cells #[.int .i64 o.kind, .int .i64 o.n, .string ⟨o.s.toArray⟩] tOp)
  have k1 := heap_new w (.cells #[.int .i64 o.kind, .int .i64 o.n, .string ⟨o.s.toArray⟩] tOp)
  have n2 := nw_alloc (w.alloc (.cells #[.int .i64 o.kind, .int .i64 o.n, .string ⟨o.s.toArray⟩] tOp)) (.cells #[.int .i64 0, .string ⟨#[]⟩, .int .i64 0] tSigned)
  have k2 := heap_new (w.alloc (.cells #[.int .i64 o.kind, .int .i64 o.n, .string ⟨o.s.toArray⟩] tOp)) (.cells #[.int .i64 0, .string ⟨#[]⟩, .int .i64 0] tSigned)
  replace k1 := Nw.keep n2 k1
  have u2 := n1.trans n2
  rw [show (w.alloc (.cells #[.int .i64 o.kind, .int .i64 o.n, .string ⟨o.s.toArray⟩] tOp)).heap.size = w.heap.size + 1 by simp] at k2
  obtain ⟨W2, hW2⟩ : ∃ W2, (w.alloc (.cells #[.int .i64 o.kind, .int .i64 o.n, .string ⟨o.s.toArray⟩] tOp)).alloc (.cells #[.int .i64 0, .string ⟨#[]⟩, .int .i64 0] tSigned) = W2 := ⟨_, rfl⟩
  rw [hW2] at k1 k2 u2
  have HW2 := Lib.hid hW2; clear hW2
  have h2 := h.nw u2
  have g2 := g.upd u2
  have hgb := g.big
  have hB2 := Nat.le_trans hB u2.size
  have hs2 := lt_of_block k2
  obtain ⟨_, _, _⟩ := cell3 k1
  have f0 := cells_frozen k2 0
  have f1 := cells_frozen k2 1
  have f2 := cells_frozen k2 2
  obtain ⟨_, _, _⟩ := cell3 k2
  have K2 := Lib.hid k2
  have HL := Lib.hid hL
  clear k1 k2 n1 n2 hL
  obtain ⟨ok, on, os⟩ := o
  dsimp only at *
  by_cases h0 : ok = 0
  · subst h0
    have hy : Bk.doS x.b.key x ⟨0, on, os⟩ = ((Bk.noSgn, (Bk.append x.b os).1.1, (Bk.append x.b os).1.2), ⟨x.L, (Bk.append x.b os).2⟩) := rfl
    have Hy := Lib.hid hy; clear hy
    go_enter Tryd.func13, Tryd.ntmps13
    go_wp2_with fail
    rw [HW2.out]
    go_wp2_with fail
    (with_reducible refine (append_b B br r.rb x.b os _ g2 h2.book hB2 (by omega)).mono ?_)
    rintro _ w4 ⟨br', rfl, hb4, hbb, u4, hf4⟩
    have m := moved_app h2 hb4 hbb u4 hf4
    have k4 := m.upd.keep K2.out (fun e => by
      rcases e with e | e
      · have := (h.ring.foot_lt e).2; omega
      · have := (h.book.foot_lt e).2; omega)
    have k5 := k4
    have K5 := Lib.hid k5
    have f0 := cells_frozen k5 0
    have f1 := cells_frozen k5 1
    have f2 := cells_frozen k5 2
    obtain ⟨_, _, _⟩ := cell3 k5
    clear k5
    generalize Bk.append x.b os = ap at *
    go_wp2_with fail
    (try simp only [Exit.inBlock, Exit.then])
    exact bodyPost_ret (do_results (set3 K5.out) rfl) rfl (do_end hgb h u2 hs2 m (Upd.refl _ _) _ _ _ Hy.out)
  by_cases h1 : ok = 1
  · subst h1
    have hy : Bk.doS x.b.key x ⟨1, on, os⟩ = (((Bk.entry x.L x.b on).1.1, 0, (Bk.entry x.L x.b on).1.2), ⟨(Bk.entry x.L x.b on).2, x.b⟩) := rfl
    have Hy := Lib.hid hy; clear hy
    go_enter Tryd.func13, Tryd.ntmps13
    go_wp2_with fail
    rw [HW2.out]
    go_wp2_with fail
    (with_reducible refine (entry_b B r br x.L x.b on _ g2 h2.ring h2.book hB2 hn HL.out).mono ?_)
    rintro _ w4 ⟨r', rfl, hr4, hrb, u4, hf4⟩
    generalize Bk.entry x.L x.b on = ee at *
    obtain ⟨⟨⟨sk, st, sm⟩, er⟩, L'⟩ := ee
    have m := moved_sgn h2 hr4 hrb u4 hf4
    have k4 := m.upd.keep K2.out (fun e => by
      rcases e with e | e
      · have := (h.ring.foot_lt e).2; omega
      · have := (h.book.foot_lt e).2; omega)
    have u5 := nw_alloc w4 (.cells #[.int .i64 sk, .string ⟨st.toArray⟩, .int .i64 sm] tSigned)
    have k5 := Nw.keep u5 k4
    obtain ⟨_, _, _⟩ := cell3 (heap_new w4 (.cells #[.int .i64 sk, .string ⟨st.toArray⟩, .int .i64 sm] tSigned))
    have K5 := Lib.hid k5
    have f0 := cells_frozen k5 0
    have f1 := cells_frozen k5 1
    have f2 := cells_frozen k5 2
    obtain ⟨_, _, _⟩ := cell3 k5
    clear k5
    dsimp only [sgnV]
    go_wp2_with fail
    (try simp only [Exit.inBlock, Exit.then])
    exact bodyPost_ret (do_results (set3 K5.out) rfl) rfl (do_end hgb h u2 hs2 m u5 _ _ _ Hy.out)
  by_cases h2' : ok = 2
  · subst h2'
    have hy : Bk.doS x.b.key x ⟨2, on, os⟩ = (((Bk.head x.L x.b on).1.1, 0, (Bk.head x.L x.b on).1.2), ⟨(Bk.head x.L x.b on).2.1, (Bk.head x.L x.b on).2.2⟩) := rfl
    have Hy := Lib.hid hy; clear hy
    go_enter Tryd.func13, Tryd.ntmps13
    go_wp2_with fail
    rw [HW2.out]
    go_wp2_with fail
    (with_reducible refine (head_b B r br x.L x.b on _ g2 h2.ring h2.book hB2 hn h2.dis HL.out).mono ?_)
    rintro _ w4 ⟨r', rfl, hr4, hrb, hb4, u4, hf4⟩
    generalize Bk.head x.L x.b on = ee at *
    obtain ⟨⟨⟨sk, st, sm⟩, er⟩, L', b'⟩ := ee
    have m := moved_head (x' := ⟨L', b'⟩) h2 hr4 hb4 hrb u4 hf4
    have k4 := m.upd.keep K2.out (fun e => by
      rcases e with e | e
      · have := (h.ring.foot_lt e).2; omega
      · have := (h.book.foot_lt e).2; omega)
    have u5 := nw_alloc w4 (.cells #[.int .i64 sk, .string ⟨st.toArray⟩, .int .i64 sm] tSigned)
    have k5 := Nw.keep u5 k4
    obtain ⟨_, _, _⟩ := cell3 (heap_new w4 (.cells #[.int .i64 sk, .string ⟨st.toArray⟩, .int .i64 sm] tSigned))
    have K5 := Lib.hid k5
    have f0 := cells_frozen k5 0
    have f1 := cells_frozen k5 1
    have f2 := cells_frozen k5 2
    obtain ⟨_, _, _⟩ := cell3 k5
    clear k5
    dsimp only [sgnV]
    go_wp2_with fail
    (try simp only [Exit.inBlock, Exit.then])
    exact bodyPost_ret (do_results (set3 K5.out) rfl) rfl (do_end hgb h u2 hs2 m u5 _ _ _ Hy.out)
  by_cases h3 : ok = 3
  · subst h3
    have hy : Bk.doS x.b.key x ⟨3, on, os⟩ = (((Bk.absent x.L x.b os on).1.1, 0, (Bk.absent x.L x.b os on).1.2), ⟨(Bk.absent x.L x.b os on).2, x.b⟩) := rfl
    have Hy := Lib.hid hy; clear hy
    go_enter Tryd.func13, Tryd.ntmps13
    go_wp2_with fail
    rw [HW2.out]
    go_wp2_with fail
    (with_reducible refine (absent_b B r br x.L x.b os on _ g2 h2.ring h2.book hB2 hn (by omega) HL.out).mono ?_)
    rintro _ w4 ⟨r', rfl, hr4, hrb, u4, hf4⟩
    generalize Bk.absent x.L x.b os on = ee at *
    obtain ⟨⟨⟨sk, st, sm⟩, er⟩, L'⟩ := ee
    have m := moved_sgn h2 hr4 hrb u4 hf4
    have k4 := m.upd.keep K2.out (fun e => by
      rcases e with e | e
      · have := (h.ring.foot_lt e).2; omega
      · have := (h.book.foot_lt e).2; omega)
    have u5 := nw_alloc w4 (.cells #[.int .i64 sk, .string ⟨st.toArray⟩, .int .i64 sm] tSigned)
    have k5 := Nw.keep u5 k4
    obtain ⟨_, _, _⟩ := cell3 (heap_new w4 (.cells #[.int .i64 sk, .string ⟨st.toArray⟩, .int .i64 sm] tSigned))
    have K5 := Lib.hid k5
    have f0 := cells_frozen k5 0
    have f1 := cells_frozen k5 1
    have f2 := cells_frozen k5 2
    obtain ⟨_, _, _⟩ := cell3 k5
    clear k5
    dsimp only [sgnV]
    go_wp2_with fail
    (try simp only [Exit.inBlock, Exit.then])
    exact bodyPost_ret (do_results (set3 K5.out) rfl) rfl (do_end hgb h u2 hs2 m u5 _ _ _ Hy.out)
  have hy1 : Hid (Bk.doS x.b.key x ⟨ok, on, os⟩ = if on = x.b.key then ((Bk.noSgn, 0, 0), x) else (((Bk.sign x.L on os).1, 0, 0), ⟨(Bk.sign x.L on os).2, x.b⟩)) := by
    show _ = _
    unfold Bk.doS
    rw [if_neg h0, if_neg h1, if_neg h2', if_neg h3]
  by_cases hk : on = x.b.key
  · have Hy : Hid (Bk.doS x.b.key x ⟨ok, on, os⟩ = ((Bk.noSgn, 0, 0), x)) := by show _ = _; rw [hy1.out, if_pos hk]
    have hkb : (on == x.b.key) = true := beq_iff_eq.2 hk
    clear hk
    go_enter Tryd.func13, Tryd.ntmps13
    go_wp2_with fail
    rw [HW2.out]
    go_wp2_with fail
    (try simp only [Exit.inBlock, Exit.then])
    exact bodyPost_ret (do_results K2.out rfl) rfl ⟨r, br, by rw [Hy.out]; rfl, by rw [Hy.out]; exact moved_not h u2⟩
  · have hy : Bk.doS x.b.key x ⟨ok, on, os⟩ = (((Bk.sign x.L on os).1, 0, 0), ⟨(Bk.sign x.L on os).2, x.b⟩) := by rw [hy1.out, if_neg hk]
    have Hy := Lib.hid hy; clear hy
    have hkb : (on == x.b.key) = false := beq_eq_false_iff_ne.2 hk
    clear hk
    go_enter Tryd.func13, Tryd.ntmps13
    go_wp2_with fail
    rw [HW2.out]
    go_wp2_with fail
    (with_reducible refine (sign_s B r x.L on os _ g2 h2.ring hn (by omega) HL.out hB2).mono ?_)
    rintro _ w4 ⟨r', rfl, hr4, hrb, u4, hf4⟩
    generalize Bk.sign x.L on os = ee at *
    obtain ⟨⟨sk, st, sm⟩, L'⟩ := ee
    have m := moved_sgn h2 hr4 hrb u4 hf4
    have k4 := m.upd.keep K2.out (fun e => by
      rcases e with e | e
      · have := (h.ring.foot_lt e).2; omega
      · have := (h.book.foot_lt e).2; omega)
    have k5 := k4
    have K5 := Lib.hid k5
    have f0 := cells_frozen k5 0
    have f1 := cells_frozen k5 1
    have f2 := cells_frozen k5 2
    obtain ⟨_, _, _⟩ := cell3 k5
    clear k5
    dsimp only [sgnV]
    go_wp2_with fail
    (try simp only [Exit.inBlock, Exit.then])
    exact bodyPost_ret (do_results (set3 K5.out) rfl) rfl (do_end hgb h u2 hs2 m (Upd.refl _ _) _ _ _ Hy.out)
end Go.Proofs.YtjjdmmhlcdfplaaDoor
