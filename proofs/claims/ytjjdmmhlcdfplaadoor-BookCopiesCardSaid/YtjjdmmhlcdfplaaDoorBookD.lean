/- The contract of the book's Absent. -/
import Derived.Test.YtjjdmmhlcdfplaaDoorBookC
namespace Go.Proofs.YtjjdmmhlcdfplaaDoor
open Go.RowKit
set_option linter.unusedVariables false
set_option linter.unusedSimpArgs false
attribute [local irreducible] Calls

theorem absentb_results {w : World} {bp : Nat} {tmps : Array Value} {v0 v1 v2 : Value} {T : TypeId} {fz : Nat × Nat} (h : w.heap[bp]? = some (.cells #[v0, v1, v2] T fz)) (ht : tmps.getD 6 undef = .pointer (some ⟨bp, 0, none⟩)) :
    (results Tryd.f23 tmps).run Tryd.prog w = .ok (.tuple #[.agg #[v0, v1, v2], tmps.getD 7 undef]) w := by
  have c0 : w.cell? ⟨bp, 0, none⟩ = some v0 := by rw [cells_cell h]; rfl
  have c1 : w.cell? ⟨bp, 1, none⟩ = some v1 := by rw [cells_cell h]; rfl
  have c2 : w.cell? ⟨bp, 2, none⟩ = some v2 := by rw [cells_cell h]; rfl
  clear h
  have ht2 : tmps[6]?.getD undef = .pointer (some ⟨bp, 0, none⟩) := by simpa using ht
  clear ht
  simp [results, Tryd.results23, go_sem, ht2, c0, c1, c2]
theorem sgn_none {B : Nat} {r : RingR} {L : List Bk.Seal} {w w1 : World} (hr1 : RingAt B w1 r L) {v v' : Value} (hv : v = v') (u : Nw w w1) : SgnPost B r v L w (.returned v') w1 := by
  subst hv
  exact ⟨r, rfl, hr1, rfl, Nw.upd _ u, fun j hj => Or.inl hj⟩
set_option maxHeartbeats 2000000 in
set_option maxRecDepth 100000 in
theorem absent_b (B : Nat) (r : RingR) (br : BookR) (L : List Bk.Seal) (b : Bk.Book) (k : List UInt8) (n : Int) (w : World) (g : Gl w) (hr : RingAt B w r L) (h : BookAt B w br r.rb b) (hB : B ≤ w.heap.size) (hn : I64 n) (hk : k.length ≤ 140737488351232) (hL : L.length ≤ 1000000) :
    Calls Tryd.prog 23 #[.pointer (some ⟨br.bb, 0, none⟩), .string ⟨k.toArray⟩, .int .i64 n] w (SgnPost B r (.tuple #[sgnV (Bk.absent L b k n).1.1, .int .i64 (Bk.absent L b k n).1.2]) (Bk.absent L b k n).2 w) := by
  have n1 := nw_alloc w (.cells #[.int .i64 0, .string ⟨#[]⟩, .int .i64 0] tSigned)
  have k1 := heap_new w (.cells #[.int .i64 0, .string ⟨#[]⟩, .int .i64 0] tSigned)
  have h1 := h.nw n1
  have hgb := g.big
  have f0 := cells_frozen k1 0
  have f1 := cells_frozen k1 1
  have f2 := cells_frozen k1 2
  obtain ⟨_, _, _⟩ := cell3 k1
  have K1 := Lib.hid k1; clear k1
  obtain ⟨a, cap, hev⟩ := h.slice
  have c2 : (w.alloc (.cells #[.int .i64 0, .string ⟨#[]⟩, .int .i64 0] tSigned)).cell? ⟨br.bb, 2, none⟩ = some (.slice a b.es.length cap) := by rw [h1.cells.2.2.1, hev]
  have c3 := h1.cells.2.2.2.1
  have Hlen := Lib.hid h.len
  have Hkeys := Lib.hid (fun t ht => (h.keys t ht).1)
  clear hev
  have hab : Bk.absent L b k n = (if n < 0 ∨ (b.es.length : Int) < n ∨ 20000 < k.length then ((Bk.noSgn, (1 : Int)), L)
    else if Cl.absentB b.es n.toNat k = false then ((Bk.noSgn, 5), L)
    else (((Bk.signC L b ⟨2, n, 0, k⟩).1, 0), (Bk.signC L b ⟨2, n, 0, k⟩).2) : (Bk.Sgn × Int) × List Bk.Seal) := rfl
  have Hab := Lib.hid hab; clear hab
  by_cases ha : n < 0
  · have hx : Hid (Bk.absent L b k n = ((Bk.noSgn, 1), L)) := by show _ = _; rw [Hab.out, if_pos (Or.inl ha)]
    go_enter Tryd.func23, Tryd.ntmps23
    go_wp2_with fail
    (try simp only [Exit.inBlock, Exit.then])
    rw [hx.out]
    exact bodyPost_ret (absentb_results K1.out rfl) rfl (sgn_none (hr.nw n1) rfl n1)
  by_cases hb : (b.es.length : Int) < n
  · have hx : Hid (Bk.absent L b k n = ((Bk.noSgn, 1), L)) := by show _ = _; rw [Hab.out, if_pos (Or.inr (Or.inl hb))]
    go_enter Tryd.func23, Tryd.ntmps23
    go_wp2_with fail
    (try simp only [Exit.inBlock, Exit.then])
    rw [hx.out]
    exact bodyPost_ret (absentb_results K1.out rfl) rfl (sgn_none (hr.nw n1) rfl n1)
  by_cases hc : 20000 < k.length
  · have hx : Hid (Bk.absent L b k n = ((Bk.noSgn, 1), L)) := by show _ = _; rw [Hab.out, if_pos (Or.inr (Or.inr hc))]
    go_enter Tryd.func23, Tryd.ntmps23
    go_wp2_with fail
    (try simp only [Exit.inBlock, Exit.then])
    rw [hx.out]
    exact bodyPost_ret (absentb_results K1.out rfl) rfl (sgn_none (hr.nw n1) rfl n1)
  obtain ⟨m, rfl⟩ := Int.eq_ofNat_of_zero_le (show 0 ≤ n by omega)
  have hx1 : Hid (Bk.absent L b k m = if Cl.absentB b.es m k = false then ((Bk.noSgn, 5), L) else (((Bk.signC L b ⟨2, m, 0, k⟩).1, 0), (Bk.signC L b ⟨2, m, 0, k⟩).2)) := by
    show _ = _
    rw [Hab.out, if_neg (by omega), Int.toNat_natCast]
  have ic : I64C ⟨2, m, 0, k⟩ := ⟨by show I64 2; unfold I64; omega, hn, by show I64 0; unfold I64; omega, by show k.length ≤ _; omega⟩
  have hmm : m ≤ b.es.length := by omega
  clear hb ha
  rcases h1.look k hk with ⟨i, hi, hrun⟩ | ⟨hno, hrun⟩
  · have hai := Bk.absent_first (n := m) Hkeys.out hi
    by_cases him : i < m
    · have hx : Hid (Bk.absent L b k m = ((Bk.noSgn, 5), L)) := by show _ = _; rw [hx1.out, if_pos (by rw [hai]; exact decide_eq_false (by omega))]
      clear hai hi
      have Hrun := Lib.hid hrun; clear hrun
      go_enter Tryd.func23, Tryd.ntmps23
      go_wp2_with (at_lookup; refine wpList_lookL rfl _ _ 80 true rfl _ _ _ rfl rfl Hrun.out ?_)
      (try simp only [Exit.inBlock, Exit.then])
      rw [hx.out]
      exact bodyPost_ret (absentb_results K1.out rfl) rfl (sgn_none (hr.nw n1) rfl n1)
    · have hx : Bk.absent L b k m = (((Bk.signC L b ⟨2, m, 0, k⟩).1, 0), (Bk.signC L b ⟨2, m, 0, k⟩).2) := by rw [hx1.out, if_neg (by rw [hai]; simp; omega)]
      rw [hx]
      clear hai hi hx
      have Hrun := Lib.hid hrun; clear hrun
      go_enter Tryd.func23, Tryd.ntmps23
      go_wp2_with (at_lookup; refine wpList_lookL rfl _ _ 80 true rfl _ _ _ rfl rfl Hrun.out ?_)
      (with_reducible refine (sign_b B r br L b ⟨2, m, 0, k⟩ _ (g.upd n1) (hr.nw n1) h1 (Nat.le_trans hB n1.size) ic hL).mono ?_)
      rintro _ w4 ⟨r', rfl, hr4, hrb, u4, hf4⟩
      generalize Bk.signC L b ⟨2, m, 0, k⟩ = sg at *
      obtain ⟨⟨sk, st, sm⟩, L'⟩ := sg
      unfold sgnV
      dsimp only at hr4
      dsimp only
      have k4 := u4.keep K1.out (fun e => by have := (hr.foot_lt e).2; omega)
      have K4 := Lib.hid k4
      have f0 := cells_frozen k4 0
      have f1 := cells_frozen k4 1
      have f2 := cells_frozen k4 2
      obtain ⟨_, _, _⟩ := cell3 k4
      clear k4
      go_wp2_with fail
      (try simp only [Exit.inBlock, Exit.then])
      exact bodyPost_ret (absentb_results (set3 K4.out) rfl) rfl (sgn_end hgb hrb hr4 (fun j hj => (hr.foot_lt hj).2) n1 u4 hf4 (lt_of_block K1.out) _ _ _ _)
  · have hai := Bk.absent_first_none (n := m) hno
    have hx : Bk.absent L b k m = (((Bk.signC L b ⟨2, m, 0, k⟩).1, 0), (Bk.signC L b ⟨2, m, 0, k⟩).2) := by rw [hx1.out, if_neg (by rw [hai]; simp)]
    rw [hx]
    clear hai hno hx
    have Hrun := Lib.hid hrun; clear hrun
    go_enter Tryd.func23, Tryd.ntmps23
    go_wp2_with (at_lookup; refine wpList_lookL rfl _ _ 80 true rfl _ _ _ rfl rfl Hrun.out ?_)
    (with_reducible refine (sign_b B r br L b ⟨2, m, 0, k⟩ _ (g.upd n1) (hr.nw n1) h1 (Nat.le_trans hB n1.size) ic hL).mono ?_)
    rintro _ w4 ⟨r', rfl, hr4, hrb, u4, hf4⟩
    generalize Bk.signC L b ⟨2, m, 0, k⟩ = sg at *
    obtain ⟨⟨sk, st, sm⟩, L'⟩ := sg
    unfold sgnV
    dsimp only at hr4
    dsimp only
    have k4 := u4.keep K1.out (fun e => by have := (hr.foot_lt e).2; omega)
    have K4 := Lib.hid k4
    have f0 := cells_frozen k4 0
    have f1 := cells_frozen k4 1
    have f2 := cells_frozen k4 2
    obtain ⟨_, _, _⟩ := cell3 k4
    clear k4
    go_wp2_with fail
    (try simp only [Exit.inBlock, Exit.then])
    exact bodyPost_ret (absentb_results (set3 K4.out) rfl) rfl (sgn_end hgb hrb hr4 (fun j hj => (hr.foot_lt hj).2) n1 u4 hf4 (lt_of_block K1.out) _ _ _ _)
end Go.Proofs.YtjjdmmhlcdfplaaDoor
