/- The contract of the book's Absent. The contract of the book's Head. The contract of ladinglaw07's do. -/
import Derived.Test.YtagmlemlagbfkaaGreatDoorPkMTells5
import Derived.Test.YtagmlemlagbfkaaGreatDoorPkMTells4
namespace Go.Proofs.YtagmlemlagbfkaaGreatDoor
open Go.RowKit
set_option linter.unusedVariables false
set_option linter.unusedSimpArgs false
attribute [local irreducible] Calls

theorem absentb_results {w : World} {bp : Nat} {tmps : Array Value} {v0 v1 v2 : Value} {T : TypeId} {fz : Nat × Nat} (h : w.heap[bp]? = some (.cells #[v0, v1, v2] T fz)) (ht : tmps.getD 6 undef = .pointer (some ⟨bp, 0, none⟩)) :
    (results Tryz.f128 tmps).run Tryz.prog w = .ok (.tuple #[.agg #[v0, v1, v2], tmps.getD 7 undef]) w := by
  have c0 : w.cell? ⟨bp, 0, none⟩ = some v0 := by rw [cells_cell h]; rfl
  have c1 : w.cell? ⟨bp, 1, none⟩ = some v1 := by rw [cells_cell h]; rfl
  have c2 : w.cell? ⟨bp, 2, none⟩ = some v2 := by rw [cells_cell h]; rfl
  clear h
  have ht2 : tmps[6]?.getD undef = .pointer (some ⟨bp, 0, none⟩) := by simpa using ht
  clear ht
  simp [results, Tryz.results128, go_sem, ht2, c0, c1, c2]
theorem sgn_none {B : Nat} {r : RingR} {L : List Bk.Seal} {w w1 : World} (hr1 : RingAt B w1 r L) {v v' : Value} (hv : v = v') (u : Nw w w1) : SgnPost B r v L w (.returned v') w1 := by
  subst hv
  exact ⟨r, rfl, hr1, rfl, Nw.upd _ u, fun j hj => Or.inl hj⟩
set_option maxHeartbeats 2000000 in
set_option maxRecDepth 100000 in
theorem absent_b (B : Nat) (r : RingR) (br : BookR) (L : List Bk.Seal) (b : Bk.Book) (k : List UInt8) (n : Int) (w : World) (g : Gl w) (hr : RingAt B w r L) (h : BookAt B w br r.rb b) (hB : B ≤ w.heap.size) (hn : I64 n) (hk : k.length ≤ 140737488351232) (hL : L.length ≤ 1000000) :
    Calls Tryz.prog 128 #[.pointer (some ⟨br.bb, 0, none⟩), .string ⟨k.toArray⟩, .int .i64 n] w (SgnPost B r (.tuple #[sgnV (Bk.absent L b k n).1.1, .int .i64 (Bk.absent L b k n).1.2]) (Bk.absent L b k n).2 w) := by
  have n1 := nw_alloc w (.cells #[.int .i64 0, .string ⟨#[]⟩, .int .i64 0] tSigned)
  have k1 := heap_new w (.cells #[.int .i64 0, .string ⟨#[]⟩, .int .i64 0] tSigned)
  have h1 := h.nw n1
  have hgb := g.big
  have f0 := cells_frozen k1 0
  have f1 := cells_frozen k1 1
  have f2 := cells_frozen k1 2
  obtain ⟨_, _, _⟩ := cell3 k1
  have K1 := Lib.hid k1; clear k1
  obtain ⟨a, cap, hev⟩ := h.slice
  have c2 : (w.alloc (.cells #[.int .i64 0, .string ⟨#[]⟩, .int .i64 0] tSigned)).cell? ⟨br.bb, 2, none⟩ = some (.slice a b.es.length cap) := by rw [h1.cells.2.2.1, hev]
  have c3 := h1.cells.2.2.2.1
  have Hlen := Lib.hid h.len
  have Hkeys := Lib.hid (fun t ht => (h.keys t ht).1)
  clear hev
  have hab : Bk.absent L b k n = (if n < 0 ∨ (b.es.length : Int) < n ∨ 20000 < k.length then ((Bk.noSgn, (1 : Int)), L)
    else if Cl.absentB b.es n.toNat k = false then ((Bk.noSgn, 5), L)
    else (((Bk.signC L b ⟨2, n, 0, k⟩).1, 0), (Bk.signC L b ⟨2, n, 0, k⟩).2) : (Bk.Sgn × Int) × List Bk.Seal) := rfl
  have Hab := Lib.hid hab; clear hab
  by_cases ha : n < 0
  · have hx : Hid (Bk.absent L b k n = ((Bk.noSgn, 1), L)) := by show _ = _; rw [Hab.out, if_pos (Or.inl ha)]
    go_enter Tryz.func128, Tryz.ntmps128
    go_wp2_with fail
    (try simp only [Exit.inBlock, Exit.then])
    rw [hx.out]
    exact bodyPost_ret (absentb_results K1.out rfl) rfl (sgn_none (hr.nw n1) rfl n1)
  by_cases hb : (b.es.length : Int) < n
  · have hx : Hid (Bk.absent L b k n = ((Bk.noSgn, 1), L)) := by show _ = _; rw [Hab.out, if_pos (Or.inr (Or.inl hb))]
    go_enter Tryz.func128, Tryz.ntmps128
    go_wp2_with fail
    (try simp only [Exit.inBlock, Exit.then])
    rw [hx.out]
    exact bodyPost_ret (absentb_results K1.out rfl) rfl (sgn_none (hr.nw n1) rfl n1)
  by_cases hc : 20000 < k.length
  · have hx : Hid (Bk.absent L b k n = ((Bk.noSgn, 1), L)) := by show _ = _; rw [Hab.out, if_pos (Or.inr (Or.inr hc))]
    go_enter Tryz.func128, Tryz.ntmps128
    go_wp2_with fail
    (try simp only [Exit.inBlock, Exit.then])
    rw [hx.out]
    exact bodyPost_ret (absentb_results K1.out rfl) rfl (sgn_none (hr.nw n1) rfl n1)
  obtain ⟨m, rfl⟩ := Int.eq_ofNat_of_zero_le (show 0 ≤ n by omega)
  have hx1 : Hid (Bk.absent L b k m = if Cl.absentB b.es m k = false then ((Bk.noSgn, 5), L) else (((Bk.signC L b ⟨2, m, 0, k⟩).1, 0), (Bk.signC L b ⟨2, m, 0, k⟩).2)) := by
    show _ = _
    rw [Hab.out, if_neg (by omega), Int.toNat_natCast]
  have ic : I64C ⟨2, m, 0, k⟩ := ⟨by show I64 2; unfold I64; omega, hn, by show I64 0; unfold I64; omega, by show k.length ≤ _; omega⟩
  have hmm : m ≤ b.es.length := by omega
  clear hb ha
  rcases h1.look k hk with ⟨i, hi, hrun⟩ | ⟨hno, hrun⟩
  · have hai := Bk.absent_first (n := m) Hkeys.out hi
    by_cases him : i < m
    · have hx : Hid (Bk.absent L b k m = ((Bk.noSgn, 5), L)) := by show _ = _; rw [hx1.out, if_pos (by rw [hai]; exact decide_eq_false (by omega))]
      clear hai hi
      have Hrun := Lib.hid hrun; clear hrun
      go_enter Tryz.func128, Tryz.ntmps128
      go_wp2_with (at_lookup; refine wpList_lookL rfl _ _ 133 true rfl _ _ _ rfl rfl Hrun.out ?_)
      (try simp only [Exit.inBlock, Exit.then])
      rw [hx.out]
      exact bodyPost_ret (absentb_results K1.out rfl) rfl (sgn_none (hr.nw n1) rfl n1)
    · have hx : Bk.absent L b k m = (((Bk.signC L b ⟨2, m, 0, k⟩).1, 0), (Bk.signC L b ⟨2, m, 0, k⟩).2) := by rw [hx1.out, if_neg (by rw [hai]; simp; omega)]
      rw [hx]
      clear hai hi hx
      have Hrun := Lib.hid hrun; clear hrun
      go_enter Tryz.func128, Tryz.ntmps128
      go_wp2_with (at_lookup; refine wpList_lookL rfl _ _ 133 true rfl _ _ _ rfl rfl Hrun.out ?_)
      (with_reducible refine (sign_b B r br L b ⟨2, m, 0, k⟩ _ (g.upd n1) (hr.nw n1) h1 (Nat.le_trans hB n1.size) ic hL).mono ?_)
      rintro _ w4 ⟨r', rfl, hr4, hrb, u4, hf4⟩
      generalize Bk.signC L b ⟨2, m, 0, k⟩ = sg at *
      obtain ⟨⟨sk, st, sm⟩, L'⟩ := sg
      unfold sgnV
      dsimp only at hr4
      dsimp only
      have k4 := u4.keep K1.out (fun e => by have := (hr.foot_lt e).2; omega)
      have K4 := Lib.hid k4
      have f0 := cells_frozen k4 0
      have f1 := cells_frozen k4 1
      have f2 := cells_frozen k4 2
      obtain ⟨_, _, _⟩ := cell3 k4
      clear k4
      go_wp2_with fail
      (try simp only [Exit.inBlock, Exit.then])
      exact bodyPost_ret (absentb_results (set3 K4.out) rfl) rfl (sgn_end hgb hrb hr4 (fun j hj => (hr.foot_lt hj).2) n1 u4 hf4 (lt_of_block K1.out) _ _ _ _)
  · have hai := Bk.absent_first_none (n := m) hno
    have hx : Bk.absent L b k m = (((Bk.signC L b ⟨2, m, 0, k⟩).1, 0), (Bk.signC L b ⟨2, m, 0, k⟩).2) := by rw [hx1.out, if_neg (by rw [hai]; simp)]
    rw [hx]
    clear hai hno hx
    have Hrun := Lib.hid hrun; clear hrun
    go_enter Tryz.func128, Tryz.ntmps128
    go_wp2_with (at_lookup; refine wpList_lookL rfl _ _ 133 true rfl _ _ _ rfl rfl Hrun.out ?_)
    (with_reducible refine (sign_b B r br L b ⟨2, m, 0, k⟩ _ (g.upd n1) (hr.nw n1) h1 (Nat.le_trans hB n1.size) ic hL).mono ?_)
    rintro _ w4 ⟨r', rfl, hr4, hrb, u4, hf4⟩
    generalize Bk.signC L b ⟨2, m, 0, k⟩ = sg at *
    obtain ⟨⟨sk, st, sm⟩, L'⟩ := sg
    unfold sgnV
    dsimp only at hr4
    dsimp only
    have k4 := u4.keep K1.out (fun e => by have := (hr.foot_lt e).2; omega)
    have K4 := Lib.hid k4
    have f0 := cells_frozen k4 0
    have f1 := cells_frozen k4 1
    have f2 := cells_frozen k4 2
    obtain ⟨_, _, _⟩ := cell3 k4
    clear k4
    go_wp2_with fail
    (try simp only [Exit.inBlock, Exit.then])
    exact bodyPost_ret (absentb_results (set3 K4.out) rfl) rfl (sgn_end hgb hrb hr4 (fun j hj => (hr.foot_lt hj).2) n1 u4 hf4 (lt_of_block K1.out) _ _ _ _)
end Go.Proofs.YtagmlemlagbfkaaGreatDoor
namespace Go.Proofs.YtagmlemlagbfkaaGreatDoor
open Go.RowKit
set_option linter.unusedVariables false
set_option linter.unusedSimpArgs false
attribute [local irreducible] Calls

theorem headb_results {w : World} {bp : Nat} {tmps : Array Value} {v0 v1 v2 : Value} {T : TypeId} {fz : Nat × Nat} (h : w.heap[bp]? = some (.cells #[v0, v1, v2] T fz)) (ht : tmps.getD 4 undef = .pointer (some ⟨bp, 0, none⟩)) :
    (results Tryz.f124 tmps).run Tryz.prog w = .ok (.tuple #[.agg #[v0, v1, v2], tmps.getD 5 undef]) w := by
  have c0 : w.cell? ⟨bp, 0, none⟩ = some v0 := by rw [cells_cell h]; rfl
  have c1 : w.cell? ⟨bp, 1, none⟩ = some v1 := by rw [cells_cell h]; rfl
  have c2 : w.cell? ⟨bp, 2, none⟩ = some v2 := by rw [cells_cell h]; rfl
  clear h
  have ht2 : tmps[4]?.getD undef = .pointer (some ⟨bp, 0, none⟩) := by simpa using ht
  clear ht
  simp [results, Tryz.results124, go_sem, ht2, c0, c1, c2]
def HeadPost (B : Nat) (r : RingR) (br : BookR) (x : (Bk.Sgn × Int) × List Bk.Seal × Bk.Book) (w : World) (e : Ending) (w' : World) : Prop :=
  ∃ r', e = .returned (.tuple #[sgnV x.1.1, .int .i64 x.1.2]) ∧ RingAt B w' r' x.2.1 ∧ r'.rb = r.rb ∧ BookAt B w' br r.rb x.2.2 ∧ Upd (fun k => r.foot k ∨ k = br.bb) w w' ∧ ∀ j, r'.foot j → r.foot j ∨ w.heap.size ≤ j
theorem head_none {B : Nat} {r : RingR} {br : BookR} {L : List Bk.Seal} {b : Bk.Book} {w w1 : World} (hr1 : RingAt B w1 r L) (h1 : BookAt B w1 br r.rb b) {n : Int} {x : (Bk.Sgn × Int) × List Bk.Seal × Bk.Book} (hx : x = ((Bk.noSgn, n), L, b)) (u : Nw w w1) :
    HeadPost B r br x w (.returned (.tuple #[.agg #[.int .i64 0, .string ⟨#[]⟩, .int .i64 0], .int .i64 n])) w1 := by
  subst hx
  exact ⟨r, rfl, hr1, rfl, h1, Nw.upd _ u, fun j hj => Or.inl hj⟩
/-- The book behind 'b.headed, b.moment, b.told = true, now, len(b.entries)'. -/
theorem head_set {B : Nat} {r : RingR} {br : BookR} {L : List Bk.Seal} {b : Bk.Book} {w2 : World} {now : Int} (hr : RingAt B w2 r L) (h : BookAt B w2 br r.rb b) (hd : ∀ k, r.foot k → ¬ br.foot k) (h0 : 0 ≤ now) (h1 : now ≤ 1073741824) :
    RingAt B (((w2.setCell ⟨br.bb, 4, none⟩ (.bool true)).setCell ⟨br.bb, 5, none⟩ (.int .i64 now)).setCell ⟨br.bb, 6, none⟩ (.int .i64 b.es.length)) r L ∧
    BookAt B (((w2.setCell ⟨br.bb, 4, none⟩ (.bool true)).setCell ⟨br.bb, 5, none⟩ (.int .i64 now)).setCell ⟨br.bb, 6, none⟩ (.int .i64 b.es.length)) br r.rb { b with last := now, told := b.es.length } ∧
    Upd (fun k => k = br.bb) w2 (((w2.setCell ⟨br.bb, 4, none⟩ (.bool true)).setCell ⟨br.bb, 5, none⟩ (.int .i64 now)).setCell ⟨br.bb, 6, none⟩ (.int .i64 b.es.length)) := by
  have hg : nG ≤ br.bb := Nat.le_trans h.hb h.bb
  have q : Upd (fun k => k = br.bb) w2 (((w2.setCell ⟨br.bb, 4, none⟩ (.bool true)).setCell ⟨br.bb, 5, none⟩ (.int .i64 now)).setCell ⟨br.bb, 6, none⟩ (.int .i64 b.es.length)) :=
    Upd.set1 (Upd.set1 (Upd.set1 (Upd.refl _ _) hg 4 _) hg 5 _) hg 6 _
  have hne1 : ∀ k, br.ev.ownBlock = some k → ¬ k = br.bb := by
    rintro k e rfl
    obtain ⟨_, cs, hh⟩ := own_block h.own e
    rw [h.blk] at hh
    simp [tBook, tStr] at hh
  have hne3 : ¬ br.fb = br.bb := by
    intro e
    obtain ⟨es, clock, hm, _⟩ := h.map
    have := h.blk
    rw [← e, hm] at this
    cases this
  have hlen := h.len
  refine ⟨hr.upd q (fun k hk e => hd k hk (Or.inl e)), ⟨h.hb, h.bb, h.fb, ?_, owns_upd' h.own q hne1, h.map.upd q hne3, h.keys, h.len, ⟨by show -1 ≤ now; omega, h1⟩, ⟨by show (0 : Int) ≤ (b.es.length : Int); omega, by show (b.es.length : Int) ≤ 200000; omega⟩, h.key⟩, q⟩
  have := setCell_block (setCell_block (setCell_block h.blk 4 (.bool true)) 5 (.int .i64 now)) 6 (.int .i64 b.es.length)
  rw [this]
  simp only [bookC]
  rw [decide_eq_true h0, if_neg (by omega : ¬ now < 0)]
  rfl
theorem ic_head {now : Int} {n : Nat} (h1 : now ≤ 1073741824) (h0 : 0 ≤ now) (hn : n ≤ 200000) : I64C ⟨1, n, now, []⟩ :=
  ⟨by show I64 1; unfold I64; omega, by show I64 (n : Int); unfold I64; omega, by show I64 now; unfold I64; omega, Nat.zero_le _⟩
theorem head_end {B : Nat} {r r' : RingR} {br : BookR} {L' : List Bk.Seal} {b' : Bk.Book} {w w2 w3 w4 : World} {v0 v1 v2 : Value} {x0 : (Bk.Sgn × Int) × List Bk.Seal × Bk.Book} (hgb : nG ≤ w.heap.size) (hrb : r'.rb = r.rb) (hr4 : RingAt B w4 r' L') (h3 : BookAt B w3 br r.rb b')
    (hd : ∀ k, r.foot k → ¬ br.foot k) (hlt : ∀ j, r.foot j → j < w.heap.size) (hlb : ∀ j, br.foot j → j < w.heap.size) (u2 : Nw w w2) (u3 : Upd (fun k => k = br.bb) w2 w3) (u4 : Upd r.foot w3 w4) (hf4 : ∀ j, r'.foot j → r.foot j ∨ w3.heap.size ≤ j) (hw3 : w.heap.size < w3.heap.size)
    (hx1 : x0.2.1 = L') (hx2 : x0.2.2 = b') :
    HeadPost B r br x0 w (.returned (.tuple #[sgnV x0.1.1, .int .i64 x0.1.2])) (((w4.setCell ⟨w.heap.size, 0, none⟩ v0).setCell ⟨w.heap.size, 1, none⟩ v1).setCell ⟨w.heap.size, 2, none⟩ v2) := by
  have q : Upd (fun x => x = w.heap.size) w4 (((w4.setCell ⟨w.heap.size, 0, none⟩ v0).setCell ⟨w.heap.size, 1, none⟩ v1).setCell ⟨w.heap.size, 2, none⟩ v2) :=
    Upd.set1 (Upd.set1 (Upd.set1 (Upd.refl _ _) hgb 0 _) hgb 1 _) hgb 2 _
  have u04 : Upd (fun k => r.foot k ∨ k = br.bb) w w4 := ((Nw.upd _ u2).trans' u3 (fun j _ e => Or.inr e)).trans' u4 (fun j _ e => Or.inl e)
  have hj5 : ∀ j, r'.foot j → ¬ j = w.heap.size := by
    intro j hj e
    rcases hf4 j hj with e2 | e2
    · have := hlt j e2; omega
    · omega
  exact ⟨r', rfl, by rw [hx1]; exact hr4.upd q hj5, hrb, by rw [hx2]; exact (h3.upd u4 (fun k hk e => hd k e hk)).upd q (fun j hj e => by have := hlb j hj; omega), u04.trans' q (fun j hj e => by omega), fun j hj => (hf4 j hj).imp id (fun e => by omega)⟩
set_option maxHeartbeats 2000000 in
set_option maxRecDepth 100000 in
theorem head_b (B : Nat) (r : RingR) (br : BookR) (L : List Bk.Seal) (b : Bk.Book) (now : Int) (w : World) (g : Gl w) (hr : RingAt B w r L) (h : BookAt B w br r.rb b) (hB : B ≤ w.heap.size) (hn : I64 now) (hd : ∀ k, r.foot k → ¬ br.foot k) (hL : L.length ≤ 1000000) :
    Calls Tryz.prog 124 #[.pointer (some ⟨br.bb, 0, none⟩), .int .i64 now] w (HeadPost B r br (Bk.head L b now) w) := by
  have n1 := nw_alloc w (.cells #[.int .i64 0, .string ⟨#[]⟩, .int .i64 0] tSigned)
  have k1 := heap_new w (.cells #[.int .i64 0, .string ⟨#[]⟩, .int .i64 0] tSigned)
  have h1 := h.nw n1
  have hgb := g.big
  have f0 := cells_frozen k1 0
  have f1 := cells_frozen k1 1
  have f2 := cells_frozen k1 2
  obtain ⟨_, _, _⟩ := cell3 k1
  have K1 := Lib.hid k1; clear k1
  obtain ⟨a, cap, hev⟩ := h.slice
  have Hev := Lib.hid hev; clear hev
  have l2 : ∀ i : Later (w.alloc (.cells #[.int .i64 0, .string ⟨#[]⟩, .int .i64 0] tSigned)), i.1.cell? ⟨br.bb, 2, none⟩ = some (.slice a b.es.length cap) := fun i => by rw [(h1.nw i.nw).cells.2.2.1, Hev.out]
  have l4 := fun i : Later (w.alloc (.cells #[.int .i64 0, .string ⟨#[]⟩, .int .i64 0] tSigned)) => (h1.nw i.nw).cells.2.2.2.2.1
  have l5 := fun i : Later (w.alloc (.cells #[.int .i64 0, .string ⟨#[]⟩, .int .i64 0] tSigned)) => (h1.nw i.nw).cells.2.2.2.2.2.1
  have l6 := fun i : Later (w.alloc (.cells #[.int .i64 0, .string ⟨#[]⟩, .int .i64 0] tSigned)) => (h1.nw i.nw).cells.2.2.2.2.2.2
  have hhe : Bk.head L b now = (if now < 0 ∨ 1073741824 < now then ((Bk.noSgn, (1 : Int)), L, b)
    else if now < b.last ∨ (b.last = now ∧ b.told ≠ b.es.length) then ((Bk.noSgn, 7), L, b)
    else (((Bk.signC L b ⟨1, b.es.length, now, []⟩).1, 0), (Bk.signC L b ⟨1, b.es.length, now, []⟩).2, { b with last := now, told := b.es.length }) : (Bk.Sgn × Int) × List Bk.Seal × Bk.Book) := rfl
  have Hhe := Lib.hid hhe; clear hhe
  by_cases ha : now < 0
  · have hx : Hid (Bk.head L b now = ((Bk.noSgn, 1), L, b)) := by show _ = _; rw [Hhe.out, if_pos (Or.inl ha)]
    clear l2 l4 l5 l6
    go_enter Tryz.func124, Tryz.ntmps124
    go_wp2_with fail
    (try simp only [Exit.inBlock, Exit.then])
    exact bodyPost_ret (headb_results K1.out rfl) rfl (head_none (hr.nw n1) h1 hx.out n1)
  by_cases hb : 1073741824 < now
  · have hx : Hid (Bk.head L b now = ((Bk.noSgn, 1), L, b)) := by show _ = _; rw [Hhe.out, if_pos (Or.inr hb)]
    clear l2 l4 l5 l6
    go_enter Tryz.func124, Tryz.ntmps124
    go_wp2_with fail
    (try simp only [Exit.inBlock, Exit.then])
    exact bodyPost_ret (headb_results K1.out rfl) rfl (head_none (hr.nw n1) h1 hx.out n1)
  have h0 : 0 ≤ now := by omega
  have hmax : now ≤ 1073741824 := by omega
  have hx1 : Hid (Bk.head L b now = if now < b.last ∨ (b.last = now ∧ b.told ≠ b.es.length) then ((Bk.noSgn, 7), L, b)
      else (((Bk.signC L b ⟨1, b.es.length, now, []⟩).1, 0), (Bk.signC L b ⟨1, b.es.length, now, []⟩).2, { b with last := now, told := b.es.length })) := by
    show _ = _
    rw [Hhe.out, if_neg (by omega)]
  by_cases hl : b.last < 0
  · rw [decide_eq_false (by omega)] at l4
    have hx : Bk.head L b now = (((Bk.signC L b ⟨1, b.es.length, now, []⟩).1, 0), (Bk.signC L b ⟨1, b.es.length, now, []⟩).2, { b with last := now, told := b.es.length }) := by rw [hx1.out, if_neg (by omega)]
    rw [hx]
    clear hx
    go_enter Tryz.func124, Tryz.ntmps124
    go_wp2_with fail
    refine wp_region_nw (by kernel_rfl) (by kernel_rfl) ?_
    repeat (go_big_quiet_step ((fail)))
    refine wpQuiet_nil ?_
    intro w2 u2
    replace u2 := later_out u2
    have K2 := Lib.hid (u2.keep K1.out)
    have h2 := h1.nw u2
    have hr2 := (hr.nw n1).nw u2
    replace u2 := n1.trans u2
    obtain ⟨hr3, h3, u3⟩ := head_set hr2 h2 hd h0 hmax
    have e2 : w2.cell? ⟨br.bb, 2, none⟩ = some (.slice a b.es.length cap) := by rw [h2.cells.2.2.1, Hev.out]
    have e4 : ∃ v, w2.cell? ⟨br.bb, 4, none⟩ = some v := ⟨_, h2.cells.2.2.2.2.1⟩
    have e5 : ∃ v, w2.cell? ⟨br.bb, 5, none⟩ = some v := ⟨_, h2.cells.2.2.2.2.2.1⟩
    have e6 : ∃ v, w2.cell? ⟨br.bb, 6, none⟩ = some v := ⟨_, h2.cells.2.2.2.2.2.2⟩
    obtain ⟨v4, e4⟩ := e4
    obtain ⟨v5, e5⟩ := e5
    obtain ⟨v6, e6⟩ := e6
    have g4 := cells_frozen h2.blk 4
    have g5 := cells_frozen h2.blk 5
    have g6 := cells_frozen h2.blk 6
    have K3 := Lib.hid (u3.keep K2.out (fun e => by have := lt_of_block h.blk; omega))
    have Hr3 := Lib.hid hr3
    have H3 := Lib.hid h3
    have U3 := Lib.hid u3
    clear hr3 h3 u3
    go_wp2_with fail
    generalize ((w2.setCell ⟨br.bb, 4, none⟩ (.bool true)).setCell ⟨br.bb, 5, none⟩ (.int .i64 now)).setCell ⟨br.bb, 6, none⟩ (.int .i64 b.es.length) = w3 at *
    (with_reducible refine (sign_b B r br L { b with last := now, told := b.es.length } ⟨1, b.es.length, now, []⟩ _ ((g.upd u2).upd U3.out) Hr3.out H3.out (by have := u2.size; have := U3.out.size; omega) (ic_head hmax h0 h.len) hL).mono ?_)
    rintro _ w4 ⟨r', rfl, hr4, hrb, u4, hf4⟩
    rw [show Bk.signC L { b with last := now, told := b.es.length } ⟨1, b.es.length, now, []⟩ = Bk.signC L b ⟨1, b.es.length, now, []⟩ from rfl] at hr4 ⊢
    have hfin := fun v0 v1 v2 x0 => head_end (x0 := x0) (v0 := v0) (v1 := v1) (v2 := v2) hgb hrb hr4 H3.out hd (fun j hj => (hr.foot_lt hj).2) (fun j hj => (h.foot_lt hj).2) u2 U3.out u4 hf4 (lt_of_block K3.out)
    have Hfin := Lib.hid hfin
    clear hfin
    generalize Bk.signC L b ⟨1, b.es.length, now, []⟩ = sg at *
    obtain ⟨⟨sk, st, sm⟩, L'⟩ := sg
    dsimp only [sgnV]
    have k4 := u4.keep K3.out (fun e => by have := (hr.foot_lt e).2; omega)
    have K4 := Lib.hid k4
    have d0 := cells_frozen k4 0
    have d1 := cells_frozen k4 1
    have d2 := cells_frozen k4 2
    obtain ⟨_, _, _⟩ := cell3 k4
    clear k4 e2 e4 e5 e6 g4 g5 g6
    go_wp2_with fail
    (try simp only [Exit.inBlock, Exit.then])
    exact bodyPost_ret (headb_results (set3 K4.out) rfl) rfl (Hfin.out _ _ _ ((⟨sk, st, sm⟩, 0), L', { b with last := now, told := b.es.length }) rfl rfl)
  · have hl0 : 0 ≤ b.last := by omega
    rw [decide_eq_true hl0] at l4
    rw [if_neg hl] at l5
    clear hl
    by_cases hc : now < b.last
    · have hx : Hid (Bk.head L b now = ((Bk.noSgn, 7), L, b)) := by show _ = _; rw [hx1.out, if_pos (Or.inl hc)]
      go_enter Tryz.func124, Tryz.ntmps124
      go_wp2_with fail
      refine wp_region_nw (by kernel_rfl) (by kernel_rfl) ?_
      repeat (go_big_quiet_step ((fail)))
      refine wpQuiet_nil ?_
      intro w2 u2
      replace u2 := later_out u2
      have K2 := Lib.hid (u2.keep K1.out)
      have h2 := h1.nw u2
      have hr2 := (hr.nw n1).nw u2
      replace u2 := n1.trans u2
      have d0 := cells_frozen K2.out 0
      have d1 := cells_frozen K2.out 1
      have d2 := cells_frozen K2.out 2
      obtain ⟨_, _, _⟩ := cell3 K2.out
      clear l2 l4 l5 l6
      go_wp2_with fail
      (try simp only [Exit.inBlock, Exit.then])
      rw [hx.out]
      exact bodyPost_ret (headb_results (set3 K2.out) rfl) rfl (head_end (x0 := ((Bk.noSgn, 7), L, b)) hgb rfl hr2 h2 hd (fun j hj => (hr.foot_lt hj).2) (fun j hj => (h.foot_lt hj).2) u2 (Upd.refl _ _) (Upd.refl _ _) (fun j hj => Or.inl hj) (lt_of_block K2.out) rfl rfl)
    have hcd : decide (now < b.last) = false := decide_eq_false hc
    by_cases he : b.last = now
    · have he1 : (b.last == now) = true := beq_iff_eq.2 he
      by_cases ht : b.told = b.es.length
      · have ht1 : (b.told == (b.es.length : Int)) = true := beq_iff_eq.2 ht
        have ht2 : (b.told != (b.es.length : Int)) = false := by rw [bne, ht1]; rfl
        have hx : Bk.head L b now = (((Bk.signC L b ⟨1, b.es.length, now, []⟩).1, 0), (Bk.signC L b ⟨1, b.es.length, now, []⟩).2, { b with last := now, told := b.es.length }) := by rw [hx1.out, if_neg (by omega)]
        rw [hx]
        clear hx he ht
        go_enter Tryz.func124, Tryz.ntmps124
        go_wp2_with fail
        refine wp_region_nw (by kernel_rfl) (by kernel_rfl) ?_
        repeat (go_big_quiet_step ((fail)))
        refine wpQuiet_nil ?_
        intro w2 u2
        replace u2 := later_out u2
        have K2 := Lib.hid (u2.keep K1.out)
        have h2 := h1.nw u2
        have hr2 := (hr.nw n1).nw u2
        replace u2 := n1.trans u2
        obtain ⟨hr3, h3, u3⟩ := head_set hr2 h2 hd h0 hmax
        have e2 : w2.cell? ⟨br.bb, 2, none⟩ = some (.slice a b.es.length cap) := by rw [h2.cells.2.2.1, Hev.out]
        have e4 : ∃ v, w2.cell? ⟨br.bb, 4, none⟩ = some v := ⟨_, h2.cells.2.2.2.2.1⟩
        have e5 : ∃ v, w2.cell? ⟨br.bb, 5, none⟩ = some v := ⟨_, h2.cells.2.2.2.2.2.1⟩
        have e6 : ∃ v, w2.cell? ⟨br.bb, 6, none⟩ = some v := ⟨_, h2.cells.2.2.2.2.2.2⟩
        obtain ⟨v4, e4⟩ := e4
        obtain ⟨v5, e5⟩ := e5
        obtain ⟨v6, e6⟩ := e6
        have g4 := cells_frozen h2.blk 4
        have g5 := cells_frozen h2.blk 5
        have g6 := cells_frozen h2.blk 6
        have K3 := Lib.hid (u3.keep K2.out (fun e => by have := lt_of_block h.blk; omega))
        have Hr3 := Lib.hid hr3
        have H3 := Lib.hid h3
        have U3 := Lib.hid u3
        clear hr3 h3 u3
        go_wp2_with fail
        generalize ((w2.setCell ⟨br.bb, 4, none⟩ (.bool true)).setCell ⟨br.bb, 5, none⟩ (.int .i64 now)).setCell ⟨br.bb, 6, none⟩ (.int .i64 b.es.length) = w3 at *
        (with_reducible refine (sign_b B r br L { b with last := now, told := b.es.length } ⟨1, b.es.length, now, []⟩ _ ((g.upd u2).upd U3.out) Hr3.out H3.out (by have := u2.size; have := U3.out.size; omega) (ic_head hmax h0 h.len) hL).mono ?_)
        rintro _ w4 ⟨r', rfl, hr4, hrb, u4, hf4⟩
        rw [show Bk.signC L { b with last := now, told := b.es.length } ⟨1, b.es.length, now, []⟩ = Bk.signC L b ⟨1, b.es.length, now, []⟩ from rfl] at hr4 ⊢
        have hfin := fun v0 v1 v2 x0 => head_end (x0 := x0) (v0 := v0) (v1 := v1) (v2 := v2) hgb hrb hr4 H3.out hd (fun j hj => (hr.foot_lt hj).2) (fun j hj => (h.foot_lt hj).2) u2 U3.out u4 hf4 (lt_of_block K3.out)
        have Hfin := Lib.hid hfin
        clear hfin
        generalize Bk.signC L b ⟨1, b.es.length, now, []⟩ = sg at *
        obtain ⟨⟨sk, st, sm⟩, L'⟩ := sg
        dsimp only [sgnV]
        have k4 := u4.keep K3.out (fun e => by have := (hr.foot_lt e).2; omega)
        have K4 := Lib.hid k4
        have d0 := cells_frozen k4 0
        have d1 := cells_frozen k4 1
        have d2 := cells_frozen k4 2
        obtain ⟨_, _, _⟩ := cell3 k4
        clear k4 e2 e4 e5 e6 g4 g5 g6
        go_wp2_with fail
        (try simp only [Exit.inBlock, Exit.then])
        exact bodyPost_ret (headb_results (set3 K4.out) rfl) rfl (Hfin.out _ _ _ ((⟨sk, st, sm⟩, 0), L', { b with last := now, told := b.es.length }) rfl rfl)
      · have ht1 : (b.told == (b.es.length : Int)) = false := beq_eq_false_iff_ne.2 ht
        have ht2 : (b.told != (b.es.length : Int)) = true := by rw [bne, ht1]; rfl
        have hx : Hid (Bk.head L b now = ((Bk.noSgn, 7), L, b)) := by show _ = _; rw [hx1.out, if_pos (Or.inr ⟨he, ht⟩)]
        clear he ht
        go_enter Tryz.func124, Tryz.ntmps124
        go_wp2_with fail
        refine wp_region_nw (by kernel_rfl) (by kernel_rfl) ?_
        repeat (go_big_quiet_step ((fail)))
        refine wpQuiet_nil ?_
        intro w2 u2
        replace u2 := later_out u2
        have K2 := Lib.hid (u2.keep K1.out)
        have h2 := h1.nw u2
        have hr2 := (hr.nw n1).nw u2
        replace u2 := n1.trans u2
        have d0 := cells_frozen K2.out 0
        have d1 := cells_frozen K2.out 1
        have d2 := cells_frozen K2.out 2
        obtain ⟨_, _, _⟩ := cell3 K2.out
        clear l2 l4 l5 l6
        go_wp2_with fail
        (try simp only [Exit.inBlock, Exit.then])
        rw [hx.out]
        exact bodyPost_ret (headb_results (set3 K2.out) rfl) rfl (head_end (x0 := ((Bk.noSgn, 7), L, b)) hgb rfl hr2 h2 hd (fun j hj => (hr.foot_lt hj).2) (fun j hj => (h.foot_lt hj).2) u2 (Upd.refl _ _) (Upd.refl _ _) (fun j hj => Or.inl hj) (lt_of_block K2.out) rfl rfl)
    · have he1 : (b.last == now) = false := beq_eq_false_iff_ne.2 he
      have hx : Bk.head L b now = (((Bk.signC L b ⟨1, b.es.length, now, []⟩).1, 0), (Bk.signC L b ⟨1, b.es.length, now, []⟩).2, { b with last := now, told := b.es.length }) := by rw [hx1.out, if_neg (by omega)]
      rw [hx]
      clear hx
      go_enter Tryz.func124, Tryz.ntmps124
      go_wp2_with fail
      refine wp_region_nw (by kernel_rfl) (by kernel_rfl) ?_
      repeat (go_big_quiet_step ((fail)))
      refine wpQuiet_nil ?_
      intro w2 u2
      replace u2 := later_out u2
      have K2 := Lib.hid (u2.keep K1.out)
      have h2 := h1.nw u2
      have hr2 := (hr.nw n1).nw u2
      replace u2 := n1.trans u2
      obtain ⟨hr3, h3, u3⟩ := head_set hr2 h2 hd h0 hmax
      have e2 : w2.cell? ⟨br.bb, 2, none⟩ = some (.slice a b.es.length cap) := by rw [h2.cells.2.2.1, Hev.out]
      have e4 : ∃ v, w2.cell? ⟨br.bb, 4, none⟩ = some v := ⟨_, h2.cells.2.2.2.2.1⟩
      have e5 : ∃ v, w2.cell? ⟨br.bb, 5, none⟩ = some v := ⟨_, h2.cells.2.2.2.2.2.1⟩
      have e6 : ∃ v, w2.cell? ⟨br.bb, 6, none⟩ = some v := ⟨_, h2.cells.2.2.2.2.2.2⟩
      obtain ⟨v4, e4⟩ := e4
      obtain ⟨v5, e5⟩ := e5
      obtain ⟨v6, e6⟩ := e6
      have g4 := cells_frozen h2.blk 4
      have g5 := cells_frozen h2.blk 5
      have g6 := cells_frozen h2.blk 6
      have K3 := Lib.hid (u3.keep K2.out (fun e => by have := lt_of_block h.blk; omega))
      have Hr3 := Lib.hid hr3
      have H3 := Lib.hid h3
      have U3 := Lib.hid u3
      clear hr3 h3 u3
      go_wp2_with fail
      generalize ((w2.setCell ⟨br.bb, 4, none⟩ (.bool true)).setCell ⟨br.bb, 5, none⟩ (.int .i64 now)).setCell ⟨br.bb, 6, none⟩ (.int .i64 b.es.length) = w3 at *
      (with_reducible refine (sign_b B r br L { b with last := now, told := b.es.length } ⟨1, b.es.length, now, []⟩ _ ((g.upd u2).upd U3.out) Hr3.out H3.out (by have := u2.size; have := U3.out.size; omega) (ic_head hmax h0 h.len) hL).mono ?_)
      rintro _ w4 ⟨r', rfl, hr4, hrb, u4, hf4⟩
      rw [show Bk.signC L { b with last := now, told := b.es.length } ⟨1, b.es.length, now, []⟩ = Bk.signC L b ⟨1, b.es.length, now, []⟩ from rfl] at hr4 ⊢
      have hfin := fun v0 v1 v2 x0 => head_end (x0 := x0) (v0 := v0) (v1 := v1) (v2 := v2) hgb hrb hr4 H3.out hd (fun j hj => (hr.foot_lt hj).2) (fun j hj => (h.foot_lt hj).2) u2 U3.out u4 hf4 (lt_of_block K3.out)
      have Hfin := Lib.hid hfin
      clear hfin
      generalize Bk.signC L b ⟨1, b.es.length, now, []⟩ = sg at *
      obtain ⟨⟨sk, st, sm⟩, L'⟩ := sg
      dsimp only [sgnV]
      have k4 := u4.keep K3.out (fun e => by have := (hr.foot_lt e).2; omega)
      have K4 := Lib.hid k4
      have d0 := cells_frozen k4 0
      have d1 := cells_frozen k4 1
      have d2 := cells_frozen k4 2
      obtain ⟨_, _, _⟩ := cell3 k4
      clear k4 e2 e4 e5 e6 g4 g5 g6
      go_wp2_with fail
      (try simp only [Exit.inBlock, Exit.then])
      exact bodyPost_ret (headb_results (set3 K4.out) rfl) rfl (Hfin.out _ _ _ ((⟨sk, st, sm⟩, 0), L', { b with last := now, told := b.es.length }) rfl rfl)
end Go.Proofs.YtagmlemlagbfkaaGreatDoor
namespace Go.Proofs.YtagmlemlagbfkaaGreatDoor
open Go.RowKit
set_option linter.unusedVariables false
set_option linter.unusedSimpArgs false
attribute [local irreducible] Calls

namespace Bk
structure St where
  L : List Seal
  b : Book
end Bk
/-- A ring and a book that signs into it, apart from one another. -/
structure Both (B : Nat) (w : World) (r : RingR) (br : BookR) (x : Bk.St) : Prop where
  ring : RingAt B w r x.L
  book : BookAt B w br r.rb x.b
  dis : ∀ k, r.foot k → ¬ br.foot k
theorem Both.upd {B : Nat} {S : Nat → Prop} {w w' : World} {r : RingR} {br : BookR} {x : Bk.St} (h : Both B w r br x) (u : Upd S w w') (h1 : ∀ k, r.foot k → ¬ S k) (h2 : ∀ k, br.foot k → ¬ S k) : Both B w' r br x :=
  ⟨h.ring.upd u h1, h.book.upd u h2, h.dis⟩
theorem Both.nw {B : Nat} {w w' : World} {r : RingR} {br : BookR} {x : Bk.St} (h : Both B w r br x) (u : Nw w w') : Both B w' r br x := h.upd u (fun _ _ s => s) (fun _ _ s => s)
/-- What an operation leaves: a ring r', a book br', with the contents x'. -/
structure Moved (B : Nat) (r : RingR) (br : BookR) (x' : Bk.St) (w w' : World) (r' : RingR) (br' : BookR) : Prop where
  both : Both B w' r' br' x'
  rb : r'.rb = r.rb
  bb : br'.bb = br.bb
  upd : Upd (fun k => r.foot k ∨ br.foot k) w w'
  f1 : ∀ j, r'.foot j → r.foot j ∨ w.heap.size ≤ j
  f2 : ∀ j, br'.foot j → br.foot j ∨ w.heap.size ≤ j
theorem moved_sgn {B : Nat} {r r' : RingR} {br : BookR} {x : Bk.St} {L' : List Bk.Seal} {w w' : World} (h : Both B w r br x) (hr : RingAt B w' r' L') (hrb : r'.rb = r.rb) (u : Upd r.foot w w') (hf : ∀ j, r'.foot j → r.foot j ∨ w.heap.size ≤ j) : Moved B r br ⟨L', x.b⟩ w w' r' br :=
  ⟨⟨hr, by rw [hrb]; exact h.book.upd u (fun k hk e => h.dis k e hk), fun k hk e => by
    rcases hf k hk with h2 | h2
    · exact h.dis k h2 e
    · have := (h.book.foot_lt e).2; omega⟩, hrb, rfl, u.mono (fun k _ e => Or.inl e), hf, fun j hj => Or.inl hj⟩
theorem moved_app {B : Nat} {r : RingR} {br br' : BookR} {x : Bk.St} {b' : Bk.Book} {w w' : World} (h : Both B w r br x) (hb : BookAt B w' br' r.rb b') (hbb : br'.bb = br.bb) (u : Upd br.foot w w') (hf : ∀ j, br'.foot j → br.foot j ∨ w.heap.size ≤ j) : Moved B r br ⟨x.L, b'⟩ w w' r br' :=
  ⟨⟨h.ring.upd u (fun k hk e => h.dis k hk e), hb, fun k hk e => by
    rcases hf k e with h2 | h2
    · exact h.dis k hk h2
    · have := (h.ring.foot_lt hk).2; omega⟩, rfl, hbb, u.mono (fun k _ e => Or.inr e), fun j hj => Or.inl hj, hf⟩
theorem moved_head {B : Nat} {r r' : RingR} {br : BookR} {x x' : Bk.St} {w w' : World} (h : Both B w r br x) (hr : RingAt B w' r' x'.L) (hb : BookAt B w' br r.rb x'.b) (hrb : r'.rb = r.rb) (u : Upd (fun k => r.foot k ∨ k = br.bb) w w') (hf : ∀ j, r'.foot j → r.foot j ∨ w.heap.size ≤ j) : Moved B r br x' w w' r' br :=
  ⟨⟨hr, by rw [hrb]; exact hb, fun k hk e => by
    rcases hf k hk with h2 | h2
    · exact h.dis k h2 e
    · have := (h.book.foot_lt e).2; omega⟩, hrb, rfl, u.mono (fun k _ e => e.imp id (fun e => Or.inl e)), hf, fun j hj => Or.inl hj⟩
end Go.Proofs.YtagmlemlagbfkaaGreatDoor
