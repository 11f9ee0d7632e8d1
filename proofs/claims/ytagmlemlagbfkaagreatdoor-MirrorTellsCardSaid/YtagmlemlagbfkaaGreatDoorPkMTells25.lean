/- The reference's book (layer 7): the contract of sign. The reference's book (layer 7): the contracts of Entry and Absent. The reference's book (layer 7): the contract of Head. The contract of ladinglaw07's did: an operation on the reference's book. -/
import Derived.Test.YtagmlemlagbfkaaGreatDoorPkMTells24
namespace Go.Proofs.YtagmlemlagbfkaaGreatDoor
open Go.RowKit
set_option linter.unusedVariables false
set_option linter.unusedSimpArgs false
attribute [local irreducible] Calls

theorem qsignb_results {w : World} {bp : Nat} {tmps : Array Value} {v0 v1 v2 : Value} {T : TypeId} {fz : Nat × Nat} (h : w.heap[bp]? = some (.cells #[v0, v1, v2] T fz)) (ht : tmps.getD 4 undef = .pointer (some ⟨bp, 0, none⟩)) :
    (results Tryz.f140 tmps).run Tryz.prog w = .ok (.agg #[v0, v1, v2]) w := by
  have c0 : w.cell? ⟨bp, 0, none⟩ = some v0 := by rw [cells_cell h]; rfl
  have c1 : w.cell? ⟨bp, 1, none⟩ = some v1 := by rw [cells_cell h]; rfl
  have c2 : w.cell? ⟨bp, 2, none⟩ = some v2 := by rw [cells_cell h]; rfl
  clear h
  have ht2 : tmps[4]?.getD undef = .pointer (some ⟨bp, 0, none⟩) := by simpa using ht
  clear ht
  simp [results, Tryz.results140, go_sem, ht2, c0, c1, c2]
/-- The six cells that the region reads. -/
def SixAt (cb qb p : Nat) (key : Int) (cl : Cl.Clm) (w : World) : Prop :=
  w.cell? ⟨cb, 0, none⟩ = some (.pointer (some ⟨qb, 0, none⟩)) ∧ w.cell? ⟨cb, 1, none⟩ = some (.int .i64 key) ∧ w.cell? ⟨p, 0, none⟩ = some (.int .i64 cl.kind) ∧ w.cell? ⟨p, 1, none⟩ = some (.int .i64 cl.n) ∧ w.cell? ⟨p, 2, none⟩ = some (.int .i64 cl.time) ∧ w.cell? ⟨p, 3, none⟩ = some (.string ⟨cl.text.toArray⟩)
theorem sixAt {B : Nat} {c : QBook} {qb p : Nat} {b : Bk.Book} {cl : Cl.Clm} {w : World} (h : QBookAt B w c qb b) (k : w.heap[p]? = some (.cells #[.int .i64 cl.kind, .int .i64 cl.n, .int .i64 cl.time, .string ⟨cl.text.toArray⟩] tC (0, 0))) : SixAt c.cb qb p b.key cl w :=
  ⟨h.cells.1, h.cells.2.1, (one_claim k).1, (one_claim k).2.1, (one_claim k).2.2.1, (one_claim k).2.2.2⟩
theorem box_facts {w : World} {p : Nat} {v0 v1 v2 : Value} {T : TypeId} (k : w.heap[p]? = some (.cells #[v0, v1, v2] T (0, 0))) :
    w.cell? ⟨p, 0, none⟩ = some v0 ∧ w.cell? ⟨p, 1, none⟩ = some v1 ∧ w.cell? ⟨p, 2, none⟩ = some v2 ∧ w.frozen? ⟨p, 0, none⟩ = false ∧ w.frozen? ⟨p, 1, none⟩ = false ∧ w.frozen? ⟨p, 2, none⟩ = false :=
  ⟨(cell3 k).1, (cell3 k).2.1, (cell3 k).2.2, cells_frozen k 0, cells_frozen k 1, cells_frozen k 2⟩
theorem boxA {S : Nat → Prop} {W2 w3 w4 : World} {o : Obj} (v3 : Nw (W2.alloc o).drew w3) (v4 : Upd S w3 w4) (hS : ¬ S W2.heap.size) : w4.heap[W2.heap.size]? = some o :=
  v4.keep (Nw.keep (w := (W2.alloc o).drew) v3 (heap_new W2 o)) hS
theorem boxB {S : Nat → Prop} {w3 w4 : World} {o : Obj} (v4 : Upd S (w3.alloc o) w4) (hS : ¬ S w3.heap.size) : w4.heap[w3.heap.size]? = some o :=
  v4.keep (heap_new w3 o) hS
/-- What the region leaves, whichever way it went: the ring, and the variable s with the signature. -/
structure QSg (B : Nat) (q q' : QRing) (L' : List Bk.Seal) (W2 w5 : World) (p : Nat) (v0 v1 v2 : Value) : Prop where
  ring : QRingAt B w5 q' L'
  upd : Upd q.foot W2 w5
  box : w5.heap[p]? = some (.cells #[v0, v1, v2] tSigned (0, 0))
  new : ∀ j, q'.foot j → q.foot j ∨ W2.heap.size ≤ j
theorem qsg_new {B : Nat} {q q' : QRing} {L' : List Bk.Seal} {W2 z w4 : World} {v0 v1 v2 : Value} {o : Obj} (hr4 : QRingAt B w4 q' L') (u4 : Upd q.foot W2 w4) (hf : ∀ j, q'.foot j → q.foot j ∨ z.heap.size ≤ j) (hz : W2.heap.size ≤ z.heap.size) (ho : o = .cells #[v0, v1, v2] tSigned (0, 0) := by rfl) :
    QSg B q q' L' W2 (w4.alloc o) w4.heap.size v0 v1 v2 := by
  subst ho
  exact ⟨hr4.nw (nw_alloc _ _), u4.alloc _, heap_new w4 _, fun j hj => (hf j hj).imp id (fun e => by omega)⟩
theorem qsg_old {B p : Nat} {q q' : QRing} {L' : List Bk.Seal} {W2 w4 : World} {a0 a1 a2 v0 v1 v2 : Value} (hr4 : QRingAt B w4 q' L') (u4 : Upd q.foot W2 w4) (hf : ∀ j, q'.foot j → q.foot j ∨ p < j) (hz : W2.heap.size ≤ p) (hg : nG ≤ p) (hn : ¬ q.foot p) (kb : w4.heap[p]? = some (.cells #[a0, a1, a2] tSigned (0, 0))) :
    QSg B q q' L' W2 (((w4.setCell ⟨p, 0, none⟩ v0).setCell ⟨p, 1, none⟩ v1).setCell ⟨p, 2, none⟩ v2) p v0 v1 v2 := by
  have z : Upd (fun x => x = p) w4 (((w4.setCell ⟨p, 0, none⟩ v0).setCell ⟨p, 1, none⟩ v1).setCell ⟨p, 2, none⟩ v2) := Upd.set1 (Upd.set1 (Upd.set1 (Upd.refl _ _) hg 0 _) hg 1 _) hg 2 _
  refine ⟨hr4.upd z (fun j hj e => ?_), u4.trans' z (fun j hj e => by omega), set3 kb, fun j hj => (hf j hj).imp id (fun e => by omega)⟩
  subst e
  rcases hf j hj with e | e
  · exact hn e
  · omega
set_option maxHeartbeats 2000000 in
set_option maxRecDepth 100000 in
theorem signb_q (B : Nat) (q : QRing) (c : QBook) (L : List Bk.Seal) (b : Bk.Book) (cl : Cl.Clm) (w : World) (g : Gl w) (hr : QRingAt B w q L) (h : QBookAt B w c q.qb b) (hd : ∀ k, q.foot k → ¬ c.foot k) (hB : B ≤ w.heap.size) (ic : I64C cl) (hL : L.length ≤ 1000000) :
    Calls Tryz.prog 140 #[.pointer (some ⟨c.cb, 0, none⟩), .agg #[.int .i64 cl.kind, .int .i64 cl.n, .int .i64 cl.time, .string ⟨cl.text.toArray⟩]] w (QSignPost B q (sgnV (Bk.signC L b cl).1) (Bk.signC L b cl).2 w) := by
  have n1 := nw_alloc w (.cells #[.int .i64 cl.kind, .int .i64 cl.n, .int .i64 cl.time, .string ⟨cl.text.toArray⟩] tC)
  have k1 := heap_new w (.cells #[.int .i64 cl.kind, .int .i64 cl.n, .int .i64 cl.time, .string ⟨cl.text.toArray⟩] tC)
  have n2 := nw_alloc (w.alloc (.cells #[.int .i64 cl.kind, .int .i64 cl.n, .int .i64 cl.time, .string ⟨cl.text.toArray⟩] tC)) (.cells #[.int .i64 0, .string ⟨#[]⟩, .int .i64 0] tSigned)
  have k2 := heap_new (w.alloc (.cells #[.int .i64 cl.kind, .int .i64 cl.n, .int .i64 cl.time, .string ⟨cl.text.toArray⟩] tC)) (.cells #[.int .i64 0, .string ⟨#[]⟩, .int .i64 0] tSigned)
  replace k1 := Nw.keep n2 k1
  have u2 := n1.trans n2
  rw [show (w.alloc (.cells #[.int .i64 cl.kind, .int .i64 cl.n, .int .i64 cl.time, .string ⟨cl.text.toArray⟩] tC)).heap.size = w.heap.size + 1 by simp] at k2
  obtain ⟨W2, hW2⟩ : ∃ W2, (w.alloc (.cells #[.int .i64 cl.kind, .int .i64 cl.n, .int .i64 cl.time, .string ⟨cl.text.toArray⟩] tC)).alloc (.cells #[.int .i64 0, .string ⟨#[]⟩, .int .i64 0] tSigned) = W2 := ⟨_, rfl⟩
  rw [hW2] at k1 k2 u2
  have HW2 := Lib.hid hW2; clear hW2
  have h2 := h.nw u2
  have hr2 := hr.nw u2
  have g2 := g.upd u2
  have hgb := g.big
  have K2 := Lib.hid k2
  have K1 := Lib.hid k1
  have six := sixAt h2 k1
  have Six := Lib.hid six
  unfold SixAt at six
  obtain ⟨_, _, _, _, _, _⟩ := six
  clear k1 k2 n1 n2
  have q0 := ctext_q cl _ (bs_list _) ic
  have hl := text_len cl ic
  have hkey := h.key
  have hs : Bk.signC L b cl = Bk.sign L b.key (Cl.text cl) := rfl
  rw [hs]
  generalize Cl.text cl = T at *
  have Q := Lib.hid q0; clear q0 hs
  go_enter Tryz.func140, Tryz.ntmps140
  go_wp2_with fail
  rw [HW2.out]
  go_wp2_with fail
  have hlt : ∀ j, q.foot j → j < w.heap.size := fun j hj => (hr.foot_lt hj).2
  have hs2 : w.heap.size + 1 < W2.heap.size := lt_of_block K2.out
  have sixG : ∀ z, Upd q.foot W2 z → z.cell? ⟨c.cb, 0, none⟩ = some (.pointer (some ⟨q.qb, 0, none⟩)) ∧ z.cell? ⟨c.cb, 1, none⟩ = some (.int .i64 b.key) ∧ z.cell? ⟨w.heap.size, 0, none⟩ = some (.int .i64 cl.kind) ∧ z.cell? ⟨w.heap.size, 1, none⟩ = some (.int .i64 cl.n) ∧ z.cell? ⟨w.heap.size, 2, none⟩ = some (.int .i64 cl.time) ∧ z.cell? ⟨w.heap.size, 3, none⟩ = some (.string ⟨cl.text.toArray⟩) := fun z u =>
    sixAt (h2.upd u (fun k hk e => hd k e hk)) (u.keep K1.out (fun e => by have := hlt _ e; omega))
  have textF : ∀ z, Nw W2 z → Calls Tryz.prog 189 #[.agg #[.int .i64 cl.kind, .int .i64 cl.n, .int .i64 cl.time, .string ⟨cl.text.toArray⟩]] z fun e w3 => e = .returned (.string ⟨T.toArray⟩) ∧ Nw W2 w3 ∧ Nw z w3 := fun z u => (Q.out z (g2.upd u)).mono fun e w3 ⟨he, hu⟩ => ⟨he, u.trans hu, hu⟩
  have signF : ∀ z, Nw W2 z → Calls Tryz.prog 188 #[.pointer (some ⟨q.qb, 0, none⟩), .int .i64 b.key, .string ⟨T.toArray⟩] z fun e w4 => ∃ q', e = .returned (sgnV (Bk.sign L b.key T).1) ∧ QRingAt B w4 q' (Bk.sign L b.key T).2 ∧ q'.qb = q.qb ∧ Upd q.foot W2 w4 ∧ Upd q.foot z w4 ∧ ∀ j, q'.foot j → q.foot j ∨ z.heap.size ≤ j := fun z u =>
    (sign_q B q L b.key T z (g2.upd u) (hr2.nw u) (by unfold I64; omega) (by omega) hL (by have := u2.size; have := u.size; omega)).mono fun e w4 ⟨q', he, h1, h2, h3, h4⟩ => ⟨q', he, h1, h2, (Nw.upd _ u).trans h3, h3, h4⟩
  have hgA : nG ≤ W2.heap.size := by omega
  have hgb2 : nG ≤ w.heap.size := hgb
  have hnf : ¬ q.foot W2.heap.size := fun e => by have := hlt _ e; omega
  have hnf3 : ∀ {z : World}, Nw W2 z → ¬ q.foot z.heap.size := fun u e => by have := hlt _ e; have := u.size; omega
  have SixG := Lib.hid sixG
  have TextF := Lib.hid textF
  have SignF := Lib.hid signF
  clear sixG textF signF
  generalize Bk.sign L b.key T = sg at *
  obtain ⟨⟨sk, st, sm⟩, L'⟩ := sg
  dsimp only [sgnV] at SignF ⊢
  go_region_held3 (fun z => z.cell? ⟨c.cb, 0, none⟩ = some (.pointer (some ⟨q.qb, 0, none⟩)) ∧ z.cell? ⟨c.cb, 1, none⟩ = some (.int .i64 b.key) ∧ z.cell? ⟨w.heap.size, 0, none⟩ = some (.int .i64 cl.kind) ∧ z.cell? ⟨w.heap.size, 1, none⟩ = some (.int .i64 cl.n) ∧ z.cell? ⟨w.heap.size, 2, none⟩ = some (.int .i64 cl.time) ∧ z.cell? ⟨w.heap.size, 3, none⟩ = some (.string ⟨cl.text.toArray⟩)) (first | exact SixG.out _ (set3_upd u4 (Nat.le_refl _) hgA _ _ _) | exact SixG.out _ (set3_upd u4 u3.size (Nat.le_trans hgA u3.size) _ _ _) | exact SixG.out _ (by assumption) | exact SixG.out _ (Nw.upd _ (by assumption)) | exact SixG.out _ (Upd.alloc (by assumption) _) | exact SixG.out _ (Nw.upd _ (Upd.alloc (by assumption) _)) | exact SixG.out _ (Upd.refl _ _).drew | exact SixG.out _ ((Upd.refl _ _).alloc _).drew) (first | (go_at_call 189; (with_reducible refine (TextF.out _ (by first | exact (Upd.refl _ _).drew | exact ((Upd.refl _ _).alloc _).drew)).mono ?_); rintro _ w3 ⟨rfl, u3, v3⟩) | (go_at_call 188; (with_reducible refine (SignF.out _ (by first | exact u3 | exact u3.alloc _)).mono ?_); rintro _ w4 ⟨q', rfl, hr4, hrb, u4, v4, hf4⟩; (first | (have kb := boxA v3 v4 hnf; obtain ⟨_, _, _, _, _, _⟩ := box_facts kb) | (have kb := boxB v4 (hnf3 u3); obtain ⟨_, _, _, _, _, _⟩ := box_facts kb) | skip)))
  · have F := qsg_new (o := .cells #[.int .i64 sk, .string ⟨st.toArray⟩, .int .i64 sm] tSigned) hr4 u4 hf4 u3.size
    generalize w4.alloc (.cells #[.int .i64 sk, .string ⟨st.toArray⟩, .int .i64 sm] tSigned) = w5 at *
    have k5 := F.upd.keep K2.out (fun e => by have := hlt _ e; omega)
    obtain ⟨_, _, _⟩ := cell3 F.box
    obtain ⟨_, _, _, _, _, _⟩ := box_facts k5
    have K5 := Lib.hid k5
    have HF := Lib.hid F
    clear F k5
    go_wp2_with fail
    (try simp only [Exit.inBlock, Exit.then])
    exact bodyPost_ret (qsignb_results (set3 K5.out) rfl) rfl (qsgn_end hgb2 hrb HF.out.ring hlt u2 HF.out.upd HF.out.new (Nat.le_succ _) hs2 _ _ _ _)
  · have F := qsg_old (v0 := .int .i64 sk) (v1 := .string ⟨st.toArray⟩) (v2 := .int .i64 sm) hr4 u4 (fun j hj => (hf4 j hj).imp id (fun e => by simp at e; omega)) u3.size (Nat.le_trans hgA u3.size) (hnf3 u3) kb
    generalize ((w4.setCell ⟨w3.heap.size, 0, none⟩ (.int .i64 sk)).setCell ⟨w3.heap.size, 1, none⟩ (.string ⟨st.toArray⟩)).setCell ⟨w3.heap.size, 2, none⟩ (.int .i64 sm) = w5 at *
    have k5 := F.upd.keep K2.out (fun e => by have := hlt _ e; omega)
    obtain ⟨_, _, _⟩ := cell3 F.box
    obtain ⟨_, _, _, _, _, _⟩ := box_facts k5
    have K5 := Lib.hid k5
    have HF := Lib.hid F
    clear F k5
    go_wp2_with fail
    (try simp only [Exit.inBlock, Exit.then])
    exact bodyPost_ret (qsignb_results (set3 K5.out) rfl) rfl (qsgn_end hgb2 hrb HF.out.ring hlt u2 HF.out.upd HF.out.new (Nat.le_succ _) hs2 _ _ _ _)
  · have F := qsg_old (v0 := .int .i64 sk) (v1 := .string ⟨st.toArray⟩) (v2 := .int .i64 sm) hr4 u4 (fun j hj => (hf4 j hj).imp id (fun e => by have h3 := v3.size; change (W2.alloc _).heap.size ≤ _ at h3; simp at h3; omega)) (Nat.le_refl _) hgA hnf kb
    generalize ((w4.setCell ⟨W2.heap.size, 0, none⟩ (.int .i64 sk)).setCell ⟨W2.heap.size, 1, none⟩ (.string ⟨st.toArray⟩)).setCell ⟨W2.heap.size, 2, none⟩ (.int .i64 sm) = w5 at *
    have k5 := F.upd.keep K2.out (fun e => by have := hlt _ e; omega)
    obtain ⟨_, _, _⟩ := cell3 F.box
    obtain ⟨_, _, _, _, _, _⟩ := box_facts k5
    have K5 := Lib.hid k5
    have HF := Lib.hid F
    clear F k5
    go_wp2_with fail
    (try simp only [Exit.inBlock, Exit.then])
    exact bodyPost_ret (qsignb_results (set3 K5.out) rfl) rfl (qsgn_end hgb2 hrb HF.out.ring hlt u2 HF.out.upd HF.out.new (Nat.le_succ _) hs2 _ _ _ _)
end Go.Proofs.YtagmlemlagbfkaaGreatDoor
namespace Go.Proofs.YtagmlemlagbfkaaGreatDoor
open Go.RowKit
set_option linter.unusedVariables false
set_option linter.unusedSimpArgs false
attribute [local irreducible] Calls

theorem entryq_results {w : World} {bp : Nat} {tmps : Array Value} {v0 v1 v2 : Value} {T : TypeId} {fz : Nat × Nat} (h : w.heap[bp]? = some (.cells #[v0, v1, v2] T fz)) (ht : tmps.getD 4 undef = .pointer (some ⟨bp, 0, none⟩)) :
    (results Tryz.f86 tmps).run Tryz.prog w = .ok (.tuple #[.agg #[v0, v1, v2], tmps.getD 5 undef]) w := by
  have c0 : w.cell? ⟨bp, 0, none⟩ = some v0 := by rw [cells_cell h]; rfl
  have c1 : w.cell? ⟨bp, 1, none⟩ = some v1 := by rw [cells_cell h]; rfl
  have c2 : w.cell? ⟨bp, 2, none⟩ = some v2 := by rw [cells_cell h]; rfl
  clear h
  have ht2 : tmps[4]?.getD undef = .pointer (some ⟨bp, 0, none⟩) := by simpa using ht
  clear ht
  simp [results, Tryz.results86, go_sem, ht2, c0, c1, c2]
theorem absentq_results {w : World} {bp : Nat} {tmps : Array Value} {v0 v1 v2 : Value} {T : TypeId} {fz : Nat × Nat} (h : w.heap[bp]? = some (.cells #[v0, v1, v2] T fz)) (ht : tmps.getD 6 undef = .pointer (some ⟨bp, 0, none⟩)) :
    (results Tryz.f87 tmps).run Tryz.prog w = .ok (.tuple #[.agg #[v0, v1, v2], tmps.getD 7 undef]) w := by
  have c0 : w.cell? ⟨bp, 0, none⟩ = some v0 := by rw [cells_cell h]; rfl
  have c1 : w.cell? ⟨bp, 1, none⟩ = some v1 := by rw [cells_cell h]; rfl
  have c2 : w.cell? ⟨bp, 2, none⟩ = some v2 := by rw [cells_cell h]; rfl
  clear h
  have ht2 : tmps[6]?.getD undef = .pointer (some ⟨bp, 0, none⟩) := by simpa using ht
  clear ht
  simp [results, Tryz.results87, go_sem, ht2, c0, c1, c2]
set_option maxHeartbeats 2000000 in
set_option maxRecDepth 100000 in
theorem entry_q (B : Nat) (q : QRing) (c : QBook) (L : List Bk.Seal) (b : Bk.Book) (i : Int) (w : World) (g : Gl w) (hr : QRingAt B w q L) (h : QBookAt B w c q.qb b) (hd : ∀ k, q.foot k → ¬ c.foot k) (hB : B ≤ w.heap.size) (hi : I64 i) (hL : L.length ≤ 1000000) :
    Calls Tryz.prog 86 #[.pointer (some ⟨c.cb, 0, none⟩), .int .i64 i] w (QSignPost B q (.tuple #[sgnV (Bk.entry L b i).1.1, .int .i64 (Bk.entry L b i).1.2]) (Bk.entry L b i).2 w) := by
  have n1 := nw_alloc w (.cells #[.int .i64 0, .string ⟨#[]⟩, .int .i64 0] tSigned)
  have k1 := heap_new w (.cells #[.int .i64 0, .string ⟨#[]⟩, .int .i64 0] tSigned)
  have h1 := h.nw n1
  have hr1 := hr.nw n1
  have hgb := g.big
  have f0 := cells_frozen k1 0
  have f1 := cells_frozen k1 1
  have f2 := cells_frozen k1 2
  obtain ⟨_, _, _⟩ := cell3 k1
  have K1 := Lib.hid k1; clear k1
  have hlt : ∀ j, q.foot j → j < w.heap.size := fun j hj => (hr.foot_lt hj).2
  obtain ⟨a, cap, hev⟩ := h.slice
  have c2 := h1.cells.2.2.1
  rw [hev] at c2
  by_cases hc : i < 0
  · have hx : Hid (Bk.entry L b i = ((Bk.noSgn, 4), L)) := by show _ = _; unfold Bk.entry; rw [if_pos (Or.inl hc)]
    go_enter Tryz.func86, Tryz.ntmps86
    go_wp2_with fail
    (try simp only [Exit.inBlock, Exit.then])
    rw [hx.out]
    exact bodyPost_ret (entryq_results K1.out rfl) rfl (qsgn_none hr1 rfl n1)
  by_cases hc2 : (b.es.length : Int) ≤ i
  · have hx : Hid (Bk.entry L b i = ((Bk.noSgn, 4), L)) := by show _ = _; unfold Bk.entry; rw [if_pos (Or.inr hc2)]
    go_enter Tryz.func86, Tryz.ntmps86
    go_wp2_with fail
    (try simp only [Exit.inBlock, Exit.then])
    rw [hx.out]
    exact bodyPost_ret (entryq_results K1.out rfl) rfl (qsgn_none hr1 rfl n1)
  obtain ⟨n, rfl⟩ := Int.eq_ofNat_of_zero_le (show 0 ≤ i by omega)
  have hn : n < b.es.length := by omega
  have hx : Bk.entry L b n = (((Bk.signC L b ⟨0, n, 0, b.es[n]⟩).1, 0), (Bk.signC L b ⟨0, n, 0, b.es[n]⟩).2) := by
    unfold Bk.entry
    rw [if_neg (by omega), Int.toNat_natCast, List.getD_eq_getElem?_getD, List.getElem?_eq_getElem hn]; rfl
  have hk := (h.keys _ (List.getElem_mem hn)).2
  have hsl := Sl.of_owns h1.own
  rw [hev] at hsl
  rcases hsl with ⟨_, _, _, hnil⟩ | ⟨bl, off, cap2, he, _, _, _, _, _, hce⟩
  · rw [List.map_eq_nil_iff] at hnil; rw [hnil] at hn; simp at hn
  have hcn := hce n (by simpa using hn)
  rw [show (b.es.map strB)[n]? = some (.string ⟨b.es[n].toArray⟩) by simp [hn, strB]] at hcn
  obtain ⟨rfl, rfl⟩ : a = some ⟨bl, off, none⟩ ∧ cap = cap2 := by simpa using he
  rw [hx]
  dsimp only
  have ic : I64C ⟨0, n, 0, b.es[n]⟩ := ⟨by show I64 0; unfold I64; omega, hi, by show I64 0; unfold I64; omega, by show b.es[n].length ≤ _; omega⟩
  have hsg := signb_q B q c L b ⟨0, n, 0, b.es[n]⟩ _ (g.upd n1) hr1 h1 hd (Nat.le_trans hB n1.size) ic hL
  clear hce he hx
  generalize b.es[n] = x at *
  go_enter Tryz.func86, Tryz.ntmps86
  go_wp2_with fail
  (with_reducible refine (hsg).mono ?_)
  rintro _ w4 ⟨q', rfl, hr4, hrb, u4, hf4⟩
  clear hsg hcn c2
  generalize Bk.signC L b ⟨0, n, 0, x⟩ = sg at *
  obtain ⟨⟨sk, st, sm⟩, L'⟩ := sg
  unfold sgnV
  dsimp only at hr4
  dsimp only
  have k4 := u4.keep K1.out (fun e => by have := hlt _ e; omega)
  have K4 := Lib.hid k4
  obtain ⟨_, _, _, _, _, _⟩ := box_facts k4
  clear k4
  go_wp2_with fail
  (try simp only [Exit.inBlock, Exit.then])
  exact bodyPost_ret (entryq_results (set3 K4.out) rfl) rfl (qsgn_end hgb hrb hr4 hlt n1 u4 hf4 (Nat.le_refl _) (lt_of_block K1.out) _ _ _ _)
theorem absentB_take {es : List (List UInt8)} {k : List UInt8} {m n : Nat} (h : m ≤ n) (hn : n ≤ es.length) (ha : Cl.absentB es m k = false) : Cl.absentB es n k = false := by
  unfold Cl.absentB at ha ⊢
  rw [List.all_eq_false] at ha ⊢
  obtain ⟨t, ht, h2⟩ := ha
  exact ⟨t, (List.take_subset_take_left es h) ht, h2⟩
set_option maxHeartbeats 2000000 in
set_option maxRecDepth 100000 in
theorem absent_q (B : Nat) (q : QRing) (c : QBook) (L : List Bk.Seal) (b : Bk.Book) (k : List UInt8) (n : Int) (w : World) (g : Gl w) (hr : QRingAt B w q L) (h : QBookAt B w c q.qb b) (hd : ∀ k, q.foot k → ¬ c.foot k) (hB : B ≤ w.heap.size) (hn : I64 n) (hk : k.length ≤ 140737488351232) (hL : L.length ≤ 1000000) :
    Calls Tryz.prog 87 #[.pointer (some ⟨c.cb, 0, none⟩), .string ⟨k.toArray⟩, .int .i64 n] w (QSignPost B q (.tuple #[sgnV (Bk.absent L b k n).1.1, .int .i64 (Bk.absent L b k n).1.2]) (Bk.absent L b k n).2 w) := by
  have n1 := nw_alloc w (.cells #[.int .i64 0, .string ⟨#[]⟩, .int .i64 0] tSigned)
  have k1 := heap_new w (.cells #[.int .i64 0, .string ⟨#[]⟩, .int .i64 0] tSigned)
  have h1 := h.nw n1
  have hr1 := hr.nw n1
  have hgb := g.big
  have f0 := cells_frozen k1 0
  have f1 := cells_frozen k1 1
  have f2 := cells_frozen k1 2
  obtain ⟨_, _, _⟩ := cell3 k1
  have K1 := Lib.hid k1; clear k1
  have hlt : ∀ j, q.foot j → j < w.heap.size := fun j hj => (hr.foot_lt hj).2
  obtain ⟨a, cap, hev⟩ := h.slice
  have c2 := h1.cells.2.2.1
  rw [hev] at c2
  have Hev := Lib.hid hev; clear hev
  have Hlen := Lib.hid h.len
  have Hkeys := Lib.hid h.keys
  have hab : Bk.absent L b k n = (if n < 0 ∨ (b.es.length : Int) < n ∨ 20000 < k.length then ((Bk.noSgn, (1 : Int)), L)
    else if Cl.absentB b.es n.toNat k = false then ((Bk.noSgn, 5), L)
    else (((Bk.signC L b ⟨2, n, 0, k⟩).1, 0), (Bk.signC L b ⟨2, n, 0, k⟩).2) : (Bk.Sgn × Int) × List Bk.Seal) := rfl
  have Hab := Lib.hid hab; clear hab
  by_cases ha : n < 0
  · have hx : Hid (Bk.absent L b k n = ((Bk.noSgn, 1), L)) := by show _ = _; rw [Hab.out, if_pos (Or.inl ha)]
    go_enter Tryz.func87, Tryz.ntmps87
    go_wp2_with fail
    (try simp only [Exit.inBlock, Exit.then])
    rw [hx.out]
    exact bodyPost_ret (absentq_results K1.out rfl) rfl (qsgn_none hr1 rfl n1)
  by_cases hb : (b.es.length : Int) < n
  · have hx : Hid (Bk.absent L b k n = ((Bk.noSgn, 1), L)) := by show _ = _; rw [Hab.out, if_pos (Or.inr (Or.inl hb))]
    go_enter Tryz.func87, Tryz.ntmps87
    go_wp2_with fail
    (try simp only [Exit.inBlock, Exit.then])
    rw [hx.out]
    exact bodyPost_ret (absentq_results K1.out rfl) rfl (qsgn_none hr1 rfl n1)
  by_cases hc : 20000 < k.length
  · have hx : Hid (Bk.absent L b k n = ((Bk.noSgn, 1), L)) := by show _ = _; rw [Hab.out, if_pos (Or.inr (Or.inr hc))]
    go_enter Tryz.func87, Tryz.ntmps87
    go_wp2_with fail
    (try simp only [Exit.inBlock, Exit.then])
    rw [hx.out]
    exact bodyPost_ret (absentq_results K1.out rfl) rfl (qsgn_none hr1 rfl n1)
  obtain ⟨m, rfl⟩ := Int.eq_ofNat_of_zero_le (show 0 ≤ n by omega)
  have hx1 : Hid (Bk.absent L b k m = if Cl.absentB b.es m k = false then ((Bk.noSgn, 5), L) else (((Bk.signC L b ⟨2, m, 0, k⟩).1, 0), (Bk.signC L b ⟨2, m, 0, k⟩).2)) := by
    show _ = _
    rw [Hab.out, if_neg (by omega), Int.toNat_natCast]
  have ic : I64C ⟨2, m, 0, k⟩ := ⟨by show I64 2; unfold I64; omega, hn, by show I64 0; unfold I64; omega, by show k.length ≤ _; omega⟩
  have hmm : Hid (m ≤ b.es.length) := by show _ ≤ _; omega
  have hm9 : m ≤ 200000 := by have := Hlen.out; omega
  have hml : ¬ (b.es.length : Int) < (m : Int) := hb
  clear ha Hab
  go_enter Tryz.func87, Tryz.ntmps87
  go_wp2_with fail
  go_loopw [8] (fun i wr => ∃ j : Nat, j ≤ m ∧ i = .int .i64 j ∧ Hid (Cl.absentB b.es j k = true) ∧ Nw (w.alloc (.cells #[.int .i64 0, .string ⟨#[]⟩, .int .i64 0] tSigned)) wr) (fun i _ => m - (intOf i).toNat)
  case atStart => exact ⟨0, Nat.zero_le _, rfl, by show _ = _; simp [Cl.absentB], Upd.refl _ _⟩
  case round =>
    obtain ⟨j, hj, rfl, hyes, u⟩ := hrel
    have h3 := h1.nw u
    have hr3 := hr1.nw u
    have d2 := h3.cells.2.2.1
    rw [Hev.out] at d2
    have K3 := Lib.hid (u.keep K1.out)
    by_cases hlt2 : j < m
    · have hjl : j < b.es.length := Nat.lt_of_lt_of_le hlt2 hmm.out
      have hsl := Sl.of_owns h3.own
      rw [Hev.out] at hsl
      rcases hsl with ⟨_, _, _, hnil⟩ | ⟨bl, off, cap2, he, _, _, _, _, _, hce⟩
      · rw [List.map_eq_nil_iff] at hnil; rw [hnil] at hjl; simp at hjl
      have hcn := hce j (by simpa using hjl)
      rw [show (b.es.map strB)[j]? = some (.string ⟨b.es[j].toArray⟩) by simp [hjl, strB]] at hcn
      obtain ⟨rfl, rfl⟩ : a = some ⟨bl, off, none⟩ ∧ cap = cap2 := by simpa using he
      obtain ⟨hk1, hk2⟩ := Hkeys.out b.es[j] (List.getElem_mem hjl)
      have hsucc := Cl.absentB_succ b.es j k hjl
      rw [hyes.out, Bool.true_and, Cl.hasKey, hk1, Bool.true_and] at hsucc
      have Hsucc := Lib.hid hsucc
      clear hce he hsucc hk1
      generalize b.es[j] = x at *
      have hkq := key_q ⟨x.toArray⟩ x (bs_list _) (by omega) _ ((g.upd n1).upd u)
      go_wp2_with fail
      (with_reducible refine (hkq).mono ?_)
      rintro _ w5 ⟨rfl, u5⟩
      clear hkq hcn d2
      dsimp only
      generalize (Cl.key x).1 = own at *
      by_cases ho : own = k
      · have hob : (own == k) = true := beq_iff_eq.2 ho
        have hx : Hid (Bk.absent L b k m = ((Bk.noSgn, 5), L)) := by
          show _ = _
          rw [hx1.out, if_pos]
          refine absentB_take (m := j + 1) (by omega) hmm.out ?_
          rw [Hsucc.out, decide_eq_true ho]; rfl
        clear Hsucc ho
        have k5 := u5.keep K3.out
        have K5 := Lib.hid k5
        obtain ⟨_, _, _, _, _, _⟩ := box_facts k5
        clear k5
        go_wp2_with fail
        (try simp only [Exit.inBlock, Exit.then])
        rw [hx.out]
        exact bodyPost_ret (absentq_results (set3 K5.out) rfl) rfl (qsgn_end hgb rfl (hr3.nw u5) hlt ((n1.trans u).trans u5) (Upd.refl _ _) (fun j hj => Or.inl hj) (Nat.le_refl _) (lt_of_block K5.out) _ _ _ _)
      · have hob : (own == k) = false := beq_eq_false_iff_ne.2 ho
        have hnext : Hid (Cl.absentB b.es (j + 1) k = true) := by show _ = _; rw [Hsucc.out, decide_eq_false ho]; rfl
        clear Hsucc ho
        go_wp2_with fail
        go_roundw
        case rel => exact ⟨j + 1, by omega, by go_num, hnext, u.trans u5⟩
        case measure => simp [intOf]; omega
    · have hjm : j = m := by omega
      subst hjm
      have hx : Bk.absent L b k j = (((Bk.signC L b ⟨2, j, 0, k⟩).1, 0), (Bk.signC L b ⟨2, j, 0, k⟩).2) := by rw [hx1.out, if_neg (by rw [hyes.out]; simp)]
      replace hx := Lib.hid hx
      clear hx1 hyes
      have hsg := signb_q B q c L b ⟨2, j, 0, k⟩ _ ((g.upd n1).upd u) hr3 h3 hd (by have := n1.size; have := u.size; omega) ic hL
      go_wp2_with fail
      (with_reducible refine (hsg).mono ?_)
      rintro _ w4 ⟨q', rfl, hr4, hrb, u4, hf4⟩
      clear hsg d2 c2
      generalize Bk.signC L b ⟨2, j, 0, k⟩ = sg at *
      obtain ⟨⟨sk, st, sm⟩, L'⟩ := sg
      unfold sgnV
      dsimp only at hr4
      dsimp only
      have k4 := u4.keep K3.out (fun e => by have := hlt _ e; omega)
      have K4 := Lib.hid k4
      obtain ⟨_, _, _, _, _, _⟩ := box_facts k4
      clear k4
      go_wp2_with fail
      (try simp only [Exit.inBlock, Exit.then])
      rw [hx.out]
      exact bodyPost_ret (absentq_results (set3 K4.out) rfl) rfl (qsgn_end hgb hrb hr4 hlt (n1.trans u) u4 hf4 (Nat.le_refl _) (lt_of_block K3.out) _ _ _ _)
end Go.Proofs.YtagmlemlagbfkaaGreatDoor
namespace Go.Proofs.YtagmlemlagbfkaaGreatDoor
open Go.RowKit
set_option linter.unusedVariables false
set_option linter.unusedSimpArgs false
attribute [local irreducible] Calls

theorem headq_results {w : World} {bp : Nat} {tmps : Array Value} {v0 v1 v2 : Value} {T : TypeId} {fz : Nat × Nat} (h : w.heap[bp]? = some (.cells #[v0, v1, v2] T fz)) (ht : tmps.getD 4 undef = .pointer (some ⟨bp, 0, none⟩)) :
    (results Tryz.f85 tmps).run Tryz.prog w = .ok (.tuple #[.agg #[v0, v1, v2], tmps.getD 5 undef]) w := by
  have c0 : w.cell? ⟨bp, 0, none⟩ = some v0 := by rw [cells_cell h]; rfl
  have c1 : w.cell? ⟨bp, 1, none⟩ = some v1 := by rw [cells_cell h]; rfl
  have c2 : w.cell? ⟨bp, 2, none⟩ = some v2 := by rw [cells_cell h]; rfl
  clear h
  have ht2 : tmps[4]?.getD undef = .pointer (some ⟨bp, 0, none⟩) := by simpa using ht
  clear ht
  simp [results, Tryz.results85, go_sem, ht2, c0, c1, c2]
def QHeadPost (B : Nat) (q : QRing) (c : QBook) (x : (Bk.Sgn × Int) × List Bk.Seal × Bk.Book) (w : World) (e : Ending) (w' : World) : Prop :=
  ∃ q', e = .returned (.tuple #[sgnV x.1.1, .int .i64 x.1.2]) ∧ QRingAt B w' q' x.2.1 ∧ q'.qb = q.qb ∧ QBookAt B w' c q.qb x.2.2 ∧ Upd (fun k => q.foot k ∨ k = c.cb) w w' ∧ ∀ j, q'.foot j → q.foot j ∨ w.heap.size ≤ j
theorem qhead_none {B : Nat} {q : QRing} {c : QBook} {L : List Bk.Seal} {b : Bk.Book} {w w1 : World} (hr1 : QRingAt B w1 q L) (h1 : QBookAt B w1 c q.qb b) {n : Int} {x : (Bk.Sgn × Int) × List Bk.Seal × Bk.Book} (hx : x = ((Bk.noSgn, n), L, b)) (u : Nw w w1) :
    QHeadPost B q c x w (.returned (.tuple #[.agg #[.int .i64 0, .string ⟨#[]⟩, .int .i64 0], .int .i64 n])) w1 := by
  subst hx
  exact ⟨q, rfl, hr1, rfl, h1, Nw.upd _ u, fun j hj => Or.inl hj⟩
/-- The book behind 'b.Last = now; b.Told = len(b.L)'. -/
theorem qhead_set {B : Nat} {q : QRing} {c : QBook} {L : List Bk.Seal} {b : Bk.Book} {w2 : World} {now : Int} (hr : QRingAt B w2 q L) (h : QBookAt B w2 c q.qb b) (hd : ∀ k, q.foot k → ¬ c.foot k) (h0 : 0 ≤ now) (h1 : now ≤ 1073741824) :
    QRingAt B ((w2.setCell ⟨c.cb, 3, none⟩ (.int .i64 now)).setCell ⟨c.cb, 4, none⟩ (.int .i64 b.es.length)) q L ∧
    QBookAt B ((w2.setCell ⟨c.cb, 3, none⟩ (.int .i64 now)).setCell ⟨c.cb, 4, none⟩ (.int .i64 b.es.length)) c q.qb { b with last := now, told := b.es.length } ∧
    Upd (fun k => k = c.cb) w2 ((w2.setCell ⟨c.cb, 3, none⟩ (.int .i64 now)).setCell ⟨c.cb, 4, none⟩ (.int .i64 b.es.length)) := by
  have hg : nG ≤ c.cb := Nat.le_trans h.hb h.cb
  have z : Upd (fun k => k = c.cb) w2 ((w2.setCell ⟨c.cb, 3, none⟩ (.int .i64 now)).setCell ⟨c.cb, 4, none⟩ (.int .i64 b.es.length)) :=
    Upd.set1 (Upd.set1 (Upd.refl _ _) hg 3 _) hg 4 _
  have hne1 : ∀ k, c.ev.ownBlock = some k → ¬ k = c.cb := by
    rintro k e rfl
    obtain ⟨_, cs, hh⟩ := own_block h.own e
    rw [h.blk] at hh
    simp [tQBook, tStr] at hh
  have hlen := h.len
  refine ⟨hr.upd z (fun k hk e => hd k hk (Or.inl e)), ⟨h.hb, h.cb, setCell_block (setCell_block h.blk 3 (.int .i64 now)) 4 (.int .i64 b.es.length), owns_upd' h.own z hne1, h.keys, h.len, ⟨by show -1 ≤ now; omega, h1⟩, ⟨by show (0 : Int) ≤ (b.es.length : Int); omega, by show (b.es.length : Int) ≤ 200000; omega⟩, h.key⟩, z⟩
theorem qhead_end {B : Nat} {q q' : QRing} {c : QBook} {L' : List Bk.Seal} {b' : Bk.Book} {w w2 w3 w4 : World} {v0 v1 v2 : Value} {x0 : (Bk.Sgn × Int) × List Bk.Seal × Bk.Book} (hgb : nG ≤ w.heap.size) (hrb : q'.qb = q.qb) (hr4 : QRingAt B w4 q' L') (h3 : QBookAt B w3 c q.qb b')
    (hd : ∀ k, q.foot k → ¬ c.foot k) (hlt : ∀ j, q.foot j → j < w.heap.size) (hlb : ∀ j, c.foot j → j < w.heap.size) (u2 : Nw w w2) (u3 : Upd (fun k => k = c.cb) w2 w3) (u4 : Upd q.foot w3 w4) (hf4 : ∀ j, q'.foot j → q.foot j ∨ w3.heap.size ≤ j) (hw3 : w.heap.size < w3.heap.size)
    (hx1 : x0.2.1 = L') (hx2 : x0.2.2 = b') :
    QHeadPost B q c x0 w (.returned (.tuple #[sgnV x0.1.1, .int .i64 x0.1.2])) (((w4.setCell ⟨w.heap.size, 0, none⟩ v0).setCell ⟨w.heap.size, 1, none⟩ v1).setCell ⟨w.heap.size, 2, none⟩ v2) := by
  have z : Upd (fun x => x = w.heap.size) w4 (((w4.setCell ⟨w.heap.size, 0, none⟩ v0).setCell ⟨w.heap.size, 1, none⟩ v1).setCell ⟨w.heap.size, 2, none⟩ v2) :=
    Upd.set1 (Upd.set1 (Upd.set1 (Upd.refl _ _) hgb 0 _) hgb 1 _) hgb 2 _
  have u04 : Upd (fun k => q.foot k ∨ k = c.cb) w w4 := ((Nw.upd _ u2).trans' u3 (fun j _ e => Or.inr e)).trans' u4 (fun j _ e => Or.inl e)
  have hj5 : ∀ j, q'.foot j → ¬ j = w.heap.size := by
    intro j hj e
    rcases hf4 j hj with e2 | e2
    · have := hlt j e2; omega
    · omega
  exact ⟨q', rfl, by rw [hx1]; exact hr4.upd z hj5, hrb, by rw [hx2]; exact (h3.upd u4 (fun k hk e => hd k e hk)).upd z (fun j hj e => by have := hlb j hj; omega), u04.trans' z (fun j hj e => by omega), fun j hj => (hf4 j hj).imp id (fun e => by omega)⟩
set_option maxHeartbeats 2000000 in
set_option maxRecDepth 100000 in
theorem head_q (B : Nat) (q : QRing) (c : QBook) (L : List Bk.Seal) (b : Bk.Book) (now : Int) (w : World) (g : Gl w) (hr : QRingAt B w q L) (h : QBookAt B w c q.qb b) (hB : B ≤ w.heap.size) (hn : I64 now) (hd : ∀ k, q.foot k → ¬ c.foot k) (hL : L.length ≤ 1000000) :
    Calls Tryz.prog 85 #[.pointer (some ⟨c.cb, 0, none⟩), .int .i64 now] w (QHeadPost B q c (Bk.head L b now) w) := by
  have n1 := nw_alloc w (.cells #[.int .i64 0, .string ⟨#[]⟩, .int .i64 0] tSigned)
  have k1 := heap_new w (.cells #[.int .i64 0, .string ⟨#[]⟩, .int .i64 0] tSigned)
  have h1 := h.nw n1
  have hgb := g.big
  obtain ⟨_, _, _, _, _, _⟩ := box_facts k1
  have K1 := Lib.hid k1; clear k1
  obtain ⟨a, cap, hev⟩ := h.slice
  have Hev := Lib.hid hev; clear hev
  have l2 : ∀ i : Later (w.alloc (.cells #[.int .i64 0, .string ⟨#[]⟩, .int .i64 0] tSigned)), i.1.cell? ⟨c.cb, 2, none⟩ = some (.slice a b.es.length cap) := fun i => by rw [(h1.nw i.nw).cells.2.2.1, Hev.out]
  have l3 := fun i : Later (w.alloc (.cells #[.int .i64 0, .string ⟨#[]⟩, .int .i64 0] tSigned)) => (h1.nw i.nw).cells.2.2.2.1
  have l4 := fun i : Later (w.alloc (.cells #[.int .i64 0, .string ⟨#[]⟩, .int .i64 0] tSigned)) => (h1.nw i.nw).cells.2.2.2.2
  have hhe : Bk.head L b now = (if now < 0 ∨ 1073741824 < now then ((Bk.noSgn, (1 : Int)), L, b)
    else if now < b.last ∨ (b.last = now ∧ b.told ≠ b.es.length) then ((Bk.noSgn, 7), L, b)
    else (((Bk.signC L b ⟨1, b.es.length, now, []⟩).1, 0), (Bk.signC L b ⟨1, b.es.length, now, []⟩).2, { b with last := now, told := b.es.length }) : (Bk.Sgn × Int) × List Bk.Seal × Bk.Book) := rfl
  have Hhe := Lib.hid hhe; clear hhe
  by_cases ha : now < 0
  · have hx : Hid (Bk.head L b now = ((Bk.noSgn, 1), L, b)) := by show _ = _; rw [Hhe.out, if_pos (Or.inl ha)]
    clear l2 l3 l4
    go_enter Tryz.func85, Tryz.ntmps85
    go_wp2_with fail
    (try simp only [Exit.inBlock, Exit.then])
    exact bodyPost_ret (headq_results K1.out rfl) rfl (qhead_none (hr.nw n1) h1 hx.out n1)
  by_cases hb : 1073741824 < now
  · have hx : Hid (Bk.head L b now = ((Bk.noSgn, 1), L, b)) := by show _ = _; rw [Hhe.out, if_pos (Or.inr hb)]
    clear l2 l3 l4
    go_enter Tryz.func85, Tryz.ntmps85
    go_wp2_with fail
    (try simp only [Exit.inBlock, Exit.then])
    exact bodyPost_ret (headq_results K1.out rfl) rfl (qhead_none (hr.nw n1) h1 hx.out n1)
  have h0 : 0 ≤ now := by omega
  have hmax : now ≤ 1073741824 := by omega
  have hx1 : Hid (Bk.head L b now = if now < b.last ∨ (b.last = now ∧ b.told ≠ b.es.length) then ((Bk.noSgn, 7), L, b)
      else (((Bk.signC L b ⟨1, b.es.length, now, []⟩).1, 0), (Bk.signC L b ⟨1, b.es.length, now, []⟩).2, { b with last := now, told := b.es.length })) := by
    show _ = _
    rw [Hhe.out, if_neg (by omega)]
  by_cases hc : now < b.last
  · have hcd : decide (now < b.last) = true := decide_eq_true hc
    have hx : Hid (Bk.head L b now = ((Bk.noSgn, 7), L, b)) := by show _ = _; rw [hx1.out, if_pos (Or.inl hc)]
    go_enter Tryz.func85, Tryz.ntmps85
    go_wp2_with fail
    refine wp_region_nw (by kernel_rfl) (by kernel_rfl) ?_
    repeat (go_big_quiet_step ((fail)))
    refine wpQuiet_nil ?_
    intro w2 u2
    replace u2 := later_out u2
    have K2 := Lib.hid (u2.keep K1.out)
    have h2 := h1.nw u2
    have hr2 := (hr.nw n1).nw u2
    replace u2 := n1.trans u2
    obtain ⟨_, _, _, _, _, _⟩ := box_facts K2.out
    clear l2 l3 l4
    go_wp2_with fail
    (try simp only [Exit.inBlock, Exit.then])
    rw [hx.out]
    exact bodyPost_ret (headq_results (set3 K2.out) rfl) rfl (qhead_end (x0 := ((Bk.noSgn, 7), L, b)) hgb rfl hr2 h2 hd (fun j hj => (hr.foot_lt hj).2) (fun j hj => (h.foot_lt hj).2) u2 (Upd.refl _ _) (Upd.refl _ _) (fun j hj => Or.inl hj) (lt_of_block K2.out) rfl rfl)
  have hcd : decide (now < b.last) = false := decide_eq_false hc
  by_cases he : b.last = now
  · have he1 : (b.last == now) = true := beq_iff_eq.2 he
    by_cases ht : b.told = b.es.length
    · have ht1 : (b.told == (b.es.length : Int)) = true := beq_iff_eq.2 ht
      have ht2 : (b.told != (b.es.length : Int)) = false := by rw [bne, ht1]; rfl
      have hx : Bk.head L b now = (((Bk.signC L b ⟨1, b.es.length, now, []⟩).1, 0), (Bk.signC L b ⟨1, b.es.length, now, []⟩).2, { b with last := now, told := b.es.length }) := by rw [hx1.out, if_neg (by omega)]
      rw [hx]
      clear hx he ht
      go_enter Tryz.func85, Tryz.ntmps85
      go_wp2_with fail
      refine wp_region_nw (by kernel_rfl) (by kernel_rfl) ?_
      repeat (go_big_quiet_step ((fail)))
      refine wpQuiet_nil ?_
      intro w2 u2
      replace u2 := later_out u2
      have K2 := Lib.hid (u2.keep K1.out)
      have h2 := h1.nw u2
      have hr2 := (hr.nw n1).nw u2
      replace u2 := n1.trans u2
      obtain ⟨hr3, h3, u3⟩ := qhead_set hr2 h2 hd h0 hmax
      have e2 : w2.cell? ⟨c.cb, 2, none⟩ = some (.slice a b.es.length cap) := by rw [h2.cells.2.2.1, Hev.out]
      have e3 : ∃ v, w2.cell? ⟨c.cb, 3, none⟩ = some v := ⟨_, h2.cells.2.2.2.1⟩
      have e4 : ∃ v, w2.cell? ⟨c.cb, 4, none⟩ = some v := ⟨_, h2.cells.2.2.2.2⟩
      obtain ⟨v3, e3⟩ := e3
      obtain ⟨v4, e4⟩ := e4
      have g3 := cells_frozen h2.blk 3
      have g4 := cells_frozen h2.blk 4
      have K3 := Lib.hid (u3.keep K2.out (fun e => by have := lt_of_block h.blk; omega))
      have Hr3 := Lib.hid hr3
      have H3 := Lib.hid h3
      have U3 := Lib.hid u3
      clear hr3 h3 u3 l2 l3 l4
      go_wp2_with fail
      generalize (w2.setCell ⟨c.cb, 3, none⟩ (.int .i64 now)).setCell ⟨c.cb, 4, none⟩ (.int .i64 b.es.length) = w3 at *
      (with_reducible refine (signb_q B q c L { b with last := now, told := b.es.length } ⟨1, b.es.length, now, []⟩ _ ((g.upd u2).upd U3.out) Hr3.out H3.out hd (by have := u2.size; have := U3.out.size; omega) (ic_head hmax h0 h.len) hL).mono ?_)
      rintro _ w4 ⟨q', rfl, hr4, hrb, u4, hf4⟩
      rw [show Bk.signC L { b with last := now, told := b.es.length } ⟨1, b.es.length, now, []⟩ = Bk.signC L b ⟨1, b.es.length, now, []⟩ from rfl] at hr4 ⊢
      have hfin := fun v0 v1 v2 x0 => qhead_end (x0 := x0) (v0 := v0) (v1 := v1) (v2 := v2) hgb hrb hr4 H3.out hd (fun j hj => (hr.foot_lt hj).2) (fun j hj => (h.foot_lt hj).2) u2 U3.out u4 hf4 (lt_of_block K3.out)
      have Hfin := Lib.hid hfin
      clear hfin
      generalize Bk.signC L b ⟨1, b.es.length, now, []⟩ = sg at *
      obtain ⟨⟨sk, st, sm⟩, L'⟩ := sg
      dsimp only [sgnV]
      have k4 := u4.keep K3.out (fun e => by have := (hr.foot_lt e).2; omega)
      have K4 := Lib.hid k4
      obtain ⟨_, _, _, _, _, _⟩ := box_facts k4
      clear k4 e2 e3 e4 g3 g4
      go_wp2_with fail
      (try simp only [Exit.inBlock, Exit.then])
      exact bodyPost_ret (headq_results (set3 K4.out) rfl) rfl (Hfin.out _ _ _ ((⟨sk, st, sm⟩, 0), L', { b with last := now, told := b.es.length }) rfl rfl)
    · have ht1 : (b.told == (b.es.length : Int)) = false := beq_eq_false_iff_ne.2 ht
      have ht2 : (b.told != (b.es.length : Int)) = true := by rw [bne, ht1]; rfl
      have hx : Hid (Bk.head L b now = ((Bk.noSgn, 7), L, b)) := by show _ = _; rw [hx1.out, if_pos (Or.inr ⟨he, ht⟩)]
      clear he ht
      go_enter Tryz.func85, Tryz.ntmps85
      go_wp2_with fail
      refine wp_region_nw (by kernel_rfl) (by kernel_rfl) ?_
      repeat (go_big_quiet_step ((fail)))
      refine wpQuiet_nil ?_
      intro w2 u2
      replace u2 := later_out u2
      have K2 := Lib.hid (u2.keep K1.out)
      have h2 := h1.nw u2
      have hr2 := (hr.nw n1).nw u2
      replace u2 := n1.trans u2
      obtain ⟨_, _, _, _, _, _⟩ := box_facts K2.out
      clear l2 l3 l4
      go_wp2_with fail
      (try simp only [Exit.inBlock, Exit.then])
      rw [hx.out]
      exact bodyPost_ret (headq_results (set3 K2.out) rfl) rfl (qhead_end (x0 := ((Bk.noSgn, 7), L, b)) hgb rfl hr2 h2 hd (fun j hj => (hr.foot_lt hj).2) (fun j hj => (h.foot_lt hj).2) u2 (Upd.refl _ _) (Upd.refl _ _) (fun j hj => Or.inl hj) (lt_of_block K2.out) rfl rfl)
  · have he1 : (b.last == now) = false := beq_eq_false_iff_ne.2 he
    have hx : Bk.head L b now = (((Bk.signC L b ⟨1, b.es.length, now, []⟩).1, 0), (Bk.signC L b ⟨1, b.es.length, now, []⟩).2, { b with last := now, told := b.es.length }) := by rw [hx1.out, if_neg (by omega)]
    rw [hx]
    clear hx
    go_enter Tryz.func85, Tryz.ntmps85
    go_wp2_with fail
    refine wp_region_nw (by kernel_rfl) (by kernel_rfl) ?_
    repeat (go_big_quiet_step ((fail)))
    refine wpQuiet_nil ?_
    intro w2 u2
    replace u2 := later_out u2
    have K2 := Lib.hid (u2.keep K1.out)
    have h2 := h1.nw u2
    have hr2 := (hr.nw n1).nw u2
    replace u2 := n1.trans u2
    obtain ⟨hr3, h3, u3⟩ := qhead_set hr2 h2 hd h0 hmax
    have e2 : w2.cell? ⟨c.cb, 2, none⟩ = some (.slice a b.es.length cap) := by rw [h2.cells.2.2.1, Hev.out]
    have e3 : ∃ v, w2.cell? ⟨c.cb, 3, none⟩ = some v := ⟨_, h2.cells.2.2.2.1⟩
    have e4 : ∃ v, w2.cell? ⟨c.cb, 4, none⟩ = some v := ⟨_, h2.cells.2.2.2.2⟩
    obtain ⟨v3, e3⟩ := e3
    obtain ⟨v4, e4⟩ := e4
    have g3 := cells_frozen h2.blk 3
    have g4 := cells_frozen h2.blk 4
    have K3 := Lib.hid (u3.keep K2.out (fun e => by have := lt_of_block h.blk; omega))
    have Hr3 := Lib.hid hr3
    have H3 := Lib.hid h3
    have U3 := Lib.hid u3
    clear hr3 h3 u3 l2 l3 l4
    go_wp2_with fail
    generalize (w2.setCell ⟨c.cb, 3, none⟩ (.int .i64 now)).setCell ⟨c.cb, 4, none⟩ (.int .i64 b.es.length) = w3 at *
    (with_reducible refine (signb_q B q c L { b with last := now, told := b.es.length } ⟨1, b.es.length, now, []⟩ _ ((g.upd u2).upd U3.out) Hr3.out H3.out hd (by have := u2.size; have := U3.out.size; omega) (ic_head hmax h0 h.len) hL).mono ?_)
    rintro _ w4 ⟨q', rfl, hr4, hrb, u4, hf4⟩
    rw [show Bk.signC L { b with last := now, told := b.es.length } ⟨1, b.es.length, now, []⟩ = Bk.signC L b ⟨1, b.es.length, now, []⟩ from rfl] at hr4 ⊢
    have hfin := fun v0 v1 v2 x0 => qhead_end (x0 := x0) (v0 := v0) (v1 := v1) (v2 := v2) hgb hrb hr4 H3.out hd (fun j hj => (hr.foot_lt hj).2) (fun j hj => (h.foot_lt hj).2) u2 U3.out u4 hf4 (lt_of_block K3.out)
    have Hfin := Lib.hid hfin
    clear hfin
    generalize Bk.signC L b ⟨1, b.es.length, now, []⟩ = sg at *
    obtain ⟨⟨sk, st, sm⟩, L'⟩ := sg
    dsimp only [sgnV]
    have k4 := u4.keep K3.out (fun e => by have := (hr.foot_lt e).2; omega)
    have K4 := Lib.hid k4
    obtain ⟨_, _, _, _, _, _⟩ := box_facts k4
    clear k4 e2 e3 e4 g3 g4
    go_wp2_with fail
    (try simp only [Exit.inBlock, Exit.then])
    exact bodyPost_ret (headq_results (set3 K4.out) rfl) rfl (Hfin.out _ _ _ ((⟨sk, st, sm⟩, 0), L', { b with last := now, told := b.es.length }) rfl rfl)
end Go.Proofs.YtagmlemlagbfkaaGreatDoor
namespace Go.Proofs.YtagmlemlagbfkaaGreatDoor
open Go.RowKit
set_option linter.unusedVariables false
set_option linter.unusedSimpArgs false
attribute [local irreducible] Calls

/-- In the blocks from B on lie the reference's ring q and book c, apart from one another. -/
structure QBoth (B : Nat) (w : World) (q : QRing) (c : QBook) (x : Bk.St) : Prop where
  ring : QRingAt B w q x.L
  book : QBookAt B w c q.qb x.b
  dis : ∀ k, q.foot k → ¬ c.foot k
theorem QBoth.upd {B : Nat} {S : Nat → Prop} {w w' : World} {q : QRing} {c : QBook} {x : Bk.St} (h : QBoth B w q c x) (u : Upd S w w') (h1 : ∀ k, q.foot k → ¬ S k) (h2 : ∀ k, c.foot k → ¬ S k) : QBoth B w' q c x :=
  ⟨h.ring.upd u h1, h.book.upd u h2, h.dis⟩
theorem QBoth.nw {B : Nat} {w w' : World} {q : QRing} {c : QBook} {x : Bk.St} (h : QBoth B w q c x) (u : Nw w w') : QBoth B w' q c x := h.upd u (fun _ _ s => s) (fun _ _ s => s)
structure QMoved (B : Nat) (q : QRing) (c : QBook) (x' : Bk.St) (w w' : World) (q' : QRing) (c' : QBook) : Prop where
  both : QBoth B w' q' c' x'
  qb : q'.qb = q.qb
  cb : c'.cb = c.cb
  upd : Upd (fun k => q.foot k ∨ c.foot k) w w'
  f1 : ∀ j, q'.foot j → q.foot j ∨ w.heap.size ≤ j
  f2 : ∀ j, c'.foot j → c.foot j ∨ w.heap.size ≤ j
theorem qmoved_sgn {B : Nat} {q q' : QRing} {c : QBook} {x : Bk.St} {L' : List Bk.Seal} {w w' : World} (h : QBoth B w q c x) (hr : QRingAt B w' q' L') (hrb : q'.qb = q.qb) (u : Upd q.foot w w') (hf : ∀ j, q'.foot j → q.foot j ∨ w.heap.size ≤ j) : QMoved B q c ⟨L', x.b⟩ w w' q' c :=
  ⟨⟨hr, by rw [hrb]; exact h.book.upd u (fun k hk e => h.dis k e hk), fun k hk e => by
    rcases hf k hk with h2 | h2
    · exact h.dis k h2 e
    · have := (h.book.foot_lt e).2; omega⟩, hrb, rfl, u.mono (fun k _ e => Or.inl e), hf, fun j hj => Or.inl hj⟩
theorem qmoved_app {B : Nat} {q : QRing} {c c' : QBook} {x : Bk.St} {b' : Bk.Book} {w w' : World} (h : QBoth B w q c x) (hb : QBookAt B w' c' q.qb b') (hbb : c'.cb = c.cb) (u : Upd c.foot w w') (hf : ∀ j, c'.foot j → c.foot j ∨ w.heap.size ≤ j) : QMoved B q c ⟨x.L, b'⟩ w w' q c' :=
  ⟨⟨h.ring.upd u (fun k hk e => h.dis k hk e), hb, fun k hk e => by
    rcases hf k e with h2 | h2
    · exact h.dis k hk h2
    · have := (h.ring.foot_lt hk).2; omega⟩, rfl, hbb, u.mono (fun k _ e => Or.inr e), fun j hj => Or.inl hj, hf⟩
theorem qmoved_head {B : Nat} {q q' : QRing} {c : QBook} {x x' : Bk.St} {w w' : World} (h : QBoth B w q c x) (hr : QRingAt B w' q' x'.L) (hb : QBookAt B w' c q.qb x'.b) (hrb : q'.qb = q.qb) (u : Upd (fun k => q.foot k ∨ k = c.cb) w w') (hf : ∀ j, q'.foot j → q.foot j ∨ w.heap.size ≤ j) : QMoved B q c x' w w' q' c :=
  ⟨⟨hr, by rw [hrb]; exact hb, fun k hk e => by
    rcases hf k hk with h2 | h2
    · exact h.dis k h2 e
    · have := (h.book.foot_lt e).2; omega⟩, hrb, rfl, u.mono (fun k _ e => e.imp id (fun e => Or.inl e)), hf, fun j hj => Or.inl hj⟩
end Go.Proofs.YtagmlemlagbfkaaGreatDoor
