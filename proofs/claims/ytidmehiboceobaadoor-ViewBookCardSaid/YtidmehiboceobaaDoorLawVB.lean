/- A ring, a book that signs into it, a view of the ring, and the slice of what the book signed, side by side: what each call leaves of them. -/
import Derived.Test.YtidmehiboceobaaDoorVTurn
import Derived.Test.YtidmehiboceobaaDoorView9
import Derived.Test.YtidmehiboceobaaDoorBook3
namespace Go.Proofs.YtidmehiboceobaaDoor
open Go.RowKit
set_option linter.unusedVariables false
set_option linter.unusedSimpArgs false
attribute [local irreducible] Calls

def sgnO (s : Bk.Sgn) : Obj := .cells #[.int .i64 s.key, .string ⟨s.text.toArray⟩, .int .i64 s.mark] tSigned
def VB (W : World) (rb bb vb : Nat) (key : Int) (bx : List (Nat × Obj)) (x : Bk.St) (mv : Value) (M L : List Bk.Sgn) (z : World) : Prop :=
  ∃ q br r, q.rb = rb ∧ br.bb = bb ∧ r.vb = vb ∧ Both W.heap.size z q br x ∧ ViewAt W.heap.size z r rb key L ∧ Vw.VOk x.L key L ∧ Nw W z ∧ z.ownsRow W.heap.size tSigned 3 mv M.length (flatS M) ∧
    (∀ j, r.foot j → ¬ q.foot j ∧ ¬ br.foot j) ∧ (∀ j, mv.ownBlock = some j → ¬ q.foot j ∧ ¬ br.foot j ∧ ¬ r.foot j) ∧ ∀ p ∈ bx, W.heap.size ≤ p.1 ∧ z.heap[p.1]? = some p.2 ∧ ¬ q.foot p.1 ∧ ¬ br.foot p.1 ∧ ¬ r.foot p.1 ∧ ¬ mv.ownBlock = some p.1
section
variable {W : World} {rb bb vb : Nat} {key : Int} {bx : List (Nat × Obj)} {x : Bk.St} {mv : Value} {M L : List Bk.Sgn} {z z' : World}
theorem VB.nw (h : VB W rb bb vb key bx x mv M L z) : Nw W z := by obtain ⟨q, br, r, _, _, _, _, _, _, u, _⟩ := h; exact u
theorem VB.row (h : VB W rb bb vb key bx x mv M L z) : z.ownsRow W.heap.size tSigned 3 mv M.length (flatS M) := by obtain ⟨q, br, r, _, _, _, _, _, _, _, w, _⟩ := h; exact w
theorem VB.at (h : VB W rb bb vb key bx x mv M L z) (i : Nat) {p : Nat × Obj} (hi : bx[i]? = some p) : z.heap[p.1]? = some p.2 := by
  obtain ⟨q, br, r, _, _, _, _, _, _, _, _, _, _, hb⟩ := h
  exact (hb p (List.mem_of_getElem? hi)).2.1
theorem VB.go (h : VB W rb bb vb key bx x mv M L z) (u : Nw z z') : VB W rb bb vb key bx x mv M L z' := by
  obtain ⟨q, br, r, e1, e2, e3, h1, h2, h3, n, w, a1, a2, hb⟩ := h
  exact ⟨q, br, r, e1, e2, e3, h1.nw u, h2.nw u, h3, n.trans u, owns_upd' w u (fun _ _ e => e), a1, a2, fun p hp => ⟨(hb p hp).1, Nw.keep u (hb p hp).2.1, (hb p hp).2.2⟩⟩
theorem VB.drop (h : VB W rb bb vb key bx x mv M L z) : VB W rb bb vb key [] x mv M L z := by
  obtain ⟨q, br, r, e1, e2, e3, h1, h2, h3, n, w, a1, a2, hb⟩ := h
  exact ⟨q, br, r, e1, e2, e3, h1, h2, h3, n, w, a1, a2, fun p hp => by cases hp⟩
theorem VB.box (h : VB W rb bb vb key bx x mv M L z) (b : Obj) : VB W rb bb vb key ((z.heap.size, b) :: bx) x mv M L (z.alloc b) := by
  have h' := (h.go (nw_alloc z b))
  obtain ⟨q, br, r, e1, e2, e3, h1, h2, h3, n, w, a1, a2, hb⟩ := h
  have u := nw_alloc z b
  refine ⟨q, br, r, e1, e2, e3, h1.nw u, h2.nw u, h3, n.trans u, owns_upd' w u (fun _ _ e => e), a1, a2, fun p hp => ?_⟩
  rcases List.mem_cons.1 hp with rfl | hp
  · exact ⟨n.size, heap_new z b, fun e => by have := (h1.ring.foot_lt e).2; dsimp only at this; omega, fun e => by have := (h1.book.foot_lt e).2; dsimp only at this; omega, fun e => by have := (h2.foot_lt e).2; dsimp only at this; omega, fun e => by
      obtain ⟨_, cs, e3⟩ := own_block w e
      have := lt_of_block e3; dsimp only at this; omega⟩
  · exact ⟨(hb p hp).1, Nw.keep u (hb p hp).2.1, (hb p hp).2.2⟩
/-- A struct is stored into the box. -/
theorem VB.set (h : VB W rb bb vb key bx x mv M L z) {s t : Bk.Sgn} {p : Nat} (hbx : bx = [(p, sgnO s)]) : VB W rb bb vb key [(p, sgnO t)] x mv M L (((z.setCell ⟨p, 0, none⟩ (.int .i64 t.key)).setCell ⟨p, 1, none⟩ (.string ⟨t.text.toArray⟩)).setCell ⟨p, 2, none⟩ (.int .i64 t.mark)) := by
  subst hbx
  obtain ⟨q, br, r, e1, e2, e3, h1, h2, h3, n, w, a1, a2, hb⟩ := h
  obtain ⟨b0, b1, b2, b3, b4, b5⟩ := hb _ (List.mem_cons_self ..)
  dsimp only at b0 b1 b2 b3 b4 b5
  have hg : nG ≤ p := Nat.le_trans h1.ring.hb b0
  have u : Upd (fun j => j = p) z (((z.setCell ⟨p, 0, none⟩ (.int .i64 t.key)).setCell ⟨p, 1, none⟩ (.string ⟨t.text.toArray⟩)).setCell ⟨p, 2, none⟩ (.int .i64 t.mark)) := Upd.set1 (Upd.set1 (Upd.set1 (Upd.refl _ _) hg 0 _) hg 1 _) hg 2 _
  refine ⟨q, br, r, e1, e2, e3, h1.upd u (fun j hj e => b2 (e ▸ hj)) (fun j hj e => b3 (e ▸ hj)), h2.upd u (fun j hj e => b4 (e ▸ hj)), h3, n.trans' u (fun j hj e => by omega), owns_upd' w u (fun j hj e => b5 (e ▸ hj)), a1, a2, fun p' hp => ?_⟩
  obtain rfl := List.mem_singleton.1 hp
  exact ⟨b0, set3 b1, b2, b3, b4, b5⟩
/-- What the book has done. -/
theorem VB.moved {x' : Bk.St} {q q' : RingR} {br br' : BookR} (h1 : q.rb = rb) (h2 : br.bb = bb) {r : ViewR} (h3 : r.vb = vb) (hb1 : Both W.heap.size z q br x) (hv : ViewAt W.heap.size z r rb key L) (ho : Vw.VOk x'.L key L) (n : Nw W z) (w : z.ownsRow W.heap.size tSigned 3 mv M.length (flatS M))
    (a1 : ∀ j, r.foot j → ¬ q.foot j ∧ ¬ br.foot j) (a2 : ∀ j, mv.ownBlock = some j → ¬ q.foot j ∧ ¬ br.foot j ∧ ¬ r.foot j) (hb : ∀ p ∈ bx, W.heap.size ≤ p.1 ∧ z.heap[p.1]? = some p.2 ∧ ¬ q.foot p.1 ∧ ¬ br.foot p.1 ∧ ¬ r.foot p.1 ∧ ¬ mv.ownBlock = some p.1)
    (m : Moved W.heap.size q br x' z z' q' br') : VB W rb bb vb key bx x' mv M L z' := by
  have k1 : ∀ j, j < z.heap.size → ¬ q.foot j → ¬ q'.foot j := fun j hj hn e => (m.f1 j e).elim hn (fun e2 => by omega)
  have k2 : ∀ j, j < z.heap.size → ¬ br.foot j → ¬ br'.foot j := fun j hj hn e => (m.f2 j e).elim hn (fun e2 => by omega)
  have lw : ∀ j, mv.ownBlock = some j → j < z.heap.size := fun j hj => by obtain ⟨_, cs, e3⟩ := own_block w hj; exact lt_of_block e3
  exact ⟨q', br', r, m.rb.trans h1, m.bb.trans h2, h3, m.both, hv.upd m.upd (fun j hj e => e.elim (a1 j hj).1 (a1 j hj).2), ho, n.trans' m.upd (fun j hj e => by
      rcases e with e | e
      · have := (hb1.ring.foot_lt e).1; omega
      · have := (hb1.book.foot_lt e).1; omega), owns_upd' w m.upd (fun j hj e => e.elim (a2 j hj).1 (a2 j hj).2.1), fun j hj => ⟨k1 j (hv.foot_lt hj).2 (a1 j hj).1, k2 j (hv.foot_lt hj).2 (a1 j hj).2⟩, fun j hj => ⟨k1 j (lw j hj) (a2 j hj).1, k2 j (lw j hj) (a2 j hj).2.1, (a2 j hj).2.2⟩,
    fun p hp => ⟨(hb p hp).1, m.upd.keep (hb p hp).2.1 (fun e => e.elim (hb p hp).2.2.1 (hb p hp).2.2.2.1), k1 _ (lt_of_block (hb p hp).2.1) (hb p hp).2.2.1, k2 _ (lt_of_block (hb p hp).2.1) (hb p hp).2.2.2.1, (hb p hp).2.2.2.2⟩⟩
theorem vb_append (h : VB W rb bb vb key bx x mv M [] z) (g : Gl z) (s : ByteArray) (t : List UInt8) (hs : s.data.toList = t) (ht : t.length ≤ 1000000) :
    Calls Tryd.prog 19 #[.pointer (some ⟨bb, 0, none⟩), .string s] z fun e w' => ∃ a b, e = .returned (.tuple #[.int .i64 a, .int .i64 b]) ∧ VB W rb bb vb key bx ⟨x.L, (Bk.append x.b t).2⟩ mv M [] w' := by
  obtain ⟨q, br, r, rfl, rfl, rfl, h1, h2, h3, n, w, a1, a2, hb⟩ := h
  have hB := n.size
  obtain rfl : s = ⟨t.toArray⟩ := by rw [← hs, bs_eta]
  refine (append_b _ br q.rb x.b t z g h1.book hB (by omega)).mono ?_
  rintro e w' ⟨br', rfl, c1, c2, u, hf⟩
  exact ⟨_, _, rfl, VB.moved rfl rfl rfl h1 h2 (Vw.VOk.nil _ _) n w a1 a2 hb (moved_app h1 c1 c2 u hf)⟩
theorem vb_entry (h : VB W rb bb vb key bx x mv M [] z) (g : Gl z) (i : Int) (hi : I64 i) (hL : x.L.length ≤ 1000000) {y : Bk.Sgn} {e0 : Int} {L' : List Bk.Seal} (e : Bk.entry x.L x.b i = ((y, e0), L')) :
    Calls Tryd.prog 21 #[.pointer (some ⟨bb, 0, none⟩), .int .i64 i] z fun e w' => e = .returned (.tuple #[.agg #[.int .i64 y.key, .string ⟨y.text.toArray⟩, .int .i64 y.mark], .int .i64 e0]) ∧ VB W rb bb vb key bx ⟨L', x.b⟩ mv M [] w' := by
  obtain ⟨q, br, r, rfl, rfl, rfl, h1, h2, h3, n, w, a1, a2, hb⟩ := h
  have hB := n.size
  refine (entry_b _ q br x.L x.b i z g h1.ring h1.book hB hi hL).mono ?_
  rintro _ w' ⟨q', rfl, c1, c2, u, hf⟩
  rw [e] at c1 ⊢
  exact ⟨rfl, VB.moved rfl rfl rfl h1 h2 (Vw.VOk.nil _ _) n w a1 a2 hb (moved_sgn h1 c1 c2 u hf)⟩
theorem vb_head (h : VB W rb bb vb key bx x mv M [] z) (g : Gl z) (i : Int) (hi : I64 i) (hL : x.L.length ≤ 1000000) {y : Bk.Sgn} {e0 : Int} {L' : List Bk.Seal} {b' : Bk.Book} (e : Bk.head x.L x.b i = ((y, e0), L', b')) :
    Calls Tryd.prog 22 #[.pointer (some ⟨bb, 0, none⟩), .int .i64 i] z fun e w' => e = .returned (.tuple #[.agg #[.int .i64 y.key, .string ⟨y.text.toArray⟩, .int .i64 y.mark], .int .i64 e0]) ∧ VB W rb bb vb key bx ⟨L', b'⟩ mv M [] w' := by
  obtain ⟨q, br, r, rfl, rfl, rfl, h1, h2, h3, n, w, a1, a2, hb⟩ := h
  have hB := n.size
  refine (head_b _ q br x.L x.b i z g h1.ring h1.book hB hi h1.dis hL).mono ?_
  rintro _ w' ⟨q', rfl, c1, c2, c3, u, hf⟩
  rw [e] at c1 c3 ⊢
  exact ⟨rfl, VB.moved rfl rfl rfl h1 h2 (Vw.VOk.nil _ _) n w a1 a2 hb (moved_head h1 c1 c3 c2 u hf)⟩
theorem vb_absent (h : VB W rb bb vb key bx x mv M [] z) (g : Gl z) (k : List UInt8) (i : Int) (hi : I64 i) (hk : k.length ≤ 1000000) (hL : x.L.length ≤ 1000000) {y : Bk.Sgn} {e0 : Int} {L' : List Bk.Seal} (e : Bk.absent x.L x.b k i = ((y, e0), L')) :
    Calls Tryd.prog 23 #[.pointer (some ⟨bb, 0, none⟩), .string ⟨k.toArray⟩, .int .i64 i] z fun e w' => e = .returned (.tuple #[.agg #[.int .i64 y.key, .string ⟨y.text.toArray⟩, .int .i64 y.mark], .int .i64 e0]) ∧ VB W rb bb vb key bx ⟨L', x.b⟩ mv M [] w' := by
  obtain ⟨q, br, r, rfl, rfl, rfl, h1, h2, h3, n, w, a1, a2, hb⟩ := h
  have hB := n.size
  refine (absent_b _ q br x.L x.b k i z g h1.ring h1.book hB hi (by omega) hL).mono ?_
  rintro _ w' ⟨q', rfl, c1, c2, u, hf⟩
  rw [e] at c1 ⊢
  exact ⟨rfl, VB.moved rfl rfl rfl h1 h2 (Vw.VOk.nil _ _) n w a1 a2 hb (moved_sgn h1 c1 c2 u hf)⟩
/-- The slice of what was signed has grown. -/
theorem VB.app {mv' : Value} (h : VB W rb bb vb key bx x mv M L z) {s : Bk.Sgn} (hown : z'.ownsRow W.heap.size tSigned 3 mv' (M.length + 1) (flatS M ++ sgl s)) (u : Upd (fun k => mv.ownBlock = some k) z z') (hob : ∀ k, mv'.ownBlock = some k → mv.ownBlock = some k ∨ z.heap.size ≤ k) :
    VB W rb bb vb key [] x mv' (M ++ [s]) L z' := by
  obtain ⟨q, br, r, rfl, rfl, rfl, h1, h2, h3, n, w, a1, a2, hb⟩ := h
  have hB := n.size
  have n' : Nw W z' := n.trans' u (fun j hj e => by have := (own_block w e).1; omega)
  refine ⟨q, br, r, rfl, rfl, rfl, h1.upd u (fun j hj e => (a2 j e).1 hj) (fun j hj e => (a2 j e).2.1 hj), h2.upd u (fun j hj e => (a2 j e).2.2 hj), h3, n', ?_, a1, fun j hj => ?_, fun p hp => by cases hp⟩
  · rw [List.length_append, List.length_singleton, flatS_snoc]; exact hown
  · rcases hob j hj with e | e
    · exact a2 j e
    · exact ⟨fun e2 => by have := (h1.ring.foot_lt e2).2; omega, fun e2 => by have := (h1.book.foot_lt e2).2; omega, fun e2 => by have := (h2.foot_lt e2).2; omega⟩
theorem vb_acc (h : VB W rb bb vb key bx x mv M L z) (g : Gl z) (s : Bk.Sgn) (hs : SgnOk s) (hL : L.length ≤ 900000) {ea : Int} {L' : List Bk.Sgn} (e : Vw.accept x.L key L s = (ea, L')) :
    Calls Tryd.prog 14 #[.pointer (some ⟨vb, 0, none⟩), .agg #[.int .i64 s.key, .string ⟨s.text.toArray⟩, .int .i64 s.mark]] z fun e w' => e = .returned (.int .i64 ea) ∧ VB W rb bb vb key bx x mv M L' w' := by
  obtain ⟨q, br, r, rfl, rfl, rfl, h1, h2, h3, n, w, a1, a2, hb⟩ := h
  have hB := n.size
  refine (accept_v _ _ r q key x.L L s z g h1.ring h2 h3 hs hB hL).mono ?_
  rintro _ w' ⟨r', rfl, c1, c2, u, hf⟩
  have ho := Vw.accept_ok h3 s
  rw [e] at c1 ho ⊢
  have k : ∀ j, j < z.heap.size → ¬ r.foot j → ¬ r'.foot j := fun j hj hn e => (hf j e).elim hn (fun e2 => by omega)
  have lw : ∀ j, mv.ownBlock = some j → j < z.heap.size := fun j hj => by obtain ⟨_, cs, e3⟩ := own_block w hj; exact lt_of_block e3
  exact ⟨rfl, q, br, r', rfl, rfl, c2, h1.upd u (fun j hj e => (a1 j e).1 hj) (fun j hj e => (a1 j e).2 hj), c1, ho, n.trans' u (fun j hj e => by have := (h2.foot_lt e).1; omega), owns_upd' w u (fun j hj => (a2 j hj).2.2), fun j hj => ⟨fun e => k j (h1.ring.foot_lt e).2 (fun e2 => (a1 j e2).1 e) hj, fun e => k j (h1.book.foot_lt e).2 (fun e2 => (a1 j e2).2 e) hj⟩, fun j hj => ⟨(a2 j hj).1, (a2 j hj).2.1, k j (lw j hj) (a2 j hj).2.2⟩,
    fun p hp => ⟨(hb p hp).1, u.keep (hb p hp).2.1 (hb p hp).2.2.2.2.1, (hb p hp).2.2.1, (hb p hp).2.2.2.1, k _ (lt_of_block (hb p hp).2.1) (hb p hp).2.2.2.2.1, (hb p hp).2.2.2.2.2⟩⟩
theorem vb_size (h : VB W rb bb vb key bx x mv M L z) {m t : Int} (e : Vw.sizeOf L = (m, t)) :
    Calls Tryd.prog 10 #[.pointer (some ⟨vb, 0, none⟩)] z fun e w' => e = .returned (.tuple #[.int .i64 m, .int .i64 t]) ∧ VB W rb bb vb key bx x mv M L w' := by
  have hg := fun z' (u : Nw z z') => h.go u
  obtain ⟨q, br, r, rfl, rfl, rfl, h1, h2, h3, n, w, a1, a2, hb⟩ := h
  have hB := n.size
  have := size_v _ r q.rb key L z h2
  rw [e] at this
  exact this.mono fun e w' ⟨c1, c2⟩ => ⟨c1, hg w' c2⟩
theorem vb_len (h : VB W rb bb vb key bx x mv M L z) :
    Calls Tryd.prog 24 #[.pointer (some ⟨bb, 0, none⟩)] z fun e w' => e = .returned (.int .i64 x.b.es.length) ∧ VB W rb bb vb key bx x mv M L w' := by
  have hg := fun z' (u : Nw z z') => h.go u
  obtain ⟨q, br, r, rfl, rfl, rfl, h1, h2, h3, n, w, a1, a2, hb⟩ := h
  have hB := n.size
  exact (len_b _ br q.rb x.b z h1.book).mono fun e w' ⟨c1, c2⟩ => ⟨c1, hg w' c2⟩
theorem vb_text (h : VB W rb bb vb key bx x mv M L z) (i : Int) (hi : I64 i) {t : List UInt8} {b : Bool} (e : Vw.textAt L i = (t, b)) :
    Calls Tryd.prog 11 #[.pointer (some ⟨vb, 0, none⟩), .int .i64 i] z fun e w' => e = .returned (.tuple #[.string ⟨t.toArray⟩, .bool b]) ∧ VB W rb bb vb key bx x mv M L w' := by
  have hg := fun z' (u : Nw z z') => h.go u
  obtain ⟨q, br, r, rfl, rfl, rfl, h1, h2, h3, n, w, a1, a2, hb⟩ := h
  have hB := n.size
  have := text_v _ r q.rb key L z h3 i hi h2
  rw [e] at this
  exact this.mono fun e w' ⟨c1, c2⟩ => ⟨c1, hg w' c2⟩
theorem vb_btext (h : VB W rb bb vb key bx x mv M L z) (i : Int) {t : List UInt8} {b : Bool} (e : Bk.textAt x.b i = (t, b)) :
    Calls Tryd.prog 25 #[.pointer (some ⟨bb, 0, none⟩), .int .i64 i] z fun e w' => e = .returned (.tuple #[.string ⟨t.toArray⟩, .bool b]) ∧ VB W rb bb vb key bx x mv M L w' := by
  have hg := fun z' (u : Nw z z') => h.go u
  obtain ⟨q, br, r, rfl, rfl, rfl, h1, h2, h3, n, w, a1, a2, hb⟩ := h
  have hB := n.size
  have := text_b _ br q.rb x.b i z h1.book
  rw [e] at this
  exact this.mono fun e w' ⟨c1, c2⟩ => ⟨c1, hg w' c2⟩
theorem vb_abs (h : VB W rb bb vb key bx x mv M L z) (k : List UInt8) (hk : k.length ≤ 1000000) {m : Int} {b : Bool} (e : Vw.absentOf L k = (m, b)) :
    Calls Tryd.prog 12 #[.pointer (some ⟨vb, 0, none⟩), .string ⟨k.toArray⟩] z fun e w' => e = .returned (.tuple #[.int .i64 m, .bool b]) ∧ VB W rb bb vb key bx x mv M L w' := by
  have hg := fun z' (u : Nw z z') => h.go u
  obtain ⟨q, br, r, rfl, rfl, rfl, h1, h2, h3, n, w, a1, a2, hb⟩ := h
  have hB := n.size
  have := absent_v _ r q.rb key L z h3 k (by omega) h2
  rw [e] at this
  exact this.mono fun e w' ⟨c1, c2⟩ => ⟨c1, hg w' c2⟩
theorem vb_sgn (h : VB W rb bb vb key bx x mv M L z) {a : Option Addr} {n cap : Nat} (hm : mv = .slice a n cap) {k : Nat} (hk : k < M.length) :
    ∃ b o, a = some ⟨b, o, none⟩ ∧ z.cell? ⟨b, o + k * 3, none⟩ = some (.int .i64 M[k].key) ∧ z.cell? ⟨b, o + k * 3 + 1, none⟩ = some (.string ⟨M[k].text.toArray⟩) ∧ z.cell? ⟨b, o + k * 3 + 2, none⟩ = some (.int .i64 M[k].mark) := by
  have hr := h.row
  subst hm
  obtain ⟨a', cap', e, _, hc⟩ := sgn_cells (sgn_sls hr)
  obtain ⟨rfl, _, _⟩ : a = a' ∧ n = M.length ∧ cap = cap' := by simpa using e
  rcases hc with hnil | ⟨b, o, rfl, _, _, hc⟩
  · simp [hnil] at hk
  · exact ⟨b, o, rfl, (hc k hk).1, (hc k hk).2.1, (hc k hk).2.2⟩
end
end Go.Proofs.YtidmehiboceobaaDoor
