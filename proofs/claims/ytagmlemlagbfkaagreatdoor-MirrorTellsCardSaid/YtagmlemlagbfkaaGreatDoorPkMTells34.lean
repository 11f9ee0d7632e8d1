/- The reference's rings, books, views and mirrors side by side with other things: what each call of layers 5, 7 and 8 of the reference leaves of them, wherever they stand. A mirror of the reference in memory. -/
import Derived.Test.YtagmlemlagbfkaaGreatDoorPkMTells18
import Derived.Test.YtagmlemlagbfkaaGreatDoorPkMTells17
import Derived.Test.YtagmlemlagbfkaaGreatDoorPkMTells25
import Derived.Test.YtagmlemlagbfkaaGreatDoorPkMTells32
import Derived.Test.YtagmlemlagbfkaaGreatDoorPkMTells33
import Derived.Test.YtagmlemlagbfkaaGreatDoorPkMTells19
namespace Go.Proofs.YtagmlemlagbfkaaGreatDoor
open Go.RowKit
set_option linter.unusedVariables false
set_option linter.unusedSimpArgs false
attribute [local irreducible] Calls

def QRingC (B qb : Nat) (Lr : List Bk.Seal) : Res := fun f z => ∃ q, q.qb = qb ∧ QRingAt B z q Lr ∧ f = q.foot
def QBookC (B cb qb : Nat) (b : Bk.Book) : Res := fun f z => ∃ c, c.cb = cb ∧ QBookAt B z c qb b ∧ f = c.foot
def QViewC (B cb qb : Nat) (key : Int) (L : List Bk.Sgn) : Res := fun f z => ∃ c, c.cb = cb ∧ QViewAt B z c qb key L ∧ f = c.foot
theorem QRingC.stab (B qb : Nat) (Lr : List Bk.Seal) : Stab B (QRingC B qb Lr) :=
  ⟨fun {f w w' S} ⟨q, a, b, c⟩ u hs => ⟨q, a, b.upd u (fun k hk => hs k (by rw [c]; exact hk)), c⟩, fun {f w k} ⟨q, a, b, c⟩ hk => b.foot_lt (by rw [c] at hk; exact hk)⟩
theorem QBookC.stab (B cb qb : Nat) (b : Bk.Book) : Stab B (QBookC B cb qb b) :=
  ⟨fun {f w w' S} ⟨q, a, b, c⟩ u hs => ⟨q, a, b.upd u (fun k hk => hs k (by rw [c]; exact hk)), c⟩, fun {f w k} ⟨q, a, b, c⟩ hk => b.foot_lt (by rw [c] at hk; exact hk)⟩
theorem QViewC.stab (B cb qb : Nat) (key : Int) (L : List Bk.Sgn) : Stab B (QViewC B cb qb key L) :=
  ⟨fun {f w w' S} ⟨q, a, b, c⟩ u hs => ⟨q, a, b.upd u (fun k hk => hs k (by rw [c]; exact hk)), c⟩, fun {f w k} ⟨q, a, b, c⟩ hk => b.foot_lt (by rw [c] at hk; exact hk)⟩
section
variable {W : World} {N : Nat} {c : Nat → Res} {F : Nat → Prop} {z : World} {Lr L' : List Bk.Seal} {qb cb vb : Nat} {b b' : Bk.Book} {key : Int} {L : List Bk.Sgn} {r i : Nat}
/-- A call of a book of the reference, into its ring. -/
theorem at_qbook (h : At W N c F z) (g : Gl W) (hr : r < N) (hi : i < N) (hri : r ≠ i) (er : c r = QRingC W.heap.size qb Lr) (ei : c i = QBookC W.heap.size cb qb b) {Q : Ending → Prop} {fn : FuncId} {args : Array Value}
    (k : ∀ q br, q.qb = qb → br.cb = cb → QBoth W.heap.size z q br ⟨Lr, b⟩ → Calls Tryz.prog fn args z fun e z' => Q e ∧ ∃ q' br', QMoved W.heap.size q br ⟨L', b'⟩ z z' q' br') :
    Calls Tryz.prog fn args z fun e z' => Q e ∧ At W N (setC (setC c r (QRingC W.heap.size qb L')) i (QBookC W.heap.size cb qb b')) F z' ∧ MovesN W F z z' := by
  refine At.call2 h hr hi hri (QRingC.stab _ _ _) (QBookC.stab _ _ _ _) (Q := Q) fun f g' hf hg hd => ?_
  rw [er] at hf
  rw [ei] at hg
  obtain ⟨q, a1, a2, rfl⟩ := hf
  obtain ⟨br, b1, b2, rfl⟩ := hg
  refine (k q br a1 b1 ⟨a2, by rw [a1]; exact b2, hd⟩).mono ?_
  rintro e z' ⟨hq, q', br', mv⟩
  refine ⟨hq, q'.foot, br'.foot, ⟨q', mv.qb.trans a1, mv.both.ring, rfl⟩, ⟨br', mv.cb.trans b1, ?_, rfl⟩, mv.upd, mv.f1, mv.f2, mv.both.dis⟩
  have := mv.both.book
  rw [mv.qb, a1] at this
  exact this
theorem at_qappend (h : At W N c F z) (g : Gl W) (hr : r < N) (hi : i < N) (hri : r ≠ i) (er : c r = QRingC W.heap.size qb Lr) (ei : c i = QBookC W.heap.size cb qb b) (t : List UInt8) (ht : t.length ≤ 1000000) :
    Calls Tryz.prog 21 #[.pointer (some ⟨cb, 0, none⟩), .string ⟨t.toArray⟩] z fun e w' => e = .returned (.tuple #[.int .i64 (Bk.append b t).1.1, .int .i64 (Bk.append b t).1.2]) ∧ At W N (setC (setC c r (QRingC W.heap.size qb Lr)) i (QBookC W.heap.size cb qb (Bk.append b t).2)) F w' ∧ MovesN W F z w' := by
  have hg := h.gl g
  have hB := h.nw0.size
  refine at_qbook h g hr hi hri er ei fun q br e1 e2 hb => ?_
  rw [← e2]
  refine (append_q _ br q.qb b t z hg hb.book hB (by omega)).mono ?_
  rintro e w' ⟨br', rfl, c1, c2, u, hf⟩
  exact ⟨rfl, _, _, qmoved_app hb c1 c2 u hf⟩
theorem at_qentry (h : At W N c F z) (g : Gl W) (hr : r < N) (hi : i < N) (hri : r ≠ i) (er : c r = QRingC W.heap.size qb Lr) (ei : c i = QBookC W.heap.size cb qb b) (j : Int) (hj : I64 j) (hL : Lr.length ≤ 1000000) {y : Bk.Sgn} {e0 : Int} {L' : List Bk.Seal} (e : Bk.entry Lr b j = ((y, e0), L')) :
    Calls Tryz.prog 86 #[.pointer (some ⟨cb, 0, none⟩), .int .i64 j] z fun e w' => e = .returned (.tuple #[.agg #[.int .i64 y.key, .string ⟨y.text.toArray⟩, .int .i64 y.mark], .int .i64 e0]) ∧ At W N (setC (setC c r (QRingC W.heap.size qb L')) i (QBookC W.heap.size cb qb b)) F w' ∧ MovesN W F z w' := by
  have hg := h.gl g
  have hB := h.nw0.size
  refine at_qbook h g hr hi hri er ei fun q br e1 e2 hb => ?_
  rw [← e2]
  refine (entry_q _ q br Lr b j z hg hb.ring hb.book hb.dis hB hj hL).mono ?_
  rintro _ w' ⟨q', rfl, c1, c2, u, hf⟩
  rw [e] at c1 ⊢
  exact ⟨rfl, _, _, qmoved_sgn hb c1 c2 u hf⟩
theorem at_qhead (h : At W N c F z) (g : Gl W) (hr : r < N) (hi : i < N) (hri : r ≠ i) (er : c r = QRingC W.heap.size qb Lr) (ei : c i = QBookC W.heap.size cb qb b) (j : Int) (hj : I64 j) (hL : Lr.length ≤ 1000000) {y : Bk.Sgn} {e0 : Int} {L' : List Bk.Seal} {b' : Bk.Book} (e : Bk.head Lr b j = ((y, e0), L', b')) :
    Calls Tryz.prog 85 #[.pointer (some ⟨cb, 0, none⟩), .int .i64 j] z fun e w' => e = .returned (.tuple #[.agg #[.int .i64 y.key, .string ⟨y.text.toArray⟩, .int .i64 y.mark], .int .i64 e0]) ∧ At W N (setC (setC c r (QRingC W.heap.size qb L')) i (QBookC W.heap.size cb qb b')) F w' ∧ MovesN W F z w' := by
  have hg := h.gl g
  have hB := h.nw0.size
  refine at_qbook h g hr hi hri er ei fun q br e1 e2 hb => ?_
  rw [← e2]
  refine (head_q _ q br Lr b j z hg hb.ring hb.book hB hj hb.dis hL).mono ?_
  rintro _ w' ⟨q', rfl, c1, c2, c3, u, hf⟩
  rw [e] at c1 c3 ⊢
  exact ⟨rfl, _, _, qmoved_head (x' := ⟨L', b'⟩) hb c1 c3 c2 u hf⟩
theorem at_qabsent (h : At W N c F z) (g : Gl W) (hr : r < N) (hi : i < N) (hri : r ≠ i) (er : c r = QRingC W.heap.size qb Lr) (ei : c i = QBookC W.heap.size cb qb b) (k : List UInt8) (j : Int) (hj : I64 j) (hk : k.length ≤ 1000000) (hL : Lr.length ≤ 1000000) {y : Bk.Sgn} {e0 : Int} {L' : List Bk.Seal} (e : Bk.absent Lr b k j = ((y, e0), L')) :
    Calls Tryz.prog 87 #[.pointer (some ⟨cb, 0, none⟩), .string ⟨k.toArray⟩, .int .i64 j] z fun e w' => e = .returned (.tuple #[.agg #[.int .i64 y.key, .string ⟨y.text.toArray⟩, .int .i64 y.mark], .int .i64 e0]) ∧ At W N (setC (setC c r (QRingC W.heap.size qb L')) i (QBookC W.heap.size cb qb b)) F w' ∧ MovesN W F z w' := by
  have hg := h.gl g
  have hB := h.nw0.size
  refine at_qbook h g hr hi hri er ei fun q br e1 e2 hb => ?_
  rw [← e2]
  refine (absent_q _ q br Lr b k j z hg hb.ring hb.book hb.dis hB hj (by omega) hL).mono ?_
  rintro _ w' ⟨q', rfl, c1, c2, u, hf⟩
  rw [e] at c1 ⊢
  exact ⟨rfl, _, _, qmoved_sgn hb c1 c2 u hf⟩
theorem at_qviewAt (h : At W N c F z) (hi : i < N) (ei : c i = QViewC W.heap.size vb qb key L) : ∃ q, q.cb = vb ∧ QViewAt W.heap.size z q qb key L := by
  obtain ⟨f, hf⟩ := h.get hi
  rw [ei] at hf
  obtain ⟨q, a, b, _⟩ := hf
  exact ⟨q, a, b⟩
theorem at_qaccept (h : At W N c F z) (g : Gl W) (hr : r < N) (hi : i < N) (hri : r ≠ i) (er : c r = QRingC W.heap.size qb Lr) (ei : c i = QViewC W.heap.size vb qb key L) (hn : Lr.Nodup) (hLr : Lr.length ≤ 1000000) (hv : Vw.VOk Lr key L) (s : Bk.Sgn) (hs : SgnOk s) (hL : L.length ≤ 900000) :
    Calls Tryz.prog 95 #[.pointer (some ⟨vb, 0, none⟩), .agg #[.int .i64 s.key, .string ⟨s.text.toArray⟩, .int .i64 s.mark]] z fun e w' =>
      e = .returned (.int .i64 (Vw.accept Lr key L s).1) ∧ At W N (setC c i (QViewC W.heap.size vb qb key (Vw.accept Lr key L s).2)) F w' ∧ MovesN W F z w' := by
  have hg := h.gl g
  have hB := h.nw0.size
  refine At.callR h hi hr (Ne.symm hri) (QViewC.stab _ _ _ _ _) (Q := fun e => e = .returned (.int .i64 (Vw.accept Lr key L s).1)) fun f g' hf hg' hd => ?_
  rw [ei] at hf
  rw [er] at hg'
  obtain ⟨r, a1, a2, rfl⟩ := hf
  obtain ⟨q, b1, b2, rfl⟩ := hg'
  rw [← a1]
  rw [← b1] at a2
  refine (acceptv_q _ _ r q key Lr L s z hg b2 hn hLr a2 (fun s hs => (hv.each s hs).2.2) hs hB hL).mono ?_
  rintro _ w' ⟨r', rfl, c1, c2, u, hf⟩
  rw [b1] at c1
  exact ⟨rfl, r'.foot, ⟨r', c2, c1, rfl⟩, u, hf⟩
theorem at_qclash (h : At W N c F z) (g : Gl W) (hi : i < N) (ei : c i = QViewC W.heap.size vb qb key L) (hv : Vw.VOk Lr key L) (s : Bk.Sgn) (hs : SgnOk s) (hL : L.length ≤ 900000) :
    Calls Tryz.prog 94 #[.pointer (some ⟨vb, 0, none⟩), .agg #[.int .i64 s.key, .string ⟨s.text.toArray⟩, .int .i64 s.mark]] z fun e w' => e = .returned (.tuple #[sgnV (Vw.clash L s).1, .bool (Vw.clash L s).2]) ∧ Nw z w' := by
  obtain ⟨r, a, b⟩ := at_qviewAt h hi ei
  rw [← a]
  exact clash_q _ r qb key L z (h.gl g) b (fun s hs => (hv.each s hs).2.2) s hs hL
theorem at_qage (h : At W N c F z) (g : Gl W) (hi : i < N) (ei : c i = QViewC W.heap.size vb qb key L) (hv : Vw.VOk Lr key L) (hL : L.length ≤ 900000) (now : Int) (hn : I64 now) :
    Calls Tryz.prog 96 #[.pointer (some ⟨vb, 0, none⟩), .int .i64 now] z fun e w' => e = .returned (.int .i64 (Vw.age L now)) ∧ Nw z w' := by
  obtain ⟨r, a, b⟩ := at_qviewAt h hi ei
  rw [← a]
  exact agev_q _ r qb key L z (h.gl g) b (fun s hs => (hv.each s hs).2.2) hL now hn (size_timeK hv)
theorem At.oneQBook (h : At W N c F z) (hg : nG ≤ W.heap.size) {q : QBook} {z' : World} (u : Nw z z') (hq : QBookAt z.heap.size z' q qb b) : At W (N + 1) (setC c N (QBookC W.heap.size q.cb qb b)) F z' := by
  have hww := h.nw0.size
  exact h.push u (QBookC.stab _ _ _ _) (f' := q.foot) ⟨q, rfl, ⟨hg, Nat.le_trans hww hq.cb, hq.blk, owns_base hq.own hww, hq.keys, hq.len, hq.last, hq.told, hq.key⟩, rfl⟩ (fun j hj => (hq.foot_lt hj).1)
theorem At.oneQView (h : At W N c F z) (hg : nG ≤ W.heap.size) {q : QView} {z' : World} (u : Nw z z') (hq : QViewAt z.heap.size z' q qb key L) : At W (N + 1) (setC c N (QViewC W.heap.size q.cb qb key L)) F z' :=
  h.push u (QViewC.stab _ _ _ _ _) (f' := q.foot) ⟨q, rfl, hq.base h.nw0.size hg, rfl⟩ (fun j hj => (hq.foot_lt hj).1)
end
abbrev tQMir : TypeId := 72
/-! ### A mirror -/
structure QMirAt (B : Nat) (w : World) (x : MirR) (m : Mi.Mir) : Prop where
  hb : nG ≤ B
  mb : B ≤ x.mb
  blk : w.heap[x.mb]? = some (.cells (mirC x m) tQMir (0, 0))
  sown : ∀ i, i < 3 → w.ownsRow B tSigned 3 (x.sv i) (m.l i).length (flatS (m.l i))
  cown : w.ownsRow B tStrM 1 x.cv m.cs.length (m.cs.map bsM)
  dis : ∀ i k, i < 3 → k < 3 → i ≠ k → ∀ j, (x.sv i).ownBlock = some j → (x.sv k).ownBlock ≠ some j
  len : (∀ i, i < 3 → (m.l i).length ≤ 1000000) ∧ m.cs.length ≤ 1000000
  mode : 0 ≤ m.mode ∧ m.mode < 5
  oks : ∀ i, i < 3 → ∀ s ∈ m.l i, SmS s
  cok : ∀ s ∈ m.cs, s.length ≤ 1000000
section
variable {B : Nat} {w w' : World} {x : MirR} {m : Mi.Mir}
theorem QMirAt.foot_lt (h : QMirAt B w x m) {k : Nat} (hk : x.foot k) : B ≤ k ∧ k < w.heap.size := by
  rcases hk with rfl | ⟨i, hi, hk⟩ | hk
  · exact ⟨h.mb, lt_of_block h.blk⟩
  · obtain ⟨h1, cs, h2⟩ := own_blockM (h.sown i hi) hk
    exact ⟨h1, lt_of_block h2⟩
  · obtain ⟨h1, cs, h2⟩ := own_blockM h.cown hk
    exact ⟨h1, lt_of_block h2⟩
theorem QMirAt.upd {S : Nat → Prop} (h : QMirAt B w x m) (u : Upd S w w') (hs : ∀ k, x.foot k → ¬ S k) : QMirAt B w' x m :=
  ⟨h.hb, h.mb, u.keep h.blk (hs _ (Or.inl rfl)), fun i hi => owns_upd' (h.sown i hi) u (fun k hk => hs k (Or.inr (Or.inl ⟨i, hi, hk⟩))), owns_upd' h.cown u (fun k hk => hs k (Or.inr (Or.inr hk))), h.dis, h.len, h.mode, h.oks, h.cok⟩
theorem QMirAt.nw (h : QMirAt B w x m) (u : Nw w w') : QMirAt B w' x m := h.upd u (fun _ _ s => s)
theorem QMirAt.ne (h : QMirAt B w x m) {i : Nat} (hi : i < 3) : (x.sv i).ownBlock ≠ some x.mb := fun e => by
  obtain ⟨_, cs, e2⟩ := own_blockM (h.sown i hi) e
  rw [h.blk] at e2
  injection e2 with e2
  injection e2 with _ e2
  exact absurd e2 (by decide)
theorem QMirAt.nec (h : QMirAt B w x m) : x.cv.ownBlock ≠ some x.mb := fun e => by
  obtain ⟨_, cs, e2⟩ := own_blockM h.cown e
  rw [h.blk] at e2
  injection e2 with e2
  injection e2 with _ e2
  exact absurd e2 (by decide)
theorem QMirAt.nesc (h : QMirAt B w x m) {i : Nat} (hi : i < 3) {j : Nat} (hj : (x.sv i).ownBlock = some j) : x.cv.ownBlock ≠ some j := fun e => by
  obtain ⟨_, cs, e2⟩ := own_blockM h.cown e
  obtain ⟨_, cs2, e3⟩ := own_blockM (h.sown i hi) hj
  rw [e2] at e3
  injection e3 with e3
  injection e3 with _ e3
  exact absurd e3 (by decide)
theorem QMirAt.cells (h : QMirAt B w x m) :
    w.cell? ⟨x.mb, 0, none⟩ = some (.int .i64 m.mode) ∧ w.cell? ⟨x.mb, 1, none⟩ = some (x.sv 0) ∧ w.cell? ⟨x.mb, 2, none⟩ = some (x.sv 1) ∧ w.cell? ⟨x.mb, 3, none⟩ = some (x.sv 2) ∧ w.cell? ⟨x.mb, 4, none⟩ = some x.cv := by
  refine ⟨?_, ?_, ?_, ?_, ?_⟩ <;> (rw [cells_cell h.blk]; rfl)
/-- What a call makes of a mirror. -/
def QMirTo (B : Nat) (x : MirR) (m' : Mi.Mir) (w w' : World) : Prop := ∃ x', x'.mb = x.mb ∧ QMirAt B w' x' m' ∧ Upd x.foot w w' ∧ ∀ k, x'.foot k → x.foot k ∨ w.heap.size ≤ k
/-- One more signature in a list. -/
theorem qmir_push (h : QMirAt B w x m) {ws : World} {i : Nat} (hi : i < 3) {v' : Value} {y : Bk.Sgn} (hl : (m.l i).length + 1 ≤ 1000000) (hy : SmS y) (hown : ws.ownsRow B tSigned 3 v' ((m.l i).length + 1) (flatS (m.l i) ++ sgl y)) (uS : Upd (fun k => (x.sv i).ownBlock = some k) w ws) (oS : ∀ k, v'.ownBlock = some k → (x.sv i).ownBlock = some k ∨ w.heap.size ≤ k) :
    QMirTo B x (Mi.push m i y) w (ws.setCell ⟨x.mb, i + 1, none⟩ v') := by
  have hmb := h.mb
  have hb := h.hb
  have hlt := fun k hk => (h.foot_lt (k := k) hk).2
  have hjl := hlt x.mb (Or.inl rfl)
  have u1 : Upd (fun k => k = x.mb) ws (ws.setCell ⟨x.mb, i + 1, none⟩ v') := Upd.set1 (Upd.refl _ _) (by omega) (i + 1) v'
  have b3 := setCell_block (uS.keep h.blk (h.ne hi)) (i + 1) v'
  rw [cells_push x m hi v' y] at b3
  have hmine : ∀ k, v'.ownBlock = some k → k ≠ x.mb := fun k hk e => by
    subst e
    rcases oS _ hk with e | e
    · exact h.ne hi e
    · omega
  refine ⟨⟨x.mb, fun k => if k = i then v' else x.sv k, x.cv⟩, rfl, ⟨hb, hmb, b3, fun k hk => ?_, ?_, fun a k ha hk hak j hj => ?_, ⟨fun k hk => ?_, h.len.2⟩, h.mode, fun k hk s hs => ?_, h.cok⟩, ?_, fun k hk => ?_⟩
  · by_cases hki : k = i
    · subst hki
      dsimp only
      rw [if_pos rfl, Mi.push_self, List.length_append, List.length_singleton, flatS_snoc]
      exact owns_upd' hown u1 (fun k hk e => hmine k hk e)
    · dsimp only
      rw [if_neg hki, Mi.push_ne _ _ hki]
      exact owns_upd' (owns_upd' (h.sown k hk) uS (fun j hj e => h.dis k i hk hi hki j hj e)) u1 (fun j hj e => by subst e; exact h.ne hk hj)
  · exact owns_upd' (owns_upd' h.cown uS (fun j hj e => h.nesc hi e hj)) u1 (fun j hj e => by subst e; exact h.nec hj)
  · dsimp only at hj ⊢
    by_cases hai : a = i
    · subst hai
      rw [if_pos rfl] at hj
      rw [if_neg (Ne.symm hak)]
      intro e
      rcases oS _ hj with q | q
      · exact h.dis a k ha hk hak j q e
      · have := hlt j (Or.inr (Or.inl ⟨k, hk, e⟩)); omega
    · rw [if_neg hai] at hj
      by_cases hki : k = i
      · subst hki
        rw [if_pos rfl]
        intro e
        rcases oS _ e with q | q
        · exact h.dis a k ha hk hak j hj q
        · have := hlt j (Or.inr (Or.inl ⟨a, ha, hj⟩)); omega
      · rw [if_neg hki]
        exact h.dis a k ha hk hak j hj
  · by_cases hki : k = i
    · subst hki
      rw [Mi.push_self, List.length_append, List.length_singleton]; exact hl
    · rw [Mi.push_ne _ _ hki]; exact h.len.1 k hk
  · by_cases hki : k = i
    · subst hki
      rw [Mi.push_self, List.mem_append, List.mem_singleton] at hs
      rcases hs with hs | rfl
      · exact h.oks k hk s hs
      · exact hy
    · rw [Mi.push_ne _ _ hki] at hs; exact h.oks k hk s hs
  · exact (uS.mono (fun k _ e => Or.inr (Or.inl ⟨i, hi, e⟩))).trans' u1 (fun k _ e => Or.inl e)
  · rcases hk with hk | ⟨a, ha, hk⟩ | hk
    · exact Or.inl (Or.inl hk)
    · dsimp only at hk
      by_cases hai : a = i
      · subst hai
        rw [if_pos rfl] at hk
        exact (oS k hk).imp (fun e => Or.inr (Or.inl ⟨a, ha, e⟩)) id
      · rw [if_neg hai] at hk
        exact Or.inl (Or.inr (Or.inl ⟨a, ha, hk⟩))
    · exact Or.inl (Or.inr (Or.inr hk))
/-- Its contents anew. -/
theorem qmir_contents (h : QMirAt B w x m) {ws : World} {v' : Value} {cs : List (List UInt8)} (hl : cs.length ≤ 1000000) (hc : ∀ s ∈ cs, s.length ≤ 1000000) (hown : ws.ownsRow w.heap.size tStrM 1 v' cs.length (cs.map bsM)) (u : Nw w ws) :
    QMirTo B x { m with cs := cs } w (ws.setCell ⟨x.mb, 4, none⟩ v') := by
  have hmb := h.mb
  have hb := h.hb
  have hlt := fun k hk => (h.foot_lt (k := k) hk).2
  have hjl := hlt x.mb (Or.inl rfl)
  have u1 : Upd (fun k => k = x.mb) ws (ws.setCell ⟨x.mb, 4, none⟩ v') := Upd.set1 (Upd.refl _ _) (by omega) 4 v'
  have b3 := setCell_block (u.keep h.blk) 4 v'
  have hn : ∀ j, v'.ownBlock = some j → w.heap.size ≤ j := fun j hj => (own_blockM hown hj).1
  refine ⟨⟨x.mb, x.sv, v'⟩, rfl, ⟨hb, hmb, b3, fun k hk => owns_upd' (owns_upd' (h.sown k hk) u (fun _ _ e => e)) u1 (fun j hj e => by subst e; exact h.ne hk hj), ?_, h.dis, ⟨h.len.1, hl⟩, h.mode, h.oks, hc⟩, ?_, fun k hk => ?_⟩
  · exact owns_upd' (owns_base hown (by have := h.mb; omega)) u1 (fun j hj e => by subst e; have := hn _ hj; omega)
  · exact (Nw.upd _ u).trans' u1 (fun k _ e => Or.inl e)
  · rcases hk with hk | ⟨a, ha, hk⟩ | hk
    · exact Or.inl (Or.inl hk)
    · exact Or.inl (Or.inr (Or.inl ⟨a, ha, hk⟩))
    · exact Or.inr (hn k hk)
end
def QMirC (B mb : Nat) (m : Mi.Mir) : Res := fun f z => ∃ x, x.mb = mb ∧ QMirAt B z x m ∧ f = x.foot
theorem QMirC.stab (B mb : Nat) (m : Mi.Mir) : Stab B (QMirC B mb m) :=
  ⟨fun {f w w' S} ⟨q, a, b, c⟩ u hs => ⟨q, a, b.upd u (fun k hk => hs k (by rw [c]; exact hk)), c⟩, fun {f w k} ⟨q, a, b, c⟩ hk => b.foot_lt (by rw [c] at hk; exact hk)⟩
section
variable {W : World} {N : Nat} {c : Nat → Res} {F : Nat → Prop} {z : World} {mb : Nat} {m : Mi.Mir} {i : Nat}
theorem at_qmirAt (h : At W N c F z) (hi : i < N) (ei : c i = QMirC W.heap.size mb m) : ∃ q, q.mb = mb ∧ QMirAt W.heap.size z q m := by
  obtain ⟨f, hf⟩ := h.get hi
  rw [ei] at hf
  obtain ⟨q, a, b, _⟩ := hf
  exact ⟨q, a, b⟩
end

theorem At.oneQMir {W : World} {N : Nat} {c : Nat → Res} {F : Nat → Prop} {z : World} (h : At W N c F z) (hg : nG ≤ W.heap.size) {x : MirR} {m : Mi.Mir} {z' : World} (u : Nw z z') (hx : QMirAt z.heap.size z' x m) : At W (N + 1) (setC c N (QMirC W.heap.size x.mb m)) F z' := by
  have hww := h.nw0.size
  exact h.push u (QMirC.stab _ _ _) (f' := x.foot) ⟨x, rfl, ⟨hg, Nat.le_trans hww hx.mb, hx.blk, fun i hi => owns_base (hx.sown i hi) hww, owns_base hx.cown hww, hx.dis, hx.len, hx.mode, hx.oks, hx.cok⟩, rfl⟩ (fun j hj => (hx.foot_lt hj).1)
theorem qmir_fresh (w : World) (hg : nG ≤ w.heap.size) (mode : Int) (hm : 0 ≤ mode ∧ mode < 5) {w' : World} (hb : w'.heap[w.heap.size]? = some (.cells #[.int .i64 mode, .slice none 0 0, .slice none 0 0, .slice none 0 0, .slice none 0 0] tQMir (0, 0))) :
    QMirAt w.heap.size w' ⟨w.heap.size, fun _ => .slice none 0 0, .slice none 0 0⟩ (Mi.fresh mode) :=
  ⟨hg, Nat.le_refl _, hb, fun i hi => ⟨rfl, Or.inl ⟨rfl, rfl⟩⟩, ⟨rfl, Or.inl ⟨rfl, rfl⟩⟩, fun i k hi hk hik j hj => (by cases hj), ⟨fun i hi => Nat.zero_le _, Nat.zero_le _⟩, hm, fun i hi s hs => (by cases hs), fun s hs => (by cases hs)⟩
set_option maxRecDepth 100000 in
theorem mnew_q (mode : Int) (hi : I64 mode) (w : World) (g : Gl w) : Calls Tryz.prog 19 #[.int .i64 mode] w fun e w' =>
    (0 ≤ mode ∧ mode < 5 ∧ ∃ x : MirR, e = .returned (.pointer (some ⟨x.mb, 0, none⟩)) ∧ QMirAt w.heap.size w' x (Mi.fresh mode) ∧ Nw w w') ∨ (¬ (0 ≤ mode ∧ mode < 5) ∧ e = .returned (.pointer none) ∧ Nw w w') := by
  have hgb := g.big
  by_cases h0 : mode < 0
  · have hd : decide (mode < 0) = true := decide_eq_true h0
    have hr : Hid (¬ (0 ≤ mode ∧ mode < 5)) := fun h => by omega
    clear h0
    go_enter Tryz.func19, Tryz.ntmps19
    go_wp2_with fail
    go_ret
    exact Or.inr ⟨hr.out, rfl, Upd.refl _ _⟩
  have hd : decide (mode < 0) = false := decide_eq_false h0
  by_cases h1 : 5 ≤ mode
  · have hd1 : decide (5 ≤ mode) = true := decide_eq_true h1
    have hr : Hid (¬ (0 ≤ mode ∧ mode < 5)) := fun h => by omega
    clear h0 h1
    go_enter Tryz.func19, Tryz.ntmps19
    go_wp2_with fail
    go_ret
    exact Or.inr ⟨hr.out, rfl, Upd.refl _ _⟩
  have hd1 : decide (5 ≤ mode) = false := decide_eq_false h1
  have hr : Hid (0 ≤ mode ∧ mode < 5) := ⟨by omega, by omega⟩
  clear h0 h1
  have HM := Lib.hid (qmir_fresh w hgb mode hr.out (heap_new w (.cells #[.int .i64 mode, .slice none 0 0, .slice none 0 0, .slice none 0 0, .slice none 0 0] tQMir)))
  go_enter Tryz.func19, Tryz.ntmps19
  go_wp2_with fail
  go_ret
  exact Or.inl ⟨hr.out.1, hr.out.2, _, rfl, HM.out, nw_alloc w _⟩
/-- Half of a list, if the mirror cuts. -/
theorem half_q (mb : Nat) (mode : Int) (n k : Nat) (hk : k = if mode = 2 then n / 2 else n) (hn : n ≤ 1000000) (w : World) (hc : w.cell? ⟨mb, 0, none⟩ = some (.int .i64 mode)) :
    Calls Tryz.prog 88 #[.pointer (some ⟨mb, 0, none⟩), .int .i64 (n : Int)] w fun e w' => e = .returned (.int .i64 (k : Int)) ∧ Nw w w' := by
  have hn1 : (n : Int) ≤ 1000000 := by omega
  by_cases h2 : mode = 2
  · have hb : (mode == 2) = true := by simp [h2]
    rw [if_pos h2] at hk
    have hr : Hid ((k : Int) = (n : Int) / 2) := by show _ = _; omega
    clear h2 hk
    go_enter Tryz.func88, Tryz.ntmps88
    go_wp2_with fail
    go_ret
    exact ⟨by rw [hr.out]; rfl, Upd.refl _ _⟩
  · have hb : (mode == 2) = false := by simp [h2]
    rw [if_neg h2] at hk
    have hr : Hid (k = n) := hk
    clear h2 hk
    go_enter Tryz.func88, Tryz.ntmps88
    go_wp2_with fail
    go_ret
    exact ⟨by rw [hr.out]; rfl, Upd.refl _ _⟩
end Go.Proofs.YtagmlemlagbfkaaGreatDoor
