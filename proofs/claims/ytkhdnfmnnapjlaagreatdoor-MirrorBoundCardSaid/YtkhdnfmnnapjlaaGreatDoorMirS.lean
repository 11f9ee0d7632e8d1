/- Rings, books, views and mirrors side by side: what each call of layers 7 and 8 leaves of them, wherever they stand. A mirror in memory. -/
import Derived.Test.YtkhdnfmnnapjlaaGreatDoorGosH
import Derived.Test.YtkhdnfmnnapjlaaGreatDoorMirP
namespace Go.Proofs.YtkhdnfmnnapjlaaGreatDoor
open Go.RowKit
set_option linter.unusedVariables false
set_option linter.unusedSimpArgs false
attribute [local irreducible] Calls

section
variable {W : World} {N : Nat} {c : Nat → Res} {F : Nat → Prop} {z : World} {Lr L' : List Bk.Seal} {rb bb vb : Nat} {b b' : Bk.Book} {key : Int} {L : List Bk.Sgn} {r i : Nat}
theorem setC_setC (c : Nat → Res) (i : Nat) (P Q : Res) : setC (setC c i P) i Q = setC c i Q := by
  funext k
  by_cases h : k = i
  · subst h; rw [setC_self, setC_self]
  · rw [setC_ne _ _ h, setC_ne _ _ h, setC_ne _ _ h]
theorem setC_comm (c : Nat → Res) {i j : Nat} (P Q : Res) (h : i ≠ j) : setC (setC c i P) j Q = setC (setC c j Q) i P := by
  funext k
  by_cases hi : k = i
  · subst hi; rw [setC_ne _ _ h, setC_self, setC_self]
  · by_cases hj : k = j
    · subst hj; rw [setC_self, setC_ne _ _ hi, setC_self]
    · rw [setC_ne _ _ hj, setC_ne _ _ hi, setC_ne _ _ hi, setC_ne _ _ hj]
theorem setC_id (c : Nat → Res) (i : Nat) : setC c i (c i) = c := by
  funext k
  by_cases h : k = i
  · subst h; rw [setC_self]
  · rw [setC_ne _ _ h]
/-- A call of a book, into the ring. -/
theorem at_book (h : At W N c F z) (g : Gl W) (hr : r < N) (hi : i < N) (hri : r ≠ i) (er : c r = RingC W.heap.size rb Lr) (ei : c i = BookC W.heap.size bb rb b) {Q : Ending → Prop} {fn : FuncId} {args : Array Value}
    (k : ∀ q br, q.rb = rb → br.bb = bb → Both W.heap.size z q br ⟨Lr, b⟩ → Calls Tryz.prog fn args z fun e z' => Q e ∧ ∃ q' br', Moved W.heap.size q br ⟨L', b'⟩ z z' q' br') :
    Calls Tryz.prog fn args z fun e z' => Q e ∧ At W N (setC (setC c r (RingC W.heap.size rb L')) i (BookC W.heap.size bb rb b')) F z' ∧ MovesN W F z z' := by
  refine At.call2 h hr hi hri (RingC.stab _ _ _) (BookC.stab _ _ _ _) (Q := Q) fun f g' hf hg hd => ?_
  rw [er] at hf
  rw [ei] at hg
  obtain ⟨q, a1, a2, rfl⟩ := hf
  obtain ⟨br, b1, b2, rfl⟩ := hg
  refine (k q br a1 b1 ⟨a2, by rw [a1]; exact b2, hd⟩).mono ?_
  rintro e z' ⟨hq, q', br', mv⟩
  refine ⟨hq, q'.foot, br'.foot, ⟨q', mv.rb.trans a1, mv.both.ring, rfl⟩, ⟨br', mv.bb.trans b1, ?_, rfl⟩, mv.upd, mv.f1, mv.f2, mv.both.dis⟩
  have := mv.both.book
  rw [mv.rb, a1] at this
  exact this
theorem at_append (h : At W N c F z) (g : Gl W) (hr : r < N) (hi : i < N) (hri : r ≠ i) (er : c r = RingC W.heap.size rb Lr) (ei : c i = BookC W.heap.size bb rb b) (s : ByteArray) (t : List UInt8) (hs : s.data.toList = t) (ht : t.length ≤ 1000000) :
    Calls Tryz.prog 43 #[.pointer (some ⟨bb, 0, none⟩), .string s] z fun e w' => e = .returned (.tuple #[.int .i64 (Bk.append b t).1.1, .int .i64 (Bk.append b t).1.2]) ∧ At W N (setC (setC c r (RingC W.heap.size rb Lr)) i (BookC W.heap.size bb rb (Bk.append b t).2)) F w' ∧ MovesN W F z w' := by
  have hg := h.gl g
  have hB := h.nw0.size
  obtain rfl : s = ⟨t.toArray⟩ := by rw [← hs, bs_eta]
  refine at_book h g hr hi hri er ei fun q br e1 e2 hb => ?_
  rw [← e2]
  refine (append_b _ br q.rb b t z hg hb.book hB (by omega)).mono ?_
  rintro e w' ⟨br', rfl, c1, c2, u, hf⟩
  exact ⟨rfl, _, _, moved_app hb c1 c2 u hf⟩
theorem at_entry (h : At W N c F z) (g : Gl W) (hr : r < N) (hi : i < N) (hri : r ≠ i) (er : c r = RingC W.heap.size rb Lr) (ei : c i = BookC W.heap.size bb rb b) (j : Int) (hj : I64 j) (hL : Lr.length ≤ 1000000) {y : Bk.Sgn} {e0 : Int} {L' : List Bk.Seal} (e : Bk.entry Lr b j = ((y, e0), L')) :
    Calls Tryz.prog 58 #[.pointer (some ⟨bb, 0, none⟩), .int .i64 j] z fun e w' => e = .returned (.tuple #[.agg #[.int .i64 y.key, .string ⟨y.text.toArray⟩, .int .i64 y.mark], .int .i64 e0]) ∧ At W N (setC (setC c r (RingC W.heap.size rb L')) i (BookC W.heap.size bb rb b)) F w' ∧ MovesN W F z w' := by
  have hg := h.gl g
  have hB := h.nw0.size
  refine at_book h g hr hi hri er ei fun q br e1 e2 hb => ?_
  rw [← e2]
  refine (entry_b _ q br Lr b j z hg hb.ring hb.book hB hj hL).mono ?_
  rintro _ w' ⟨q', rfl, c1, c2, u, hf⟩
  rw [e] at c1 ⊢
  exact ⟨rfl, _, _, moved_sgn hb c1 c2 u hf⟩
theorem at_head (h : At W N c F z) (g : Gl W) (hr : r < N) (hi : i < N) (hri : r ≠ i) (er : c r = RingC W.heap.size rb Lr) (ei : c i = BookC W.heap.size bb rb b) (j : Int) (hj : I64 j) (hL : Lr.length ≤ 1000000) {y : Bk.Sgn} {e0 : Int} {L' : List Bk.Seal} {b' : Bk.Book} (e : Bk.head Lr b j = ((y, e0), L', b')) :
    Calls Tryz.prog 57 #[.pointer (some ⟨bb, 0, none⟩), .int .i64 j] z fun e w' => e = .returned (.tuple #[.agg #[.int .i64 y.key, .string ⟨y.text.toArray⟩, .int .i64 y.mark], .int .i64 e0]) ∧ At W N (setC (setC c r (RingC W.heap.size rb L')) i (BookC W.heap.size bb rb b')) F w' ∧ MovesN W F z w' := by
  have hg := h.gl g
  have hB := h.nw0.size
  refine at_book h g hr hi hri er ei fun q br e1 e2 hb => ?_
  rw [← e2]
  refine (head_b _ q br Lr b j z hg hb.ring hb.book hB hj hb.dis hL).mono ?_
  rintro _ w' ⟨q', rfl, c1, c2, c3, u, hf⟩
  rw [e] at c1 c3 ⊢
  exact ⟨rfl, _, _, moved_head (x' := ⟨L', b'⟩) hb c1 c3 c2 u hf⟩
theorem at_absent (h : At W N c F z) (g : Gl W) (hr : r < N) (hi : i < N) (hri : r ≠ i) (er : c r = RingC W.heap.size rb Lr) (ei : c i = BookC W.heap.size bb rb b) (k : List UInt8) (j : Int) (hj : I64 j) (hk : k.length ≤ 1000000) (hL : Lr.length ≤ 1000000) {y : Bk.Sgn} {e0 : Int} {L' : List Bk.Seal} (e : Bk.absent Lr b k j = ((y, e0), L')) :
    Calls Tryz.prog 59 #[.pointer (some ⟨bb, 0, none⟩), .string ⟨k.toArray⟩, .int .i64 j] z fun e w' => e = .returned (.tuple #[.agg #[.int .i64 y.key, .string ⟨y.text.toArray⟩, .int .i64 y.mark], .int .i64 e0]) ∧ At W N (setC (setC c r (RingC W.heap.size rb L')) i (BookC W.heap.size bb rb b)) F w' ∧ MovesN W F z w' := by
  have hg := h.gl g
  have hB := h.nw0.size
  refine at_book h g hr hi hri er ei fun q br e1 e2 hb => ?_
  rw [← e2]
  refine (absent_b _ q br Lr b k j z hg hb.ring hb.book hB hj (by omega) hL).mono ?_
  rintro _ w' ⟨q', rfl, c1, c2, u, hf⟩
  rw [e] at c1 ⊢
  exact ⟨rfl, _, _, moved_sgn hb c1 c2 u hf⟩
theorem at_bookAt (h : At W N c F z) (hi : i < N) (ei : c i = BookC W.heap.size bb rb b) : ∃ q, q.bb = bb ∧ BookAt W.heap.size z q rb b := by
  obtain ⟨f, hf⟩ := h.get hi
  rw [ei] at hf
  obtain ⟨q, a, b, _⟩ := hf
  exact ⟨q, a, b⟩
theorem at_ringAt (h : At W N c F z) (hr : r < N) (er : c r = RingC W.heap.size rb Lr) : ∃ q, q.rb = rb ∧ RingAt W.heap.size z q Lr := by
  obtain ⟨f, hf⟩ := h.get hr
  rw [er] at hf
  obtain ⟨q, a, b, _⟩ := hf
  exact ⟨q, a, b⟩
theorem at_viewAt (h : At W N c F z) (hi : i < N) (ei : c i = ViewC W.heap.size vb rb key L) : ∃ q, q.vb = vb ∧ ViewAt W.heap.size z q rb key L := by
  obtain ⟨f, hf⟩ := h.get hi
  rw [ei] at hf
  obtain ⟨q, a, b, _⟩ := hf
  exact ⟨q, a, b⟩
theorem at_len (h : At W N c F z) (hi : i < N) (ei : c i = BookC W.heap.size bb rb b) :
    Calls Tryz.prog 18 #[.pointer (some ⟨bb, 0, none⟩)] z fun e w' => e = .returned (.int .i64 b.es.length) ∧ Nw z w' := by
  obtain ⟨q, rfl, hq⟩ := at_bookAt h hi ei
  exact len_b _ _ _ _ _ hq
theorem at_accept (h : At W N c F z) (g : Gl W) (hr : r < N) (hi : i < N) (hri : r ≠ i) (er : c r = RingC W.heap.size rb Lr) (ei : c i = ViewC W.heap.size vb rb key L) (hv : Vw.VOk Lr key L) (s : Bk.Sgn) (hs : SgnOk s) (hL : L.length ≤ 900000) :
    Calls Tryz.prog 13 #[.pointer (some ⟨vb, 0, none⟩), .agg #[.int .i64 s.key, .string ⟨s.text.toArray⟩, .int .i64 s.mark]] z fun e w' =>
      e = .returned (.int .i64 (Vw.accept Lr key L s).1) ∧ At W N (setC c i (ViewC W.heap.size vb rb key (Vw.accept Lr key L s).2)) F w' ∧ MovesN W F z w' := by
  have hg := h.gl g
  have hB := h.nw0.size
  refine At.callR h hi hr (Ne.symm hri) (ViewC.stab _ _ _ _ _) (Q := fun e => e = .returned (.int .i64 (Vw.accept Lr key L s).1)) fun f g' hf hg' hd => ?_
  rw [ei] at hf
  rw [er] at hg'
  obtain ⟨r, a1, a2, rfl⟩ := hf
  obtain ⟨q, b1, b2, rfl⟩ := hg'
  rw [← a1]
  rw [← b1] at a2
  refine (accept_v _ _ r q key Lr L s z hg b2 a2 hv hs hB hL).mono ?_
  rintro _ w' ⟨r', rfl, c1, c2, u, hf⟩
  rw [b1] at c1
  exact ⟨rfl, r'.foot, ⟨r', c2, c1, rfl⟩, u, hf⟩
theorem at_clash (h : At W N c F z) (g : Gl W) (hi : i < N) (ei : c i = ViewC W.heap.size vb rb key L) (hv : Vw.VOk Lr key L) (s : Bk.Sgn) (hs : SgnOk s) (hL : L.length ≤ 900000) :
    Calls Tryz.prog 53 #[.pointer (some ⟨vb, 0, none⟩), .agg #[.int .i64 s.key, .string ⟨s.text.toArray⟩, .int .i64 s.mark]] z fun e w' => e = .returned (.tuple #[sgnV (Vw.clash L s).1, .bool (Vw.clash L s).2]) ∧ Nw z w' := by
  obtain ⟨r, a, b⟩ := at_viewAt h hi ei
  rw [← a]
  exact clash_v _ r rb key L s z (h.gl g) b (fun s hs => (hv.each s hs).2.2) hs hL
/-- A ring made anew. -/
theorem At.oneRing (h : At W N c F z) (hg : nG ≤ W.heap.size) {q : RingR} {z' : World} (u : Nw z z') (hq : RingAt z.heap.size z' q Lr) (hb : RingAt W.heap.size z' q Lr) : At W (N + 1) (setC c N (RingC W.heap.size q.rb Lr)) F z' :=
  h.push u (RingC.stab _ _ _) (f' := q.foot) ⟨q, rfl, hb, rfl⟩ (fun j hj => (hq.foot_lt hj).1)
theorem At.oneView (h : At W N c F z) (hg : nG ≤ W.heap.size) {r' : ViewR} {z' : World} (u : Nw z z') (hr : ViewAt z.heap.size z' r' rb key []) : At W (N + 1) (setC c N (ViewC W.heap.size r'.vb rb key [])) F z' := by
  have hww := h.nw0.size
  have hr2 : ViewAt W.heap.size z' r' rb key [] := ⟨hg, Nat.le_trans hww hr.vb, Nat.le_trans hww hr.eb, Nat.le_trans hww hr.ab, hr.ne, hr.blk, owns_base hr.sown hww, owns_base hr.cown hww, hr.emap, hr.amap, hr.key⟩
  exact h.push u (ViewC.stab W.heap.size r'.vb rb key []) (f' := r'.foot) ⟨r', rfl, hr2, rfl⟩ (fun j hj => (hr.foot_lt hj).1)
theorem At.oneBook (h : At W N c F z) (hg : nG ≤ W.heap.size) {r' : BookR} {z' : World} (u : Nw z z') (hr : BookAt z.heap.size z' r' rb b) : At W (N + 1) (setC c N (BookC W.heap.size r'.bb rb b)) F z' :=
  h.push u (BookC.stab W.heap.size r'.bb rb b) (f' := r'.foot) ⟨r', rfl, hr.base h.nw0.size hg, rfl⟩ (fun j hj => (hr.foot_lt hj).1)
end
/-! ### A mirror -/
abbrev tMir : TypeId := 101
abbrev tStrM : TypeId := 9
structure MirR where
  mb : Nat
  sv : Nat → Value
  cv : Value
def MirR.foot (x : MirR) (k : Nat) : Prop := k = x.mb ∨ (∃ i, i < 3 ∧ (x.sv i).ownBlock = some k) ∨ x.cv.ownBlock = some k
def mirC (x : MirR) (m : Mi.Mir) : Array Value := #[.int .i64 m.mode, x.sv 0, x.sv 1, x.sv 2, x.cv]
def bsM (l : List UInt8) : Value := .string ⟨l.toArray⟩
structure SmS (s : Bk.Sgn) : Prop where
  k : I64 s.key
  m : I64 s.mark
  t : s.text.length ≤ 1000000
theorem SmS.ok {s : Bk.Sgn} (h : SmS s) : SgnOk s := ⟨h.k, Nat.le_trans h.t (by decide), h.m⟩
structure MirAt (B : Nat) (w : World) (x : MirR) (m : Mi.Mir) : Prop where
  hb : nG ≤ B
  mb : B ≤ x.mb
  blk : w.heap[x.mb]? = some (.cells (mirC x m) tMir (0, 0))
  sown : ∀ i, i < 3 → w.ownsRow B tSigned 3 (x.sv i) (m.l i).length (flatS (m.l i))
  cown : w.ownsRow B tStrM 1 x.cv m.cs.length (m.cs.map bsM)
  dis : ∀ i k, i < 3 → k < 3 → i ≠ k → ∀ j, (x.sv i).ownBlock = some j → (x.sv k).ownBlock ≠ some j
  len : (∀ i, i < 3 → (m.l i).length ≤ 1000000) ∧ m.cs.length ≤ 1000000
  mode : 0 ≤ m.mode ∧ m.mode < 5
  oks : ∀ i, i < 3 → ∀ s ∈ m.l i, SmS s
  cok : ∀ s ∈ m.cs, s.length ≤ 1000000
section
variable {B : Nat} {w w' : World} {x : MirR} {m : Mi.Mir}
theorem own_blockM {e : TypeId} {size : Nat} {v : Value} {n : Nat} {xs : List Value} (h : w.ownsRow B e size v n xs) {k : Nat} (hk : v.ownBlock = some k) : B ≤ k ∧ ∃ cs, w.heap[k]? = some (.cells cs e (0, 0)) := own_block h hk
theorem MirAt.foot_lt (h : MirAt B w x m) {k : Nat} (hk : x.foot k) : B ≤ k ∧ k < w.heap.size := by
  rcases hk with rfl | ⟨i, hi, hk⟩ | hk
  · exact ⟨h.mb, lt_of_block h.blk⟩
  · obtain ⟨h1, cs, h2⟩ := own_blockM (h.sown i hi) hk
    exact ⟨h1, lt_of_block h2⟩
  · obtain ⟨h1, cs, h2⟩ := own_blockM h.cown hk
    exact ⟨h1, lt_of_block h2⟩
theorem MirAt.upd {S : Nat → Prop} (h : MirAt B w x m) (u : Upd S w w') (hs : ∀ k, x.foot k → ¬ S k) : MirAt B w' x m :=
  ⟨h.hb, h.mb, u.keep h.blk (hs _ (Or.inl rfl)), fun i hi => owns_upd' (h.sown i hi) u (fun k hk => hs k (Or.inr (Or.inl ⟨i, hi, hk⟩))), owns_upd' h.cown u (fun k hk => hs k (Or.inr (Or.inr hk))), h.dis, h.len, h.mode, h.oks, h.cok⟩
theorem MirAt.nw (h : MirAt B w x m) (u : Nw w w') : MirAt B w' x m := h.upd u (fun _ _ s => s)
theorem MirAt.ne (h : MirAt B w x m) {i : Nat} (hi : i < 3) : (x.sv i).ownBlock ≠ some x.mb := fun e => by
  obtain ⟨_, cs, e2⟩ := own_blockM (h.sown i hi) e
  rw [h.blk] at e2
  injection e2 with e2
  injection e2 with _ e2
  exact absurd e2 (by decide)
theorem MirAt.nec (h : MirAt B w x m) : x.cv.ownBlock ≠ some x.mb := fun e => by
  obtain ⟨_, cs, e2⟩ := own_blockM h.cown e
  rw [h.blk] at e2
  injection e2 with e2
  injection e2 with _ e2
  exact absurd e2 (by decide)
theorem MirAt.nesc (h : MirAt B w x m) {i : Nat} (hi : i < 3) {j : Nat} (hj : (x.sv i).ownBlock = some j) : x.cv.ownBlock ≠ some j := fun e => by
  obtain ⟨_, cs, e2⟩ := own_blockM h.cown e
  obtain ⟨_, cs2, e3⟩ := own_blockM (h.sown i hi) hj
  rw [e2] at e3
  injection e3 with e3
  injection e3 with _ e3
  exact absurd e3 (by decide)
theorem MirAt.cells (h : MirAt B w x m) :
    w.cell? ⟨x.mb, 0, none⟩ = some (.int .i64 m.mode) ∧ w.cell? ⟨x.mb, 1, none⟩ = some (x.sv 0) ∧ w.cell? ⟨x.mb, 2, none⟩ = some (x.sv 1) ∧ w.cell? ⟨x.mb, 3, none⟩ = some (x.sv 2) ∧ w.cell? ⟨x.mb, 4, none⟩ = some x.cv := by
  refine ⟨?_, ?_, ?_, ?_, ?_⟩ <;> (rw [cells_cell h.blk]; rfl)
/-- What a call makes of a mirror. -/
def MirTo (B : Nat) (x : MirR) (m' : Mi.Mir) (w w' : World) : Prop := ∃ x', x'.mb = x.mb ∧ MirAt B w' x' m' ∧ Upd x.foot w w' ∧ ∀ k, x'.foot k → x.foot k ∨ w.heap.size ≤ k
theorem cells_push (x : MirR) (m : Mi.Mir) {i : Nat} (hi : i < 3) (v : Value) (s : Bk.Sgn) : (mirC x m).setIfInBounds (i + 1) v = mirC ⟨x.mb, fun k => if k = i then v else x.sv k, x.cv⟩ (Mi.push m i s) := by
  obtain rfl | rfl | rfl : i = 0 ∨ i = 1 ∨ i = 2 := by omega
  all_goals rfl
/-- One more signature in a list. -/
theorem mir_push (h : MirAt B w x m) {ws : World} {i : Nat} (hi : i < 3) {v' : Value} {y : Bk.Sgn} (hl : (m.l i).length + 1 ≤ 1000000) (hy : SmS y) (hown : ws.ownsRow B tSigned 3 v' ((m.l i).length + 1) (flatS (m.l i) ++ sgl y)) (uS : Upd (fun k => (x.sv i).ownBlock = some k) w ws) (oS : ∀ k, v'.ownBlock = some k → (x.sv i).ownBlock = some k ∨ w.heap.size ≤ k) :
    MirTo B x (Mi.push m i y) w (ws.setCell ⟨x.mb, i + 1, none⟩ v') := by
  have hmb := h.mb
  have hb := h.hb
  have hlt := fun k hk => (h.foot_lt (k := k) hk).2
  have hjl := hlt x.mb (Or.inl rfl)
  have u1 : Upd (fun k => k = x.mb) ws (ws.setCell ⟨x.mb, i + 1, none⟩ v') := Upd.set1 (Upd.refl _ _) (by omega) (i + 1) v'
  have b3 := setCell_block (uS.keep h.blk (h.ne hi)) (i + 1) v'
  rw [cells_push x m hi v' y] at b3
  have hmine : ∀ k, v'.ownBlock = some k → k ≠ x.mb := fun k hk e => by
    subst e
    rcases oS _ hk with e | e
    · exact h.ne hi e
    · omega
  refine ⟨⟨x.mb, fun k => if k = i then v' else x.sv k, x.cv⟩, rfl, ⟨hb, hmb, b3, fun k hk => ?_, ?_, fun a k ha hk hak j hj => ?_, ⟨fun k hk => ?_, h.len.2⟩, h.mode, fun k hk s hs => ?_, h.cok⟩, ?_, fun k hk => ?_⟩
  · by_cases hki : k = i
    · subst hki
      dsimp only
      rw [if_pos rfl, Mi.push_self, List.length_append, List.length_singleton, flatS_snoc]
      exact owns_upd' hown u1 (fun k hk e => hmine k hk e)
    · dsimp only
      rw [if_neg hki, Mi.push_ne _ _ hki]
      exact owns_upd' (owns_upd' (h.sown k hk) uS (fun j hj e => h.dis k i hk hi hki j hj e)) u1 (fun j hj e => by subst e; exact h.ne hk hj)
  · exact owns_upd' (owns_upd' h.cown uS (fun j hj e => h.nesc hi e hj)) u1 (fun j hj e => by subst e; exact h.nec hj)
  · dsimp only at hj ⊢
    by_cases hai : a = i
    · subst hai
      rw [if_pos rfl] at hj
      rw [if_neg (Ne.symm hak)]
      intro e
      rcases oS _ hj with q | q
      · exact h.dis a k ha hk hak j q e
      · have := hlt j (Or.inr (Or.inl ⟨k, hk, e⟩)); omega
    · rw [if_neg hai] at hj
      by_cases hki : k = i
      · subst hki
        rw [if_pos rfl]
        intro e
        rcases oS _ e with q | q
        · exact h.dis a k ha hk hak j hj q
        · have := hlt j (Or.inr (Or.inl ⟨a, ha, hj⟩)); omega
      · rw [if_neg hki]
        exact h.dis a k ha hk hak j hj
  · by_cases hki : k = i
    · subst hki
      rw [Mi.push_self, List.length_append, List.length_singleton]; exact hl
    · rw [Mi.push_ne _ _ hki]; exact h.len.1 k hk
  · by_cases hki : k = i
    · subst hki
      rw [Mi.push_self, List.mem_append, List.mem_singleton] at hs
      rcases hs with hs | rfl
      · exact h.oks k hk s hs
      · exact hy
    · rw [Mi.push_ne _ _ hki] at hs; exact h.oks k hk s hs
  · exact (uS.mono (fun k _ e => Or.inr (Or.inl ⟨i, hi, e⟩))).trans' u1 (fun k _ e => Or.inl e)
  · rcases hk with hk | ⟨a, ha, hk⟩ | hk
    · exact Or.inl (Or.inl hk)
    · dsimp only at hk
      by_cases hai : a = i
      · subst hai
        rw [if_pos rfl] at hk
        exact (oS k hk).imp (fun e => Or.inr (Or.inl ⟨a, ha, e⟩)) id
      · rw [if_neg hai] at hk
        exact Or.inl (Or.inr (Or.inl ⟨a, ha, hk⟩))
    · exact Or.inl (Or.inr (Or.inr hk))
/-- Its contents anew. -/
theorem mir_contents (h : MirAt B w x m) {ws : World} {v' : Value} {cs : List (List UInt8)} (hl : cs.length ≤ 1000000) (hc : ∀ s ∈ cs, s.length ≤ 1000000) (hown : ws.ownsRow w.heap.size tStrM 1 v' cs.length (cs.map bsM)) (u : Nw w ws) :
    MirTo B x { m with cs := cs } w (ws.setCell ⟨x.mb, 4, none⟩ v') := by
  have hmb := h.mb
  have hb := h.hb
  have hlt := fun k hk => (h.foot_lt (k := k) hk).2
  have hjl := hlt x.mb (Or.inl rfl)
  have u1 : Upd (fun k => k = x.mb) ws (ws.setCell ⟨x.mb, 4, none⟩ v') := Upd.set1 (Upd.refl _ _) (by omega) 4 v'
  have b3 := setCell_block (u.keep h.blk) 4 v'
  have hn : ∀ j, v'.ownBlock = some j → w.heap.size ≤ j := fun j hj => (own_blockM hown hj).1
  refine ⟨⟨x.mb, x.sv, v'⟩, rfl, ⟨hb, hmb, b3, fun k hk => owns_upd' (owns_upd' (h.sown k hk) u (fun _ _ e => e)) u1 (fun j hj e => by subst e; exact h.ne hk hj), ?_, h.dis, ⟨h.len.1, hl⟩, h.mode, h.oks, hc⟩, ?_, fun k hk => ?_⟩
  · exact owns_upd' (owns_base hown (by have := h.mb; omega)) u1 (fun j hj e => by subst e; have := hn _ hj; omega)
  · exact (Nw.upd _ u).trans' u1 (fun k _ e => Or.inl e)
  · rcases hk with hk | ⟨a, ha, hk⟩ | hk
    · exact Or.inl (Or.inl hk)
    · exact Or.inl (Or.inr (Or.inl ⟨a, ha, hk⟩))
    · exact Or.inr (hn k hk)
end
def MirC (B mb : Nat) (m : Mi.Mir) : Res := fun f z => ∃ x, x.mb = mb ∧ MirAt B z x m ∧ f = x.foot
theorem MirC.stab (B mb : Nat) (m : Mi.Mir) : Stab B (MirC B mb m) :=
  ⟨fun {f w w' S} ⟨q, a, b, c⟩ u hs => ⟨q, a, b.upd u (fun k hk => hs k (by rw [c]; exact hk)), c⟩, fun {f w k} ⟨q, a, b, c⟩ hk => b.foot_lt (by rw [c] at hk; exact hk)⟩
section
variable {W : World} {N : Nat} {c : Nat → Res} {F : Nat → Prop} {z : World} {mb : Nat} {m : Mi.Mir} {i : Nat}
theorem at_mirAt (h : At W N c F z) (hi : i < N) (ei : c i = MirC W.heap.size mb m) : ∃ q, q.mb = mb ∧ MirAt W.heap.size z q m := by
  obtain ⟨f, hf⟩ := h.get hi
  rw [ei] at hf
  obtain ⟨q, a, b, _⟩ := hf
  exact ⟨q, a, b⟩
/-- A mirror is turned. -/
theorem at_mirTo (h : At W N c F z) (hi : i < N) (ei : c i = MirC W.heap.size mb m) {m' : Mi.Mir} {z' : World} (t : ∀ x, x.mb = mb → MirAt W.heap.size z x m → MirTo W.heap.size x m' z z') : At W N (setC c i (MirC W.heap.size mb m')) F z' ∧ MovesN W F z z' := by
  obtain ⟨f, h⟩ := h
  have hf := h.2.2.1 i hi
  rw [ei] at hf
  obtain ⟨x, a, b, e⟩ := hf
  obtain ⟨x', t1, t2, t3, t4⟩ := t x a b
  refine h.turn hi (MirC.stab _ _ _) ⟨x'.foot, ⟨x', t1.trans a, t2, rfl⟩, by rw [e]; exact t3, fun j hj => by rw [e]; exact t4 j hj⟩
end
end Go.Proofs.YtkhdnfmnnapjlaaGreatDoor
