/- A ring, books that sign into it, and views of the ring, side by side: what each call leaves of them. -/
import Derived.Test.YtkhdnfmnnapjlaaGreatDoorSep
import Derived.Test.YtkhdnfmnnapjlaaGreatDoorBook3
import Derived.Test.YtkhdnfmnnapjlaaGreatDoorView5
import Derived.Test.YtkhdnfmnnapjlaaGreatDoorViewBk
namespace Go.Proofs.YtkhdnfmnnapjlaaGreatDoor
open Go.RowKit
set_option linter.unusedVariables false
set_option linter.unusedSimpArgs false
attribute [local irreducible] Calls

def RingC (B rb : Nat) (Lr : List Bk.Seal) : Res := fun f z => ∃ q, q.rb = rb ∧ RingAt B z q Lr ∧ f = q.foot
def BookC (B bb rb : Nat) (b : Bk.Book) : Res := fun f z => ∃ br, br.bb = bb ∧ BookAt B z br rb b ∧ f = br.foot
def ViewC (B vb rb : Nat) (key : Int) (L : List Bk.Sgn) : Res := fun f z => ∃ r, r.vb = vb ∧ ViewAt B z r rb key L ∧ f = r.foot
theorem RingC.stab (B rb : Nat) (Lr : List Bk.Seal) : Stab B (RingC B rb Lr) :=
  ⟨fun {f w w' S} ⟨q, a, b, c⟩ u hs => ⟨q, a, b.upd u (fun k hk => hs k (by rw [c]; exact hk)), c⟩, fun {f w k} ⟨q, a, b, c⟩ hk => b.foot_lt (by rw [c] at hk; exact hk)⟩
theorem BookC.stab (B bb rb : Nat) (b : Bk.Book) : Stab B (BookC B bb rb b) :=
  ⟨fun {f w w' S} ⟨q, a, b, c⟩ u hs => ⟨q, a, b.upd u (fun k hk => hs k (by rw [c]; exact hk)), c⟩, fun {f w k} ⟨q, a, b, c⟩ hk => b.foot_lt (by rw [c] at hk; exact hk)⟩
theorem ViewC.stab (B vb rb : Nat) (key : Int) (L : List Bk.Sgn) : Stab B (ViewC B vb rb key L) :=
  ⟨fun {f w w' S} ⟨q, a, b, c⟩ u hs => ⟨q, a, b.upd u (fun k hk => hs k (by rw [c]; exact hk)), c⟩, fun {f w k} ⟨q, a, b, c⟩ hk => b.foot_lt (by rw [c] at hk; exact hk)⟩
abbrev VL := Nat → List Bk.Sgn
def setL (L : VL) (i : Nat) (l : List Bk.Sgn) : VL := fun k => if k = i then l else L k
theorem setL_self (L : VL) (i : Nat) (l : List Bk.Sgn) : setL L i l i = l := by simp [setL]
theorem setL_ne (L : VL) {i k : Nat} (l : List Bk.Sgn) (h : k ≠ i) : setL L i l k = L k := by simp [setL, h]
def setB (bs : Nat → Bk.Book) (i : Nat) (b : Bk.Book) : Nat → Bk.Book := fun k => if k = i then b else bs k
theorem setB_self (L : Nat → Bk.Book) (i : Nat) (l : Bk.Book) : setB L i l i = l := by simp [setB]
theorem setB_ne (L : Nat → Bk.Book) {i k : Nat} (l : Bk.Book) (h : k ≠ i) : setB L i l k = L k := by simp [setB, h]
/-- Where all of it lies. -/
structure VNR where
  rb : Nat
  bbs : Nat → Nat
  vbs : Nat → Nat
def famC (B : Nat) (p : VNR) (m : Nat) (key : Int) (Lr : List Bk.Seal) (bs : Nat → Bk.Book) (L : VL) : Nat → Res := fun i =>
  if i = 0 then RingC B p.rb Lr else if i ≤ m then BookC B (p.bbs (i - 1)) p.rb (bs (i - 1)) else ViewC B (p.vbs (i - 1 - m)) p.rb key (L (i - 1 - m))
theorem fam_ring (B : Nat) (p : VNR) (m : Nat) (key : Int) (Lr : List Bk.Seal) (bs : Nat → Bk.Book) (L : VL) : famC B p m key Lr bs L 0 = RingC B p.rb Lr := by simp [famC]
theorem fam_book (B : Nat) (p : VNR) (m : Nat) (key : Int) (Lr : List Bk.Seal) (bs : Nat → Bk.Book) (L : VL) {i : Nat} (h : i < m) : famC B p m key Lr bs L (1 + i) = BookC B (p.bbs i) p.rb (bs i) := by
  unfold famC
  rw [if_neg (by omega), if_pos (by omega), Nat.add_sub_cancel_left]
theorem fam_view (B : Nat) (p : VNR) (m : Nat) (key : Int) (Lr : List Bk.Seal) (bs : Nat → Bk.Book) (L : VL) (i : Nat) : famC B p m key Lr bs L (1 + m + i) = ViewC B (p.vbs i) p.rb key (L i) := by
  unfold famC
  rw [if_neg (by omega), if_neg (by omega), show 1 + m + i - 1 - m = i by omega]
theorem fam_stab (B : Nat) (p : VNR) (m : Nat) (key : Int) (Lr : List Bk.Seal) (bs : Nat → Bk.Book) (L : VL) (i : Nat) : Stab B (famC B p m key Lr bs L i) := by
  unfold famC
  split
  · exact RingC.stab _ _ _
  · split
    · exact BookC.stab _ _ _ _
    · exact ViewC.stab _ _ _ _ _
theorem fam_setL {B : Nat} {p : VNR} {m : Nat} {key : Int} {Lr : List Bk.Seal} {bs : Nat → Bk.Book} {L : VL} {i : Nat} {l : List Bk.Sgn} (k : Nat) : famC B p m key Lr bs (setL L i l) k = setC (famC B p m key Lr bs L) (1 + m + i) (ViewC B (p.vbs i) p.rb key l) k := by
  by_cases hk : k = 1 + m + i
  · subst hk; rw [setC_self, fam_view, setL_self]
  · rw [setC_ne _ _ hk]
    unfold famC
    split
    · rfl
    · split
      · rfl
      · rw [setL_ne _ _ (by omega)]
theorem fam_setB {B : Nat} {p : VNR} {m : Nat} {key : Int} {Lr Lr' : List Bk.Seal} {bs : Nat → Bk.Book} {L : VL} {i : Nat} {b : Bk.Book} (hi : i < m) (k : Nat) : famC B p m key Lr' (setB bs i b) L k = setC (setC (famC B p m key Lr bs L) 0 (RingC B p.rb Lr')) (1 + i) (BookC B (p.bbs i) p.rb b) k := by
  by_cases hk : k = 1 + i
  · subst hk; rw [setC_self, fam_book _ _ _ _ _ _ _ hi, setB_self]
  · rw [setC_ne _ _ hk]
    by_cases hk0 : k = 0
    · subst hk0; rw [setC_self, fam_ring]
    · rw [setC_ne _ _ hk0]
      unfold famC
      rw [if_neg hk0, if_neg hk0]
      split
      · rw [setB_ne _ _ (by omega)]
      · rfl
/-- m books and n views of one ring; the views have accepted L 0, L 1 ..; all of it was made since W. -/
def Fam (W : World) (p : VNR) (m n : Nat) (key : Int) (Lr : List Bk.Seal) (bs : Nat → Bk.Book) (L : VL) (F : Nat → Prop) (z : World) : Prop :=
  At W (1 + m + n) (famC W.heap.size p m key Lr bs L) F z ∧ ∀ i, i < n → Vw.VOk Lr key (L i)
section
variable {W : World} {p : VNR} {m n : Nat} {key : Int} {Lr : List Bk.Seal} {bs : Nat → Bk.Book} {L : VL} {F F' S : Nat → Prop} {z z' : World}
theorem Fam.nw0 (h : Fam W p m n key Lr bs L F z) : Nw W z := h.1.nw0
theorem Fam.gl (h : Fam W p m n key Lr bs L F z) (g : Gl W) : Gl z := g.upd h.nw0
theorem Fam.upd_keep (h : Fam W p m n key Lr bs L F z) (u : Upd S z z') (hs : ∀ k, S k → (F k ∧ W.heap.size ≤ k) ∨ z.heap.size ≤ k) (hF : ∀ k, F' k → F k ∨ (z.heap.size ≤ k ∧ k < z'.heap.size)) : Fam W p m n key Lr bs L F' z' := ⟨h.1.upd_keep u hs hF, h.2⟩
theorem Fam.nw (h : Fam W p m n key Lr bs L F z) (u : Nw z z') : Fam W p m n key Lr bs L F z' := ⟨h.1.nw u, h.2⟩
theorem Fam.keep (h : Fam W p m n key Lr bs L F z) (u : Nw z z') (hF : ∀ k, F' k → F k ∨ (z.heap.size ≤ k ∧ k < z'.heap.size)) : Fam W p m n key Lr bs L F' z' := ⟨h.1.keep u hF, h.2⟩
theorem Fam.less (h : Fam W p m n key Lr bs L F z) (hF : ∀ k, F' k → F k) : Fam W p m n key Lr bs L F' z := ⟨h.1.less hF, h.2⟩
theorem Fam.more (h : ∀ i, i < n → Vw.VOk Lr key (L i)) {Lr' : List Bk.Seal} (hm : ∃ M, Lr' = Lr ++ M) : ∀ i, i < n → Vw.VOk Lr' key (L i) := by
  obtain ⟨M, rfl⟩ := hm
  exact fun i hi => (h i hi).more M
theorem Fam.ring (h : Fam W p m n key Lr bs L F z) : ∃ q, q.rb = p.rb ∧ RingAt W.heap.size z q Lr := by
  obtain ⟨f, q, a, b, _⟩ := h.1.get (i := 0) (by omega)
  exact ⟨q, a, b⟩
theorem Fam.viewAt (h : Fam W p m n key Lr bs L F z) {i : Nat} (hi : i < n) : ∃ r, r.vb = p.vbs i ∧ ViewAt W.heap.size z r p.rb key (L i) := by
  obtain ⟨f, hf⟩ := h.1.get (i := 1 + m + i) (by omega)
  rw [fam_view] at hf
  obtain ⟨q, a, b, _⟩ := hf
  exact ⟨q, a, b⟩
theorem Fam.bookAt (h : Fam W p m n key Lr bs L F z) {i : Nat} (hi : i < m) : ∃ r, r.bb = p.bbs i ∧ BookAt W.heap.size z r p.rb (bs i) := by
  obtain ⟨f, hf⟩ := h.1.get (i := 1 + i) (by omega)
  rw [fam_book _ _ _ _ _ _ _ hi] at hf
  obtain ⟨q, a, b, _⟩ := hf
  exact ⟨q, a, b⟩
/-- A call of a book, into the ring. -/
theorem vn_book (h : Fam W p m n key Lr bs L F z) (g : Gl W) {i : Nat} (hi : i < m) {Lr' : List Bk.Seal} {b' : Bk.Book} (hm : ∃ M, Lr' = Lr ++ M) {Q : Ending → Prop} {fn : FuncId} {args : Array Value}
    (k : ∀ q br, q.rb = p.rb → br.bb = p.bbs i → Both W.heap.size z q br ⟨Lr, bs i⟩ → Calls Tryz.prog fn args z fun e z' => Q e ∧ ∃ q' br', Moved W.heap.size q br ⟨Lr', b'⟩ z z' q' br') :
    Calls Tryz.prog fn args z fun e z' => Q e ∧ Fam W p m n key Lr' (setB bs i b') L F z' ∧ MovesN W F z z' := by
  refine (At.call2 h.1 (i := 0) (m := 1 + i) (by omega) (by omega) (by omega) (P := RingC W.heap.size p.rb Lr') (P2 := BookC W.heap.size (p.bbs i) p.rb b') (RingC.stab _ _ _) (BookC.stab _ _ _ _) (Q := Q) fun f g' hf hg hd => ?_).mono ?_
  · rw [fam_ring] at hf
    rw [fam_book _ _ _ _ _ _ _ hi] at hg
    obtain ⟨q, a1, a2, rfl⟩ := hf
    obtain ⟨br, b1, b2, rfl⟩ := hg
    refine (k q br a1 b1 ⟨a2, by rw [a1]; exact b2, hd⟩).mono ?_
    rintro e z' ⟨hq, q', br', mv⟩
    refine ⟨hq, q'.foot, br'.foot, ⟨q', mv.rb.trans a1, mv.both.ring, rfl⟩, ⟨br', mv.bb.trans b1, ?_, rfl⟩, mv.upd, mv.f1, mv.f2, mv.both.dis⟩
    have := mv.both.book
    rw [mv.rb, a1] at this
    exact this
  · rintro e z' ⟨hq, ha, mv⟩
    exact ⟨hq, ⟨ha.same (fun k _ => fam_setB hi k), Fam.more h.2 hm⟩, mv⟩
theorem vn_append (h : Fam W p m n key Lr bs L F z) (g : Gl W) {i : Nat} (hi : i < m) (s : ByteArray) (t : List UInt8) (hs : s.data.toList = t) (ht : t.length ≤ 1000000) :
    Calls Tryz.prog 43 #[.pointer (some ⟨p.bbs i, 0, none⟩), .string s] z fun e w' => (∃ a b, e = .returned (.tuple #[.int .i64 a, .int .i64 b])) ∧ Fam W p m n key Lr (setB bs i (Bk.append (bs i) t).2) L F w' ∧ MovesN W F z w' := by
  have hg := h.gl g
  have hB := h.nw0.size
  obtain rfl : s = ⟨t.toArray⟩ := by rw [← hs, bs_eta]
  refine vn_book h g hi ⟨[], by simp⟩ fun q br e1 e2 hb => ?_
  rw [← e2]
  refine (append_b _ br q.rb (bs i) t z hg hb.book hB (by omega)).mono ?_
  rintro e w' ⟨br', rfl, c1, c2, u, hf⟩
  exact ⟨⟨_, _, rfl⟩, _, _, moved_app hb c1 c2 u hf⟩
theorem vn_entry (h : Fam W p m n key Lr bs L F z) (g : Gl W) {i : Nat} (hi : i < m) (j : Int) (hj : I64 j) (hL : Lr.length ≤ 1000000) {y : Bk.Sgn} {e0 : Int} {L' : List Bk.Seal} (e : Bk.entry Lr (bs i) j = ((y, e0), L')) (hm : ∃ M, L' = Lr ++ M) :
    Calls Tryz.prog 58 #[.pointer (some ⟨p.bbs i, 0, none⟩), .int .i64 j] z fun e w' => e = .returned (.tuple #[.agg #[.int .i64 y.key, .string ⟨y.text.toArray⟩, .int .i64 y.mark], .int .i64 e0]) ∧ Fam W p m n key L' (setB bs i (bs i)) L F w' ∧ MovesN W F z w' := by
  have hg := h.gl g
  have hB := h.nw0.size
  refine vn_book h g hi hm fun q br e1 e2 hb => ?_
  rw [← e2]
  refine (entry_b _ q br Lr (bs i) j z hg hb.ring hb.book hB hj hL).mono ?_
  rintro _ w' ⟨q', rfl, c1, c2, u, hf⟩
  rw [e] at c1 ⊢
  exact ⟨rfl, _, _, moved_sgn hb c1 c2 u hf⟩
theorem vn_head (h : Fam W p m n key Lr bs L F z) (g : Gl W) {i : Nat} (hi : i < m) (j : Int) (hj : I64 j) (hL : Lr.length ≤ 1000000) {y : Bk.Sgn} {e0 : Int} {L' : List Bk.Seal} {b' : Bk.Book} (e : Bk.head Lr (bs i) j = ((y, e0), L', b')) (hm : ∃ M, L' = Lr ++ M) :
    Calls Tryz.prog 57 #[.pointer (some ⟨p.bbs i, 0, none⟩), .int .i64 j] z fun e w' => e = .returned (.tuple #[.agg #[.int .i64 y.key, .string ⟨y.text.toArray⟩, .int .i64 y.mark], .int .i64 e0]) ∧ Fam W p m n key L' (setB bs i b') L F w' ∧ MovesN W F z w' := by
  have hg := h.gl g
  have hB := h.nw0.size
  refine vn_book h g hi hm fun q br e1 e2 hb => ?_
  rw [← e2]
  refine (head_b _ q br Lr (bs i) j z hg hb.ring hb.book hB hj hb.dis hL).mono ?_
  rintro _ w' ⟨q', rfl, c1, c2, c3, u, hf⟩
  rw [e] at c1 c3 ⊢
  exact ⟨rfl, _, _, moved_head (x' := ⟨L', b'⟩) hb c1 c3 c2 u hf⟩
theorem vn_absent (h : Fam W p m n key Lr bs L F z) (g : Gl W) {i : Nat} (hi : i < m) (k : List UInt8) (j : Int) (hj : I64 j) (hk : k.length ≤ 1000000) (hL : Lr.length ≤ 1000000) {y : Bk.Sgn} {e0 : Int} {L' : List Bk.Seal} (e : Bk.absent Lr (bs i) k j = ((y, e0), L')) (hm : ∃ M, L' = Lr ++ M) :
    Calls Tryz.prog 59 #[.pointer (some ⟨p.bbs i, 0, none⟩), .string ⟨k.toArray⟩, .int .i64 j] z fun e w' => e = .returned (.tuple #[.agg #[.int .i64 y.key, .string ⟨y.text.toArray⟩, .int .i64 y.mark], .int .i64 e0]) ∧ Fam W p m n key L' (setB bs i (bs i)) L F w' ∧ MovesN W F z w' := by
  have hg := h.gl g
  have hB := h.nw0.size
  refine vn_book h g hi hm fun q br e1 e2 hb => ?_
  rw [← e2]
  refine (absent_b _ q br Lr (bs i) k j z hg hb.ring hb.book hB hj (by omega) hL).mono ?_
  rintro _ w' ⟨q', rfl, c1, c2, u, hf⟩
  rw [e] at c1 ⊢
  exact ⟨rfl, _, _, moved_sgn hb c1 c2 u hf⟩
theorem vn_accept (h : Fam W p m n key Lr bs L F z) (g : Gl W) {i : Nat} (hi : i < n) (s : Bk.Sgn) (hs : SgnOk s) (hL : (L i).length ≤ 900000) :
    Calls Tryz.prog 13 #[.pointer (some ⟨p.vbs i, 0, none⟩), .agg #[.int .i64 s.key, .string ⟨s.text.toArray⟩, .int .i64 s.mark]] z fun e w' =>
      e = .returned (.int .i64 (Vw.accept Lr key (L i) s).1) ∧ Fam W p m n key Lr bs (setL L i (Vw.accept Lr key (L i) s).2) F w' ∧ MovesN W F z w' := by
  have hg := h.gl g
  have hB := h.nw0.size
  have hv := h.2 i hi
  refine (At.callR h.1 (i := 1 + m + i) (m := 0) (by omega) (by omega) (by omega) (P := ViewC W.heap.size (p.vbs i) p.rb key (Vw.accept Lr key (L i) s).2) (ViewC.stab _ _ _ _ _) (Q := fun e => e = .returned (.int .i64 (Vw.accept Lr key (L i) s).1)) fun f g' hf hg' hd => ?_).mono ?_
  · rw [fam_view] at hf
    rw [fam_ring] at hg'
    obtain ⟨r, a1, a2, rfl⟩ := hf
    obtain ⟨q, b1, b2, rfl⟩ := hg'
    rw [← a1]
    rw [← b1] at a2
    refine (accept_v _ _ r q key Lr (L i) s z hg b2 a2 hv hs hB hL).mono ?_
    rintro _ w' ⟨r', rfl, c1, c2, u, hf⟩
    rw [b1] at c1
    exact ⟨rfl, r'.foot, ⟨r', c2, c1, rfl⟩, u, hf⟩
  · rintro e z' ⟨hq, ha, mv⟩
    refine ⟨hq, ⟨ha.same (fun k _ => fam_setL k), fun k hk => ?_⟩, mv⟩
    by_cases hki : k = i
    · subst hki; rw [setL_self]; exact Vw.accept_ok hv s
    · rw [setL_ne _ _ hki]; exact h.2 k hk
theorem vn_clash (h : Fam W p m n key Lr bs L F z) (g : Gl W) {i : Nat} (hi : i < n) (s : Bk.Sgn) (hs : SgnOk s) (hL : (L i).length ≤ 900000) :
    Calls Tryz.prog 53 #[.pointer (some ⟨p.vbs i, 0, none⟩), .agg #[.int .i64 s.key, .string ⟨s.text.toArray⟩, .int .i64 s.mark]] z fun e w' => e = .returned (.tuple #[sgnV (Vw.clash (L i) s).1, .bool (Vw.clash (L i) s).2]) ∧ Nw z w' := by
  obtain ⟨r, a, b⟩ := h.viewAt hi
  rw [← a]
  exact clash_v _ r p.rb key (L i) s z (h.gl g) b (fun s hs => ((h.2 i hi).each s hs).2.2) hs hL
/-- The ring alone. -/
theorem Fam.start {q : RingR} (hq : RingAt W.heap.size z q Lr) (u : Nw W z) : Fam W ⟨q.rb, fun _ => 0, fun _ => 0⟩ 0 0 key Lr bs L (fun _ => False) z := by
  have h0 := (At.start W (fun _ => RingC W.heap.size 0 [])).push u (RingC.stab W.heap.size q.rb Lr) (f' := q.foot) ⟨q, rfl, hq, rfl⟩ (fun j hj => (hq.foot_lt hj).1)
  refine ⟨h0.same (fun i hi => ?_), fun i hi => by omega⟩
  obtain rfl : i = 0 := by omega
  rw [setC_self, fam_ring]
/-- One more view. -/
theorem Fam.oneView (h : Fam W p m n key Lr bs L F z) (hg : nG ≤ W.heap.size) {r' : ViewR} (u : Nw z z') (hr : ViewAt z.heap.size z' r' p.rb key []) : Fam W ⟨p.rb, p.bbs, fun k => if k = n then r'.vb else p.vbs k⟩ m (n + 1) key Lr bs (setL L n []) F z' := by
  have hww := h.nw0.size
  have hr2 : ViewAt W.heap.size z' r' p.rb key [] := ⟨hg, Nat.le_trans hww hr.vb, Nat.le_trans hww hr.eb, Nat.le_trans hww hr.ab, hr.ne, hr.blk, owns_base hr.sown hww, owns_base hr.cown hww, hr.emap, hr.amap, hr.key⟩
  have h1 := h.1.push u (ViewC.stab W.heap.size r'.vb p.rb key []) (f' := r'.foot) ⟨r', rfl, hr2, rfl⟩ (fun j hj => (hr.foot_lt hj).1)
  refine ⟨h1.same (fun i hi => ?_), fun k hk => ?_⟩
  · by_cases hin : i = 1 + m + n
    · subst hin
      rw [setC_self, fam_view, setL_self]
      simp
    · rw [setC_ne _ _ hin]
      unfold famC
      split
      · rfl
      · split
        · rfl
        · dsimp only
          rw [setL_ne _ _ (show i - 1 - m ≠ n by omega), if_neg (show ¬ (i - 1 - m = n) by omega)]
  · by_cases hkn : k = n
    · subst hkn; rw [setL_self]; exact Vw.VOk.nil _ _
    · rw [setL_ne _ _ hkn]; exact h.2 k (by omega)
/-- One more book, while there are no views. -/
theorem Fam.oneBook (h : Fam W p m 0 key Lr bs L F z) (hg : nG ≤ W.heap.size) {r' : BookR} {b : Bk.Book} (u : Nw z z') (hr : BookAt z.heap.size z' r' p.rb b) : Fam W ⟨p.rb, fun k => if k = m then r'.bb else p.bbs k, p.vbs⟩ (m + 1) 0 key Lr (setB bs m b) L F z' := by
  have hww := h.nw0.size
  have h1 := h.1.push u (BookC.stab W.heap.size r'.bb p.rb b) (f' := r'.foot) ⟨r', rfl, hr.base hww hg, rfl⟩ (fun j hj => (hr.foot_lt hj).1)
  have e : 1 + m + 0 = 1 + m := by omega
  rw [e] at h1
  refine ⟨(show 1 + m + 1 = 1 + (m + 1) + 0 by omega) ▸ h1.same (fun i hi => ?_), fun k hk => by omega⟩
  by_cases hin : i = 1 + m
  · subst hin
    rw [setC_self, fam_book _ _ _ _ _ _ _ (by omega), setB_self]
    simp
  · rw [setC_ne _ _ hin]
    unfold famC
    by_cases h0 : i = 0
    · rw [if_pos h0, if_pos h0]
    · rw [if_neg h0, if_neg h0, if_pos (by omega), if_pos (by omega), setB_ne _ _ (by omega)]
      dsimp only
      rw [if_neg (by omega)]
end
end Go.Proofs.YtkhdnfmnnapjlaaGreatDoor
