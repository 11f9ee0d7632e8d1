/- The contract of ViewReads. -/
import Derived.Test.YtbhpakkgghgpiaaGreatDoorLawKp
import Derived.Test.YtbhpakkgghgpiaaGreatDoorVCopy
import Derived.Test.YtbhpakkgghgpiaaGreatDoorViewRd
namespace Go.Proofs.YtbhpakkgghgpiaaGreatDoor
open Go.RowKit
set_option linter.unusedVariables false
set_option linter.unusedSimpArgs false
attribute [local irreducible] Calls

/-- Behind the signing, the view having been made before. -/
theorem kp_start2 {W w1 w2 w4 : World} {q : RingR} {r : ViewR} {key : Int} {l : List Vw.Say} {sv : Value} (hq : RingAt W.heap.size w1 q []) (u1 : Nw W w1) (u2 : Nw w1 w2) (hr : ViewAt w1.heap.size w2 r q.rb key []) (u4 : Nw w2 w4) {w5 : World} (hs : Sgd W.heap.size w4 q [] l l.length sv w5) (hlen : (Vw.signedL [] l).2.length = l.length) :
    Kp W q.rb (Vw.signedL [] l).1 key sv (Vw.signedL [] l).2 [] r.vb [] w5 := by
  obtain ⟨q', hq', hrb, hown, u5, hf⟩ := hs
  rw [List.take_length] at hq' hown
  have s1 := u1.size
  have s2 := u2.size
  have s4 := u4.size
  have hnG := hq.hb
  have hqlt : ∀ j, q.foot j → j < w1.heap.size := fun j hj => (hq.foot_lt hj).2
  have hrl : ∀ j, r.foot j → j < w2.heap.size := fun j hj => (hr.foot_lt hj).2
  have hr5 : ViewAt w1.heap.size w5 r q.rb key [] := (hr.nw u4).upd u5 (fun j hj e => by have := hqlt j e; have := (hr.foot_lt hj).1; omega)
  have hqr : ∀ j, q'.foot j → ¬ r.foot j := fun j hj e => by
    rcases hf j hj with e2 | e2
    · have := hqlt j e2; have := (hr.foot_lt e).1; omega
    · have := hrl j e; omega
  refine ⟨⟨q', r, hrb, rfl, hq', hr5.base s1 hnG, Vw.VOk.nil _ _, hqr, ?_⟩, owns_base (by rw [hlen]; exact hown) (by omega), ((u1.trans u2).trans u4).trans' u5 (fun j hj e => by have := (hq.foot_lt e).1; omega), fun p hp => by cases hp⟩
  rintro j (hj | ⟨p, hp, _⟩)
  · obtain ⟨e1, cs, e2⟩ := own_block hown hj
    exact ⟨lt_of_block e2, fun e => ring_row hq' hown j hj e, fun e => by have := hrl j e; omega⟩
  · cases hp
/-- A ring and three views of it, apart from one another and from boxes. -/
def R3 (W : World) (rb vb v1 v2 : Nat) (Lr : List Bk.Seal) (key : Int) (L L1 L2 : List Bk.Sgn) (bx : List (Nat × Obj)) (z : World) : Prop :=
  ∃ q r r1 r2, q.rb = rb ∧ r.vb = vb ∧ r1.vb = v1 ∧ r2.vb = v2 ∧ RingAt W.heap.size z q Lr ∧ ViewAt W.heap.size z r rb key L ∧ ViewAt W.heap.size z r1 rb key L1 ∧ ViewAt W.heap.size z r2 rb key L2 ∧
    (∀ j, q.foot j → ¬ r.foot j ∧ ¬ r1.foot j ∧ ¬ r2.foot j) ∧ (∀ j, r.foot j → ¬ r1.foot j ∧ ¬ r2.foot j) ∧ (∀ j, r1.foot j → ¬ r2.foot j) ∧ Nw W z ∧ (∀ p ∈ bx, z.heap[p.1]? = some p.2 ∧ ¬ q.foot p.1 ∧ ¬ r.foot p.1 ∧ ¬ r1.foot p.1 ∧ ¬ r2.foot p.1)
section
variable {W : World} {rb vb v1 v2 : Nat} {Lr : List Bk.Seal} {key : Int} {L L1 L2 : List Bk.Sgn} {bx : List (Nat × Obj)} {z z' : World}
theorem R3.go (h : R3 W rb vb v1 v2 Lr key L L1 L2 bx z) (u : Nw z z') : R3 W rb vb v1 v2 Lr key L L1 L2 bx z' := by
  obtain ⟨q, r, r1, r2, e0, e1, e2, e3, h0, h1, h2, h3, a1, a2, a3, hn, hb⟩ := h
  exact ⟨q, r, r1, r2, e0, e1, e2, e3, h0.nw u, h1.nw u, h2.nw u, h3.nw u, a1, a2, a3, hn.trans u, fun p hp => ⟨Nw.keep u (hb p hp).1, (hb p hp).2⟩⟩
theorem R3.nw (h : R3 W rb vb v1 v2 Lr key L L1 L2 bx z) : Nw W z := by
  obtain ⟨q, r, r1, r2, e0, e1, e2, e3, h0, h1, h2, h3, a1, a2, a3, hn, hb⟩ := h
  exact hn
theorem R3.key8 (h : R3 W rb vb v1 v2 Lr key L L1 L2 bx z) : Bk.isKey key = true := by
  obtain ⟨q, r, r1, r2, e0, e1, e2, e3, h0, h1, h2, h3, a1, a2, a3, hn, hb⟩ := h
  exact h1.key
theorem R3.at (h : R3 W rb vb v1 v2 Lr key L L1 L2 bx z) (i : Nat) {p : Nat × Obj} (hi : bx[i]? = some p) : z.heap[p.1]? = some p.2 := by
  obtain ⟨q, r, r1, r2, e0, e1, e2, e3, h0, h1, h2, h3, a1, a2, a3, hn, hb⟩ := h
  exact (hb p (List.mem_of_getElem? hi)).1
theorem R3.box (h : R3 W rb vb v1 v2 Lr key L L1 L2 bx z) (o : Obj) : R3 W rb vb v1 v2 Lr key L L1 L2 ((z.heap.size, o) :: bx) (z.alloc o) := by
  obtain ⟨q, r, r1, r2, e0, e1, e2, e3, h0, h1, h2, h3, a1, a2, a3, hn, hb⟩ := h
  have u := nw_alloc z o
  refine ⟨q, r, r1, r2, e0, e1, e2, e3, h0.nw u, h1.nw u, h2.nw u, h3.nw u, a1, a2, a3, hn.alloc o, fun p hp => ?_⟩
  rcases List.mem_cons.1 hp with rfl | hp
  · exact ⟨heap_new z o, fun e => by have := (h0.foot_lt e).2; dsimp only at this; omega, fun e => by have := (h1.foot_lt e).2; dsimp only at this; omega, fun e => by have := (h2.foot_lt e).2; dsimp only at this; omega, fun e => by have := (h3.foot_lt e).2; dsimp only at this; omega⟩
  · exact ⟨Nw.keep u (hb p hp).1, (hb p hp).2⟩
/-- A ring and two views. -/
def R2 (W : World) (rb vb v1 : Nat) (Lr : List Bk.Seal) (key : Int) (L L1 : List Bk.Sgn) (z : World) : Prop :=
  ∃ q r r1, q.rb = rb ∧ r.vb = vb ∧ r1.vb = v1 ∧ RingAt W.heap.size z q Lr ∧ ViewAt W.heap.size z r rb key L ∧ ViewAt W.heap.size z r1 rb key L1 ∧
    (∀ j, q.foot j → ¬ r.foot j ∧ ¬ r1.foot j) ∧ (∀ j, r.foot j → ¬ r1.foot j) ∧ Nw W z
theorem R2.nw (h : R2 W rb vb v1 Lr key L L1 z) : Nw W z := by
  obtain ⟨q, r, r1, e0, e1, e2, h0, h1, h2, a1, a2, hn⟩ := h
  exact hn
theorem rd_read {sv : Value} {S : List Bk.Sgn} (h : Kp W rb Lr key sv S L vb [] z) (g : Gl z) (s : List UInt8) (hs : s.length ≤ 800000) (hr : Vw.readV Lr s = (some L, 0)) (hk : (Wire.rNum (some s)).1 = key) :
    Calls Tryz.prog 36 #[.pointer (some ⟨rb, 0, none⟩), .string ⟨s.toArray⟩] z fun e w' => ∃ v1, e = .returned (.tuple #[.pointer (some ⟨v1, 0, none⟩), .int .i64 0]) ∧ R2 W rb vb v1 Lr key L L w' := by
  obtain ⟨⟨q, r, rfl, rfl, h3, h4, h5, h6, h7⟩, hrow, hn, hb⟩ := h
  refine (read_v W.heap.size q Lr s z g h3 hs).mono ?_
  rintro e w' ⟨u, ⟨L', r1, c1, rfl, c2, c3⟩ | ⟨c1, c2⟩⟩
  · rw [hr] at c1
    obtain rfl : L = L' := by simpa using c1
    rw [hk] at c2
    refine ⟨r1.vb, rfl, q, r, r1, rfl, rfl, rfl, h3.nw u, h4.nw u, c2.base hn.size h3.hb, fun j hj => ⟨h6 j hj, fun e => ?_⟩, fun j hj e => ?_, hn.trans u⟩
    · have := (h3.foot_lt hj).2; have := (c2.foot_lt e).1; omega
    · have := (h4.foot_lt hj).2; have := (c2.foot_lt e).1; omega
  · rw [hr] at c1; cases c1
theorem rd_copy (h : R2 W rb vb v1 Lr key L L1 z) (g : Gl z) (hv : Vw.VOk Lr key L) (hs : ∀ s ∈ L, SgnOk s) (hL : L.length ≤ 900000) :
    Calls Tryz.prog 39 #[.pointer (some ⟨vb, 0, none⟩)] z fun e w' => ∃ v2, e = .returned (.pointer (some ⟨v2, 0, none⟩)) ∧ R3 W rb vb v1 v2 Lr key L L1 L [] w' := by
  obtain ⟨q, r, r1, rfl, rfl, rfl, h0, h1, h2, a1, a2, hn⟩ := h
  refine (copy_v W.heap.size W.heap.size q r Lr key L z g h0 h1 hv hs hL).mono ?_
  rintro e w' ⟨r2, rfl, c2, u⟩
  refine ⟨r2.vb, rfl, q, r, r1, r2, rfl, rfl, rfl, rfl, h0.nw u, h1.nw u, h2.nw u, c2.base hn.size h0.hb, fun j hj => ⟨(a1 j hj).1, (a1 j hj).2, fun e => ?_⟩, fun j hj => ⟨a2 j hj, fun e => ?_⟩, fun j hj e => ?_, hn.trans u, fun p hp => by cases hp⟩
  · have := (h0.foot_lt hj).2; have := (c2.foot_lt e).1; omega
  · have := (h1.foot_lt hj).2; have := (c2.foot_lt e).1; omega
  · have := (h2.foot_lt hj).2; have := (c2.foot_lt e).1; omega
theorem rd_err (h : R3 W rb vb v1 v2 Lr key L L1 L2 bx z) (g : Gl z) (s : List UInt8) (hs : s.length ≤ 800000) {n : Int} (hr : Vw.readV Lr s = (none, n)) :
    Calls Tryz.prog 36 #[.pointer (some ⟨rb, 0, none⟩), .string ⟨s.toArray⟩] z fun e w' => e = .returned (.tuple #[.pointer none, .int .i64 n]) ∧ R3 W rb vb v1 v2 Lr key L L1 L2 bx w' := by
  have hg := fun z' (u : Nw z z') => h.go u
  obtain ⟨q, r, r1, r2, rfl, _, _, _, h0, _⟩ := h
  refine (read_v W.heap.size q Lr s z g h0 hs).mono ?_
  rintro e w' ⟨u, ⟨L', r1, c1, _⟩ | ⟨c1, c2⟩⟩
  · rw [hr] at c1; simp at c1
  · rw [hr] at c2; exact ⟨c2, hg w' u⟩
theorem rd_other (h : R3 W rb vb v1 v2 Lr key L L1 L2 bx z) {B : Nat} {q : RingR} (hq : RingAt B z q []) (g : Gl z) (s : List UInt8) (hs : s.length ≤ 800000) {n : Int} (hr : Vw.readV [] s = (none, n)) :
    Calls Tryz.prog 36 #[.pointer (some ⟨q.rb, 0, none⟩), .string ⟨s.toArray⟩] z fun e w' => e = .returned (.tuple #[.pointer none, .int .i64 n]) ∧ R3 W rb vb v1 v2 Lr key L L1 L2 bx w' ∧ Nw z w' := by
  refine (read_v B q [] s z g hq hs).mono ?_
  rintro e w' ⟨u, ⟨L', r1, c1, _⟩ | ⟨c1, c2⟩⟩
  · rw [hr] at c1; simp at c1
  · rw [hr] at c2; exact ⟨c2, h.go u, u⟩
theorem r3_bytes0 (h : R3 W rb vb v1 v2 Lr key L L1 L2 bx z) (g : Gl z) (hs : ∀ s ∈ L, SgnOk s ∧ s.text.length ≤ 100000) (hL : L.length ≤ 900000) :
    Calls Tryz.prog 13 #[.pointer (some ⟨vb, 0, none⟩)] z fun e w' => e = .returned (.string ⟨(Vw.bytesOf key L).toArray⟩) ∧ R3 W rb vb v1 v2 Lr key L L1 L2 bx w' := by
  have hg := fun z' (u : Nw z z') => h.go u
  obtain ⟨q, r, r1, r2, rfl, rfl, rfl, rfl, h0, h1, h2, h3, _⟩ := h
  exact (bytes_v _ r q.rb key L z g h1 hs hL).mono fun e w' ⟨c1, c2⟩ => ⟨c1, hg w' c2⟩
theorem r3_bytes1 (h : R3 W rb vb v1 v2 Lr key L L1 L2 bx z) (g : Gl z) (hs : ∀ s ∈ L1, SgnOk s ∧ s.text.length ≤ 100000) (hL : L1.length ≤ 900000) :
    Calls Tryz.prog 13 #[.pointer (some ⟨v1, 0, none⟩)] z fun e w' => e = .returned (.string ⟨(Vw.bytesOf key L1).toArray⟩) ∧ R3 W rb vb v1 v2 Lr key L L1 L2 bx w' := by
  have hg := fun z' (u : Nw z z') => h.go u
  obtain ⟨q, r, r1, r2, rfl, rfl, rfl, rfl, h0, h1, h2, h3, _⟩ := h
  exact (bytes_v _ r1 q.rb key L1 z g h2 hs hL).mono fun e w' ⟨c1, c2⟩ => ⟨c1, hg w' c2⟩
theorem r3_bytes2 (h : R3 W rb vb v1 v2 Lr key L L1 L2 bx z) (g : Gl z) (hs : ∀ s ∈ L2, SgnOk s ∧ s.text.length ≤ 100000) (hL : L2.length ≤ 900000) :
    Calls Tryz.prog 13 #[.pointer (some ⟨v2, 0, none⟩)] z fun e w' => e = .returned (.string ⟨(Vw.bytesOf key L2).toArray⟩) ∧ R3 W rb vb v1 v2 Lr key L L1 L2 bx w' := by
  have hg := fun z' (u : Nw z z') => h.go u
  obtain ⟨q, r, r1, r2, rfl, rfl, rfl, rfl, h0, h1, h2, h3, _⟩ := h
  exact (bytes_v _ r2 q.rb key L2 z g h3 hs hL).mono fun e w' ⟨c1, c2⟩ => ⟨c1, hg w' c2⟩
theorem r3_claims0 (h : R3 W rb vb v1 v2 Lr key L L1 L2 bx z) (g : Gl z) (hL : L.length ≤ 900000) :
    Calls Tryz.prog 17 #[.pointer (some ⟨vb, 0, none⟩)] z fun e w' => ∃ a cap, e = .returned (.slice a L.length cap) ∧ R3 W rb vb v1 v2 Lr key L L1 L2 bx w' ∧ w'.ownsRow W.heap.size tSigned 3 (.slice a L.length cap) L.length (flatS L) ∧ Nw z w' := by
  have hg := fun z' (u : Nw z z') => h.go u
  have hn := h.nw.size
  obtain ⟨q, r, r1, r2, rfl, rfl, rfl, rfl, h0, h1, h2, h3, _⟩ := h
  refine (claims_v _ r q.rb key L z g h1 (by omega)).mono ?_
  rintro e w' ⟨v', rfl, ho, u⟩
  obtain ⟨a, cap, rfl⟩ := own_sl ho
  exact ⟨a, cap, rfl, hg w' u, owns_base ho hn, u⟩
theorem r3_claims1 (h : R3 W rb vb v1 v2 Lr key L L1 L2 bx z) (g : Gl z) (hL : L1.length ≤ 900000) :
    Calls Tryz.prog 17 #[.pointer (some ⟨v1, 0, none⟩)] z fun e w' => ∃ a cap, e = .returned (.slice a L1.length cap) ∧ R3 W rb vb v1 v2 Lr key L L1 L2 bx w' ∧ w'.ownsRow W.heap.size tSigned 3 (.slice a L1.length cap) L1.length (flatS L1) ∧ Nw z w' := by
  have hg := fun z' (u : Nw z z') => h.go u
  have hn := h.nw.size
  obtain ⟨q, r, r1, r2, rfl, rfl, rfl, rfl, h0, h1, h2, h3, _⟩ := h
  refine (claims_v _ r1 q.rb key L1 z g h2 (by omega)).mono ?_
  rintro e w' ⟨v', rfl, ho, u⟩
  obtain ⟨a, cap, rfl⟩ := own_sl ho
  exact ⟨a, cap, rfl, hg w' u, owns_base ho hn, u⟩
theorem r3_key1 (h : R3 W rb vb v1 v2 Lr key L L1 L2 bx z) : Calls Tryz.prog 35 #[.pointer (some ⟨v1, 0, none⟩)] z fun e w' => e = .returned (.int .i64 key) ∧ R3 W rb vb v1 v2 Lr key L L1 L2 bx w' := by
  have hg := fun z' (u : Nw z z') => h.go u
  obtain ⟨q, r, r1, r2, rfl, rfl, rfl, rfl, h0, h1, h2, h3, _⟩ := h
  exact (key_v _ r1 q.rb key L1 z h2).mono fun e w' ⟨c1, c2⟩ => ⟨c1, hg w' c2⟩
theorem r3_acc2 (h : R3 W rb vb v1 v2 Lr key L L1 L2 bx z) (g : Gl z) (hv : Vw.VOk Lr key L2) (s : Bk.Sgn) (hs : SgnOk s) (hL : L2.length ≤ 900000) :
    Calls Tryz.prog 14 #[.pointer (some ⟨v2, 0, none⟩), .agg #[.int .i64 s.key, .string ⟨s.text.toArray⟩, .int .i64 s.mark]] z fun e w' => e = .returned (.int .i64 (Vw.accept Lr key L2 s).1) ∧ R3 W rb vb v1 v2 Lr key L L1 (Vw.accept Lr key L2 s).2 bx w' := by
  obtain ⟨q, r, r1, r2, rfl, rfl, rfl, rfl, h0, h1, h2, h3, a1, a2, a3, hn, hb⟩ := h
  refine (accept_v _ _ r2 q key Lr L2 s z g h0 h3 hv hs hn.size hL).mono ?_
  rintro e w' ⟨r', rfl, c1, c2, u, hf⟩
  refine ⟨rfl, q, r, r1, r', rfl, rfl, rfl, c2, h0.upd u (fun j hj => (a1 j hj).2.2), h1.upd u (fun j hj => (a2 j hj).2), h2.upd u (fun j hj => a3 j hj), c1, fun j hj => ⟨(a1 j hj).1, (a1 j hj).2.1, fun e => ?_⟩, fun j hj => ⟨(a2 j hj).1, fun e => ?_⟩, fun j hj e => ?_, hn.trans' u (fun j hj e => by have := (h3.foot_lt e).1; omega), fun p hp => ⟨u.keep (hb p hp).1 (hb p hp).2.2.2.2, (hb p hp).2.1, (hb p hp).2.2.1, (hb p hp).2.2.2.1, fun e => ?_⟩⟩
  · rcases hf j e with e2 | e2
    · exact (a1 j hj).2.2 e2
    · have := (h0.foot_lt hj).2; omega
  · rcases hf j e with e2 | e2
    · exact (a2 j hj).2 e2
    · have := (h1.foot_lt hj).2; omega
  · rcases hf j e with e2 | e2
    · exact a3 j hj e2
    · have := (h2.foot_lt hj).2; omega
  · rcases hf _ e with e2 | e2
    · exact (hb p hp).2.2.2.2 e2
    · have := lt_of_block (hb p hp).1; omega
theorem r3_acc0 (h : R3 W rb vb v1 v2 Lr key L L1 L2 bx z) (g : Gl z) (hv : Vw.VOk Lr key L) (s : Bk.Sgn) (hs : SgnOk s) (hL : L.length ≤ 900000) :
    Calls Tryz.prog 14 #[.pointer (some ⟨vb, 0, none⟩), .agg #[.int .i64 s.key, .string ⟨s.text.toArray⟩, .int .i64 s.mark]] z fun e w' => e = .returned (.int .i64 (Vw.accept Lr key L s).1) ∧ R3 W rb vb v1 v2 Lr key (Vw.accept Lr key L s).2 L1 L2 bx w' := by
  obtain ⟨q, r, r1, r2, rfl, rfl, rfl, rfl, h0, h1, h2, h3, a1, a2, a3, hn, hb⟩ := h
  refine (accept_v _ _ r q key Lr L s z g h0 h1 hv hs hn.size hL).mono ?_
  rintro e w' ⟨r', rfl, c1, c2, u, hf⟩
  refine ⟨rfl, q, r', r1, r2, rfl, c2, rfl, rfl, h0.upd u (fun j hj => (a1 j hj).1), c1, h2.upd u (fun j hj e => (a2 j e).1 hj), h3.upd u (fun j hj e => (a2 j e).2 hj), fun j hj => ⟨fun e => ?_, (a1 j hj).2.1, (a1 j hj).2.2⟩, fun j hj => ⟨fun e => ?_, fun e => ?_⟩, a3, hn.trans' u (fun j hj e => by have := (h1.foot_lt e).1; omega), fun p hp => ⟨u.keep (hb p hp).1 (hb p hp).2.2.1, (hb p hp).2.1, fun e => ?_, (hb p hp).2.2.2.1, (hb p hp).2.2.2.2⟩⟩
  · rcases hf j e with e2 | e2
    · exact (a1 j hj).1 e2
    · have := (h0.foot_lt hj).2; omega
  · rcases hf j hj with e2 | e2
    · exact (a2 j e2).1 e
    · have := (h2.foot_lt e).2; omega
  · rcases hf j hj with e2 | e2
    · exact (a2 j e2).2 e
    · have := (h3.foot_lt e).2; omega
  · rcases hf _ e with e2 | e2
    · exact (hb p hp).2.2.1 e2
    · have := lt_of_block (hb p hp).1; omega
theorem r3_sign (h : R3 W rb vb v1 v2 Lr key L L1 L2 bx z) (g : Gl z) (t : List UInt8) (ht : t.length ≤ 1000000) (hLr : Lr.length ≤ 1000000) {sg : Bk.Sgn} {Lr' : List Bk.Seal} (e : Bk.sign Lr key t = (sg, Lr')) :
    Calls Tryz.prog 42 #[.pointer (some ⟨rb, 0, none⟩), .int .i64 key, .string ⟨t.toArray⟩] z fun e w' => e = .returned (.agg #[.int .i64 sg.key, .string ⟨sg.text.toArray⟩, .int .i64 sg.mark]) ∧ R3 W rb vb v1 v2 Lr' key L L1 L2 bx w' := by
  obtain ⟨q, r, r1, r2, rfl, rfl, rfl, rfl, h0, h1, h2, h3, a1, a2, a3, hn, hb⟩ := h
  have hk : 0 ≤ key ∧ key < 200 := by have := h1.key; unfold Bk.isKey at this; simpa using this
  refine (sign_s _ q Lr key t z g h0 (by unfold I64; omega) (by omega) hLr hn.size).mono ?_
  rintro _ w' ⟨q', rfl, c1, c2, u, hf⟩
  rw [e] at c1 ⊢
  have hlt : ∀ j, q.foot j → j < z.heap.size := fun j hj => (h0.foot_lt hj).2
  have hk2 : ∀ {r : ViewR} {rb : Nat} {L : List Bk.Sgn}, ViewAt W.heap.size z r rb key L → (∀ j, q.foot j → ¬ r.foot j) → ∀ j, q'.foot j → ¬ r.foot j := fun hr ha j hj e => by
    rcases hf j hj with e2 | e2
    · exact ha j e2 e
    · have := (hr.foot_lt e).2; omega
  refine ⟨rfl, q', r, r1, r2, c2, rfl, rfl, rfl, c1, h1.upd u (fun j hj e => (a1 j e).1 hj), h2.upd u (fun j hj e => (a1 j e).2.1 hj), h3.upd u (fun j hj e => (a1 j e).2.2 hj), fun j hj => ⟨hk2 h1 (fun j hj => (a1 j hj).1) j hj, hk2 h2 (fun j hj => (a1 j hj).2.1) j hj, hk2 h3 (fun j hj => (a1 j hj).2.2) j hj⟩, a2, a3, hn.trans' u (fun j hj e => by have := (h0.foot_lt e).1; omega), fun p hp => ⟨u.keep (hb p hp).1 (hb p hp).2.1, fun e => ?_, (hb p hp).2.2⟩⟩
  rcases hf _ e with e2 | e2
  · exact (hb p hp).2.1 e2
  · have := lt_of_block (hb p hp).1; omega
theorem r3_signX (h : R3 W rb vb v1 v2 Lr key L L1 L2 bx z) (g : Gl z) (hLr : Lr.length ≤ 1000000) {sg : Bk.Sgn} {Lr' : List Bk.Seal} (e : Bk.sign Lr key Vw.tx = (sg, Lr')) :
    Calls Tryz.prog 42 #[.pointer (some ⟨rb, 0, none⟩), .int .i64 key, .string { data := #[49, 59, 50, 48, 48, 48, 48, 48, 59, 49, 48, 55, 51, 55, 52, 49, 56, 50, 52, 59, 48, 58, 44] }] z fun e w' => e = .returned (.agg #[.int .i64 sg.key, .string ⟨sg.text.toArray⟩, .int .i64 sg.mark]) ∧ R3 W rb vb v1 v2 Lr' key L L1 L2 bx w' := by
  have h := r3_sign h g Vw.tx (by decide) hLr e
  have e2 : (⟨Vw.tx.toArray⟩ : ByteArray) = { data := #[49, 59, 50, 48, 48, 48, 48, 48, 59, 49, 48, 55, 51, 55, 52, 49, 56, 50, 52, 59, 48, 58, 44] } := by unfold Vw.tx; rfl
  rwa [e2] at h
theorem r3_signY (h : R3 W rb vb v1 v2 Lr key L L1 L2 bx z) (g : Gl z) (hLr : Lr.length ≤ 1000000) {sg : Bk.Sgn} {Lr' : List Bk.Seal} (e : Bk.sign Lr key Vw.ty = (sg, Lr')) :
    Calls Tryz.prog 42 #[.pointer (some ⟨rb, 0, none⟩), .int .i64 key, .string { data := #[49, 59, 48, 59, 49, 48, 55, 51, 55, 52, 49, 56, 50, 52, 59, 48, 58, 44] }] z fun e w' => e = .returned (.agg #[.int .i64 sg.key, .string ⟨sg.text.toArray⟩, .int .i64 sg.mark]) ∧ R3 W rb vb v1 v2 Lr' key L L1 L2 bx w' := by
  have h := r3_sign h g Vw.ty (by decide) hLr e
  have e2 : (⟨Vw.ty.toArray⟩ : ByteArray) = { data := #[49, 59, 48, 59, 49, 48, 55, 51, 55, 52, 49, 56, 50, 52, 59, 48, 58, 44] } := by unfold Vw.ty; rfl
  rwa [e2] at h
theorem sign_more {k : Int} {t : List UInt8} (h : Vw.VOk Lr key L) : Vw.VOk (Bk.sign Lr k t).2 key L := by
  unfold Bk.sign
  split
  · split
    · exact h
    · exact h.more _
  · exact h
end
theorem sgn_later {B : Nat} {w : World} {a : Option Addr} {n cap : Nat} {L : List Bk.Sgn} {k : Nat} (h : w.ownsRow B tSigned 3 (.slice a n cap) L.length (flatS L)) (hk : k < L.length) :
    ∃ b o, a = some ⟨b, o, none⟩ ∧ ∀ i : Later w, i.1.cell? ⟨b, o + k * 3, none⟩ = some (.int .i64 L[k].key) ∧ i.1.cell? ⟨b, o + k * 3 + 1, none⟩ = some (.string ⟨L[k].text.toArray⟩) ∧ i.1.cell? ⟨b, o + k * 3 + 2, none⟩ = some (.int .i64 L[k].mark) := by
  obtain ⟨b, o, rfl, _⟩ := sgn_at8 h hk
  refine ⟨b, o, rfl, fun i => ?_⟩
  obtain ⟨b', o', e, d⟩ := sgn_at8 (owns_upd' h i.nw (fun _ _ e => e)) hk
  obtain ⟨rfl, rfl⟩ : b = b' ∧ o = o' := by simpa using e
  exact d
theorem item_le2 {s : Bk.Sgn} (hm : I64 s.mark) (ht : s.text.length ≤ 30000) : (Vw.itemE s).length ≤ 30100 := by
  have i1 := itoa_le hm
  have i2 := itoa_le (n := (s.text.length : Int)) (by unfold I64; omega)
  unfold Vw.itemE Wire.numE
  split
  · simp only [Wire.textE, List.length_append, List.length_cons, List.length_nil]; omega
  · simp only [Wire.intE, Wire.textE, List.length_append, List.length_cons, List.length_nil]; omega
theorem items_le2 {L : List Bk.Sgn} (h : ∀ s ∈ L, I64 s.mark ∧ s.text.length ≤ 30000) : ((L.map Vw.itemE).flatten).length ≤ 30100 * L.length := by
  induction L with
  | nil => simp
  | cons s L ih =>
    have h1 := item_le2 (h s (List.mem_cons_self ..)).1 (h s (List.mem_cons_self ..)).2
    have h2 := ih (fun x hx => h x (List.mem_cons_of_mem _ hx))
    rw [List.map_cons, List.flatten_cons, List.length_append, List.length_cons]
    omega
theorem numE_le {n : Int} (h : I64 n) : (Wire.numE n).length ≤ 30 := by
  have i := itoa_le h
  unfold Wire.numE
  split
  · simp
  · simp only [Wire.intE, List.length_append, List.length_cons, List.length_nil]; omega
theorem bytes_le {key : Int} {L : List Bk.Sgn} (hk : Bk.isKey key = true) (h : ∀ s ∈ L, I64 s.mark ∧ s.text.length ≤ 30000) (hl : L.length ≤ 22) : (Vw.bytesOf key L).length ≤ 700000 := by
  have hk2 : 0 ≤ key ∧ key < 200 := by unfold Bk.isKey at hk; simpa using hk
  have a := numE_le (n := key) (by unfold I64; omega)
  have b := numE_le (n := (L.length : Int)) (by unfold I64; omega)
  have c := items_le2 h
  unfold Vw.bytesOf
  simp only [List.length_append]
  omega
theorem vok_text {Lr : List Bk.Seal} {key : Int} {L : List Bk.Sgn} (h : Vw.VOk Lr key L) : ∀ s ∈ L, s.text.length ≤ 30000 := fun s hs => by
  obtain ⟨l1, l2, _⟩ := Vw.log_spec (h.each s hs).2.2
  have := text_len8 (Vw.claimOf s) (log_bounds (h.each s hs).2.2).1
  rwa [l2] at this
theorem twice_is (key : Int) (x : Bk.Sgn) : (((((Wire.numE key ++ Wire.numE 2) ++ Wire.numE x.mark) ++ Wire.textE x.text) ++ Wire.numE x.mark) ++ Wire.textE x.text) = Vw.bytesOf key [x, x] := by
  unfold Vw.bytesOf Vw.itemE
  simp [List.append_assoc]
set_option maxHeartbeats 8000000 in
set_option maxRecDepth 100000 in
theorem reads_c (l : List Vw.Say) (v : Value) (key : Int) (W : World) (g : Gl W) (hv : SlS 7 0 W.heap.size W v (l.map sayL)) (ho : ∀ x ∈ l, SayOk x) (hkey : I64 key) :
    Calls Tryz.prog 5 #[v, .int .i64 key] W fun e w' => e = .returned (.bool true) ∧ Nw W w' := by
  have hgb := g.big
  obtain ⟨a0, cap0, rfl, hm0, _⟩ := say_cells hv
  unfold maxLen at hm0
  have Hho := Lib.hid ho
  have Hv := Lib.hid hv
  clear ho hv
  go_enter Tryz.func5, Tryz.ntmps5
  go_wp2_with fail
  (with_reducible refine (small_v _ g).mono ?_)
  rintro _ w0 ⟨rfl, u0⟩
  have g0 := g.upd u0
  go_wp2_with fail
  (with_reducible refine (new_s _ g0).mono ?_)
  rintro _ w1 ⟨q, rfl, hq, u1⟩
  have U1 := u0.trans u1
  have hq := hq.base8 u0.size hgb
  go_wp2_with fail
  (with_reducible refine (new_v q.rb key _ (g.upd U1)).mono ?_)
  rintro _ w2 hnv
  rcases hnv with ⟨hkk, r, rfl, hr, u2⟩ | ⟨hkk, rfl, u2⟩
  rotate_left
  · have hk2 : key < 0 ∨ 200 ≤ key := by unfold Bk.isKey at hkk; rw [← Bool.not_eq_true] at hkk; simp at hkk; omega
    have U2 := U1.trans u2
    have Hk2 := Lib.hid hk2
    clear hkk hk2
    go_wp2_with fail
    (with_reducible refine (few_w 0 W.heap.size _ l _ (Hv.out.nw U2) Hho.out).mono ?_)
    rintro _ w4 ⟨f, rfl, _, u4⟩
    have U4 := U2.trans u4
    cases f
    all_goals rcases Hk2.out with hk2 | hk2
    all_goals go_wp2_with fail
    all_goals go_ret
    all_goals exact ⟨rfl, U4⟩
  have U2 := U1.trans u2
  go_wp2_with fail
  (with_reducible refine (few_w 0 W.heap.size _ l _ (Hv.out.nw U2) Hho.out).mono ?_)
  rintro _ w4 ⟨f, rfl, hf, u4⟩
  have U4 := U2.trans u4
  have g4 := g.upd U4
  cases f with
  | false =>
    clear hf
    go_wp2_with fail
    go_ret
    exact ⟨rfl, U4⟩
  | true =>
  obtain ⟨hl20, hl300⟩ := hf rfl
  have Hl300 := Lib.hid hl300
  clear hf hl300
  obtain ⟨f1, f2, f3, f4⟩ := Vw.signed_facts (Lr := []) List.nodup_nil (l := l) (by simp; omega) (fun x hx => words_len (Hho.out x hx) (Hl300.out x hx).1)
  have Hsg := Lib.hid (signed_w W.heap.size 0 W.heap.size q [] _ l w4 g4 ((hq.nw u2).nw u4) (Hv.out.nw U4) (Nat.le_refl _) Hho.out (fun x hx => (Hl300.out x hx).1) hl20 (by decide))
  have F4 := Lib.hid f4
  have F3 := Lib.hid f3
  have HLr20 : Hid ((Vw.signedL [] l).1.length ≤ 20) := by show _ ≤ _; simp only [List.length_nil] at f1; omega
  have Hl20 := Lib.hid hl20
  clear f1 f2 f3 f4 hl20
  go_wp2_with fail
  (with_reducible refine (Hsg.out).mono ?_)
  rintro _ w5 ⟨sv, rfl, hs5⟩
  have K0 := kp_start2 hq U1 u2 hr u4 hs5 F3.out
  have hlenS := F3.out
  have h20 := Hl20.out
  have HKey := Lib.hid hkk
  clear hs5 hr hq Hsg hkk
  generalize Vw.signedL [] l = SL at *
  obtain ⟨Lr, S⟩ := SL
  dsimp only at K0 F3 F4 HLr20 hlenS
  obtain ⟨asl, caps, hsv⟩ := own_sl K0.row
  subst hsv
  have hS20 : S.length ≤ 20 := by omega
  have HK0 := Lib.hid K0
  clear K0 hlenS h20
  generalize r.vb = vb at *
  generalize q.rb = rb at *
  go_wp2_with fail
  go_loopw [9] (fun i wr => ∃ k : Nat, k ≤ S.length ∧ i = .int .i64 k ∧ Hid (∃ L, L.length ≤ k ∧ Kp W rb Lr key (.slice asl S.length caps) S L vb [] wr)) (fun i _ => S.length - (intOf i).toNat)
  case atStart => exact ⟨0, Nat.zero_le _, rfl, [], Nat.le_refl _, HK0.out⟩
  case round =>
    obtain ⟨k, hk, rfl, HR⟩ := hrel
    obtain ⟨L, hLk, K⟩ := HR.out
    have hL9 : L.length ≤ 900000 := by omega
    have gw := g.upd K.nw
    by_cases hlt : k < S.length
    · obtain ⟨b, o, rfl, d0, d1, d2⟩ := sgn_at8 K.row hlt
      have hso := mod_ok S[k] (F4.out S[k] (List.getElem_mem hlt))
      generalize S[k] = x at *
      have hacl := Vw.accept_len Lr key L x
      have H0 := Lib.hid K
      have Hso := Lib.hid hso
      have HL9 := Lib.hid hL9
      have HL' : Hid ((Vw.accept Lr key L x).2.length ≤ k + 1) := by show _ ≤ _; omega
      clear K hso hL9 hacl HR hLk
      go_wp2_with fail
      (with_reducible refine (kp_acc H0.out gw x Hso.out HL9.out).mono ?_)
      rintro _ x4 ⟨rfl, K4⟩
      have H4 := Lib.hid K4
      clear K4
      go_wp2_with fail
      go_roundw
      case rel => exact ⟨k + 1, by omega, by go_num, _, HL'.out, H4.out⟩
      case measure => simp [intOf]; omega
    · obtain rfl : k = S.length := by omega
      have hL20 : L.length ≤ 20 := by omega
      have hvok := K.vs.ok
      have hkey8 := K.vs.keyOk
      have HLr : Hid (Lr.length ≤ 1000000) := by show _ ≤ _; have := HLr20.out; omega
      have hSL : ∀ s ∈ L, SgnOk s ∧ s.text.length ≤ 100000 := fun s hs => valid_ok hkey8 HLr.out (hvok.each s hs).1 (hvok.each s hs).2.1 (hvok.each s hs).2.2
      have ht30 := vok_text hvok
      have hBl := bytes_le hkey8 (fun s hs => ⟨(hSL s hs).1.m, ht30 s hs⟩) (L := L) (by omega)
      have ht63 : ∀ s ∈ L, s.text.length ≤ 9223372036854775807 := fun s hs => by have := ht30 s hs; omega
      obtain ⟨hb1, hb2⟩ := Vw.read_back hvok hkey8 HLr.out ht63 (by omega)
      have hoth := Vw.read_other hvok hkey8 HLr.out ht63 (by omega)
      have htw := fun x (hx : x ∈ L) => Vw.read_twice hvok hkey8 HLr.out ht63 hx
      have hmore := Vw.read_more hvok hkey8 HLr.out ht63 (by omega) 48 [59]
      -- the two heads
      obtain ⟨⟨xk, xt, xm⟩, Lr1, e1⟩ : ∃ sg Lr1, Bk.sign Lr key Vw.tx = (sg, Lr1) := ⟨_, _, rfl⟩
      obtain ⟨⟨yk, yt, ym⟩, Lr2, e2⟩ : ∃ sg Lr2, Bk.sign Lr1 key Vw.ty = (sg, Lr2) := ⟨_, _, rfl⟩
      have l1 : Lr1.length ≤ Lr.length + 1 := by have := Vw.sign_len Lr key Vw.tx; rw [e1] at this; exact this
      have l2 : Lr2.length ≤ Lr1.length + 1 := by have := Vw.sign_len Lr1 key Vw.ty; rw [e2] at this; exact this
      have hv2 : Vw.VOk Lr2 key L := by
        have a := sign_more (Lr := Lr) (k := key) (t := Vw.tx) hvok
        rw [e1] at a
        have b := sign_more (Lr := Lr1) (k := key) (t := Vw.ty) a
        rw [e2] at b
        exact b
      have hx := Vw.sign_sgn Lr key Vw.tx
      have hy := Vw.sign_sgn Lr1 key Vw.ty
      have hxt : xt = Vw.tx := by
        have := e1
        unfold Bk.sign at this
        rw [if_pos hkey8] at this
        split at this <;> (injection this with a _; injection a with _ a _; exact a.symm)
      have hyt : yt = Vw.ty := by
        have := e2
        unfold Bk.sign at this
        rw [if_pos hkey8] at this
        split at this <;> (injection this with a _; injection a with _ a _; exact a.symm)
      rw [e1] at hx
      rw [e2] at hy
      dsimp only at hx hy
      have hLr20 := HLr20.out
      have tl1 : Vw.tx.length ≤ 100 := by decide
      have tl2 : Vw.ty.length ≤ 100 := by decide
      have HXo : Hid (SgnOk ⟨xk, xt, xm⟩) := ⟨by show I64 xk; unfold I64; omega, by show xt.length ≤ _; omega, by show I64 xm; unfold I64; omega⟩
      have HYo : Hid (SgnOk ⟨yk, yt, ym⟩) := ⟨by show I64 yk; unfold I64; omega, by show yt.length ≤ _; omega, by show I64 ym; unfold I64; omega⟩
      obtain ⟨ea, La, ha⟩ : ∃ ea La, Vw.accept Lr2 key L ⟨xk, xt, xm⟩ = (ea, La) := ⟨_, _, rfl⟩
      obtain ⟨eb, Lb, hb⟩ : ∃ eb Lb, Vw.accept Lr2 key L ⟨yk, yt, ym⟩ = (eb, Lb) := ⟨_, _, rfl⟩
      have hva : Vw.VOk Lr2 key La := by have := Vw.accept_ok hv2 ⟨xk, xt, xm⟩; rwa [ha] at this
      have hvb : Vw.VOk Lr2 key Lb := by have := Vw.accept_ok hv2 ⟨yk, yt, ym⟩; rwa [hb] at this
      have hla : La.length ≤ 21 := by have := Vw.accept_len Lr2 key L ⟨xk, xt, xm⟩; rw [ha] at this; dsimp only at this; omega
      have hlb : Lb.length ≤ 21 := by have := Vw.accept_len Lr2 key L ⟨yk, yt, ym⟩; rw [hb] at this; dsimp only at this; omega
      have hLr2 : Lr2.length ≤ 1000000 := by omega
      have ta := vok_text hva
      have tb := vok_text hvb
      have HSa : Hid (∀ s ∈ La, SgnOk s ∧ s.text.length ≤ 100000) := fun s hs => valid_ok hkey8 hLr2 (hva.each s hs).1 (hva.each s hs).2.1 (hva.each s hs).2.2
      have HSb : Hid (∀ s ∈ Lb, SgnOk s ∧ s.text.length ≤ 100000) := fun s hs => valid_ok hkey8 hLr2 (hvb.each s hs).1 (hvb.each s hs).2.1 (hvb.each s hs).2.2
      have HNE : Hid (ea = 0 → eb = 0 → Vw.bytesOf key La ≠ Vw.bytesOf key Lb) := fun z1 z2 => by
        have m1 := Vw.acc_mem (Lr := Lr2) (key := key) (L := L) (s := ⟨xk, xt, xm⟩) (by rw [ha]; exact z1)
        have m2 := Vw.acc_mem (Lr := Lr2) (key := key) (L := L) (s := ⟨yk, yt, ym⟩) (by rw [hb]; exact z2)
        rw [ha] at m1
        rw [hb] at m2
        exact Vw.apart_xy hkey8 hLr2 hva hvb (fun s hs => by have := ta s hs; omega) (fun s hs => by have := tb s hs; omega) (by omega) (by omega) m1 m2 hxt hyt
      have HLa : Hid (La.length ≤ 900000) := by show _ ≤ _; omega
      have HLb : Hid (Lb.length ≤ 900000) := by show _ ≤ _; omega
      have HLr1 : Hid (Lr1.length ≤ 1000000) := by show _ ≤ _; omega
      have E1 := Lib.hid e1
      have E2 := Lib.hid e2
      have EA := Lib.hid ha
      have EB := Lib.hid hb
      have HV2 := Lib.hid hv2
      have HB1 := Lib.hid hb1
      have HB2 := Lib.hid hb2
      have HOth := Lib.hid hoth
      have HTw := Lib.hid htw
      have HMore := Lib.hid hmore
      have HBl : Hid ((Vw.bytesOf key L).length ≤ 700000) := hBl
      have HSL := Lib.hid hSL
      have HT30 := Lib.hid ht30
      have HL9 := Lib.hid hL9
      have HK := Lib.hid K
      have Hvok := Lib.hid hvok
      have HK8 := Lib.hid hkey8
      clear e1 e2 l1 l2 hv2 hx hy hxt hyt hLr20 tl1 tl2 ha hb hva hvb hla hlb hLr2 ta tb hb1 hb2 hoth htw hmore hBl hSL ht30 ht63 hL9 K hvok hkey8 HR
      go_wp2_with fail
      (with_reducible refine (kp_bytes HK.out gw HLr.out HL9.out).mono ?_)
      rintro _ x1 ⟨rfl, K1⟩
      have HK1 := Lib.hid K1
      clear K1
      go_wp2_with fail
      (with_reducible refine (rd_read HK1.out (g.upd HK1.out.nw) (Vw.bytesOf key L) (by have := HBl.out; omega) HB1.out HB2.out).mono ?_)
      rintro _ x2 ⟨v1, rfl, R0⟩
      have HR0 := Lib.hid R0
      clear R0
      go_wp2_with fail
      (with_reducible refine (rd_copy HR0.out (g.upd HR0.out.nw) Hvok.out (fun s hs => (HSL.out s hs).1) HL9.out).mono ?_)
      rintro _ x3 ⟨v2, rfl, R1⟩
      have HR1 := Lib.hid R1
      clear R1
      go_wp2_with fail
      (with_reducible refine (r3_bytes1 HR1.out (g.upd HR1.out.nw) HSL.out HL9.out).mono ?_)
      rintro _ x4 ⟨rfl, R2⟩
      have HR2 := Lib.hid R2
      clear R2
      go_wp2_with fail
      (with_reducible refine (r3_bytes2 HR2.out (g.upd HR2.out.nw) HSL.out HL9.out).mono ?_)
      rintro _ x5 ⟨rfl, R2⟩
      have HR2b := Lib.hid R2
      clear R2
      go_wp2_with fail
      (with_reducible refine (r3_claims1 HR2b.out (g.upd HR2b.out.nw) HL9.out).mono ?_)
      rintro _ x6 ⟨a1, c1, rfl, R2, o1, v6⟩
      have HR2c := Lib.hid R2
      have HO1 := Lib.hid o1
      clear R2 o1
      go_wp2_with fail
      (with_reducible refine (r3_claims0 HR2c.out (g.upd HR2c.out.nw) HL9.out).mono ?_)
      rintro _ x7 ⟨a2, c2, rfl, R2, o2, v7⟩
      have HR2d := Lib.hid R2
      have HSm := Lib.hid (same_v W.heap.size x7.heap.size W.heap.size x7.heap.size (.slice a1 L.length c1) (.slice a2 L.length c2) L L x7 (sgn_sls (owns_upd' HO1.out v7 (fun _ _ e => e))) (sgn_sls o2) HL9.out rfl)
      clear R2 o2
      go_wp2_with fail
      (with_reducible refine (HSm.out).mono ?_)
      rintro _ x8 ⟨rfl, v8⟩
      have HR2e := Lib.hid (HR2d.out.go v8)
      go_wp2_with fail
      (with_reducible refine (r3_key1 HR2e.out).mono ?_)
      rintro _ x9 ⟨rfl, R2⟩
      have HR2f := Lib.hid R2
      clear R2
      go_wp2_with fail
      (with_reducible refine (r3_claims0 HR2f.out (g.upd HR2f.out.nw) HL9.out).mono ?_)
      rintro _ x10 ⟨a3, c3, rfl, R3', o3, v10⟩
      have HR3 := Lib.hid R3'
      have HO3 := Lib.hid o3
      clear R3' o3
      have hbz := HBl.out
      have happ := bs_append (Vw.bytesOf key L) [48, 59]
      have Hap := Lib.hid happ
      clear happ
      by_cases hpos : 0 < L.length
      rotate_left
      · have happ := Hap.out
        go_wp2_with fail
        (with_reducible refine (rd_err HR3.out (g.upd HR3.out.nw) (Vw.bytesOf key L ++ [48, 59]) (by rw [List.length_append]; have := HBl.out; simp only [List.length_cons, List.length_nil]; omega) HMore.out).mono ?_)
        rintro _ y1 ⟨rfl, R4⟩
        have HR4 := Lib.hid R4
        clear R4
        go_wp2_with fail
        (with_reducible refine (r3_signX HR4.out (g.upd HR4.out.nw) HLr.out E1.out).mono ?_)
        rintro _ y2 ⟨rfl, R5⟩
        replace R5 := R5.box (.cells #[.int .i64 xk, .string ⟨xt.toArray⟩, .int .i64 xm] tSigned)
        have HR5 := Lib.hid R5
        clear R5
        go_wp2_with fail
        (with_reducible refine (r3_signY HR5.out (g.upd HR5.out.nw) HLr1.out E2.out).mono ?_)
        rintro _ y3 ⟨rfl, R6⟩
        replace R6 := R6.box (.cells #[.int .i64 yk, .string ⟨yt.toArray⟩, .int .i64 ym] tSigned)
        have HR6 := Lib.hid R6
        obtain ⟨_, _, _⟩ := cell3 (R6.at 0 rfl)
        obtain ⟨_, _, _⟩ := cell3 (R6.at 1 rfl)
        clear R6
        go_wp2_with fail
        (with_reducible refine (r3_acc2 HR6.out (g.upd HR6.out.nw) HV2.out ⟨xk, xt, xm⟩ HXo.out HL9.out).mono ?_)
        rintro _ y4 ⟨rfl, R7⟩
        rw [EA.out] at R7 ⊢
        dsimp only at R7 ⊢
        have HR7 := Lib.hid R7
        obtain ⟨_, _, _⟩ := cell3 (R7.at 0 rfl)
        obtain ⟨_, _, _⟩ := cell3 (R7.at 1 rfl)
        clear R7
        go_wp2_with fail
        (with_reducible refine (r3_acc0 HR7.out (g.upd HR7.out.nw) HV2.out ⟨yk, yt, ym⟩ HYo.out HL9.out).mono ?_)
        rintro _ y5 ⟨rfl, R8⟩
        rw [EB.out] at R8 ⊢
        dsimp only at R8 ⊢
        have HR8 := Lib.hid R8
        clear R8
        go_wp2_with fail
        (with_reducible refine (r3_claims1 HR8.out (g.upd HR8.out.nw) HL9.out).mono ?_)
        rintro _ y6 ⟨ax, capx, rfl, R9, _, _⟩
        have HR9 := Lib.hid R9
        clear R9
        by_cases he1 : ea = 0
        rotate_left
        · have de : (ea == 0) = false := beq_eq_false_iff_ne.2 he1
          have de2 : (ea != 0) = true := by simp [bne, de]
          clear he1
          go_wp2_with fail
          go_ret
          exact ⟨rfl, HR9.out.nw⟩
        by_cases he2 : eb = 0
        rotate_left
        · have de : (eb == 0) = false := beq_eq_false_iff_ne.2 he2
          have de2 : (eb != 0) = true := by simp [bne, de]
          clear he2
          subst he1
          go_wp2_with fail
          go_ret
          exact ⟨rfl, HR9.out.nw⟩
        have hne := HNE.out he1 he2
        subst he1 he2
        go_wp2_with fail
        (with_reducible refine (r3_bytes2 HR9.out (g.upd HR9.out.nw) HSa.out HLa.out).mono ?_)
        rintro _ y7 ⟨rfl, R10⟩
        have HR10 := Lib.hid R10
        clear R10
        go_wp2_with fail
        (with_reducible refine (r3_bytes0 HR10.out (g.upd HR10.out.nw) HSb.out HLb.out).mono ?_)
        rintro _ y8 ⟨rfl, R11⟩
        have HR11 := Lib.hid R11
        clear R11
        generalize Vw.bytesOf key La = ta at *
        generalize Vw.bytesOf key Lb = tb at *
        have db : (ta == tb) = false := beq_eq_false_iff_ne.2 hne
        go_wp2_with fail
        go_ret
        exact ⟨rfl, HR11.out.nw⟩
      have hne : L ≠ [] := fun e => by rw [e] at hpos; simp at hpos
      go_wp2_with fail
      (with_reducible refine (new_s _ (g.upd HR3.out.nw)).mono ?_)
      rintro _ x11 ⟨qn, rfl, hqn, u11⟩
      have HR3a := Lib.hid (HR3.out.go u11)
      have HQn := Lib.hid hqn
      clear hqn
      go_wp2_with fail
      (with_reducible refine (rd_other HR3a.out HQn.out (g.upd HR3a.out.nw) (Vw.bytesOf key L) (by omega) (HOth.out hne)).mono ?_)
      rintro _ x12 ⟨rfl, R3b, u12⟩
      have HR3b := Lib.hid R3b
      clear R3b
      obtain ⟨b, o, rfl, dk⟩ := sgn_later (owns_upd' HO3.out (u11.trans u12) (fun _ _ e => e)) hpos
      have hx := HSL.out L[0] (List.getElem_mem hpos)
      have hx3 := HT30.out L[0] (List.getElem_mem hpos)
      have hread := HTw.out L[0] (List.getElem_mem hpos)
      generalize L[0] = x at *
      rw [Nat.zero_mul, Nat.add_zero] at dk
      have d1 : ∀ i : Later x12, i.1.cell? ⟨b, o + 1, none⟩ = some (.string ⟨x.text.toArray⟩) := fun i => (dk i).2.1
      have d2 : ∀ i : Later x12, i.1.cell? ⟨b, o + 2, none⟩ = some (.int .i64 x.mark) := fun i => (dk i).2.2
      have hk2 : 0 ≤ key ∧ key < 200 := by have := HK8.out; unfold Bk.isKey at this; simpa using this
      have hIk : I64 key := by unfold I64; omega
      have hIm : I64 x.mark := hx.1.m
      have l1 : (ByteArray.mk (Wire.numE key).toArray).size ≤ 30 := by rw [bs_size, bs_list]; exact numE_le hIk
      have l2 : (ByteArray.mk (Wire.numE 2).toArray).size ≤ 30 := by rw [bs_size, bs_list]; exact numE_le (by unfold I64; omega)
      have l3 : (ByteArray.mk (Wire.numE x.mark).toArray).size ≤ 30 := by rw [bs_size, bs_list]; exact numE_le hIm
      have l4 : (ByteArray.mk (Wire.textE x.text).toArray).size ≤ 30100 := by rw [bs_size, bs_list]; have := itoa_le (n := (x.text.length : Int)) (by unfold I64; omega); simp only [Wire.textE, List.length_append, List.length_cons, List.length_nil]; omega
      have hcat : (((((ByteArray.mk (Wire.numE key).toArray ++ ByteArray.mk (Wire.numE 2).toArray) ++ ByteArray.mk (Wire.numE x.mark).toArray) ++ ByteArray.mk (Wire.textE x.text).toArray) ++ ByteArray.mk (Wire.numE x.mark).toArray) ++ ByteArray.mk (Wire.textE x.text).toArray) = ByteArray.mk (Vw.bytesOf key [x, x]).toArray := by
        rw [bs_append, bs_append, bs_append, bs_append, bs_append, twice_is]
      have q1 := Num_e key
      have q2 := Num_e 2
      have q3 := Num_e x.mark
      have q4 := Text_e ⟨x.text.toArray⟩ x.text (bs_list _)
      generalize ByteArray.mk (Wire.numE key).toArray = t1 at *
      generalize ByteArray.mk (Wire.numE 2).toArray = t2 at *
      generalize ByteArray.mk (Wire.numE x.mark).toArray = t3 at *
      generalize ByteArray.mk (Wire.textE x.text).toArray = t4 at *
      have Hcat := Lib.hid hcat
      have Q1 := Lib.hid q1
      have Q2 := Lib.hid q2
      have Q3 := Lib.hid q3
      have Q4 := Lib.hid q4
      have HX3 := Lib.hid hx3
      have HBt : Hid ((Vw.bytesOf key [x, x]).length ≤ 700000) := by
        have := bytes_le (L := [x, x]) HK8.out (fun s hs => by simp only [List.mem_cons, List.not_mem_nil, or_false, or_self] at hs; subst hs; exact ⟨hx.1.m, hx3⟩) (by simp)
        exact this
      clear hcat q1 q2 q3 q4 dk hx hx3 hk2
      go_wp2_with fail
      refine wp_region_nw (by kernel_rfl) (by kernel_rfl) ?_
      repeat (go_big_quiet_step ((first | (go_at_call 40; first | exact later_call (Q1.out _ ((g.upd HR3b.out.nw).upd (Later.nw _)) hIk) | exact later_call (Q2.out _ ((g.upd HR3b.out.nw).upd (Later.nw _)) (by unfold I64; omega)) | exact later_call (Q3.out _ ((g.upd HR3b.out.nw).upd (Later.nw _)) hIm)) | (go_at_call 41; exact later_call (Q4.out _ ((g.upd HR3b.out.nw).upd (Later.nw _)) (by have := HX3.out; omega))))))
      refine wpQuiet_nil ?_
      intro x13 u13
      replace u13 := later_out u13
      rw [Hcat.out]
      have HR3c := Lib.hid (HR3b.out.go u13)
      clear d1 d2 l1 l2 l3 l4 HR3
      go_wp2_with fail
      (with_reducible refine (rd_err HR3c.out (g.upd HR3c.out.nw) (Vw.bytesOf key [x, x]) (by have := HBt.out; omega) hread).mono ?_)
      rintro _ x14 ⟨rfl, R3d⟩
      have HR3 := Lib.hid R3d
      clear R3d
      have happ := Hap.out
      go_wp2_with fail
      (with_reducible refine (rd_err HR3.out (g.upd HR3.out.nw) (Vw.bytesOf key L ++ [48, 59]) (by rw [List.length_append]; have := HBl.out; simp only [List.length_cons, List.length_nil]; omega) HMore.out).mono ?_)
      rintro _ y1 ⟨rfl, R4⟩
      have HR4 := Lib.hid R4
      clear R4
      go_wp2_with fail
      (with_reducible refine (r3_signX HR4.out (g.upd HR4.out.nw) HLr.out E1.out).mono ?_)
      rintro _ y2 ⟨rfl, R5⟩
      replace R5 := R5.box (.cells #[.int .i64 xk, .string ⟨xt.toArray⟩, .int .i64 xm] tSigned)
      have HR5 := Lib.hid R5
      clear R5
      go_wp2_with fail
      (with_reducible refine (r3_signY HR5.out (g.upd HR5.out.nw) HLr1.out E2.out).mono ?_)
      rintro _ y3 ⟨rfl, R6⟩
      replace R6 := R6.box (.cells #[.int .i64 yk, .string ⟨yt.toArray⟩, .int .i64 ym] tSigned)
      have HR6 := Lib.hid R6
      obtain ⟨_, _, _⟩ := cell3 (R6.at 0 rfl)
      obtain ⟨_, _, _⟩ := cell3 (R6.at 1 rfl)
      clear R6
      go_wp2_with fail
      (with_reducible refine (r3_acc2 HR6.out (g.upd HR6.out.nw) HV2.out ⟨xk, xt, xm⟩ HXo.out HL9.out).mono ?_)
      rintro _ y4 ⟨rfl, R7⟩
      rw [EA.out] at R7 ⊢
      dsimp only at R7 ⊢
      have HR7 := Lib.hid R7
      obtain ⟨_, _, _⟩ := cell3 (R7.at 0 rfl)
      obtain ⟨_, _, _⟩ := cell3 (R7.at 1 rfl)
      clear R7
      go_wp2_with fail
      (with_reducible refine (r3_acc0 HR7.out (g.upd HR7.out.nw) HV2.out ⟨yk, yt, ym⟩ HYo.out HL9.out).mono ?_)
      rintro _ y5 ⟨rfl, R8⟩
      rw [EB.out] at R8 ⊢
      dsimp only at R8 ⊢
      have HR8 := Lib.hid R8
      clear R8
      go_wp2_with fail
      (with_reducible refine (r3_claims1 HR8.out (g.upd HR8.out.nw) HL9.out).mono ?_)
      rintro _ y6 ⟨ax, capx, rfl, R9, _, _⟩
      have HR9 := Lib.hid R9
      clear R9
      by_cases he1 : ea = 0
      rotate_left
      · have de : (ea == 0) = false := beq_eq_false_iff_ne.2 he1
        have de2 : (ea != 0) = true := by simp [bne, de]
        clear he1
        go_wp2_with fail
        go_ret
        exact ⟨rfl, HR9.out.nw⟩
      by_cases he2 : eb = 0
      rotate_left
      · have de : (eb == 0) = false := beq_eq_false_iff_ne.2 he2
        have de2 : (eb != 0) = true := by simp [bne, de]
        clear he2
        subst he1
        go_wp2_with fail
        go_ret
        exact ⟨rfl, HR9.out.nw⟩
      have hne := HNE.out he1 he2
      subst he1 he2
      go_wp2_with fail
      (with_reducible refine (r3_bytes2 HR9.out (g.upd HR9.out.nw) HSa.out HLa.out).mono ?_)
      rintro _ y7 ⟨rfl, R10⟩
      have HR10 := Lib.hid R10
      clear R10
      go_wp2_with fail
      (with_reducible refine (r3_bytes0 HR10.out (g.upd HR10.out.nw) HSb.out HLb.out).mono ?_)
      rintro _ y8 ⟨rfl, R11⟩
      have HR11 := Lib.hid R11
      clear R11
      generalize Vw.bytesOf key La = ta at *
      generalize Vw.bytesOf key Lb = tb at *
      have db : (ta == tb) = false := beq_eq_false_iff_ne.2 hne
      go_wp2_with fail
      go_ret
      exact ⟨rfl, HR11.out.nw⟩
end Go.Proofs.YtbhpakkgghgpiaaGreatDoor
