/- The operations on a ring and a book as contracts with given answers; the contract of ladinglaw07's small. -/
import Derived.Test.YtjjdmmhlcdfplaaDoorBookG
import Derived.Test.YtjjdmmhlcdfplaaDoorBookX
namespace Go.Proofs.YtjjdmmhlcdfplaaDoor
open Go.RowKit
set_option linter.unusedVariables false
set_option linter.unusedSimpArgs false
attribute [local irreducible] Calls

theorem BookAt.base {B B' : Nat} {w : World} {r : BookR} {rb : Nat} {b : Bk.Book} (h : BookAt B w r rb b) (hB : B' ≤ B) (hg : nG ≤ B') : BookAt B' w r rb b :=
  ⟨hg, Nat.le_trans hB h.bb, Nat.le_trans hB h.fb, h.blk, owns_base h.own hB, h.map, h.keys, h.len, h.last, h.told, h.key⟩
theorem RingAt.base {B B' : Nat} {w : World} {r : RingR} {L : List Bk.Seal} (h : RingAt B w r L) (hB : B' ≤ B) (hg : nG ≤ B') : RingAt B' w r L :=
  ⟨hg, Nat.le_trans hB h.rb, Nat.le_trans hB h.mb, h.blk, owns_base h.own hB, h.map, h.nd, h.key⟩
theorem both_new {B : Nat} {w1 w2 : World} {r : RingR} {br : BookR} {L : List Bk.Seal} {b : Bk.Book} (hr : RingAt B w1 r L) (hb : BookAt w1.heap.size w2 br r.rb b) (u2 : Nw w1 w2) (hB : B ≤ w1.heap.size) : Both B w2 r br ⟨L, b⟩ :=
  ⟨hr.nw u2, hb.base hB hr.hb, fun k hk e => by
    have h1 := (hr.foot_lt hk).2
    have h2 := (hb.foot_lt e).1
    omega⟩
theorem new_b' (rb : Nat) (key : Int) (hk : Bk.isKey key = true) (w : World) (g : Gl w) : Calls Tryd.prog 11 #[.pointer (some ⟨rb, 0, none⟩), .int .i64 key] w fun e w' =>
    ∃ r, e = .returned (.tuple #[.pointer (some ⟨r.bb, 0, none⟩), .int .i64 0]) ∧ BookAt w.heap.size w' r rb (Bk.new key) ∧ Nw w w' := by
  refine (new_b rb key w g).mono ?_
  rintro e w' (⟨_, h⟩ | ⟨h, _⟩)
  · exact h
  · rw [hk] at h; cases h
/-- Since a world that all of it is younger than, nothing has changed. -/
theorem moved_nw {B : Nat} {w0 w w' : World} {r r' : RingR} {br br' : BookR} {x x' : Bk.St} (h : Both B w r br x) (hB : w0.heap.size ≤ B) (u : Nw w0 w) (m : Moved B r br x' w w' r' br') : Nw w0 w' :=
  Upd.trans' u m.upd (fun k hk e => by
    rcases e with e | e
    · have := (h.ring.foot_lt e).1; omega
    · have := (h.book.foot_lt e).1; omega)
theorem lit_app (B : Nat) (r : RingR) (br : BookR) (x : Bk.St) (s : ByteArray) (t : List UInt8) (y : Int × Int) (b' : Bk.Book) (hs : s.data.toList = t) (hy : Bk.append x.b t = (y, b')) (w : World) (g : Gl w) (h : Both B w r br x) (hB : B ≤ w.heap.size) (ht : t.length ≤ 140737488351232) :
    Calls Tryd.prog 22 #[.pointer (some ⟨br.bb, 0, none⟩), .string s] w fun e w' => ∃ br', e = .returned (.tuple #[.int .i64 y.1, .int .i64 y.2]) ∧ Moved B r br ⟨x.L, b'⟩ w w' r br' := by
  obtain rfl : s = ⟨t.toArray⟩ := by rw [← hs, bs_eta]
  refine (append_b B br r.rb x.b t w g h.book hB ht).mono ?_
  rintro e w' ⟨br', rfl, hb, hbb, u, hf⟩
  rw [hy] at hb ⊢
  exact ⟨br', rfl, moved_app h hb hbb u hf⟩
theorem lit_abs (B : Nat) (r : RingR) (br : BookR) (x : Bk.St) (s : ByteArray) (k : List UInt8) (n : Int) (y : Bk.Sgn) (e0 : Int) (L' : List Bk.Seal) (hs : s.data.toList = k) (hy : Bk.absent x.L x.b k n = ((y, e0), L')) (w : World) (g : Gl w) (h : Both B w r br x) (hB : B ≤ w.heap.size) (hn : I64 n) (hk : k.length ≤ 140737488351232) (hL : x.L.length ≤ 1000000) :
    Calls Tryd.prog 23 #[.pointer (some ⟨br.bb, 0, none⟩), .string s, .int .i64 n] w fun e w' => ∃ r', e = .returned (.tuple #[.agg #[.int .i64 y.key, .string ⟨y.text.toArray⟩, .int .i64 y.mark], .int .i64 e0]) ∧ Moved B r br ⟨L', x.b⟩ w w' r' br := by
  obtain rfl : s = ⟨k.toArray⟩ := by rw [← hs, bs_eta]
  refine (absent_b B r br x.L x.b k n w g h.ring h.book hB hn hk hL).mono ?_
  rintro e w' ⟨r', rfl, hr, hrb, u, hf⟩
  rw [hy] at hr ⊢
  exact ⟨r', rfl, moved_sgn h hr hrb u hf⟩
theorem lit_head (B : Nat) (r : RingR) (br : BookR) (x : Bk.St) (n : Int) (y : Bk.Sgn) (e0 : Int) (L' : List Bk.Seal) (b' : Bk.Book) (hy : Bk.head x.L x.b n = ((y, e0), L', b')) (w : World) (g : Gl w) (h : Both B w r br x) (hB : B ≤ w.heap.size) (hn : I64 n) (hL : x.L.length ≤ 1000000) :
    Calls Tryd.prog 32 #[.pointer (some ⟨br.bb, 0, none⟩), .int .i64 n] w fun e w' => ∃ r', e = .returned (.tuple #[.agg #[.int .i64 y.key, .string ⟨y.text.toArray⟩, .int .i64 y.mark], .int .i64 e0]) ∧ Moved B r br ⟨L', b'⟩ w w' r' br := by
  refine (head_b B r br x.L x.b n w g h.ring h.book hB hn h.dis hL).mono ?_
  rintro e w' ⟨r', rfl, hr, hrb, hb, u, hf⟩
  rw [hy] at hr hb ⊢
  exact ⟨r', rfl, moved_head h hr hb hrb u hf⟩
theorem moved_apart {B p : Nat} {w w' : World} {r r' : RingR} {br br' : BookR} {x' : Bk.St} (m : Moved B r br x' w w' r' br') (hp : ∀ j, (r.foot j ∨ br.foot j) → ¬ j = p) (hlt : p < w.heap.size) : ∀ j, (r'.foot j ∨ br'.foot j) → ¬ j = p := by
  rintro j (hj | hj) e
  · rcases m.f1 j hj with h | h
    · exact hp j (Or.inl h) e
    · omega
  · rcases m.f2 j hj with h | h
    · exact hp j (Or.inr h) e
    · omega
theorem both_apart {B : Nat} {w : World} {r : RingR} {br : BookR} {x : Bk.St} (h : Both B w r br x) : ∀ j, (r.foot j ∨ br.foot j) → ¬ j = w.heap.size := by
  rintro j (hj | hj) e
  · have := (h.ring.foot_lt hj).2; omega
  · have := (h.book.foot_lt hj).2; omega
set_option maxHeartbeats 4000000 in
set_option maxRecDepth 100000 in
theorem small_b (w : World) (g : Gl w) : Calls Tryd.prog 7 #[] w fun e w' => e = .returned (.bool true) ∧ Nw w w' := by
  have hgb := g.big
  have hB0 : w.heap.size ≤ w.heap.size := Nat.le_refl _
  go_enter Tryd.func7, Tryd.ntmps7
  go_wp2_with fail
  (with_reducible refine (new_s _ g).mono ?_)
  rintro _ w1 ⟨r, rfl, hr, u1⟩
  have g1 := g.upd u1
  go_wp2_with fail
  (with_reducible refine (new_b' r.rb 3 (by decide) _ g1).mono ?_)
  rintro _ w2 ⟨br, rfl, hb, u2⟩
  have h := both_new hr hb u2 u1.size
  have u := u1.trans u2
  have g2 := g.upd u
  clear hr hb u1 u2 g1
  go_wp2_with fail
  (with_reducible refine (Text_e ⟨#[107]⟩ [107] rfl _ g2 (by simp)).mono ?_)
  rintro _ w3 ⟨rfl, u3⟩
  rw [Bk.xk]
  replace h := h.nw u3
  replace u := u.trans u3
  have g3 := g.upd u
  clear u3 g2
  go_wp2_with fail
  (with_reducible refine (lit_app w.heap.size r br ⟨[], Bk.new 3⟩ _ Bk.xt (0, 0) Bk.xb1 ((bs_append_list _ _).trans rfl) Bk.x1 _ (g.upd u) h u.size (by decide)).mono ?_)
  rintro _ w4 ⟨br1, rfl, m⟩
  have hm := moved_nw h hB0 u m
  replace h := m.both
  replace u := hm
  obtain ⟨bb', fb', ev'⟩ := br1
  obtain rfl : bb' = _ := m.bb
  clear m hm
  dsimp only
  go_wp2_with fail
  (with_reducible refine (lit_abs w.heap.size r _ ⟨[], Bk.xb1⟩ ⟨#[107]⟩ [107] 0 ⟨3, Bk.xa, 0⟩ 0 Bk.xL1 rfl Bk.x2 _ (g.upd u) h u.size (by unfold I64; omega) (by decide) (by decide)).mono ?_)
  rintro _ w5 ⟨r1, rfl, m⟩
  have hm := moved_nw h hB0 u m
  replace h := m.both
  replace u := hm
  obtain ⟨rb', mb', ev'⟩ := r1
  obtain rfl : rb' = _ := m.rb
  clear m hm
  dsimp only
  have n := nw_alloc w5 (.cells #[.int .i64 3, .string ⟨Bk.xa.toArray⟩, .int .i64 0] tSigned)
  replace h := h.nw n
  replace u := Nw.trans u n
  go_wp2_with fail
  clear n
  (with_reducible refine (lit_abs w.heap.size _ _ ⟨Bk.xL1, Bk.xb1⟩ ⟨#[107]⟩ [107] 1 ⟨0, [], 0⟩ 5 Bk.xL1 rfl Bk.x3 _ (g.upd u) h u.size (by unfold I64; omega) (by decide) (by decide)).mono ?_)
  rintro _ w6 ⟨r2, rfl, m⟩
  have hm := moved_nw h hB0 u m
  replace h := m.both
  replace u := hm
  obtain ⟨rb', mb', ev'⟩ := r2
  obtain rfl : rb' = _ := m.rb
  clear m hm
  dsimp only
  have n := nw_alloc w6 (.cells #[.int .i64 0, .string ⟨#[]⟩, .int .i64 0] tSigned)
  replace h := h.nw n
  replace u := Nw.trans u n
  go_wp2_with fail
  clear n
  (with_reducible refine (lit_head w.heap.size _ _ ⟨Bk.xL1, Bk.xb1⟩ 5 ⟨3, Bk.xh, 1⟩ 0 Bk.xL2 Bk.xb2 Bk.x4 _ (g.upd u) h u.size (by unfold I64; omega) (by decide)).mono ?_)
  rintro _ w7 ⟨r3, rfl, m⟩
  have hm := moved_nw h hB0 u m
  replace h := m.both
  replace u := hm
  obtain ⟨rb', mb', ev'⟩ := r3
  obtain rfl : rb' = _ := m.rb
  clear m hm
  dsimp only
  have p10 := both_apart h
  have K10 := Lib.hid (heap_new w7 (.cells #[.int .i64 3, .string ⟨Bk.xh.toArray⟩, .int .i64 1] tSigned))
  have n := nw_alloc w7 (.cells #[.int .i64 3, .string ⟨Bk.xh.toArray⟩, .int .i64 1] tSigned)
  replace h := h.nw n
  replace u := Nw.trans u n
  go_wp2_with fail
  clear n
  (with_reducible refine (lit_head w.heap.size _ _ ⟨Bk.xL2, Bk.xb2⟩ 5 ⟨3, Bk.xh, 1⟩ 0 Bk.xL2 Bk.xb2 Bk.x5 _ (g.upd u) h u.size (by unfold I64; omega) (by decide)).mono ?_)
  rintro _ w8 ⟨r4, rfl, m⟩
  have q10 := p10
  replace p10 := moved_apart m p10 (lt_of_block K10.out)
  have kk := m.upd.keep K10.out (fun e => q10 _ e rfl)
  replace K10 := Lib.hid kk
  clear kk
  clear q10
  have hm := moved_nw h hB0 u m
  replace h := m.both
  replace u := hm
  obtain ⟨rb', mb', ev'⟩ := r4
  obtain rfl : rb' = _ := m.rb
  clear m hm
  dsimp only
  have p12 := both_apart h
  have K12 := Lib.hid (heap_new w8 (.cells #[.int .i64 3, .string ⟨Bk.xh.toArray⟩, .int .i64 1] tSigned))
  have n := nw_alloc w8 (.cells #[.int .i64 3, .string ⟨Bk.xh.toArray⟩, .int .i64 1] tSigned)
  replace h := h.nw n
  replace u := Nw.trans u n
  go_wp2_with fail
  replace K10 := Lib.hid (Nw.keep n K10.out)
  clear n
  (with_reducible refine (Text_e ⟨#[106]⟩ [106] rfl _ (g.upd u) (by simp)).mono ?_)
  rintro _ w9 ⟨rfl, u9⟩
  rw [Bk.xl]
  replace h := h.nw u9
  replace u := Nw.trans u u9
  replace K10 := Lib.hid (Nw.keep u9 K10.out)
  replace K12 := Lib.hid (Nw.keep u9 K12.out)
  clear u9
  go_wp2_with fail
  (with_reducible refine (lit_app w.heap.size _ _ ⟨Bk.xL2, Bk.xb2⟩ ⟨Bk.xj.toArray⟩ Bk.xj (1, 0) Bk.xb3 rfl Bk.x6 _ (g.upd u) h u.size (by decide)).mono ?_)
  rintro _ w10 ⟨br2, rfl, m⟩
  have q10 := p10
  replace p10 := moved_apart m p10 (lt_of_block K10.out)
  have kk := m.upd.keep K10.out (fun e => q10 _ e rfl)
  replace K10 := Lib.hid kk
  clear kk
  clear q10
  have q12 := p12
  replace p12 := moved_apart m p12 (lt_of_block K12.out)
  have kk := m.upd.keep K12.out (fun e => q12 _ e rfl)
  replace K12 := Lib.hid kk
  clear kk
  clear q12
  have hm := moved_nw h hB0 u m
  replace h := m.both
  replace u := hm
  obtain ⟨bb', fb', ev'⟩ := br2
  obtain rfl : bb' = _ := m.bb
  clear m hm
  dsimp only
  go_wp2_with fail
  (with_reducible refine (lit_head w.heap.size _ _ ⟨Bk.xL2, Bk.xb3⟩ 5 ⟨0, [], 0⟩ 7 Bk.xL2 Bk.xb3 Bk.x7 _ (g.upd u) h u.size (by unfold I64; omega) (by decide)).mono ?_)
  rintro _ w11 ⟨r5, rfl, m⟩
  have q10 := p10
  replace p10 := moved_apart m p10 (lt_of_block K10.out)
  have kk := m.upd.keep K10.out (fun e => q10 _ e rfl)
  replace K10 := Lib.hid kk
  clear kk
  clear q10
  have q12 := p12
  replace p12 := moved_apart m p12 (lt_of_block K12.out)
  have kk := m.upd.keep K12.out (fun e => q12 _ e rfl)
  replace K12 := Lib.hid kk
  clear kk
  clear q12
  have hm := moved_nw h hB0 u m
  replace h := m.both
  replace u := hm
  obtain ⟨rb', mb', ev'⟩ := r5
  obtain rfl : rb' = _ := m.rb
  clear m hm
  dsimp only
  have n := nw_alloc w11 (.cells #[.int .i64 0, .string ⟨#[]⟩, .int .i64 0] tSigned)
  replace h := h.nw n
  replace u := Nw.trans u n
  go_wp2_with fail
  replace K10 := Lib.hid (Nw.keep n K10.out)
  replace K12 := Lib.hid (Nw.keep n K12.out)
  clear n
  (with_reducible refine (lit_head w.heap.size _ _ ⟨Bk.xL2, Bk.xb3⟩ 6 ⟨3, Bk.xi, 2⟩ 0 Bk.xL3 Bk.xb4 Bk.x8 _ (g.upd u) h u.size (by unfold I64; omega) (by decide)).mono ?_)
  rintro _ w12 ⟨r6, rfl, m⟩
  have q10 := p10
  replace p10 := moved_apart m p10 (lt_of_block K10.out)
  have kk := m.upd.keep K10.out (fun e => q10 _ e rfl)
  replace K10 := Lib.hid kk
  clear kk
  clear q10
  have q12 := p12
  replace p12 := moved_apart m p12 (lt_of_block K12.out)
  have kk := m.upd.keep K12.out (fun e => q12 _ e rfl)
  replace K12 := Lib.hid kk
  clear kk
  clear q12
  have hm := moved_nw h hB0 u m
  replace h := m.both
  replace u := hm
  obtain ⟨rb', mb', ev'⟩ := r6
  obtain rfl : rb' = _ := m.rb
  clear m hm
  dsimp only
  have n := nw_alloc w12 (.cells #[.int .i64 3, .string ⟨Bk.xi.toArray⟩, .int .i64 2] tSigned)
  replace h := h.nw n
  replace u := Nw.trans u n
  obtain ⟨c100, c101, c102⟩ := cell3 (Nw.keep n K10.out)
  obtain ⟨c120, c121, c122⟩ := cell3 (Nw.keep n K12.out)
  clear n
  go_wp2_with fail
  (with_reducible refine (valid_s w.heap.size _ Bk.xL3 ⟨3, Bk.xh, 1⟩ _ (g.upd u) h.ring ⟨by unfold I64; decide, by decide, by unfold I64; decide⟩).mono ?_)
  rintro _ w13 ⟨rfl, u13⟩
  rw [Bk.x9]
  replace h := h.nw u13
  replace u := Nw.trans u u13
  clear u13 c100 c101 c102 c120 c121 c122 K10 K12
  go_wp2_with fail
  (with_reducible refine (len_b w.heap.size _ _ Bk.xb4 _ h.book).mono ?_)
  rintro _ w14 ⟨rfl, u14⟩
  replace u := Nw.trans u u14
  go_wp2_with fail
  go_ret
  exact ⟨rfl, u⟩
end Go.Proofs.YtjjdmmhlcdfplaaDoor
