/- The contract of BookTells. -/
import Derived.Test.YtjjdmmhlcdfplaaDoorBookH
import Derived.Test.YtjjdmmhlcdfplaaDoorBookY
import Derived.Test.YtjjdmmhlcdfplaaDoorQue2
namespace Go.Proofs.YtjjdmmhlcdfplaaDoor
open Go.RowKit
set_option linter.unusedVariables false
set_option linter.unusedSimpArgs false
attribute [local irreducible] Calls

theorem Bk.do_key (key : Int) (x : Bk.St) (o : Bk.Opn) : (Bk.doS key x o).2.b.key = x.b.key := by
  unfold Bk.doS Bk.append Bk.head
  repeat' split
  all_goals rfl
/-- The program's ring and book with the contents x, the reference's with y, apart from one another. -/
def PairAt (B1 B2 rb bb qb cb N : Nat) (w : World) (x y : Bk.St) : Prop :=
  ∃ r br q c, r.rb = rb ∧ br.bb = bb ∧ q.qb = qb ∧ c.cb = cb ∧ Both B1 w r br x ∧ QBoth B2 w q c y ∧ (∀ k, (r.foot k ∨ br.foot k) → ¬ (q.foot k ∨ c.foot k)) ∧ (∀ k, (r.foot k ∨ br.foot k) → k < N) ∧ ∀ k, (q.foot k ∨ c.foot k) → k < N
theorem PairAt.nw {B1 B2 rb bb qb cb N : Nat} {w w' : World} {x y : Bk.St} (h : PairAt B1 B2 rb bb qb cb N w x y) (u : Nw w w') : PairAt B1 B2 rb bb qb cb N w' x y := by
  obtain ⟨r, br, q, c, h1, h2, h3, h4, h5, h6, h7⟩ := h
  exact ⟨r, br, q, c, h1, h2, h3, h4, h5.nw u, h6.nw u, h7⟩
theorem PairAt.le {B1 B2 rb bb qb cb N N' : Nat} {w : World} {x y : Bk.St} (h : PairAt B1 B2 rb bb qb cb N w x y) (hN : N ≤ N') : PairAt B1 B2 rb bb qb cb N' w x y := by
  obtain ⟨r, br, q, c, h1, h2, h3, h4, h5, h6, h7, h8, h9⟩ := h
  exact ⟨r, br, q, c, h1, h2, h3, h4, h5, h6, h7, fun k hk => Nat.lt_of_lt_of_le (h8 k hk) hN, fun k hk => Nat.lt_of_lt_of_le (h9 k hk) hN⟩
theorem QBoth.foot_lt {B : Nat} {w : World} {q : QRing} {c : QBook} {x : Bk.St} (h : QBoth B w q c x) {k : Nat} (hk : q.foot k ∨ c.foot k) : B ≤ k ∧ k < w.heap.size := hk.elim h.ring.foot_lt h.book.foot_lt
theorem Both.foot_lt {B : Nat} {w : World} {r : RingR} {br : BookR} {x : Bk.St} (h : Both B w r br x) {k : Nat} (hk : r.foot k ∨ br.foot k) : B ≤ k ∧ k < w.heap.size := hk.elim h.ring.foot_lt h.book.foot_lt
theorem do_p {B1 B2 rb bb qb cb N : Nat} {w0 w : World} {x y : Bk.St} (h : PairAt B1 B2 rb bb qb cb N w x y) (u0 : Nw w0 w) (h1 : w0.heap.size ≤ B1) (g : Gl w) (key : Int) (hkey : x.b.key = key) (o : Bk.Opn) (hn : I64 o.n) (hs : o.s.length ≤ 20000000) (hL : x.L.length ≤ 1000000) :
    Calls Tryd.prog 13 #[.pointer (some ⟨bb, 0, none⟩), .pointer (some ⟨rb, 0, none⟩), .int .i64 key, .agg #[.int .i64 o.kind, .int .i64 o.n, .string ⟨o.s.toArray⟩]] w fun e w' =>
      e = .returned (.tuple #[sgnV (Bk.doS key x o).1.1, .int .i64 (Bk.doS key x o).1.2.1, .int .i64 (Bk.doS key x o).1.2.2]) ∧ PairAt B1 B2 rb bb qb cb w'.heap.size w' (Bk.doS key x o).2 y ∧ Nw w0 w' ∧ Upd (· < N) w w' := by
  obtain ⟨r, br, q, c, rfl, rfl, rfl, rfl, hb, hq, hd, hN1, hN2⟩ := h
  subst hkey
  refine (do_c B1 r br x o w g hb (by have h1 := hb.ring.rb; have h2 := lt_of_block hb.ring.blk; omega) hn hs hL).mono ?_
  rintro e w' ⟨r', br', rfl, m⟩
  refine ⟨rfl, ⟨r', br', q, c, m.rb, m.bb, rfl, rfl, m.both, hq.upd m.upd (fun k hk e => hd k e (Or.inl hk)) (fun k hk e => hd k e (Or.inr hk)), fun k hk e => ?_, fun k hk => (m.both.foot_lt hk).2, fun k hk => Nat.lt_of_lt_of_le (hq.foot_lt hk).2 m.upd.size⟩, moved_nw hb h1 u0 m, m.upd.mono (fun k _ e => hN1 k e)⟩
  have hlt := (hq.foot_lt e).2
  rcases hk with hk | hk
  · rcases m.f1 k hk with h | h
    · exact hd k (Or.inl h) e
    · omega
  · rcases m.f2 k hk with h | h
    · exact hd k (Or.inr h) e
    · omega
theorem did_p {B1 B2 rb bb qb cb N : Nat} {w0 w : World} {x y : Bk.St} (h : PairAt B1 B2 rb bb qb cb N w x y) (u0 : Nw w0 w) (h1 : w0.heap.size ≤ B2) (g : Gl w) (key : Int) (hkey : y.b.key = key) (o : Bk.Opn) (hn : I64 o.n) (hs : o.s.length ≤ 20000000) (hL : y.L.length ≤ 1000000) :
    Calls Tryd.prog 14 #[.pointer (some ⟨cb, 0, none⟩), .agg #[.int .i64 o.kind, .int .i64 o.n, .string ⟨o.s.toArray⟩]] w fun e w' =>
      e = .returned (.tuple #[sgnV (Bk.doS key y o).1.1, .int .i64 (Bk.doS key y o).1.2.1, .int .i64 (Bk.doS key y o).1.2.2]) ∧ PairAt B1 B2 rb bb qb cb w'.heap.size w' x (Bk.doS key y o).2 ∧ Nw w0 w' ∧ Upd (· < N) w w' := by
  obtain ⟨r, br, q, c, rfl, rfl, rfl, rfl, hb, hq, hd, hN1, hN2⟩ := h
  subst hkey
  refine (did_c B2 q c y o w g hq (by have h1 := hq.ring.qb; have h2 := lt_of_block hq.ring.blk; omega) hn hs hL).mono ?_
  rintro e w' ⟨q', c', rfl, m⟩
  refine ⟨rfl, ⟨r, br, q', c', rfl, rfl, m.qb, m.cb, hb.upd m.upd (fun k hk e => hd k (Or.inl hk) e) (fun k hk e => hd k (Or.inr hk) e), m.both, fun k hk e => ?_, fun k hk => Nat.lt_of_lt_of_le (hb.foot_lt hk).2 m.upd.size, fun k hk => (m.both.foot_lt hk).2⟩, Upd.trans' u0 m.upd (fun k hk e => by have := (hq.foot_lt e).1; omega), m.upd.mono (fun k _ e => hN2 k e)⟩
  have hlt := (hb.foot_lt hk).2
  rcases e with e | e
  · rcases m.f1 k e with h | h
    · exact hd k hk (Or.inl h)
    · omega
  · rcases m.f2 k e with h | h
    · exact hd k hk (Or.inr h)
    · omega
theorem text_p1 {B1 B2 rb bb qb cb N : Nat} {w : World} {x y : Bk.St} (h : PairAt B1 B2 rb bb qb cb N w x y) (i : Int) :
    Calls Tryd.prog 15 #[.pointer (some ⟨bb, 0, none⟩), .int .i64 i] w fun e w' => e = .returned (.tuple #[.string ⟨(Bk.textAt x.b i).1.toArray⟩, .bool (Bk.textAt x.b i).2]) ∧ Nw w w' := by
  obtain ⟨r, br, q, c, rfl, rfl, rfl, rfl, hb, hq, hd, hN1, hN2⟩ := h
  exact text_b B1 br r.rb x.b i w hb.book
theorem text_p2 {B1 B2 rb bb qb cb N : Nat} {w : World} {x y : Bk.St} (h : PairAt B1 B2 rb bb qb cb N w x y) (i : Int) :
    Calls Tryd.prog 16 #[.pointer (some ⟨cb, 0, none⟩), .int .i64 i] w fun e w' => e = .returned (.tuple #[.string ⟨(Bk.textAt y.b i).1.toArray⟩, .bool (Bk.textAt y.b i).2]) ∧ Nw w w' := by
  obtain ⟨r, br, q, c, rfl, rfl, rfl, rfl, hb, hq, hd, hN1, hN2⟩ := h
  exact text_q B2 c q.qb y.b i w hq.book
theorem len_p {B1 B2 rb bb qb cb N : Nat} {w : World} {x y : Bk.St} (h : PairAt B1 B2 rb bb qb cb N w x y) :
    Calls Tryd.prog 17 #[.pointer (some ⟨bb, 0, none⟩)] w fun e w' => e = .returned (.int .i64 x.b.es.length) ∧ Nw w w' := by
  obtain ⟨r, br, q, c, rfl, rfl, rfl, rfl, hb, hq, hd, hN1, hN2⟩ := h
  exact len_b B1 br r.rb x.b w hb.book
theorem PairAt.cellL {B1 B2 rb bb qb cb N : Nat} {w : World} {x y : Bk.St} (h : PairAt B1 B2 rb bb qb cb N w x y) : ∃ a cap, ∀ i : Later w, i.1.cell? ⟨cb, 2, none⟩ = some (.slice a y.b.es.length cap) := by
  obtain ⟨r, br, q, c, rfl, rfl, rfl, rfl, hb, hq, hd, hN1, hN2⟩ := h
  obtain ⟨a, cap, hev⟩ := hq.book.slice
  exact ⟨a, cap, fun i => by rw [(hq.book.nw i.nw).cells.2.2.1, hev]⟩
theorem all_p1 {B1 B2 rb bb qb cb N : Nat} {w : World} {x y : Bk.St} (h : PairAt B1 B2 rb bb qb cb N w x y) (g : Gl w) (hL : x.L.length ≤ 1000000) :
    Calls Tryd.prog 19 #[.pointer (some ⟨rb, 0, none⟩)] w fun e w' => ∃ v', e = .returned v' ∧ SlS 2 w.heap.size w'.heap.size w' v' (x.L.map sealL) ∧ Nw w w' := by
  obtain ⟨r, br, q, c, rfl, rfl, rfl, rfl, hb, hq, hd, hN1, hN2⟩ := h
  exact (all_s B1 r x.L w g hb.ring hL).mono fun e w' ⟨v', h1, h2, h3⟩ => ⟨v', h1, seal_sls h2, h3⟩
theorem all_p2 {B1 B2 rb bb qb cb N : Nat} {w : World} {x y : Bk.St} (h : PairAt B1 B2 rb bb qb cb N w x y) (g : Gl w) (hL : y.L.length ≤ 1000000) :
    Calls Tryd.prog 20 #[.pointer (some ⟨qb, 0, none⟩)] w fun e w' => ∃ v', e = .returned v' ∧ SlS 2 w.heap.size w'.heap.size w' v' (y.L.map sealL) ∧ Nw w w' := by
  obtain ⟨r, br, q, c, rfl, rfl, rfl, rfl, hb, hq, hd, hN1, hN2⟩ := h
  exact (all_q B2 q y.L w g hq.ring hL).mono fun e w' ⟨v', h1, h2, h3⟩ => ⟨v', h1, seal_sls h2, h3⟩
theorem pair_new {key : Int} {w2 w3 w4 w5 w6 : World} {r : RingR} {br : BookR} {q : QRing} {c : QBook} (hr : RingAt w2.heap.size w3 r []) (hq : QRingAt w3.heap.size w4 q []) (hb : BookAt w4.heap.size w5 br r.rb (Bk.new key)) (hc : QBookAt w5.heap.size w6 c q.qb (Bk.new key)) (u2 : Nw w2 w3) (u3 : Nw w3 w4) (u4 : Nw w4 w5) (u5 : Nw w5 w6) :
    PairAt w2.heap.size w3.heap.size r.rb br.bb q.qb c.cb w6.heap.size w6 ⟨[], Bk.new key⟩ ⟨[], Bk.new key⟩ := by
  have s2 := u2.size
  have s3 := u3.size
  have s4 := u4.size
  have hb1 := both_new (hr.nw u3) hb u4 (by omega)
  refine ⟨r, br, q, c, rfl, rfl, rfl, rfl, hb1.nw u5, ⟨(hq.nw u4).nw u5, ⟨hq.hb, Nat.le_trans (by omega) hc.cb, hc.blk, owns_base hc.own (by omega), hc.keys, hc.len, hc.last, hc.told, hc.key⟩, fun k hk e => ?_⟩, fun k hk e => ?_, fun k hk => ((hb1.nw u5).foot_lt hk).2, fun k hk => hk.elim (fun e => (((hq.nw u4).nw u5).foot_lt e).2) (fun e => (hc.foot_lt e).2)⟩
  · have h1 := (hq.foot_lt hk).2
    have h2 := (hc.foot_lt e).1
    omega
  · rcases hk with hk | hk <;> rcases e with e | e
    · have h1 := (hr.foot_lt hk).2
      have h2 := (hq.foot_lt e).1
      omega
    · have h1 := (hr.foot_lt hk).2
      have h2 := (hc.foot_lt e).1
      omega
    · have h1 := (hb.foot_lt hk).1
      have h2 := (hq.foot_lt e).2
      omega
    · have h1 := (hb.foot_lt hk).2
      have h2 := (hc.foot_lt e).1
      omega
set_option maxHeartbeats 4000000 in
set_option maxRecDepth 100000 in
theorem tells_c (key : Int) (l : List Bk.Opn) (v : Value) (w : World) (g : Gl w) (hv : SlS 3 0 w.heap.size w v (l.map opL)) (ho : ∀ o ∈ l, OpOk o) :
    Calls Tryd.prog 3 #[.int .i64 key, v] w fun e w' => e = .returned (.bool true) ∧ Nw w w' := by
  have hgb := g.big
  obtain ⟨a, cap, rfl, hm, ha⟩ := op_cells hv
  have Ha := Lib.hid ha; clear ha
  have Hm := Lib.hid hm; clear hm
  go_enter Tryd.func3, Tryd.ntmps3
  go_wp2_with fail
  (with_reducible refine (small_b _ g).mono ?_)
  rintro _ w1 ⟨rfl, u⟩
  go_wp2_with fail
  (with_reducible refine (few_b 0 w.heap.size _ l _ (hv.nw u) ho).mono ?_)
  rintro _ w2 ⟨f, rfl, hf, u2⟩
  replace u := u.trans u2
  clear u2
  cases f with
  | false =>
    go_wp2_with fail
    go_ret
    exact ⟨rfl, u⟩
  | true =>
  obtain ⟨hl25, h300⟩ := hf rfl
  have H25 := Lib.hid hl25
  have H300 := Lib.hid h300
  clear hf hl25 h300
  go_wp2_with fail
  (with_reducible refine (new_s _ (g.upd u)).mono ?_)
  rintro _ w3 ⟨r, rfl, hr, u3⟩
  have g3 := (g.upd u).upd u3
  go_wp2_with fail
  (with_reducible refine (new_q _ g3).mono ?_)
  rintro _ w4 ⟨q, rfl, hq, u4⟩
  have g4 := g3.upd u4
  go_wp2_with fail
  (with_reducible refine (new_b r.rb key _ g4).mono ?_)
  rintro _ w5 hb
  rcases hb with ⟨hkk, br, rfl, hb, u5⟩ | ⟨hkk, rfl, u5⟩
  rotate_left
  · go_wp2_with fail
    (with_reducible refine (newb_q q.qb key _ (g4.upd u5)).mono ?_)
    rintro _ w6 hc
    rcases hc with ⟨hkk2, c, rfl, hc, u6⟩ | ⟨hkk2, rfl, u6⟩
    · rw [hkk] at hkk2; cases hkk2
    · go_wp2_with fail
      go_ret
      exact ⟨rfl, (((u.trans u3).trans u4).trans u5).trans u6⟩
  have g5 := g4.upd u5
  go_wp2_with fail
  (with_reducible refine (newb_q q.qb key _ g5).mono ?_)
  rintro _ w6 hc
  rcases hc with ⟨hkk2, c, rfl, hc, u6⟩ | ⟨hkk2, rfl, u6⟩
  rotate_left
  · rw [hkk] at hkk2; cases hkk2
  have h := pair_new hr hq hb hc u3 u4 u5 u6
  have hB1 := u.size
  have hB2 : w.heap.size ≤ w3.heap.size := Nat.le_trans u.size u3.size
  replace u := (((u.trans u3).trans u4).trans u5).trans u6
  clear hr hq hb hc u3 u4 u5 u6 g3 g4 g5 hkk hkk2
  generalize w2.heap.size = B1 at *
  generalize w3.heap.size = B2 at *
  generalize r.rb = rb at *
  generalize br.bb = bb at *
  generalize q.qb = qb at *
  generalize c.cb = cb at *
  have Hh := Lib.hid h; clear h
  go_wp2_with fail
  go_loopw [12] (fun i wr => ∃ k : Nat, k ≤ l.length ∧ i = .int .i64 k ∧ (∃ x, Hid (PairAt B1 B2 rb bb qb cb wr.heap.size wr x x) ∧ Hid (x.b.key = key) ∧ Hid (x.L.length ≤ k)) ∧ Nw w wr) (fun i _ => l.length - (intOf i).toNat)
  case atStart => exact ⟨0, Nat.zero_le _, rfl, ⟨_, Hh, rfl, Nat.le_refl _⟩, u⟩
  case round =>
    clear Hh u
    obtain ⟨k, hk, rfl, ⟨x, h, hkey, hxl⟩, u⟩ := hrel
    by_cases hlt : k < l.length
    · rcases Ha.out with hnil | ⟨b, off, rfl, _, hbl, hcell⟩
      · simp [hnil] at hlt
      · have c0 := ((Nw.below u).cell (p := ⟨b, off + k * 3, none⟩) hbl).trans (hcell k hlt).1
        have c1 := ((Nw.below u).cell (p := ⟨b, off + k * 3 + 1, none⟩) hbl).trans (hcell k hlt).2.1
        have c2 := ((Nw.below u).cell (p := ⟨b, off + k * 3 + 2, none⟩) hbl).trans (hcell k hlt).2.2
        have Hok := Lib.hid (ho l[k] (List.getElem_mem hlt))
        have H3 := Lib.hid (H300.out l[k] (List.getElem_mem hlt))
        have K0 := Lib.hid (hcell k hlt)
        clear hcell
        generalize l[k] = o at *
        obtain ⟨oz, on, os⟩ := o
        dsimp only at c0 c1 c2
        have hkb : k < 25 := Nat.lt_of_lt_of_le hlt H25.out
        have hk1 : Hid (k + 1 ≤ l.length) := hlt
        have hd := do_p h.out u hB1 (g.upd u) key hkey.out ⟨oz, on, os⟩ Hok.out.n (Nat.le_trans H3.out (by decide)) (by have h1 := hxl.out; omega)
        go_wp2_with fail
        (with_reducible refine (hd).mono ?_)
        rintro _ w7 ⟨rfl, h7, u7, _⟩
        clear hd c0 c1 c2
        have hkey2 := Lib.hid ((Bk.do_key key x ⟨oz, on, os⟩).trans hkey.out)
        have hl7 := Lib.hid (Nat.le_trans (Bk.do_len key x ⟨oz, on, os⟩) (Nat.succ_le_succ hxl.out))
        have hds := fun (N : Nat) (z : World) (hz : PairAt B1 B2 rb bb qb cb N z (Bk.doS key x ⟨oz, on, os⟩).2 x) (uz : Nw w z) => did_p hz uz hB2 (g.upd uz) key hkey.out ⟨oz, on, os⟩ Hok.out.n (Nat.le_trans H3.out (by decide)) (by have h1 := hxl.out; omega)
        have Hds := Lib.hid hds; clear hds
        generalize Bk.doS key x ⟨oz, on, os⟩ = y at *
        obtain ⟨⟨⟨sk, st, sm⟩, n1, e1⟩, x5⟩ := y
        dsimp only [sgnV] at *
        have n := nw_alloc w7 (.cells #[.int .i64 sk, .string ⟨st.toArray⟩, .int .i64 sm] tSigned)
        have kA := Lib.hid (heap_new w7 (.cells #[.int .i64 sk, .string ⟨st.toArray⟩, .int .i64 sm] tSigned))
        replace h7 := h7.nw n
        replace u7 := Nw.trans u7 n
        have hds2 := Hds.out _ _ h7 u7
        clear n h u
        have c0 := ((Nw.below u7).cell (p := ⟨b, off + k * 3, none⟩) hbl).trans K0.out.1
        have c1 := ((Nw.below u7).cell (p := ⟨b, off + k * 3 + 1, none⟩) hbl).trans K0.out.2.1
        have c2 := ((Nw.below u7).cell (p := ⟨b, off + k * 3 + 2, none⟩) hbl).trans K0.out.2.2
        go_wp2_with fail
        (with_reducible refine (hds2).mono ?_)
        rintro _ w8 ⟨rfl, h8, u8, v8⟩
        have kA8 := v8.keep kA.out (by show ¬ w7.heap.size < w7.heap.size; omega)
        have n8 := nw_alloc w8 (.cells #[.int .i64 sk, .string ⟨st.toArray⟩, .int .i64 sm] tSigned)
        have kB := heap_new w8 (.cells #[.int .i64 sk, .string ⟨st.toArray⟩, .int .i64 sm] tSigned)
        replace kA8 := Nw.keep n8 kA8
        replace h8 := h8.nw n8
        replace u8 := Nw.trans u8 n8
        clear kA n8 v8 h7 u7 c0 c1 c2 hds2 Hds
        have KA := Lib.hid kA8
        have KB := Lib.hid kB
        clear kA8 kB
        have c1 := ((Nw.below u8).cell (p := ⟨b, off + k * 3 + 1, none⟩) hbl).trans K0.out.2.1
        have q1 := text_p1 h8 on
        have hT := fun w' (u' : Nw (w8.alloc (.cells #[.int .i64 sk, .string ⟨st.toArray⟩, .int .i64 sm] tSigned)) w') => text_p2 (h8.nw u') on
        have HT := Lib.hid hT; clear hT
        generalize Bk.textAt x5.b on = tx at *
        go_wp2_with fail
        (with_reducible refine (q1).mono ?_)
        rintro _ w9 ⟨rfl, u9⟩
        have q2 := HT.out _ u9
        have u10 := Nw.trans u8 u9
        clear c1 q1
        have c1 := ((Nw.below u10).cell (p := ⟨b, off + k * 3 + 1, none⟩) hbl).trans K0.out.2.1
        go_wp2_with fail
        (with_reducible refine (q2).mono ?_)
        rintro _ w10 ⟨rfl, u11⟩
        have h11 := (h8.nw u9).nw u11
        replace KA := Lib.hid (Nw.keep (u9.trans u11) KA.out)
        replace KB := Lib.hid (Nw.keep (u9.trans u11) KB.out)
        replace u11 := Nw.trans u10 u11
        obtain ⟨l0, l1, l2⟩ := later3 KA.out
        obtain ⟨m0, m1, m2⟩ := later3 KB.out
        obtain ⟨ac, cc, hcl⟩ := h11.cellL
        have hlen := fun i : Later w10 => len_p (h11.nw i.nw)
        have Hlen := Lib.hid hlen
        clear hlen q2 c1 u8 h8 u9 u10 HT
        go_wp2_with fail
        refine wp_region_nw (by kernel_rfl) (by kernel_rfl) ?_
        repeat (go_big_quiet_step ((go_at_call 17; exact later_call (Hlen.out _))))
        refine wpQuiet_nil ?_
        intro w12 u12
        replace u12 := later_out u12
        have h12 := Lib.hid ((h11.nw u12).le (Nat.le_trans (by have := lt_of_block KB.out; simp; omega) u12.size) : PairAt B1 B2 rb bb qb cb w12.heap.size w12 x5 x5)
        replace u12 := Nw.trans u11 u12
        clear l0 l1 l2 m0 m1 m2 hcl Hlen h11 u11
        go_wp2_with fail
        have hkl : k < l.length := hk1.out
        go_roundw
        case rel => exact ⟨k + 1, hk1.out, by go_num, ⟨x5, h12, hkey2, hl7⟩, u12⟩
        case measure => simp [intOf]; omega
    · have hx25 : Hid (x.L.length ≤ 25) := Nat.le_trans hxl.out (Nat.le_trans hk H25.out)
      clear hxl
      have ha1 := all_p1 h.out (g.upd u) (Nat.le_trans hx25.out (by decide))
      have ha2 := fun w' (u' : Nw wr w') => all_p2 (h.out.nw u') ((g.upd u).upd u') (Nat.le_trans hx25.out (by decide))
      have Ha2 := Lib.hid ha2
      clear ha2
      go_wp2_with fail
      (with_reducible refine (ha1).mono ?_)
      rintro _ w5 ⟨va, rfl, hva, u5⟩
      have hb2 := Ha2.out _ u5
      clear ha1
      go_wp2_with fail
      (with_reducible refine (hb2).mono ?_)
      rintro _ w6 ⟨vb, rfl, hvb, u6⟩
      have hsm := same_q _ _ _ _ va vb x.L x.L w6 (hva.nw u6) hvb (Nat.le_trans hx25.out (by decide))
      rw [decide_eq_true rfl] at hsm
      clear hb2
      go_wp2_with fail
      (with_reducible refine (hsm).mono ?_)
      rintro _ w7 ⟨rfl, u7⟩
      go_wp2_with fail
      go_ret
      exact ⟨rfl, ((Nw.trans u u5).trans u6).trans u7⟩
end Go.Proofs.YtjjdmmhlcdfplaaDoor
