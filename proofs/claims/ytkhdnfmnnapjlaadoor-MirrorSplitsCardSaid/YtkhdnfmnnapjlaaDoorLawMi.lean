/- The contract of MirrorSplits (chapter 37). -/
import Derived.Test.YtkhdnfmnnapjlaaDoorMirV
import Derived.Test.YtkhdnfmnnapjlaaDoorMirX
namespace Go.Proofs.YtkhdnfmnnapjlaaDoor
open Go.RowKit
set_option linter.unusedVariables false
set_option linter.unusedSimpArgs false
attribute [local irreducible] Calls

def bkC (key : Int) (l : List (List UInt8)) : Bk.Book := ⟨key, Mi.comT l, -1, 0⟩
theorem bkC_nil (key : Int) : bkC key [] = Bk.new key := rfl
theorem bkC_app (key : Int) (l : List (List UInt8)) (s : List UInt8) (hl : l.length ≤ 10) (hs : s.length ≤ 100) : (Bk.append (bkC key l) ([49, 58, 99, 44] ++ s)).2 = bkC key (l ++ [s]) := by
  rw [Mi.append_addB _ _ _ (by omega) (by unfold bkC Mi.comT; simp; omega)]
  unfold Mi.addB bkC Mi.comT
  simp
/-- The entries of a book behind the common ones. -/
def tailB (key : Int) (l : List (List UInt8)) (es : List (List UInt8)) : Bk.Book := ⟨key, Mi.comT l ++ es, -1, 0⟩
theorem tailB_app (key : Int) (l : List (List UInt8)) (es : List (List UInt8)) (x : UInt8) (s : List UInt8) (hl : l.length ≤ 10) (he : es.length ≤ 10) (hs : s.length ≤ 100) : (Bk.append (tailB key l es) ([49, 58, x, 44] ++ s)).2 = tailB key l (es ++ [[49, 58, x, 44] ++ s]) := by
  rw [Mi.append_addB _ _ _ (by omega) (by unfold tailB Mi.comT; simp; omega)]
  unfold Mi.addB tailB
  simp
theorem bkC_tail (key : Int) (l : List (List UInt8)) : bkC key l = tailB key l [] := by unfold bkC tailB; simp
structure TailOk (l es : List (List UInt8)) : Prop where
  l : l.length ≤ 4 ∧ ∀ s ∈ l, s.length ≤ 100
  es : es.length ≤ 2 ∧ ∀ s ∈ es, s.length ≤ 104 ∧ (Cl.key s).2 = true
theorem tail_ok {key : Int} {l es : List (List UInt8)} (h : TailOk l es) {mo : Int} (hmo : 0 ≤ mo ∧ mo ≤ 255) :
    (∀ i, (hi : i < (tailB key l es).es.length) → Cl.right ⟨0, i, 0, (tailB key l es).es[i]⟩ = true) ∧ Cl.right ⟨1, (tailB key l es).es.length, mo, []⟩ = true ∧ (tailB key l es).es.length = l.length + es.length := by
  have hlen : (tailB key l es).es.length = l.length + es.length := by unfold tailB Mi.comT; simp
  have h1 := h.l.1
  have h2 := h.es.1
  have hall : ∀ t ∈ (tailB key l es).es, t.length ≤ 104 ∧ (Cl.key t).2 = true := by
    intro t ht
    unfold tailB at ht
    rcases List.mem_append.1 ht with ht | ht
    · unfold Mi.comT at ht
      obtain ⟨s, hs, rfl⟩ := List.mem_map.1 ht
      exact ⟨by rw [List.length_append]; have := h.l.2 s hs; simp; omega, Mi.key_pre 99 s⟩
    · exact h.es.2 t ht
  refine ⟨fun i hi => ?_, ?_, hlen⟩
  · obtain ⟨a, b⟩ := hall _ (List.getElem_mem hi)
    unfold Cl.right Cl.within
    simp only [if_true, Bool.and_eq_true, decide_eq_true_eq]
    exact ⟨⟨⟨⟨by omega, by omega⟩, trivial⟩, by omega⟩, b⟩
  · unfold Cl.right Cl.within
    simp
    omega
theorem feed_lnn (L : List Bk.Seal) (b : Bk.Book) (now : Int) : (Mi.feed L b (Mi.fresh 0) [] [] now).2.1.length ≤ L.length + 1 + b.es.length := by
  obtain ⟨h1, h2⟩ := head_ln L b now
  unfold Mi.feed
  rw [if_neg (by unfold Mi.fresh; dsimp only; omega)]
  split
  · dsimp only; omega
  · unfold Mi.fed Mi.absL
    simp only [List.length_nil, Nat.not_lt_zero, if_false, List.foldl_nil]
    have h3 := entL_ln (Bk.head L b now).2.1 (Bk.head L b now).2.2 (Mi.push (Mi.fresh 0) 1 (Bk.head L b now).1.1) ((Mi.push (Mi.fresh 0) 1 (Bk.head L b now).1.1).l 0).length ((Bk.head L b now).2.2.es.length - ((Mi.push (Mi.fresh 0) 1 (Bk.head L b now).1.1).l 0).length)
    rw [h2] at h3 ⊢
    omega
/-- What stands behind the two feeds. -/
structure FedTwo (key : Int) (l es1 es2 : List (List UInt8)) (d1 d2 : List UInt8) (mo : Int) (L1 L2 : List Bk.Seal) (b1 b2 : Bk.Book) (m1 m2 : Mi.Mir) (a b h k : Bk.Sgn) : Prop where
  f1 : Mi.feed [] (tailB key l es1) (Mi.fresh 0) [] [] mo = (0, L1, b1, m1)
  f2 : Mi.feed L1 (tailB key l es2) (Mi.fresh 0) [] [] mo = (0, L2, b2, m2)
  n1 : L1.length ≤ 100
  n2 : L2.length ≤ 100
  e1 : Mi.answer m1 ⟨1, l.length, []⟩ = ⟨[a], [], false⟩
  e2 : Mi.answer m2 ⟨1, l.length, []⟩ = ⟨[b], [], false⟩
  e3 : Mi.answer m1 ⟨0, 0, []⟩ = ⟨[h], [], false⟩
  e4 : Mi.answer m2 ⟨0, 0, []⟩ = ⟨[k], [], false⟩
  sa : Mi.Sg L2 key a ⟨0, l.length, 0, d1⟩
  sb : Mi.Sg L2 key b ⟨0, l.length, 0, d2⟩
  sh : Mi.Sg L2 key h ⟨1, ((l.length + es1.length : Nat) : Int), mo, []⟩
  sk : Mi.Sg L2 key k ⟨1, ((l.length + es2.length : Nat) : Int), mo, []⟩
theorem fed_two {key : Int} (hk : Bk.isKey key = true) {l r1 r2 : List (List UInt8)} {d1 d2 : List UInt8} (h1 : TailOk l (d1 :: r1)) (h2 : TailOk l (d2 :: r2)) {mo : Int} (hmo : 0 ≤ mo ∧ mo ≤ 255) :
    ∃ L1 L2 b1 b2 m1 m2 a b h k, FedTwo key l (d1 :: r1) (d2 :: r2) d1 d2 mo L1 L2 b1 b2 m1 m2 a b h k := by
  obtain ⟨r11, r12, r13⟩ := tail_ok (key := key) h1 hmo
  obtain ⟨r21, r22, r23⟩ := tail_ok (key := key) h2 hmo
  have t1 := h1.l.1; have t2 := h1.es.1; have t3 := h2.es.1
  have hd : ∀ (d : List UInt8) (r : List (List UInt8)), l.length < (tailB key l (d :: r)).es.length ∧ (tailB key l (d :: r)).es[l.length]? = some d := fun d r => by
    unfold tailB Mi.comT
    refine ⟨by simp, ?_⟩
    rw [List.getElem?_append_right (by simp)]
    simp
  obtain ⟨L1, b1, m1, f1, -, u1, ⟨h, v1, w1⟩, x1⟩ := Mi.feed_once (L := []) (b := tailB key l (d1 :: r1)) (key := key) (mo := mo) hk rfl rfl (by omega) r11 r12
  obtain ⟨L2, b2, m2, f2, ⟨M2, hM2⟩, u2, ⟨k, v2, w2⟩, x2⟩ := Mi.feed_once (L := L1) (b := tailB key l (d2 :: r2)) (key := key) (mo := mo) hk rfl rfl (by omega) r21 r22
  obtain ⟨a, a1, a2⟩ := x1 l.length (hd d1 r1).1
  obtain ⟨b, c1, c2⟩ := x2 l.length (hd d2 r2).1
  have g1 : (tailB key l (d1 :: r1)).es[l.length]'(hd d1 r1).1 = d1 := by have := (hd d1 r1).2; rw [List.getElem?_eq_getElem (hd d1 r1).1] at this; exact Option.some.inj this
  have g2 : (tailB key l (d2 :: r2)).es[l.length]'(hd d2 r2).1 = d2 := by have := (hd d2 r2).2; rw [List.getElem?_eq_getElem (hd d2 r2).1] at this; exact Option.some.inj this
  rw [g1] at a2
  rw [g2] at c2
  rw [r13] at w1
  rw [r23] at w2
  have n1 : L1.length ≤ 10 := by
    have := feed_lnn [] (tailB key l (d1 :: r1)) mo
    rw [f1, r13] at this
    simp only [List.length_nil] at this
    omega
  have n2 : L2.length ≤ 100 := by
    have := feed_lnn L1 (tailB key l (d2 :: r2)) mo
    rw [f2, r23] at this
    simp only at this
    omega
  refine ⟨L1, L2, b1, b2, m1, m2, a, b, h, k, f1, f2, by omega, n2, Mi.answer_ent u1 a1, Mi.answer_ent u2 c1, Mi.answer_head u1 v1, Mi.answer_head u2 v2, ?_, c2, ?_, w2⟩
  · rw [hM2]; exact a2.more M2
  · rw [hM2]; exact w1.more M2
theorem sg_i64 {Lr : List Bk.Seal} {key : Int} {s : Bk.Sgn} {c : Cl.Clm} (h : Mi.Sg Lr key s c) : I64C c := by
  obtain ⟨b1, b2, b3, b4, b5, b6, b7⟩ := Cl.right_bounds h.r
  exact ⟨by unfold I64; omega, by unfold I64; omega, by unfold I64; omega, by omega⟩
theorem sg_ok {Lr : List Bk.Seal} {key : Int} {s : Bk.Sgn} {c : Cl.Clm} (h : Mi.Sg Lr key s c) (hk : I64 key) (hl : Lr.length ≤ 900000) : SgnOk s := by
  have hm := Vw.valid_lt h.v
  refine ⟨by rw [h.k]; exact hk, ?_, by unfold I64; omega⟩
  rw [h.t]
  exact Nat.le_trans (text_len8 c (sg_i64 h)) (by decide)
/-- The slice of four answers. -/
theorem four_sl {w : World} {bz : Nat} {a1 a2 a3 a4 : Option Addr} {c1 c2 c3 c4 : Nat} {sa sb sh sk : Bk.Sgn} {B1 B2 B3 B4 : Nat}
    (hb : w.heap[bz]? = some (.cells #[.slice a1 1 c1, .string ⟨#[]⟩, .bool false, .slice a2 1 c2, .string ⟨#[]⟩, .bool false, .slice a3 1 c3, .string ⟨#[]⟩, .bool false, .slice a4 1 c4, .string ⟨#[]⟩, .bool false] tAnsK))
    (o1 : w.ownsRow B1 tSigned 3 (.slice a1 1 c1) 1 (flatS [sa])) (o2 : w.ownsRow B2 tSigned 3 (.slice a2 1 c2) 1 (flatS [sb])) (o3 : w.ownsRow B3 tSigned 3 (.slice a3 1 c3) 1 (flatS [sh])) (o4 : w.ownsRow B4 tSigned 3 (.slice a4 1 c4) 1 (flatS [sk])) :
    AnsSl (fun i => if i = 0 then .slice a1 1 c1 else if i = 1 then .slice a2 1 c2 else if i = 2 then .slice a3 1 c3 else .slice a4 1 c4) w (.slice (some ⟨bz, 0, none⟩) 4 4) (Mi.four sa sb sh sk) := by
  refine ⟨_, _, rfl, by show 4 ≤ maxLen; unfold maxLen; decide, Or.inr ⟨bz, 0, rfl, fun i hi => ?_⟩⟩
  have hi4 : i < 4 := hi
  rw [cells_cell hb, cells_cell hb, cells_cell hb]
  match i, hi4 with
  | 0, _ => exact ⟨rfl, rfl, rfl, SgnSl.of_own (L := [sa]) o1⟩
  | 1, _ => exact ⟨rfl, rfl, rfl, SgnSl.of_own (L := [sb]) o2⟩
  | 2, _ => exact ⟨rfl, rfl, rfl, SgnSl.of_own (L := [sh]) o3⟩
  | 3, _ => exact ⟨rfl, rfl, rfl, SgnSl.of_own (L := [sk]) o4⟩
theorem u8_of_wf {m : Int} (h : (Lit.int .u8 m).wf = true) : 0 ≤ m ∧ m ≤ 255 := by
  have := h
  simp [Lit.wf, IntKind.min, IntKind.max, IntKind.signed, IntKind.bits] at this
  omega
/-! ### The walk -/
theorem new_bno (rb : Nat) (key : Int) (hk : Bk.isKey key = false) (w : World) (g : Gl w) : Calls Tryd.prog 8 #[.pointer (some ⟨rb, 0, none⟩), .int .i64 key] w fun e w' => e = .returned (.tuple #[.pointer none, .int .i64 22]) ∧ Nw w w' := by
  refine (new_b rb key w g).mono ?_
  rintro e w' (⟨h, _⟩ | ⟨_, h⟩)
  · rw [hk] at h; cases h
  · exact h
theorem new_vno (rb : Nat) (key : Int) (hk : Bk.isKey key = false) (w : World) (g : Gl w) : Calls Tryd.prog 17 #[.pointer (some ⟨rb, 0, none⟩), .int .i64 key] w fun e w' => e = .returned (.pointer none) ∧ Nw w w' := by
  refine (new_v rb key w g).mono ?_
  rintro e w' (⟨h, _⟩ | ⟨_, h⟩)
  · rw [hk] at h; cases h
  · exact h
/-- The books, the mirrors and the view, as they stand in the loop. -/
def xLoop (key : Int) (l : List (List UInt8)) : MsX := ⟨[], bkC key l, bkC key l, Mi.fresh 0, Mi.fresh 0, []⟩
theorem mir_ans {B : Nat} {w : World} {x : MirR} {m : Mi.Mir} (h : MirAt B w x m) (g : Gl w) (q : Mi.Ques) (hq : QOk q) {s : Bk.Sgn} (e : Mi.answer m q = ⟨[s], [], false⟩) : Calls Tryd.prog 20 #[.pointer (some ⟨x.mb, 0, none⟩), qV q] w fun e w' =>
    ∃ a c, e = .returned (.agg #[.slice a 1 c, .string ⟨#[]⟩, .bool false]) ∧ w'.ownsRow w.heap.size tSigned 3 (.slice a 1 c) 1 (flatS [s]) ∧ Nw w w' := by
  have := answer_w h g q hq
  rw [e] at this
  refine this.mono ?_
  rintro e' w' ⟨v', rfl, o, u⟩
  obtain ⟨a, c, rfl⟩ := own_slG o
  exact ⟨a, c, rfl, o, u⟩
set_option maxHeartbeats 4000000 in
set_option maxRecDepth 100000 in
theorem splits_c (key : Int) (cv : Value) (common : List (List UInt8)) (one two : ByteArray) (mo : Int) (heads : Bool) (W : World) (g : Gl W) (hkey : I64 key) (hcv : Sl 0 W.heap.size W cv (common.map fun s => Value.string ⟨s.toArray⟩)) (hmo : 0 ≤ mo ∧ mo ≤ 255) :
    Calls Tryd.prog 4 #[.int .i64 key, cv, .string one, .string two, .int .u8 mo, .bool heads] W fun e W' => e = .returned (.bool true) ∧ Nw W W' := by
  obtain ⟨o1, rfl⟩ : ∃ o1 : List UInt8, one = ⟨o1.toArray⟩ := ⟨one.data.toList, by rw [bs_eta]⟩
  obtain ⟨o2, rfl⟩ : ∃ o2 : List UInt8, two = ⟨o2.toArray⟩ := ⟨two.data.toList, by rw [bs_eta]⟩
  obtain ⟨ca, cc, rfl, hcm, -⟩ := hcv.open_
  rw [List.length_map] at hcm
  simp only [List.length_map]
  have HCV := Lib.hid hcv
  have hcm1 : (common.length : Int) ≤ 9223372036854775807 := by unfold maxLen at hcm; omega
  have Hmo := Lib.hid hmo
  obtain ⟨hmo1, hmo2⟩ := hmo
  have hsm := Lib.hid (small37_w W g)
  clear hcv hcm
  go_enter Tryd.func4, Tryd.ntmps4
  go_wp2_with fail
  (with_reducible refine (hsm.out).mono ?_)
  rintro _ w0 ⟨rfl, u0⟩
  have U0 := Lib.hid u0
  have g0 := Lib.hid (g.upd u0)
  have hns := Lib.hid (new_s w0 g0.out)
  clear hsm u0
  go_wp2_with fail
  (with_reducible refine (hns.out).mono ?_)
  rintro _ w1 ⟨q, rfl, hq, u1⟩
  have G1 := Lib.hid (ms_ring (key := key) g0.out hq u1)
  have HN1 : Hid (Nw W w1) := U0.out.trans u1
  clear hns hq u1
  by_cases hb1 : (4 : Int) < common.length
  · go_wp2_with fail
    go_ret
    exact ⟨rfl, HN1.out⟩
  by_cases hb2 : (100 : Int) < o1.length
  · go_wp2_with fail
    go_ret
    exact ⟨rfl, HN1.out⟩
  by_cases hb3 : (100 : Int) < o2.length
  · go_wp2_with fail
    go_ret
    exact ⟨rfl, HN1.out⟩
  have hc4 : common.length ≤ 4 := by omega
  have ho1 : (o1.length : Int) ≤ 100 := by omega
  have ho2 : (o2.length : Int) ≤ 100 := by omega
  generalize q.rb = rb at *
  clear hb1 hb2 hb3
  by_cases hk : Bk.isKey key = true
  rotate_left
  · have hk2 : Bk.isKey key = false := by simpa using hk
    have hkk : key < 0 ∨ (¬ key < 0 ∧ 200 ≤ key) := by
      unfold Bk.isKey at hk2
      rw [Bool.and_eq_false_iff, decide_eq_false_iff_not, decide_eq_false_iff_not] at hk2
      omega
    have HK2 := Lib.hid hk2
    have gw1 := g.upd HN1.out
    have HG1 := Lib.hid gw1
    have h1 := Lib.hid (new_bno rb key hk2 w1 gw1)
    have HKK := Lib.hid hkk
    clear hk hk2 hkk gw1 G1
    go_wp2_with fail
    (with_reducible refine (h1.out).mono ?_)
    rintro _ w2 ⟨rfl, u2⟩
    have h2 := Lib.hid (new_bno rb key HK2.out w2 (HG1.out.upd u2))
    clear h1
    go_wp2_with fail
    (with_reducible refine (h2.out).mono ?_)
    rintro _ w3 ⟨rfl, u3⟩
    have HU3 : Hid (Nw w1 w3) := u2.trans u3
    have h3 := Lib.hid (mnew_ok 0 (by decide) w3 (HG1.out.upd HU3.out))
    clear h2 u2 u3
    go_wp2_with fail
    (with_reducible refine (h3.out).mono ?_)
    rintro _ w4 ⟨r4, rfl, -, u4⟩
    have HU4 : Hid (Nw w1 w4) := HU3.out.trans u4
    have h4 := Lib.hid (mnew_ok 0 (by decide) w4 (HG1.out.upd HU4.out))
    clear h3 u4
    go_wp2_with fail
    (with_reducible refine (h4.out).mono ?_)
    rintro _ w5 ⟨r5, rfl, -, u5⟩
    have HU5 : Hid (Nw w1 w5) := HU4.out.trans u5
    have h5 := Lib.hid (new_vno rb key HK2.out w5 (HG1.out.upd HU5.out))
    clear h4 u5
    go_wp2_with fail
    (with_reducible refine (h5.out).mono ?_)
    rintro _ w6 ⟨rfl, u6⟩
    have HU6 : Hid (Nw W w6) := HN1.out.trans (HU5.out.trans u6)
    clear h5 u6
    rcases HKK.out with hkk | ⟨hkk, hkk2⟩
    · have d1 : decide (key < 0) = true := decide_eq_true hkk
      go_wp2_with fail
      go_ret
      exact ⟨rfl, HU6.out⟩
    · have d1 : decide (key < 0) = false := decide_eq_false (by omega)
      have d2 : decide (200 ≤ key) = true := decide_eq_true hkk2
      go_wp2_with fail
      go_ret
      exact ⟨rfl, HU6.out⟩
  have Hk := Lib.hid hk
  have h1 := Lib.hid (ms_bookA G1.out g0.out key hk)
  clear hk
  go_wp2_with fail
  (with_reducible refine (h1.out).mono ?_)
  rintro _ w2 ⟨ba, rfl, m2⟩
  have h2 := Lib.hid (ms_bookB m2 g0.out key Hk.out)
  clear h1 m2
  go_wp2_with fail
  (with_reducible refine (h2.out).mono ?_)
  rintro _ w3 ⟨bb, rfl, m3⟩
  have h3 := Lib.hid (ms_mirA m3 g0.out)
  clear h2 m3
  go_wp2_with fail
  (with_reducible refine (h3.out).mono ?_)
  rintro _ w4 ⟨ma, rfl, m4⟩
  have h4 := Lib.hid (ms_mirB m4 g0.out)
  clear h3 m4
  go_wp2_with fail
  (with_reducible refine (h4.out).mono ?_)
  rintro _ w5 ⟨mb, rfl, m5⟩
  have h5 := Lib.hid (ms_view m5 g0.out Hk.out)
  clear h4 m5
  go_wp2_with fail
  (with_reducible refine (h5.out).mono ?_)
  rintro _ w6 ⟨vb, rfl, m6⟩
  clear h5 G1
  obtain ⟨p, hp, e1, e2, e3, e4, e5, e6⟩ : ∃ p : MsR, Ms w0 p key (xLoop key (common.take 0)) 6 (fun _ => False) w6 ∧ p.rb = rb ∧ p.ba = ba ∧ p.bb = bb ∧ p.ma = ma ∧ p.mb = mb ∧ p.vb = vb := ⟨_, m6, rfl, rfl, rfl, rfl, rfl, rfl⟩
  clear m6
  subst e1 e2 e3 e4 e5 e6
  have hJ0 : Hid ((∀ s ∈ common.take 0, s.length ≤ 100) ∧ Ms w0 p key (xLoop key (common.take 0)) 6 (fun _ => False) w6) := ⟨fun s hs => (by simp at hs), hp⟩
  clear hp HN1
  go_wp2_with fail
  go_loopw [22] (fun iv wr => ∃ i : Nat, i ≤ common.length ∧ iv = .int .i64 (i : Int) ∧ Hid ((∀ s ∈ common.take i, s.length ≤ 100) ∧ Ms w0 p key (xLoop key (common.take i)) 6 (fun _ => False) wr)) (fun iv _ => common.length - (intOf iv).toNat)
  case atStart => exact ⟨0, Nat.zero_le _, rfl, hJ0.out⟩
  case round =>
    obtain ⟨i, hi, rfl, HJ⟩ := hrel
    have HNW : Hid (Nw W wr) := U0.out.trans HJ.out.2.nw0
    by_cases hlt : i < common.length
    · have hlt1 : (i : Int) < common.length := by omega
      obtain ⟨a', cap', ev, -, hcells⟩ := HCV.out.open_
      rw [List.length_map] at ev
      simp only [Value.slice.injEq, true_and] at ev
      obtain ⟨rfl, rfl⟩ := ev
      rcases hcells with ⟨-, -, hnil⟩ | ⟨kb, ko, rfl, -, -, -, hkc⟩
      · rw [List.map_eq_nil_iff] at hnil
        rw [hnil] at hlt; simp at hlt
      have HCE : Hid (∀ z, Nw W z → z.cell? ⟨kb, ko + i, none⟩ = some (.string ⟨common[i].toArray⟩)) := fun z u => by
        have d0 := hkc i (by rw [List.length_map]; exact hlt)
        rw [List.getElem?_map, List.getElem?_eq_getElem hlt] at d0
        exact later_cell ⟨z, u⟩ d0
      have c0 := HCE.out wr HNW.out
      have HTk : Hid (common.take (i + 1) = common.take i ++ [common[i]]) := List.take_succ_eq_append_getElem hlt
      obtain ⟨wJ, rfl⟩ : ∃ w, w = wr := ⟨_, rfl⟩
      generalize common[i] = s at *
      clear hkc
      by_cases hs1 : (100 : Int) < s.length
      · go_wp2_with fail
        go_ret
        exact ⟨rfl, HNW.out⟩
      have hs2 : (s.length : Int) ≤ 100 := by omega
      have Hs : Hid (s.length ≤ 100 ∧ (common.take i).length ≤ 10) := ⟨by omega, by rw [List.length_take]; omega⟩
      have HA1 : Hid (Calls Tryd.prog 18 #[.pointer (some ⟨p.ba, 0, none⟩), .string (⟨#[49, 58, 99, 44]⟩ ++ ⟨s.toArray⟩)] wJ fun e w' => ∃ v, e = .returned v ∧ Ms w0 p key { xLoop key (common.take i) with a := bkC key (common.take (i + 1)) } 6 (fun _ => False) w' ∧ MovesN w0 (fun _ => False) wJ w') := by
        refine (ms_appA HJ.out.2 g0.out _ ([49, 58, 99, 44] ++ s) (by simp) (by rw [List.length_append]; simp; omega)).mono ?_
        rintro e w' ⟨he, h, mv⟩
        refine ⟨_, he, ?_, mv⟩
        have := bkC_app key (common.take i) s Hs.out.2 Hs.out.1
        rw [← HTk.out] at this
        rw [← this]
        exact h
      clear hs1
      go_wp2_with fail
      (with_reducible refine (HA1.out).mono ?_)
      rintro _ w7 ⟨v7, rfl, h7, mv7⟩
      clear HA1 mv7 c0
      have c0 := HCE.out w7 (U0.out.trans h7.nw0)
      have HA2 : Hid (Calls Tryd.prog 18 #[.pointer (some ⟨p.bb, 0, none⟩), .string (⟨#[49, 58, 99, 44]⟩ ++ ⟨s.toArray⟩)] w7 fun e w' => ∃ v, e = .returned v ∧ Ms w0 p key (xLoop key (common.take (i + 1))) 6 (fun _ => False) w' ∧ MovesN w0 (fun _ => False) w7 w') := by
        refine (ms_appB h7 g0.out _ ([49, 58, 99, 44] ++ s) (by simp) (by rw [List.length_append]; simp; omega)).mono ?_
        rintro e w' ⟨he, h, mv⟩
        refine ⟨_, he, ?_, mv⟩
        have := bkC_app key (common.take i) s Hs.out.2 Hs.out.1
        rw [← HTk.out] at this
        unfold xLoop
        rw [← this]
        unfold xLoop at h
        rw [← this] at h
        exact h
      clear h7
      go_wp2_with fail
      (with_reducible refine (HA2.out).mono ?_)
      rintro _ w8 ⟨v8, rfl, h8, mv8⟩
      have hz : Hid ((∀ s ∈ common.take (i + 1), s.length ≤ 100) ∧ Ms w0 p key (xLoop key (common.take (i + 1))) 6 (fun _ => False) w8) := by
        refine ⟨fun t ht => ?_, h8⟩
        rw [HTk.out] at ht
        rcases List.mem_append.1 ht with ht | ht
        · exact HJ.out.1 t ht
        · rw [List.mem_singleton.1 ht]; exact Hs.out.1
      clear HA2 h8 mv8 c0
      go_wp2_with fail
      go_roundw
      case rel => exact ⟨i + 1, by omega, by go_num, hz.out⟩
      case measure => simp [intOf] <;> omega
    · obtain rfl : i = common.length := by omega
      have hJ := HJ.out
      rw [List.take_length] at hJ
      have HC := Lib.hid hJ.1
      have hm := hJ.2
      obtain ⟨d1, hd1⟩ : ∃ d1, [49, 58, 100, 44] ++ o1 = d1 := ⟨_, rfl⟩
      obtain ⟨d2, hd2⟩ : ∃ d2, [49, 58, 100, 44] ++ o2 = d2 := ⟨_, rfl⟩
      have Hd1 : Hid (d1.length ≤ 104 ∧ (Cl.key d1).2 = true) := ⟨by rw [← hd1, List.length_append]; simp; omega, by rw [← hd1]; exact Mi.key_pre 100 o1⟩
      have Hd2 : Hid (d2.length ≤ 104 ∧ (Cl.key d2).2 = true) := ⟨by rw [← hd2, List.length_append]; simp; omega, by rw [← hd2]; exact Mi.key_pre 100 o2⟩
      have H10 : Hid (common.length ≤ 10 ∧ o1.length ≤ 100 ∧ o2.length ≤ 100) := ⟨by omega, by omega, by omega⟩
      have HDD : Hid (d1 = d2 ↔ o1 = o2) := by
        refine ⟨fun e => ?_, fun e => by rw [← hd1, ← hd2, e]⟩
        rw [← hd1, ← hd2] at e
        exact List.append_cancel_left e
      have HA1 : Hid (Calls Tryd.prog 18 #[.pointer (some ⟨p.ba, 0, none⟩), .string (⟨#[49, 58, 100, 44]⟩ ++ ⟨o1.toArray⟩)] wr fun e w' => ∃ v, e = .returned v ∧ Ms w0 p key ⟨[], tailB key common [d1], tailB key common [], Mi.fresh 0, Mi.fresh 0, []⟩ 6 (fun _ => False) w') := by
        refine (ms_appA hm g0.out _ ([49, 58, 100, 44] ++ o1) (by simp) (by rw [List.length_append]; simp; omega)).mono ?_
        rintro e w' ⟨he, h, mv⟩
        refine ⟨_, he, ?_⟩
        have := tailB_app key common [] 100 o1 H10.out.1 (by simp) H10.out.2.1
        rw [hd1] at this h
        unfold xLoop at h
        dsimp only at h
        rw [bkC_tail, this] at h
        exact h
      obtain ⟨wJ, rfl⟩ : ∃ w, w = wr := ⟨_, rfl⟩
      clear hJ hm HJ HNW
      go_wp2_with fail
      (with_reducible refine (HA1.out).mono ?_)
      rintro _ w7 ⟨v7, rfl, h7⟩
      have HA2 : Hid (Calls Tryd.prog 18 #[.pointer (some ⟨p.bb, 0, none⟩), .string (⟨#[49, 58, 100, 44]⟩ ++ ⟨o2.toArray⟩)] w7 fun e w' => ∃ v, e = .returned v ∧ Ms w0 p key ⟨[], tailB key common [d1], tailB key common [d2], Mi.fresh 0, Mi.fresh 0, []⟩ 6 (fun _ => False) w') := by
        refine (ms_appB h7 g0.out _ ([49, 58, 100, 44] ++ o2) (by simp) (by rw [List.length_append]; simp; omega)).mono ?_
        rintro e w' ⟨he, h, mv⟩
        refine ⟨_, he, ?_⟩
        have := tailB_app key common [] 100 o2 H10.out.1 (by simp) H10.out.2.2
        rw [hd2] at this h
        dsimp only at h
        rw [this] at h
        exact h
      clear HA1 h7
      go_wp2_with fail
      (with_reducible refine (HA2.out).mono ?_)
      rintro _ w8 ⟨v8, rfl, h8⟩
      have H8 := Lib.hid h8
      clear HA2 h8 hd1 hd2
      cases heads with
      | false =>
        obtain ⟨L1, L2, b1, b2, m1, m2, sa, sb, sh, sk, ft⟩ := fed_two (mo := mo) Hk.out (l := common) (d1 := d1) (d2 := d2) (r1 := []) (r2 := []) ⟨⟨hc4, HC.out⟩, by simp, fun s hs => by rw [List.mem_singleton.1 hs]; exact Hd1.out⟩ ⟨⟨hc4, HC.out⟩, by simp, fun s hs => by rw [List.mem_singleton.1 hs]; exact Hd2.out⟩ Hmo.out
        have H9 : Hid (Ms w0 p key ⟨[], tailB key common [d1], tailB key common [d2], Mi.fresh 0, Mi.fresh 0, []⟩ 6 (fun _ => False) w8) := H8.out
        have FT := Lib.hid ft
        clear ft H8
        -- the tail from the world w8; [d2]: the second book's entries
        have HF1 : Hid (Calls Tryd.prog 19 #[.pointer (some ⟨p.ma, 0, none⟩), .pointer (some ⟨p.ba, 0, none⟩), .slice none 0 0, .slice none 0 0, .int .i64 mo] w8 fun e w' => e = .returned (.int .i64 0) ∧ Ms w0 p key ⟨L1, b1, tailB key common [d2], m1, Mi.fresh 0, []⟩ 6 (fun _ => False) w') := by
          have := ms_feedA H9.out g0.out [] [] mo (by unfold I64; omega) (by simp) (by show (0 : Nat) + 1 ≤ _; omega) (by show (0 : Nat) + 0 ≤ _; omega) ⟨by simp, fun s hs => by cases hs⟩ (fun s hs => by cases hs) (.slice none 0 0) (.slice none 0 0) w0.heap.size (fun z' _ => ⟨0, 0, Sl.nil 0 0 z' bsM⟩) (fun z' _ => World.ownsRow_nil _ _ _ _)
          dsimp only at this
          rw [FT.out.f1] at this
          refine this.mono ?_
          rintro e w' ⟨he, h, mv⟩
          exact ⟨he, h⟩
        go_wp2_with fail
        (with_reducible refine (HF1.out).mono ?_)
        rintro _ w10 ⟨rfl, h10⟩
        have HF2 : Hid (Calls Tryd.prog 19 #[.pointer (some ⟨p.mb, 0, none⟩), .pointer (some ⟨p.bb, 0, none⟩), .slice none 0 0, .slice none 0 0, .int .i64 mo] w10 fun e w' => e = .returned (.int .i64 0) ∧ Ms w0 p key ⟨L2, b1, b2, m1, m2, []⟩ 6 (fun _ => False) w') := by
          have := ms_feedB h10 g0.out [] [] mo (by unfold I64; omega) (by have := FT.out.n1; simp; omega) (by show (0 : Nat) + 1 ≤ _; omega) (by show (0 : Nat) + 0 ≤ _; omega) ⟨by simp, fun s hs => by cases hs⟩ (fun s hs => by cases hs) (.slice none 0 0) (.slice none 0 0) w0.heap.size (fun z' _ => ⟨0, 0, Sl.nil 0 0 z' bsM⟩) (fun z' _ => World.ownsRow_nil _ _ _ _)
          dsimp only at this
          rw [FT.out.f2] at this
          refine this.mono ?_
          rintro e w' ⟨he, h, mv⟩
          exact ⟨he, h⟩
        clear HF1 h10
        go_wp2_with fail
        (with_reducible refine (HF2.out).mono ?_)
        rintro _ w11 ⟨rfl, h11⟩
        clear HF2 H9
        have nE := nw_alloc w11 (.cells #[.int .i64 1, .int .i64 (common.length : Int), .string ⟨#[]⟩] tQue)
        have kE := heap_new w11 (.cells #[.int .i64 1, .int .i64 (common.length : Int), .string ⟨#[]⟩] tQue)
        have sE : (w11.alloc (.cells #[.int .i64 1, .int .i64 (common.length : Int), .string ⟨#[]⟩] tQue)).heap.size = w11.heap.size + 1 := by simp
        have nL := nw_alloc (w11.alloc (.cells #[.int .i64 1, .int .i64 (common.length : Int), .string ⟨#[]⟩] tQue)) (.cells #[.int .i64 0, .int .i64 0, .string ⟨#[]⟩] tQue)
        have kL := heap_new (w11.alloc (.cells #[.int .i64 1, .int .i64 (common.length : Int), .string ⟨#[]⟩] tQue)) (.cells #[.int .i64 0, .int .i64 0, .string ⟨#[]⟩] tQue)
        rw [sE] at kL
        replace kE := Nw.keep nL kE
        have nq := nE.trans nL
        obtain ⟨wq, hwq⟩ : ∃ wq, (w11.alloc (.cells #[.int .i64 1, .int .i64 (common.length : Int), .string ⟨#[]⟩] tQue)).alloc (.cells #[.int .i64 0, .int .i64 0, .string ⟨#[]⟩] tQue) = wq := ⟨_, rfl⟩
        have HWQ := Lib.hid hwq
        rw [hwq] at kE kL nq
        obtain ⟨be, hbe⟩ : ∃ be, w11.heap.size = be := ⟨_, rfl⟩
        have Hbe := Lib.hid hbe
        rw [hbe] at kE kL
        have HMq := Lib.hid (At.nw h11 nq)
        have HSS : Hid (∀ z, Nw wq z → z.cell? ⟨be, 0, none⟩ = some (.int .i64 1) ∧ z.cell? ⟨be, 1, none⟩ = some (.int .i64 (common.length : Int)) ∧ z.cell? ⟨be, 2, none⟩ = some (.string ⟨#[]⟩) ∧ z.cell? ⟨be + 1, 0, none⟩ = some (.int .i64 0) ∧ z.cell? ⟨be + 1, 1, none⟩ = some (.int .i64 0) ∧ z.cell? ⟨be + 1, 2, none⟩ = some (.string ⟨#[]⟩)) := fun z u => by
          obtain ⟨x0, x1, x2⟩ := cell3 (Nw.keep u kE)
          obtain ⟨y0, y1, y2⟩ := cell3 (Nw.keep u kL)
          exact ⟨x0, x1, x2, y0, y1, y2⟩
        have gq := g0.out.upd HMq.out.nw0
        obtain ⟨ra, ea, hra⟩ := at_mirAt (i := 3) (mb := p.ma) (m := m1) HMq.out (by decide) rfl
        obtain ⟨rb', eb, hrb⟩ := at_mirAt (i := 4) (mb := p.mb) (m := m2) HMq.out (by decide) rfl
        have HA : Hid (∀ z, Nw wq z → Calls Tryd.prog 20 #[.pointer (some ⟨p.ma, 0, none⟩), .agg #[.int .i64 1, .int .i64 (common.length : Int), .string ⟨#[]⟩]] z fun e w' => ∃ a c, e = .returned (.agg #[.slice a 1 c, .string ⟨#[]⟩, .bool false]) ∧ w'.ownsRow z.heap.size tSigned 3 (.slice a 1 c) 1 (flatS [sa]) ∧ Nw z w') := fun z u => by
          rw [← ea]; exact mir_ans (hra.nw u) (gq.upd u) ⟨1, common.length, []⟩ ⟨by show I64 (1 : Int); unfold I64; omega, by show I64 (common.length : Int); unfold I64; omega, Nat.zero_le _⟩ FT.out.e1
        have HB : Hid (∀ z, Nw wq z → Calls Tryd.prog 20 #[.pointer (some ⟨p.mb, 0, none⟩), .agg #[.int .i64 1, .int .i64 (common.length : Int), .string ⟨#[]⟩]] z fun e w' => ∃ a c, e = .returned (.agg #[.slice a 1 c, .string ⟨#[]⟩, .bool false]) ∧ w'.ownsRow z.heap.size tSigned 3 (.slice a 1 c) 1 (flatS [sb]) ∧ Nw z w') := fun z u => by
          rw [← eb]; exact mir_ans (hrb.nw u) (gq.upd u) ⟨1, common.length, []⟩ ⟨by show I64 (1 : Int); unfold I64; omega, by show I64 (common.length : Int); unfold I64; omega, Nat.zero_le _⟩ FT.out.e2
        have HCc : Hid (∀ z, Nw wq z → Calls Tryd.prog 20 #[.pointer (some ⟨p.ma, 0, none⟩), .agg #[.int .i64 0, .int .i64 0, .string ⟨#[]⟩]] z fun e w' => ∃ a c, e = .returned (.agg #[.slice a 1 c, .string ⟨#[]⟩, .bool false]) ∧ w'.ownsRow z.heap.size tSigned 3 (.slice a 1 c) 1 (flatS [sh]) ∧ Nw z w') := fun z u => by
          rw [← ea]; exact mir_ans (hra.nw u) (gq.upd u) ⟨0, 0, []⟩ ⟨by show I64 (0 : Int); unfold I64; omega, by show I64 (0 : Int); unfold I64; omega, Nat.zero_le _⟩ FT.out.e3
        have HDc : Hid (∀ z, Nw wq z → Calls Tryd.prog 20 #[.pointer (some ⟨p.mb, 0, none⟩), .agg #[.int .i64 0, .int .i64 0, .string ⟨#[]⟩]] z fun e w' => ∃ a c, e = .returned (.agg #[.slice a 1 c, .string ⟨#[]⟩, .bool false]) ∧ w'.ownsRow z.heap.size tSigned 3 (.slice a 1 c) 1 (flatS [sk]) ∧ Nw z w') := fun z u => by
          rw [← eb]; exact mir_ans (hrb.nw u) (gq.upd u) ⟨0, 0, []⟩ ⟨by show I64 (0 : Int); unfold I64; omega, by show I64 (0 : Int); unfold I64; omega, Nat.zero_le _⟩ FT.out.e4
        have hS := HSS.out wq.drew (Upd.refl _ _).drew
        clear nE kE sE nL kL nq hwq h11 gq hra hrb ea eb hbe
        go_upto_region 27 with fail
        rw [HWQ.out]
        (try rw [Hbe.out])
        refine wp_region_H 12 (fun _ => True) (fun z => z.cell? ⟨be, 0, none⟩ = some (.int .i64 1) ∧ z.cell? ⟨be, 1, none⟩ = some (.int .i64 (common.length : Int)) ∧ z.cell? ⟨be, 2, none⟩ = some (.string ⟨#[]⟩) ∧ z.cell? ⟨be + 1, 0, none⟩ = some (.int .i64 0) ∧ z.cell? ⟨be + 1, 1, none⟩ = some (.int .i64 0) ∧ z.cell? ⟨be + 1, 2, none⟩ = some (.string ⟨#[]⟩)) (by kernel_rfl) ?_
        refine wpAnyH_pure (i := 0) (v := ?_) rfl (by kernel_rfl) (by kernel_rfl) (by kernel_rfl) (by kernel_rfl) (by kernel_rfl) (fun _ _ _ h => h) (by rfl) ?_ (⟨fun _ => trivial, hS⟩) ?_
        rotate_left 1
        · (intro zz; go_simp; first | done | with_reducible rfl)
        (try simp only [Act.put, List.setIfInBounds_toArray, List.set_cons_zero, List.set_cons_succ])
        refine wpAnyH_pure (i := 3) (v := ?_) rfl (by kernel_rfl) (by kernel_rfl) (by kernel_rfl) (by kernel_rfl) (by kernel_rfl) (fun _ _ _ h => h) (by rfl) ?_ (⟨fun _ => trivial, hS⟩) ?_
        rotate_left 1
        · (intro zz; go_simp; first | done | with_reducible rfl)
        (try simp only [Act.put, List.setIfInBounds_toArray, List.set_cons_zero, List.set_cons_succ])
        refine wpAnyH_pure (i := 6) (v := ?_) rfl (by kernel_rfl) (by kernel_rfl) (by kernel_rfl) (by kernel_rfl) (by kernel_rfl) (fun _ _ _ h => h) (by rfl) ?_ (⟨fun _ => trivial, hS⟩) ?_
        rotate_left 1
        · (intro zz; go_simp; first | done | with_reducible rfl)
        (try simp only [Act.put, List.setIfInBounds_toArray, List.set_cons_zero, List.set_cons_succ])
        refine wpAnyH_pure (i := 9) (v := ?_) rfl (by kernel_rfl) (by kernel_rfl) (by kernel_rfl) (by kernel_rfl) (by kernel_rfl) (fun _ _ _ h => h) (by rfl) ?_ (⟨fun _ => trivial, hS⟩) ?_
        rotate_left 1
        · (intro zz; go_simp; first | done | with_reducible rfl)
        (try simp only [Act.put, List.setIfInBounds_toArray, List.set_cons_zero, List.set_cons_succ])
        refine wpAnyH_load2 (i := 1) (v := ?_) rfl (by kernel_rfl) (by kernel_rfl) (by kernel_rfl) (by kernel_rfl) (by kernel_rfl) (fun _ _ _ h => h) (by rfl) ?_ (⟨fun _ => trivial, hS⟩) ?_
        rotate_left 1
        · (intro zz hS2; obtain ⟨_, _, _, _, _, _⟩ := hS2; go_simp; first | done | with_reducible rfl)
        (try simp only [Act.put, List.setIfInBounds_toArray, List.set_cons_zero, List.set_cons_succ])
        refine wpAnyH_load2 (i := 4) (v := ?_) rfl (by kernel_rfl) (by kernel_rfl) (by kernel_rfl) (by kernel_rfl) (by kernel_rfl) (fun _ _ _ h => h) (by rfl) ?_ (⟨fun _ => trivial, hS⟩) ?_
        rotate_left 1
        · (intro zz hS2; obtain ⟨_, _, _, _, _, _⟩ := hS2; go_simp; first | done | with_reducible rfl)
        (try simp only [Act.put, List.setIfInBounds_toArray, List.set_cons_zero, List.set_cons_succ])
        refine wpAnyH_load2 (i := 7) (v := ?_) rfl (by kernel_rfl) (by kernel_rfl) (by kernel_rfl) (by kernel_rfl) (by kernel_rfl) (fun _ _ _ h => h) (by rfl) ?_ (⟨fun _ => trivial, hS⟩) ?_
        rotate_left 1
        · (intro zz hS2; obtain ⟨_, _, _, _, _, _⟩ := hS2; go_simp; first | done | with_reducible rfl)
        (try simp only [Act.put, List.setIfInBounds_toArray, List.set_cons_zero, List.set_cons_succ])
        refine wpAnyH_load2 (i := 10) (v := ?_) rfl (by kernel_rfl) (by kernel_rfl) (by kernel_rfl) (by kernel_rfl) (by kernel_rfl) (fun _ _ _ h => h) (by rfl) ?_ (⟨fun _ => trivial, hS⟩) ?_
        rotate_left 1
        · (intro zz hS2; obtain ⟨_, _, _, _, _, _⟩ := hS2; go_simp; first | done | with_reducible rfl)
        (try simp only [Act.put, List.setIfInBounds_toArray, List.set_cons_zero, List.set_cons_succ])
        have hq0 : Nw wq wq.drew := (Upd.refl _ wq).drew
        -- the call number 2 by the contract HA at wq.drew (behind wq by hq0): world w12, slice a1 c1, own row r1, step u12
        refine wpAnyH_one (i := 2) (by kernel_rfl) rfl (fun K hK => ?_)
        have hCC := (HA).out (wq.drew) (hq0)
        go_simp
        (with_reducible refine (hCC).mono ?_)
        rintro _ w12 ⟨a1, c1, rfl, r1, u12⟩
        have hw12 : Nw wq w12 := Nw.trans (hq0) (u12)
        have hS := HSS.out w12 hw12
        refine hK.out _ _ ⟨fun _ => trivial, hS⟩ ?_
        clear hK K
        (try simp only [Act.put, List.setIfInBounds_toArray, List.set_cons_zero, List.set_cons_succ])
        clear hCC
        -- the call number 5 by the contract HB at w12 (behind wq by hw12): world w13, slice a2 c2, own row r2, step u13
        refine wpAnyH_one (i := 5) (by kernel_rfl) rfl (fun K hK => ?_)
        have hCC := (HB).out (w12) (hw12)
        go_simp
        (with_reducible refine (hCC).mono ?_)
        rintro _ w13 ⟨a2, c2, rfl, r2, u13⟩
        have hw13 : Nw wq w13 := Nw.trans (hw12) (u13)
        have hS := HSS.out w13 hw13
        refine hK.out _ _ ⟨fun _ => trivial, hS⟩ ?_
        clear hK K
        (try simp only [Act.put, List.setIfInBounds_toArray, List.set_cons_zero, List.set_cons_succ])
        clear hCC
        -- the call number 8 by the contract HCc at w13 (behind wq by hw13): world w14, slice a3 c3, own row r3, step u14
        refine wpAnyH_one (i := 8) (by kernel_rfl) rfl (fun K hK => ?_)
        have hCC := (HCc).out (w13) (hw13)
        go_simp
        (with_reducible refine (hCC).mono ?_)
        rintro _ w14 ⟨a3, c3, rfl, r3, u14⟩
        have hw14 : Nw wq w14 := Nw.trans (hw13) (u14)
        have hS := HSS.out w14 hw14
        refine hK.out _ _ ⟨fun _ => trivial, hS⟩ ?_
        clear hK K
        (try simp only [Act.put, List.setIfInBounds_toArray, List.set_cons_zero, List.set_cons_succ])
        clear hCC
        -- the call number 11 by the contract HDc at w14 (behind wq by hw14): world w15, slice a4 c4, own row r4, step u15
        refine wpAnyH_one (i := 11) (by kernel_rfl) rfl (fun K hK => ?_)
        have hCC := (HDc).out (w14) (hw14)
        go_simp
        (with_reducible refine (hCC).mono ?_)
        rintro _ w15 ⟨a4, c4, rfl, r4, u15⟩
        have hw15 : Nw wq w15 := Nw.trans (hw14) (u15)
        have hS := HSS.out w15 hw15
        refine hK.out _ _ ⟨fun _ => trivial, hS⟩ ?_
        clear hK K
        (try simp only [Act.put, List.setIfInBounds_toArray, List.set_cons_zero, List.set_cons_succ])
        clear hCC
        have nz := nw_alloc w15 (.cells #[.slice a1 1 c1, .string ⟨#[]⟩, .bool false, .slice a2 1 c2, .string ⟨#[]⟩, .bool false, .slice a3 1 c3, .string ⟨#[]⟩, .bool false, .slice a4 1 c4, .string ⟨#[]⟩, .bool false] tAnsK)
        have kz := heap_new w15 (.cells #[.slice a1 1 c1, .string ⟨#[]⟩, .bool false, .slice a2 1 c2, .string ⟨#[]⟩, .bool false, .slice a3 1 c3, .string ⟨#[]⟩, .bool false, .slice a4 1 c4, .string ⟨#[]⟩, .bool false] tAnsK)
        obtain ⟨wz, hwz⟩ : ∃ wz, w15.alloc (.cells #[.slice a1 1 c1, .string ⟨#[]⟩, .bool false, .slice a2 1 c2, .string ⟨#[]⟩, .bool false, .slice a3 1 c3, .string ⟨#[]⟩, .bool false, .slice a4 1 c4, .string ⟨#[]⟩, .bool false] tAnsK) = wz := ⟨_, rfl⟩
        have HWZ := Lib.hid hwz
        rw [hwz] at nz kz
        have hSz := HSS.out wz (hw15.trans nz)
        refine wpAnyH_one (i := 12) (by kernel_rfl) rfl (fun K hK => ?_)
        go_simp
        (try rw [HWZ.out])
        refine hK.out _ _ ⟨fun _ => trivial, hSz⟩ ?_
        clear hK K
        (try simp only [Act.put, List.setIfInBounds_toArray, List.set_cons_zero, List.set_cons_succ])
        refine wpAnyH_pure (i := 13) (v := ?_) rfl (by kernel_rfl) (by kernel_rfl) (by kernel_rfl) (by kernel_rfl) (by kernel_rfl) (fun _ _ _ h => h) (by rfl) ?_ (⟨fun _ => trivial, hSz⟩) ?_
        rotate_left 1
        · (intro zz; go_simp; first | done | with_reducible rfl)
        (try simp only [Act.put, List.setIfInBounds_toArray, List.set_cons_zero, List.set_cons_succ])
        refine wpAnyH_done (by kernel_rfl) ?_ _
        obtain ⟨bz, hbz⟩ : ∃ bz, w15.heap.size = bz := ⟨_, rfl⟩
        have Hbz := Lib.hid hbz
        rw [hbz] at kz
        have q1 := owns_upd' r1 (u13.trans (u14.trans (u15.trans nz))) (fun _ _ e => e)
        have q2 := owns_upd' r2 (u14.trans (u15.trans nz)) (fun _ _ e => e)
        have q3 := owns_upd' r3 (u15.trans nz) (fun _ _ e => e)
        have q4 := owns_upd' r4 nz (fun _ _ e => e)
        have y12 : wq.heap.size ≤ w12.heap.size := u12.size
        have y13 := u13.size
        have y14 := u14.size
        have y15 := u15.size
        have yz := lt_of_block kz
        have y0 : wq.drew.heap.size = wq.heap.size := rfl
        have HMz : Ms w0 p key ⟨L2, b1, b2, m1, m2, []⟩ 6 (fun j => j = bz ∨ (Value.slice a1 1 c1).ownBlock = some j ∨ (Value.slice a2 1 c2).ownBlock = some j ∨ (Value.slice a3 1 c3).ownBlock = some j ∨ (Value.slice a4 1 c4).ownBlock = some j) wz := by
          refine At.keep HMq.out (hw15.trans nz) (fun j hj => Or.inr ?_)
          rcases hj with hj | hj | hj | hj | hj
          · subst hj; exact ⟨by omega, yz⟩
          · have := q1.lt j hj; exact ⟨by omega, this.2⟩
          · have := q2.lt j hj; exact ⟨by omega, this.2⟩
          · have := q3.lt j hj; exact ⟨by omega, this.2⟩
          · have := q4.lt j hj; exact ⟨by omega, this.2⟩
        have hsp := Mi.split_ok FT.out.sa FT.out.sb FT.out.sh FT.out.sk hmo1
        have hask := ms_ask HMz g0.out (Vw.VOk.nil _ _) (Nat.le_trans FT.out.n2 (by decide)) (Mi.four sa sb sh sk) (.slice (some ⟨bz, 0, none⟩) 4 4) _ (fun z' mv => four_sl (mv.keep kz (fun e => e.1 (Or.inl rfl))) (owns_upd' q1 mv (fun j hj e => e.1 (Or.inr (Or.inl hj)))) (owns_upd' q2 mv (fun j hj e => e.1 (Or.inr (Or.inr (Or.inl hj))))) (owns_upd' q3 mv (fun j hj e => e.1 (Or.inr (Or.inr (Or.inr (Or.inl hj)))))) (owns_upd' q4 mv (fun j hj e => e.1 (Or.inr (Or.inr (Or.inr (Or.inr hj))))))) (fun a ha s hs => by
          have hL := Nat.le_trans FT.out.n2 (show (100 : Nat) ≤ 900000 by decide)
          unfold Mi.four at ha
          simp only [List.mem_cons, List.not_mem_nil, or_false] at ha
          rcases ha with rfl | rfl | rfl | rfl
          · rw [List.mem_singleton.1 hs]; exact sg_ok FT.out.sa hkey hL
          · rw [List.mem_singleton.1 hs]; exact sg_ok FT.out.sb hkey hL
          · rw [List.mem_singleton.1 hs]; exact sg_ok FT.out.sh hkey hL
          · rw [List.mem_singleton.1 hs]; exact sg_ok FT.out.sk hkey hL) (by show (4 : Nat) ≤ _; decide) mo 0 (by unfold I64; omega) (by unfold I64; omega)
        dsimp only at hask
        generalize Mi.ask L2 key [] (Mi.four sa sb sh sk) = R at *
        have HSP := Lib.hid hsp
        have HASK : Hid (Calls Tryd.prog 21 #[.pointer (some ⟨p.vb, 0, none⟩), .slice (some ⟨bz, 0, none⟩) 4 4, .int .i64 mo, .int .i64 0] wz fun e z' => e = .returned (.tuple #[.agg #[.int .i64 R.old.key, .string ⟨R.old.text.toArray⟩, .int .i64 R.old.mark], .agg #[.int .i64 R.odd.key, .string ⟨R.odd.text.toArray⟩, .int .i64 R.odd.mark], .int .i64 (Mi.askE R mo 0)]) ∧ ∃ F, Ms w0 p key ⟨L2, b1, b2, m1, m2, R.L⟩ 6 F z') := by
          refine hask.mono ?_
          rintro e z' ⟨he, h, -⟩
          exact ⟨he, _, h⟩
        clear hask hsp HMz q1 q2 q3 q4 r1 r2 r3 r4 u12 u13 u14 u15 nz kz y12 y13 y14 y15 yz y0 hSz hS hq0 hw12 hw13 hw14 hw15 HA HB HCc HDc HSS HMq
        (try rw [hbz])
        clear hbz
        by_cases hoo : o1 = o2
        · have hob : (o1 == o2) = true := by simp [hoo]
          have hdd := HDD.out.2 hoo
          -- nothing is split
          rw [HSP.out.1 ⟨hdd, rfl⟩] at HASK
          go_wp2_with fail
          (with_reducible refine (HASK.out).mono ?_)
          rintro _ w20 ⟨rfl, F, h20⟩
          have HF := Lib.hid (U0.out.trans h20.nw0)
          clear h20 HASK
          go_wp2_with fail
          go_ret
          exact ⟨rfl, HF.out.trans ((nw_alloc _ _).trans (nw_alloc _ _))⟩
        · have hob : (o1 == o2) = false := by simp [hoo]
          have hdd : ¬ (d1 = d2 ∧ ((common.length + [d1].length : Nat) : Int) = ((common.length + [d2].length : Nat) : Int)) := fun e => hoo (HDD.out.1 e.1)
          -- split: hdd
          obtain ⟨hE, ce, de, gs, gt, hct⟩ := HSP.out.2 hdd
          rw [hE] at HASK
          have GS := Lib.hid gs
          have GT := Lib.hid gt
          have HCT := Lib.hid hct
          clear hE gs gt hct HSP
          go_wp2_with fail
          (with_reducible refine (HASK.out).mono ?_)
          rintro _ w20 ⟨rfl, F, h20⟩
          have n1 := nw_alloc w20 (ssO R.old)
          have k1 := heap_new w20 (ssO R.old)
          have s1 : (w20.alloc (ssO R.old)).heap.size = w20.heap.size + 1 := by simp
          have n2 := nw_alloc (w20.alloc (ssO R.old)) (ssO R.odd)
          have k2 := heap_new (w20.alloc (ssO R.old)) (ssO R.odd)
          rw [s1] at k2
          replace k1 := Nw.keep n2 k1
          have nr := n1.trans n2
          obtain ⟨wr2, hwr⟩ : ∃ wr2, (w20.alloc (ssO R.old)).alloc (ssO R.odd) = wr2 := ⟨_, rfl⟩
          have HWR : Hid ((w20.alloc (.cells #[.int .i64 R.old.key, .string ⟨R.old.text.toArray⟩, .int .i64 R.old.mark] tSigned)).alloc (.cells #[.int .i64 R.odd.key, .string ⟨R.odd.text.toArray⟩, .int .i64 R.odd.mark] tSigned) = wr2) := hwr
          rw [hwr] at k1 k2 nr
          obtain ⟨bx, hbx⟩ : ∃ bx, w20.heap.size = bx := ⟨_, rfl⟩
          have Hbx := Lib.hid hbx
          rw [hbx] at k1 k2
          obtain ⟨qr, er, hqr⟩ := ms_ringAt h20 (by decide)
          dsimp only at hqr
          have HQR := Lib.hid (hqr.nw nr)
          have HGR := Lib.hid (g0.out.upd (h20.nw0.trans nr))
          have HNF := Lib.hid (U0.out.trans (h20.nw0.trans nr))
          have HK1 := Lib.hid k1
          have HK2 := Lib.hid k2
          have HLN : Hid (L2.length ≤ 900000) := Nat.le_trans FT.out.n2 (by decide)
          have HO1 := Lib.hid (sg_ok GS.out hkey HLN.out)
          have HO2 := Lib.hid (sg_ok GT.out hkey HLN.out)
          have HR1 : Hid (∀ z, Nw wr2 z → Calls Tryd.prog 22 #[.string ⟨R.old.text.toArray⟩] z fun e w' => e = .returned (.tuple #[.agg #[.int .i64 ce.kind, .int .i64 ce.n, .int .i64 ce.time, .string ⟨ce.text.toArray⟩], .int .i64 0]) ∧ Nw z w') := fun z u => by
            have := read_c ⟨R.old.text.toArray⟩ R.old.text (bs_list _) (Nat.le_trans HO1.out.t (by decide)) z (HGR.out.upd u)
            rw [GS.out.read] at this
            exact this
          have HR2 : Hid (∀ z, Nw wr2 z → Calls Tryd.prog 22 #[.string ⟨R.odd.text.toArray⟩] z fun e w' => e = .returned (.tuple #[.agg #[.int .i64 de.kind, .int .i64 de.n, .int .i64 de.time, .string ⟨de.text.toArray⟩], .int .i64 0]) ∧ Nw z w') := fun z u => by
            have := read_c ⟨R.odd.text.toArray⟩ R.odd.text (bs_list _) (Nat.le_trans HO2.out.t (by decide)) z (HGR.out.upd u)
            rw [GT.out.read] at this
            exact this
          have HCn : Hid (∀ z, Nw wr2 z → Calls Tryd.prog 23 #[.agg #[.int .i64 ce.kind, .int .i64 ce.n, .int .i64 ce.time, .string ⟨ce.text.toArray⟩], .agg #[.int .i64 de.kind, .int .i64 de.n, .int .i64 de.time, .string ⟨de.text.toArray⟩]] z fun e w' => e = .returned (.bool true) ∧ Nw z w') := fun z u => by
            have := contra_c ce de ⟨ce.text.toArray⟩ ⟨de.text.toArray⟩ (bs_list _) (bs_list _) (sg_i64 GS.out) (sg_i64 GT.out) z (HGR.out.upd u)
            rw [HCT.out] at this
            exact this
          have HCv : Hid (∀ z, Nw wr2 z → Calls Tryd.prog 11 #[.pointer (some ⟨p.rb, 0, none⟩), .agg #[.int .i64 R.old.key, .string ⟨R.old.text.toArray⟩, .int .i64 R.old.mark], .agg #[.int .i64 R.odd.key, .string ⟨R.odd.text.toArray⟩, .int .i64 R.odd.mark]] z fun e w' => e = .returned (.int .i64 0) ∧ Nw z w') := fun z u => by
            have := convict_w _ qr L2 R.old R.odd z (HGR.out.upd u) (HQR.out.nw u) HO1.out HO2.out
            rw [er, Mi.Sg.convict GS.out GT.out HCT.out] at this
            exact this
          have HR1' := Lib.hid (HR1.out wr2 (Upd.refl _ _))
          clear HASK n1 n2 s1 nr hwr hqr er h20 hbx
          generalize R.old = xo at *
          generalize R.odd = yo at *
          obtain ⟨_, _, _⟩ := cell3 k1
          clear k1 k2
          go_upto_region 29 with fail
          rw [HWR.out]
          (try rw [Hbx.out])
          go_wp2_with fail
          (with_reducible refine (HR1'.out).mono ?_)
          rintro _ w21 ⟨rfl, u21⟩
          have n22 := nw_alloc w21 (.cells #[.int .i64 ce.kind, .int .i64 ce.n, .int .i64 ce.time, .string ⟨ce.text.toArray⟩] 65)
          have k22 := heap_new w21 (.cells #[.int .i64 ce.kind, .int .i64 ce.n, .int .i64 ce.time, .string ⟨ce.text.toArray⟩] 65)
          obtain ⟨w22, hw22⟩ : ∃ w22, w21.alloc (.cells #[.int .i64 ce.kind, .int .i64 ce.n, .int .i64 ce.time, .string ⟨ce.text.toArray⟩] 65) = w22 := ⟨_, rfl⟩
          have HW22 := Lib.hid hw22
          rw [hw22] at n22 k22
          obtain ⟨bc, hbc⟩ : ∃ bc, w21.heap.size = bc := ⟨_, rfl⟩
          have Hbc := Lib.hid hbc
          rw [hbc] at k22
          have HU22 : Hid (Nw wr2 w22) := u21.trans n22
          have HK22 := Lib.hid k22
          have HR2' := Lib.hid (HR2.out w22 HU22.out)
          obtain ⟨_, _, _⟩ := cell3 (Nw.keep HU22.out HK2.out)
          clear HR1 HR1' HR2 u21 n22 k22 hw22 hbc
          go_upto_region 32 with fail
          rw [HW22.out]
          (try rw [Hbc.out])
          go_wp2_with fail
          (with_reducible refine (HR2'.out).mono ?_)
          rintro _ w23 ⟨rfl, u23⟩
          have n24 := nw_alloc w23 (.cells #[.int .i64 de.kind, .int .i64 de.n, .int .i64 de.time, .string ⟨de.text.toArray⟩] 65)
          have k24 := heap_new w23 (.cells #[.int .i64 de.kind, .int .i64 de.n, .int .i64 de.time, .string ⟨de.text.toArray⟩] 65)
          obtain ⟨w24, hw24⟩ : ∃ w24, w23.alloc (.cells #[.int .i64 de.kind, .int .i64 de.n, .int .i64 de.time, .string ⟨de.text.toArray⟩] 65) = w24 := ⟨_, rfl⟩
          have HW24 := Lib.hid hw24
          rw [hw24] at n24 k24
          obtain ⟨bd, hbd⟩ : ∃ bd, w23.heap.size = bd := ⟨_, rfl⟩
          have Hbd := Lib.hid hbd
          rw [hbd] at k24
          have HU24 : Hid (Nw wr2 w24) := HU22.out.trans (u23.trans n24)
          have HCn' := Lib.hid (HCn.out w24 HU24.out)
          have kc := Nw.keep (u23.trans n24) HK22.out
          have c0 : w24.cell? ⟨bc, 0, none⟩ = some (.int .i64 ce.kind) := by rw [cells_cell kc]; rfl
          have c1 : w24.cell? ⟨bc, 1, none⟩ = some (.int .i64 ce.n) := by rw [cells_cell kc]; rfl
          have c2 : w24.cell? ⟨bc, 2, none⟩ = some (.int .i64 ce.time) := by rw [cells_cell kc]; rfl
          have c3 : w24.cell? ⟨bc, 3, none⟩ = some (.string ⟨ce.text.toArray⟩) := by rw [cells_cell kc]; rfl
          have f0 : w24.cell? ⟨bd, 0, none⟩ = some (.int .i64 de.kind) := by rw [cells_cell k24]; rfl
          have f1 : w24.cell? ⟨bd, 1, none⟩ = some (.int .i64 de.n) := by rw [cells_cell k24]; rfl
          have f2 : w24.cell? ⟨bd, 2, none⟩ = some (.int .i64 de.time) := by rw [cells_cell k24]; rfl
          have f3 : w24.cell? ⟨bd, 3, none⟩ = some (.string ⟨de.text.toArray⟩) := by rw [cells_cell k24]; rfl
          clear HR2' HCn u23 n24 k24 hw24 hbd kc
          go_upto_region 33 with fail
          rw [HW24.out]
          (try rw [Hbd.out])
          go_wp2_with fail
          (with_reducible refine (HCn'.out).mono ?_)
          rintro _ w25 ⟨rfl, u25⟩
          have HU25 : Hid (Nw wr2 w25) := HU24.out.trans u25
          obtain ⟨_, _, _⟩ := cell3 (Nw.keep HU25.out HK1.out)
          obtain ⟨_, _, _⟩ := cell3 (Nw.keep HU25.out HK2.out)
          have HCv' := Lib.hid (HCv.out w25 HU25.out)
          clear HCn' HCv u25 c0 c1 c2 c3 f0 f1 f2 f3
          go_wp2_with fail
          (with_reducible refine (HCv'.out).mono ?_)
          rintro _ w26 ⟨rfl, u26⟩
          have HU26 : Hid (Nw W w26) := HNF.out.trans (HU25.out.trans u26)
          clear HCv' u26
          go_wp2_with fail
          go_ret
          exact ⟨rfl, HU26.out⟩
      | true =>
        have HA3 : Hid (Calls Tryd.prog 18 #[.pointer (some ⟨p.bb, 0, none⟩), .string ⟨#[49, 58, 101, 44]⟩] w8 fun e w' => ∃ v, e = .returned v ∧ Ms w0 p key ⟨[], tailB key common [d1], tailB key common [d2, [49, 58, 101, 44]], Mi.fresh 0, Mi.fresh 0, []⟩ 6 (fun _ => False) w') := by
          refine (ms_appB H8.out g0.out ⟨#[49, 58, 101, 44]⟩ ([49, 58, 101, 44] ++ []) rfl (by decide)).mono ?_
          rintro e w' ⟨he, h, mv⟩
          refine ⟨_, he, ?_⟩
          have := tailB_app key common [d2] 101 [] H10.out.1 (by simp) (by simp)
          dsimp only at h
          rw [this] at h
          exact h
        go_wp2_with fail
        (with_reducible refine (HA3.out).mono ?_)
        rintro _ w9 ⟨v9, rfl, h9⟩
        have H9 := Lib.hid h9
        obtain ⟨L1, L2, b1, b2, m1, m2, sa, sb, sh, sk, ft⟩ := fed_two (mo := mo) Hk.out (l := common) (d1 := d1) (d2 := d2) (r1 := []) (r2 := [[49, 58, 101, 44]]) ⟨⟨hc4, HC.out⟩, by simp, fun s hs => by rw [List.mem_singleton.1 hs]; exact Hd1.out⟩ ⟨⟨hc4, HC.out⟩, by simp, fun s hs => by
          rcases List.mem_cons.1 hs with rfl | hs
          · exact Hd2.out
          · rw [List.mem_singleton.1 hs]; exact ⟨by simp, Mi.key_pre 101 []⟩⟩ Hmo.out
        have FT := Lib.hid ft
        clear ft H8 h9 HA3
        -- the tail from the world w9; [d2, [49, 58, 101, 44]]: the second book's entries
        have HF1 : Hid (Calls Tryd.prog 19 #[.pointer (some ⟨p.ma, 0, none⟩), .pointer (some ⟨p.ba, 0, none⟩), .slice none 0 0, .slice none 0 0, .int .i64 mo] w9 fun e w' => e = .returned (.int .i64 0) ∧ Ms w0 p key ⟨L1, b1, tailB key common [d2, [49, 58, 101, 44]], m1, Mi.fresh 0, []⟩ 6 (fun _ => False) w') := by
          have := ms_feedA H9.out g0.out [] [] mo (by unfold I64; omega) (by simp) (by show (0 : Nat) + 1 ≤ _; omega) (by show (0 : Nat) + 0 ≤ _; omega) ⟨by simp, fun s hs => by cases hs⟩ (fun s hs => by cases hs) (.slice none 0 0) (.slice none 0 0) w0.heap.size (fun z' _ => ⟨0, 0, Sl.nil 0 0 z' bsM⟩) (fun z' _ => World.ownsRow_nil _ _ _ _)
          dsimp only at this
          rw [FT.out.f1] at this
          refine this.mono ?_
          rintro e w' ⟨he, h, mv⟩
          exact ⟨he, h⟩
        go_wp2_with fail
        (with_reducible refine (HF1.out).mono ?_)
        rintro _ w10 ⟨rfl, h10⟩
        have HF2 : Hid (Calls Tryd.prog 19 #[.pointer (some ⟨p.mb, 0, none⟩), .pointer (some ⟨p.bb, 0, none⟩), .slice none 0 0, .slice none 0 0, .int .i64 mo] w10 fun e w' => e = .returned (.int .i64 0) ∧ Ms w0 p key ⟨L2, b1, b2, m1, m2, []⟩ 6 (fun _ => False) w') := by
          have := ms_feedB h10 g0.out [] [] mo (by unfold I64; omega) (by have := FT.out.n1; simp; omega) (by show (0 : Nat) + 1 ≤ _; omega) (by show (0 : Nat) + 0 ≤ _; omega) ⟨by simp, fun s hs => by cases hs⟩ (fun s hs => by cases hs) (.slice none 0 0) (.slice none 0 0) w0.heap.size (fun z' _ => ⟨0, 0, Sl.nil 0 0 z' bsM⟩) (fun z' _ => World.ownsRow_nil _ _ _ _)
          dsimp only at this
          rw [FT.out.f2] at this
          refine this.mono ?_
          rintro e w' ⟨he, h, mv⟩
          exact ⟨he, h⟩
        clear HF1 h10
        go_wp2_with fail
        (with_reducible refine (HF2.out).mono ?_)
        rintro _ w11 ⟨rfl, h11⟩
        clear HF2 H9
        have nE := nw_alloc w11 (.cells #[.int .i64 1, .int .i64 (common.length : Int), .string ⟨#[]⟩] tQue)
        have kE := heap_new w11 (.cells #[.int .i64 1, .int .i64 (common.length : Int), .string ⟨#[]⟩] tQue)
        have sE : (w11.alloc (.cells #[.int .i64 1, .int .i64 (common.length : Int), .string ⟨#[]⟩] tQue)).heap.size = w11.heap.size + 1 := by simp
        have nL := nw_alloc (w11.alloc (.cells #[.int .i64 1, .int .i64 (common.length : Int), .string ⟨#[]⟩] tQue)) (.cells #[.int .i64 0, .int .i64 0, .string ⟨#[]⟩] tQue)
        have kL := heap_new (w11.alloc (.cells #[.int .i64 1, .int .i64 (common.length : Int), .string ⟨#[]⟩] tQue)) (.cells #[.int .i64 0, .int .i64 0, .string ⟨#[]⟩] tQue)
        rw [sE] at kL
        replace kE := Nw.keep nL kE
        have nq := nE.trans nL
        obtain ⟨wq, hwq⟩ : ∃ wq, (w11.alloc (.cells #[.int .i64 1, .int .i64 (common.length : Int), .string ⟨#[]⟩] tQue)).alloc (.cells #[.int .i64 0, .int .i64 0, .string ⟨#[]⟩] tQue) = wq := ⟨_, rfl⟩
        have HWQ := Lib.hid hwq
        rw [hwq] at kE kL nq
        obtain ⟨be, hbe⟩ : ∃ be, w11.heap.size = be := ⟨_, rfl⟩
        have Hbe := Lib.hid hbe
        rw [hbe] at kE kL
        have HMq := Lib.hid (At.nw h11 nq)
        have HSS : Hid (∀ z, Nw wq z → z.cell? ⟨be, 0, none⟩ = some (.int .i64 1) ∧ z.cell? ⟨be, 1, none⟩ = some (.int .i64 (common.length : Int)) ∧ z.cell? ⟨be, 2, none⟩ = some (.string ⟨#[]⟩) ∧ z.cell? ⟨be + 1, 0, none⟩ = some (.int .i64 0) ∧ z.cell? ⟨be + 1, 1, none⟩ = some (.int .i64 0) ∧ z.cell? ⟨be + 1, 2, none⟩ = some (.string ⟨#[]⟩)) := fun z u => by
          obtain ⟨x0, x1, x2⟩ := cell3 (Nw.keep u kE)
          obtain ⟨y0, y1, y2⟩ := cell3 (Nw.keep u kL)
          exact ⟨x0, x1, x2, y0, y1, y2⟩
        have gq := g0.out.upd HMq.out.nw0
        obtain ⟨ra, ea, hra⟩ := at_mirAt (i := 3) (mb := p.ma) (m := m1) HMq.out (by decide) rfl
        obtain ⟨rb', eb, hrb⟩ := at_mirAt (i := 4) (mb := p.mb) (m := m2) HMq.out (by decide) rfl
        have HA : Hid (∀ z, Nw wq z → Calls Tryd.prog 20 #[.pointer (some ⟨p.ma, 0, none⟩), .agg #[.int .i64 1, .int .i64 (common.length : Int), .string ⟨#[]⟩]] z fun e w' => ∃ a c, e = .returned (.agg #[.slice a 1 c, .string ⟨#[]⟩, .bool false]) ∧ w'.ownsRow z.heap.size tSigned 3 (.slice a 1 c) 1 (flatS [sa]) ∧ Nw z w') := fun z u => by
          rw [← ea]; exact mir_ans (hra.nw u) (gq.upd u) ⟨1, common.length, []⟩ ⟨by show I64 (1 : Int); unfold I64; omega, by show I64 (common.length : Int); unfold I64; omega, Nat.zero_le _⟩ FT.out.e1
        have HB : Hid (∀ z, Nw wq z → Calls Tryd.prog 20 #[.pointer (some ⟨p.mb, 0, none⟩), .agg #[.int .i64 1, .int .i64 (common.length : Int), .string ⟨#[]⟩]] z fun e w' => ∃ a c, e = .returned (.agg #[.slice a 1 c, .string ⟨#[]⟩, .bool false]) ∧ w'.ownsRow z.heap.size tSigned 3 (.slice a 1 c) 1 (flatS [sb]) ∧ Nw z w') := fun z u => by
          rw [← eb]; exact mir_ans (hrb.nw u) (gq.upd u) ⟨1, common.length, []⟩ ⟨by show I64 (1 : Int); unfold I64; omega, by show I64 (common.length : Int); unfold I64; omega, Nat.zero_le _⟩ FT.out.e2
        have HCc : Hid (∀ z, Nw wq z → Calls Tryd.prog 20 #[.pointer (some ⟨p.ma, 0, none⟩), .agg #[.int .i64 0, .int .i64 0, .string ⟨#[]⟩]] z fun e w' => ∃ a c, e = .returned (.agg #[.slice a 1 c, .string ⟨#[]⟩, .bool false]) ∧ w'.ownsRow z.heap.size tSigned 3 (.slice a 1 c) 1 (flatS [sh]) ∧ Nw z w') := fun z u => by
          rw [← ea]; exact mir_ans (hra.nw u) (gq.upd u) ⟨0, 0, []⟩ ⟨by show I64 (0 : Int); unfold I64; omega, by show I64 (0 : Int); unfold I64; omega, Nat.zero_le _⟩ FT.out.e3
        have HDc : Hid (∀ z, Nw wq z → Calls Tryd.prog 20 #[.pointer (some ⟨p.mb, 0, none⟩), .agg #[.int .i64 0, .int .i64 0, .string ⟨#[]⟩]] z fun e w' => ∃ a c, e = .returned (.agg #[.slice a 1 c, .string ⟨#[]⟩, .bool false]) ∧ w'.ownsRow z.heap.size tSigned 3 (.slice a 1 c) 1 (flatS [sk]) ∧ Nw z w') := fun z u => by
          rw [← eb]; exact mir_ans (hrb.nw u) (gq.upd u) ⟨0, 0, []⟩ ⟨by show I64 (0 : Int); unfold I64; omega, by show I64 (0 : Int); unfold I64; omega, Nat.zero_le _⟩ FT.out.e4
        have hS := HSS.out wq.drew (Upd.refl _ _).drew
        clear nE kE sE nL kL nq hwq h11 gq hra hrb ea eb hbe
        go_upto_region 27 with fail
        rw [HWQ.out]
        (try rw [Hbe.out])
        refine wp_region_H 12 (fun _ => True) (fun z => z.cell? ⟨be, 0, none⟩ = some (.int .i64 1) ∧ z.cell? ⟨be, 1, none⟩ = some (.int .i64 (common.length : Int)) ∧ z.cell? ⟨be, 2, none⟩ = some (.string ⟨#[]⟩) ∧ z.cell? ⟨be + 1, 0, none⟩ = some (.int .i64 0) ∧ z.cell? ⟨be + 1, 1, none⟩ = some (.int .i64 0) ∧ z.cell? ⟨be + 1, 2, none⟩ = some (.string ⟨#[]⟩)) (by kernel_rfl) ?_
        refine wpAnyH_pure (i := 0) (v := ?_) rfl (by kernel_rfl) (by kernel_rfl) (by kernel_rfl) (by kernel_rfl) (by kernel_rfl) (fun _ _ _ h => h) (by rfl) ?_ (⟨fun _ => trivial, hS⟩) ?_
        rotate_left 1
        · (intro zz; go_simp; first | done | with_reducible rfl)
        (try simp only [Act.put, List.setIfInBounds_toArray, List.set_cons_zero, List.set_cons_succ])
        refine wpAnyH_pure (i := 3) (v := ?_) rfl (by kernel_rfl) (by kernel_rfl) (by kernel_rfl) (by kernel_rfl) (by kernel_rfl) (fun _ _ _ h => h) (by rfl) ?_ (⟨fun _ => trivial, hS⟩) ?_
        rotate_left 1
        · (intro zz; go_simp; first | done | with_reducible rfl)
        (try simp only [Act.put, List.setIfInBounds_toArray, List.set_cons_zero, List.set_cons_succ])
        refine wpAnyH_pure (i := 6) (v := ?_) rfl (by kernel_rfl) (by kernel_rfl) (by kernel_rfl) (by kernel_rfl) (by kernel_rfl) (fun _ _ _ h => h) (by rfl) ?_ (⟨fun _ => trivial, hS⟩) ?_
        rotate_left 1
        · (intro zz; go_simp; first | done | with_reducible rfl)
        (try simp only [Act.put, List.setIfInBounds_toArray, List.set_cons_zero, List.set_cons_succ])
        refine wpAnyH_pure (i := 9) (v := ?_) rfl (by kernel_rfl) (by kernel_rfl) (by kernel_rfl) (by kernel_rfl) (by kernel_rfl) (fun _ _ _ h => h) (by rfl) ?_ (⟨fun _ => trivial, hS⟩) ?_
        rotate_left 1
        · (intro zz; go_simp; first | done | with_reducible rfl)
        (try simp only [Act.put, List.setIfInBounds_toArray, List.set_cons_zero, List.set_cons_succ])
        refine wpAnyH_load2 (i := 1) (v := ?_) rfl (by kernel_rfl) (by kernel_rfl) (by kernel_rfl) (by kernel_rfl) (by kernel_rfl) (fun _ _ _ h => h) (by rfl) ?_ (⟨fun _ => trivial, hS⟩) ?_
        rotate_left 1
        · (intro zz hS2; obtain ⟨_, _, _, _, _, _⟩ := hS2; go_simp; first | done | with_reducible rfl)
        (try simp only [Act.put, List.setIfInBounds_toArray, List.set_cons_zero, List.set_cons_succ])
        refine wpAnyH_load2 (i := 4) (v := ?_) rfl (by kernel_rfl) (by kernel_rfl) (by kernel_rfl) (by kernel_rfl) (by kernel_rfl) (fun _ _ _ h => h) (by rfl) ?_ (⟨fun _ => trivial, hS⟩) ?_
        rotate_left 1
        · (intro zz hS2; obtain ⟨_, _, _, _, _, _⟩ := hS2; go_simp; first | done | with_reducible rfl)
        (try simp only [Act.put, List.setIfInBounds_toArray, List.set_cons_zero, List.set_cons_succ])
        refine wpAnyH_load2 (i := 7) (v := ?_) rfl (by kernel_rfl) (by kernel_rfl) (by kernel_rfl) (by kernel_rfl) (by kernel_rfl) (fun _ _ _ h => h) (by rfl) ?_ (⟨fun _ => trivial, hS⟩) ?_
        rotate_left 1
        · (intro zz hS2; obtain ⟨_, _, _, _, _, _⟩ := hS2; go_simp; first | done | with_reducible rfl)
        (try simp only [Act.put, List.setIfInBounds_toArray, List.set_cons_zero, List.set_cons_succ])
        refine wpAnyH_load2 (i := 10) (v := ?_) rfl (by kernel_rfl) (by kernel_rfl) (by kernel_rfl) (by kernel_rfl) (by kernel_rfl) (fun _ _ _ h => h) (by rfl) ?_ (⟨fun _ => trivial, hS⟩) ?_
        rotate_left 1
        · (intro zz hS2; obtain ⟨_, _, _, _, _, _⟩ := hS2; go_simp; first | done | with_reducible rfl)
        (try simp only [Act.put, List.setIfInBounds_toArray, List.set_cons_zero, List.set_cons_succ])
        have hq0 : Nw wq wq.drew := (Upd.refl _ wq).drew
        -- the call number 2 by the contract HA at wq.drew (behind wq by hq0): world w12, slice a1 c1, own row r1, step u12
        refine wpAnyH_one (i := 2) (by kernel_rfl) rfl (fun K hK => ?_)
        have hCC := (HA).out (wq.drew) (hq0)
        go_simp
        (with_reducible refine (hCC).mono ?_)
        rintro _ w12 ⟨a1, c1, rfl, r1, u12⟩
        have hw12 : Nw wq w12 := Nw.trans (hq0) (u12)
        have hS := HSS.out w12 hw12
        refine hK.out _ _ ⟨fun _ => trivial, hS⟩ ?_
        clear hK K
        (try simp only [Act.put, List.setIfInBounds_toArray, List.set_cons_zero, List.set_cons_succ])
        clear hCC
        -- the call number 5 by the contract HB at w12 (behind wq by hw12): world w13, slice a2 c2, own row r2, step u13
        refine wpAnyH_one (i := 5) (by kernel_rfl) rfl (fun K hK => ?_)
        have hCC := (HB).out (w12) (hw12)
        go_simp
        (with_reducible refine (hCC).mono ?_)
        rintro _ w13 ⟨a2, c2, rfl, r2, u13⟩
        have hw13 : Nw wq w13 := Nw.trans (hw12) (u13)
        have hS := HSS.out w13 hw13
        refine hK.out _ _ ⟨fun _ => trivial, hS⟩ ?_
        clear hK K
        (try simp only [Act.put, List.setIfInBounds_toArray, List.set_cons_zero, List.set_cons_succ])
        clear hCC
        -- the call number 8 by the contract HCc at w13 (behind wq by hw13): world w14, slice a3 c3, own row r3, step u14
        refine wpAnyH_one (i := 8) (by kernel_rfl) rfl (fun K hK => ?_)
        have hCC := (HCc).out (w13) (hw13)
        go_simp
        (with_reducible refine (hCC).mono ?_)
        rintro _ w14 ⟨a3, c3, rfl, r3, u14⟩
        have hw14 : Nw wq w14 := Nw.trans (hw13) (u14)
        have hS := HSS.out w14 hw14
        refine hK.out _ _ ⟨fun _ => trivial, hS⟩ ?_
        clear hK K
        (try simp only [Act.put, List.setIfInBounds_toArray, List.set_cons_zero, List.set_cons_succ])
        clear hCC
        -- the call number 11 by the contract HDc at w14 (behind wq by hw14): world w15, slice a4 c4, own row r4, step u15
        refine wpAnyH_one (i := 11) (by kernel_rfl) rfl (fun K hK => ?_)
        have hCC := (HDc).out (w14) (hw14)
        go_simp
        (with_reducible refine (hCC).mono ?_)
        rintro _ w15 ⟨a4, c4, rfl, r4, u15⟩
        have hw15 : Nw wq w15 := Nw.trans (hw14) (u15)
        have hS := HSS.out w15 hw15
        refine hK.out _ _ ⟨fun _ => trivial, hS⟩ ?_
        clear hK K
        (try simp only [Act.put, List.setIfInBounds_toArray, List.set_cons_zero, List.set_cons_succ])
        clear hCC
        have nz := nw_alloc w15 (.cells #[.slice a1 1 c1, .string ⟨#[]⟩, .bool false, .slice a2 1 c2, .string ⟨#[]⟩, .bool false, .slice a3 1 c3, .string ⟨#[]⟩, .bool false, .slice a4 1 c4, .string ⟨#[]⟩, .bool false] tAnsK)
        have kz := heap_new w15 (.cells #[.slice a1 1 c1, .string ⟨#[]⟩, .bool false, .slice a2 1 c2, .string ⟨#[]⟩, .bool false, .slice a3 1 c3, .string ⟨#[]⟩, .bool false, .slice a4 1 c4, .string ⟨#[]⟩, .bool false] tAnsK)
        obtain ⟨wz, hwz⟩ : ∃ wz, w15.alloc (.cells #[.slice a1 1 c1, .string ⟨#[]⟩, .bool false, .slice a2 1 c2, .string ⟨#[]⟩, .bool false, .slice a3 1 c3, .string ⟨#[]⟩, .bool false, .slice a4 1 c4, .string ⟨#[]⟩, .bool false] tAnsK) = wz := ⟨_, rfl⟩
        have HWZ := Lib.hid hwz
        rw [hwz] at nz kz
        have hSz := HSS.out wz (hw15.trans nz)
        refine wpAnyH_one (i := 12) (by kernel_rfl) rfl (fun K hK => ?_)
        go_simp
        (try rw [HWZ.out])
        refine hK.out _ _ ⟨fun _ => trivial, hSz⟩ ?_
        clear hK K
        (try simp only [Act.put, List.setIfInBounds_toArray, List.set_cons_zero, List.set_cons_succ])
        refine wpAnyH_pure (i := 13) (v := ?_) rfl (by kernel_rfl) (by kernel_rfl) (by kernel_rfl) (by kernel_rfl) (by kernel_rfl) (fun _ _ _ h => h) (by rfl) ?_ (⟨fun _ => trivial, hSz⟩) ?_
        rotate_left 1
        · (intro zz; go_simp; first | done | with_reducible rfl)
        (try simp only [Act.put, List.setIfInBounds_toArray, List.set_cons_zero, List.set_cons_succ])
        refine wpAnyH_done (by kernel_rfl) ?_ _
        obtain ⟨bz, hbz⟩ : ∃ bz, w15.heap.size = bz := ⟨_, rfl⟩
        have Hbz := Lib.hid hbz
        rw [hbz] at kz
        have q1 := owns_upd' r1 (u13.trans (u14.trans (u15.trans nz))) (fun _ _ e => e)
        have q2 := owns_upd' r2 (u14.trans (u15.trans nz)) (fun _ _ e => e)
        have q3 := owns_upd' r3 (u15.trans nz) (fun _ _ e => e)
        have q4 := owns_upd' r4 nz (fun _ _ e => e)
        have y12 : wq.heap.size ≤ w12.heap.size := u12.size
        have y13 := u13.size
        have y14 := u14.size
        have y15 := u15.size
        have yz := lt_of_block kz
        have y0 : wq.drew.heap.size = wq.heap.size := rfl
        have HMz : Ms w0 p key ⟨L2, b1, b2, m1, m2, []⟩ 6 (fun j => j = bz ∨ (Value.slice a1 1 c1).ownBlock = some j ∨ (Value.slice a2 1 c2).ownBlock = some j ∨ (Value.slice a3 1 c3).ownBlock = some j ∨ (Value.slice a4 1 c4).ownBlock = some j) wz := by
          refine At.keep HMq.out (hw15.trans nz) (fun j hj => Or.inr ?_)
          rcases hj with hj | hj | hj | hj | hj
          · subst hj; exact ⟨by omega, yz⟩
          · have := q1.lt j hj; exact ⟨by omega, this.2⟩
          · have := q2.lt j hj; exact ⟨by omega, this.2⟩
          · have := q3.lt j hj; exact ⟨by omega, this.2⟩
          · have := q4.lt j hj; exact ⟨by omega, this.2⟩
        have hsp := Mi.split_ok FT.out.sa FT.out.sb FT.out.sh FT.out.sk hmo1
        have hask := ms_ask HMz g0.out (Vw.VOk.nil _ _) (Nat.le_trans FT.out.n2 (by decide)) (Mi.four sa sb sh sk) (.slice (some ⟨bz, 0, none⟩) 4 4) _ (fun z' mv => four_sl (mv.keep kz (fun e => e.1 (Or.inl rfl))) (owns_upd' q1 mv (fun j hj e => e.1 (Or.inr (Or.inl hj)))) (owns_upd' q2 mv (fun j hj e => e.1 (Or.inr (Or.inr (Or.inl hj))))) (owns_upd' q3 mv (fun j hj e => e.1 (Or.inr (Or.inr (Or.inr (Or.inl hj)))))) (owns_upd' q4 mv (fun j hj e => e.1 (Or.inr (Or.inr (Or.inr (Or.inr hj))))))) (fun a ha s hs => by
          have hL := Nat.le_trans FT.out.n2 (show (100 : Nat) ≤ 900000 by decide)
          unfold Mi.four at ha
          simp only [List.mem_cons, List.not_mem_nil, or_false] at ha
          rcases ha with rfl | rfl | rfl | rfl
          · rw [List.mem_singleton.1 hs]; exact sg_ok FT.out.sa hkey hL
          · rw [List.mem_singleton.1 hs]; exact sg_ok FT.out.sb hkey hL
          · rw [List.mem_singleton.1 hs]; exact sg_ok FT.out.sh hkey hL
          · rw [List.mem_singleton.1 hs]; exact sg_ok FT.out.sk hkey hL) (by show (4 : Nat) ≤ _; decide) mo 0 (by unfold I64; omega) (by unfold I64; omega)
        dsimp only at hask
        generalize Mi.ask L2 key [] (Mi.four sa sb sh sk) = R at *
        have HSP := Lib.hid hsp
        have HASK : Hid (Calls Tryd.prog 21 #[.pointer (some ⟨p.vb, 0, none⟩), .slice (some ⟨bz, 0, none⟩) 4 4, .int .i64 mo, .int .i64 0] wz fun e z' => e = .returned (.tuple #[.agg #[.int .i64 R.old.key, .string ⟨R.old.text.toArray⟩, .int .i64 R.old.mark], .agg #[.int .i64 R.odd.key, .string ⟨R.odd.text.toArray⟩, .int .i64 R.odd.mark], .int .i64 (Mi.askE R mo 0)]) ∧ ∃ F, Ms w0 p key ⟨L2, b1, b2, m1, m2, R.L⟩ 6 F z') := by
          refine hask.mono ?_
          rintro e z' ⟨he, h, -⟩
          exact ⟨he, _, h⟩
        clear hask hsp HMz q1 q2 q3 q4 r1 r2 r3 r4 u12 u13 u14 u15 nz kz y12 y13 y14 y15 yz y0 hSz hS hq0 hw12 hw13 hw14 hw15 HA HB HCc HDc HSS HMq
        (try rw [hbz])
        clear hbz
        have hdd : ¬ (d1 = d2 ∧ ((common.length + [d1].length : Nat) : Int) = ((common.length + [d2, [49, 58, 101, 44]].length : Nat) : Int)) := fun e => by
          have := e.2
          simp at this
        by_cases hoo : o1 = o2
        · have hob : (o1 == o2) = true := by simp [hoo]
          -- split: hdd
          obtain ⟨hE, ce, de, gs, gt, hct⟩ := HSP.out.2 hdd
          rw [hE] at HASK
          have GS := Lib.hid gs
          have GT := Lib.hid gt
          have HCT := Lib.hid hct
          clear hE gs gt hct HSP
          go_wp2_with fail
          (with_reducible refine (HASK.out).mono ?_)
          rintro _ w20 ⟨rfl, F, h20⟩
          have n1 := nw_alloc w20 (ssO R.old)
          have k1 := heap_new w20 (ssO R.old)
          have s1 : (w20.alloc (ssO R.old)).heap.size = w20.heap.size + 1 := by simp
          have n2 := nw_alloc (w20.alloc (ssO R.old)) (ssO R.odd)
          have k2 := heap_new (w20.alloc (ssO R.old)) (ssO R.odd)
          rw [s1] at k2
          replace k1 := Nw.keep n2 k1
          have nr := n1.trans n2
          obtain ⟨wr2, hwr⟩ : ∃ wr2, (w20.alloc (ssO R.old)).alloc (ssO R.odd) = wr2 := ⟨_, rfl⟩
          have HWR : Hid ((w20.alloc (.cells #[.int .i64 R.old.key, .string ⟨R.old.text.toArray⟩, .int .i64 R.old.mark] tSigned)).alloc (.cells #[.int .i64 R.odd.key, .string ⟨R.odd.text.toArray⟩, .int .i64 R.odd.mark] tSigned) = wr2) := hwr
          rw [hwr] at k1 k2 nr
          obtain ⟨bx, hbx⟩ : ∃ bx, w20.heap.size = bx := ⟨_, rfl⟩
          have Hbx := Lib.hid hbx
          rw [hbx] at k1 k2
          obtain ⟨qr, er, hqr⟩ := ms_ringAt h20 (by decide)
          dsimp only at hqr
          have HQR := Lib.hid (hqr.nw nr)
          have HGR := Lib.hid (g0.out.upd (h20.nw0.trans nr))
          have HNF := Lib.hid (U0.out.trans (h20.nw0.trans nr))
          have HK1 := Lib.hid k1
          have HK2 := Lib.hid k2
          have HLN : Hid (L2.length ≤ 900000) := Nat.le_trans FT.out.n2 (by decide)
          have HO1 := Lib.hid (sg_ok GS.out hkey HLN.out)
          have HO2 := Lib.hid (sg_ok GT.out hkey HLN.out)
          have HR1 : Hid (∀ z, Nw wr2 z → Calls Tryd.prog 22 #[.string ⟨R.old.text.toArray⟩] z fun e w' => e = .returned (.tuple #[.agg #[.int .i64 ce.kind, .int .i64 ce.n, .int .i64 ce.time, .string ⟨ce.text.toArray⟩], .int .i64 0]) ∧ Nw z w') := fun z u => by
            have := read_c ⟨R.old.text.toArray⟩ R.old.text (bs_list _) (Nat.le_trans HO1.out.t (by decide)) z (HGR.out.upd u)
            rw [GS.out.read] at this
            exact this
          have HR2 : Hid (∀ z, Nw wr2 z → Calls Tryd.prog 22 #[.string ⟨R.odd.text.toArray⟩] z fun e w' => e = .returned (.tuple #[.agg #[.int .i64 de.kind, .int .i64 de.n, .int .i64 de.time, .string ⟨de.text.toArray⟩], .int .i64 0]) ∧ Nw z w') := fun z u => by
            have := read_c ⟨R.odd.text.toArray⟩ R.odd.text (bs_list _) (Nat.le_trans HO2.out.t (by decide)) z (HGR.out.upd u)
            rw [GT.out.read] at this
            exact this
          have HCn : Hid (∀ z, Nw wr2 z → Calls Tryd.prog 23 #[.agg #[.int .i64 ce.kind, .int .i64 ce.n, .int .i64 ce.time, .string ⟨ce.text.toArray⟩], .agg #[.int .i64 de.kind, .int .i64 de.n, .int .i64 de.time, .string ⟨de.text.toArray⟩]] z fun e w' => e = .returned (.bool true) ∧ Nw z w') := fun z u => by
            have := contra_c ce de ⟨ce.text.toArray⟩ ⟨de.text.toArray⟩ (bs_list _) (bs_list _) (sg_i64 GS.out) (sg_i64 GT.out) z (HGR.out.upd u)
            rw [HCT.out] at this
            exact this
          have HCv : Hid (∀ z, Nw wr2 z → Calls Tryd.prog 11 #[.pointer (some ⟨p.rb, 0, none⟩), .agg #[.int .i64 R.old.key, .string ⟨R.old.text.toArray⟩, .int .i64 R.old.mark], .agg #[.int .i64 R.odd.key, .string ⟨R.odd.text.toArray⟩, .int .i64 R.odd.mark]] z fun e w' => e = .returned (.int .i64 0) ∧ Nw z w') := fun z u => by
            have := convict_w _ qr L2 R.old R.odd z (HGR.out.upd u) (HQR.out.nw u) HO1.out HO2.out
            rw [er, Mi.Sg.convict GS.out GT.out HCT.out] at this
            exact this
          have HR1' := Lib.hid (HR1.out wr2 (Upd.refl _ _))
          clear HASK n1 n2 s1 nr hwr hqr er h20 hbx
          generalize R.old = xo at *
          generalize R.odd = yo at *
          obtain ⟨_, _, _⟩ := cell3 k1
          clear k1 k2
          go_upto_region 29 with fail
          rw [HWR.out]
          (try rw [Hbx.out])
          go_wp2_with fail
          (with_reducible refine (HR1'.out).mono ?_)
          rintro _ w21 ⟨rfl, u21⟩
          have n22 := nw_alloc w21 (.cells #[.int .i64 ce.kind, .int .i64 ce.n, .int .i64 ce.time, .string ⟨ce.text.toArray⟩] 65)
          have k22 := heap_new w21 (.cells #[.int .i64 ce.kind, .int .i64 ce.n, .int .i64 ce.time, .string ⟨ce.text.toArray⟩] 65)
          obtain ⟨w22, hw22⟩ : ∃ w22, w21.alloc (.cells #[.int .i64 ce.kind, .int .i64 ce.n, .int .i64 ce.time, .string ⟨ce.text.toArray⟩] 65) = w22 := ⟨_, rfl⟩
          have HW22 := Lib.hid hw22
          rw [hw22] at n22 k22
          obtain ⟨bc, hbc⟩ : ∃ bc, w21.heap.size = bc := ⟨_, rfl⟩
          have Hbc := Lib.hid hbc
          rw [hbc] at k22
          have HU22 : Hid (Nw wr2 w22) := u21.trans n22
          have HK22 := Lib.hid k22
          have HR2' := Lib.hid (HR2.out w22 HU22.out)
          obtain ⟨_, _, _⟩ := cell3 (Nw.keep HU22.out HK2.out)
          clear HR1 HR1' HR2 u21 n22 k22 hw22 hbc
          go_upto_region 32 with fail
          rw [HW22.out]
          (try rw [Hbc.out])
          go_wp2_with fail
          (with_reducible refine (HR2'.out).mono ?_)
          rintro _ w23 ⟨rfl, u23⟩
          have n24 := nw_alloc w23 (.cells #[.int .i64 de.kind, .int .i64 de.n, .int .i64 de.time, .string ⟨de.text.toArray⟩] 65)
          have k24 := heap_new w23 (.cells #[.int .i64 de.kind, .int .i64 de.n, .int .i64 de.time, .string ⟨de.text.toArray⟩] 65)
          obtain ⟨w24, hw24⟩ : ∃ w24, w23.alloc (.cells #[.int .i64 de.kind, .int .i64 de.n, .int .i64 de.time, .string ⟨de.text.toArray⟩] 65) = w24 := ⟨_, rfl⟩
          have HW24 := Lib.hid hw24
          rw [hw24] at n24 k24
          obtain ⟨bd, hbd⟩ : ∃ bd, w23.heap.size = bd := ⟨_, rfl⟩
          have Hbd := Lib.hid hbd
          rw [hbd] at k24
          have HU24 : Hid (Nw wr2 w24) := HU22.out.trans (u23.trans n24)
          have HCn' := Lib.hid (HCn.out w24 HU24.out)
          have kc := Nw.keep (u23.trans n24) HK22.out
          have c0 : w24.cell? ⟨bc, 0, none⟩ = some (.int .i64 ce.kind) := by rw [cells_cell kc]; rfl
          have c1 : w24.cell? ⟨bc, 1, none⟩ = some (.int .i64 ce.n) := by rw [cells_cell kc]; rfl
          have c2 : w24.cell? ⟨bc, 2, none⟩ = some (.int .i64 ce.time) := by rw [cells_cell kc]; rfl
          have c3 : w24.cell? ⟨bc, 3, none⟩ = some (.string ⟨ce.text.toArray⟩) := by rw [cells_cell kc]; rfl
          have f0 : w24.cell? ⟨bd, 0, none⟩ = some (.int .i64 de.kind) := by rw [cells_cell k24]; rfl
          have f1 : w24.cell? ⟨bd, 1, none⟩ = some (.int .i64 de.n) := by rw [cells_cell k24]; rfl
          have f2 : w24.cell? ⟨bd, 2, none⟩ = some (.int .i64 de.time) := by rw [cells_cell k24]; rfl
          have f3 : w24.cell? ⟨bd, 3, none⟩ = some (.string ⟨de.text.toArray⟩) := by rw [cells_cell k24]; rfl
          clear HR2' HCn u23 n24 k24 hw24 hbd kc
          go_upto_region 33 with fail
          rw [HW24.out]
          (try rw [Hbd.out])
          go_wp2_with fail
          (with_reducible refine (HCn'.out).mono ?_)
          rintro _ w25 ⟨rfl, u25⟩
          have HU25 : Hid (Nw wr2 w25) := HU24.out.trans u25
          obtain ⟨_, _, _⟩ := cell3 (Nw.keep HU25.out HK1.out)
          obtain ⟨_, _, _⟩ := cell3 (Nw.keep HU25.out HK2.out)
          have HCv' := Lib.hid (HCv.out w25 HU25.out)
          clear HCn' HCv u25 c0 c1 c2 c3 f0 f1 f2 f3
          go_wp2_with fail
          (with_reducible refine (HCv'.out).mono ?_)
          rintro _ w26 ⟨rfl, u26⟩
          have HU26 : Hid (Nw W w26) := HNF.out.trans (HU25.out.trans u26)
          clear HCv' u26
          go_wp2_with fail
          go_ret
          exact ⟨rfl, HU26.out⟩
        · have hob : (o1 == o2) = false := by simp [hoo]
          -- split: hdd
          obtain ⟨hE, ce, de, gs, gt, hct⟩ := HSP.out.2 hdd
          rw [hE] at HASK
          have GS := Lib.hid gs
          have GT := Lib.hid gt
          have HCT := Lib.hid hct
          clear hE gs gt hct HSP
          go_wp2_with fail
          (with_reducible refine (HASK.out).mono ?_)
          rintro _ w20 ⟨rfl, F, h20⟩
          have n1 := nw_alloc w20 (ssO R.old)
          have k1 := heap_new w20 (ssO R.old)
          have s1 : (w20.alloc (ssO R.old)).heap.size = w20.heap.size + 1 := by simp
          have n2 := nw_alloc (w20.alloc (ssO R.old)) (ssO R.odd)
          have k2 := heap_new (w20.alloc (ssO R.old)) (ssO R.odd)
          rw [s1] at k2
          replace k1 := Nw.keep n2 k1
          have nr := n1.trans n2
          obtain ⟨wr2, hwr⟩ : ∃ wr2, (w20.alloc (ssO R.old)).alloc (ssO R.odd) = wr2 := ⟨_, rfl⟩
          have HWR : Hid ((w20.alloc (.cells #[.int .i64 R.old.key, .string ⟨R.old.text.toArray⟩, .int .i64 R.old.mark] tSigned)).alloc (.cells #[.int .i64 R.odd.key, .string ⟨R.odd.text.toArray⟩, .int .i64 R.odd.mark] tSigned) = wr2) := hwr
          rw [hwr] at k1 k2 nr
          obtain ⟨bx, hbx⟩ : ∃ bx, w20.heap.size = bx := ⟨_, rfl⟩
          have Hbx := Lib.hid hbx
          rw [hbx] at k1 k2
          obtain ⟨qr, er, hqr⟩ := ms_ringAt h20 (by decide)
          dsimp only at hqr
          have HQR := Lib.hid (hqr.nw nr)
          have HGR := Lib.hid (g0.out.upd (h20.nw0.trans nr))
          have HNF := Lib.hid (U0.out.trans (h20.nw0.trans nr))
          have HK1 := Lib.hid k1
          have HK2 := Lib.hid k2
          have HLN : Hid (L2.length ≤ 900000) := Nat.le_trans FT.out.n2 (by decide)
          have HO1 := Lib.hid (sg_ok GS.out hkey HLN.out)
          have HO2 := Lib.hid (sg_ok GT.out hkey HLN.out)
          have HR1 : Hid (∀ z, Nw wr2 z → Calls Tryd.prog 22 #[.string ⟨R.old.text.toArray⟩] z fun e w' => e = .returned (.tuple #[.agg #[.int .i64 ce.kind, .int .i64 ce.n, .int .i64 ce.time, .string ⟨ce.text.toArray⟩], .int .i64 0]) ∧ Nw z w') := fun z u => by
            have := read_c ⟨R.old.text.toArray⟩ R.old.text (bs_list _) (Nat.le_trans HO1.out.t (by decide)) z (HGR.out.upd u)
            rw [GS.out.read] at this
            exact this
          have HR2 : Hid (∀ z, Nw wr2 z → Calls Tryd.prog 22 #[.string ⟨R.odd.text.toArray⟩] z fun e w' => e = .returned (.tuple #[.agg #[.int .i64 de.kind, .int .i64 de.n, .int .i64 de.time, .string ⟨de.text.toArray⟩], .int .i64 0]) ∧ Nw z w') := fun z u => by
            have := read_c ⟨R.odd.text.toArray⟩ R.odd.text (bs_list _) (Nat.le_trans HO2.out.t (by decide)) z (HGR.out.upd u)
            rw [GT.out.read] at this
            exact this
          have HCn : Hid (∀ z, Nw wr2 z → Calls Tryd.prog 23 #[.agg #[.int .i64 ce.kind, .int .i64 ce.n, .int .i64 ce.time, .string ⟨ce.text.toArray⟩], .agg #[.int .i64 de.kind, .int .i64 de.n, .int .i64 de.time, .string ⟨de.text.toArray⟩]] z fun e w' => e = .returned (.bool true) ∧ Nw z w') := fun z u => by
            have := contra_c ce de ⟨ce.text.toArray⟩ ⟨de.text.toArray⟩ (bs_list _) (bs_list _) (sg_i64 GS.out) (sg_i64 GT.out) z (HGR.out.upd u)
            rw [HCT.out] at this
            exact this
          have HCv : Hid (∀ z, Nw wr2 z → Calls Tryd.prog 11 #[.pointer (some ⟨p.rb, 0, none⟩), .agg #[.int .i64 R.old.key, .string ⟨R.old.text.toArray⟩, .int .i64 R.old.mark], .agg #[.int .i64 R.odd.key, .string ⟨R.odd.text.toArray⟩, .int .i64 R.odd.mark]] z fun e w' => e = .returned (.int .i64 0) ∧ Nw z w') := fun z u => by
            have := convict_w _ qr L2 R.old R.odd z (HGR.out.upd u) (HQR.out.nw u) HO1.out HO2.out
            rw [er, Mi.Sg.convict GS.out GT.out HCT.out] at this
            exact this
          have HR1' := Lib.hid (HR1.out wr2 (Upd.refl _ _))
          clear HASK n1 n2 s1 nr hwr hqr er h20 hbx
          generalize R.old = xo at *
          generalize R.odd = yo at *
          obtain ⟨_, _, _⟩ := cell3 k1
          clear k1 k2
          go_upto_region 29 with fail
          rw [HWR.out]
          (try rw [Hbx.out])
          go_wp2_with fail
          (with_reducible refine (HR1'.out).mono ?_)
          rintro _ w21 ⟨rfl, u21⟩
          have n22 := nw_alloc w21 (.cells #[.int .i64 ce.kind, .int .i64 ce.n, .int .i64 ce.time, .string ⟨ce.text.toArray⟩] 65)
          have k22 := heap_new w21 (.cells #[.int .i64 ce.kind, .int .i64 ce.n, .int .i64 ce.time, .string ⟨ce.text.toArray⟩] 65)
          obtain ⟨w22, hw22⟩ : ∃ w22, w21.alloc (.cells #[.int .i64 ce.kind, .int .i64 ce.n, .int .i64 ce.time, .string ⟨ce.text.toArray⟩] 65) = w22 := ⟨_, rfl⟩
          have HW22 := Lib.hid hw22
          rw [hw22] at n22 k22
          obtain ⟨bc, hbc⟩ : ∃ bc, w21.heap.size = bc := ⟨_, rfl⟩
          have Hbc := Lib.hid hbc
          rw [hbc] at k22
          have HU22 : Hid (Nw wr2 w22) := u21.trans n22
          have HK22 := Lib.hid k22
          have HR2' := Lib.hid (HR2.out w22 HU22.out)
          obtain ⟨_, _, _⟩ := cell3 (Nw.keep HU22.out HK2.out)
          clear HR1 HR1' HR2 u21 n22 k22 hw22 hbc
          go_upto_region 32 with fail
          rw [HW22.out]
          (try rw [Hbc.out])
          go_wp2_with fail
          (with_reducible refine (HR2'.out).mono ?_)
          rintro _ w23 ⟨rfl, u23⟩
          have n24 := nw_alloc w23 (.cells #[.int .i64 de.kind, .int .i64 de.n, .int .i64 de.time, .string ⟨de.text.toArray⟩] 65)
          have k24 := heap_new w23 (.cells #[.int .i64 de.kind, .int .i64 de.n, .int .i64 de.time, .string ⟨de.text.toArray⟩] 65)
          obtain ⟨w24, hw24⟩ : ∃ w24, w23.alloc (.cells #[.int .i64 de.kind, .int .i64 de.n, .int .i64 de.time, .string ⟨de.text.toArray⟩] 65) = w24 := ⟨_, rfl⟩
          have HW24 := Lib.hid hw24
          rw [hw24] at n24 k24
          obtain ⟨bd, hbd⟩ : ∃ bd, w23.heap.size = bd := ⟨_, rfl⟩
          have Hbd := Lib.hid hbd
          rw [hbd] at k24
          have HU24 : Hid (Nw wr2 w24) := HU22.out.trans (u23.trans n24)
          have HCn' := Lib.hid (HCn.out w24 HU24.out)
          have kc := Nw.keep (u23.trans n24) HK22.out
          have c0 : w24.cell? ⟨bc, 0, none⟩ = some (.int .i64 ce.kind) := by rw [cells_cell kc]; rfl
          have c1 : w24.cell? ⟨bc, 1, none⟩ = some (.int .i64 ce.n) := by rw [cells_cell kc]; rfl
          have c2 : w24.cell? ⟨bc, 2, none⟩ = some (.int .i64 ce.time) := by rw [cells_cell kc]; rfl
          have c3 : w24.cell? ⟨bc, 3, none⟩ = some (.string ⟨ce.text.toArray⟩) := by rw [cells_cell kc]; rfl
          have f0 : w24.cell? ⟨bd, 0, none⟩ = some (.int .i64 de.kind) := by rw [cells_cell k24]; rfl
          have f1 : w24.cell? ⟨bd, 1, none⟩ = some (.int .i64 de.n) := by rw [cells_cell k24]; rfl
          have f2 : w24.cell? ⟨bd, 2, none⟩ = some (.int .i64 de.time) := by rw [cells_cell k24]; rfl
          have f3 : w24.cell? ⟨bd, 3, none⟩ = some (.string ⟨de.text.toArray⟩) := by rw [cells_cell k24]; rfl
          clear HR2' HCn u23 n24 k24 hw24 hbd kc
          go_upto_region 33 with fail
          rw [HW24.out]
          (try rw [Hbd.out])
          go_wp2_with fail
          (with_reducible refine (HCn'.out).mono ?_)
          rintro _ w25 ⟨rfl, u25⟩
          have HU25 : Hid (Nw wr2 w25) := HU24.out.trans u25
          obtain ⟨_, _, _⟩ := cell3 (Nw.keep HU25.out HK1.out)
          obtain ⟨_, _, _⟩ := cell3 (Nw.keep HU25.out HK2.out)
          have HCv' := Lib.hid (HCv.out w25 HU25.out)
          clear HCn' HCv u25 c0 c1 c2 c3 f0 f1 f2 f3
          go_wp2_with fail
          (with_reducible refine (HCv'.out).mono ?_)
          rintro _ w26 ⟨rfl, u26⟩
          have HU26 : Hid (Nw W w26) := HNF.out.trans (HU25.out.trans u26)
          clear HCv' u26
          go_wp2_with fail
          go_ret
          exact ⟨rfl, HU26.out⟩
end Go.Proofs.YtkhdnfmnnapjlaaDoor
