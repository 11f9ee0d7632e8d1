/- The contract of ViewGrows. -/
import Derived.Test.YtbhpakkgghgpiaaDoorView9
import Derived.Test.YtbhpakkgghgpiaaDoorViewGr
namespace Go.Proofs.YtbhpakkgghgpiaaDoor
open Go.RowKit
set_option linter.unusedVariables false
set_option linter.unusedSimpArgs false
attribute [local irreducible] Calls

theorem mod_ok {s : Bk.Sgn} (h : Vw.Mod s) : SgnOk s := ⟨by have := h.k0; have := h.k1; unfold I64; omega, by have := h.t; omega, by have := h.m0; have := h.m1; unfold I64; omega⟩
/-- In the first loop: ring and view v, the slice of what has been signed, the view back. -/
structure Gr1 (W : World) (rb : Nat) (r2 : ViewR) (Lr : List Bk.Seal) (key : Int) (sv : Value) (S L : List Bk.Sgn) (vb : Nat) (z : World) : Prop where
  vs : VS W.heap.size (fun j => sv.ownBlock = some j ∨ r2.foot j) z rb vb Lr key L
  row : z.ownsRow W.heap.size tSigned 3 sv S.length (flatS S)
  back : ViewAt W.heap.size z r2 rb key []
  nw : Nw W z
theorem Gr1.go {W : World} {rb : Nat} {r2 : ViewR} {Lr : List Bk.Seal} {key : Int} {sv : Value} {S L : List Bk.Sgn} {vb : Nat} {z z' : World} (h : Gr1 W rb r2 Lr key sv S L vb z) (u : Nw z z') : Gr1 W rb r2 Lr key sv S L vb z' :=
  ⟨h.vs.nw u, owns_upd' h.row u (fun _ _ e => e), h.back.nw u, h.nw.trans u⟩
theorem gr1_acc {W : World} {rb : Nat} {r2 : ViewR} {Lr : List Bk.Seal} {key : Int} {sv : Value} {S L : List Bk.Sgn} {vb : Nat} {z : World} (h : Gr1 W rb r2 Lr key sv S L vb z) (g : Gl z) (s : Bk.Sgn) (hs : SgnOk s) (hL : L.length ≤ 900000) :
    Calls Tryd.prog 14 #[.pointer (some ⟨vb, 0, none⟩), .agg #[.int .i64 s.key, .string ⟨s.text.toArray⟩, .int .i64 s.mark]] z fun e w' => e = .returned (.int .i64 (Vw.accept Lr key L s).1) ∧ Gr1 W rb r2 Lr key sv S (Vw.accept Lr key L s).2 vb w' :=
  (accept_t h.vs h.nw (Nat.le_refl _) g s hs hL).mono fun e w' ⟨h1, h2, h3, h4⟩ => ⟨h1, h2, owns_upd' h.row h3 (fun k hk hn => hn (Or.inl hk)), h.back.upd h3 (fun k hk hn => hn (Or.inr hk)), h4⟩
/-- In the second loop: ring and view back, the slice of what v has accepted, v. -/
structure Gr2 (W : World) (rb : Nat) (r : ViewR) (Lr : List Bk.Seal) (key : Int) (av : Value) (L M : List Bk.Sgn) (vb2 : Nat) (z : World) : Prop where
  vs : VS W.heap.size (fun j => av.ownBlock = some j ∨ r.foot j) z rb vb2 Lr key M
  row : z.ownsRow W.heap.size tSigned 3 av L.length (flatS L)
  view : ViewAt W.heap.size z r rb key L
  nw : Nw W z
theorem Gr2.go {W : World} {rb : Nat} {r : ViewR} {Lr : List Bk.Seal} {key : Int} {av : Value} {L M : List Bk.Sgn} {vb2 : Nat} {z z' : World} (h : Gr2 W rb r Lr key av L M vb2 z) (u : Nw z z') : Gr2 W rb r Lr key av L M vb2 z' :=
  ⟨h.vs.nw u, owns_upd' h.row u (fun _ _ e => e), h.view.nw u, h.nw.trans u⟩
theorem gr2_acc {W : World} {rb : Nat} {r : ViewR} {Lr : List Bk.Seal} {key : Int} {av : Value} {L M : List Bk.Sgn} {vb2 : Nat} {z : World} (h : Gr2 W rb r Lr key av L M vb2 z) (g : Gl z) (s : Bk.Sgn) (hs : SgnOk s) (hL : M.length ≤ 900000) (hok : Vw.VOk Lr key (M ++ [s])) :
    Calls Tryd.prog 14 #[.pointer (some ⟨vb2, 0, none⟩), .agg #[.int .i64 s.key, .string ⟨s.text.toArray⟩, .int .i64 s.mark]] z fun e w' => e = .returned (.int .i64 0) ∧ Gr2 W rb r Lr key av L (M ++ [s]) vb2 w' :=
  (accept_t h.vs h.nw (Nat.le_refl _) g s hs hL).mono fun e w' ⟨h1, h2, h3, h4⟩ => by
    rw [Vw.accept_new hok] at h1 h2
    exact ⟨h1, h2, owns_upd' h.row h3 (fun k hk hn => hn (Or.inl hk)), h.view.upd h3 (fun k hk hn => hn (Or.inr hk)), h4⟩
/-- From the one to the other: Claims. -/
theorem gr_turn {W : World} {rb : Nat} {r2 : ViewR} {Lr : List Bk.Seal} {key : Int} {sv : Value} {S L : List Bk.Sgn} {vb : Nat} {z : World} (h : Gr1 W rb r2 Lr key sv S L vb z) (g : Gl z) (hL : L.length ≤ 900000) :
    Calls Tryd.prog 15 #[.pointer (some ⟨vb, 0, none⟩)] z fun e w' => ∃ a cap r, e = .returned (.slice a L.length cap) ∧ r.vb = vb ∧ Gr2 W rb r Lr key (.slice a L.length cap) L [] r2.vb w' := by
  obtain ⟨⟨q, r, rfl, rfl, h3, h4, h5, h6, h7⟩, hrow, hb, hn⟩ := h
  refine (claims_v W.heap.size r q.rb key L z g h4 (by omega)).mono ?_
  rintro e w' ⟨v', rfl, ho, u⟩
  obtain ⟨a, cap, rfl⟩ := own_sl ho
  have hWz : W.heap.size ≤ z.heap.size := hn.size
  refine ⟨a, cap, r, rfl, rfl, ⟨⟨q, r2, rfl, rfl, h3.nw u, hb.nw u, Vw.VOk.nil _ _, fun j hj e => (h7 j (Or.inr e)).2.1 hj, ?_⟩, owns_base ho hWz, h4.nw u, hn.trans u⟩⟩
  rintro j (hj | hj)
  · obtain ⟨e1, cs, e2⟩ := own_block ho hj
    exact ⟨lt_of_block e2, fun e => by have := (h3.foot_lt e).2; omega, fun e => by have := (hb.foot_lt e).2; omega⟩
  · exact ⟨Nat.lt_of_lt_of_le (h4.foot_lt hj).2 u.size, fun e => h6 j e hj, fun e => (h7 j (Or.inr e)).2.2 hj⟩
/-- Behind the signing. -/
theorem gr_start {W w1 w3 w4 : World} {q : RingR} {r r2 : ViewR} {key : Int} {l : List Vw.Say} {sv : Value} (hq : RingAt W.heap.size w1 q []) (u1 : Nw W w1) (w2 : World) (u2 : Nw w1 w2) (hr : ViewAt w1.heap.size w2 r q.rb key []) (u3 : Nw w2 w3) (hr2 : ViewAt w2.heap.size w3 r2 q.rb key []) (u4 : Nw w3 w4) {w5 : World} (hs : Sgd W.heap.size w4 q [] l l.length sv w5) (hlen : (Vw.signedL [] l).2.length = l.length) :
    Gr1 W q.rb r2 (Vw.signedL [] l).1 key sv (Vw.signedL [] l).2 [] r.vb w5 := by
  obtain ⟨q', hq', hrb, hown, u5, hf⟩ := hs
  rw [List.take_length] at hq' hown
  have s1 := u1.size
  have s2 := u2.size
  have s3 := u3.size
  have s4 := u4.size
  have hnG := hq.hb
  have hqlt : ∀ j, q.foot j → j < w1.heap.size := fun j hj => (hq.foot_lt hj).2
  have hr5 : ViewAt w1.heap.size w5 r q.rb key [] := ((hr.nw u3).nw u4).upd u5 (fun j hj e => by have := hqlt j e; have := (hr.foot_lt hj).1; omega)
  have hr25 : ViewAt w2.heap.size w5 r2 q.rb key [] := (hr2.nw u4).upd u5 (fun j hj e => by have := hqlt j e; have := (hr2.foot_lt hj).1; omega)
  have hrl : ∀ j, r.foot j → j < w2.heap.size := fun j hj => (hr.foot_lt hj).2
  have hrl2 : ∀ j, r2.foot j → j < w3.heap.size := fun j hj => (hr2.foot_lt hj).2
  have hqr : ∀ j, q'.foot j → ¬ r.foot j := fun j hj e => by
    rcases hf j hj with e2 | e2
    · have := hqlt j e2; have := (hr.foot_lt e).1; omega
    · have := hrl j e; omega
  have hqr2 : ∀ j, q'.foot j → ¬ r2.foot j := fun j hj e => by
    rcases hf j hj with e2 | e2
    · have := hqlt j e2; have := (hr2.foot_lt e).1; omega
    · have := hrl2 j e; omega
  refine ⟨⟨q', r, hrb, rfl, hq', hr5.base s1 hnG, Vw.VOk.nil _ _, hqr, ?_⟩, owns_base (by rw [hlen]; exact hown) (by omega), hr25.base (by omega) hnG, (((u1.trans u2).trans u3).trans u4).trans' u5 (fun j hj e => by have := (hq.foot_lt e).1; omega)⟩
  rintro j (hj | hj)
  · obtain ⟨e1, cs, e2⟩ := own_block hown hj
    exact ⟨lt_of_block e2, fun e => ring_row hq' hown j hj e, fun e => by have := hrl j e; omega⟩
  · exact ⟨(hr25.foot_lt hj).2, fun e => hqr2 j e hj, fun e => by have := hrl j e; have := (hr2.foot_lt hj).1; omega⟩
theorem sgn_at8 {B : Nat} {w : World} {a : Option Addr} {n cap : Nat} {L : List Bk.Sgn} {k : Nat} (h : w.ownsRow B tSigned 3 (.slice a n cap) L.length (flatS L)) (hk : k < L.length) :
    ∃ b o, a = some ⟨b, o, none⟩ ∧ w.cell? ⟨b, o + k * 3, none⟩ = some (.int .i64 L[k].key) ∧ w.cell? ⟨b, o + k * 3 + 1, none⟩ = some (.string ⟨L[k].text.toArray⟩) ∧ w.cell? ⟨b, o + k * 3 + 2, none⟩ = some (.int .i64 L[k].mark) := by
  obtain ⟨a', cap', e, _, hc⟩ := sgn_cells (sgn_sls h)
  obtain ⟨rfl, _, _⟩ : a = a' ∧ n = L.length ∧ cap = cap' := by simpa using e
  rcases hc with hnil | ⟨b, o, rfl, _, _, hc⟩
  · simp [hnil] at hk
  · exact ⟨b, o, rfl, (hc k hk).1, (hc k hk).2.1, (hc k hk).2.2⟩
theorem valid_ok {key : Int} {Lr : List Bk.Seal} {s : Bk.Sgn} (hk : Bk.isKey key = true) (hl : Lr.length ≤ 1000000) (h1 : Bk.valid Lr s = true) (h2 : s.key = key) (h3 : Vw.isLog s.text = true) : SgnOk s := by
  have hk2 : 0 ≤ key ∧ key < 200 := by unfold Bk.isKey at hk; simpa using hk
  have hm := Vw.valid_lt h1
  obtain ⟨l1, l2, _⟩ := Vw.log_spec h3
  have ht := text_len8 (Vw.claimOf s) (log_bounds h3).1
  rw [l2] at ht
  exact ⟨by rw [h2]; unfold I64; omega, by omega, by unfold I64; omega⟩
set_option maxHeartbeats 8000000 in
set_option maxRecDepth 100000 in
theorem grows_c (l : List Vw.Say) (v : Value) (key n now : Int) (name : List UInt8) (W : World) (g : Gl W) (hv : SlS 7 0 W.heap.size W v (l.map sayL)) (ho : ∀ x ∈ l, SayOk x) (hkey : I64 key) (hn : I64 n) (hname : name.length ≤ 9223372036854775807) (hnow : I64 now) :
    Calls Tryd.prog 3 #[v, .int .i64 key, .int .i64 n, .string ⟨name.toArray⟩, .int .i64 now] W fun e w' => e = .returned (.bool true) ∧ Nw W w' := by
  have hgb := g.big
  obtain ⟨a0, cap0, rfl, hm0, _⟩ := say_cells hv
  unfold maxLen at hm0
  have Hho := Lib.hid ho
  have Hv := Lib.hid hv
  clear ho hv
  go_enter Tryd.func3, Tryd.ntmps3
  go_wp2_with fail
  (with_reducible refine (small_v _ g).mono ?_)
  rintro _ w0 ⟨rfl, u0⟩
  have g0 := g.upd u0
  go_wp2_with fail
  (with_reducible refine (new_s _ g0).mono ?_)
  rintro _ w1 ⟨q, rfl, hq, u1⟩
  have U1 := u0.trans u1
  have hq := hq.base8 u0.size hgb
  have g1 := g.upd U1
  go_wp2_with fail
  (with_reducible refine (new_v q.rb key _ g1).mono ?_)
  rintro _ w2 hnv
  rcases hnv with ⟨hkk, r, rfl, hr, u2⟩ | ⟨hkk, rfl, u2⟩
  rotate_left
  · have hk2 : key < 0 ∨ 200 ≤ key := by unfold Bk.isKey at hkk; rw [← Bool.not_eq_true] at hkk; simp at hkk; omega
    have U2 := U1.trans u2
    have Hk2 := Lib.hid hk2
    clear hk2
    go_wp2_with fail
    (with_reducible refine (new_v q.rb key _ (g.upd U2)).mono ?_)
    rintro _ w3 hnv
    rcases hnv with ⟨hkk', _⟩ | ⟨_, rfl, u3⟩
    · rw [hkk] at hkk'; cases hkk'
    have U3 := U2.trans u3
    clear hkk
    go_wp2_with fail
    (with_reducible refine (few_w 0 W.heap.size _ l _ (Hv.out.nw U3) Hho.out).mono ?_)
    rintro _ w4 ⟨f, rfl, _, u4⟩
    have U4 := U3.trans u4
    cases f with
    | true =>
      by_cases h300 : name.length ≤ 300
      all_goals rcases Hk2.out with hk2 | hk2
      all_goals go_wp2_with fail
      all_goals go_ret
      all_goals exact ⟨rfl, U4⟩
    | false =>
      rcases Hk2.out with hk2 | hk2
      all_goals go_wp2_with fail
      all_goals go_ret
      all_goals exact ⟨rfl, U4⟩
  have U2 := U1.trans u2
  have g2 := g.upd U2
  go_wp2_with fail
  (with_reducible refine (new_v q.rb key _ g2).mono ?_)
  rintro _ w3 hnv
  rcases hnv with ⟨_, r2, rfl, hr2, u3⟩ | ⟨hkk', _⟩
  rotate_left
  · rw [hkk] at hkk'; cases hkk'
  have U3 := U2.trans u3
  have g3 := g.upd U3
  go_wp2_with fail
  (with_reducible refine (few_w 0 W.heap.size _ l _ (Hv.out.nw U3) Hho.out).mono ?_)
  rintro _ w4 ⟨f, rfl, hf, u4⟩
  have U4 := U3.trans u4
  have g4 := g.upd U4
  cases f with
  | false =>
    clear hf
    go_wp2_with fail
    go_ret
    exact ⟨rfl, U4⟩
  | true =>
  by_cases h300 : name.length ≤ 300
  rotate_left
  · clear hf
    go_wp2_with fail
    go_ret
    exact ⟨rfl, U4⟩
  obtain ⟨hl20, hl300⟩ := hf rfl
  have Hl300 := Lib.hid hl300
  have Hl20 := Lib.hid hl20
  clear hf hl300
  have hfacts := Vw.signed_facts (Lr := []) List.nodup_nil (l := l) (by simp; omega) (fun x hx => words_len (Hho.out x hx) (Hl300.out x hx).1)
  obtain ⟨f1, f2, f3, f4⟩ := hfacts
  have hLr := Lib.hid f1
  have F3 := Lib.hid f3
  have F4 := Lib.hid f4
  clear f1 f2 f3 f4
  have hsg := signed_w W.heap.size 0 W.heap.size q [] _ l w4 g4 (((hq.nw u2).nw u3).nw u4) (Hv.out.nw U4) (Nat.le_refl _) Hho.out (fun x hx => (Hl300.out x hx).1) hl20 (by decide)
  have Hsg := Lib.hid hsg
  clear hsg hl20
  go_wp2_with fail
  (with_reducible refine (Hsg.out).mono ?_)
  rintro _ w5 ⟨sv, rfl, hs5⟩
  have G := gr_start hq U1 w2 u2 hr u3 hr2 u4 hs5 F3.out
  have hlenS := F3.out
  have h20 := Hl20.out
  have HKey := Lib.hid hkk
  have HLr : Hid ((Vw.signedL [] l).1.length ≤ 1000000) := by show _ ≤ _; have h1 := hLr.out; simp only [List.length_nil] at h1; omega
  clear hLr hs5 hr hr2 hq Hsg hkk
  generalize Vw.signedL [] l = SL at *
  obtain ⟨Lr, S⟩ := SL
  dsimp only at G F3 F4 hlenS
  obtain ⟨asl, caps, hsv⟩ := own_sl G.row
  subst hsv
  have hS20 : S.length ≤ 20 := by omega
  have HG := Lib.hid G
  have HN := Lib.hid hn
  clear G hlenS h20 hn
  generalize r.vb = vb at *
  go_wp2_with fail
  go_loopw [16] (fun i wr => ∃ k : Nat, k ≤ S.length ∧ i = .int .i64 k ∧ Hid (∃ L, L.length ≤ k ∧ Gr1 W q.rb r2 Lr key (.slice asl S.length caps) S L vb wr)) (fun i _ => S.length - (intOf i).toNat)
  case atStart => exact ⟨0, Nat.zero_le _, rfl, [], Nat.le_refl _, HG.out⟩
  case round =>
    obtain ⟨k, hk, rfl, HR⟩ := hrel
    obtain ⟨L, hLk, G⟩ := HR.out
    have hL9 : L.length ≤ 900000 := by omega
    have gw := g.upd G.nw
    by_cases hlt : k < S.length
    · obtain ⟨b, o, rfl, d0, d1, d2⟩ := sgn_at8 G.row hlt
      have hso := mod_ok (F4.out S[k] (List.getElem_mem hlt))
      have hcell := fun (z : World) (u : Nw wr z) => sgn_at8 (G.go u).row hlt
      have hgr := Vw.grow G.vs.ok S[k]
      have hG := Lib.hid G
      generalize S[k] = x at *
      have Hgr := Lib.hid hgr
      have Hcell := Lib.hid hcell
      have HL9 := Lib.hid hL9
      have Hso := Lib.hid hso
      clear d0 d1 d2 hgr hcell G hL9 hso
      go_wp2_with fail
      (with_reducible refine (size_t hG.out.vs).mono ?_)
      rintro _ x1 ⟨rfl, v1⟩
      have G1 := Lib.hid (hG.out.go v1)
      go_wp2_with fail
      (with_reducible refine (text_t G1.out.vs n HN.out).mono ?_)
      rintro _ x2 ⟨rfl, v2⟩
      have G2 := Lib.hid (G1.out.go v2)
      go_wp2_with fail
      (with_reducible refine (absent_t G2.out.vs name (by omega)).mono ?_)
      rintro _ x3 ⟨rfl, v3⟩
      have G3 := Lib.hid (G2.out.go v3)
      go_wp2_with fail
      (with_reducible refine (known_t G3.out.vs n HN.out HL9.out).mono ?_)
      rintro _ x4 ⟨rfl, v4⟩
      have G4 := Lib.hid (G3.out.go v4)
      obtain ⟨b', o', eb, d0, d1, d2⟩ := Hcell.out x4 (((v1.trans v2).trans v3).trans v4)
      obtain ⟨rfl, rfl⟩ : b = b' ∧ o = o' := by simpa using eb
      clear eb
      go_wp2_with fail
      (with_reducible refine (gr1_acc G4.out (g.upd G4.out.nw) x Hso.out HL9.out).mono ?_)
      rintro _ x5 ⟨rfl, G5⟩
      have hL5 : (Vw.accept Lr key L x).2.length ≤ k + 1 := Nat.le_trans (Vw.accept_len Lr key L x) (by omega)
      have hgr := Hgr.out
      have t1 := hgr.time
      have t2 := hgr.text n
      have t3 := hgr.absent name
      have t4 := hgr.known n
      generalize (Vw.accept Lr key L x).1 = ac at *
      generalize (Vw.accept Lr key L x).2 = L' at *
      have H5 := Lib.hid G5
      have HL5 := Lib.hid hL5
      clear Hgr hgr G5 hL5 d0 d1 d2
      go_wp2_with fail
      (with_reducible refine (size_t H5.out.vs).mono ?_)
      rintro _ x6 ⟨rfl, v6⟩
      have G6 := Lib.hid (H5.out.go v6)
      go_wp2_with fail
      (with_reducible refine (text_t G6.out.vs n HN.out).mono ?_)
      rintro _ x7 ⟨rfl, v7⟩
      have G7 := Lib.hid (G6.out.go v7)
      go_wp2_with fail
      (with_reducible refine (absent_t G7.out.vs name (by omega)).mono ?_)
      rintro _ x8 ⟨rfl, v8⟩
      have G8 := Lib.hid (G7.out.go v8)
      have hkt := known_t G8.out.vs n HN.out (by have := HL5.out; omega)
      generalize Vw.sizeOf L = z1 at *
      generalize Vw.sizeOf L' = z2 at *
      generalize Vw.textAt L n = y1 at *
      generalize Vw.textAt L' n = y2 at *
      generalize Vw.absentOf L name = p1 at *
      generalize Vw.absentOf L' name = p2 at *
      generalize Vw.known L n = k1 at *
      generalize Vw.known L' n = k2 at *
      have Hkt := Lib.hid hkt
      have T2 := Lib.hid t2
      have T3 := Lib.hid t3
      have T4 := Lib.hid t4
      clear hkt t2 t3 t4
      obtain ⟨z1n, z1t⟩ := z1
      obtain ⟨z2n, z2t⟩ := z2
      obtain ⟨y1t, y1b⟩ := y1
      obtain ⟨y2t, y2b⟩ := y2
      obtain ⟨p1n, p1b⟩ := p1
      obtain ⟨p2n, p2b⟩ := p2
      dsimp only at t1
      have ht1 : ¬ z2t < z1t := by omega
      clear t1
      cases y1b with
      | true =>
        obtain ⟨rfl, rfl⟩ : y2t = y1t ∧ y2b = true := by simpa using T2.out rfl
        clear T2
        cases p1b with
        | true =>
          obtain ⟨h3, h4⟩ := T3.out rfl
          dsimp only at h3 h4
          subst h3
          have h5 : ¬ p2n < p1n := by omega
          clear T3 h4
          cases k1 with
          | false =>
            go_wp2_with fail
            go_roundw
            case rel => exact ⟨k + 1, by omega, by go_num, L', HL5.out, G8.out⟩
            case measure => simp [intOf]; omega
          | true =>
            obtain rfl : k2 = true := T4.out rfl
            go_wp2_with fail
            (with_reducible refine (Hkt.out).mono ?_)
            rintro _ x9 ⟨rfl, v9⟩
            go_wp2_with fail
            go_roundw
            case rel => exact ⟨k + 1, by omega, by go_num, L', HL5.out, G8.out.go v9⟩
            case measure => simp [intOf]; omega
        | false =>
          clear T3
          cases k1 with
          | false =>
            go_wp2_with fail
            go_roundw
            case rel => exact ⟨k + 1, by omega, by go_num, L', HL5.out, G8.out⟩
            case measure => simp [intOf]; omega
          | true =>
            obtain rfl : k2 = true := T4.out rfl
            go_wp2_with fail
            (with_reducible refine (Hkt.out).mono ?_)
            rintro _ x9 ⟨rfl, v9⟩
            go_wp2_with fail
            go_roundw
            case rel => exact ⟨k + 1, by omega, by go_num, L', HL5.out, G8.out.go v9⟩
            case measure => simp [intOf]; omega
      | false =>
        clear T2
        cases p1b with
        | true =>
          obtain ⟨h3, h4⟩ := T3.out rfl
          dsimp only at h3 h4
          subst h3
          have h5 : ¬ p2n < p1n := by omega
          clear T3 h4
          cases k1 with
          | false =>
            go_wp2_with fail
            go_roundw
            case rel => exact ⟨k + 1, by omega, by go_num, L', HL5.out, G8.out⟩
            case measure => simp [intOf]; omega
          | true =>
            obtain rfl : k2 = true := T4.out rfl
            go_wp2_with fail
            (with_reducible refine (Hkt.out).mono ?_)
            rintro _ x9 ⟨rfl, v9⟩
            go_wp2_with fail
            go_roundw
            case rel => exact ⟨k + 1, by omega, by go_num, L', HL5.out, G8.out.go v9⟩
            case measure => simp [intOf]; omega
        | false =>
          clear T3
          cases k1 with
          | false =>
            go_wp2_with fail
            go_roundw
            case rel => exact ⟨k + 1, by omega, by go_num, L', HL5.out, G8.out⟩
            case measure => simp [intOf]; omega
          | true =>
            obtain rfl : k2 = true := T4.out rfl
            go_wp2_with fail
            (with_reducible refine (Hkt.out).mono ?_)
            rintro _ x9 ⟨rfl, v9⟩
            go_wp2_with fail
            go_roundw
            case rel => exact ⟨k + 1, by omega, by go_num, L', HL5.out, G8.out.go v9⟩
            case measure => simp [intOf]; omega
    · obtain rfl : k = S.length := by omega
      have hvok := G.vs.ok
      have HG1 := Lib.hid G
      have hL20 : L.length ≤ 20 := by omega
      clear G
      go_wp2_with fail
      (with_reducible refine (gr_turn HG1.out gw hL9).mono ?_)
      rintro _ x1 ⟨aa, capa, r, rfl, rfl, T1⟩
      have HT1 := Lib.hid T1
      have Hvok := Lib.hid hvok
      clear T1 HR HG1 hL9 hvok gw
      generalize r2.vb = vb2 at *
      go_wp2_with fail
      go_loopw [31] (fun i wr => ∃ k : Nat, k ≤ L.length ∧ i = .int .i64 k ∧ Gr2 W q.rb r Lr key (.slice aa L.length capa) L (L.reverse.take k) vb2 wr) (fun i _ => L.length - (intOf i).toNat)
      case atStart => exact ⟨0, Nat.zero_le _, rfl, HT1.out⟩
      case round =>
        obtain ⟨k, hk, rfl, T⟩ := hrel
        have gw := g.upd T.nw
        by_cases hlt : k < L.length
        · have hrev : L.reverse.take (k + 1) = L.reverse.take k ++ [L[L.length - 1 - k]] := by
            rw [List.take_succ_eq_append_getElem (by simpa using hlt)]
            simp
          have hok : Vw.VOk Lr key (L.reverse.take k ++ [L[L.length - 1 - k]]) := by
            rw [← hrev]
            exact Vw.VOk.pre (M := L.reverse.drop (k + 1)) (by rw [List.take_append_drop]; exact Hvok.out.perm (List.reverse_perm L).symm)
          obtain ⟨b, o, rfl, d0, d1, d2⟩ := sgn_at8 T.row (show L.length - 1 - k < L.length by omega)
          have hmod : SgnOk L[L.length - 1 - k] := by
            obtain ⟨h1, h2, h3⟩ := Hvok.out.each L[L.length - 1 - k] (List.getElem_mem _)
            exact valid_ok HKey.out HLr.out h1 h2 h3
          have HTT := Lib.hid T
          have Hok := Lib.hid hok
          have Hrev := Lib.hid hrev
          have Hmod := Lib.hid hmod
          have hidx : ((L.length - 1 - k : Nat) : Int) = (L.length : Int) - 1 - k := by omega
          have hidx2 : ((L.length : Int) - 1 - (k : Int)).toNat = L.length - 1 - k := by omega
          have hidx3 : ¬ ((L.length : Int) - 1 - (k : Int) < 0) := by omega
          have hidx4 : (L.length : Int) - 1 - (k : Int) < L.length := by omega
          have hM9 : (L.reverse.take k).length ≤ 900000 := by rw [List.length_take]; omega
          have HM9 := Lib.hid hM9
          clear T hok hrev hmod hM9
          generalize L[L.length - 1 - k] = x at *
          go_wp2_with fail
          (with_reducible refine (gr2_acc HTT.out gw x Hmod.out HM9.out Hok.out).mono ?_)
          rintro _ x2 ⟨rfl, T2⟩
          have HT2 := Lib.hid T2
          clear T2
          go_wp2_with fail
          go_roundw
          case rel => exact ⟨k + 1, by omega, by go_num, by rw [Hrev.out]; exact HT2.out⟩
          case measure => simp [intOf]; omega
        · obtain rfl : k = L.length := by omega
          have hrv : L.reverse.take L.length = L.reverse := by rw [List.take_of_length_le (by simp)]
          rw [hrv] at T
          have hp : L.Perm L.reverse := (List.reverse_perm L).symm
          have e1 := Vw.size_perm Hvok.out hp
          have e2 := Vw.text_perm Hvok.out hp n
          have e3 := Vw.absent_perm hp name
          have e4 := Vw.known_perm Hvok.out hp n
          have e5 := Vw.age_perm Hvok.out hp now
          have HT := Lib.hid T
          clear T hp hrv HT1
          have hLM : L.reverse.length ≤ 900000 := by rw [List.length_reverse]; omega
          generalize L.reverse = M at *
          have h1 := fun z (u : Nw wr z) => size_v W.heap.size r q.rb key L z (HT.out.go u).view
          have h2 := fun z (u : Nw wr z) => size_t (HT.out.go u).vs
          have h3 := fun z (u : Nw wr z) => text_v W.heap.size r q.rb key L z Hvok.out n HN.out (HT.out.go u).view
          have h4 := fun z (u : Nw wr z) => text_t (HT.out.go u).vs n HN.out
          have h5 := fun z (u : Nw wr z) => absent_v W.heap.size r q.rb key L z Hvok.out name (by omega) (HT.out.go u).view
          have h6 := fun z (u : Nw wr z) => absent_t (HT.out.go u).vs name (by omega)
          have h7 := fun z (u : Nw wr z) => known_v W.heap.size r q.rb key L z Hvok.out n HN.out (HT.out.go u).view (by omega)
          have h8 := fun z (u : Nw wr z) => known_t (HT.out.go u).vs n HN.out (by have := hLM; omega)
          have h9 := fun z (u : Nw wr z) => age_v W.heap.size r q.rb key L z now hnow (HT.out.go u).view (size_time Hvok.out).2.1
          have h10 := fun z (u : Nw wr z) => age_t (HT.out.go u).vs now hnow
          rw [e1] at h2
          rw [e2] at h4
          rw [e3] at h6
          rw [e4] at h8
          rw [e5] at h10
          have H1 := Lib.hid h1
          have H2 := Lib.hid h2
          have H3 := Lib.hid h3
          have H4 := Lib.hid h4
          have H5 := Lib.hid h5
          have H6 := Lib.hid h6
          have H7 := Lib.hid h7
          have H8 := Lib.hid h8
          have H9 := Lib.hid h9
          have H10 := Lib.hid h10
          clear h1 h2 h3 h4 h5 h6 h7 h8 h9 h10 e1 e2 e3 e4 e5
          generalize Vw.sizeOf L = z1 at *
          generalize Vw.textAt L n = y1 at *
          generalize Vw.absentOf L name = p1 at *
          generalize Vw.known L n = k1 at *
          generalize Vw.age L now = a1 at *
          obtain ⟨z1n, z1t⟩ := z1
          obtain ⟨y1t, y1b⟩ := y1
          obtain ⟨p1n, p1b⟩ := p1
          dsimp only at H1 H2 H3 H4 H5 H6
          go_wp2_with fail
          (with_reducible refine (H1.out _ (Upd.refl _ _)).mono ?_)
          rintro _ y1 ⟨rfl, v1⟩
          go_wp2_with fail
          (with_reducible refine (H2.out _ v1).mono ?_)
          rintro _ y2 ⟨rfl, v2⟩
          replace v2 := v1.trans v2
          go_wp2_with fail
          (with_reducible refine (H3.out _ v2).mono ?_)
          rintro _ y3 ⟨rfl, v3⟩
          replace v3 := v2.trans v3
          go_wp2_with fail
          (with_reducible refine (H4.out _ v3).mono ?_)
          rintro _ y4 ⟨rfl, v4⟩
          replace v4 := v3.trans v4
          go_wp2_with fail
          (with_reducible refine (H5.out _ v4).mono ?_)
          rintro _ y5 ⟨rfl, v5⟩
          replace v5 := v4.trans v5
          go_wp2_with fail
          (with_reducible refine (H6.out _ v5).mono ?_)
          rintro _ y6 ⟨rfl, v6⟩
          replace v6 := v5.trans v6
          go_wp2_with fail
          (with_reducible refine (H7.out _ v6).mono ?_)
          rintro _ y7 ⟨rfl, v7⟩
          replace v7 := v6.trans v7
          go_wp2_with fail
          (with_reducible refine (H8.out _ v7).mono ?_)
          rintro _ y8 ⟨rfl, v8⟩
          replace v8 := v7.trans v8
          go_wp2_with fail
          (with_reducible refine (H9.out _ v8).mono ?_)
          rintro _ y9 ⟨rfl, v9⟩
          replace v9 := v8.trans v9
          go_wp2_with fail
          (with_reducible refine (H10.out _ v9).mono ?_)
          rintro _ y10 ⟨rfl, v10⟩
          replace v10 := v9.trans v10
          go_wp2_with fail
          go_ret
          exact ⟨rfl, HT.out.nw.trans v10⟩
end Go.Proofs.YtbhpakkgghgpiaaDoor
