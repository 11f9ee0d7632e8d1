/- The contract of ViewKeeps. -/
import Derived.Test.YtidmehiboceobaaGreatDoorView9
import Derived.Test.YtidmehiboceobaaGreatDoorVBytes
import Derived.Test.YtidmehiboceobaaGreatDoorViewKp
import Derived.Deep.CutRange
namespace Go.Proofs.YtidmehiboceobaaGreatDoor
open Go.RowKit
set_option linter.unusedVariables false
set_option linter.unusedSimpArgs false
attribute [local irreducible] Calls

theorem mod_ok (s : Bk.Sgn) (h : Vw.Mod s) : SgnOk s := ⟨by have := h.k0; have := h.k1; unfold I64; omega, by have := h.t; omega, by have := h.m0; have := h.m1; unfold I64; omega⟩
theorem valid_ok {key : Int} {Lr : List Bk.Seal} {s : Bk.Sgn} (hk : Bk.isKey key = true) (hl : Lr.length ≤ 1000000) (h1 : Bk.valid Lr s = true) (h2 : s.key = key) (h3 : Vw.isLog s.text = true) : SgnOk s ∧ s.text.length ≤ 100000 := by
  have hk2 : 0 ≤ key ∧ key < 200 := by unfold Bk.isKey at hk; simpa using hk
  have hm := Vw.valid_lt h1
  obtain ⟨l1, l2, _⟩ := Vw.log_spec h3
  have ht := text_len8 (Vw.claimOf s) (log_bounds h3).1
  rw [l2] at ht
  exact ⟨⟨by rw [h2]; unfold I64; omega, by omega, by unfold I64; omega⟩, by omega⟩
theorem sgn_at8 {B : Nat} {w : World} {a : Option Addr} {n cap : Nat} {L : List Bk.Sgn} {k : Nat} (h : w.ownsRow B tSigned 3 (.slice a n cap) L.length (flatS L)) (hk : k < L.length) :
    ∃ b o, a = some ⟨b, o, none⟩ ∧ w.cell? ⟨b, o + k * 3, none⟩ = some (.int .i64 L[k].key) ∧ w.cell? ⟨b, o + k * 3 + 1, none⟩ = some (.string ⟨L[k].text.toArray⟩) ∧ w.cell? ⟨b, o + k * 3 + 2, none⟩ = some (.int .i64 L[k].mark) := by
  obtain ⟨a', cap', e, _, hc⟩ := sgn_cells (sgn_sls h)
  obtain ⟨rfl, _, _⟩ : a = a' ∧ n = L.length ∧ cap = cap' := by simpa using e
  rcases hc with hnil | ⟨b, o, rfl, _, _, hc⟩
  · simp [hnil] at hk
  · exact ⟨b, o, rfl, (hc k hk).1, (hc k hk).2.1, (hc k hk).2.2⟩
/-- Ring and view, the slice of what has been signed, the round's boxes. -/
structure Kp (W : World) (rb : Nat) (Lr : List Bk.Seal) (key : Int) (sv : Value) (S L : List Bk.Sgn) (vb : Nat) (bx : List (Nat × Obj)) (z : World) : Prop where
  vs : VS W.heap.size (fun j => sv.ownBlock = some j ∨ ∃ p ∈ bx, p.1 = j) z rb vb Lr key L
  row : z.ownsRow W.heap.size tSigned 3 sv S.length (flatS S)
  nw : Nw W z
  bxs : ∀ p ∈ bx, z.heap[p.1]? = some p.2
section
variable {W : World} {rb : Nat} {Lr : List Bk.Seal} {key : Int} {sv : Value} {S L : List Bk.Sgn} {vb : Nat} {bx : List (Nat × Obj)} {z z' : World}
theorem Kp.go (h : Kp W rb Lr key sv S L vb bx z) (u : Nw z z') : Kp W rb Lr key sv S L vb bx z' :=
  ⟨h.vs.nw u, owns_upd' h.row u (fun _ _ e => e), h.nw.trans u, fun p hp => Nw.keep u (h.bxs p hp)⟩
theorem Kp.at (h : Kp W rb Lr key sv S L vb bx z) (i : Nat) {p : Nat × Obj} (hi : bx[i]? = some p) : z.heap[p.1]? = some p.2 := h.bxs p (List.mem_of_getElem? hi)
theorem Kp.drop (h : Kp W rb Lr key sv S L vb bx z) : Kp W rb Lr key sv S L vb [] z :=
  ⟨h.vs.less (fun j hj => hj.elim Or.inl (fun ⟨p, hp, _⟩ => by cases hp)), h.row, h.nw, fun p hp => by cases hp⟩
theorem Kp.box (h : Kp W rb Lr key sv S L vb bx z) (o : Obj) : Kp W rb Lr key sv S L vb ((z.heap.size, o) :: bx) (z.alloc o) := by
  obtain ⟨⟨q, r, h1, h2, h3, h4, h5, h6, h7⟩, hr, hn, hb⟩ := h
  refine ⟨⟨q, r, h1, h2, h3.nw (nw_alloc z o), h4.nw (nw_alloc z o), h5, h6, ?_⟩, owns_upd' hr (nw_alloc z o) (fun _ _ e => e), hn.alloc o, fun p hp => ?_⟩
  · rintro j (hj | ⟨p, hp, rfl⟩)
    · have := h7 j (Or.inl hj)
      exact ⟨by simp; omega, this.2⟩
    · rcases List.mem_cons.1 hp with rfl | hp
      · refine ⟨by simp, fun e => ?_, fun e => ?_⟩
        · have := (h3.foot_lt e).2; dsimp only at this; omega
        · have := (h4.foot_lt e).2; dsimp only at this; omega
      · have := h7 p.1 (Or.inr ⟨p, hp, rfl⟩)
        exact ⟨by simp; omega, this.2⟩
  · rcases List.mem_cons.1 hp with rfl | hp
    · exact heap_new z o
    · exact Nw.keep (nw_alloc z o) (hb p hp)
theorem kp_acc (h : Kp W rb Lr key sv S L vb bx z) (g : Gl z) (s : Bk.Sgn) (hs : SgnOk s) (hL : L.length ≤ 900000) :
    Calls Tryz.prog 14 #[.pointer (some ⟨vb, 0, none⟩), .agg #[.int .i64 s.key, .string ⟨s.text.toArray⟩, .int .i64 s.mark]] z fun e w' => e = .returned (.int .i64 (Vw.accept Lr key L s).1) ∧ Kp W rb Lr key sv S (Vw.accept Lr key L s).2 vb bx w' :=
  (accept_t h.vs h.nw (Nat.le_refl _) g s hs hL).mono fun e w' ⟨h1, h2, h3, h4⟩ => ⟨h1, h2, owns_upd' h.row h3 (fun k hk hn => hn (Or.inl hk)), h4, fun p hp => h3.keep (h.bxs p hp) (fun e => e (Or.inr ⟨p, hp, rfl⟩))⟩
theorem kp_clash (h : Kp W rb Lr key sv S L vb bx z) (g : Gl z) (s : Bk.Sgn) (hs : SgnOk s) (hL : L.length ≤ 900000) :
    Calls Tryz.prog 12 #[.pointer (some ⟨vb, 0, none⟩), .agg #[.int .i64 s.key, .string ⟨s.text.toArray⟩, .int .i64 s.mark]] z fun e w' => e = .returned (.tuple #[.agg #[.int .i64 (Vw.clash L s).1.key, .string ⟨(Vw.clash L s).1.text.toArray⟩, .int .i64 (Vw.clash L s).1.mark], .bool (Vw.clash L s).2]) ∧ Kp W rb Lr key sv S L vb bx w' :=
  (clash_t h.vs g s hs hL).mono fun e w' ⟨h1, h2⟩ => ⟨h1, h.go h2⟩
theorem kp_bytes (h : Kp W rb Lr key sv S L vb bx z) (g : Gl z) (hLr : Lr.length ≤ 1000000) (hL : L.length ≤ 900000) :
    Calls Tryz.prog 13 #[.pointer (some ⟨vb, 0, none⟩)] z fun e w' => e = .returned (.string ⟨(Vw.bytesOf key L).toArray⟩) ∧ Kp W rb Lr key sv S L vb bx w' := by
  have hk := h.vs.keyOk
  have hv := h.vs.ok
  have hg := fun z' (u : Nw z z') => h.go u
  obtain ⟨⟨q, r, rfl, rfl, h3, h4, h5, h6, h7⟩, hr, hn, hb⟩ := h
  exact (bytes_v _ r q.rb key L z g h4 (fun s hs => valid_ok hk hLr (hv.each s hs).1 (hv.each s hs).2.1 (hv.each s hs).2.2) hL).mono fun e w' ⟨h1, h2⟩ => ⟨h1, hg w' h2⟩
theorem kp_valid (h : Kp W rb Lr key sv S L vb bx z) (g : Gl z) (s : Bk.Sgn) (hs : SgnOk s) :
    Calls Tryz.prog 15 #[.pointer (some ⟨rb, 0, none⟩), .agg #[.int .i64 s.key, .string ⟨s.text.toArray⟩, .int .i64 s.mark]] z fun e w' => e = .returned (.bool (Bk.valid Lr s)) ∧ Kp W rb Lr key sv S L vb bx w' := by
  have hg := fun z' (u : Nw z z') => h.go u
  obtain ⟨⟨q, r, rfl, rfl, h3, h4, h5, h6, h7⟩, hr, hn, hb⟩ := h
  exact (valid_s _ q Lr s z g h3 hs).mono fun e w' ⟨h1, h2⟩ => ⟨h1, hg w' h2⟩
def erI (ok : Bool) : Int := if ok then 0 else 2
theorem kp_read (h : Kp W rb Lr key sv S L vb bx z) (g : Gl z) (t : List UInt8) (ht : t.length ≤ 9223372036854775807) {c : Cl.Clm} {ok : Bool} (e : Cl.read t = (c, ok)) :
    Calls Tryz.prog 11 #[.string ⟨t.toArray⟩] z fun e w' => e = .returned (.tuple #[.agg #[.int .i64 c.kind, .int .i64 c.n, .int .i64 c.time, .string ⟨c.text.toArray⟩], .int .i64 (erI ok)]) ∧ Kp W rb Lr key sv S L vb bx w' := by
  refine (read_c ⟨t.toArray⟩ t (bs_list _) ht z g).mono fun e' w' ⟨h1, h2⟩ => ?_
  rw [e] at h1
  exact ⟨h1, h.go h2⟩
theorem kp_contra (h : Kp W rb Lr key sv S L vb bx z) (g : Gl z) (a b : Cl.Clm) (ia : I64C a) (ib : I64C b) :
    Calls Tryz.prog 16 #[.agg #[.int .i64 a.kind, .int .i64 a.n, .int .i64 a.time, .string ⟨a.text.toArray⟩], .agg #[.int .i64 b.kind, .int .i64 b.n, .int .i64 b.time, .string ⟨b.text.toArray⟩]] z fun e w' => e = .returned (.bool (Cl.contra a b)) ∧ Kp W rb Lr key sv S L vb bx w' :=
  (contra_c a b _ _ (bs_list _) (bs_list _) ia ib z g).mono fun e' w' ⟨h1, h2⟩ => ⟨h1, h.go h2⟩
theorem kp_claims (h : Kp W rb Lr key sv S L vb [] z) (g : Gl z) (hL : L.length ≤ 900000) :
    Calls Tryz.prog 17 #[.pointer (some ⟨vb, 0, none⟩)] z fun e w' => ∃ a cap, e = .returned (.slice a L.length cap) ∧ Kp W rb Lr key (.slice a L.length cap) L L vb [] w' := by
  obtain ⟨⟨q, r, rfl, rfl, h3, h4, h5, h6, h7⟩, hr, hn, hb⟩ := h
  refine (claims_v W.heap.size r q.rb key L z g h4 (by omega)).mono ?_
  rintro e w' ⟨v', rfl, ho, u⟩
  obtain ⟨a, cap, rfl⟩ := own_sl ho
  refine ⟨a, cap, rfl, ⟨q, r, rfl, rfl, h3.nw u, h4.nw u, h5, h6, ?_⟩, owns_base ho hn.size, hn.trans u, fun p hp => by cases hp⟩
  rintro j (hj | ⟨p, hp, _⟩)
  · obtain ⟨e1, cs, e2⟩ := own_block ho hj
    exact ⟨lt_of_block e2, fun e => by have := (h3.foot_lt e).2; omega, fun e => by have := (h4.foot_lt e).2; omega⟩
  · cases hp
end
/-- Behind the signing, and the view's making. -/
theorem kp_start {W w1 w4 : World} {q : RingR} {r : ViewR} {key : Int} {l : List Vw.Say} {sv : Value} (hq : RingAt W.heap.size w1 q []) (u1 : Nw W w1) (u4 : Nw w1 w4) {w5 : World} (hs : Sgd W.heap.size w4 q [] l l.length sv w5) (hlen : (Vw.signedL [] l).2.length = l.length) :
    ∃ q', q'.rb = q.rb ∧ RingAt W.heap.size w5 q' (Vw.signedL [] l).1 ∧ w5.ownsRow W.heap.size tSigned 3 sv (Vw.signedL [] l).2.length (flatS (Vw.signedL [] l).2) ∧ Nw W w5 := by
  obtain ⟨q', hq', hrb, hown, u5, hf⟩ := hs
  rw [List.take_length] at hq' hown
  have s1 := u1.size
  have s4 := u4.size
  exact ⟨q', hrb, hq', owns_base (by rw [hlen]; exact hown) (by omega), (u1.trans u4).trans' u5 (fun j hj e => by have := (hq.foot_lt e).1; omega)⟩
theorem kp_first {W w5 w6 : World} {q' : RingR} {r : ViewR} {key : Int} {Lr : List Bk.Seal} {S : List Bk.Sgn} {sv : Value} (hq : RingAt W.heap.size w5 q' Lr) (ho : w5.ownsRow W.heap.size tSigned 3 sv S.length (flatS S)) (u5 : Nw W w5) (u6 : Nw w5 w6) (hr : ViewAt w5.heap.size w6 r q'.rb key []) :
    Kp W q'.rb Lr key sv S [] r.vb [] w6 := by
  refine ⟨vs_new hq u6 hr ?_, owns_upd' ho u6 (fun _ _ e => e), u5.trans u6, fun p hp => by cases hp⟩
  rintro j (hj | ⟨p, hp, _⟩)
  · obtain ⟨e1, cs, e2⟩ := own_block ho hj
    exact ⟨lt_of_block e2, fun e => ring_row hq ho j hj e⟩
  · cases hp
theorem KpL {W : World} {rb : Nat} {Lr : List Bk.Seal} {key : Int} {sv : Value} {S L : List Bk.Sgn} {vb : Nat} {bx : List (Nat × Obj)} {z : World} (h : Kp W rb Lr key sv S L vb bx z) : (∀ i : Later z, Kp W rb Lr key sv S L vb bx i.1) := fun i => h.go i.nw
set_option maxHeartbeats 8000000 in
set_option maxRecDepth 100000 in
theorem keeps_c (l : List Vw.Say) (v : Value) (key : Int) (W : World) (g : Gl W) (hv : SlS 7 0 W.heap.size W v (l.map sayL)) (ho : ∀ x ∈ l, SayOk x) (hkey : I64 key) :
    Calls Tryz.prog 3 #[v, .int .i64 key] W fun e w' => e = .returned (.bool true) ∧ Nw W w' := by
  have hgb := g.big
  obtain ⟨a0, cap0, rfl, hm0, _⟩ := say_cells hv
  unfold maxLen at hm0
  have Hho := Lib.hid ho
  have Hv := Lib.hid hv
  clear ho hv
  go_enter Tryz.func3, Tryz.ntmps3
  go_wp2_with fail
  (with_reducible refine (small_v _ g).mono ?_)
  rintro _ w0 ⟨rfl, u0⟩
  have g0 := g.upd u0
  go_wp2_with fail
  (with_reducible refine (new_s _ g0).mono ?_)
  rintro _ w1 ⟨q, rfl, hq, u1⟩
  have U1 := u0.trans u1
  have hq := hq.base8 u0.size hgb
  go_wp2_with fail
  (with_reducible refine (few_w 0 W.heap.size _ l _ (Hv.out.nw U1) Hho.out).mono ?_)
  rintro _ w4 ⟨f, rfl, hf, u4⟩
  have U4 := U1.trans u4
  have g4 := g.upd U4
  cases f with
  | false =>
    clear hf
    go_wp2_with fail
    go_ret
    exact ⟨rfl, U4⟩
  | true =>
  obtain ⟨hl20, hl300⟩ := hf rfl
  have Hl300 := Lib.hid hl300
  clear hf hl300
  obtain ⟨f1, f2, f3, f4⟩ := Vw.signed_facts (Lr := []) List.nodup_nil (l := l) (by simp; omega) (fun x hx => words_len (Hho.out x hx) (Hl300.out x hx).1)
  have Hsg := Lib.hid (signed_w W.heap.size 0 W.heap.size q [] _ l w4 g4 (hq.nw u4) (Hv.out.nw U4) (Nat.le_refl _) Hho.out (fun x hx => (Hl300.out x hx).1) hl20 (by decide))
  have F4 := Lib.hid f4
  have F3 := Lib.hid f3
  have HLr : Hid ((Vw.signedL [] l).1.length ≤ 1000000) := by show _ ≤ _; simp only [List.length_nil] at f1; omega
  have Hl20 := Lib.hid hl20
  clear f1 f2 f3 f4 hl20
  go_wp2_with fail
  (with_reducible refine (Hsg.out).mono ?_)
  rintro _ w5 ⟨sv, rfl, hs5⟩
  obtain ⟨q', hrb, hq5, ho5, U5⟩ := kp_start (r := ⟨0, 0, 0, sv, sv⟩) (key := key) hq U1 u4 hs5 F3.out
  have hlenS := F3.out
  have h20 := Hl20.out
  clear hs5 hq Hsg
  generalize Vw.signedL [] l = SL at *
  obtain ⟨Lr, S⟩ := SL
  dsimp only at hq5 ho5 F3 F4 HLr hlenS
  obtain ⟨asl, caps, hsv⟩ := own_sl ho5
  subst hsv
  have hS20 : S.length ≤ 20 := by omega
  have g5 := g.upd U5
  have hnv' := new_v q'.rb key w5 g5
  rw [← hrb]
  generalize q.rb = rb at *
  subst hrb
  have Hnv := Lib.hid hnv'
  clear hnv' hlenS h20
  go_wp2_with fail
  (with_reducible refine (Hnv.out).mono ?_)
  rintro _ w6 hnv
  rcases hnv with ⟨hkk, r, rfl, hr, u6⟩ | ⟨hkk, rfl, u6⟩
  rotate_left
  · have hk2 : key < 0 ∨ 200 ≤ key := by unfold Bk.isKey at hkk; rw [← Bool.not_eq_true] at hkk; simp at hkk; omega
    rcases hk2 with hk2 | hk2
    all_goals go_wp2_with fail
    all_goals go_ret
    all_goals exact ⟨rfl, U5.trans u6⟩
  have K0 := kp_first hq5 ho5 U5 u6 hr
  have HK0 := Lib.hid K0
  have HKey := Lib.hid hkk
  clear K0 hkk hr hq5 ho5 Hnv
  generalize r.vb = vb at *
  generalize q'.rb = rb at *
  go_wp2_with fail
  go_loopw [9] (fun i wr => ∃ k : Nat, k ≤ S.length ∧ i = .int .i64 k ∧ Hid (∃ L, L.length ≤ k ∧ Kp W rb Lr key (.slice asl S.length caps) S L vb [] wr)) (fun i _ => S.length - (intOf i).toNat)
  case atStart => exact ⟨0, Nat.zero_le _, rfl, [], Nat.le_refl _, HK0.out⟩
  case round =>
    obtain ⟨k, hk, rfl, HR⟩ := hrel
    obtain ⟨L, hLk, K⟩ := HR.out
    have hL9 : L.length ≤ 900000 := by omega
    have gw := g.upd K.nw
    by_cases hlt : k < S.length
    · obtain ⟨b, o, rfl, d0, d1, d2⟩ := sgn_at8 K.row hlt
      have hcell := fun {L' : List Bk.Sgn} {bx : List (Nat × Obj)} {z : World} (h : Kp W rb Lr key (.slice (some ⟨b, o, none⟩) S.length caps) S L' vb bx z) => (show z.cell? ⟨b, o + k * 3, none⟩ = some (.int .i64 S[k].key) ∧ z.cell? ⟨b, o + k * 3 + 1, none⟩ = some (.string ⟨S[k].text.toArray⟩) ∧ z.cell? ⟨b, o + k * 3 + 2, none⟩ = some (.int .i64 S[k].mark) from by
        obtain ⟨b', o', eb, e0, e1, e2⟩ := sgn_at8 h.row hlt
        obtain ⟨rfl, rfl⟩ : b = b' ∧ o = o' := by simpa using eb
        exact ⟨e0, e1, e2⟩)
      have hso := mod_ok S[k] (F4.out S[k] (List.getElem_mem hlt))
      have hcases := Vw.kp_cases Lr key L S[k]
      have H0 := Lib.hid K
      have Hvok := Lib.hid K.vs.ok
      generalize S[k] = x at *
      obtain ⟨c, ok, hc⟩ : ∃ c ok, Cl.read x.text = (c, ok) := ⟨_, _, rfl⟩
      obtain ⟨y, cb, hcl⟩ : ∃ y cb, Vw.clash L x = (y, cb) := ⟨_, _, rfl⟩
      obtain ⟨e, L', hac⟩ : ∃ e L', Vw.accept Lr key L x = (e, L') := ⟨_, _, rfl⟩
      have hicx : I64C c := by have := read_i64 x.text; rw [hc] at this; exact this
      have hmo := Vw.mine_ok (Lr := Lr) (key := key) ok c hc
      have hL' : L'.length ≤ k + 1 := by have := Vw.accept_len Lr key L x; rw [hac] at this; dsimp only at this; omega
      rw [hac, hcl] at hcases
      dsimp only at hcases
      have Hcell := fun {L'' bx z} h => @hcell L'' bx z h
      have Hc := Lib.hid hc
      have Hcl := Lib.hid hcl
      have Hic := Lib.hid hicx
      have Hcases := Lib.hid hcases
      have Hmo := Lib.hid hmo
      have Hso := Lib.hid hso
      have HL9 := Lib.hid hL9
      have HL' := Lib.hid hL'
      have Hac := Lib.hid hac
      have hcb : Hid (∀ {L'' : List Bk.Sgn} {bx : List (Nat × Obj)} {z : World}, Kp W rb Lr key (.slice (some ⟨b, o, none⟩) S.length caps) S L'' vb bx z → z.cell? ⟨b, o + k * 3, none⟩ = some (.int .i64 x.key) ∧ z.cell? ⟨b, o + k * 3 + 1, none⟩ = some (.string ⟨x.text.toArray⟩) ∧ z.cell? ⟨b, o + k * 3 + 2, none⟩ = some (.int .i64 x.mark)) := @hcell
      have HLk := Lib.hid hLk
      clear K hc hcl hac hicx hcases hmo hso hL9 hL' hcell Hcell HR hLk
      go_wp2_with fail
      (with_reducible refine (kp_read H0.out gw x.text (Nat.le_trans Hso.out.t (by decide)) Hc.out).mono ?_)
      rintro _ x1 ⟨rfl, K1⟩
      replace K1 := K1.box (.cells #[.int .i64 c.kind, .int .i64 c.n, .int .i64 c.time, .string ⟨c.text.toArray⟩] tC)
      have H1 := Lib.hid K1
      obtain ⟨_, _, _⟩ := hcb.out K1
      clear K1
      go_wp2_with fail
      (with_reducible refine (kp_clash H1.out (g.upd H1.out.nw) x Hso.out HL9.out).mono ?_)
      rintro _ x2 ⟨rfl, K2⟩
      rw [Hcl.out]
      replace K2 := K2.box (.cells #[.int .i64 y.key, .string ⟨y.text.toArray⟩, .int .i64 y.mark] tSigned)
      have H2 := Lib.hid K2
      clear K2
      go_wp2_with fail
      (with_reducible refine (kp_bytes H2.out (g.upd H2.out.nw) HLr.out HL9.out).mono ?_)
      rintro _ x3 ⟨rfl, K3⟩
      have H3 := Lib.hid K3
      obtain ⟨_, _, _⟩ := hcb.out K3
      clear K3
      go_wp2_with fail
      (with_reducible refine (kp_acc H3.out (g.upd H3.out.nw) x Hso.out HL9.out).mono ?_)
      rintro _ x4 ⟨rfl, K4⟩
      rw [Hac.out] at K4 ⊢
      dsimp only at K4 ⊢
      have H4 := Lib.hid K4
      obtain ⟨_, _, _⟩ := hcb.out K4
      obtain ⟨_, _, _, _⟩ := cell4 (H4.out.at 1 rfl)
      clear K4 d0 d1 d2
      go_upto_region 16 with fail
      go_cut [16] from 89 to 122 (fun m wx => m = .bool (Vw.mineB Lr key x) ∧ Hid (Kp W rb Lr key (.slice (some ⟨b, o, none⟩) S.length caps) S L' vb [(x2.heap.size, .cells #[.int .i64 y.key, .string ⟨y.text.toArray⟩, .int .i64 y.mark] tSigned), (x1.heap.size, .cells #[.int .i64 c.kind, .int .i64 c.n, .int .i64 c.time, .string ⟨c.text.toArray⟩] tC)] wx))
      case first =>
        have ht : erI true = 0 := rfl
        have hf : erI false = 2 := rfl
        go_wp2_with fail
        (with_reducible refine (kp_valid H4.out (g.upd H4.out.nw) x Hso.out).mono ?_)
        rintro _ x5 ⟨rfl, K5⟩
        have H5 := Lib.hid K5
        obtain ⟨_, _, _⟩ := hcb.out K5
        obtain ⟨_, _, _, _⟩ := cell4 (H5.out.at 1 rfl)
        clear K5
        have hmo := Hmo.out
        generalize Vw.mineB Lr key x = mb at *
        generalize Bk.valid Lr x = vd at *
        cases vd with
        | false =>
          have hx : Hid (mb = false) := by show _ = _; rw [hmo]; rfl
          clear hmo
          go_wp2_with fail
          go_meet
          exact ⟨by rw [hx.out], H5.out⟩
        | true =>
        by_cases hkx : x.key = key
        rotate_left
        · have dk : (x.key == key) = false := beq_eq_false_iff_ne.2 hkx
          have hx : Hid (mb = false) := by show _ = _; rw [hmo, dk]; rfl
          clear hmo hkx
          go_wp2_with fail
          go_meet
          exact ⟨by rw [hx.out], H5.out⟩
        have dk : (x.key == key) = true := beq_iff_eq.2 hkx
        rw [dk] at hmo
        clear hkx
        cases ok with
        | false =>
          have hx : Hid (mb = false) := by show _ = _; rw [hmo]; rfl
          clear hmo
          go_wp2_with fail
          go_meet
          exact ⟨by rw [hx.out], H5.out⟩
        | true =>
        have hb : 0 ≤ c.kind ∧ c.kind ≤ 4 := by
          have := Cl.right_bounds (Cl.read_inv (s := x.text) (c := c) Hc.out).1
          exact ⟨this.1, this.2.1⟩
        by_cases k0 : c.kind = 0
        · have e0 : (c.kind == 0) = true := beq_iff_eq.2 k0
          have hx : Hid (mb = true) := by show _ = _; rw [hmo, decide_eq_true (by omega)]; rfl
          clear hmo k0 hb
          go_wp2_with fail
          go_meet
          exact ⟨by rw [hx.out], H5.out⟩
        have e0 : (c.kind == 0) = false := beq_eq_false_iff_ne.2 k0
        by_cases k1 : c.kind = 1
        · have e1 : (c.kind == 1) = true := beq_iff_eq.2 k1
          have hx : Hid (mb = true) := by show _ = _; rw [hmo, decide_eq_true (by omega)]; rfl
          clear hmo k0 k1 hb
          go_wp2_with fail
          go_meet
          exact ⟨by rw [hx.out], H5.out⟩
        have e1 : (c.kind == 1) = false := beq_eq_false_iff_ne.2 k1
        by_cases k2 : c.kind = 2
        · have e2 : (c.kind == 2) = true := beq_iff_eq.2 k2
          have hx : Hid (mb = true) := by show _ = _; rw [hmo, decide_eq_true (by omega)]; rfl
          clear hmo k0 k1 k2 hb
          go_wp2_with fail
          go_meet
          exact ⟨by rw [hx.out], H5.out⟩
        have e2 : (c.kind == 2) = false := beq_eq_false_iff_ne.2 k2
        have hx : Hid (mb = false) := by show _ = _; rw [hmo, decide_eq_false (by omega)]; rfl
        clear hmo k0 k1 k2 hb
        go_wp2_with fail
        go_meet
        exact ⟨by rw [hx.out], H5.out⟩
      case rest =>
        obtain ⟨rfl, H5⟩ := hcut
        have ht : erI true = 0 := rfl
        obtain hA | hB | hC := Hcases.out
        · obtain ⟨h1, h2, h3⟩ := hA
          rw [h1]
          subst h2 h3
          clear h1
          go_wp2_with fail
          go_roundw
          case rel => exact ⟨k + 1, by omega, by go_num, L', HL'.out, H5.out.drop⟩
          case measure => simp [intOf]; omega
        · obtain ⟨h1, h2, h3, h4⟩ := hB
          rw [h1]
          subst h2 h3 h4
          have Hcb : Hid ((Vw.clash L' x).2 = true) := by show _ = _; rw [Hcl.out]
          clear h1
          go_wp2_with fail
          (with_reducible refine (kp_bytes H5.out (g.upd H5.out.nw) HLr.out HL9.out).mono ?_)
          rintro _ x6 ⟨rfl, K6⟩
          have H6 := Lib.hid K6
          clear K6
          obtain ⟨hr1, hy1, hy2⟩ := Vw.clash_is (Hcb.out)
          rw [Hcl.out] at hy1 hy2
          dsimp only at hy1 hy2
          obtain ⟨yv, yk, yl⟩ := Hvok.out.each _ hy1
          have hyr : Cl.read y.text = (Vw.claimOf y, true) := by rw [← (Vw.log_spec yl).2.2.1]; rfl
          have hcx : Cl.contra c (Vw.claimOf y) = true := by rw [show c = Vw.claimOf x by unfold Vw.claimOf; rw [Hc.out]]; exact hy2
          have hky : Hid (y.key = key) := yk
          have hyt := (valid_ok HKey.out HLr.out yv yk yl).2
          have hyo := (valid_ok HKey.out HLr.out yv yk yl).1
          have hiy := (log_bounds yl).1
          obtain ⟨_, _, _⟩ := cell3 (H6.out.at 0 rfl)
          generalize Vw.claimOf y = d at *
          obtain ⟨yk0, yt0, ym0⟩ := y
          dsimp only at hyr hyt
          have Hyr := Lib.hid hyr
          have Hyv := Lib.hid yv
          have Hyo := Lib.hid hyo
          have Hiy := Lib.hid hiy
          have Hcx := Lib.hid hcx
          have hky' : yk0 = key := yk
          have dky : (yk0 == key) = true := beq_iff_eq.2 hky'
          have dky2 : (yk0 != key) = false := by simp [bne, dky]
          clear hr1 hy1 hy2 yv yk yl hyr hcx hyo hiy hky hky'
          go_wp2_with fail
          (with_reducible refine (kp_read H6.out (g.upd H6.out.nw) yt0 (by omega) Hyr.out).mono ?_)
          rintro _ x7 ⟨rfl, K7⟩
          replace K7 := K7.box (.cells #[.int .i64 d.kind, .int .i64 d.n, .int .i64 d.time, .string ⟨d.text.toArray⟩] tC)
          have H7 := Lib.hid K7
          obtain ⟨_, _, _, _⟩ := cell4 (H7.out.at 0 rfl)
          obtain ⟨_, _, _⟩ := cell3 (H7.out.at 1 rfl)
          obtain ⟨_, _, _, _⟩ := cell4 (H7.out.at 2 rfl)
          clear K7
          go_wp2_with fail
          (with_reducible refine (kp_contra H7.out (g.upd H7.out.nw) c d Hic.out Hiy.out).mono ?_)
          rintro _ x8 ⟨rfl, K8⟩
          rw [Hcx.out]
          have H8 := Lib.hid K8
          obtain ⟨_, _, _⟩ := cell3 (H8.out.at 1 rfl)
          clear K8
          go_wp2_with fail
          (with_reducible refine (kp_valid H8.out (g.upd H8.out.nw) ⟨yk0, yt0, ym0⟩ Hyo.out).mono ?_)
          rintro _ x9 ⟨rfl, K9⟩
          rw [Hyv.out]
          have H9 := Lib.hid K9
          obtain ⟨_, _, _⟩ := cell3 (H9.out.at 1 rfl)
          clear K9
          go_wp2_with fail
          go_roundw
          case rel => exact ⟨k + 1, by omega, by go_num, L', HL'.out, H9.out.drop⟩
          case measure => simp [intOf]; omega
        · obtain ⟨h1, h2, h4⟩ := hC
          rw [h1]
          subst h4
          clear h1
          cases cb with
          | false =>
            rcases h2 with h2 | h2 | h2
            all_goals
              subst h2
              go_wp2_with fail
              (with_reducible refine (kp_bytes H5.out (g.upd H5.out.nw) HLr.out HL9.out).mono ?_)
              rintro _ x6 ⟨rfl, K6⟩
              have H6 := Lib.hid K6
              clear K6
              go_wp2_with fail
              go_roundw
              case rel => exact ⟨k + 1, by omega, by go_num, L', HL'.out, H6.out.drop⟩
              case measure => simp [intOf]; omega
          | true =>
            have Hcb : Hid ((Vw.clash L' x).2 = true) := by show _ = _; rw [Hcl.out]
            rcases h2 with h2 | h2 | h2
            · subst h2
              go_wp2_with fail
              (with_reducible refine (kp_bytes H5.out (g.upd H5.out.nw) HLr.out HL9.out).mono ?_)
              rintro _ x6 ⟨rfl, K6⟩
              have H6 := Lib.hid K6
              clear K6
              obtain ⟨hr1, hy1, hy2⟩ := Vw.clash_is (Hcb.out)
              rw [Hcl.out] at hy1 hy2
              dsimp only at hy1 hy2
              obtain ⟨yv, yk, yl⟩ := Hvok.out.each _ hy1
              have hyr : Cl.read y.text = (Vw.claimOf y, true) := by rw [← (Vw.log_spec yl).2.2.1]; rfl
              have hcx : Cl.contra c (Vw.claimOf y) = true := by rw [show c = Vw.claimOf x by unfold Vw.claimOf; rw [Hc.out]]; exact hy2
              have hky : Hid (y.key = key) := yk
              have hyt := (valid_ok HKey.out HLr.out yv yk yl).2
              have hyo := (valid_ok HKey.out HLr.out yv yk yl).1
              have hiy := (log_bounds yl).1
              obtain ⟨_, _, _⟩ := cell3 (H6.out.at 0 rfl)
              generalize Vw.claimOf y = d at *
              obtain ⟨yk0, yt0, ym0⟩ := y
              dsimp only at hyr hyt
              have Hyr := Lib.hid hyr
              have Hyv := Lib.hid yv
              have Hyo := Lib.hid hyo
              have Hiy := Lib.hid hiy
              have Hcx := Lib.hid hcx
              have hky' : yk0 = key := yk
              have dky : (yk0 == key) = true := beq_iff_eq.2 hky'
              have dky2 : (yk0 != key) = false := by simp [bne, dky]
              clear hr1 hy1 hy2 yv yk yl hyr hcx hyo hiy hky hky'
              go_wp2_with fail
              (with_reducible refine (kp_read H6.out (g.upd H6.out.nw) yt0 (by omega) Hyr.out).mono ?_)
              rintro _ x7 ⟨rfl, K7⟩
              replace K7 := K7.box (.cells #[.int .i64 d.kind, .int .i64 d.n, .int .i64 d.time, .string ⟨d.text.toArray⟩] tC)
              have H7 := Lib.hid K7
              obtain ⟨_, _, _, _⟩ := cell4 (H7.out.at 0 rfl)
              obtain ⟨_, _, _⟩ := cell3 (H7.out.at 1 rfl)
              obtain ⟨_, _, _, _⟩ := cell4 (H7.out.at 2 rfl)
              clear K7
              go_wp2_with fail
              (with_reducible refine (kp_contra H7.out (g.upd H7.out.nw) c d Hic.out Hiy.out).mono ?_)
              rintro _ x8 ⟨rfl, K8⟩
              rw [Hcx.out]
              have H8 := Lib.hid K8
              obtain ⟨_, _, _⟩ := cell3 (H8.out.at 1 rfl)
              clear K8
              go_wp2_with fail
              (with_reducible refine (kp_valid H8.out (g.upd H8.out.nw) ⟨yk0, yt0, ym0⟩ Hyo.out).mono ?_)
              rintro _ x9 ⟨rfl, K9⟩
              rw [Hyv.out]
              have H9 := Lib.hid K9
              obtain ⟨_, _, _⟩ := cell3 (H9.out.at 1 rfl)
              clear K9
              go_wp2_with fail
              go_roundw
              case rel => exact ⟨k + 1, by omega, by go_num, L', HL'.out, H9.out.drop⟩
              case measure => simp [intOf]; omega
            · subst h2
              go_wp2_with fail
              (with_reducible refine (kp_bytes H5.out (g.upd H5.out.nw) HLr.out HL9.out).mono ?_)
              rintro _ x6 ⟨rfl, K6⟩
              have H6 := Lib.hid K6
              clear K6
              obtain ⟨hr1, hy1, hy2⟩ := Vw.clash_is (Hcb.out)
              rw [Hcl.out] at hy1 hy2
              dsimp only at hy1 hy2
              obtain ⟨yv, yk, yl⟩ := Hvok.out.each _ hy1
              have hyr : Cl.read y.text = (Vw.claimOf y, true) := by rw [← (Vw.log_spec yl).2.2.1]; rfl
              have hcx : Cl.contra c (Vw.claimOf y) = true := by rw [show c = Vw.claimOf x by unfold Vw.claimOf; rw [Hc.out]]; exact hy2
              have hky : Hid (y.key = key) := yk
              have hyt := (valid_ok HKey.out HLr.out yv yk yl).2
              have hyo := (valid_ok HKey.out HLr.out yv yk yl).1
              have hiy := (log_bounds yl).1
              obtain ⟨_, _, _⟩ := cell3 (H6.out.at 0 rfl)
              generalize Vw.claimOf y = d at *
              obtain ⟨yk0, yt0, ym0⟩ := y
              dsimp only at hyr hyt
              have Hyr := Lib.hid hyr
              have Hyv := Lib.hid yv
              have Hyo := Lib.hid hyo
              have Hiy := Lib.hid hiy
              have Hcx := Lib.hid hcx
              have hky' : yk0 = key := yk
              have dky : (yk0 == key) = true := beq_iff_eq.2 hky'
              have dky2 : (yk0 != key) = false := by simp [bne, dky]
              clear hr1 hy1 hy2 yv yk yl hyr hcx hyo hiy hky hky'
              go_wp2_with fail
              (with_reducible refine (kp_read H6.out (g.upd H6.out.nw) yt0 (by omega) Hyr.out).mono ?_)
              rintro _ x7 ⟨rfl, K7⟩
              replace K7 := K7.box (.cells #[.int .i64 d.kind, .int .i64 d.n, .int .i64 d.time, .string ⟨d.text.toArray⟩] tC)
              have H7 := Lib.hid K7
              obtain ⟨_, _, _, _⟩ := cell4 (H7.out.at 0 rfl)
              obtain ⟨_, _, _⟩ := cell3 (H7.out.at 1 rfl)
              obtain ⟨_, _, _, _⟩ := cell4 (H7.out.at 2 rfl)
              clear K7
              go_wp2_with fail
              (with_reducible refine (kp_contra H7.out (g.upd H7.out.nw) c d Hic.out Hiy.out).mono ?_)
              rintro _ x8 ⟨rfl, K8⟩
              rw [Hcx.out]
              have H8 := Lib.hid K8
              obtain ⟨_, _, _⟩ := cell3 (H8.out.at 1 rfl)
              clear K8
              go_wp2_with fail
              (with_reducible refine (kp_valid H8.out (g.upd H8.out.nw) ⟨yk0, yt0, ym0⟩ Hyo.out).mono ?_)
              rintro _ x9 ⟨rfl, K9⟩
              rw [Hyv.out]
              have H9 := Lib.hid K9
              obtain ⟨_, _, _⟩ := cell3 (H9.out.at 1 rfl)
              clear K9
              go_wp2_with fail
              go_roundw
              case rel => exact ⟨k + 1, by omega, by go_num, L', HL'.out, H9.out.drop⟩
              case measure => simp [intOf]; omega
            · subst h2
              go_wp2_with fail
              (with_reducible refine (kp_bytes H5.out (g.upd H5.out.nw) HLr.out HL9.out).mono ?_)
              rintro _ x6 ⟨rfl, K6⟩
              have H6 := Lib.hid K6
              clear K6
              obtain ⟨hr1, hy1, hy2⟩ := Vw.clash_is (Hcb.out)
              rw [Hcl.out] at hy1 hy2
              dsimp only at hy1 hy2
              obtain ⟨yv, yk, yl⟩ := Hvok.out.each _ hy1
              have hyr : Cl.read y.text = (Vw.claimOf y, true) := by rw [← (Vw.log_spec yl).2.2.1]; rfl
              have hcx : Cl.contra c (Vw.claimOf y) = true := by rw [show c = Vw.claimOf x by unfold Vw.claimOf; rw [Hc.out]]; exact hy2
              have hky : Hid (y.key = key) := yk
              have hyt := (valid_ok HKey.out HLr.out yv yk yl).2
              have hyo := (valid_ok HKey.out HLr.out yv yk yl).1
              have hiy := (log_bounds yl).1
              obtain ⟨_, _, _⟩ := cell3 (H6.out.at 0 rfl)
              generalize Vw.claimOf y = d at *
              obtain ⟨yk0, yt0, ym0⟩ := y
              dsimp only at hyr hyt
              have Hyr := Lib.hid hyr
              have Hyv := Lib.hid yv
              have Hyo := Lib.hid hyo
              have Hiy := Lib.hid hiy
              have Hcx := Lib.hid hcx
              have hky' : yk0 = key := yk
              have dky : (yk0 == key) = true := beq_iff_eq.2 hky'
              have dky2 : (yk0 != key) = false := by simp [bne, dky]
              clear hr1 hy1 hy2 yv yk yl hyr hcx hyo hiy hky hky'
              go_wp2_with fail
              (with_reducible refine (kp_read H6.out (g.upd H6.out.nw) yt0 (by omega) Hyr.out).mono ?_)
              rintro _ x7 ⟨rfl, K7⟩
              replace K7 := K7.box (.cells #[.int .i64 d.kind, .int .i64 d.n, .int .i64 d.time, .string ⟨d.text.toArray⟩] tC)
              have H7 := Lib.hid K7
              obtain ⟨_, _, _, _⟩ := cell4 (H7.out.at 0 rfl)
              obtain ⟨_, _, _⟩ := cell3 (H7.out.at 1 rfl)
              obtain ⟨_, _, _, _⟩ := cell4 (H7.out.at 2 rfl)
              clear K7
              go_wp2_with fail
              (with_reducible refine (kp_contra H7.out (g.upd H7.out.nw) c d Hic.out Hiy.out).mono ?_)
              rintro _ x8 ⟨rfl, K8⟩
              rw [Hcx.out]
              have H8 := Lib.hid K8
              obtain ⟨_, _, _⟩ := cell3 (H8.out.at 1 rfl)
              clear K8
              go_wp2_with fail
              (with_reducible refine (kp_valid H8.out (g.upd H8.out.nw) ⟨yk0, yt0, ym0⟩ Hyo.out).mono ?_)
              rintro _ x9 ⟨rfl, K9⟩
              rw [Hyv.out]
              have H9 := Lib.hid K9
              obtain ⟨_, _, _⟩ := cell3 (H9.out.at 1 rfl)
              clear K9
              go_wp2_with fail
              go_roundw
              case rel => exact ⟨k + 1, by omega, by go_num, L', HL'.out, H9.out.drop⟩
              case measure => simp [intOf]; omega
    · obtain rfl : k = S.length := by omega
      have HK := Lib.hid K
      have hL20 : L.length ≤ 20 := by omega
      have HL9 := Lib.hid hL9
      clear K hL9
      go_wp2_with fail
      (with_reducible refine (kp_claims HK.out gw HL9.out).mono ?_)
      rintro _ x1 ⟨aa, capa, rfl, K1⟩
      have H1 := Lib.hid K1
      have Hvok := Lib.hid K1.vs.ok
      clear K1 HR HK gw
      go_wp2_with fail
      go_loopw [20] (fun i wr => ∃ k : Nat, k ≤ L.length ∧ i = .int .i64 k ∧ Hid (Kp W rb Lr key (.slice aa L.length capa) L L vb [] wr)) (fun i _ => L.length - (intOf i).toNat)
      case atStart => exact ⟨0, Nat.zero_le _, rfl, H1.out⟩
      case round =>
        obtain ⟨k, hk, rfl, HK⟩ := hrel
        obtain ⟨wq, rfl⟩ : ∃ x, x = wr := ⟨_, rfl⟩
        by_cases hlt : k < L.length
        · obtain ⟨b, o, rfl, d0, d1, d2⟩ := sgn_at8 HK.out.row hlt
          have hcell : Hid (∀ {bx : List (Nat × Obj)} {z : World} (j : Nat) (hj : j < L.length), Kp W rb Lr key (.slice (some ⟨b, o, none⟩) L.length capa) L L vb bx z → z.cell? ⟨b, o + j * 3, none⟩ = some (.int .i64 L[j].key) ∧ z.cell? ⟨b, o + j * 3 + 1, none⟩ = some (.string ⟨L[j].text.toArray⟩) ∧ z.cell? ⟨b, o + j * 3 + 2, none⟩ = some (.int .i64 L[j].mark)) := fun j hj h => by
            obtain ⟨b', o', eb, e0, e1, e2⟩ := sgn_at8 h.row hj
            obtain ⟨rfl, rfl⟩ : b = b' ∧ o = o' := by simpa using eb
            exact ⟨e0, e1, e2⟩
          obtain ⟨xv, xk, xl⟩ := Hvok.out.each L[k] (List.getElem_mem hlt)
          have hmem := List.getElem_mem hlt
          have hpair : Hid (∀ j (hj : j < k), Cl.contra (Vw.claimOf L[k]) (Vw.claimOf (L[j]'(by omega))) = false ∧ L[k] ≠ L[j]'(by omega)) := fun j hj => by
            refine ⟨Hvok.out.apart _ hmem _ (List.getElem_mem _), fun e => ?_⟩
            have := (List.getElem_inj Hvok.out.nodup).1 e
            omega
          have hxo := valid_ok HKey.out HLr.out xv xk xl
          have hxr : Cl.read L[k].text = (Vw.claimOf L[k], true) := by rw [← (Vw.log_spec xl).2.2.1]; rfl
          have hix := (log_bounds xl).1
          have hcx : Hid (∀ {bx : List (Nat × Obj)} {z : World}, Kp W rb Lr key (.slice (some ⟨b, o, none⟩) L.length capa) L L vb bx z → z.cell? ⟨b, o + k * 3, none⟩ = some (.int .i64 L[k].key) ∧ z.cell? ⟨b, o + k * 3 + 1, none⟩ = some (.string ⟨L[k].text.toArray⟩) ∧ z.cell? ⟨b, o + k * 3 + 2, none⟩ = some (.int .i64 L[k].mark)) := fun h => hcell.out k hlt h
          clear hmem
          generalize hX : L[k] = x at *
          have HX := Lib.hid hX
          clear hX
          generalize hC : Vw.claimOf x = c at *
          clear hC
          have dk : (x.key == key) = true := beq_iff_eq.2 xk
          have dk2 : (x.key != key) = false := by simp [bne, dk]
          have Hxo := Lib.hid hxo
          have Hxr := Lib.hid hxr
          have Hix := Lib.hid hix
          have Hxv := Lib.hid xv
          have hxt := hxo.2
          clear hxo hxr hix xv xl xk
          go_wp2_with fail
          (with_reducible refine (kp_read HK.out (g.upd HK.out.nw) x.text (by omega) Hxr.out).mono ?_)
          rintro _ x2 ⟨rfl, K2⟩
          replace K2 := K2.box (.cells #[.int .i64 c.kind, .int .i64 c.n, .int .i64 c.time, .string ⟨c.text.toArray⟩] tC)
          have H2 := Lib.hid K2
          obtain ⟨_, _, _⟩ := hcx.out K2
          clear K2
          have ht : erI true = 0 := rfl
          go_wp2_with fail
          (with_reducible refine (kp_valid H2.out (g.upd H2.out.nw) x Hxo.out.1).mono ?_)
          rintro _ x3 ⟨rfl, K3⟩
          rw [Hxv.out]
          have H3 := Lib.hid K3
          obtain ⟨_, _, _⟩ := hcx.out K3
          clear K3 d0 d1 d2
          go_wp2_with fail
          go_loopw [23] (fun i wr => ∃ j : Nat, j ≤ k ∧ i = .int .i64 j ∧ Hid (∃ bx, Kp W rb Lr key (.slice (some ⟨b, o, none⟩) L.length capa) L L vb (bx ++ [(x2.heap.size, .cells #[.int .i64 c.kind, .int .i64 c.n, .int .i64 c.time, .string ⟨c.text.toArray⟩] tC)]) wr)) (fun i _ => k - (intOf i).toNat)
          case atStart => exact ⟨0, Nat.zero_le _, rfl, [], H3.out⟩
          case round =>
            obtain ⟨j, hj, rfl, HJ⟩ := hrel
            obtain ⟨bx, KJ⟩ := HJ.out
            replace KJ : Kp W rb Lr key (.slice (some ⟨b, o, none⟩) L.length capa) L L vb [(x2.heap.size, .cells #[.int .i64 c.kind, .int .i64 c.n, .int .i64 c.time, .string ⟨c.text.toArray⟩] tC)] wr := ⟨KJ.vs.less (fun j hj => hj.imp id (fun ⟨p, hp, e⟩ => ⟨p, List.mem_append_right _ hp, e⟩)), KJ.row, KJ.nw, fun p hp => KJ.bxs p (List.mem_append_right _ hp)⟩
            by_cases hjk : j < k
            · have hjL : j < L.length := by omega
              obtain ⟨_, _, _⟩ := hcell.out j hjL KJ
              obtain ⟨yv, yk, yl⟩ := Hvok.out.each L[j] (List.getElem_mem hjL)
              have hyo := valid_ok HKey.out HLr.out yv yk yl
              have hyr : Cl.read L[j].text = (Vw.claimOf L[j], true) := by rw [← (Vw.log_spec yl).2.2.1]; rfl
              have hiy := (log_bounds yl).1
              obtain ⟨hp1, hp2⟩ := hpair.out j hjk
              have hcy : Hid (∀ {bx : List (Nat × Obj)} {z : World}, Kp W rb Lr key (.slice (some ⟨b, o, none⟩) L.length capa) L L vb bx z → z.cell? ⟨b, o + j * 3, none⟩ = some (.int .i64 L[j].key) ∧ z.cell? ⟨b, o + j * 3 + 1, none⟩ = some (.string ⟨L[j].text.toArray⟩) ∧ z.cell? ⟨b, o + j * 3 + 2, none⟩ = some (.int .i64 L[j].mark)) := fun h => hcell.out j hjL h
              generalize L[j] = y at *
              generalize Vw.claimOf y = d at *
              have hfar := sgn_far x y hp2
              have Hyr := Lib.hid hyr
              have Hiy := Lib.hid hiy
              have HKJ := Lib.hid KJ
              have hyt := hyo.2
              have Hp1 := Lib.hid hp1
              clear yv yk yl hyr hiy hp1 hp2 KJ HJ hyo
              go_wp2_with fail
              (with_reducible refine (kp_read HKJ.out (g.upd HKJ.out.nw) y.text (by omega) Hyr.out).mono ?_)
              rintro _ x5 ⟨rfl, K5⟩
              replace K5 := K5.box (.cells #[.int .i64 d.kind, .int .i64 d.n, .int .i64 d.time, .string ⟨d.text.toArray⟩] tC)
              generalize hW : x5.alloc (.cells #[.int .i64 d.kind, .int .i64 d.n, .int .i64 d.time, .string ⟨d.text.toArray⟩] tC) = W5 at *
              have HW := Lib.hid hW
              have H5 := Lib.hid K5
              obtain ⟨_, _, _, _⟩ := later4 (K5.at 0 rfl)
              obtain ⟨_, _, _, _⟩ := later4 (K5.at 1 rfl)
              have lx := fun i : Later W5 => hcx.out (K5.go i.nw)
              have ly := fun i : Later W5 => hcy.out (K5.go i.nw)
              have lx0 := fun i => (lx i).1
              have lx1 := fun i => (lx i).2.1
              have lx2 := fun i => (lx i).2.2
              have ly0 := fun i => (ly i).1
              have ly1 := fun i => (ly i).2.1
              have ly2 := fun i => (ly i).2.2
              have hct := fun i : Later W5 => contra_c c d _ _ (bs_list _) (bs_list _) Hix.out Hiy.out i.1 (g.upd (K5.nw.trans i.nw))
              rw [Hp1.out] at hct
              have Hct := Lib.hid hct
              clear lx ly hct K5 hW
              have u0 := H5.out
              go_wp2_with fail
              rw [HW.out]
              rcases hfar with hf | ⟨hf, hf2⟩ | ⟨hf, hf2, hf3⟩
              all_goals
                (refine wp_region_nw (by kernel_rfl) (by kernel_rfl) ?_)
                repeat (go_big_quiet_step ((go_at_call 16; exact later_call (Hct.out _))))
                refine wpQuiet_nil ?_
                intro x6 u6
                replace u6 := later_out u6
                go_wp2_with fail
                go_roundw
                case rel =>
                  refine ⟨j + 1, by omega, by go_num, [(x5.heap.size, .cells #[.int .i64 d.kind, .int .i64 d.n, .int .i64 d.time, .string ⟨d.text.toArray⟩] tC)], H5.out.go u6⟩
                case measure => simp [intOf]; omega
            · obtain rfl : j = k := by omega
              have HD := Lib.hid KJ.drop
              clear KJ HJ
              go_wp2_with fail
              go_roundw
              case rel => exact ⟨j + 1, by omega, by go_num, HD.out⟩
              case measure => simp [intOf]; omega
        · obtain rfl : k = L.length := by omega
          go_wp2_with fail
          go_ret
          exact ⟨rfl, HK.out.nw⟩
end Go.Proofs.YtidmehiboceobaaGreatDoor
