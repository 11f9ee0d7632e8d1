/- Chapter 37: the documentation's example, called. Chapter 37: small, the documentation's example. -/
import Derived.Test.YtagmlemlagbfkaaGreatDoorPkMTells20
import Derived.Test.YtagmlemlagbfkaaGreatDoorPkMTells14
namespace Go.Proofs.YtagmlemlagbfkaaGreatDoor
open Go.RowKit
set_option linter.unusedVariables false
set_option linter.unusedSimpArgs false
attribute [local irreducible] Calls

theorem own_lit1 {w : World} {b B : Nat} {t : List UInt8} (hb : w.heap[b]? = some (.cells #[bsM t] tStrM (0, 0))) (hB : B ≤ b) : w.ownsRow B tStrM 1 (.slice (some ⟨b, 0, none⟩) 1 1) 1 [bsM t] :=
  ⟨by simp, Or.inr ⟨_, _, _, rfl, hB, hb, Nat.le_refl _, by unfold maxLen; decide, by simp, by simp⟩⟩
/-- Feed with the key z and the content c, laid anew. -/
theorem st_feed2 {W : World} {p : StR} {L L' : List Bk.Seal} {m m' : Mi.Mir} {b b' : Bk.Book} {z : World} (h : St3 W p L m b 3 (fun _ => False) z) (g : Gl W) (now : Int) (hn : I64 now) (hL : L.length ≤ 100) (hl1 : (m.l 1).length ≤ 100) (hl2 : (m.l 2).length ≤ 100)
    (he : Mi.feed L b m [[122]] [[99]] now = (0, L', b', m')) {n : Nat} (hz : z.heap.size = n) :
    Calls Tryz.prog 69 #[.pointer (some ⟨p.mb, 0, none⟩), .pointer (some ⟨p.bb, 0, none⟩), .slice (some ⟨n, 0, none⟩) 1 1, .slice (some ⟨n + 1, 0, none⟩) 1 1, .int .i64 now] ((z.alloc (.cells #[.string ⟨#[122]⟩] tStrM)).alloc (.cells #[.string ⟨#[99]⟩] tStrM)) fun e z' =>
      e = .returned (.int .i64 0) ∧ St3 W p L' m' b' 3 (fun _ => False) z' ∧ MovesN W (fun _ => False) z z' := by
  subst hz
  have n1 := nw_alloc z (.cells #[.string ⟨#[122]⟩] tStrM)
  have k1 := heap_new z (.cells #[.string ⟨#[122]⟩] tStrM)
  have s1 : (z.alloc (.cells #[.string ⟨#[122]⟩] tStrM)).heap.size = z.heap.size + 1 := by simp
  generalize z.alloc (.cells #[.string ⟨#[122]⟩] tStrM) = z1 at *
  have n2 := nw_alloc z1 (.cells #[.string ⟨#[99]⟩] tStrM)
  have k2 := heap_new z1 (.cells #[.string ⟨#[99]⟩] tStrM)
  have s2 : (z1.alloc (.cells #[.string ⟨#[99]⟩] tStrM)).heap.size = z1.heap.size + 1 := by simp
  generalize z1.alloc (.cells #[.string ⟨#[99]⟩] tStrM) = z2 at *
  rw [s1] at k2
  replace k1 := Nw.keep n2 k1
  have u := n1.trans n2
  have hW := h.nw0.size
  have hK := At.keep h (F' := fun k => k = z.heap.size ∨ k = z.heap.size + 1) u (fun j hj => Or.inr (by omega))
  have hf := st_feed hK g [[122]] [[99]] now hn (by simp; omega) (by omega) (by simp; omega) ⟨by decide, fun s hs => by rw [List.mem_singleton.1 hs]; decide⟩ (fun s hs => by rw [List.mem_singleton.1 hs]; decide) (.slice (some ⟨z.heap.size, 0, none⟩) 1 1) (.slice (some ⟨z.heap.size + 1, 0, none⟩) 1 1) z.heap.size
    (fun z' mv => ⟨_, _, Sl.of_owns (own_lit1 (B := z.heap.size) (t := [122]) (mv.keep k1 (fun e => e.1 (Or.inl rfl))) (Nat.le_refl _))⟩)
    (fun z' mv => own_lit1 (t := [99]) (mv.keep k2 (fun e => e.1 (Or.inr rfl))) (by omega))
  rw [he] at hf
  refine hf.mono ?_
  rintro e z' ⟨q, h', mv⟩
  exact ⟨q, h'.less (fun k hk => hk.elim), (Nw.upd _ u).trans (mv.mono (fun k _ e => ⟨fun f => f, e.2⟩))⟩
theorem st_head0 {W : World} {p : StR} {L L' : List Bk.Seal} {m : Mi.Mir} {b b' : Bk.Book} {F : Nat → Prop} {z : World} {y : Bk.Sgn} (h : St3 W p L m b 3 F z) (g : Gl W) (now : Int) (hn : I64 now) (hL : L.length ≤ 1000000) (he : Bk.head L b now = ((y, 0), L', b')) : Calls Tryz.prog 124 #[.pointer (some ⟨p.bb, 0, none⟩), .int .i64 now] z fun e z' =>
    e = .returned (.tuple #[.agg #[.int .i64 y.key, .string ⟨y.text.toArray⟩, .int .i64 y.mark], .int .i64 0]) ∧ St3 W p L' m b' 3 F z' ∧ MovesN W F z z' := by
  have := st_head h g now hn hL
  rw [he] at this
  exact this
theorem story_results {w : World} {b1 : Nat} {tmps : Array Value} {v0 v1 v2 : Value} {T : TypeId} {fz : Nat × Nat} (h : w.heap[b1]? = some (.cells #[v0, v1, v2] T fz)) (ht : tmps.getD 3 undef = .pointer (some ⟨b1, 0, none⟩)) :
    (results Tryz.f65 tmps).run Tryz.prog w = .ok (.tuple #[tmps.getD 2 undef, .agg #[v0, v1, v2]]) w := by
  have c0 : w.cell? ⟨b1, 0, none⟩ = some v0 := by rw [cells_cell h]; rfl
  have c1 : w.cell? ⟨b1, 1, none⟩ = some v1 := by rw [cells_cell h]; rfl
  have c2 : w.cell? ⟨b1, 2, none⟩ = some v2 := by rw [cells_cell h]; rfl
  clear h
  have ht2 : tmps[3]?.getD undef = .pointer (some ⟨b1, 0, none⟩) := by simpa using ht
  clear ht
  simp [results, Tryz.results65, go_sem, ht2, c0, c1, c2]
theorem story_out {w : World} {b1 : Nat} {a : Act} {v0 v1 v2 : Value} {T : TypeId} {fz : Nat × Nat} {R : Ending → World → Prop} (h : w.heap[b1]? = some (.cells #[v0, v1, v2] T fz))
    (ht : a.tmps.getD 3 undef = .pointer (some ⟨b1, 0, none⟩)) (hd : a.defers = []) (hR : R (.returned (.tuple #[a.tmps.getD 2 undef, .agg #[v0, v1, v2]])) w) : bodyPost Tryz.prog Tryz.f65 R .ret a w :=
  bodyPost_ret (story_results h ht) hd hR
set_option maxHeartbeats 4000000 in
set_option maxRecDepth 100000 in
theorem story_w (W : World) (g : Gl W) (i : Nat) (hi : i < 5) : Calls Tryz.prog 65 #[.int .i64 (i : Int)] W fun e w' => ∃ r : MirR, e = .returned (.tuple #[.pointer (some ⟨r.mb, 0, none⟩), .agg #[.int .i64 (Ex37.hd i).key, .string ⟨(Ex37.hd i).text.toArray⟩, .int .i64 (Ex37.hd i).mark]]) ∧ MirAt W.heap.size w' r (Ex37.M2 i) ∧ Nw W w' := by
  have hgb := g.big
  obtain ⟨y1, y2, y3, -, -, -, -, ⟨y4, y5, y6, y7⟩, y8, y9⟩ := Ex37.says i hi
  have f1 : Hid (Mi.feed [] Ex37.B2 (Mi.fresh i) [[122]] [[99]] 5 = (0, Ex37.L1 i, Ex37.B3 i, Ex37.M1 i)) := by show Ex37.F1 i = _; rw [← y1]; rfl
  have f2 : Hid (Mi.feed (Ex37.L1 i) (Ex37.B4 i) (Ex37.M1 i) [[122]] [[99]] 8 = (0, Ex37.L2 i, Ex37.B5 i, Ex37.M2 i)) := by show Ex37.F2 i = _; rw [← y2]; rfl
  have f3 : Hid (Bk.head (Ex37.L2 i) (Ex37.B5 i) 8 = ((Ex37.hd i, 0), (Ex37.HD i).2.1, (Ex37.HD i).2.2)) := by show Ex37.HD i = _; rw [← y3]; rfl
  have Y4 := Lib.hid y4; have Y5 := Lib.hid y5; have Y8 := Lib.hid y8; have Y9 := Lib.hid y9
  clear y1 y2 y3 y4 y5 y6 y7 y8 y9
  have n0 := nw_alloc W zsO
  have k0 := heap_new W zsO
  have s0 : (W.alloc zsO).heap.size = W.heap.size + 1 := by simp
  obtain ⟨W1, hW1⟩ : ∃ W1, W.alloc zsO = W1 := ⟨_, rfl⟩
  have HW1 : Hid (W.alloc (.cells #[.int .i64 0, .string ⟨#[]⟩, .int .i64 0] tSigned) = W1) := hW1
  rw [hW1] at n0 k0 s0
  have N0 := Lib.hid n0; have K0 := Lib.hid k0; have S0 := Lib.hid s0
  have g1 := Lib.hid (g.upd n0)
  have hns := Lib.hid (new_s W1 g1.out)
  obtain ⟨bz, hbz⟩ : ∃ bz, W.heap.size = bz := ⟨_, rfl⟩
  have Hbz := Lib.hid hbz
  clear hW1 n0 k0 s0
  go_enter Tryz.func65, Tryz.ntmps65
  go_upto_region 1 with fail
  rw [HW1.out]
  (try rw [hbz])
  clear hbz
  go_wp2_with fail
  (with_reducible refine (hns.out).mono ?_)
  rintro _ w1 ⟨q, rfl, hq, u1⟩
  have G1 := Lib.hid (st_ring g1.out hq u1)
  have hm := Lib.hid (st_mir G1.out g1.out i (by omega))
  clear hns hq u1
  go_wp2_with fail
  (with_reducible refine (hm.out).mono ?_)
  rintro _ w2 ⟨mb, rfl, h2⟩
  have hb := Lib.hid (st_book h2 g1.out 3 (by decide))
  clear hm G1
  go_wp2_with fail
  (with_reducible refine (hb.out).mono ?_)
  rintro _ w3 ⟨bb, rfl, h3⟩
  clear hb h2
  obtain ⟨p, hp, e1, e2⟩ : ∃ p : StR, St3 W1 p [] (Mi.fresh i) (Bk.new 3) 3 (fun _ => False) w3 ∧ p.mb = mb ∧ p.bb = bb := ⟨_, h3, rfl, rfl⟩
  clear h3
  subst e1 e2
  have ha := Lib.hid (st_app hp g1.out ⟨#[49, 58, 97, 44]⟩ Ex37.ta rfl (by decide))
  clear hp
  go_wp2_with fail
  (with_reducible refine (ha.out).mono ?_)
  rintro _ w4 ⟨rfl, h4, -⟩
  have hb2 := Lib.hid (st_app (b := Ex37.B1) h4 g1.out ⟨#[49, 58, 98, 44]⟩ Ex37.tb rfl (by decide))
  clear ha h4
  go_wp2_with fail
  (with_reducible refine (hb2.out).mono ?_)
  rintro _ w5 ⟨rfl, h5, -⟩
  have hf := Lib.hid (st_feed2 (m := Mi.fresh i) (b := Ex37.B2) h5 g1.out 5 (by unfold I64; omega) (by decide) (by show (0 : Nat) ≤ _; omega) (by show (0 : Nat) ≤ _; omega) f1.out (n := w5.heap.size) rfl)
  clear hb2 h5
  go_wp2_with fail
  (with_reducible refine (hf.out).mono ?_)
  rintro _ w6 ⟨rfl, h6, -⟩
  have ha3 := Lib.hid (st_app (b := Ex37.B3 i) h6 g1.out ⟨#[49, 58, 100, 44]⟩ Ex37.td rfl (by decide))
  clear hf h6
  go_wp2_with fail
  (with_reducible refine (ha3.out).mono ?_)
  rintro _ w7 ⟨rfl, h7, -⟩
  have hf2 := Lib.hid (st_feed2 (b := Ex37.B4 i) h7 g1.out 8 (by unfold I64; omega) Y4.out Y8.out Y9.out f2.out (n := w7.heap.size) rfl)
  clear ha3 h7
  go_wp2_with fail
  (with_reducible refine (hf2.out).mono ?_)
  rintro _ w8 ⟨rfl, h8, -⟩
  have hh := Lib.hid (st_head0 h8 g1.out 8 (by unfold I64; omega) (Nat.le_trans Y5.out (by decide)) f3.out)
  clear hf2 h8
  go_wp2_with fail
  (with_reducible refine (hh.out).mono ?_)
  rintro _ w9 ⟨rfl, h9, -⟩
  clear hh f1 f2 f3 Y4 Y5 Y8 Y9
  generalize hye : Ex37.hd i = y at *
  have HYE := Lib.hid hye
  clear hye
  have n9 := nw_alloc w9 (ssO y)
  have k9 := heap_new w9 (ssO y)
  obtain ⟨wA, hwA⟩ : ∃ wA, w9.alloc (ssO y) = wA := ⟨_, rfl⟩
  have HWA : Hid (w9.alloc (.cells #[.int .i64 y.key, .string ⟨y.text.toArray⟩, .int .i64 y.mark] tSigned) = wA) := hwA
  obtain ⟨by9, hby⟩ : ∃ by9, w9.heap.size = by9 := ⟨_, rfl⟩
  have Hby := Lib.hid hby
  rw [hwA] at n9 k9
  rw [hby] at k9
  have hA := At.nw h9 n9
  have kz := Nw.keep hA.nw0 K0.out
  obtain ⟨r, hr1, hr2⟩ := st_mirAt hA
  have hlt := h9.nw0.size
  have HB : Hid (W1.heap.size = bz + 1 ∧ bz < by9 ∧ nG ≤ bz ∧ W1.heap.size ≤ by9) := by
    have h1 := S0.out; have h2 := Hbz.out
    refine ⟨by omega, by omega, by omega, by omega⟩
  rw [Hbz.out] at kz
  have HK9 := Lib.hid k9
  have HKZ := Lib.hid kz
  have HR := Lib.hid hr2
  have HNA := Lib.hid (N0.out.trans hA.nw0)
  have HSS : Hid (∀ z', Upd (fun k => k = bz) wA z' → z'.cell? ⟨by9, 0, none⟩ = some (.int .i64 y.key) ∧ z'.cell? ⟨by9, 1, none⟩ = some (.string ⟨y.text.toArray⟩) ∧ z'.cell? ⟨by9, 2, none⟩ = some (.int .i64 y.mark)) := fun z' u =>
    cell3 (u.keep HK9.out (by have := HB.out.2.1; omega))
  have HG := Lib.hid HB.out.2.2.1
  have ZF : Hid (∀ Z, Z = (((wA.setCell ⟨bz, 0, none⟩ (.int .i64 y.key)).setCell ⟨bz, 1, none⟩ (.string ⟨y.text.toArray⟩)).setCell ⟨bz, 2, none⟩ (.int .i64 y.mark)).drew → Z.heap[bz]? = some (ssO y) ∧ MirAt W.heap.size Z r (Ex37.M2 i) ∧ Nw W Z) := by
    rintro Z rfl
    have zd := (Upd.refl (fun _ => False) (((wA.setCell ⟨bz, 0, none⟩ (.int .i64 y.key)).setCell ⟨bz, 1, none⟩ (.string ⟨y.text.toArray⟩)).setCell ⟨bz, 2, none⟩ (.int .i64 y.mark))).drew
    have q1 : Upd (fun k => k = bz) wA (((wA.setCell ⟨bz, 0, none⟩ (.int .i64 y.key)).setCell ⟨bz, 1, none⟩ (.string ⟨y.text.toArray⟩)).setCell ⟨bz, 2, none⟩ (.int .i64 y.mark)) := Upd.set1 (Upd.set1 (Upd.set1 (Upd.refl _ _) HG.out 0 _) HG.out 1 _) HG.out 2 _
    refine ⟨Nw.keep zd (set3 HKZ.out), ((HR.out.upd q1 (fun k hk e => ?_)).nw zd).base (by have := HB.out.1; have := Hbz.out; omega) hgb, (HNA.out.trans' q1 (fun k hk e => by have := Hbz.out; omega)).trans zd⟩
    have := (HR.out.foot_lt hk).1
    have := HB.out.1
    omega
  have hd := HSS.out wA (Upd.refl _ _)
  have b0 := cells_frozen kz 0
  have b1 := cells_frozen kz 1
  have b2 := cells_frozen kz 2
  obtain ⟨_, _, _⟩ := cell3 kz
  obtain ⟨_, _, _⟩ := hd
  have hne : bz < by9 := HB.out.2.1
  have HR1 := Lib.hid hr1
  clear n9 hwA h9 hA kz hr2 hlt k9 hby hr1
  go_upto_region 14 with fail
  rw [HWA.out]
  (try rw [Hby.out])
  go_wp2_with fail
  go_region_held3 (fun z' => z'.cell? ⟨by9, 0, none⟩ = some (.int .i64 y.key) ∧ z'.cell? ⟨by9, 1, none⟩ = some (.string ⟨y.text.toArray⟩) ∧ z'.cell? ⟨by9, 2, none⟩ = some (.int .i64 y.mark)) (with_reducible first | exact HSS.out _ (by repeat (first | exact Upd.refl _ _ | refine Upd.drew ?_ | (refine Upd.setInK ?_ (by exact rfl) HG.out _ _)))) (fail)
  go_wp2_with fail
  (try simp only [Exit.inBlock, Exit.then])
  with_reducible refine story_out (ZF.out _ rfl).1 ?_ ?_ ?_
  · rfl
  · rfl
  · exact ⟨r, by rw [HR1.out, HYE.out]; rfl, (ZF.out _ rfl).2⟩
theorem size37_w {B : Nat} {w : World} {x : MirR} {m : Mi.Mir} (h : MirAt B w x m) (a b c d : Int) (ha : I64 a) (hb : I64 b) (hc : I64 c) (hd : I64 d) : Calls Tryz.prog 28 #[.pointer (some ⟨x.mb, 0, none⟩), .int .i64 a, .int .i64 b, .int .i64 c, .int .i64 d] w fun e w' =>
    e = .returned (.bool (decide (((m.l 0).length : Int) = a) && (decide (((m.l 1).length : Int) = b) && (decide (((m.l 2).length : Int) = c) && decide ((m.cs.length : Int) = d))))) ∧ Nw w w' := by
  have hs := Lib.hid (msize_w h)
  generalize ((m.l 0).length : Int) = p at *
  generalize ((m.l 1).length : Int) = q at *
  generalize ((m.l 2).length : Int) = r at *
  generalize (m.cs.length : Int) = s at *
  go_enter Tryz.func28, Tryz.ntmps28
  go_wp2_with fail
  (with_reducible refine (hs.out).mono ?_)
  rintro _ w1 ⟨rfl, u1⟩
  by_cases h1 : p = a
  rotate_left
  · have e1 : (p == a) = false := by simp [h1]
    have hz : Hid ((decide (p = a) && (decide (q = b) && (decide (r = c) && decide (s = d)))) = false) := by show _ = _; rw [decide_eq_false h1]; rfl
    clear h1
    go_wp2_with fail
    go_ret
    rw [hz.out]
    exact ⟨rfl, u1⟩
  by_cases h2 : q = b
  rotate_left
  · have e1 : (p == a) = true := by simp [h1]
    have e2 : (q == b) = false := by simp [h2]
    have hz : Hid ((decide (p = a) && (decide (q = b) && (decide (r = c) && decide (s = d)))) = false) := by show _ = _; rw [decide_eq_false h2, Bool.false_and, Bool.and_false]
    clear h1 h2
    go_wp2_with fail
    go_ret
    rw [hz.out]
    exact ⟨rfl, u1⟩
  by_cases h3 : r = c
  rotate_left
  · have e1 : (p == a) = true := by simp [h1]
    have e2 : (q == b) = true := by simp [h2]
    have e3 : (r == c) = false := by simp [h3]
    have hz : Hid ((decide (p = a) && (decide (q = b) && (decide (r = c) && decide (s = d)))) = false) := by show _ = _; rw [decide_eq_false h3, Bool.false_and, Bool.and_false, Bool.and_false]
    clear h1 h2 h3
    go_wp2_with fail
    go_ret
    rw [hz.out]
    exact ⟨rfl, u1⟩
  have e1 : (p == a) = true := by simp [h1]
  have e2 : (q == b) = true := by simp [h2]
  have e3 : (r == c) = true := by simp [h3]
  have hz : Hid ((decide (p = a) && (decide (q = b) && (decide (r = c) && decide (s = d)))) = (s == d)) := by show _ = _; rw [decide_eq_true h1, decide_eq_true h2, decide_eq_true h3, Bool.true_and, Bool.true_and, Bool.true_and]; rfl
  clear h1 h2 h3
  generalize hsd : (s == d) = bb at *
  go_wp2_with fail
  go_ret
  rw [hz.out]
  exact ⟨rfl, u1⟩
end Go.Proofs.YtagmlemlagbfkaaGreatDoor
namespace Go.Proofs.YtagmlemlagbfkaaGreatDoor
open Go.RowKit
set_option linter.unusedVariables false
set_option linter.unusedSimpArgs false
attribute [local irreducible] Calls

theorem mnew_no (k : Int) (hi : I64 k) (hk : ¬ (0 ≤ k ∧ k < 5)) (w : World) (g : Gl w) : Calls Tryz.prog 66 #[.int .i64 k] w fun e w' => e = .returned (.pointer none) ∧ Nw w w' := by
  refine (mnew_w k hi w g).mono ?_
  rintro e w' (⟨h1, h2, -⟩ | ⟨-, h⟩)
  · exact absurd ⟨h1, h2⟩ hk
  · exact h
theorem ans_one {B : Nat} {w : World} {x : MirR} {m : Mi.Mir} (h : MirAt B w x m) (g : Gl w) (q : Mi.Ques) (hq : QOk q) {l : List Bk.Sgn} (hl : (Mi.answer m q).claims = l) {k : Nat} (hk : l.length = k) : Calls Tryz.prog 13 #[.pointer (some ⟨x.mb, 0, none⟩), qV q] w fun e w' =>
    ∃ a c t b, e = .returned (.agg #[.slice a k c, .string t, .bool b]) ∧ w'.ownsRow w.heap.size tSigned 3 (.slice a k c) k (flatS l) ∧ Nw w w' := by
  subst hl hk
  refine (answer_w h g q hq).mono ?_
  rintro e w' ⟨v', rfl, o, u⟩
  obtain ⟨a, c, rfl⟩ := own_slG o
  exact ⟨a, c, _, _, rfl, o, u⟩
theorem q37_ok (k n : Int) (hk : I64 k) (hn : I64 n) : QOk ⟨k, n, []⟩ := ⟨hk, hn, Nat.zero_le _⟩
/-- The three lists of the example. -/
def Lists37 (b1 b2 b3 : Nat) (z : World) : Prop := ∀ i, i < 5 → z.cell? ⟨b1, i, none⟩ = some (.int .i64 (i : Int)) ∧ z.cell? ⟨b2, i, none⟩ = some (.string ⟨(Ex37.heads.getD i []).toArray⟩) ∧ z.cell? ⟨b3, i, none⟩ = some (.int .i64 (Ex37.told.getD i 0 : Nat))
abbrev o371 : Obj := .cells #[.int .i64 0, .int .i64 1, .int .i64 2, .int .i64 3, .int .i64 4] 3
abbrev o372 : Obj := .cells #[.string ⟨#[49, 59, 51, 59, 56, 59, 48, 58, 44]⟩, .string ⟨#[49, 59, 50, 59, 53, 59, 48, 58, 44]⟩, .string ⟨#[49, 59, 50, 59, 53, 59, 48, 58, 44]⟩, .string ⟨#[49, 59, 50, 59, 53, 59, 48, 58, 44]⟩, .string ⟨#[49, 59, 51, 59, 56, 59, 48, 58, 44, 120]⟩] 9
abbrev o373 : Obj := .cells #[.int .i64 1, .int .i64 0, .int .i64 0, .int .i64 1, .int .i64 1] 3
theorem lists37 (W : World) : Nw W (((W.alloc o371).alloc o372).alloc o373) ∧ ∀ z, Nw (((W.alloc o371).alloc o372).alloc o373) z → Lists37 W.heap.size (W.heap.size + 1) (W.heap.size + 2) z := by
  have n1 := nw_alloc W o371
  have k1 := heap_new W o371
  have s1 : (W.alloc o371).heap.size = W.heap.size + 1 := by simp
  generalize W.alloc o371 = W1 at *
  have n2 := nw_alloc W1 o372
  have k2 := heap_new W1 o372
  have s2 : (W1.alloc o372).heap.size = W1.heap.size + 1 := by simp
  generalize W1.alloc o372 = W2 at *
  have n3 := nw_alloc W2 o373
  have k3 := heap_new W2 o373
  generalize W2.alloc o373 = W3 at *
  rw [s1] at k2 s2
  rw [s2] at k3
  refine ⟨(n1.trans n2).trans n3, fun z u i hi => ?_⟩
  have q1 := Nw.keep ((n2.trans n3).trans u) k1
  have q2 := Nw.keep (n3.trans u) k2
  have q3 := Nw.keep u k3
  rw [cells_cell q1, cells_cell q2, cells_cell q3]
  match i, hi with
  | 0, _ => exact ⟨rfl, rfl, rfl⟩
  | 1, _ => exact ⟨rfl, rfl, rfl⟩
  | 2, _ => exact ⟨rfl, rfl, rfl⟩
  | 3, _ => exact ⟨rfl, rfl, rfl⟩
  | 4, _ => exact ⟨rfl, rfl, rfl⟩
set_option maxHeartbeats 4000000 in
set_option maxRecDepth 100000 in
theorem small37_w (W : World) (g : Gl W) : Calls Tryz.prog 8 #[] W fun e w' => e = .returned (.bool true) ∧ Nw W w' := by
  obtain ⟨n3, hL⟩ := lists37 W
  obtain ⟨W3, hW3⟩ : ∃ W3, ((W.alloc o371).alloc o372).alloc o373 = W3 := ⟨_, rfl⟩
  have HW3 : Hid (((W.alloc (.cells #[.int .i64 0, .int .i64 1, .int .i64 2, .int .i64 3, .int .i64 4] 3)).alloc (.cells #[.string ⟨#[49, 59, 51, 59, 56, 59, 48, 58, 44]⟩, .string ⟨#[49, 59, 50, 59, 53, 59, 48, 58, 44]⟩, .string ⟨#[49, 59, 50, 59, 53, 59, 48, 58, 44]⟩, .string ⟨#[49, 59, 50, 59, 53, 59, 48, 58, 44]⟩, .string ⟨#[49, 59, 51, 59, 56, 59, 48, 58, 44, 120]⟩] 9)).alloc (.cells #[.int .i64 1, .int .i64 0, .int .i64 0, .int .i64 1, .int .i64 1] 3) = W3) := hW3
  rw [hW3] at n3 hL
  have N3 := Lib.hid n3
  have HL := Lib.hid hL
  have G3 := Lib.hid (g.upd n3)
  obtain ⟨bz, hbz⟩ : ∃ bz, W.heap.size = bz := ⟨_, rfl⟩
  rw [hbz] at HL
  have hK0 : Hid (Nw W3 W3) := Upd.refl _ _
  clear hW3 n3 hL
  go_enter Tryz.func8, Tryz.ntmps8
  go_upto_region 4 with fail
  rw [HW3.out]
  (try rw [hbz])
  clear hbz
  go_wp2_with fail
  go_loopw [4] (fun iv wr => ∃ i : Nat, i ≤ 5 ∧ iv = .int .i64 (i : Int) ∧ Hid (Nw W3 wr)) (fun iv _ => 5 - (intOf iv).toNat)
  case atStart => exact ⟨0, Nat.zero_le _, rfl, hK0.out⟩
  case round =>
    obtain ⟨i, hi, rfl, HK⟩ := hrel
    by_cases hlt : i < 5
    · have hlt1 : (i : Int) < 5 := by omega
      obtain ⟨y1, y2, y3, y4, y5, y6, y7, -, -, -⟩ := Ex37.says i hlt
      obtain ⟨l1, l2, l3⟩ := HL.out wr HK.out i hlt
      have hst := Lib.hid (story_w wr (G3.out.upd HK.out) i hlt)
      obtain ⟨wJ, rfl⟩ : ∃ w, w = wr := ⟨_, rfl⟩
      go_wp2_with fail
      (with_reducible refine (hst.out).mono ?_)
      rintro _ w1 ⟨r, rfl, hr, u1⟩
      obtain ⟨s, hs1, hs2⟩ : ∃ s, (Mi.answer (Ex37.M2 i) Ex37.q1).claims = [s] ∧ s.text = Ex37.heads.getD i [] := by
        cases hc : (Mi.answer (Ex37.M2 i) Ex37.q1).claims with
        | nil => rw [hc] at y5; cases y5
        | cons s l =>
          rw [hc] at y5
          cases l with
          | nil => exact ⟨s, rfl, by simpa using y5⟩
          | cons _ _ => simp at y5
      have hs4 : i = 4 → s.mark = (Ex37.hd i).mark := fun e => by have := y7 e; rw [hs1] at this; simpa using this
      have HSz := Lib.hid y4
      have HS4 := Lib.hid hs4
      have HST := Lib.hid hs2
      obtain ⟨l2', hl2'⟩ : ∃ l2', (Mi.answer (Ex37.M2 i) Ex37.q2).claims = l2' := ⟨_, rfl⟩
      rw [hl2'] at y6
      generalize hye : Ex37.hd i = y at *
      have HYE := Lib.hid hye
      have nA := nw_alloc w1 (ssO y)
      have kA := heap_new w1 (ssO y)
      obtain ⟨wA, hwA⟩ : ∃ wA, w1.alloc (ssO y) = wA := ⟨_, rfl⟩
      have HWA : Hid (w1.alloc (.cells #[.int .i64 y.key, .string ⟨y.text.toArray⟩, .int .i64 y.mark] tSigned) = wA) := hwA
      rw [hwA] at nA kA
      obtain ⟨bh, hbh⟩ : ∃ bh, w1.heap.size = bh := ⟨_, rfl⟩
      have Hbh := Lib.hid hbh
      rw [hbh] at kA
      have HRA := Lib.hid (hr.nw nA)
      have HNA : Hid (Nw wJ wA) := u1.trans nA
      have HKA := Lib.hid kA
      have gA := G3.out.upd (HK.out.trans HNA.out)
      have HQ1 : Hid (Calls Tryz.prog 13 #[.pointer (some ⟨r.mb, 0, none⟩), .agg #[.int .i64 0, .int .i64 0, .string ⟨#[]⟩]] wA fun e w' => ∃ a c t b, e = .returned (.agg #[.slice a 1 c, .string t, .bool b]) ∧ w'.ownsRow wA.heap.size tSigned 3 (.slice a 1 c) 1 (flatS [s]) ∧ Nw wA w') :=
        ans_one HRA.out gA Ex37.q1 (q37_ok 0 0 (by unfold I64; omega) (by unfold I64; omega)) hs1 rfl
      have HQ2 : Hid (∀ z, Nw wA z → Calls Tryz.prog 13 #[.pointer (some ⟨r.mb, 0, none⟩), .agg #[.int .i64 1, .int .i64 2, .string ⟨#[]⟩]] z fun e w' => ∃ a c t b, e = .returned (.agg #[.slice a (Ex37.told.getD i 0) c, .string t, .bool b]) ∧ w'.ownsRow z.heap.size tSigned 3 (.slice a (Ex37.told.getD i 0) c) (Ex37.told.getD i 0) (flatS l2') ∧ Nw z w') := fun z u =>
        ans_one (HRA.out.nw u) (gA.upd u) Ex37.q2 (q37_ok 1 2 (by unfold I64; omega) (by unfold I64; omega)) hl2' y6
      clear y1 y2 y3 y4 y5 y6 y7 hs1 hs2 hs4 hl2' hr u1 hye hbh nA kA gA hst hwA
      go_upto_region 8 with fail
      rw [HWA.out]
      (try rw [Hbh.out])
      go_wp2_with fail
      (with_reducible refine (HQ1.out).mono ?_)
      rintro _ w2 ⟨a1, c1, t1, b1, rfl, o1, u2⟩
      have nB := nw_alloc w2 (.cells #[.slice a1 1 c1, .string t1, .bool b1] tAns)
      have kB := heap_new w2 (.cells #[.slice a1 1 c1, .string t1, .bool b1] tAns)
      obtain ⟨wB, hwB⟩ : ∃ wB, w2.alloc (.cells #[.slice a1 1 c1, .string t1, .bool b1] tAns) = wB := ⟨_, rfl⟩
      have HWB := Lib.hid hwB
      rw [hwB] at nB kB
      obtain ⟨ba, hba⟩ : ∃ ba, w2.heap.size = ba := ⟨_, rfl⟩
      have Hba := Lib.hid hba
      rw [hba] at kB
      have HNB : Hid (Nw wA wB) := u2.trans nB
      have HKB := Lib.hid kB
      have hO1 := owns_upd' o1 nB (fun _ _ e => e)
      obtain ⟨g1, rfl, -, -, ⟨-, d1, d2⟩, -, -⟩ := own_forge hO1 (g.upd (N3.out.trans (HK.out.trans HNA.out))).big
      have HD1 := Lib.hid d1
      have HD2 := Lib.hid d2
      have HQ3 := Lib.hid (HQ2.out wB HNB.out)
      clear HQ1 HQ2 hwB hba nB kB o1 u2 hO1 d1 d2
      go_upto_region 11 with fail
      rw [HWB.out]
      (try rw [Hba.out])
      go_wp2_with fail
      (with_reducible refine (HQ3.out).mono ?_)
      rintro _ w3 ⟨a2, c2, t2, b2, rfl, o2, u3⟩
      generalize hk2 : Ex37.told.getD i 0 = k2 at *
      have nC := nw_alloc w3 (.cells #[.slice a2 k2 c2, .string t2, .bool b2] tAns)
      have kC := heap_new w3 (.cells #[.slice a2 k2 c2, .string t2, .bool b2] tAns)
      obtain ⟨wC, hwC⟩ : ∃ wC, w3.alloc (.cells #[.slice a2 k2 c2, .string t2, .bool b2] tAns) = wC := ⟨_, rfl⟩
      have HWC := Lib.hid hwC
      rw [hwC] at nC kC
      obtain ⟨bb, hbb⟩ : ∃ bb, w3.heap.size = bb := ⟨_, rfl⟩
      have Hbb := Lib.hid hbb
      rw [hbb] at kC
      have HNC : Hid (Nw wB wC) := u3.trans nC
      have HKC := Lib.hid kC
      have HNJ : Hid (Nw wJ wC) := HNA.out.trans (HNB.out.trans HNC.out)
      have hkk : ((k2 : Int) == (k2 : Int)) = true := beq_self_eq_true _
      clear HQ3 hwC hbb nC kC o2 u3
      have e1 : ∀ t : Later wC, t.1.cell? ⟨ba, 0, none⟩ = some (.slice (some ⟨g1, 0, none⟩) 1 c1) := fun t => later_cell t (by rw [cells_cell (Nw.keep HNC.out HKB.out)]; rfl)
      have e2 : ∀ t : Later wC, t.1.cell? ⟨bb, 0, none⟩ = some (.slice a2 k2 c2) := fun t => later_cell t (by rw [cells_cell HKC.out]; rfl)
      have e3 : ∀ t : Later wC, t.1.cell? ⟨bz + 2, i, none⟩ = some (.int .i64 (k2 : Int)) := fun t => by rw [← hk2]; exact (HL.out t.1 (HK.out.trans (HNJ.out.trans t.nw)) i hlt).2.2
      go_upto_region 12 with fail
      rw [HWC.out]
      (try rw [Hbb.out])
      refine wp_region_nw (by kernel_rfl) (by kernel_rfl) ?_
      repeat (go_big_quiet_step ((fail)))
      refine wpQuiet_nil ?_
      intro w5 u5
      replace u5 := later_out u5
      have HN5 : Hid (Nw wA w5) := HNB.out.trans (HNC.out.trans u5)
      have HU5 := Lib.hid u5
      obtain ⟨T, hT⟩ : ∃ T, Ex37.heads.getD i [] = T := ⟨_, rfl⟩
      have HT := Lib.hid hT
      have hTT : (T == T) = true := beq_self_eq_true _
      have HSZ := fun (a b c d : Int) ha hb hc hd (z : World) (u : Nw w5 z) => size37_w (HRA.out.nw (HN5.out.trans u)) a b c d ha hb hc hd
      have hszs : Hid (if i = 1 then ((Ex37.M2 i).l 0).length = 2 ∧ ((Ex37.M2 i).l 1).length = 1 ∧ ((Ex37.M2 i).l 2).length = 1 ∧ (Ex37.M2 i).cs.length = 1 else ((Ex37.M2 i).l 0).length = 3 ∧ ((Ex37.M2 i).l 1).length = 2 ∧ ((Ex37.M2 i).l 2).length = 2 ∧ (Ex37.M2 i).cs.length = 1) := by
        have h := HSz.out
        unfold Ex37.sizes at h
        show ite _ _ _
        split at h <;> rename_i h1
        · rw [if_pos h1]; simpa using h
        · rw [if_neg h1]; simpa using h
      clear e1 e2 e3 u5 hk2 hT
      by_cases h1 : i = 1
      · have hs := hszs.out
        rw [if_pos h1] at hs
        obtain ⟨q0, q1, q2, q3⟩ := hs
        have HS5 : Hid (Calls Tryz.prog 28 #[.pointer (some ⟨r.mb, 0, none⟩), .int .i64 3, .int .i64 2, .int .i64 2, .int .i64 1] w5 fun e w' => e = .returned (.bool false) ∧ Nw w5 w') := by
          have := HSZ 3 2 2 1 (by unfold I64; omega) (by unfold I64; omega) (by unfold I64; omega) (by unfold I64; omega) w5 (Upd.refl _ _)
          rw [q0, q1, q2, q3] at this
          exact this
        have HS6 : Hid (∀ z, Nw w5 z → Calls Tryz.prog 28 #[.pointer (some ⟨r.mb, 0, none⟩), .int .i64 2, .int .i64 1, .int .i64 1, .int .i64 1] z fun e w' => e = .returned (.bool true) ∧ Nw z w') := fun z u => by
          have := HSZ 2 1 1 1 (by unfold I64; omega) (by unfold I64; omega) (by unfold I64; omega) (by unfold I64; omega) z u
          rw [q0, q1, q2, q3] at this
          exact this
        have hb1 : ((i : Int) == 1) = true := by simp [h1]
        have hb4 : ((i : Int) == 4) = false := by simp [h1]
        have hsm : True := trivial
        clear HSZ hszs q0 q1 q2 q3 h1
        go_wp2_with fail
        (with_reducible refine (HS5.out).mono ?_)
        rintro _ w6 ⟨rfl, u6⟩
        have e4 := (HL.out w6 (HK.out.trans (HNJ.out.trans (HU5.out.trans u6))) i hlt).1
        have HS7 := Lib.hid (HS6.out w6 u6)
        have HU6 := Lib.hid (HU5.out.trans u6)
        clear HS5 HS6 u6
        go_wp2_with fail
        (with_reducible refine (HS7.out).mono ?_)
        rintro _ w7 ⟨rfl, u7⟩
        have HU7 : Hid (Nw wC w7) := HU6.out.trans u7
        clear HS7 u7 e4
        go_wp2_with fail
        -- the last test, at the world w7 (behind wC by HU7.out)
        have f0 : ∀ t : Later w7, t.1.cell? ⟨bz, i, none⟩ = some (.int .i64 (i : Int)) := fun t => (HL.out t.1 (HK.out.trans (HNJ.out.trans (Nw.trans HU7.out t.nw))) i hlt).1
        have f1 : ∀ t : Later w7, t.1.cell? ⟨bz + 1, i, none⟩ = some (.string ⟨T.toArray⟩) := fun t => by rw [← HT.out]; exact (HL.out t.1 (HK.out.trans (HNJ.out.trans (Nw.trans HU7.out t.nw))) i hlt).2.1
        have f2 : ∀ t : Later w7, t.1.cell? ⟨ba, 0, none⟩ = some (.slice (some ⟨g1, 0, none⟩) 1 c1) := fun t => by rw [cells_cell (Nw.keep (HNC.out.trans (Nw.trans HU7.out t.nw)) HKB.out)]; rfl
        have f3 : ∀ t : Later w7, t.1.cell? ⟨g1, 1, none⟩ = some (.string ⟨T.toArray⟩) := fun t => by rw [← HT.out, ← HST.out]; exact later_cell ⟨t.1, HNC.out.trans (Nw.trans HU7.out t.nw)⟩ HD1.out
        have f4 : ∀ t : Later w7, t.1.cell? ⟨g1, 2, none⟩ = some (.int .i64 s.mark) := fun t => later_cell ⟨t.1, HNC.out.trans (Nw.trans HU7.out t.nw)⟩ HD2.out
        have f5 : ∀ t : Later w7, t.1.cell? ⟨bh, 2, none⟩ = some (.int .i64 y.mark) := fun t => by rw [cells_cell (Nw.keep (HNB.out.trans (HNC.out.trans (Nw.trans HU7.out t.nw))) HKA.out)]; rfl
        (try rw [hsm] at f4)
        refine wp_region_nw (by kernel_rfl) (by kernel_rfl) ?_
        repeat (go_big_quiet_step ((fail)))
        refine wpQuiet_nil ?_
        intro w9 u9
        replace u9 := later_out u9
        have hz : Hid (Nw W3 w9) := HK.out.trans (HNJ.out.trans (Nw.trans HU7.out u9))
        clear f0 f1 f2 f3 f4 f5 u9
        go_wp2_with fail
        go_roundw
        case rel => exact ⟨i + 1, by omega, by go_num, hz.out⟩
        case measure => simp [intOf]; omega
      · have hs := hszs.out
        rw [if_neg h1] at hs
        obtain ⟨q0, q1, q2, q3⟩ := hs
        have HS5 : Hid (Calls Tryz.prog 28 #[.pointer (some ⟨r.mb, 0, none⟩), .int .i64 3, .int .i64 2, .int .i64 2, .int .i64 1] w5 fun e w' => e = .returned (.bool true) ∧ Nw w5 w') := by
          have := HSZ 3 2 2 1 (by unfold I64; omega) (by unfold I64; omega) (by unfold I64; omega) (by unfold I64; omega) w5 (Upd.refl _ _)
          rw [q0, q1, q2, q3] at this
          exact this
        have hb1 : ((i : Int) == 1) = false := by simp; omega
        clear HSZ hszs q0 q1 q2 q3
        go_wp2_with fail
        (with_reducible refine (HS5.out).mono ?_)
        rintro _ w6 ⟨rfl, u6⟩
        have e4 := (HL.out w6 (HK.out.trans (HNJ.out.trans (HU5.out.trans u6))) i hlt).1
        have HU6 : Hid (Nw wC w6) := HU5.out.trans u6
        clear HS5 u6 h1
        by_cases h4 : i = 4
        · have hb4 : ((i : Int) == 4) = true := by simp [h4]
          have hsm : s.mark = y.mark := HS4.out h4
          have hyy : (y.mark == y.mark) = true := beq_self_eq_true _
          clear h4
          go_wp2_with fail
          clear e4
          -- the last test, at the world w6 (behind wC by HU6.out)
          have f0 : ∀ t : Later w6, t.1.cell? ⟨bz, i, none⟩ = some (.int .i64 (i : Int)) := fun t => (HL.out t.1 (HK.out.trans (HNJ.out.trans (Nw.trans HU6.out t.nw))) i hlt).1
          have f1 : ∀ t : Later w6, t.1.cell? ⟨bz + 1, i, none⟩ = some (.string ⟨T.toArray⟩) := fun t => by rw [← HT.out]; exact (HL.out t.1 (HK.out.trans (HNJ.out.trans (Nw.trans HU6.out t.nw))) i hlt).2.1
          have f2 : ∀ t : Later w6, t.1.cell? ⟨ba, 0, none⟩ = some (.slice (some ⟨g1, 0, none⟩) 1 c1) := fun t => by rw [cells_cell (Nw.keep (HNC.out.trans (Nw.trans HU6.out t.nw)) HKB.out)]; rfl
          have f3 : ∀ t : Later w6, t.1.cell? ⟨g1, 1, none⟩ = some (.string ⟨T.toArray⟩) := fun t => by rw [← HT.out, ← HST.out]; exact later_cell ⟨t.1, HNC.out.trans (Nw.trans HU6.out t.nw)⟩ HD1.out
          have f4 : ∀ t : Later w6, t.1.cell? ⟨g1, 2, none⟩ = some (.int .i64 s.mark) := fun t => later_cell ⟨t.1, HNC.out.trans (Nw.trans HU6.out t.nw)⟩ HD2.out
          have f5 : ∀ t : Later w6, t.1.cell? ⟨bh, 2, none⟩ = some (.int .i64 y.mark) := fun t => by rw [cells_cell (Nw.keep (HNB.out.trans (HNC.out.trans (Nw.trans HU6.out t.nw))) HKA.out)]; rfl
          (try rw [hsm] at f4)
          refine wp_region_nw (by kernel_rfl) (by kernel_rfl) ?_
          repeat (go_big_quiet_step ((fail)))
          refine wpQuiet_nil ?_
          intro w9 u9
          replace u9 := later_out u9
          have hz : Hid (Nw W3 w9) := HK.out.trans (HNJ.out.trans (Nw.trans HU6.out u9))
          clear f0 f1 f2 f3 f4 f5 u9
          go_wp2_with fail
          go_roundw
          case rel => exact ⟨i + 1, by omega, by go_num, hz.out⟩
          case measure => simp [intOf]; omega
        · have hb4 : ((i : Int) == 4) = false := by simp; omega
          have hsm : True := trivial
          clear h4
          go_wp2_with fail
          clear e4
          -- the last test, at the world w6 (behind wC by HU6.out)
          have f0 : ∀ t : Later w6, t.1.cell? ⟨bz, i, none⟩ = some (.int .i64 (i : Int)) := fun t => (HL.out t.1 (HK.out.trans (HNJ.out.trans (Nw.trans HU6.out t.nw))) i hlt).1
          have f1 : ∀ t : Later w6, t.1.cell? ⟨bz + 1, i, none⟩ = some (.string ⟨T.toArray⟩) := fun t => by rw [← HT.out]; exact (HL.out t.1 (HK.out.trans (HNJ.out.trans (Nw.trans HU6.out t.nw))) i hlt).2.1
          have f2 : ∀ t : Later w6, t.1.cell? ⟨ba, 0, none⟩ = some (.slice (some ⟨g1, 0, none⟩) 1 c1) := fun t => by rw [cells_cell (Nw.keep (HNC.out.trans (Nw.trans HU6.out t.nw)) HKB.out)]; rfl
          have f3 : ∀ t : Later w6, t.1.cell? ⟨g1, 1, none⟩ = some (.string ⟨T.toArray⟩) := fun t => by rw [← HT.out, ← HST.out]; exact later_cell ⟨t.1, HNC.out.trans (Nw.trans HU6.out t.nw)⟩ HD1.out
          have f4 : ∀ t : Later w6, t.1.cell? ⟨g1, 2, none⟩ = some (.int .i64 s.mark) := fun t => later_cell ⟨t.1, HNC.out.trans (Nw.trans HU6.out t.nw)⟩ HD2.out
          have f5 : ∀ t : Later w6, t.1.cell? ⟨bh, 2, none⟩ = some (.int .i64 y.mark) := fun t => by rw [cells_cell (Nw.keep (HNB.out.trans (HNC.out.trans (Nw.trans HU6.out t.nw))) HKA.out)]; rfl
          (try rw [hsm] at f4)
          refine wp_region_nw (by kernel_rfl) (by kernel_rfl) ?_
          repeat (go_big_quiet_step ((fail)))
          refine wpQuiet_nil ?_
          intro w9 u9
          replace u9 := later_out u9
          have hz : Hid (Nw W3 w9) := HK.out.trans (HNJ.out.trans (Nw.trans HU6.out u9))
          clear f0 f1 f2 f3 f4 f5 u9
          go_wp2_with fail
          go_roundw
          case rel => exact ⟨i + 1, by omega, by go_num, hz.out⟩
          case measure => simp [intOf]; omega
    · obtain rfl : i = 5 := by omega
      have hn1 := Lib.hid (fun (z : World) (u : Nw W3 z) => mnew_no (-1) (by unfold I64; omega) (by omega) z (G3.out.upd u))
      have hn5 := Lib.hid (fun (z : World) (u : Nw W3 z) => mnew_no 5 (by unfold I64; omega) (by omega) z (G3.out.upd u))
      have h1 := Lib.hid (hn1.out wr HK.out)
      obtain ⟨wJ, rfl⟩ : ∃ w, w = wr := ⟨_, rfl⟩
      go_wp2_with fail
      (with_reducible refine (h1.out).mono ?_)
      rintro _ w6 ⟨rfl, u6⟩
      have h2 := Lib.hid (hn5.out w6 (HK.out.trans u6))
      have HU6 : Hid (Nw W w6) := N3.out.trans (HK.out.trans u6)
      clear h1 u6 hn1 hn5
      go_wp2_with fail
      (with_reducible refine (h2.out).mono ?_)
      rintro _ w7 ⟨rfl, u7⟩
      have HU7 : Hid (Nw W w7) := HU6.out.trans u7
      clear h2 u7
      go_wp2_with fail
      go_ret
      exact ⟨rfl, HU7.out⟩
end Go.Proofs.YtagmlemlagbfkaaGreatDoor
