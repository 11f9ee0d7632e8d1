/- Chapter 37: the documentation's example, called. -/
import Derived.Test.YtkhdnfmnnapjlaaDoorMirM
import Derived.Test.YtkhdnfmnnapjlaaDoorMirY
namespace Go.Proofs.YtkhdnfmnnapjlaaDoor
open Go.RowKit
set_option linter.unusedVariables false
set_option linter.unusedSimpArgs false
attribute [local irreducible] Calls

theorem own_lit1 {w : World} {b B : Nat} {t : List UInt8} (hb : w.heap[b]? = some (.cells #[bsM t] tStrM (0, 0))) (hB : B ≤ b) : w.ownsRow B tStrM 1 (.slice (some ⟨b, 0, none⟩) 1 1) 1 [bsM t] :=
  ⟨by simp, Or.inr ⟨_, _, _, rfl, hB, hb, Nat.le_refl _, by unfold maxLen; decide, by simp, by simp⟩⟩
/-- Feed with the key z and the content c, laid anew. -/
theorem st_feed2 {W : World} {p : StR} {L L' : List Bk.Seal} {m m' : Mi.Mir} {b b' : Bk.Book} {z : World} (h : St3 W p L m b 3 (fun _ => False) z) (g : Gl W) (now : Int) (hn : I64 now) (hL : L.length ≤ 100) (hl1 : (m.l 1).length ≤ 100) (hl2 : (m.l 2).length ≤ 100)
    (he : Mi.feed L b m [[122]] [[99]] now = (0, L', b', m')) {n : Nat} (hz : z.heap.size = n) :
    Calls Tryd.prog 19 #[.pointer (some ⟨p.mb, 0, none⟩), .pointer (some ⟨p.bb, 0, none⟩), .slice (some ⟨n, 0, none⟩) 1 1, .slice (some ⟨n + 1, 0, none⟩) 1 1, .int .i64 now] ((z.alloc (.cells #[.string ⟨#[122]⟩] tStrM)).alloc (.cells #[.string ⟨#[99]⟩] tStrM)) fun e z' =>
      e = .returned (.int .i64 0) ∧ St3 W p L' m' b' 3 (fun _ => False) z' ∧ MovesN W (fun _ => False) z z' := by
  subst hz
  have n1 := nw_alloc z (.cells #[.string ⟨#[122]⟩] tStrM)
  have k1 := heap_new z (.cells #[.string ⟨#[122]⟩] tStrM)
  have s1 : (z.alloc (.cells #[.string ⟨#[122]⟩] tStrM)).heap.size = z.heap.size + 1 := by simp
  generalize z.alloc (.cells #[.string ⟨#[122]⟩] tStrM) = z1 at *
  have n2 := nw_alloc z1 (.cells #[.string ⟨#[99]⟩] tStrM)
  have k2 := heap_new z1 (.cells #[.string ⟨#[99]⟩] tStrM)
  have s2 : (z1.alloc (.cells #[.string ⟨#[99]⟩] tStrM)).heap.size = z1.heap.size + 1 := by simp
  generalize z1.alloc (.cells #[.string ⟨#[99]⟩] tStrM) = z2 at *
  rw [s1] at k2
  replace k1 := Nw.keep n2 k1
  have u := n1.trans n2
  have hW := h.nw0.size
  have hK := At.keep h (F' := fun k => k = z.heap.size ∨ k = z.heap.size + 1) u (fun j hj => Or.inr (by omega))
  have hf := st_feed hK g [[122]] [[99]] now hn (by simp; omega) (by omega) (by simp; omega) ⟨by decide, fun s hs => by rw [List.mem_singleton.1 hs]; decide⟩ (fun s hs => by rw [List.mem_singleton.1 hs]; decide) (.slice (some ⟨z.heap.size, 0, none⟩) 1 1) (.slice (some ⟨z.heap.size + 1, 0, none⟩) 1 1) z.heap.size
    (fun z' mv => ⟨_, _, Sl.of_owns (own_lit1 (B := z.heap.size) (t := [122]) (mv.keep k1 (fun e => e.1 (Or.inl rfl))) (Nat.le_refl _))⟩)
    (fun z' mv => own_lit1 (t := [99]) (mv.keep k2 (fun e => e.1 (Or.inr rfl))) (by omega))
  rw [he] at hf
  refine hf.mono ?_
  rintro e z' ⟨q, h', mv⟩
  exact ⟨q, h'.less (fun k hk => hk.elim), (Nw.upd _ u).trans (mv.mono (fun k _ e => ⟨fun f => f, e.2⟩))⟩
theorem st_head0 {W : World} {p : StR} {L L' : List Bk.Seal} {m : Mi.Mir} {b b' : Bk.Book} {F : Nat → Prop} {z : World} {y : Bk.Sgn} (h : St3 W p L m b 3 F z) (g : Gl W) (now : Int) (hn : I64 now) (hL : L.length ≤ 1000000) (he : Bk.head L b now = ((y, 0), L', b')) : Calls Tryd.prog 29 #[.pointer (some ⟨p.bb, 0, none⟩), .int .i64 now] z fun e z' =>
    e = .returned (.tuple #[.agg #[.int .i64 y.key, .string ⟨y.text.toArray⟩, .int .i64 y.mark], .int .i64 0]) ∧ St3 W p L' m b' 3 F z' ∧ MovesN W F z z' := by
  have := st_head h g now hn hL
  rw [he] at this
  exact this
theorem story_results {w : World} {b1 : Nat} {tmps : Array Value} {v0 v1 v2 : Value} {T : TypeId} {fz : Nat × Nat} (h : w.heap[b1]? = some (.cells #[v0, v1, v2] T fz)) (ht : tmps.getD 3 undef = .pointer (some ⟨b1, 0, none⟩)) :
    (results Tryd.f36 tmps).run Tryd.prog w = .ok (.tuple #[tmps.getD 2 undef, .agg #[v0, v1, v2]]) w := by
  have c0 : w.cell? ⟨b1, 0, none⟩ = some v0 := by rw [cells_cell h]; rfl
  have c1 : w.cell? ⟨b1, 1, none⟩ = some v1 := by rw [cells_cell h]; rfl
  have c2 : w.cell? ⟨b1, 2, none⟩ = some v2 := by rw [cells_cell h]; rfl
  clear h
  have ht2 : tmps[3]?.getD undef = .pointer (some ⟨b1, 0, none⟩) := by simpa using ht
  clear ht
  simp [results, Tryd.results36, go_sem, ht2, c0, c1, c2]
theorem story_out {w : World} {b1 : Nat} {a : Act} {v0 v1 v2 : Value} {T : TypeId} {fz : Nat × Nat} {R : Ending → World → Prop} (h : w.heap[b1]? = some (.cells #[v0, v1, v2] T fz))
    (ht : a.tmps.getD 3 undef = .pointer (some ⟨b1, 0, none⟩)) (hd : a.defers = []) (hR : R (.returned (.tuple #[a.tmps.getD 2 undef, .agg #[v0, v1, v2]])) w) : bodyPost Tryd.prog Tryd.f36 R .ret a w :=
  bodyPost_ret (story_results h ht) hd hR
set_option maxHeartbeats 4000000 in
set_option maxRecDepth 100000 in
theorem story_w (W : World) (g : Gl W) (i : Nat) (hi : i < 5) : Calls Tryd.prog 36 #[.int .i64 (i : Int)] W fun e w' => ∃ r : MirR, e = .returned (.tuple #[.pointer (some ⟨r.mb, 0, none⟩), .agg #[.int .i64 (Ex37.hd i).key, .string ⟨(Ex37.hd i).text.toArray⟩, .int .i64 (Ex37.hd i).mark]]) ∧ MirAt W.heap.size w' r (Ex37.M2 i) ∧ Nw W w' := by
  have hgb := g.big
  obtain ⟨y1, y2, y3, -, -, -, -, ⟨y4, y5, y6, y7⟩, y8, y9⟩ := Ex37.says i hi
  have f1 : Hid (Mi.feed [] Ex37.B2 (Mi.fresh i) [[122]] [[99]] 5 = (0, Ex37.L1 i, Ex37.B3 i, Ex37.M1 i)) := by show Ex37.F1 i = _; rw [← y1]; rfl
  have f2 : Hid (Mi.feed (Ex37.L1 i) (Ex37.B4 i) (Ex37.M1 i) [[122]] [[99]] 8 = (0, Ex37.L2 i, Ex37.B5 i, Ex37.M2 i)) := by show Ex37.F2 i = _; rw [← y2]; rfl
  have f3 : Hid (Bk.head (Ex37.L2 i) (Ex37.B5 i) 8 = ((Ex37.hd i, 0), (Ex37.HD i).2.1, (Ex37.HD i).2.2)) := by show Ex37.HD i = _; rw [← y3]; rfl
  have Y4 := Lib.hid y4; have Y5 := Lib.hid y5; have Y8 := Lib.hid y8; have Y9 := Lib.hid y9
  clear y1 y2 y3 y4 y5 y6 y7 y8 y9
  have n0 := nw_alloc W zsO
  have k0 := heap_new W zsO
  have s0 : (W.alloc zsO).heap.size = W.heap.size + 1 := by simp
  obtain ⟨W1, hW1⟩ : ∃ W1, W.alloc zsO = W1 := ⟨_, rfl⟩
  have HW1 : Hid (W.alloc (.cells #[.int .i64 0, .string ⟨#[]⟩, .int .i64 0] tSigned) = W1) := hW1
  rw [hW1] at n0 k0 s0
  have N0 := Lib.hid n0; have K0 := Lib.hid k0; have S0 := Lib.hid s0
  have g1 := Lib.hid (g.upd n0)
  have hns := Lib.hid (new_s W1 g1.out)
  obtain ⟨bz, hbz⟩ : ∃ bz, W.heap.size = bz := ⟨_, rfl⟩
  have Hbz := Lib.hid hbz
  clear hW1 n0 k0 s0
  go_enter Tryd.func36, Tryd.ntmps36
  go_upto_region 1 with fail
  rw [HW1.out]
  (try rw [hbz])
  clear hbz
  go_wp2_with fail
  (with_reducible refine (hns.out).mono ?_)
  rintro _ w1 ⟨q, rfl, hq, u1⟩
  have G1 := Lib.hid (st_ring g1.out hq u1)
  have hm := Lib.hid (st_mir G1.out g1.out i (by omega))
  clear hns hq u1
  go_wp2_with fail
  (with_reducible refine (hm.out).mono ?_)
  rintro _ w2 ⟨mb, rfl, h2⟩
  have hb := Lib.hid (st_book h2 g1.out 3 (by decide))
  clear hm G1
  go_wp2_with fail
  (with_reducible refine (hb.out).mono ?_)
  rintro _ w3 ⟨bb, rfl, h3⟩
  clear hb h2
  obtain ⟨p, hp, e1, e2⟩ : ∃ p : StR, St3 W1 p [] (Mi.fresh i) (Bk.new 3) 3 (fun _ => False) w3 ∧ p.mb = mb ∧ p.bb = bb := ⟨_, h3, rfl, rfl⟩
  clear h3
  subst e1 e2
  have ha := Lib.hid (st_app hp g1.out ⟨#[49, 58, 97, 44]⟩ Ex37.ta rfl (by decide))
  clear hp
  go_wp2_with fail
  (with_reducible refine (ha.out).mono ?_)
  rintro _ w4 ⟨rfl, h4, -⟩
  have hb2 := Lib.hid (st_app (b := Ex37.B1) h4 g1.out ⟨#[49, 58, 98, 44]⟩ Ex37.tb rfl (by decide))
  clear ha h4
  go_wp2_with fail
  (with_reducible refine (hb2.out).mono ?_)
  rintro _ w5 ⟨rfl, h5, -⟩
  have hf := Lib.hid (st_feed2 (m := Mi.fresh i) (b := Ex37.B2) h5 g1.out 5 (by unfold I64; omega) (by decide) (by show (0 : Nat) ≤ _; omega) (by show (0 : Nat) ≤ _; omega) f1.out (n := w5.heap.size) rfl)
  clear hb2 h5
  go_wp2_with fail
  (with_reducible refine (hf.out).mono ?_)
  rintro _ w6 ⟨rfl, h6, -⟩
  have ha3 := Lib.hid (st_app (b := Ex37.B3 i) h6 g1.out ⟨#[49, 58, 100, 44]⟩ Ex37.td rfl (by decide))
  clear hf h6
  go_wp2_with fail
  (with_reducible refine (ha3.out).mono ?_)
  rintro _ w7 ⟨rfl, h7, -⟩
  have hf2 := Lib.hid (st_feed2 (b := Ex37.B4 i) h7 g1.out 8 (by unfold I64; omega) Y4.out Y8.out Y9.out f2.out (n := w7.heap.size) rfl)
  clear ha3 h7
  go_wp2_with fail
  (with_reducible refine (hf2.out).mono ?_)
  rintro _ w8 ⟨rfl, h8, -⟩
  have hh := Lib.hid (st_head0 h8 g1.out 8 (by unfold I64; omega) (Nat.le_trans Y5.out (by decide)) f3.out)
  clear hf2 h8
  go_wp2_with fail
  (with_reducible refine (hh.out).mono ?_)
  rintro _ w9 ⟨rfl, h9, -⟩
  clear hh f1 f2 f3 Y4 Y5 Y8 Y9
  generalize hye : Ex37.hd i = y at *
  have HYE := Lib.hid hye
  clear hye
  have n9 := nw_alloc w9 (ssO y)
  have k9 := heap_new w9 (ssO y)
  obtain ⟨wA, hwA⟩ : ∃ wA, w9.alloc (ssO y) = wA := ⟨_, rfl⟩
  have HWA : Hid (w9.alloc (.cells #[.int .i64 y.key, .string ⟨y.text.toArray⟩, .int .i64 y.mark] tSigned) = wA) := hwA
  obtain ⟨by9, hby⟩ : ∃ by9, w9.heap.size = by9 := ⟨_, rfl⟩
  have Hby := Lib.hid hby
  rw [hwA] at n9 k9
  rw [hby] at k9
  have hA := At.nw h9 n9
  have kz := Nw.keep hA.nw0 K0.out
  obtain ⟨r, hr1, hr2⟩ := st_mirAt hA
  have hlt := h9.nw0.size
  have HB : Hid (W1.heap.size = bz + 1 ∧ bz < by9 ∧ nG ≤ bz ∧ W1.heap.size ≤ by9) := by
    have h1 := S0.out; have h2 := Hbz.out
    refine ⟨by omega, by omega, by omega, by omega⟩
  rw [Hbz.out] at kz
  have HK9 := Lib.hid k9
  have HKZ := Lib.hid kz
  have HR := Lib.hid hr2
  have HNA := Lib.hid (N0.out.trans hA.nw0)
  have HSS : Hid (∀ z', Upd (fun k => k = bz) wA z' → z'.cell? ⟨by9, 0, none⟩ = some (.int .i64 y.key) ∧ z'.cell? ⟨by9, 1, none⟩ = some (.string ⟨y.text.toArray⟩) ∧ z'.cell? ⟨by9, 2, none⟩ = some (.int .i64 y.mark)) := fun z' u =>
    cell3 (u.keep HK9.out (by have := HB.out.2.1; omega))
  have HG := Lib.hid HB.out.2.2.1
  have ZF : Hid (∀ Z, Z = (((wA.setCell ⟨bz, 0, none⟩ (.int .i64 y.key)).setCell ⟨bz, 1, none⟩ (.string ⟨y.text.toArray⟩)).setCell ⟨bz, 2, none⟩ (.int .i64 y.mark)).drew → Z.heap[bz]? = some (ssO y) ∧ MirAt W.heap.size Z r (Ex37.M2 i) ∧ Nw W Z) := by
    rintro Z rfl
    have zd := (Upd.refl (fun _ => False) (((wA.setCell ⟨bz, 0, none⟩ (.int .i64 y.key)).setCell ⟨bz, 1, none⟩ (.string ⟨y.text.toArray⟩)).setCell ⟨bz, 2, none⟩ (.int .i64 y.mark))).drew
    have q1 : Upd (fun k => k = bz) wA (((wA.setCell ⟨bz, 0, none⟩ (.int .i64 y.key)).setCell ⟨bz, 1, none⟩ (.string ⟨y.text.toArray⟩)).setCell ⟨bz, 2, none⟩ (.int .i64 y.mark)) := Upd.set1 (Upd.set1 (Upd.set1 (Upd.refl _ _) HG.out 0 _) HG.out 1 _) HG.out 2 _
    refine ⟨Nw.keep zd (set3 HKZ.out), ((HR.out.upd q1 (fun k hk e => ?_)).nw zd).base (by have := HB.out.1; have := Hbz.out; omega) hgb, (HNA.out.trans' q1 (fun k hk e => by have := Hbz.out; omega)).trans zd⟩
    have := (HR.out.foot_lt hk).1
    have := HB.out.1
    omega
  have hd := HSS.out wA (Upd.refl _ _)
  have b0 := cells_frozen kz 0
  have b1 := cells_frozen kz 1
  have b2 := cells_frozen kz 2
  obtain ⟨_, _, _⟩ := cell3 kz
  obtain ⟨_, _, _⟩ := hd
  have hne : bz < by9 := HB.out.2.1
  have HR1 := Lib.hid hr1
  clear n9 hwA h9 hA kz hr2 hlt k9 hby hr1
  go_upto_region 14 with fail
  rw [HWA.out]
  (try rw [Hby.out])
  go_wp2_with fail
  go_region_held3 (fun z' => z'.cell? ⟨by9, 0, none⟩ = some (.int .i64 y.key) ∧ z'.cell? ⟨by9, 1, none⟩ = some (.string ⟨y.text.toArray⟩) ∧ z'.cell? ⟨by9, 2, none⟩ = some (.int .i64 y.mark)) (with_reducible first | exact HSS.out _ (by repeat (first | exact Upd.refl _ _ | refine Upd.drew ?_ | (refine Upd.setInK ?_ (by exact rfl) HG.out _ _)))) (fail)
  go_wp2_with fail
  (try simp only [Exit.inBlock, Exit.then])
  with_reducible refine story_out (ZF.out _ rfl).1 ?_ ?_ ?_
  · rfl
  · rfl
  · exact ⟨r, by rw [HR1.out, HYE.out]; rfl, (ZF.out _ rfl).2⟩
theorem size37_w {B : Nat} {w : World} {x : MirR} {m : Mi.Mir} (h : MirAt B w x m) (a b c d : Int) (ha : I64 a) (hb : I64 b) (hc : I64 c) (hd : I64 d) : Calls Tryd.prog 37 #[.pointer (some ⟨x.mb, 0, none⟩), .int .i64 a, .int .i64 b, .int .i64 c, .int .i64 d] w fun e w' =>
    e = .returned (.bool (decide (((m.l 0).length : Int) = a) && (decide (((m.l 1).length : Int) = b) && (decide (((m.l 2).length : Int) = c) && decide ((m.cs.length : Int) = d))))) ∧ Nw w w' := by
  have hs := Lib.hid (msize_w h)
  generalize ((m.l 0).length : Int) = p at *
  generalize ((m.l 1).length : Int) = q at *
  generalize ((m.l 2).length : Int) = r at *
  generalize (m.cs.length : Int) = s at *
  go_enter Tryd.func37, Tryd.ntmps37
  go_wp2_with fail
  (with_reducible refine (hs.out).mono ?_)
  rintro _ w1 ⟨rfl, u1⟩
  by_cases h1 : p = a
  rotate_left
  · have e1 : (p == a) = false := by simp [h1]
    have hz : Hid ((decide (p = a) && (decide (q = b) && (decide (r = c) && decide (s = d)))) = false) := by show _ = _; rw [decide_eq_false h1]; rfl
    clear h1
    go_wp2_with fail
    go_ret
    rw [hz.out]
    exact ⟨rfl, u1⟩
  by_cases h2 : q = b
  rotate_left
  · have e1 : (p == a) = true := by simp [h1]
    have e2 : (q == b) = false := by simp [h2]
    have hz : Hid ((decide (p = a) && (decide (q = b) && (decide (r = c) && decide (s = d)))) = false) := by show _ = _; rw [decide_eq_false h2, Bool.false_and, Bool.and_false]
    clear h1 h2
    go_wp2_with fail
    go_ret
    rw [hz.out]
    exact ⟨rfl, u1⟩
  by_cases h3 : r = c
  rotate_left
  · have e1 : (p == a) = true := by simp [h1]
    have e2 : (q == b) = true := by simp [h2]
    have e3 : (r == c) = false := by simp [h3]
    have hz : Hid ((decide (p = a) && (decide (q = b) && (decide (r = c) && decide (s = d)))) = false) := by show _ = _; rw [decide_eq_false h3, Bool.false_and, Bool.and_false, Bool.and_false]
    clear h1 h2 h3
    go_wp2_with fail
    go_ret
    rw [hz.out]
    exact ⟨rfl, u1⟩
  have e1 : (p == a) = true := by simp [h1]
  have e2 : (q == b) = true := by simp [h2]
  have e3 : (r == c) = true := by simp [h3]
  have hz : Hid ((decide (p = a) && (decide (q = b) && (decide (r = c) && decide (s = d)))) = (s == d)) := by show _ = _; rw [decide_eq_true h1, decide_eq_true h2, decide_eq_true h3, Bool.true_and, Bool.true_and, Bool.true_and]; rfl
  clear h1 h2 h3
  generalize hsd : (s == d) = bb at *
  go_wp2_with fail
  go_ret
  rw [hz.out]
  exact ⟨rfl, u1⟩
end Go.Proofs.YtkhdnfmnnapjlaaDoor
