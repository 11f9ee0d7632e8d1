/- The contract of ViewTells. -/
import Derived.Test.YtidmehiboceobaaGreatDoorLawVU
namespace Go.Proofs.YtidmehiboceobaaGreatDoor
open Go.RowKit
set_option linter.unusedVariables false
set_option linter.unusedSimpArgs false
attribute [local irreducible] Calls

theorem vt_start {W w3 w4 : World} {q : RingR} {qq : QRing} {l : List Vw.Say} {sv : Value} (hq : RingAt W.heap.size w3 q []) (hqq : QRingAt W.heap.size w3 qq []) (hd : ∀ j, q.foot j → ¬ qq.foot j) (u3 : Nw W w3) (hs : Sgd W.heap.size w3 q [] l l.length sv w4) (hlen : (Vw.signedL [] l).2.length = l.length) :
    VT0 W q.rb qq.qb (Vw.signedL [] l).1 sv (Vw.signedL [] l).2 [] w4 := by
  obtain ⟨q', hq', hrb, hown, u4, hf⟩ := hs
  rw [List.take_length] at hq' hown
  have s3 := u3.size
  refine ⟨q', qq, hrb, rfl, hq', hqq.upd u4 (fun j hj e => hd j e hj), owns_base (by rw [hlen]; exact hown) s3, fun j hj e => ?_, fun j hj e => ?_, u3.trans' u4 (fun j hj e => by have := (hq.foot_lt e).1; omega)⟩
  · rcases hf j hj with e2 | e2
    · exact hd j e2 e
    · have := (hqq.foot_lt e).2; omega
  · obtain ⟨e1, cs, e2⟩ := own_block hown hj
    have := (hqq.foot_lt e).2
    omega
theorem nine_cells {W : World} {rb vb qb cb : Nat} {key : Int} {sv : Value} {S : List Bk.Sgn} {Lr : List Bk.Seal} {L M : List Bk.Sgn} {z : World} {b1 b2 b o k : Nat} {y x : Bk.Sgn}
    (h : TK W rb vb qb cb key sv S [(b2, .cells #[.int .i64 y.key, .string ⟨y.text.toArray⟩, .int .i64 y.mark] tSigned), (b1, .cells #[.int .i64 y.key, .string ⟨y.text.toArray⟩, .int .i64 y.mark] tSigned)] Lr L M z)
    (hc : z.cell? ⟨b, o + k * 3, none⟩ = some (.int .i64 x.key) ∧ z.cell? ⟨b, o + k * 3 + 1, none⟩ = some (.string ⟨x.text.toArray⟩) ∧ z.cell? ⟨b, o + k * 3 + 2, none⟩ = some (.int .i64 x.mark)) :
    z.cell? ⟨b1, 0, none⟩ = some (.int .i64 y.key) ∧ z.cell? ⟨b1, 1, none⟩ = some (.string ⟨y.text.toArray⟩) ∧ z.cell? ⟨b1, 2, none⟩ = some (.int .i64 y.mark) ∧ z.cell? ⟨b2, 0, none⟩ = some (.int .i64 y.key) ∧ z.cell? ⟨b2, 1, none⟩ = some (.string ⟨y.text.toArray⟩) ∧ z.cell? ⟨b2, 2, none⟩ = some (.int .i64 y.mark) ∧
    z.cell? ⟨b, o + k * 3, none⟩ = some (.int .i64 x.key) ∧ z.cell? ⟨b, o + k * 3 + 1, none⟩ = some (.string ⟨x.text.toArray⟩) ∧ z.cell? ⟨b, o + k * 3 + 2, none⟩ = some (.int .i64 x.mark) := by
  have h2 := h.at 0 rfl
  have h1 := h.at 1 rfl
  exact ⟨by rw [cells_cell h1]; rfl, by rw [cells_cell h1]; rfl, by rw [cells_cell h1]; rfl, by rw [cells_cell h2]; rfl, by rw [cells_cell h2]; rfl, by rw [cells_cell h2]; rfl, hc⟩
set_option maxHeartbeats 8000000 in
set_option maxRecDepth 100000 in
theorem tells8_c (l : List Vw.Say) (v : Value) (key i : Int) (name odd : List UInt8) (W : World) (g : Gl W) (hv : SlS 7 0 W.heap.size W v (l.map sayL)) (ho : ∀ x ∈ l, SayOk x) (hkey : I64 key) (hi : I64 i) (hname : name.length ≤ 9223372036854775807) (hodd : odd.length ≤ 9223372036854775807) :
    Calls Tryz.prog 4 #[v, .int .i64 key, .int .i64 i, .string ⟨name.toArray⟩, .string ⟨odd.toArray⟩] W fun e w' => e = .returned (.bool true) ∧ Nw W w' := by
  have hgb := g.big
  obtain ⟨a0, cap0, rfl, hm0, hcells⟩ := say_cells hv
  unfold maxLen at hm0
  have Hho := Lib.hid ho
  have Hv := Lib.hid hv
  have Hsc := Lib.hid hcells
  clear ho hv hcells
  go_enter Tryz.func4, Tryz.ntmps4
  go_wp2_with fail
  (with_reducible refine (small_v _ g).mono ?_)
  rintro _ w0 ⟨rfl, u0⟩
  have g0 := g.upd u0
  go_wp2_with fail
  (with_reducible refine (few_w 0 W.heap.size _ l _ (Hv.out.nw u0) Hho.out).mono ?_)
  rintro _ w1 ⟨f, rfl, hf, u1⟩
  have U1 := u0.trans u1
  have g1 := g.upd U1
  cases f with
  | false =>
    clear hf
    go_wp2_with fail
    go_ret
    exact ⟨rfl, U1⟩
  | true =>
  obtain ⟨hl20, hl300⟩ := hf rfl
  have Hl300 := Lib.hid hl300
  clear hf hl300
  by_cases hn300 : name.length ≤ 300
  rotate_left
  · go_wp2_with fail
    go_ret
    exact ⟨rfl, U1⟩
  by_cases ho2 : odd.length ≤ 2000
  rotate_left
  · go_wp2_with fail
    go_ret
    exact ⟨rfl, U1⟩
  obtain ⟨f1, f2, f3, f4⟩ := Vw.signed_facts (Lr := []) List.nodup_nil (l := l) (by simp; omega) (fun x hx => words_len (Hho.out x hx) (Hl300.out x hx).1)
  have F2 := Lib.hid f2
  have F3 := Lib.hid f3
  have F4 := Lib.hid f4
  have HLr20 : Hid ((Vw.signedL [] l).1.length ≤ 20) := by show _ ≤ _; simp only [List.length_nil] at f1; omega
  have Hn300 := Lib.hid hn300
  have Ho2 := Lib.hid ho2
  have hl20 : l.length ≤ 20 := hl20
  clear f1 f2 f3 f4
  go_wp2_with fail
  (with_reducible refine (new_s _ g1).mono ?_)
  rintro _ w2 ⟨q, rfl, hq, u2⟩
  have U2 := U1.trans u2
  have hq2 := hq.base8 U1.size hgb
  go_wp2_with fail
  (with_reducible refine (new_q _ (g.upd U2)).mono ?_)
  rintro _ w3 ⟨qq, rfl, hqq, u3⟩
  have U3 := U2.trans u3
  have hd : ∀ j, q.foot j → ¬ qq.foot j := fun j hj e => by have := (hq.foot_lt hj).2; have := (hqq.foot_lt e).1; omega
  have hqq3 : QRingAt W.heap.size w3 qq [] := ⟨hgb, Nat.le_trans U2.size hqq.qb, hqq.blk, owns_base hqq.own U2.size, hqq.key⟩
  have Hsg := Lib.hid (signed_w W.heap.size 0 W.heap.size q [] _ l w3 (g.upd U3) (hq2.nw u3) (Hv.out.nw U3) (Nat.le_refl _) Hho.out (fun x hx => (Hl300.out x hx).1) hl20 (by decide))
  have Hst := Lib.hid (fun (sv : Value) (w4 : World) (h : Sgd W.heap.size w3 q [] l l.length sv w4) => vt_start (hq2.nw u3) hqq3 hd U3 h F3.out)
  clear hq hq2 hqq hqq3 hd
  go_wp2_with fail
  (with_reducible refine (Hsg.out).mono ?_)
  rintro _ w4 ⟨sv, rfl, hs4⟩
  have T0 := Hst.out _ _ hs4
  obtain ⟨asl, caps, hsv⟩ := own_sl (by obtain ⟨_, _, _, _, _, _, h, _⟩ := T0; exact h)
  subst hsv
  have HT0 := Lib.hid T0
  clear T0 hs4 Hst Hsg
  generalize q.rb = rb at *
  generalize qq.qb = qb at *
  go_wp2_with fail
  go_loopw [15] (fun iv wr => ∃ k : Nat, k ≤ l.length ∧ iv = .int .i64 k ∧ Hid (VT0 W rb qb (Vw.signedL [] l).1 (.slice asl (Vw.signedL [] l).2.length caps) (Vw.signedL [] l).2 (Vw.signedL [] (l.take k)).1 wr)) (fun iv _ => l.length - (intOf iv).toNat)
  case atStart => exact ⟨0, Nat.zero_le _, rfl, HT0.out⟩
  case round =>
    obtain ⟨k, hk, rfl, HR⟩ := hrel
    by_cases hlt : k < l.length
    · rcases Hsc.out with hnil | ⟨b, o, rfl, hbW, _, hc⟩
      · simp [hnil] at hlt
      obtain ⟨p0, p1, p2, p3, p4, p5, p6⟩ := hc k hlt
      have uW := HR.out.nw
      have gr := g.upd uW
      have hst := Vw.signed_take [] l k hlt
      have d0 := fun i : Later wr => later_cell i (((Nw.below uW).cell (p := ⟨b, o + k * 7, none⟩) hbW).trans p0)
      have d1 := fun i : Later wr => later_cell i (((Nw.below uW).cell (p := ⟨b, o + k * 7 + 1, none⟩) hbW).trans p1)
      have d2 := fun i : Later wr => later_cell i (((Nw.below uW).cell (p := ⟨b, o + k * 7 + 2, none⟩) hbW).trans p2)
      have d3 := fun i : Later wr => later_cell i (((Nw.below uW).cell (p := ⟨b, o + k * 7 + 3, none⟩) hbW).trans p3)
      have d4 := fun i : Later wr => later_cell i (((Nw.below uW).cell (p := ⟨b, o + k * 7 + 4, none⟩) hbW).trans p4)
      have d5 := fun i : Later wr => later_cell i (((Nw.below uW).cell (p := ⟨b, o + k * 7 + 5, none⟩) hbW).trans p5)
      have d6 := fun i : Later wr => later_cell i (((Nw.below uW).cell (p := ⟨b, o + k * 7 + 6, none⟩) hbW).trans p6)
      have hxo := Hho.out l[k] (List.getElem_mem hlt)
      have hxr := (Hl300.out l[k] (List.getElem_mem hlt)).1
      have hlen : (Vw.signedL [] (l.take k)).1.length ≤ 1000000 := by
        have := (Vw.signed_facts (Lr := []) List.nodup_nil (l := l.take k) (by simp; omega) (fun x hx => words_len (Hho.out x (List.mem_of_mem_take hx)) (Hl300.out x (List.mem_of_mem_take hx)).1)).1
        simp only [List.length_nil, List.length_take] at this
        omega
      have hwl := words_len hxo hxr
      generalize l[k] = x at *
      have hnx : Hid ((Vw.signedL [] (l.take (k + 1))).1 = (Bk.sign (Vw.signedL [] (l.take k)).1 x.key (Vw.words x)).2) := by show _ = _; rw [hst]; rfl
      have hsx := fun z (gz : Gl z) (h : VT0 W rb qb (Vw.signedL [] l).1 (.slice asl (Vw.signedL [] l).2.length caps) (Vw.signedL [] l).2 (Vw.signedL [] (l.take k)).1 z) => vt0_sign h gz x.key (Vw.words x) hxo.k (by omega) hlen
      have HSx := Lib.hid hsx
      have WF := Lib.hid (fun i : Later wr => words_w x hxo i.1 (gr.upd i.nw))
      clear hc p0 p1 p2 p3 p4 p5 p6 hst hxo hxr hlen hwl hsx
      obtain ⟨xk, ⟨c0, c1, c2, c3⟩, xr, xo⟩ := x
      dsimp only at *
      generalize Vw.words { key := xk, c := { kind := c0, n := c1, time := c2, text := c3 }, raw := xr, odd := xo } = wd at *
      go_wp2_with fail
      refine wp_region_nw_tail 11 (by kernel_rfl) (by kernel_rfl) ?_
      simp only [List.take_succ_cons, List.take_zero, List.drop_succ_cons, List.drop_zero]
      repeat (go_big_quiet_step ((go_at_call 20; exact later_call (WF.out _))))
      refine wpQuiet_nil ?_
      intro w5 u5
      replace u5 := later_out u5
      have HR5 := Lib.hid (HR.out.go u5)
      go_wp2_with fail
      (with_reducible refine (HSx.out _ (gr.upd u5) HR5.out).mono ?_)
      rintro _ w6 ⟨rfl, T6⟩
      have HT6 := Lib.hid T6
      clear T6
      go_wp2_with fail
      go_roundw
      case rel => exact ⟨k + 1, by omega, by go_num, by rw [hnx.out]; exact HT6.out⟩
      case measure => simp [intOf]; omega
    · obtain rfl : k = l.length := by omega
      have hfin := HR.out
      rw [List.take_length] at hfin
      have HT1 := Lib.hid hfin
      have uW := HR.out.nw
      clear hfin HR HT0
      have h3' := F3.out
      have hLr20 := HLr20.out
      have F2' := Lib.hid F2.out
      generalize Vw.signedL [] l = SL at *
      obtain ⟨Lr, S⟩ := SL
      dsimp only at *
      have hS20 : S.length ≤ 20 := by omega
      have hlS : Hid (l.length = S.length) := h3'.symm
      clear h3' F3
      have Hnv := Lib.hid (new_v rb key wr (g.upd uW))
      go_wp2_with fail
      (with_reducible refine (Hnv.out).mono ?_)
      rintro _ w5 hnv
      rcases hnv with ⟨hkk, r, rfl, hr, u5⟩ | ⟨hkk, rfl, u5⟩
      rotate_left
      · have hk2 : key < 0 ∨ 200 ≤ key := by unfold Bk.isKey at hkk; rw [← Bool.not_eq_true] at hkk; simp at hkk; omega
        have Hnq := Lib.hid (new_qv qb key w5 (g.upd (uW.trans u5)))
        have Hkk := Lib.hid hkk
        clear hkk
        go_wp2_with fail
        (with_reducible refine (Hnq.out).mono ?_)
        rintro _ w6 hnq
        rcases hnq with ⟨hkk', _⟩ | ⟨_, rfl, u6⟩
        · rw [Hkk.out] at hkk'; cases hkk'
        go_wp2_with fail
        go_ret
        exact ⟨rfl, (uW.trans u5).trans u6⟩
      have Hnq := Lib.hid (new_qv qb key w5 (g.upd (uW.trans u5)))
      have Hkk := Lib.hid hkk
      have Hr := Lib.hid hr
      clear hkk hr
      go_wp2_with fail
      (with_reducible refine (Hnq.out).mono ?_)
      rintro _ w6 hnq
      rcases hnq with ⟨_, c, rfl, hc, u6⟩ | ⟨hkk', _⟩
      rotate_left
      · rw [Hkk.out] at hkk'; cases hkk'
      have HK0 := Lib.hid (TK.first HT1.out F2'.out (by omega) u5 Hr.out u6 hc)
      clear hc Hr Hnq Hnv HT1
      generalize r.vb = vb at *
      generalize c.cb = cb at *
      go_wp2_with fail
      go_loopw [18] (fun iv wr => ∃ k : Nat, k ≤ S.length ∧ iv = .int .i64 k ∧ Hid (∃ L, L.length ≤ k ∧ TK W rb vb qb cb key (.slice asl S.length caps) S [] Lr L L wr)) (fun iv _ => S.length - (intOf iv).toNat)
      case atStart => exact ⟨0, Nat.zero_le _, rfl, [], Nat.le_refl _, HK0.out⟩
      case round =>
        obtain ⟨k, hk, rfl, HR⟩ := hrel
        obtain ⟨wq, rfl⟩ : ∃ x, x = wr := ⟨_, rfl⟩
        obtain ⟨L, hLk, K⟩ := HR.out
        have hL9 : Hid (L.length ≤ 900000) := by show _ ≤ _; omega
        have gw := g.upd K.nw
        by_cases hlt : k < S.length
        · obtain ⟨b, o, rfl, d0, d1, d2⟩ := sgn_at8 K.row hlt
          have hcell : Hid (∀ {bx : List (Nat × Obj)} {L1 L2 : List Bk.Sgn} {z : World}, TK W rb vb qb cb key (.slice (some ⟨b, o, none⟩) S.length caps) S bx Lr L1 L2 z → z.cell? ⟨b, o + k * 3, none⟩ = some (.int .i64 S[k].key) ∧ z.cell? ⟨b, o + k * 3 + 1, none⟩ = some (.string ⟨S[k].text.toArray⟩) ∧ z.cell? ⟨b, o + k * 3 + 2, none⟩ = some (.int .i64 S[k].mark)) := fun h => by
            obtain ⟨b', o', eb, e0, e1, e2⟩ := sgn_at8 h.row hlt
            obtain ⟨rfl, rfl⟩ : b = b' ∧ o = o' := by simpa using eb
            exact ⟨e0, e1, e2⟩
          have hso := mod_ok S[k] (F4.out S[k] (List.getElem_mem hlt))
          generalize S[k] = x at *
          -- the Say of the same number
          have hltl : k < l.length := by rw [hlS.out]; exact hlt
          rcases Hsc.out with hnil | ⟨b', o', rfl, hbW, _, hc⟩
          · simp [hnil] at hltl
          have Hy := Lib.hid (hc k hltl)
          have hyo := Hho.out l[k] (List.getElem_mem hltl)
          have hyr := (Hl300.out l[k] (List.getElem_mem hltl)).1
          have hwl := words_len hyo hyr
          generalize l[k] = y at *
          have hycell : Hid (∀ {z : World}, Nw W z → z.cell? ⟨b', o' + k * 7, none⟩ = some (.int .i64 y.key) ∧ z.cell? ⟨b', o' + k * 7 + 1, none⟩ = some (.int .i64 y.c.kind) ∧ z.cell? ⟨b', o' + k * 7 + 2, none⟩ = some (.int .i64 y.c.n) ∧ z.cell? ⟨b', o' + k * 7 + 3, none⟩ = some (.int .i64 y.c.time) ∧ z.cell? ⟨b', o' + k * 7 + 4, none⟩ = some (.string ⟨y.c.text.toArray⟩) ∧ z.cell? ⟨b', o' + k * 7 + 5, none⟩ = some (.string ⟨y.raw.toArray⟩) ∧ z.cell? ⟨b', o' + k * 7 + 6, none⟩ = some (.int .i64 y.odd)) := fun {z} u => by
            obtain ⟨p0, p1, p2, p3, p4, p5, p6⟩ := Hy.out
            exact ⟨((Nw.below u).cell (p := ⟨b', o' + k * 7, none⟩) hbW).trans p0, ((Nw.below u).cell (p := ⟨b', o' + k * 7 + 1, none⟩) hbW).trans p1, ((Nw.below u).cell (p := ⟨b', o' + k * 7 + 2, none⟩) hbW).trans p2, ((Nw.below u).cell (p := ⟨b', o' + k * 7 + 3, none⟩) hbW).trans p3, ((Nw.below u).cell (p := ⟨b', o' + k * 7 + 4, none⟩) hbW).trans p4, ((Nw.below u).cell (p := ⟨b', o' + k * 7 + 5, none⟩) hbW).trans p5, ((Nw.below u).cell (p := ⟨b', o' + k * 7 + 6, none⟩) hbW).trans p6⟩
          have Hww := Lib.hid (fun z (gz : Gl z) => words_w y hyo z gz)
          have hIk : I64 (k : Int) := by unfold I64; omega
          clear hc Hy hyo hyr
          obtain ⟨yk, ⟨c0, c1, c2, c3⟩, yr, yo⟩ := y
          dsimp only at *
          generalize Vw.words { key := yk, c := { kind := c0, n := c1, time := c2, text := c3 }, raw := yr, odd := yo } = wd at *
          have hwl : Hid (wd.length ≤ 1000000) := by show _ ≤ _; omega
          -- what the functions say
          obtain ⟨y, cl, hcl⟩ : ∃ y cl, Vw.clash L x = (y, cl) := ⟨_, _, rfl⟩
          obtain ⟨e, L', hac⟩ : ∃ e L', Vw.accept Lr key L x = (e, L') := ⟨_, _, rfl⟩
          have hL' : Hid (L'.length ≤ k + 1) := by show _ ≤ _; have := Vw.accept_len Lr key L x; rw [hac] at this; dsimp only at this; omega
          obtain ⟨t, tb, htx⟩ : ∃ t tb, Vw.textAt L' k = (t, tb) := ⟨_, _, rfl⟩
          obtain ⟨m, mb, hab⟩ : ∃ m mb, Vw.absentOf L' wd = (m, mb) := ⟨_, _, rfl⟩
          have hL'9 : Hid (L'.length ≤ 900000) := by show _ ≤ _; have := hL'.out; omega
          have Hcl := Lib.hid hcl
          have Hac := Lib.hid hac
          have Htx := Lib.hid htx
          have Hab := Lib.hid hab
          have Hso := Lib.hid hso
          have H0 := Lib.hid K
          clear K hcl hac htx hab hso HR hLk
          go_wp2_with fail
          (with_reducible refine (tk_clash H0.out gw x Hso.out hL9.out Hcl.out).mono ?_)
          rintro _ x1 ⟨rfl, K1⟩
          replace K1 := K1.box (.cells #[.int .i64 y.key, .string ⟨y.text.toArray⟩, .int .i64 y.mark] tSigned)
          have H1 := Lib.hid K1
          clear d0 d1 d2
          obtain ⟨_, _, _⟩ := hcell.out K1
          clear K1
          go_wp2_with fail
          (with_reducible refine (tk_clashq H1.out (g.upd H1.out.nw) x Hso.out hL9.out Hcl.out).mono ?_)
          rintro _ x2 ⟨rfl, K2⟩
          replace K2 := K2.box (.cells #[.int .i64 y.key, .string ⟨y.text.toArray⟩, .int .i64 y.mark] tSigned)
          have H2 := Lib.hid K2
          have H2d := Lib.hid (K2.go (Upd.refl _ _).drew)
          obtain ⟨_, _, _⟩ := hcell.out K2
          obtain ⟨_, _, _⟩ := cell3 (K2.at 0 rfl)
          obtain ⟨_, _, _⟩ := cell3 (K2.at 1 rfl)
          clear K2
          have AF := Lib.hid (tk_acc H2d.out (g.upd H2d.out.nw) x Hso.out hL9.out Hac.out)
          have AQ := Lib.hid (fun z (h : TK W rb vb qb cb key (.slice (some ⟨b, o, none⟩) S.length caps) S [(x2.heap.size, .cells #[.int .i64 y.key, .string ⟨y.text.toArray⟩, .int .i64 y.mark] tSigned), (x1.heap.size, .cells #[.int .i64 y.key, .string ⟨y.text.toArray⟩, .int .i64 y.mark] tSigned)] Lr L' L z) => tk_accq h (g.upd h.nw) x Hso.out hL9.out Hac.out)
          have NC : Hid (∀ (L1 L2 : List Bk.Sgn) (z : World), TK W rb vb qb cb key (.slice (some ⟨b, o, none⟩) S.length caps) S [(x2.heap.size, .cells #[.int .i64 y.key, .string ⟨y.text.toArray⟩, .int .i64 y.mark] tSigned), (x1.heap.size, .cells #[.int .i64 y.key, .string ⟨y.text.toArray⟩, .int .i64 y.mark] tSigned)] Lr L1 L2 z → z.cell? ⟨x1.heap.size, 0, none⟩ = some (.int .i64 y.key) ∧ z.cell? ⟨x1.heap.size, 1, none⟩ = some (.string ⟨y.text.toArray⟩) ∧ z.cell? ⟨x1.heap.size, 2, none⟩ = some (.int .i64 y.mark) ∧ z.cell? ⟨x2.heap.size, 0, none⟩ = some (.int .i64 y.key) ∧ z.cell? ⟨x2.heap.size, 1, none⟩ = some (.string ⟨y.text.toArray⟩) ∧ z.cell? ⟨x2.heap.size, 2, none⟩ = some (.int .i64 y.mark) ∧ z.cell? ⟨b, o + k * 3, none⟩ = some (.int .i64 x.key) ∧ z.cell? ⟨b, o + k * 3 + 1, none⟩ = some (.string ⟨x.text.toArray⟩) ∧ z.cell? ⟨b, o + k * 3 + 2, none⟩ = some (.int .i64 x.mark)) := fun L1 L2 z h => nine_cells h (hcell.out h)
          go_wp2_with fail
          go_region_held3 (fun z => z.cell? ⟨x1.heap.size, 0, none⟩ = some (.int .i64 y.key) ∧ z.cell? ⟨x1.heap.size, 1, none⟩ = some (.string ⟨y.text.toArray⟩) ∧ z.cell? ⟨x1.heap.size, 2, none⟩ = some (.int .i64 y.mark) ∧ z.cell? ⟨x2.heap.size, 0, none⟩ = some (.int .i64 y.key) ∧ z.cell? ⟨x2.heap.size, 1, none⟩ = some (.string ⟨y.text.toArray⟩) ∧ z.cell? ⟨x2.heap.size, 2, none⟩ = some (.int .i64 y.mark) ∧ z.cell? ⟨b, o + k * 3, none⟩ = some (.int .i64 x.key) ∧ z.cell? ⟨b, o + k * 3 + 1, none⟩ = some (.string ⟨x.text.toArray⟩) ∧ z.cell? ⟨b, o + k * 3 + 2, none⟩ = some (.int .i64 x.mark)) (first | exact NC.out _ _ _ H2.out | exact NC.out _ _ _ H2d.out | exact NC.out _ _ _ (by assumption)) (first | (go_at_call 14; (with_reducible refine AF.out.mono ?_); rintro _ x3 ⟨rfl, K3⟩) | (go_at_call 23; (with_reducible refine (AQ.out _ K3).mono ?_); rintro _ x4 ⟨rfl, K4⟩))
          have H4 := Lib.hid K4.drop
          clear K4 K3
          go_wp2_with fail
          (with_reducible refine (tk_text H4.out k hIk Htx.out).mono ?_)
          rintro _ x5 ⟨rfl, K5⟩
          have H5 := Lib.hid K5
          clear K5
          go_wp2_with fail
          (with_reducible refine (tk_textq H5.out (g.upd H5.out.nw) k hL'9.out Htx.out).mono ?_)
          rintro _ x6 ⟨rfl, K6⟩
          have H6 := Lib.hid K6
          obtain ⟨_, _, _, _, _, _, _⟩ := hycell.out K6.nw
          clear K6
          go_wp2_with fail
          (with_reducible refine (Hww.out _ (g.upd H6.out.nw)).mono ?_)
          rintro _ x7 ⟨rfl, u7⟩
          have H7 := Lib.hid (H6.out.go u7)
          go_wp2_with fail
          (with_reducible refine (tk_abs H7.out wd hwl.out Hab.out).mono ?_)
          rintro _ x8 ⟨rfl, K8⟩
          have H8 := Lib.hid K8
          obtain ⟨_, _, _, _, _, _, _⟩ := hycell.out K8.nw
          clear K8
          go_wp2_with fail
          (with_reducible refine (Hww.out _ (g.upd H8.out.nw)).mono ?_)
          rintro _ x9 ⟨rfl, u9⟩
          have H9 := Lib.hid (H8.out.go u9)
          go_wp2_with fail
          (with_reducible refine (tk_absq H9.out (g.upd H9.out.nw) wd hL'9.out Hab.out).mono ?_)
          rintro _ x10 ⟨rfl, K10⟩
          have H10 := Lib.hid K10
          clear K10
          go_wp2_with fail
          go_roundw
          case rel => exact ⟨k + 1, by omega, by go_num, L', hL'.out, H10.out⟩
          case measure => simp [intOf]; omega
        · obtain rfl : k = S.length := by omega
          obtain ⟨t, tb, htx⟩ : ∃ t tb, Vw.textAt L i = (t, tb) := ⟨_, _, rfl⟩
          obtain ⟨m, mb, hab⟩ : ∃ m mb, Vw.absentOf L name = (m, mb) := ⟨_, _, rfl⟩
          obtain ⟨sn, st, hsz⟩ : ∃ sn st, Vw.sizeOf L = (sn, st) := ⟨_, _, rfl⟩
          obtain ⟨ag, hag⟩ : ∃ ag, Vw.age L i = ag := ⟨_, rfl⟩
          obtain ⟨kn, hkn⟩ : ∃ kn, Vw.known L i = kn := ⟨_, rfl⟩
          obtain ⟨bt, hbt⟩ : ∃ bt, Vw.bytesOf key L = bt := ⟨_, rfl⟩
          have H0 := Lib.hid K
          have Htx := Lib.hid htx
          have Hab := Lib.hid hab
          have Hsz := Lib.hid hsz
          have Hag := Lib.hid hag
          have Hkn := Lib.hid hkn
          have Hbt := Lib.hid hbt
          have HLn : Hid (Lr.Nodup ∧ Lr.length ≤ 900000) := ⟨F2'.out, by omega⟩
          clear K HR htx hab hsz hag hkn hbt hLk
          go_wp2_with fail
          (with_reducible refine (tk_text H0.out i hi Htx.out).mono ?_)
          rintro _ x1 ⟨rfl, K1⟩
          have H1 := Lib.hid K1
          clear K1
          go_wp2_with fail
          (with_reducible refine (tk_textq H1.out (g.upd H1.out.nw) i hL9.out Htx.out).mono ?_)
          rintro _ x2 ⟨rfl, K2⟩
          have H2 := Lib.hid K2
          clear K2
          go_wp2_with fail
          (with_reducible refine (tk_abs H2.out name (by have := Hn300.out; omega) Hab.out).mono ?_)
          rintro _ x3 ⟨rfl, K3⟩
          have H3 := Lib.hid K3
          clear K3
          go_wp2_with fail
          (with_reducible refine (tk_absq H3.out (g.upd H3.out.nw) name hL9.out Hab.out).mono ?_)
          rintro _ x4 ⟨rfl, K4⟩
          have H4 := Lib.hid K4
          clear K4
          go_wp2_with fail
          (with_reducible refine (tk_size H4.out Hsz.out).mono ?_)
          rintro _ x5 ⟨rfl, K5⟩
          have H5 := Lib.hid K5
          clear K5
          go_wp2_with fail
          (with_reducible refine (tk_sizeq H5.out (g.upd H5.out.nw) hL9.out Hsz.out).mono ?_)
          rintro _ x6 ⟨rfl, K6⟩
          have H6 := Lib.hid K6
          clear K6
          go_wp2_with fail
          (with_reducible refine (tk_age H6.out i hi Hag.out).mono ?_)
          rintro _ x7 ⟨rfl, K7⟩
          have H7 := Lib.hid K7
          clear K7
          go_wp2_with fail
          (with_reducible refine (tk_ageq H7.out (g.upd H7.out.nw) i hi hL9.out Hag.out).mono ?_)
          rintro _ x8 ⟨rfl, K8⟩
          have H8 := Lib.hid K8
          clear K8
          go_wp2_with fail
          (with_reducible refine (tk_known H8.out i hi hL9.out Hkn.out).mono ?_)
          rintro _ x9 ⟨rfl, K9⟩
          have H9 := Lib.hid K9
          clear K9
          go_wp2_with fail
          (with_reducible refine (tk_knownq H9.out (g.upd H9.out.nw) i hi hL9.out Hkn.out).mono ?_)
          rintro _ x10 ⟨rfl, K10⟩
          have H10 := Lib.hid K10
          clear K10
          go_wp2_with fail
          (with_reducible refine (tk_bytes H10.out (g.upd H10.out.nw) hL9.out Hbt.out).mono ?_)
          rintro _ x11 ⟨rfl, K11⟩
          have H11 := Lib.hid K11
          clear K11
          go_wp2_with fail
          (with_reducible refine (tk_bytesq H11.out (g.upd H11.out.nw) hL9.out Hbt.out).mono ?_)
          rintro _ x12 ⟨rfl, K12⟩
          have H12 := Lib.hid K12
          clear K12
          go_wp2_with fail
          (with_reducible refine (tk_key H12.out).mono ?_)
          rintro _ x13 ⟨rfl, K13⟩
          have H13 := Lib.hid K13
          clear K13
          go_wp2_with fail
          (with_reducible refine (tk_read H13.out (g.upd H13.out.nw) odd (by have := Ho2.out; omega)).mono ?_)
          rintro _ x14 ⟨K14, hra⟩
          have H14 := Lib.hid K14
          have RQ := Lib.hid (tk_readq H14.out (g.upd H14.out.nw) odd (by have := Ho2.out; omega))
          clear K14
          rcases hra with ⟨L1, r1, hrd, rfl, hv1, ho1⟩ | ⟨hrd, rfl⟩
          rotate_left
          · have Hrd := Lib.hid hrd
            clear hrd
            obtain ⟨en, hen⟩ : ∃ en, (Vw.readV Lr odd).2 = en := ⟨_, rfl⟩
            rw [hen]
            have Hen := Lib.hid hen
            clear hen
            go_wp2_with fail
            (with_reducible refine (RQ.out).mono ?_)
            rintro _ x15 ⟨u15, hrb⟩
            rcases hrb with ⟨L2, c2, hrd2, _⟩ | ⟨_, rfl⟩
            · have := Hrd.out; rw [hrd2] at this; cases this
            rw [Hen.out]
            have HT := Lib.hid (H14.out.go u15)
            go_wp2_with fail
            obtain ⟨aq, capq, cq, _⟩ := tk_lst HT.out
            have HTd := Lib.hid (HT.out.go (Upd.refl _ _).drew)
            have cqd := later_cell ⟨_, (Upd.refl (fun _ => False) _).drew⟩ cq
            have CF := Lib.hid (tk_same HTd.out (g.upd HTd.out.nw) hL9.out cqd)
            have HTn := Lib.hid HT.out.nw
            go_region_held3 (fun z => z.cell? ⟨cb, 2, none⟩ = some (.slice aq L.length capq)) (first | exact cq | exact cqd | assumption) (first | (go_at_call 17; (with_reducible refine CF.out.mono ?_); rintro _ y1 ⟨ac, cc, rfl, cy1, SF⟩) | (go_at_call 38; (with_reducible refine SF.mono ?_); rintro _ y2 ⟨rfl, cy2, v2⟩))
            go_wp2_with fail
            go_ret
            exact ⟨rfl, v2⟩
          · have Hrd := Lib.hid hrd
            have Hv1 := Lib.hid hv1
            have Ho1 := Lib.hid ho1
            clear hrd hv1 ho1
            go_wp2_with fail
            (with_reducible refine (RQ.out).mono ?_)
            rintro _ x15 ⟨u15, hrb⟩
            rcases hrb with ⟨L2, c2, hrd2, rfl, hv2, ho2'⟩ | ⟨hrd2, _⟩
            rotate_left
            · have := Hrd.out; rw [this] at hrd2; cases hrd2
            obtain rfl : L1 = L2 := by have := Hrd.out; rw [this] at hrd2; simpa using hrd2
            have H15 := Lib.hid (H14.out.go u15)
            obtain ⟨b1, hb1⟩ : ∃ b1, Vw.bytesOf (Wire.rNum (some odd)).1 L1 = b1 := ⟨_, rfl⟩
            have RB := Lib.hid (rd_bytes (Hv1.out.nw u15) Ho1.out HLn.out.1 HLn.out.2 (g.upd H15.out.nw) hb1)
            have RBq := Lib.hid (fun z (u : Nw x15 z) => rd_bytesq (hv2.nw u) ho2' HLn.out.1 HLn.out.2 (g.upd (H15.out.nw.trans u)) hb1)
            clear hrd2 hv2 ho2' hb1
            generalize r1.vb = v1 at *
            generalize c2.cb = k2 at *
            go_wp2_with fail
            (with_reducible refine (RB.out).mono ?_)
            rintro _ x16 ⟨rfl, u16⟩
            go_wp2_with fail
            (with_reducible refine (RBq.out _ u16).mono ?_)
            rintro _ x17 ⟨rfl, u17⟩
            have HT := Lib.hid (H15.out.go (u16.trans u17))
            go_wp2_with fail
            obtain ⟨aq, capq, cq, _⟩ := tk_lst HT.out
            have HTd := Lib.hid (HT.out.go (Upd.refl _ _).drew)
            have cqd := later_cell ⟨_, (Upd.refl (fun _ => False) _).drew⟩ cq
            have CF := Lib.hid (tk_same HTd.out (g.upd HTd.out.nw) hL9.out cqd)
            have HTn := Lib.hid HT.out.nw
            go_region_held3 (fun z => z.cell? ⟨cb, 2, none⟩ = some (.slice aq L.length capq)) (first | exact cq | exact cqd | assumption) (first | (go_at_call 17; (with_reducible refine CF.out.mono ?_); rintro _ y1 ⟨ac, cc, rfl, cy1, SF⟩) | (go_at_call 38; (with_reducible refine SF.mono ?_); rintro _ y2 ⟨rfl, cy2, v2⟩))
            go_wp2_with fail
            go_ret
            exact ⟨rfl, v2⟩
end Go.Proofs.YtidmehiboceobaaGreatDoor
