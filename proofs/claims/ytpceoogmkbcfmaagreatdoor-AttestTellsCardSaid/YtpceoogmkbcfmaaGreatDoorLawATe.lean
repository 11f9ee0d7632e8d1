/- The contract of AttestTells. -/
import Derived.Test.YtpceoogmkbcfmaaGreatDoorAttG
import Derived.Test.YtpceoogmkbcfmaaGreatDoorAttK
import Derived.Test.YtpceoogmkbcfmaaGreatDoorAttU
import Derived.Test.YtpceoogmkbcfmaaGreatDoorAttQ
import Derived.Deep.RegionHeld3
namespace Go.Proofs.YtpceoogmkbcfmaaGreatDoor
open Go.RowKit
set_option linter.unusedVariables false
set_option linter.unusedSimpArgs false
attribute [local irreducible] Calls

/-- The program's ring with all that was signed, the reference's ring, the slice of signatures. -/
def AT0 (W : World) (rb qb : Nat) (Lr : List Bk.Seal) (sv : Value) (S : List Bk.Sgn) (Lq : List Bk.Seal) (z : World) : Prop :=
  ∃ q qq, q.rb = rb ∧ qq.qb = qb ∧ RingAt W.heap.size z q Lr ∧ QRingAt W.heap.size z qq Lq ∧ z.ownsRow W.heap.size tSigned 3 sv S.length (flatS S) ∧ (∀ j, q.foot j → ¬ qq.foot j) ∧ (∀ j, sv.ownBlock = some j → ¬ qq.foot j) ∧ Nw W z
section
variable {W : World} {rb qb : Nat} {sv : Value} {S : List Bk.Sgn} {Lr Lq : List Bk.Seal} {z z' : World}
theorem AT0.nw (h : AT0 W rb qb Lr sv S Lq z) : Nw W z := by obtain ⟨q, qq, _, _, _, _, _, _, _, u⟩ := h; exact u
theorem AT0.go (h : AT0 W rb qb Lr sv S Lq z) (u : Nw z z') : AT0 W rb qb Lr sv S Lq z' := by
  obtain ⟨q, qq, e1, e2, h1, h2, h3, a1, a2, u0⟩ := h
  exact ⟨q, qq, e1, e2, h1.nw u, h2.nw u, owns_upd' h3 u (fun _ _ e => e), a1, a2, u0.trans u⟩
theorem at0_sign (h : AT0 W rb qb Lr sv S Lq z) (g : Gl z) (k : Int) (t : List UInt8) (hk : I64 k) (ht : t.length ≤ 1000000) (hl : Lq.length ≤ 1000000) :
    Calls Tryz.prog 21 #[.pointer (some ⟨qb, 0, none⟩), .int .i64 k, .string ⟨t.toArray⟩] z fun e w' => e = .returned (.agg #[.int .i64 (Bk.sign Lq k t).1.key, .string ⟨(Bk.sign Lq k t).1.text.toArray⟩, .int .i64 (Bk.sign Lq k t).1.mark]) ∧ AT0 W rb qb Lr sv S (Bk.sign Lq k t).2 w' := by
  obtain ⟨q, qq, rfl, rfl, h1, h2, h3, a1, a2, u0⟩ := h
  refine (sign_q W.heap.size qq Lq k t z g h2 hk (by omega) hl u0.size).mono ?_
  rintro e w' ⟨q', rfl, c1, c2, u, hf⟩
  refine ⟨rfl, q, q', rfl, c2, h1.upd u a1, c1, owns_upd' h3 u a2, fun j hj e => ?_, fun j hj e => ?_, u0.trans' u (fun j hj e => by have := (h2.foot_lt e).1; omega)⟩
  · rcases hf j e with e2 | e2
    · exact a1 j hj e2
    · have := (h1.foot_lt hj).2; omega
  · rcases hf j e with e2 | e2
    · exact a2 j hj e2
    · obtain ⟨_, cs, e3⟩ := own_block h3 hj
      have := lt_of_block e3; omega
theorem at_start {w3 w4 : World} {q : RingR} {qq : QRing} {l : List Vw.Say} {sv : Value} (hq : RingAt W.heap.size w3 q []) (hqq : QRingAt W.heap.size w3 qq []) (hd : ∀ j, q.foot j → ¬ qq.foot j) (u3 : Nw W w3) (hs : Sgd W.heap.size w3 q [] l l.length sv w4) (hlen : (Vw.signedL [] l).2.length = l.length) :
    AT0 W q.rb qq.qb (Vw.signedL [] l).1 sv (Vw.signedL [] l).2 [] w4 := by
  obtain ⟨q', hq', hrb, hown, u4, hf⟩ := hs
  rw [List.take_length] at hq' hown
  have s3 := u3.size
  refine ⟨q', qq, hrb, rfl, hq', hqq.upd u4 (fun j hj e => hd j e hj), owns_base (by rw [hlen]; exact hown) s3, fun j hj e => ?_, fun j hj e => ?_, u3.trans' u4 (fun j hj e => by have := (hq.foot_lt e).1; omega)⟩
  · rcases hf j hj with e2 | e2
    · exact hd j e2 e
    · have := (hqq.foot_lt e).2; omega
  · obtain ⟨e1, cs, e2⟩ := own_block hown hj
    have := (hqq.foot_lt e).2
    omega
end
namespace At
theorem accept_nil (G : List Grp) : accept [] G = if right G = true then (0, 23) else (0, 1) := by
  unfold accept found prints sortU
  rfl
end At
theorem bothP_parts (o : Option (Bk.Sgn × Bk.Sgn)) : ∃ (a b : Bk.Sgn) (is : Bool), bothV o = .tuple #[.agg #[.int .i64 a.key, .string ⟨a.text.toArray⟩, .int .i64 a.mark], .agg #[.int .i64 b.key, .string ⟨b.text.toArray⟩, .int .i64 b.mark], .bool is] := by
  cases o with
  | none => exact ⟨Bk.noSgn, Bk.noSgn, false, rfl⟩
  | some p => exact ⟨p.1, p.2, true, rfl⟩
theorem sl_nums {B : Nat} {w : World} {v : Value} {l : List Int} (h : w.ownsRow B tNum 1 v l.length (l.map intV)) : ∃ a c, v = .slice a l.length c ∧ Sl 0 w.heap.size w (.slice a l.length c) (l.map intV) := by
  obtain ⟨a, c, rfl⟩ := own_sl h
  exact ⟨a, c, rfl, (own_num h).wider (Nat.zero_le _) (Nat.le_refl _)⟩
theorem two_box (w : World) (a b : Bk.Sgn) : ((w.alloc (.cells #[.int .i64 a.key, .string ⟨a.text.toArray⟩, .int .i64 a.mark] tSigned)).alloc (.cells #[.int .i64 b.key, .string ⟨b.text.toArray⟩, .int .i64 b.mark] tSigned)).heap[w.heap.size]? = some (.cells #[.int .i64 a.key, .string ⟨a.text.toArray⟩, .int .i64 a.mark] tSigned (0, 0)) ∧
    ((w.alloc (.cells #[.int .i64 a.key, .string ⟨a.text.toArray⟩, .int .i64 a.mark] tSigned)).alloc (.cells #[.int .i64 b.key, .string ⟨b.text.toArray⟩, .int .i64 b.mark] tSigned)).heap[w.heap.size + 1]? = some (.cells #[.int .i64 b.key, .string ⟨b.text.toArray⟩, .int .i64 b.mark] tSigned (0, 0)) ∧
    Nw w ((w.alloc (.cells #[.int .i64 a.key, .string ⟨a.text.toArray⟩, .int .i64 a.mark] tSigned)).alloc (.cells #[.int .i64 b.key, .string ⟨b.text.toArray⟩, .int .i64 b.mark] tSigned)) := by
  have k1 := Nw.keep (nw_alloc (w.alloc (.cells #[.int .i64 a.key, .string ⟨a.text.toArray⟩, .int .i64 a.mark] tSigned)) (.cells #[.int .i64 b.key, .string ⟨b.text.toArray⟩, .int .i64 b.mark] tSigned)) (heap_new w (.cells #[.int .i64 a.key, .string ⟨a.text.toArray⟩, .int .i64 a.mark] tSigned))
  have k2 := heap_new (w.alloc (.cells #[.int .i64 a.key, .string ⟨a.text.toArray⟩, .int .i64 a.mark] tSigned)) (.cells #[.int .i64 b.key, .string ⟨b.text.toArray⟩, .int .i64 b.mark] tSigned)
  rw [show (w.alloc (.cells #[.int .i64 a.key, .string ⟨a.text.toArray⟩, .int .i64 a.mark] tSigned)).heap.size = w.heap.size + 1 by simp] at k2
  exact ⟨k1, k2, (nw_alloc _ _).alloc _⟩
theorem same_nums {v1 v2 : Value} {M : List Int} {w : World} {h1 h2 : Nat} (s1 : Sl 0 h1 w v1 (M.map intV)) (s2 : Sl 0 h2 w v2 (M.map intV)) :
    Calls Tryz.prog 19 #[v1, v2] w fun e w' => e = .returned (.bool true) ∧ Nw w w' :=
  (SameNumsQ 0 h1 0 h2 v1 v2 M M w s1 s2).mono fun e w' ⟨he, hu⟩ => ⟨by rw [he, decide_eq_true rfl], hu⟩
set_option maxHeartbeats 8000000 in
set_option maxRecDepth 100000 in
theorem atells_c (l : List Vw.Say) (v gv : Value) (GC : List (Value × At.Grp)) (text : List UInt8) (pr key : Int) (W : World) (g : Gl W) (hv : SlS 7 0 W.heap.size W v (l.map sayL)) (ho : ∀ x ∈ l, SayOk x) (hG : GrpS W.heap.size W gv (GC.map (·.2)) GC) (htx : text.length ≤ maxLen) (hpr : I64 pr) (hkey : I64 key) :
    Calls Tryz.prog 5 #[v, gv, .string ⟨text.toArray⟩, .int .i64 pr, .int .i64 key] W fun e w' => e = .returned (.bool true) ∧ Nw W w' := by
  have hgb := g.big
  obtain ⟨a0, cap0, rfl, hm0, hcells⟩ := say_cells hv
  obtain ⟨a1, cap1, rfl, hm1, ha1⟩ := grp_cells hG
  unfold maxLen at hm0 hm1 htx
  have Ho := Lib.hid ho
  have Hv := Lib.hid hv
  have HG := Lib.hid hG
  have Ha1 := Lib.hid ha1
  have Hsc := Lib.hid hcells
  clear ho hv hG ha1 hcells
  go_enter Tryz.func5, Tryz.ntmps5
  go_wp2_with fail
  (with_reducible refine (smallA_w _ g).mono ?_)
  rintro _ w0 ⟨rfl, u0⟩
  have g0 := g.upd u0
  go_wp2_with fail
  (with_reducible refine (few30_w 0 W.heap.size _ l _ (Hv.out.nw u0) Ho.out).mono ?_)
  rintro _ w1 ⟨f, rfl, hf, u1⟩
  have U1 := u0.trans u1
  cases f with
  | false =>
    clear hf
    go_wp2_with fail
    go_ret
    exact ⟨rfl, U1⟩
  | true =>
  obtain ⟨hl30, hl300⟩ := hf rfl
  clear hf
  have Hl300 := Lib.hid hl300
  clear hl300
  go_wp2_with fail
  (with_reducible refine (fewG_w W.heap.size _ (GC.map (·.2)) GC _ (HG.out.nw U1)).mono ?_)
  rintro _ w2 ⟨f, rfl, hf, u2⟩
  have U2 := U1.trans u2
  cases f with
  | false =>
    clear hf
    go_wp2_with fail
    go_ret
    exact ⟨rfl, U2⟩
  | true =>
  obtain ⟨hG6, hG14⟩ := hf rfl
  clear hf
  have HG14 := Lib.hid hG14
  clear hG14
  by_cases ht300 : text.length ≤ 300
  rotate_left
  · go_wp2_with fail
    go_ret
    exact ⟨rfl, U2⟩
  have g2 := g.upd U2
  go_wp2_with fail
  (with_reducible refine (new_s _ g2).mono ?_)
  rintro _ w3 ⟨q, rfl, hq, u3⟩
  have U3 := U2.trans u3
  have hq3 := hq.baseA U2.size hgb
  go_wp2_with fail
  (with_reducible refine (new_q _ (g.upd U3)).mono ?_)
  rintro _ w4 ⟨qq, rfl, hqq, u4⟩
  have U4 := U3.trans u4
  have g4 := g.upd U4
  obtain ⟨f1, f2, f3, f4⟩ := Vw.signed_facts (Lr := []) List.nodup_nil (l := l) (by simp; omega) (fun x hx => words_len (Ho.out x hx) (Hl300.out x hx).1)
  have hd : ∀ j, q.foot j → ¬ qq.foot j := fun j hj e => by have := (hq.foot_lt hj).2; have := (hqq.foot_lt e).1; omega
  have hqq4 : QRingAt W.heap.size w4 qq [] := ⟨hgb, Nat.le_trans U3.size hqq.qb, hqq.blk, owns_base hqq.own U3.size, hqq.key⟩
  have Hsg := Lib.hid (signedA_w W.heap.size 0 W.heap.size q [] _ l w4 g4 (hq3.nw u4) (Hv.out.nw U4) (Nat.le_refl _) Ho.out (fun x hx => (Hl300.out x hx).1) hl30 (by decide))
  have Hst := Lib.hid (fun (sv : Value) (w5 : World) (h : Sgd W.heap.size w4 q [] l l.length sv w5) => at_start (hq3.nw u4) hqq4 hd U4 h f3)
  have F2 := Lib.hid f2
  have F4 := Lib.hid f4
  have F3 := Lib.hid f3
  have HLr30 : Hid ((Vw.signedL [] l).1.length ≤ 30) := by show _ ≤ _; simp only [List.length_nil] at f1; omega
  clear hq hq3 hqq hqq4 hd f1 f2 f3 f4
  go_wp2_with fail
  (with_reducible refine (Hsg.out).mono ?_)
  rintro _ w5 ⟨sv, rfl, hs5⟩
  have T0 := Hst.out _ _ hs5
  obtain ⟨asl, caps, hsv⟩ := own_sl (by obtain ⟨_, _, _, _, _, _, h, _⟩ := T0; exact h)
  subst hsv
  have HT0 := Lib.hid T0
  clear T0 hs5 Hst Hsg
  generalize q.rb = rb at *
  generalize qq.qb = qb at *
  go_wp2_with fail
  go_loopw [15] (fun iv wr => ∃ k : Nat, k ≤ l.length ∧ iv = .int .i64 k ∧ Hid (AT0 W rb qb (Vw.signedL [] l).1 (.slice asl (Vw.signedL [] l).2.length caps) (Vw.signedL [] l).2 (Vw.signedL [] (l.take k)).1 wr)) (fun iv _ => l.length - (intOf iv).toNat)
  case atStart => exact ⟨0, Nat.zero_le _, rfl, HT0.out⟩
  case round =>
    obtain ⟨k, hk, rfl, HR⟩ := hrel
    by_cases hlt : k < l.length
    · rcases Hsc.out with hnil | ⟨b, o, rfl, hbW, _, hc⟩
      · simp [hnil] at hlt
      obtain ⟨p0, p1, p2, p3, p4, p5, p6⟩ := hc k hlt
      have uW := HR.out.nw
      have gr := g.upd uW
      have hst := Vw.signed_take [] l k hlt
      have d0 := fun i : Later wr => later_cell i (((Nw.below uW).cell (p := ⟨b, o + k * 7, none⟩) hbW).trans p0)
      have d1 := fun i : Later wr => later_cell i (((Nw.below uW).cell (p := ⟨b, o + k * 7 + 1, none⟩) hbW).trans p1)
      have d2 := fun i : Later wr => later_cell i (((Nw.below uW).cell (p := ⟨b, o + k * 7 + 2, none⟩) hbW).trans p2)
      have d3 := fun i : Later wr => later_cell i (((Nw.below uW).cell (p := ⟨b, o + k * 7 + 3, none⟩) hbW).trans p3)
      have d4 := fun i : Later wr => later_cell i (((Nw.below uW).cell (p := ⟨b, o + k * 7 + 4, none⟩) hbW).trans p4)
      have d5 := fun i : Later wr => later_cell i (((Nw.below uW).cell (p := ⟨b, o + k * 7 + 5, none⟩) hbW).trans p5)
      have d6 := fun i : Later wr => later_cell i (((Nw.below uW).cell (p := ⟨b, o + k * 7 + 6, none⟩) hbW).trans p6)
      have hxo := Ho.out l[k] (List.getElem_mem hlt)
      have hxr := (Hl300.out l[k] (List.getElem_mem hlt)).1
      have hlen : (Vw.signedL [] (l.take k)).1.length ≤ 1000000 := by
        have := (Vw.signed_facts (Lr := []) List.nodup_nil (l := l.take k) (by simp; omega) (fun x hx => words_len (Ho.out x (List.mem_of_mem_take hx)) (Hl300.out x (List.mem_of_mem_take hx)).1)).1
        simp only [List.length_nil, List.length_take] at this
        omega
      have hwl := words_len hxo hxr
      generalize l[k] = x at *
      have hnx : Hid ((Vw.signedL [] (l.take (k + 1))).1 = (Bk.sign (Vw.signedL [] (l.take k)).1 x.key (Vw.words x)).2) := by show _ = _; rw [hst]; rfl
      have hsx := fun z (gz : Gl z) (h : AT0 W rb qb (Vw.signedL [] l).1 (.slice asl (Vw.signedL [] l).2.length caps) (Vw.signedL [] l).2 (Vw.signedL [] (l.take k)).1 z) => at0_sign h gz x.key (Vw.words x) hxo.k (by omega) hlen
      have HSx := Lib.hid hsx
      have WF := Lib.hid (fun i : Later wr => words_w x hxo i.1 (gr.upd i.nw))
      clear hc p0 p1 p2 p3 p4 p5 p6 hst hxo hxr hlen hwl hsx
      obtain ⟨xk, ⟨c0, c1, c2, c3⟩, xr, xo⟩ := x
      dsimp only at *
      generalize Vw.words { key := xk, c := { kind := c0, n := c1, time := c2, text := c3 }, raw := xr, odd := xo } = wd at *
      go_wp2_with fail
      refine wp_region_nw_tail 11 (by kernel_rfl) (by kernel_rfl) ?_
      simp only [List.take_succ_cons, List.take_zero, List.drop_succ_cons, List.drop_zero]
      repeat (go_big_quiet_step ((go_at_call 22; exact later_call (WF.out _))))
      refine wpQuiet_nil ?_
      intro w5 u5
      replace u5 := later_out u5
      have HR5 := Lib.hid (HR.out.go u5)
      go_wp2_with fail
      (with_reducible refine (HSx.out _ (gr.upd u5) HR5.out).mono ?_)
      rintro _ w6 ⟨rfl, T6⟩
      have HT6 := Lib.hid T6
      clear T6
      go_wp2_with fail
      go_roundw
      case rel => exact ⟨k + 1, by omega, by go_num, by rw [hnx.out]; exact HT6.out⟩
      case measure => simp [intOf]; omega
    · obtain rfl : k = l.length := by omega
      have hfin := HR.out
      rw [List.take_length] at hfin
      clear HR HT0
      have h3' := F3.out
      have F2' := Lib.hid F2.out
      have hLr30 := HLr30.out
      have F4' := Lib.hid F4.out
      clear F4 F2
      generalize Vw.signedL [] l = SL at *
      obtain ⟨Lr, S⟩ := SL
      dsimp only at *
      have hS30 : S.length ≤ 30 := by omega
      clear h3' F3
      obtain ⟨q', qq', hrb, hqb, h1, h2, h3, _, _, uW⟩ := hfin
      have gz := g.upd uW
      have hok : ∀ s ∈ S, SgnOk s := fun s hs => mod_okA s (F4'.out s hs)
      have hS := sgn_sls h3
      have hGz := HG.out.nw uW
      rw [← hrb, ← hqb]
      have hml : ∀ c ∈ GC, c.2.members.length ≤ 14 := fun c hc => HG14.out c hc
      have hLrM : Lr.length ≤ 1000000 := by omega
      have cn := fun (z : World) (u : Nw wr z) => acc_nil text (gz.upd u) (hS.nw u) (hGz.nw u)
      have ca := fun (z : World) (u : Nw wr z) => acc_q text (gz.upd u) (h1.nw u) (hS.nw u) (by omega) hok (hGz.nw u)
      have cr := fun (z : World) (u : Nw wr z) => Right_w _ _ _ _ z (gz.upd u) (hGz.nw u)
      have crq := fun (z : World) (u : Nw wr z) => qright_q _ _ _ _ z (gz.upd u) (hGz.nw u)
      have cq := fun (z : World) (u : Nw wr z) => qaccept_q W.heap.size qq' Lr _ _ _ _ _ S _ _ text z (gz.upd u) (h2.nw u) F2'.out hLrM (hS.nw u) (by omega) hok (hGz.nw u) (fun z' u' => crq z' (u.trans u'))
      have cb := fun (z : World) (u : Nw wr z) => both_q text key (gz.upd u) (h1.nw u) (hS.nw u) (by omega) hok
      have cbq := fun (z : World) (u : Nw wr z) => qboth_q W.heap.size qq' Lr _ _ _ S key text z (gz.upd u) (h2.nw u) F2'.out hLrM (hS.nw u) (by omega) hok
      have cp : ∀ (z : World), Nw wr z → Calls Tryz.prog 18 #[.pointer (some ⟨q'.rb, 0, none⟩), .slice asl S.length caps, .string ⟨text.toArray⟩] z fun e w' => ∃ a c, e = .returned (.slice a (At.prints (At.votes Lr S text)).length c) ∧ Sl 0 w'.heap.size w' (.slice a (At.prints (At.votes Lr S text)).length c) ((At.prints (At.votes Lr S text)).map intV) ∧ Nw z w' := fun z u =>
        (Prints_w W.heap.size q' Lr _ _ _ S text z (gz.upd u) (h1.nw u) (hS.nw u) (by omega) hok).mono fun e w' ⟨v', e1, e2, e3⟩ => by
          obtain ⟨a, c, rfl, e4⟩ := sl_nums e2
          exact ⟨a, c, e1, e4, e3⟩
      have cpq : ∀ (z : World), Nw wr z → Calls Tryz.prog 28 #[.pointer (some ⟨qq'.qb, 0, none⟩), .slice asl S.length caps, .string ⟨text.toArray⟩] z fun e w' => ∃ a c, e = .returned (.slice a (At.prints (At.votes Lr S text)).length c) ∧ Sl 0 w'.heap.size w' (.slice a (At.prints (At.votes Lr S text)).length c) ((At.prints (At.votes Lr S text)).map intV) ∧ Nw z w' := fun z u =>
        (prints_q W.heap.size qq' Lr _ _ _ S text z (gz.upd u) (h2.nw u) F2'.out hLrM (hS.nw u) (by omega) hok).mono fun e w' ⟨v', e1, e2, e3⟩ => by
          obtain ⟨a, c, rfl, e4⟩ := sl_nums e2
          exact ⟨a, c, e1, e4, e3⟩
      have cl : ∀ (z : World), Nw wr z → Calls Tryz.prog 13 #[.pointer (some ⟨q'.rb, 0, none⟩), .slice asl S.length caps, .slice a1 GC.length cap1, .string ⟨text.toArray⟩, .int .i64 pr] z fun e w' => ∃ a c, e = .returned (.slice a (At.liars (At.votes Lr S text) (GC.map (·.2)) pr).length c) ∧ Sl 0 w'.heap.size w' (.slice a (At.liars (At.votes Lr S text) (GC.map (·.2)) pr).length c) ((At.liars (At.votes Lr S text) (GC.map (·.2)) pr).map intV) ∧ Nw z w' := fun z u =>
        (liars_q text pr (gz.upd u) (h1.nw u) (hS.nw u) (by omega) hok (hGz.nw u) (by omega) (fun c hc => by have := hml c hc; omega)).mono fun e w' ⟨v', e1, e2, e3⟩ => by
          obtain ⟨a, c, rfl, e4⟩ := sl_nums e2
          exact ⟨a, c, e1, e4, e3⟩
      have clq : ∀ (z : World), Nw wr z → Calls Tryz.prog 29 #[.pointer (some ⟨qq'.qb, 0, none⟩), .slice asl S.length caps, .slice a1 GC.length cap1, .string ⟨text.toArray⟩, .int .i64 pr] z fun e w' => ∃ a c, e = .returned (.slice a (At.liars (At.votes Lr S text) (GC.map (·.2)) pr).length c) ∧ Sl 0 w'.heap.size w' (.slice a (At.liars (At.votes Lr S text) (GC.map (·.2)) pr).length c) ((At.liars (At.votes Lr S text) (GC.map (·.2)) pr).map intV) ∧ Nw z w' := fun z u =>
        (qliars_q W.heap.size qq' Lr _ _ _ _ _ S _ _ text pr z (gz.upd u) (h2.nw u) F2'.out hLrM (hS.nw u) (by omega) hok (hGz.nw u) (by omega) hml).mono fun e w' ⟨v', e1, e2, e3⟩ => by
          obtain ⟨a, c, rfl, e4⟩ := sl_nums e2
          exact ⟨a, c, e1, e4, e3⟩
      have cv : ∀ (c : Value × At.Grp) (hc : c ∈ GC) (am : Option Addr) (capm : Nat), c.1 = .slice am c.2.members.length capm → ∀ (z : World), Nw wr z → Calls Tryz.prog 15 #[.pointer (some ⟨q'.rb, 0, none⟩), .slice asl S.length caps, .agg #[.slice am c.2.members.length capm, .int .i64 c.2.bad], .string ⟨text.toArray⟩, .int .i64 pr] z fun e w' => ∃ a c', e = .returned (.slice a (At.members (At.votes Lr S text) c.2 pr).length c') ∧ Sl 0 w'.heap.size w' (.slice a (At.members (At.votes Lr S text) c.2 pr).length c') ((At.members (At.votes Lr S text) c.2 pr).map intV) ∧ Nw z w' := fun c hc am capm ec z u => by
        have hq2 := Vote_w W.heap.size q' Lr _ _ _ _ _ S c.1 c.2 text pr z (gz.upd u) (h1.nw u) (hS.nw u) (by omega) hok ((hGz.each c hc).1.nw u) (by have := hml c hc; omega)
        rw [ec] at hq2
        exact hq2.mono fun e w' ⟨v', e1, e2, e3⟩ => by
          obtain ⟨a, c', rfl, e4⟩ := sl_nums e2
          exact ⟨a, c', e1, e4, e3⟩
      have cvq : ∀ (c : Value × At.Grp) (hc : c ∈ GC) (am : Option Addr) (capm : Nat), c.1 = .slice am c.2.members.length capm → ∀ (z : World), Nw wr z → Calls Tryz.prog 27 #[.pointer (some ⟨qq'.qb, 0, none⟩), .slice asl S.length caps, .agg #[.slice am c.2.members.length capm, .int .i64 c.2.bad], .string ⟨text.toArray⟩, .int .i64 pr] z fun e w' => ∃ a c', e = .returned (.slice a (At.members (At.votes Lr S text) c.2 pr).length c') ∧ Sl 0 w'.heap.size w' (.slice a (At.members (At.votes Lr S text) c.2 pr).length c') ((At.members (At.votes Lr S text) c.2 pr).map intV) ∧ Nw z w' := fun c hc am capm ec z u => by
        have hq2 := qvote_q W.heap.size qq' Lr _ _ _ _ _ c.1 S c.2 text pr z (gz.upd u) (h2.nw u) F2'.out hLrM (hS.nw u) hok ((hGz.each c hc).1.nw u) (by have := hml c hc; omega)
        rw [ec] at hq2
        exact hq2.mono fun e w' ⟨v', e1, e2, e3⟩ => by
          obtain ⟨a, c', rfl, e4⟩ := sl_nums e2
          exact ⟨a, c', e1, e4, e3⟩
      have hsl : ∀ c ∈ GC, ∃ (am : Option Addr) (capm : Nat), c.1 = .slice am c.2.members.length capm ∧ c.2.members.length ≤ 14 ∧ I64 c.2.bad := fun c hc => by
        obtain ⟨e1, e2, _⟩ := hGz.each c hc
        obtain ⟨am, capm, e, _⟩ := num_cells e1
        exact ⟨am, capm, e, hml c hc, e2⟩
      simp only [At.accept_nil] at cn
      generalize At.prints (At.votes Lr S text) = PL at *
      generalize At.liars (At.votes Lr S text) (GC.map (·.2)) pr = LL at *
      generalize At.accept (At.votes Lr S text) (GC.map (·.2)) = ac at *
      generalize At.right (GC.map (·.2)) = rg at *
      obtain ⟨x, y, is, hbv⟩ := bothP_parts (At.both (At.votes Lr S text) key)
      rw [hbv] at cb cbq
      obtain ⟨n, er⟩ := ac
      obtain ⟨xk, xt, xm⟩ := x
      obtain ⟨yk, yt, ym⟩ := y
      dsimp only at ca cq cb cbq
      have CA := Lib.hid ca
      have CQ := Lib.hid cq
      have CB := Lib.hid cb
      have CBQ := Lib.hid cbq
      have CR := Lib.hid cr
      have CRQ := Lib.hid crq
      have CN := Lib.hid cn
      have CP := Lib.hid cp
      have CPQ := Lib.hid cpq
      have CL := Lib.hid cl
      have CLQ := Lib.hid clq
      have CV := Lib.hid cv
      have CVQ := Lib.hid cvq
      have Hsl := Lib.hid hsl
      have HUW := Lib.hid uW
      clear ca cq cb cbq cr crq cn cp cpq cl clq cv cvq hsl hbv h1 h2 h3 hS hGz hok hml F2' F4' HLr30 hrb hqb uW
      go_wp2_with fail
      (with_reducible refine (CA.out _ (Upd.refl _ _)).mono ?_)
      rintro _ w6 ⟨rfl, u6⟩
      go_wp2_with fail
      (with_reducible refine (CQ.out _ u6).mono ?_)
      rintro _ w7 ⟨rfl, u7⟩
      have U7 := u6.trans u7
      go_wp2_with fail
      (with_reducible refine (CB.out _ U7).mono ?_)
      rintro _ w8 ⟨rfl, u8⟩
      have U8 := U7.trans u8
      obtain ⟨k1, k2, n2⟩ := two_box w8 ⟨xk, xt, xm⟩ ⟨yk, yt, ym⟩
      dsimp only at k1 k2 n2
      generalize hW9 : (w8.alloc (.cells #[.int .i64 xk, .string ⟨xt.toArray⟩, .int .i64 xm] tSigned)).alloc (.cells #[.int .i64 yk, .string ⟨yt.toArray⟩, .int .i64 ym] tSigned) = W9 at *
      have U9 := U8.trans n2
      have HW9 := Lib.hid hW9
      have K1 := Lib.hid k1
      have K2 := Lib.hid k2
      clear hW9 k1 k2 u6 u7 U7 u8 n2
      go_wp2_with fail
      rw [HW9.out]
      (with_reducible refine (CBQ.out _ U9).mono ?_)
      rintro _ w10 ⟨rfl, u10⟩
      have U10 := U9.trans u10
      obtain ⟨k3, k4, n4⟩ := two_box w10 ⟨xk, xt, xm⟩ ⟨yk, yt, ym⟩
      dsimp only at k3 k4 n4
      have U11 := U10.trans n4
      have k1 := Nw.keep (u10.trans n4) K1.out
      have k2 := Nw.keep (u10.trans n4) K2.out
      obtain ⟨_, _, _⟩ := cell3 k1
      obtain ⟨_, _, _⟩ := cell3 k2
      obtain ⟨_, _, _⟩ := cell3 k3
      obtain ⟨_, _, _⟩ := cell3 k4
      clear k1 k2 k3 k4 u10 n4 U10 HW9 K1 K2
      go_wp2_with fail
      (with_reducible refine (CR.out _ U11).mono ?_)
      rintro _ w12 ⟨rfl, u12⟩
      have U12 := U11.trans u12
      go_wp2_with fail
      (with_reducible refine (CRQ.out _ U12).mono ?_)
      rintro _ w13 ⟨rfl, u13⟩
      have U13 := U12.trans u13
      clear U8 U9 U11 U12 u12 u13
      go_wp2_with fail
      obtain ⟨wz, rfl⟩ : ∃ x, x = wr := ⟨_, rfl⟩
      go_loopw [26] (fun iv wr2 => ∃ k : Nat, k ≤ GC.length ∧ iv = .int .i64 k ∧ Nw w13 wr2) (fun iv _ => GC.length - (intOf iv).toNat)
      case atStart => exact ⟨0, Nat.zero_le _, rfl, Upd.refl _ _⟩
      case round =>
        obtain ⟨k, hk, rfl, u⟩ := hrel
        have UZ := U13.trans u
        have UW := HUW.out.trans UZ
        by_cases hlt : k < GC.length
        · rcases Ha1.out with hnil | ⟨b, o, rfl, _, hb, hc⟩
          · simp [hnil] at hlt
          have p0 := ((Nw.below UW).cell (p := ⟨b, o + k * 2, none⟩) hb).trans (hc k hlt).1
          have p1 := ((Nw.below UW).cell (p := ⟨b, o + k * 2 + 1, none⟩) hb).trans (hc k hlt).2
          obtain ⟨am, capm, ec, h14, hbd⟩ := Hsl.out GC[k] (List.getElem_mem hlt)
          have cv := CV.out GC[k] (List.getElem_mem hlt) am capm ec
          have cvq := CVQ.out GC[k] (List.getElem_mem hlt) am capm ec
          rw [ec] at p0
          have hml : (At.members (At.votes Lr S text) GC[k].2 pr).length ≤ 14 := Nat.le_trans (List.length_filter_le _ _) h14
          clear hc ec
          generalize At.members (At.votes Lr S text) GC[k].2 pr = M at *
          generalize GC[k] = x at *
          obtain ⟨xs, gm, gbad⟩ := x
          dsimp only at *
          have cv2 : ∀ z, Nw wr z → Calls Tryz.prog 15 #[.pointer (some ⟨q'.rb, 0, none⟩), .slice asl S.length caps, .agg #[.slice am gm.length capm, .int .i64 gbad], .string ⟨text.toArray⟩, .int .i64 pr] z fun e w' => ∃ a c', e = .returned (.slice a M.length c') ∧ Sl 0 w'.heap.size w' (.slice a M.length c') (M.map intV) ∧ Nw z w' ∧ Nw wr w' := fun z uz =>
            (cv z (UZ.trans uz)).mono fun e w' ⟨a, c', e1, e2, e3⟩ => ⟨a, c', e1, e2, e3, uz.trans e3⟩
          have cvq2 : ∀ z, Nw wr z → Calls Tryz.prog 27 #[.pointer (some ⟨qq'.qb, 0, none⟩), .slice asl S.length caps, .agg #[.slice am gm.length capm, .int .i64 gbad], .string ⟨text.toArray⟩, .int .i64 pr] z fun e w' => ∃ a c', e = .returned (.slice a M.length c') ∧ Sl 0 w'.heap.size w' (.slice a M.length c') (M.map intV) ∧ Nw z w' ∧ Nw wr w' := fun z uz =>
            (cvq z (UZ.trans uz)).mono fun e w' ⟨a, c', e1, e2, e3⟩ => ⟨a, c', e1, e2, e3, uz.trans e3⟩
          have HD : Hid (∀ z, Nw wr z → z.cell? ⟨b, o + k * 2, none⟩ = some (.slice am gm.length capm) ∧ z.cell? ⟨b, o + k * 2 + 1, none⟩ = some (.int .i64 gbad)) := fun z uz => ⟨later_cell ⟨z, uz⟩ p0, later_cell ⟨z, uz⟩ p1⟩
          have HV2 := Lib.hid cv2
          have HVQ2 := Lib.hid cvq2
          have hs : Hid (∀ {z z2 : World} {a1 a2 : Option Addr} {c1 c2 h1 h2 : Nat}, Nw z z2 → Sl 0 h1 z (.slice a1 M.length c1) (M.map intV) → Sl 0 h2 z2 (.slice a2 M.length c2) (M.map intV) → Calls Tryz.prog 19 #[.slice a1 M.length c1, .slice a2 M.length c2] z2 fun e w' => e = .returned (.bool true) ∧ Nw z2 w') := fun u s1 s2 => same_nums (s1.nw u) s2
          clear cv cvq cv2 cvq2
          go_wp2_with fail
          go_region_held3 (fun z => z.cell? ⟨b, o + k * 2, none⟩ = some (.slice am gm.length capm) ∧ z.cell? ⟨b, o + k * 2 + 1, none⟩ = some (.int .i64 gbad)) (first | exact HD.out _ (u9.trans u10) | exact HD.out _ u9 | exact HD.out _ u8 | exact HD.out _ (Upd.refl _ _) | exact HD.out _ (Upd.refl _ _).drew) (first | (go_at_call 15; (with_reducible refine (HV2.out _ (by first | exact (Upd.refl _ _).drew | exact Upd.refl _ _)).mono ?_); rintro _ w8 ⟨a8, c8, rfl, s8, n8, u8⟩) | (go_at_call 27; (with_reducible refine (HVQ2.out _ u8).mono ?_); rintro _ w9 ⟨a9, c9, rfl, s9, n9, u9⟩) | (go_at_call 19; (with_reducible refine (hs.out n9 s8 s9).mono ?_); rintro _ w10 ⟨rfl, u10⟩))
          go_wp2_with fail
          go_roundw
          case rel => exact ⟨k + 1, by omega, by go_num, u.trans (u9.trans u10)⟩
          case measure => simp [intOf]; omega
        · obtain rfl : k = GC.length := by omega
          cases rg
          all_goals
            go_wp2_with fail
            (with_reducible refine (CN.out _ UZ).mono ?_)
            rintro _ w14 ⟨rfl, u14⟩
            have Z14 := UZ.trans u14
            go_wp2_with fail
            (with_reducible refine (CP.out _ Z14).mono ?_)
            rintro _ w15 ⟨a15, c15, rfl, s15, u15⟩
            have Z15 := Z14.trans u15
            have S15 := Lib.hid s15
            clear s15
            go_wp2_with fail
            (with_reducible refine (CPQ.out _ Z15).mono ?_)
            rintro _ w16 ⟨a16, c16, rfl, s16, u16⟩
            have Z16 := Z15.trans u16
            have SN := Lib.hid (same_nums (S15.out.nw u16) s16)
            clear s16 S15
            go_wp2_with fail
            (with_reducible refine (SN.out).mono ?_)
            rintro _ w17 ⟨rfl, u17⟩
            have Z17 := Z16.trans u17
            clear SN
            go_wp2_with fail
            (with_reducible refine (CL.out _ Z17).mono ?_)
            rintro _ w18 ⟨a18, c18, rfl, s18, u18⟩
            have Z18 := Z17.trans u18
            have S18 := Lib.hid s18
            clear s18
            go_wp2_with fail
            (with_reducible refine (CLQ.out _ Z18).mono ?_)
            rintro _ w19 ⟨a19, c19, rfl, s19, u19⟩
            have Z19 := Z18.trans u19
            have SN := Lib.hid (same_nums (S18.out.nw u19) s19)
            clear s19 S18
            go_wp2_with fail
            (with_reducible refine (SN.out).mono ?_)
            rintro _ w20 ⟨rfl, u20⟩
            have Z20 := Z19.trans u20
            clear SN Z14 Z15 Z16 Z17 Z18 Z19 u14 u15 u16 u17 u18 u19 u20
            go_wp2_with fail
            (with_reducible refine (CRQ.out _ Z20).mono ?_)
            rintro _ w21 ⟨rfl, u21⟩
            go_wp2_with fail
            go_ret
            exact ⟨rfl, HUW.out.trans (Z20.trans u21)⟩
end Go.Proofs.YtpceoogmkbcfmaaGreatDoor
