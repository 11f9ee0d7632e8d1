/- The contract of AttestTrue. -/
import Derived.Test.YtpceoogmkbcfmaaGreatDoorAttG
import Derived.Deep.RegionHeld3
namespace Go.Proofs.YtpceoogmkbcfmaaGreatDoor
open Go.RowKit
set_option linter.unusedVariables false
set_option linter.unusedSimpArgs false
attribute [local irreducible] Calls

set_option maxHeartbeats 8000000 in
set_option maxRecDepth 100000 in
theorem true_c (l : List Vw.Say) (v gv : Value) (GC : List (Value × At.Grp)) (text : List UInt8) (truth : Int) (W : World) (g : Gl W) (hv : SlS 7 0 W.heap.size W v (l.map sayL)) (ho : ∀ x ∈ l, SayOk x) (hG : GrpS W.heap.size W gv (GC.map (·.2)) GC) (htx : text.length ≤ maxLen) (htr : I64 truth) :
    Calls Tryz.prog 3 #[v, gv, .string ⟨text.toArray⟩, .int .i64 truth] W fun e w' => e = .returned (.bool true) ∧ Nw W w' := by
  have hgb := g.big
  obtain ⟨a0, cap0, rfl, hm0, _⟩ := say_cells hv
  obtain ⟨a1, cap1, rfl, hm1, ha1⟩ := grp_cells hG
  unfold maxLen at hm0 hm1 htx
  have Ho := Lib.hid ho
  have Hv := Lib.hid hv
  have HG := Lib.hid hG
  have Ha1 := Lib.hid ha1
  clear ho hv hG ha1
  go_enter Tryz.func3, Tryz.ntmps3
  go_wp2_with fail
  (with_reducible refine (smallA_w _ g).mono ?_)
  rintro _ w0 ⟨rfl, u0⟩
  have g0 := g.upd u0
  go_wp2_with fail
  (with_reducible refine (new_s _ g0).mono ?_)
  rintro _ w1 ⟨q, rfl, hq, u1⟩
  have U1 := u0.trans u1
  have hq := hq.baseA u0.size hgb
  go_wp2_with fail
  (with_reducible refine (few30_w 0 W.heap.size _ l _ (Hv.out.nw U1) Ho.out).mono ?_)
  rintro _ w2 ⟨f, rfl, hf, u2⟩
  have U2 := U1.trans u2
  cases f with
  | false =>
    clear hf
    go_wp2_with fail
    go_ret
    exact ⟨rfl, U2⟩
  | true =>
  obtain ⟨hl30, hl300⟩ := hf rfl
  clear hf
  have Hl300 := Lib.hid hl300
  clear hl300
  go_wp2_with fail
  (with_reducible refine (fewG_w W.heap.size _ (GC.map (·.2)) GC _ (HG.out.nw U2)).mono ?_)
  rintro _ w3 ⟨f, rfl, hf, u3⟩
  have U3 := U2.trans u3
  cases f with
  | false =>
    clear hf
    go_wp2_with fail
    go_ret
    exact ⟨rfl, U3⟩
  | true =>
  obtain ⟨hG6, hG14⟩ := hf rfl
  clear hf
  have HG14 := Lib.hid hG14
  clear hG14
  by_cases ht300 : text.length ≤ 300
  rotate_left
  · go_wp2_with fail
    go_ret
    exact ⟨rfl, U3⟩
  have qr := Right_w _ _ _ _ _ (g.upd U3) (HG.out.nw U3)
  cases hrg : At.right (GC.map (·.2)) with
  | false =>
    rw [hrg] at qr
    have QR := Lib.hid qr
    clear hrg qr
    go_wp2_with fail
    (with_reducible refine (QR.out).mono ?_)
    rintro _ w4 ⟨rfl, u4⟩
    go_wp2_with fail
    go_ret
    exact ⟨rfl, U3.trans u4⟩
  | true =>
  rw [hrg] at qr
  have QR := Lib.hid qr
  have Hrg := Lib.hid hrg
  clear hrg qr
  go_wp2_with fail
  (with_reducible refine (QR.out).mono ?_)
  rintro _ w4 ⟨rfl, u4⟩
  have U4 := U3.trans u4
  have g4 := g.upd U4
  obtain ⟨f1, f2, f3, f4⟩ := Vw.signed_facts (Lr := []) List.nodup_nil (l := l) (by simp; omega) (fun x hx => words_len (Ho.out x hx) (Hl300.out x hx).1)
  have Hsg := Lib.hid (signedA_w W.heap.size 0 W.heap.size q [] _ l w4 g4 (((hq.nw u2).nw u3).nw u4) (Hv.out.nw U4) (Nat.le_refl _) Ho.out (fun x hx => (Hl300.out x hx).1) hl30 (by decide))
  have F4 := Lib.hid f4
  have F3 := Lib.hid f3
  clear f1 f2 f3 f4 QR
  go_wp2_with fail
  (with_reducible refine (Hsg.out).mono ?_)
  rintro _ w5 ⟨sv, rfl, hs5⟩
  obtain ⟨q', hrb, hq5, ho5, U5⟩ := sg_start hq U1 ((u2.trans u3).trans u4) hs5 F3.out
  have hlenS := F3.out
  clear hs5 hq Hsg F3
  generalize Vw.signedL [] l = SL at *
  obtain ⟨Lr, S⟩ := SL
  dsimp only at hq5 ho5 F4 hlenS
  have hS30 : S.length ≤ 30 := by omega
  clear hlenS
  obtain ⟨asl, caps, rfl⟩ := own_sl ho5
  have g5 := g.upd U5
  have hok : ∀ s ∈ S, SgnOk s := fun s hs => mod_okA s (F4.out s hs)
  rw [← hrb]
  have Hq := Lib.hid hq5
  have HS := Lib.hid (sgn_sls ho5)
  have HG5 := Lib.hid (HG.out.nw U5)
  have Hok := Lib.hid hok
  clear hq5 ho5 hok F4 hrb
  have hml : ∀ c ∈ GC, c.2.members.length ≤ 1000 := fun c hc => by have := HG14.out c hc; omega
  have hvl := At.votes_len Lr S text
  have HL := Lib.hid (liars_q text truth g5 Hq.out HS.out (by omega) Hok.out HG5.out (by omega) hml)
  have hlaw := At.true_law (V := At.votes Lr S text) (truth := truth) Hrg.out
  have Hlaw := Lib.hid hlaw
  have Hml := Lib.hid hml
  clear hlaw hml
  go_wp2_with fail
  (with_reducible refine (HL.out).mono ?_)
  rintro _ w6 ⟨lv, rfl, o6, u6⟩
  have U6 := U5.trans u6
  generalize hLs : At.liars (At.votes Lr S text) (GC.map (·.2)) truth = LS at *
  obtain ⟨a6, c6, rfl⟩ := own_sl o6
  have S6 := Lib.hid (own_num o6)
  have hq6 := Hq.out.nw u6
  have Hq6 := Lib.hid hq6
  have HS6 := Lib.hid (HS.out.nw u6)
  have HG6 := Lib.hid (HG5.out.nw u6)
  clear o6 HL hq6 Hq HS HG5 hLs
  go_wp2_with fail
  go_loopw [13, 14, 15] (fun hv ev iv wr => ∃ k : Nat, k ≤ GC.length ∧ iv = .int .i64 k ∧ (∃ b1 b2 : Bool, hv = .bool b1 ∧ ev = .bool b2 ∧ Hid (b1 = At.honB LS GC k) ∧ Hid (b2 = At.enB (At.votes Lr S text) truth GC k)) ∧ Nw w6 wr) (fun hv ev iv _ => GC.length - (intOf iv).toNat)
  case atStart => exact ⟨0, Nat.zero_le _, rfl, ⟨false, true, rfl, rfl, rfl, rfl⟩, Upd.refl _ _⟩
  case round =>
    obtain ⟨k, hk, rfl, ⟨b1, b2, rfl, rfl, hb1, hb2⟩, u⟩ := hrel
    by_cases hlt : k < GC.length
    · have UU := U6.trans u
      have gw := g.upd UU
      rcases Ha1.out with hnil | ⟨b, o, rfl, _, hb, hc⟩
      · simp [hnil] at hlt
      have d0 := ((Nw.below UU).cell (p := ⟨b, o + k * 2, none⟩) hb).trans (hc k hlt).1
      have d1 := ((Nw.below UU).cell (p := ⟨b, o + k * 2 + 1, none⟩) hb).trans (hc k hlt).2
      have hms := (HG6.out.each _ (List.getElem_mem hlt)).1
      have hm14 := Hml.out _ (List.getElem_mem hlt)
      have hbs := At.honB_succ (L := LS) hlt
      have hes := At.enB_succ (V := At.votes Lr S text) (truth := truth) hlt
      rw [← hb1.out] at hbs
      rw [← hb2.out] at hes
      generalize GC[k] = x at *
      obtain ⟨ms, gm, gbad⟩ := x
      dsimp only at *
      obtain ⟨am, capm, rfl, hmm, _⟩ := num_cells hms
      have hcn := fun (z : World) (uz : Nw wr z) => count_w _ _ _ _ _ _ gm LS z ((hms.nw u).nw uz) ((S6.out.nw u).nw uz)
      have hvt : ∀ (z : World) (uz : Nw wr z), Calls Tryz.prog 15 #[.pointer (some ⟨q'.rb, 0, none⟩), .slice asl S.length caps, .agg #[.slice am gm.length capm, .int .i64 gbad], .string ⟨text.toArray⟩, .int .i64 truth] z fun e w' => ∃ a c, e = .returned (.slice a (At.members (At.votes Lr S text) ⟨gm, gbad⟩ truth).length c) ∧ Nw wr w' := fun z uz =>
        (Vote_w W.heap.size q' Lr _ _ _ _ _ S _ ⟨gm, gbad⟩ text truth z (gw.upd uz) ((Hq6.out.nw u).nw uz) ((HS6.out.nw u).nw uz) (by omega) Hok.out ((hms.nw u).nw uz) (by dsimp only; omega)).mono fun e w' ⟨v', h1, h2, h3⟩ => by
          obtain ⟨a, c, rfl⟩ := own_sl h2
          exact ⟨a, c, h1, uz.trans h3⟩
      have hvl2 : (At.members (At.votes Lr S text) ⟨gm, gbad⟩ truth).length ≤ 1000 := Nat.le_trans (List.length_filter_le _ _) hm14
      have hcl2 : At.countL gm LS ≤ 1000 := Nat.le_trans (List.length_filter_le _ _) (by simpa using hm14)
      have Hbs := Lib.hid hbs
      have Hes := Lib.hid hes
      have Hcn := Lib.hid hcn
      have Hvt := Lib.hid hvt
      have d0' : ∀ i : Later wr, i.1.cell? ⟨b, o + k * 2, none⟩ = some (.slice am gm.length capm) := fun i => later_cell i d0
      have d1' : ∀ i : Later wr, i.1.cell? ⟨b, o + k * 2 + 1, none⟩ = some (.int .i64 gbad) := fun i => later_cell i d1
      clear hbs hes hcn hvt hms hc
      generalize At.countL gm LS = cn at *
      generalize (At.members (At.votes Lr S text) ⟨gm, gbad⟩ truth).length = vn at *
      have HD : Hid (∀ z, Nw wr z → z.cell? ⟨b, o + k * 2, none⟩ = some (.slice am gm.length capm) ∧ z.cell? ⟨b, o + k * 2 + 1, none⟩ = some (.int .i64 gbad)) := fun z uz => ⟨later_cell ⟨z, uz⟩ d0, later_cell ⟨z, uz⟩ d1⟩
      cases b1 with
      | true =>
        have hb1' : Hid (true = At.honB LS GC (k + 1)) := by show _ = _; rw [Hbs.out]; rfl
        clear Hbs Hcn
        go_wp2_with fail
        refine wp_region_nw (by kernel_rfl) (by kernel_rfl) ?_
        repeat (go_big_quiet_step ((fail)))
        refine wpQuiet_nil ?_
        intro w7 u7
        replace u7 := later_out u7
        cases b2 with
        | false =>
          have hb2' : Hid (false = At.enB (At.votes Lr S text) truth GC (k + 1)) := by show _ = _; rw [Hes.out]; rfl
          clear Hes Hvt
          go_wp2_with fail
          refine wp_region_nw (by kernel_rfl) (by kernel_rfl) ?_
          repeat (go_big_quiet_step ((fail)))
          refine wpQuiet_nil ?_
          intro w8 u8
          replace u8 := later_out u8
          go_wp2_with fail
          go_roundw
          case rel => exact ⟨k + 1, by omega, by go_num, ⟨true, false, rfl, rfl, hb1', hb2'⟩, (u.trans u7).trans u8⟩
          case measure => simp [intOf]; omega
        | true =>
          have hb2' : Hid (decide (gbad < (vn : Int)) = At.enB (At.votes Lr S text) truth GC (k + 1)) := by show _ = _; rw [Hes.out]; simp
          obtain ⟨d2, d3⟩ := HD.out _ u7
          clear Hes d0 d1 d0' d1'
          go_wp2_with fail
          go_region_held3 (fun z => z.cell? ⟨b, o + k * 2, none⟩ = some (.slice am gm.length capm) ∧ z.cell? ⟨b, o + k * 2 + 1, none⟩ = some (.int .i64 gbad)) (first | exact HD.out _ u8 | exact HD.out _ u7 | exact HD.out _ u7.drew) (first | (go_at_call 15; (with_reducible refine (Hvt.out _ (by first | exact u7 | exact u7.drew)).mono ?_); rintro _ w8 ⟨a8, c8, rfl, u8⟩))
          clear Hvt d2 d3
          go_wp2_with fail
          go_roundw
          case rel => exact ⟨k + 1, by omega, by go_num, ⟨true, decide (gbad < (vn : Int)), rfl, rfl, hb1', hb2'⟩, u.trans u8⟩
          case measure => simp [intOf]; omega
      | false =>
        have hb1' : Hid (decide ((cn : Int) ≤ gbad) = At.honB LS GC (k + 1)) := by show _ = _; rw [Hbs.out]; simp
        clear Hbs
        go_wp2_with fail
        refine wp_region_nw (by kernel_rfl) (by kernel_rfl) ?_
        repeat (go_big_quiet_step ((go_at_call 14; exact later_call (Hcn.out _ (Later.nw _)))))
        refine wpQuiet_nil ?_
        intro w7 u7
        replace u7 := later_out u7
        cases b2 with
        | false =>
          have hb2' : Hid (false = At.enB (At.votes Lr S text) truth GC (k + 1)) := by show _ = _; rw [Hes.out]; rfl
          clear Hes Hvt
          go_wp2_with fail
          refine wp_region_nw (by kernel_rfl) (by kernel_rfl) ?_
          repeat (go_big_quiet_step ((fail)))
          refine wpQuiet_nil ?_
          intro w8 u8
          replace u8 := later_out u8
          go_wp2_with fail
          go_roundw
          case rel => exact ⟨k + 1, by omega, by go_num, ⟨decide ((cn : Int) ≤ gbad), false, rfl, rfl, hb1', hb2'⟩, (u.trans u7).trans u8⟩
          case measure => simp [intOf]; omega
        | true =>
          have hb2' : Hid (decide (gbad < (vn : Int)) = At.enB (At.votes Lr S text) truth GC (k + 1)) := by show _ = _; rw [Hes.out]; simp
          obtain ⟨d2, d3⟩ := HD.out _ u7
          clear Hes d0 d1 d0' d1'
          go_wp2_with fail
          go_region_held3 (fun z => z.cell? ⟨b, o + k * 2, none⟩ = some (.slice am gm.length capm) ∧ z.cell? ⟨b, o + k * 2 + 1, none⟩ = some (.int .i64 gbad)) (first | exact HD.out _ u8 | exact HD.out _ u7 | exact HD.out _ u7.drew) (first | (go_at_call 15; (with_reducible refine (Hvt.out _ (by first | exact u7 | exact u7.drew)).mono ?_); rintro _ w8 ⟨a8, c8, rfl, u8⟩))
          clear Hvt d2 d3
          go_wp2_with fail
          go_roundw
          case rel => exact ⟨k + 1, by omega, by go_num, ⟨decide ((cn : Int) ≤ gbad), decide (gbad < (vn : Int)), rfl, rfl, hb1', hb2'⟩, u.trans u8⟩
          case measure => simp [intOf]; omega
    · obtain rfl : k = GC.length := by omega
      have hH := fun e : b1 = true => At.hon_ex (show At.honB LS GC GC.length = true by rw [← hb1.out, e])
      have hE := fun e : b2 = true => At.en_all (show At.enB (At.votes Lr S text) truth GC GC.length = true by rw [← hb2.out, e])
      have gw := g.upd (U6.trans u)
      have qa := acc_q text gw (Hq6.out.nw u) (HS6.out.nw u) (by omega) Hok.out (HG6.out.nw u)
      obtain ⟨L1, L2, L3⟩ := Hlaw.out
      generalize At.accept (At.votes Lr S text) (GC.map (·.2)) = ac at *
      obtain ⟨n, er⟩ := ac
      dsimp only at qa L1 L2 L3
      by_cases h0 : er = 0
      · subst h0
        cases b1 with
        | true =>
          have hn := (L2 (hH rfl)).2.1 rfl
          have dn : (n != truth) = false := by simp [hn]
          have dn2 : (n == truth) = true := by simp [hn]
          clear L1 L2 L3 hH hE hn Hlaw Hml
          cases b2 with
          | true =>
            have QA := Lib.hid qa
            clear qa hb1 hb2
            go_wp2_with fail
            (with_reducible refine (QA.out).mono ?_)
            rintro _ w8 ⟨rfl, u8⟩
            go_wp2_with fail
            go_ret
            exact ⟨rfl, (U6.trans u).trans u8⟩
          | false =>
            have QA := Lib.hid qa
            clear qa hb1 hb2
            go_wp2_with fail
            (with_reducible refine (QA.out).mono ?_)
            rintro _ w8 ⟨rfl, u8⟩
            go_wp2_with fail
            go_ret
            exact ⟨rfl, (U6.trans u).trans u8⟩
        | false =>
          clear L1 L2 L3 hH hE Hlaw Hml
          cases b2 with
          | true =>
            have QA := Lib.hid qa
            clear qa hb1 hb2
            go_wp2_with fail
            (with_reducible refine (QA.out).mono ?_)
            rintro _ w8 ⟨rfl, u8⟩
            go_wp2_with fail
            go_ret
            exact ⟨rfl, (U6.trans u).trans u8⟩
          | false =>
            have QA := Lib.hid qa
            clear qa hb1 hb2
            go_wp2_with fail
            (with_reducible refine (QA.out).mono ?_)
            rintro _ w8 ⟨rfl, u8⟩
            go_wp2_with fail
            go_ret
            exact ⟨rfl, (U6.trans u).trans u8⟩
      · obtain ⟨rfl, h2⟩ := L1 h0
        rcases h2 with rfl | rfl
        · cases b2 with
          | true => exact absurd rfl (L3 (hE rfl))
          | false =>
            clear L1 L2 L3 hH hE Hlaw Hml h0
            cases b1 with
            | true =>
            have QA := Lib.hid qa
            clear qa hb1 hb2
            go_wp2_with fail
            (with_reducible refine (QA.out).mono ?_)
            rintro _ w8 ⟨rfl, u8⟩
            go_wp2_with fail
            go_ret
            exact ⟨rfl, (U6.trans u).trans u8⟩
            | false =>
            have QA := Lib.hid qa
            clear qa hb1 hb2
            go_wp2_with fail
            (with_reducible refine (QA.out).mono ?_)
            rintro _ w8 ⟨rfl, u8⟩
            go_wp2_with fail
            go_ret
            exact ⟨rfl, (U6.trans u).trans u8⟩
        · cases b1 with
          | true => exact absurd rfl (L2 (hH rfl)).1
          | false =>
            clear L1 L2 L3 hH hE Hlaw Hml h0
            cases b2 with
            | true =>
            have QA := Lib.hid qa
            clear qa hb1 hb2
            go_wp2_with fail
            (with_reducible refine (QA.out).mono ?_)
            rintro _ w8 ⟨rfl, u8⟩
            go_wp2_with fail
            go_ret
            exact ⟨rfl, (U6.trans u).trans u8⟩
            | false =>
            have QA := Lib.hid qa
            clear qa hb1 hb2
            go_wp2_with fail
            (with_reducible refine (QA.out).mono ?_)
            rintro _ w8 ⟨rfl, u8⟩
            go_wp2_with fail
            go_ret
            exact ⟨rfl, (U6.trans u).trans u8⟩
end Go.Proofs.YtpceoogmkbcfmaaGreatDoor
