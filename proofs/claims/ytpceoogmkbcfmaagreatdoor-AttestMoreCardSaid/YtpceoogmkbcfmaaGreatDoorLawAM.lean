/- The contract of AttestMore. -/
import Derived.Test.YtpceoogmkbcfmaaGreatDoorAttM
import Derived.Deep.RegionHeld3
import Derived.Deep.CutRange
namespace Go.Proofs.YtpceoogmkbcfmaaGreatDoor
open Go.RowKit
set_option linter.unusedVariables false
set_option linter.unusedSimpArgs false
attribute [local irreducible] Calls

set_option maxHeartbeats 8000000 in
set_option maxRecDepth 100000 in
theorem more_c (l : List Vw.Say) (v : Value) (l2 : List Vw.Say) (v2 gv : Value) (GC : List (Value × At.Grp)) (text : List UInt8) (W : World) (g : Gl W) (hv : SlS 7 0 W.heap.size W v (l.map sayL)) (ho : ∀ x ∈ l, SayOk x) (hv2 : SlS 7 0 W.heap.size W v2 (l2.map sayL)) (ho2 : ∀ x ∈ l2, SayOk x) (hG : GrpS W.heap.size W gv (GC.map (·.2)) GC) (htx : text.length ≤ maxLen) :
    Calls Tryz.prog 4 #[v, v2, gv, .string ⟨text.toArray⟩] W fun e w' => e = .returned (.bool true) ∧ Nw W w' := by
  have hgb := g.big
  obtain ⟨a0, cap0, rfl, hm0, _⟩ := say_cells hv
  obtain ⟨a02, cap02, rfl, hm02, _⟩ := say_cells hv2
  obtain ⟨a1, cap1, rfl, hm1, ha1⟩ := grp_cells hG
  unfold maxLen at hm0 hm1 htx hm02
  have Ho := Lib.hid ho
  have Hv := Lib.hid hv
  have Ho2 := Lib.hid ho2
  have Hv2 := Lib.hid hv2
  have HG := Lib.hid hG
  have Ha1 := Lib.hid ha1
  clear ho hv hG ha1 ho2 hv2
  go_enter Tryz.func4, Tryz.ntmps4
  go_wp2_with fail
  (with_reducible refine (smallA_w _ g).mono ?_)
  rintro _ w0 ⟨rfl, u0⟩
  have g0 := g.upd u0
  go_wp2_with fail
  (with_reducible refine (new_s _ g0).mono ?_)
  rintro _ w1 ⟨q, rfl, hq, u1⟩
  have U1 := u0.trans u1
  have hq := hq.baseA u0.size hgb
  go_wp2_with fail
  (with_reducible refine (few20A_w 0 W.heap.size _ l _ (Hv.out.nw U1) Ho.out).mono ?_)
  rintro _ w2 ⟨f, rfl, hf, u2⟩
  have U2 := U1.trans u2
  cases f with
  | false =>
    clear hf
    go_wp2_with fail
    go_ret
    exact ⟨rfl, U2⟩
  | true =>
  obtain ⟨hl20, hl300⟩ := hf rfl
  clear hf
  have Hl300 := Lib.hid hl300
  clear hl300
  go_wp2_with fail
  (with_reducible refine (few10_w 0 W.heap.size _ l2 _ (Hv2.out.nw U2) Ho2.out).mono ?_)
  rintro _ w22 ⟨f, rfl, hf, u22⟩
  have U22 := U2.trans u22
  cases f with
  | false =>
    clear hf
    go_wp2_with fail
    go_ret
    exact ⟨rfl, U22⟩
  | true =>
  obtain ⟨hl10, hl302⟩ := hf rfl
  clear hf
  have Hl302 := Lib.hid hl302
  clear hl302
  go_wp2_with fail
  (with_reducible refine (fewG_w W.heap.size _ (GC.map (·.2)) GC _ (HG.out.nw U22)).mono ?_)
  rintro _ w3 ⟨f, rfl, hf, u3⟩
  have U3 := U22.trans u3
  cases f with
  | false =>
    clear hf
    go_wp2_with fail
    go_ret
    exact ⟨rfl, U3⟩
  | true =>
  obtain ⟨hG6, hG14⟩ := hf rfl
  clear hf
  have HG14 := Lib.hid hG14
  clear hG14
  by_cases ht300 : text.length ≤ 300
  rotate_left
  · go_wp2_with fail
    go_ret
    exact ⟨rfl, U3⟩
  have qr := Right_w _ _ _ _ _ (g.upd U3) (HG.out.nw U3)
  cases hrg : At.right (GC.map (·.2)) with
  | false =>
    rw [hrg] at qr
    have QR := Lib.hid qr
    clear hrg qr
    go_wp2_with fail
    (with_reducible refine (QR.out).mono ?_)
    rintro _ w4 ⟨rfl, u4⟩
    go_wp2_with fail
    go_ret
    exact ⟨rfl, U3.trans u4⟩
  | true =>
  rw [hrg] at qr
  have QR := Lib.hid qr
  have Hrg := Lib.hid hrg
  clear hrg qr
  go_wp2_with fail
  (with_reducible refine (QR.out).mono ?_)
  rintro _ w4 ⟨rfl, u4⟩
  have U4 := U3.trans u4
  have g4 := g.upd U4
  obtain ⟨f1, f2, f3, f4⟩ := Vw.signed_facts (Lr := []) List.nodup_nil (l := l) (by simp; omega) (fun x hx => words_len (Ho.out x hx) (Hl300.out x hx).1)
  have K4 : Rw W q.rb [] [] w4 := ⟨⟨q, rfl, (((hq.nw u2).nw u22).nw u3).nw u4⟩, U4, (fun p hp => by cases hp), List.Pairwise.nil⟩
  generalize q.rb = rb at *
  have hL1 : (Vw.signedL [] l).1.length ≤ 20 := by simp only [List.length_nil] at f1; omega
  have hsg := rw_signed K4 g4 (Hv.out.nw U4) (Nat.le_refl _) Ho.out (fun x hx => (Hl300.out x hx).1) (by omega) (by decide) f3
  have hlS : (Vw.signedL [] l).2.length ≤ 20 := by omega
  obtain ⟨e1, e2, e3, e4⟩ := Vw.signed_facts (Lr := (Vw.signedL [] l).1) f2 (l := l2) (by omega) (fun x hx => words_len (Ho2.out x hx) (Hl302.out x hx).1)
  generalize Vw.signedL [] l = SL at *
  obtain ⟨L1, S⟩ := SL
  dsimp only at hsg f2 f4 hL1 hlS e1 e2 e3 e4
  have hlA : (Vw.signedL L1 l2).2.length ≤ 10 := by omega
  have hL2 : (Vw.signedL L1 l2).1.length ≤ 30 := by omega
  have Hsg := Lib.hid hsg
  have F4 := Lib.hid f4
  have E2 := Lib.hid e2
  have E3 := Lib.hid e3
  have E4 := Lib.hid e4
  have K4H := Lib.hid K4
  clear f1 f2 f3 f4 e1 e2 e3 e4 QR hq hsg K4
  go_wp2_with fail
  (with_reducible refine (Hsg.out).mono ?_)
  rintro _ w5 ⟨asl, caps, rfl, K5, ho5, _, _⟩
  have g5 := g.upd K5.nw
  replace K5 := K4H.out.cons K5 (Nat.le_refl _) ho5
  have h5b : nG ≤ w5.heap.size := g5.big
  have HO5 := Lib.hid ho5
  have K5H := Lib.hid K5
  clear ho5 K5 Hsg K4H
  go_wp2_with (at_builtin; refine wpList_cat rfl _ _ 29 rfl w5.heap.size w4.heap.size tSigned _ 3 32 Tryz.underlying29 infoSgn rfl (by decide) _ _ 0 S.length [] (flatS S) rfl (by first | exact World.ownsRow_nil _ _ _ _ | exact ⟨rfl, Or.inr ⟨_, 0, #[], rfl, Nat.le_refl _, by exact heap_new _ _, by decide, by decide, rfl, rfl⟩⟩) rfl (owns_upd' HO5.out (by first | exact nw_alloc _ _ | exact Upd.refl _ _) (fun _ _ e => e)) (flatS_one _) (by unfold maxLen; omega) (by omega) (by simp) ?_)
  intro v6 w6 ho6 u6 hb6
  have U6 : Nw w5 w6 := (nw_alloc w5 (.cells #[] tSigned)).grown u6 (fun k hk => ⟨Or.inr (by simp [Value.ownBlock] at hk; omega), by simp [Value.ownBlock] at hk; omega⟩)
  obtain ⟨a6, c6, rfl⟩ := own_sl ho6
  have K6 := K5H.out.cons (K5H.out.go U6) (Nat.le_refl _) ho6
  have g6 := g.upd K6.nw
  have hsg2 := rw_signed K6 g6 (Hv2.out.nw K6.nw) (Nat.le_refl _) Ho2.out (fun x hx => (Hl302.out x hx).1) (by omega) (by omega) E3.out
  generalize Vw.signedL L1 l2 = SL2 at *
  obtain ⟨L2, A⟩ := SL2
  dsimp only at hsg2 hlA hL2 E2 E3 E4
  have Hsg2 := Lib.hid hsg2
  have HO6 := Lib.hid ho6
  have hw56 := U6.size
  clear hsg2 ho6 u6 hb6 U6 K6 E3
  go_wp2_with fail
  (with_reducible refine (Hsg2.out).mono ?_)
  rintro _ w7 ⟨a7, c7, rfl, K7, ho7, keep7, hw67⟩
  have ho67 := keep7 _ _ _ _ HO6.out
  have HO67 := Lib.hid ho67
  have HO7 := Lib.hid ho7
  have K7H := Lib.hid K7
  have hw57 : w5.heap.size ≤ w7.heap.size := by omega
  clear ho67 ho7 keep7 K7 Hsg2 HO6
  go_wp2_with (at_builtin; refine wpList_cat rfl _ _ 29 rfl w5.heap.size w6.heap.size tSigned _ 3 32 Tryz.underlying29 infoSgn rfl (by decide) _ _ S.length A.length (flatS S) (flatS A) rfl HO67.out rfl HO7.out (flatS_one _) (by unfold maxLen; omega) (by omega) hw57 ?_)
  intro v8 w8 ho8 u8 hb8
  have u8' : Upd (fun k => (Value.slice a6 S.length c6).ownBlock = some k) w7 w8 := (Upd.refl _ w7).grown u8 (fun k hk => ⟨Or.inl hk, by have := (HO67.out.lt k hk).1; omega⟩)
  obtain ⟨a8, c8, rfl⟩ := own_sl ho8
  have K8 := K5H.out.cons (K7H.out.app0 u8') (Nat.le_refl _) (v := .slice a8 (S.length + A.length) c8) (S := S ++ A) (by rw [List.length_append, show flatS (S ++ A) = flatS S ++ flatS A by simp [flatS]]; exact ho8)
  have K8H := Lib.hid K8.nil1
  have Hrg0 := Hrg
  clear K8 u8' u8 ho8 hb8 HO67 HO7 K7H K5H HO5 hw57 hw56 hw67 h5b g5 g6
  generalize hT : Cl.text ⟨3, 5, 0, text ++ [120]⟩ = T at *
  have HT := Lib.hid hT
  clear hT
  go_wp2_with fail
  go_loopw [13, 14] (fun bv iv wr => ∃ k : Nat, k ≤ S.length ∧ iv = .int .i64 k ∧ Rw W rb (At.backTo T S L2 k).1 [(bv, (At.backTo T S L2 k).2), (.slice a8 (S.length + A.length) c8, S ++ A), (.slice asl S.length caps, S)] wr) (fun bv iv _ => S.length - (intOf iv).toNat)
  case atStart => exact ⟨0, Nat.zero_le _, rfl, K8H.out⟩
  case round =>
    obtain ⟨k, hk, rfl, K⟩ := hrel
    by_cases hlt : k < S.length
    · have hrow := K.row 2 rfl
      obtain ⟨b, o, rfl⟩ : ∃ b o, asl = some ⟨b, o, none⟩ := by
        obtain ⟨a', cap', e, _, hc⟩ := sgn_cells (sgn_sls hrow)
        rcases hc with hnil | ⟨b', o', e2, _⟩
        · dsimp only at hnil; simp [hnil] at hlt
        · simp at e; exact ⟨b', o', e.1.trans e2⟩
      obtain ⟨hbl1, hbl2⟩ := At.back_len T S L2 k
      have hbs : At.backTo T S L2 (k + 1) = ((Bk.sign (At.backTo T S L2 k).1 S[k].key T).2, (At.backTo T S L2 k).2 ++ At.moreOf (At.backTo T S L2 k).1 T S[S.length - 1 - k] S[k]) := by
        rw [At.backTo]
        congr 3 <;> simp [List.getD_eq_getElem?_getD, hlt, show S.length - 1 - k < S.length by omega]
      have hm1 := F4.out _ (List.getElem_mem hlt)
      obtain ⟨ab, cb, hbv⟩ := own_sl (K.row 0 rfl)
      dsimp only at hbv
      subst hbv
      generalize At.backTo T S L2 k = st at *
      obtain ⟨Lk, B⟩ := st
      dsimp only at K hbs hbl1 hbl2
      rw [hbl2] at K
      have gw := g.upd K.nw
      have d := sgn_atA (K.row 2 rfl) hlt
      obtain ⟨d0, d1, d2⟩ := d
      dsimp only at d0 d1 d2
      obtain ⟨d, hd⟩ : ∃ d, S.length - 1 - k = d := ⟨_, rfl⟩
      have hlt2 : d < S.length := by omega
      have hsub : (S.length : Int) - 1 - (k : Int) = (d : Int) := by omega
      simp only [hd] at hbs
      have hcel := fun (z : World) (hz : z.ownsRow W.heap.size tSigned 3 (.slice (some ⟨b, o, none⟩) S.length caps) S.length (flatS S)) => (⟨sgn_atA hz hlt2, (sgn_atA hz hlt).1⟩ : (z.cell? ⟨b, o + d * 3, none⟩ = some (.int .i64 S[d].key) ∧ z.cell? ⟨b, o + d * 3 + 1, none⟩ = some (.string ⟨S[d].text.toArray⟩) ∧ z.cell? ⟨b, o + d * 3 + 2, none⟩ = some (.int .i64 S[d].mark)) ∧ z.cell? ⟨b, o + k * 3, none⟩ = some (.int .i64 S[k].key))
      generalize S[d] = sa at *
      generalize S[k] = sb at *
      obtain ⟨k0, k1, m0, m1, mt⟩ := hm1
      have hwr : IntKind.i64.wrap (IntKind.i64.wrap ((S.length : Int) - 1) - (k : Int)) = (d : Int) := by rw [IntKind.wrap_i64, IntKind.wrap_i64]; omega
      clear hd hsub
      have hW0 := K.nw.size
      have K1 := K.cons (K.go (nw_alloc wr (.cells #[.int .i64 sb.key, .string ⟨sb.text.toArray⟩, .int .i64 (sb.mark + 1000)] tSigned))) (Nat.le_refl _) (v := .slice (some ⟨wr.heap.size, 0, none⟩) 1 1) (S := [⟨sb.key, sb.text, sb.mark + 1000⟩]) (own_box (C := [⟨sb.key, sb.text, sb.mark + 1000⟩]) (heap_new wr _) (Nat.le_refl _) rfl (by simp [maxLen]))
      replace K1 := K1.swap
      have hsz : (wr.alloc (.cells #[.int .i64 sb.key, .string ⟨sb.text.toArray⟩, .int .i64 (sb.mark + 1000)] tSigned)).heap.size = wr.heap.size + 1 := by simp
      generalize hWb : wr.alloc (.cells #[.int .i64 sb.key, .string ⟨sb.text.toArray⟩, .int .i64 (sb.mark + 1000)] tSigned) = Wb at *
      have hbu := fun (z : World) (Lz : List (Value × List Bk.Sgn)) (hz : Rw W rb Lk Lz z) => rw_built (k := sb.key) (p := 5) (t := text ++ [120]) (L' := (Bk.sign Lk sb.key T).2) (sg := (Bk.sign Lk sb.key T).1) hz (g.upd hz.nw) (by unfold I64; omega) (I64_a (by decide)) (by simp; omega) (by omega) (by rw [HT.out])
      simp only [← bs_append] at hbu
      unfold At.moreOf at hbs
      generalize Bk.sign Lk sb.key T = sg at *
      obtain ⟨sg, L'⟩ := sg
      dsimp only at hbu hbs
      obtain ⟨gk, gt, gm⟩ := sg
      dsimp only at hbu
      have hsc : ∀ (z : World) (L0 : List Bk.Seal) (p1 p2 : Value × List Bk.Sgn), Rw W rb L0 [p1, (.slice (some ⟨wr.heap.size, 0, none⟩) 1 1, [⟨sb.key, sb.text, sb.mark + 1000⟩]), p2, (.slice (some ⟨b, o, none⟩) S.length caps, S)] z → z.cell? ⟨b, o + d * 3, none⟩ = some (.int .i64 sa.key) ∧ z.cell? ⟨b, o + d * 3 + 1, none⟩ = some (.string ⟨sa.text.toArray⟩) ∧ z.cell? ⟨b, o + d * 3 + 2, none⟩ = some (.int .i64 sa.mark) ∧ z.cell? ⟨b, o + k * 3, none⟩ = some (.int .i64 sb.key) ∧ z.cell? ⟨wr.heap.size, 0, none⟩ = some (.int .i64 sb.key) ∧ z.cell? ⟨wr.heap.size, 1, none⟩ = some (.string ⟨sb.text.toArray⟩) ∧ z.cell? ⟨wr.heap.size, 2, none⟩ = some (.int .i64 (sb.mark + 1000)) := fun z L0 p1 p2 hz => by
        obtain ⟨⟨q1, q2, q3⟩, q4⟩ := hcel z (hz.row 3 rfl)
        have hb := sgn_atA (k := 0) (hz.row 1 rfl) (by simp)
        dsimp only at hb
        simp only [Nat.zero_mul, Nat.add_zero, Nat.zero_add, List.getElem_cons_zero] at hb
        exact ⟨q1, q2, q3, q4, hb⟩
      have SC := Lib.hid hsc
      have HBu := Lib.hid hbu
      have Hbs := Lib.hid hbs
      have KB := Lib.hid K1
      have HWb := Lib.hid hWb
      have hg0 : nG ≤ W.heap.size := hgb
      have hbl4 : Hid (4 * k + 4 = (B ++ [sa, ⟨sb.key, sb.text, sb.mark + 1000⟩, ⟨gk, gt, gm⟩, sa]).length) := by show _ = _; rw [List.length_append, hbl2]; rfl
      have h63 : Hid (4 * k + 4 ≤ maxLen ∧ (4 * k + 4) * 32 ≤ 140737488355328) := ⟨by unfold maxLen; omega, by omega⟩
      have KBd := KB.out.go ((Upd.refl _ _).drew)
      clear hcel hbs K hrow hsc hbu K1 hWb
      go_wp2_with fail
      rw [HWb.out]
      go_region_held_law (fun z => z.cell? ⟨b, o + d * 3, none⟩ = some (.int .i64 sa.key) ∧ z.cell? ⟨b, o + d * 3 + 1, none⟩ = some (.string ⟨sa.text.toArray⟩) ∧ z.cell? ⟨b, o + d * 3 + 2, none⟩ = some (.int .i64 sa.mark) ∧ z.cell? ⟨b, o + k * 3, none⟩ = some (.int .i64 sb.key) ∧ z.cell? ⟨wr.heap.size, 0, none⟩ = some (.int .i64 sb.key) ∧ z.cell? ⟨wr.heap.size, 1, none⟩ = some (.string ⟨sb.text.toArray⟩) ∧ z.cell? ⟨wr.heap.size, 2, none⟩ = some (.int .i64 (sb.mark + 1000))) (with_reducible first | exact SC.out _ _ _ _ KB.out | exact SC.out _ _ _ _ KBd | exact SC.out _ _ _ _ K3 | exact SC.out _ _ _ _ K2a | exact SC.out _ _ _ _ K2) (first | (go_at_call 17; (with_reducible refine (HBu.out _ _ KBd).mono ?_); rintro _ w12 ⟨rfl, K2⟩; have K2a := K2.go (nw_alloc w12 (.cells #[.int .i64 sa.key, .string ⟨sa.text.toArray⟩, .int .i64 sa.mark, .int .i64 sb.key, .string ⟨sb.text.toArray⟩, .int .i64 (sb.mark + 1000), .int .i64 gk, .string ⟨gt.toArray⟩, .int .i64 gm, .int .i64 sa.key, .string ⟨sa.text.toArray⟩, .int .i64 sa.mark] tSigned)); have HR2 := Lib.hid (rw_head hbl2 K2a); have hw2 := rw_size K2a; have HN2 := Lib.hid (news_of (heap_new w12 (.cells #[.int .i64 sa.key, .string ⟨sa.text.toArray⟩, .int .i64 sa.mark, .int .i64 sb.key, .string ⟨sb.text.toArray⟩, .int .i64 (sb.mark + 1000), .int .i64 gk, .string ⟨gt.toArray⟩, .int .i64 gm, .int .i64 sa.key, .string ⟨sa.text.toArray⟩, .int .i64 sa.mark] tSigned)) (o := 0) (news := flatS [sa, ⟨sb.key, sb.text, sb.mark + 1000⟩, ⟨gk, gt, gm⟩, sa]) rfl)) | (refine step_catM rfl _ _ 29 rfl tSigned _ 3 32 Tryz.underlying29 infoSgn rfl (by decide) W.heap.size hw2 hg0 (.slice ab (4 * k) cb) (4 * k) (flatS B) rfl HR2.out _ 4 4 (flatS [sa, ⟨sb.key, sb.text, sb.mark + 1000⟩, ⟨gk, gt, gm⟩, sa]) rfl rfl HN2.out (flatS_one _) (by omega) h63.out.1 h63.out.2 ?_; intro gs cs ws ho3 u3 o3; have K3 := K2a.app (T := [sa, ⟨sb.key, sb.text, sb.mark + 1000⟩, ⟨gk, gt, gm⟩, sa]) hbl4.out ho3 u3 o3))
      have K4 := K3.swap.tail
      have K4H := Lib.hid K4
      clear K4 K3 K2a K2 HR2 HN2 hw2 ho3 u3 o3 KBd
      go_wp2_with fail
      go_roundw
      case rel => exact ⟨k + 1, by omega, by go_num, by rw [Hbs.out]; exact K4H.out⟩
      case measure => simp [intOf]; omega
    · obtain rfl : k = S.length := by omega
      obtain ⟨hbl1, hbl2⟩ := At.back_len T S L2 S.length
      obtain ⟨ab, cb, hbv⟩ := own_sl (K.row 0 rfl)
      dsimp only at hbv
      subst hbv
      have hTl : T.length ≤ 30000 := by rw [← HT.out]; exact text_len8 _ ⟨by unfold I64; dsimp only; omega, by unfold I64; dsimp only; omega, by unfold I64; dsimp only; omega, by simp; omega⟩
      have hbok := back_ok (T := T) (S := S) (Lr := L2) F4.out hTl S.length (Nat.le_refl _) (by omega)
      have hbvt : ∀ Lf : List Bk.Seal, Lf.length ≤ 1000 → ∀ v, v ∈ At.votes Lf (At.backTo T S L2 S.length).2 text ↔ v ∈ At.votes Lf S text := fun Lf hLf => by
        rw [← HT.out]
        exact At.back_votes hLf (fun s hs => (F4.out s hs).m0)
      generalize At.backTo T S L2 S.length = st at *
      obtain ⟨Lf, Bk⟩ := st
      dsimp only at K hbl1 hbl2 hbok hbvt
      have hvt := hbvt Lf (by omega)
      have gw := g.upd K.nw
      have UW := K.nw
      obtain ⟨q, hqr, hq⟩ := K.ring
      subst hqr
      have sB := sgn_sls (K.row 0 rfl)
      have sA := sgn_sls (K.row 1 rfl)
      have sS := sgn_sls (K.row 2 rfl)
      dsimp only at sB sA sS
      have hokS : ∀ s ∈ S, SgnOk s := fun s hs => mod_okA s (F4.out s hs)
      have hokA : ∀ s ∈ S ++ A, SgnOk s := fun s hs => (List.mem_append.1 hs).elim (hokS s) (fun h => mod_okA s (E4.out s h))
      have hGw := HG.out.nw UW
      have hlSA : (S ++ A).length ≤ 100000 := by rw [List.length_append]; omega
      have qa1 := fun (z : World) (uz : Nw wr z) => acc_q text (gw.upd uz) (hq.nw uz) (sS.nw uz) (by omega) hokS (hGw.nw uz)
      have qa2 := fun (z : World) (uz : Nw wr z) => acc_q text (gw.upd uz) (hq.nw uz) (sA.nw uz) hlSA hokA (hGw.nw uz)
      have qa3 := fun (z : World) (uz : Nw wr z) => acc_q text (gw.upd uz) (hq.nw uz) (sB.nw uz) (by omega) hbok (hGw.nw uz)
      rw [At.accept_same hvt] at qa3
      have hsub : ∀ v ∈ At.votes Lf S text, v ∈ At.votes Lf (S ++ A) text := At.votes_sub (fun s hs => List.mem_append.2 (Or.inl hs))
      have her := At.accept_er (V := At.votes Lf S text) Hrg.out
      obtain ⟨M1, M2⟩ := At.more_law Hrg.out hsub
      have hqp := fun (z : World) (uz : Nw wr z) => Prints_w W.heap.size q Lf _ _ _ S text z (gw.upd uz) (hq.nw uz) (sS.nw uz) (by omega) hokS
      generalize At.accept (At.votes Lf S text) (GC.map (·.2)) = ac at *
      obtain ⟨n, er⟩ := ac
      generalize At.accept (At.votes Lf (S ++ A) text) (GC.map (·.2)) = ac at *
      obtain ⟨n2, er2⟩ := ac
      dsimp only at qa1 qa2 qa3 her M1 M2
      have Q1 := Lib.hid qa1
      have Q2 := Lib.hid qa2
      have Q3 := Lib.hid qa3
      have HQP := Lib.hid hqp
      have Hher := Lib.hid her
      have HM1 := Lib.hid M1
      have HM2 := Lib.hid M2
      have Hvt := Lib.hid hvt
      have Hsub := Lib.hid hsub
      have SB := Lib.hid sB
      have SA := Lib.hid sA
      have SS := Lib.hid sS
      have HokS := Lib.hid hokS
      have HokA := Lib.hid hokA
      have HokB := Lib.hid hbok
      have Hq := Lib.hid hq
      have HGw := Lib.hid hGw
      clear qa1 qa2 qa3 hqp her M1 M2 hvt hsub sB sA sS hokS hokA hbok hq hGw K K8H hbvt
      rw [hbl2]
      rw [hbl2] at SB Q3
      go_wp2_with fail
      (with_reducible refine (Q1.out _ (Upd.refl _ _)).mono ?_)
      rintro _ x1 ⟨rfl, y1⟩
      go_wp2_with fail
      (with_reducible refine (Q2.out _ y1).mono ?_)
      rintro _ x2 ⟨rfl, y2⟩
      replace y2 := y1.trans y2
      go_wp2_with fail
      (with_reducible refine (Q3.out _ y2).mono ?_)
      rintro _ x3 ⟨rfl, y3⟩
      replace y3 := y2.trans y3
      clear Q1 Q2 Q3 y1 y2
      go_upto_region 17 with fail
      go_cut [170] from 138 to 170 (fun c wx => c = .bool false ∧ wx = x3)
      case first =>
        rcases Hher.out with h0 | h0 | h0
        · subst h0
          rcases HM1.out rfl with h2 | ⟨h2, h3⟩
          · subst h2
            clear HM1 HM2 Hher
            go_wp2_with fail
            go_meet
            exact ⟨rfl, rfl⟩
          · subst h2 h3
            clear HM1 HM2 Hher
            go_wp2_with fail
            go_meet
            exact ⟨rfl, rfl⟩
        · subst h0
          have h2 := HM2.out rfl
          subst h2
          clear HM1 HM2 Hher
          go_wp2_with fail
          go_meet
          exact ⟨rfl, rfl⟩
        · subst h0
          clear HM1 HM2 Hher
          go_wp2_with fail
          go_meet
          exact ⟨rfl, rfl⟩
      case rest =>
        obtain ⟨rfl, rfl⟩ := hcut
        clear HM1 HM2 Hher
        go_wp2_with fail
        (with_reducible refine (HQP.out _ y3).mono ?_)
        rintro _ x4 ⟨pv, rfl, o4, y4⟩
        replace y4 := y3.trans y4
        have hpl := At.prints_len (At.votes Lf S text)
        have hvl := At.votes_len Lf S text
        obtain ⟨ap, cp, hpv⟩ := own_sl o4
        subst hpv
        have S4 := Lib.hid (own_num o4)
        clear o4 HQP y3
        have hP100 : (At.prints (At.votes Lf S text)).length ≤ 100 := by omega
        generalize At.prints (At.votes Lf S text) = P at *
        obtain ⟨ap', cp', ep, hmp, hcp⟩ := num_cells S4.out
        obtain ⟨rfl, rfl⟩ : ap = ap' ∧ cp = cp' := by simp at ep; exact ep
        have Hcp := Lib.hid hcp
        clear hcp ep hmp hvl hpl
        go_wp2_with fail
        go_loopw [23] (fun iv wz => ∃ i : Nat, i ≤ P.length ∧ iv = .int .i64 i ∧ Nw x4 wz) (fun iv _ => P.length - (intOf iv).toNat)
        case atStart => exact ⟨0, Nat.zero_le _, rfl, Upd.refl _ _⟩
        case round =>
          obtain ⟨i, hi, rfl, ui⟩ := hrel
          obtain ⟨wq, rfl⟩ : ∃ x, x = wr := ⟨_, rfl⟩
          by_cases hil : i < P.length
          · rcases Hcp.out with hnil | ⟨pb, po, rfl, _, hpb, hpc⟩
            · simp [hnil] at hil
            have e0 := ((Nw.below ui).cell (p := ⟨pb, po + i, none⟩) hpb).trans (hpc i hil)
            clear hpc
            generalize P[i] = p at *
            go_wp2_with fail
            go_loopw [24] (fun jv wz => ∃ j : Nat, j ≤ GC.length ∧ jv = .int .i64 j ∧ Nw wq wz) (fun jv _ => GC.length - (intOf jv).toNat)
            case atStart => exact ⟨0, Nat.zero_le _, rfl, Upd.refl _ _⟩
            case round =>
              obtain ⟨j, hj, rfl, uj⟩ := hrel
              by_cases hjl : j < GC.length
              · have uy := y4.trans (ui.trans uj)
                have UU := UW.trans uy
                have gw2 := g.upd UU
                rcases Ha1.out with hnil | ⟨gb, go, rfl, _, hgb2, hgc⟩
                · simp [hnil] at hjl
                have hxs := HGw.out.each GC[j] (List.getElem_mem hjl)
                have hxm : GC[j].2 ∈ GC.map (·.2) := List.mem_map.2 ⟨_, List.getElem_mem hjl, rfl⟩
                have h14 := HG14.out GC[j] (List.getElem_mem hjl)
                have f0 := ((Nw.below UU).cell (p := ⟨gb, go + j * 2, none⟩) hgb2).trans (hgc j hjl).1
                have f1 := ((Nw.below UU).cell (p := ⟨gb, go + j * 2 + 1, none⟩) hgb2).trans (hgc j hjl).2
                have hnd1 := At.members_nodup (V := At.votes Lf S text) Hrg.out hxm p
                have hnd2 := At.members_nodup (V := At.votes Lf (S ++ A) text) Hrg.out hxm p
                generalize GC[j] = x at *
                obtain ⟨ms, gr⟩ := x
                dsimp only at *
                have hms := hxs.1.nw uy
                obtain ⟨am, capm, rfl, hmm, _⟩ := num_cells hms
                have e1 := (later_cell ⟨wr, uj⟩ e0)
                dsimp only at e1
                have hvS := fun (z : World) (uz : Nw wr z) => vote_r text p (gw2.upd uz) ((Hq.out.nw uy).nw uz) ((SS.out.nw uy).nw uz) (by omega) HokS.out (hms.nw uz) (by omega)
                have hvA := fun (z : World) (uz : Nw wr z) => vote_r text p (gw2.upd uz) ((Hq.out.nw uy).nw uz) ((SA.out.nw uy).nw uz) (by rw [List.length_append]; omega) HokA.out (hms.nw uz) (by omega)
                have hvB := fun (z : World) (uz : Nw wr z) => vote_r text p (gw2.upd uz) ((Hq.out.nw uy).nw uz) ((SB.out.nw uy).nw uz) (by omega) HokB.out (hms.nw uz) (by omega)
                rw [At.members_same Hvt.out] at hvB
                have hs1 : ∀ k ∈ At.members (At.votes Lf S text) gr p, k ∈ At.members (At.votes Lf (S ++ A) text) gr p := At.members_sub Hsub.out
                have hs2 : ∀ k ∈ At.members (At.votes Lf (S ++ A) text) gr p, k ∈ gr.members := fun k hk => (List.mem_filter.1 hk).1
                have hl1 : (At.members (At.votes Lf S text) gr p).length ≤ 14 := Nat.le_trans (List.length_filter_le _ _) h14
                have hl2 : (At.members (At.votes Lf (S ++ A) text) gr p).length ≤ 14 := Nat.le_trans (List.length_filter_le _ _) h14
                generalize At.members (At.votes Lf S text) gr p = mS at *
                generalize At.members (At.votes Lf (S ++ A) text) gr p = mA at *
                obtain ⟨n1, hn1⟩ : ∃ n, mS.length = n := ⟨_, rfl⟩
                obtain ⟨n2, hn2⟩ : ∃ n, mA.length = n := ⟨_, rfl⟩
                rw [hn1] at hvS hvB hl1
                rw [hn2] at hvA hl2
                have HD : Hid (∀ z, Nw wr z → z.cell? ⟨gb, go + j * 2, none⟩ = some (.slice am gr.members.length capm) ∧ z.cell? ⟨gb, go + j * 2 + 1, none⟩ = some (.int .i64 gr.bad) ∧ z.cell? ⟨pb, po + i, none⟩ = some (.int .i64 p)) := fun z uz => ⟨later_cell ⟨z, uz⟩ f0, later_cell ⟨z, uz⟩ f1, later_cell ⟨z, uz⟩ e1⟩
                have HvS := Lib.hid hvS
                have HvA := Lib.hid hvA
                have HvB := Lib.hid hvB
                have Hnd1 := Lib.hid hnd1
                have Hnd2 := Lib.hid hnd2
                have Hs1 := Lib.hid hs1
                have Hs2 := Lib.hid hs2
                have Hn1 := Lib.hid hn1
                have Hn2 := Lib.hid hn2
                have Hms := Lib.hid hms
                obtain ⟨gm, gbad⟩ := gr
                dsimp only at *
                have hm14 : gm.length ≤ 14 := h14
                clear hvS hvA hvB hnd1 hnd2 hs1 hs2 hn1 hn2 hms hxs hxm hgc
                go_wp2_with fail
                go_region_held3 (fun z => z.cell? ⟨gb, go + j * 2, none⟩ = some (.slice am gm.length capm) ∧ z.cell? ⟨gb, go + j * 2 + 1, none⟩ = some (.int .i64 gbad) ∧ z.cell? ⟨pb, po + i, none⟩ = some (.int .i64 p)) (first | exact HD.out _ v5 | exact HD.out _ (Upd.refl _ _).drew) (first | (go_at_call 15; (with_reducible refine (HvS.out _ (Upd.refl _ _) _ (Upd.refl _ _).drew).mono ?_); rintro _ x5 ⟨a5, c5, rfl, s5, v5⟩))
                have S5 := Lib.hid s5
                obtain ⟨d0, d1, d2⟩ := HD.out _ v5
                clear s5 HvS f0 f1 e0 e1
                go_wp2_with fail
                go_region_held3 (fun z => z.cell? ⟨gb, go + j * 2, none⟩ = some (.slice am gm.length capm) ∧ z.cell? ⟨gb, go + j * 2 + 1, none⟩ = some (.int .i64 gbad) ∧ z.cell? ⟨pb, po + i, none⟩ = some (.int .i64 p)) (first | exact HD.out _ (v5.trans v6) | exact HD.out _ v5.drew) (first | (go_at_call 15; (with_reducible refine (HvA.out _ v5 _ (Upd.refl _ _).drew).mono ?_); rintro _ x6 ⟨a6, c6, rfl, s6, v6⟩))
                have v56 := v5.trans v6
                have hc1 := count_t (S5.out.nw v6) s6 Hnd1.out Hs1.out Hn1.out
                have hc2 := count_t s6 (Hms.out.nw v56) Hnd2.out Hs2.out Hn2.out
                have HC1 := Lib.hid hc1
                have HC2 := Lib.hid hc2
                have S56 := Lib.hid (S5.out.nw v6)
                clear hc1 hc2 s6 HvA S5 d0 d1 d2
                obtain ⟨d0, d1, d2⟩ := HD.out _ v56
                go_wp2_with fail
                go_region_held3 (fun z => z.cell? ⟨gb, go + j * 2, none⟩ = some (.slice am gm.length capm) ∧ z.cell? ⟨gb, go + j * 2 + 1, none⟩ = some (.int .i64 gbad) ∧ z.cell? ⟨pb, po + i, none⟩ = some (.int .i64 p)) (first | exact HD.out _ (v56.trans v10) | exact HD.out _ (v56.trans v9) | exact HD.out _ (v56.trans v8) | exact HD.out _ (v56.trans v7) | exact HD.out _ v56.drew) (first | (go_at_call 14; first | ((with_reducible refine (HC1.out _ (Upd.refl _ _).drew).mono ?_); rintro _ x7 ⟨rfl, v7⟩) | ((with_reducible refine (HC2.out _ v7).mono ?_); rintro _ x8 ⟨rfl, v8⟩)) | (go_at_call 15; (with_reducible refine (HvB.out _ (v56.trans v8) _ (Upd.refl _ _)).mono ?_); rintro _ x9 ⟨a9, c9, rfl, s9, v9'⟩; have v9 := v8.trans v9'; have H9 := Lib.hid (same_t (S56.out.nw v9) s9)) | (go_at_call 19; (with_reducible refine H9.out.mono ?_); rintro _ x10 ⟨rfl, v10'⟩; have v10 := v9.trans v10'))
                clear HC1 HC2 HvB H9 S56 s9 d0 d1 d2
                go_wp2_with fail
                go_roundw
                case rel => exact ⟨j + 1, by omega, by go_num, uj.trans (v56.trans v10)⟩
                case measure => simp [intOf]; omega
              · obtain rfl : j = GC.length := by omega
                go_wp2_with fail
                go_roundw
                case rel => exact ⟨i + 1, by omega, by go_num, ui.trans uj⟩
                case measure => simp [intOf]; omega
          · obtain rfl : i = P.length := by omega
            go_wp2_with fail
            go_ret
            exact ⟨rfl, UW.trans (y4.trans ui)⟩
end Go.Proofs.YtpceoogmkbcfmaaGreatDoor
