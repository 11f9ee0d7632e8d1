/- The contracts of layer 34's reference: Liars, Both. -/
import Derived.Test.YtpceoogmkbcfmaaGreatDoorAttO
namespace Go.Proofs.YtpceoogmkbcfmaaGreatDoor
open Go.RowKit
set_option linter.unusedVariables false
set_option linter.unusedSimpArgs false
attribute [local irreducible] Calls

namespace At
def lieT0 (V : List (Bk.Sgn × Int)) (truth : Int) (GC : List (Value × Grp)) (P : List Int) (i : Nat) : List Int := lieGs V truth ((GC.take i).map (·.2)) P
theorem lieT0_succ {V : List (Bk.Sgn × Int)} {truth : Int} {GC : List (Value × Grp)} {P : List Int} {i : Nat} (h : i < GC.length) : lieT0 V truth GC P (i + 1) = lieT0 V truth GC P i ++ liePs V truth GC[i].2 P := by
  unfold lieT0 lieGs
  rw [List.take_succ_eq_append_getElem h, List.map_append, List.map_append, List.flatten_append]
  congr 1
  simp only [List.map_cons, List.map_nil, List.flatten_cons, List.flatten_nil, List.append_nil]
theorem liePs_succ {V : List (Bk.Sgn × Int)} {truth : Int} {gr : Grp} {P : List Int} {k : Nat} (h : k < P.length) : liePs V truth gr (P.take (k + 1)) = liePs V truth gr (P.take k) ++ lieL V truth gr P[k] := by
  unfold liePs
  rw [List.take_succ_eq_append_getElem h, List.map_append, List.flatten_append]
  congr 1
  simp only [List.map_cons, List.map_nil, List.flatten_cons, List.flatten_nil, List.append_nil]
end At
set_option maxHeartbeats 8000000 in
set_option maxRecDepth 100000 in
theorem qliars_q (B : Nat) (q : QRing) (Lr : List Bk.Seal) (lo hi hi2 : Nat) (v gv : Value) (C : List Bk.Sgn) (G : List At.Grp) (GC : List (Value × At.Grp)) (text : List UInt8) (truth : Int) (w : World) (g : Gl w) (hq : QRingAt B w q Lr) (hn : Lr.Nodup) (hL : Lr.length ≤ 1000000) (hv : SlS 3 lo hi w v (C.map sgl)) (hC : C.length ≤ 100) (hs : ∀ s ∈ C, SgnOk s) (hG : GrpS hi2 w gv G GC) (hGl : GC.length ≤ 8) (hml : ∀ c ∈ GC, c.2.members.length ≤ 14) :
    Calls Tryz.prog 29 #[.pointer (some ⟨q.qb, 0, none⟩), v, gv, .string ⟨text.toArray⟩, .int .i64 truth] w fun e w' => ∃ v', e = .returned v' ∧ w'.ownsRow w.heap.size tNum 1 v' (At.liars (At.votes Lr C text) G truth).length ((At.liars (At.votes Lr C text) G truth).map intV) ∧ Nw w w' := by
  have hgb := g.big
  obtain ⟨a, cap, rfl, hm, _⟩ := sgn_cells hv
  obtain ⟨a1, cap1, rfl, hm1, ha1⟩ := grp_cells hG
  have hGe : G = GC.map (·.2) := hG.fst.symm
  unfold maxLen at hm hm1
  have hqp := fun (z : World) (uz : Nw w z) => prints_q B q Lr lo hi _ C text z (g.upd uz) (hq.nw uz) hn hL (hv.nw uz) (by omega) hs
  have hvt := fun (c : Value × At.Grp) (hc : c ∈ GC) (p : Int) (z : World) (uz : Nw w z) => qvote_q B q Lr lo hi 0 hi2 _ c.1 C c.2 text p z (g.upd uz) (hq.nw uz) hn hL (hv.nw uz) hs ((hG.each c hc).1.nw uz) (by have := hml c hc; omega)
  have hms := fun (c : Value × At.Grp) (hc : c ∈ GC) => (hG.each c hc).1
  have hvl := At.votes_len Lr C text
  generalize At.votes Lr C text = V at *
  have hlr := At.liars_ref V G truth
  have HQP := Lib.hid hqp
  have HVT := Lib.hid hvt
  have Hms := Lib.hid hms
  have Ha1 := Lib.hid ha1
  have HGe := Lib.hid hGe
  have Hml := Lib.hid hml
  have Hlr := Lib.hid hlr
  clear hqp hvt hms ha1 hGe hv hq hs hG hml hlr
  go_enter Tryz.func29, Tryz.ntmps29
  go_wp2_with fail
  (with_reducible refine (HQP.out _ (Upd.refl _ _)).mono ?_)
  rintro _ w2 ⟨pv, rfl, o2, u2⟩
  obtain ⟨ap, cp, rfl⟩ := own_sl o2
  obtain ⟨ap', cp', ep, hmp, hcp⟩ := num_cells (own_num o2)
  obtain ⟨rfl, rfl⟩ : ap = ap' ∧ cp = cp' := by simp at ep; exact ep
  have Hcp := Lib.hid hcp
  have hpl := At.prints_len V
  have h2b : nG ≤ w2.heap.size := Nat.le_trans hgb u2.size
  have hbs : w.heap.size ≤ w2.heap.size := u2.size
  clear hcp ep hmp o2
  obtain ⟨P, hP⟩ : ∃ P, At.prints V = P := ⟨_, rfl⟩
  rw [hP] at Hcp hpl ⊢
  rw [hP] at Hlr
  have hP100 : P.length ≤ 100 := by omega
  clear hP hpl
  go_wp2_with fail
  go_loopw [12, 13] (fun vo iv wr => ∃ i : Nat, i ≤ GC.length ∧ iv = .int .i64 i ∧ Hid ((At.lieT0 V truth GC P i).length ≤ i * 1400) ∧ Hid (wr.ownsRow w2.heap.size tNum 1 vo (At.sortU (At.lieT0 V truth GC P i)).length ((At.sortU (At.lieT0 V truth GC P i)).map intV)) ∧ Nw w2 wr) (fun vo iv _ => GC.length - (intOf iv).toNat)
  case atStart => exact ⟨0, Nat.zero_le _, rfl, by show _ ≤ _; simp [At.lieT0, At.lieGs], World.ownsRow_nil _ _ _ _, Upd.refl _ _⟩
  case round =>
    obtain ⟨i, hi3, rfl, HL0, HO0, u⟩ := hrel
    obtain ⟨wq, rfl⟩ : ∃ x, x = wr := ⟨_, rfl⟩
    obtain ⟨ao, co, e⟩ := own_sl HO0.out
    subst e
    by_cases hil : i < GC.length
    · rcases Ha1.out with hnil | ⟨gb, go, rfl, _, hgb2, hgc⟩
      · simp [hnil] at hil
      have f0 := ((Nw.below (u2.trans u)).cell (p := ⟨gb, go + i * 2, none⟩) hgb2).trans (hgc i hil).1
      have f1 := ((Nw.below (u2.trans u)).cell (p := ⟨gb, go + i * 2 + 1, none⟩) hgb2).trans (hgc i hil).2
      have hsc := At.lieT0_succ (V := V) (truth := truth) (P := P) hil
      have hvs := fun p => HVT.out GC[i] (List.getElem_mem hil) p
      have hmm1 := Hms.out GC[i] (List.getElem_mem hil)
      have h14 := Hml.out GC[i] (List.getElem_mem hil)
      clear hgc
      generalize GC[i] = x at *
      obtain ⟨ms, gm, gbad⟩ := x
      dsimp only at *
      obtain ⟨am, capm, rfl, hmm2, hxx⟩ := num_cells hmm1
      clear hxx hmm2 hmm1
      have Hvs := Lib.hid hvs
      have Hsc := Lib.hid hsc
      have hx0 : At.lieT0 V truth GC P i = At.lieT0 V truth GC P i ++ At.liePs V truth ⟨gm, gbad⟩ (P.take 0) := by simp [At.liePs]
      have Hx0 := Lib.hid hx0
      clear hvs hsc hx0
      go_wp2_with fail
      go_loopw [12, 14] (fun vo iv wr => ∃ k : Nat, k ≤ P.length ∧ iv = .int .i64 k ∧ Hid ((At.lieT0 V truth GC P i ++ At.liePs V truth ⟨gm, gbad⟩ (P.take k)).length ≤ i * 1400 + k * 14) ∧ Hid (wr.ownsRow w2.heap.size tNum 1 vo (At.sortU (At.lieT0 V truth GC P i ++ At.liePs V truth ⟨gm, gbad⟩ (P.take k))).length ((At.sortU (At.lieT0 V truth GC P i ++ At.liePs V truth ⟨gm, gbad⟩ (P.take k))).map intV)) ∧ Nw wq wr) (fun vo iv _ => P.length - (intOf iv).toNat)
      case atStart => exact ⟨0, Nat.zero_le _, rfl, by show _ ≤ _; rw [← Hx0.out]; have := HL0.out; omega, by rw [← Hx0.out]; exact HO0.out, Upd.refl _ _⟩
      case round =>
        obtain ⟨k, hk, rfl, HL1, HO1, uk⟩ := hrel
        obtain ⟨wp, rfl⟩ : ∃ x, x = wr := ⟨_, rfl⟩
        obtain ⟨ao1, co1, e⟩ := own_sl HO1.out
        subst e
        have UK := u2.trans (u.trans uk)
        by_cases hkl : k < P.length
        · rcases Hcp.out with hnil | ⟨pb, po, rfl, _, hpb, hpc⟩
          · simp [hnil] at hkl
          have e0 := ((Nw.below (u.trans uk)).cell (p := ⟨pb, po + k, none⟩) hpb).trans (hpc k hkl)
          have hps := At.liePs_succ (V := V) (truth := truth) (gr := ⟨gm, gbad⟩) hkl
          clear hpc
          generalize P[k] = p at *
          have g0 := later_cell ⟨wp, uk⟩ f0
          have g1 := later_cell ⟨wp, uk⟩ f1
          dsimp only at g0 g1
          have HD : Hid (∀ z, Nw wp z → z.cell? ⟨gb, go + i * 2, none⟩ = some (.slice am gm.length capm) ∧ z.cell? ⟨gb, go + i * 2 + 1, none⟩ = some (.int .i64 gbad) ∧ z.cell? ⟨pb, po + k, none⟩ = some (.int .i64 p)) := fun z uz => ⟨later_cell ⟨z, uz⟩ g0, later_cell ⟨z, uz⟩ g1, later_cell ⟨z, uz⟩ e0⟩
          have hlm : (At.members V ⟨gm, gbad⟩ p).length ≤ 14 := Nat.le_trans (List.length_filter_le _ _) h14
          have hvs2 : ∀ z, Nw wp z → Calls Tryz.prog 27 #[.pointer (some ⟨q.qb, 0, none⟩), .slice a C.length cap, .agg #[.slice am gm.length capm, .int .i64 gbad], .string ⟨text.toArray⟩, .int .i64 p] z fun e w' => ∃ a c, e = .returned (.slice a (At.members V ⟨gm, gbad⟩ p).length c) ∧ Sl z.heap.size w'.heap.size w' (.slice a (At.members V ⟨gm, gbad⟩ p).length c) ((At.members V ⟨gm, gbad⟩ p).map intV) ∧ Nw wp w' := fun z uz =>
            (Hvs.out p z (UK.trans uz)).mono fun e w' ⟨v', h1, h2, h3⟩ => by
              obtain ⟨a, c, rfl⟩ := own_sl h2
              exact ⟨a, c, h1, own_num h2, uz.trans h3⟩
          have hll : At.lieL V truth ⟨gm, gbad⟩ p = if p = truth then [] else At.members V ⟨gm, gbad⟩ p := rfl
          generalize At.members V ⟨gm, gbad⟩ p = M at *
          have HVS := Lib.hid hvs2
          have Hps := Lib.hid hps
          have Hll := Lib.hid hll
          clear hvs2 hps hll
          go_wp2_with fail
          go_region_held3 (fun z => z.cell? ⟨gb, go + i * 2, none⟩ = some (.slice am gm.length capm) ∧ z.cell? ⟨gb, go + i * 2 + 1, none⟩ = some (.int .i64 gbad) ∧ z.cell? ⟨pb, po + k, none⟩ = some (.int .i64 p)) (first | exact HD.out _ v5 | exact HD.out _ (Upd.refl _ _).drew) (first | (go_at_call 27; (with_reducible refine (HVS.out _ (Upd.refl _ _).drew).mono ?_); rintro _ x5 ⟨a5, c5, rfl, s5, v5⟩))
          have UK5 := UK.trans v5
          have hown5 := owns_upd' HO1.out v5 (fun _ _ e => e)
          obtain ⟨a5', c5', e5, hm5, hc5⟩ := num_cells s5
          obtain ⟨rfl, rfl⟩ : a5 = a5' ∧ c5 = c5' := by simp at e5; exact e5
          have Hc5 := Lib.hid hc5
          have Hown5 := Lib.hid hown5
          have h5b : w2.heap.size ≤ x5.heap.size := by have := u.size; have := uk.size; have := v5.size; omega
          have e05 := later_cell ⟨x5, v5⟩ e0
          dsimp only at e05
          clear hc5 s5 e5 hown5 HVS g0 g1
          generalize hX1 : At.lieT0 V truth GC P i ++ At.liePs V truth ⟨gm, gbad⟩ (P.take k) = X1 at *
          have hnx : Hid (At.lieT0 V truth GC P i ++ At.liePs V truth ⟨gm, gbad⟩ (P.take (k + 1)) = X1 ++ At.lieL V truth ⟨gm, gbad⟩ p) := by show _ = _; rw [Hps.out, ← List.append_assoc, hX1]
          have HX1 := Lib.hid hX1
          clear hX1 Hps
          by_cases hpt : p = truth
          · have hl0 : Hid (At.lieT0 V truth GC P i ++ At.liePs V truth ⟨gm, gbad⟩ (P.take (k + 1)) = X1) := by show _ = _; rw [hnx.out, Hll.out, if_pos hpt, List.append_nil]
            have dp : (p != truth) = false := by simp [hpt]
            have dp2 : (p == truth) = true := by simp [hpt]
            clear hnx Hll hpt
            go_wp2_with fail
            go_loopw [12, 16] (fun vo iv wr => vo = .slice ao1 (At.sortU X1).length co1 ∧ iv = .int .i64 0 ∧ Nw x5 wr) (fun vo iv _ => 0)
            case atStart => exact ⟨rfl, rfl, Upd.refl _ _⟩
            case round =>
              obtain ⟨rfl, rfl, u6⟩ := hrel
              have e06 := later_cell ⟨wr, u6⟩ e05
              dsimp only at e06
              have hown6 := owns_upd' Hown5.out u6 (fun _ _ e => e)
              have Hown6 := Lib.hid hown6
              have HLn : Hid (X1.length ≤ i * 1400 + (k + 1) * 14) := by show _ ≤ _; have := HL1.out; omega
              clear hown6
              by_cases hM0 : 0 < M.length
              · go_wp2_with fail
                go_roundw
                case rel => exact ⟨k + 1, by omega, by go_num, by rw [hl0.out]; exact HLn, by rw [hl0.out]; exact Hown6.out, uk.trans (v5.trans u6)⟩
                case measure => simp [intOf]; omega
              · have hM1 : M.length = 0 := by omega
                go_wp2_with fail
                go_roundw
                case rel => exact ⟨k + 1, by omega, by go_num, by rw [hl0.out]; exact HLn, by rw [hl0.out]; exact Hown6.out, uk.trans (v5.trans u6)⟩
                case measure => simp [intOf]; omega
          · have hl0 : Hid (At.lieT0 V truth GC P i ++ At.liePs V truth ⟨gm, gbad⟩ (P.take (k + 1)) = X1 ++ M) := by show _ = _; rw [hnx.out, Hll.out, if_neg hpt]
            have dp : (p != truth) = true := by simp [hpt]
            have dp2 : (p == truth) = false := by simp [hpt]
            have hX0 : Hid (X1 ++ M.take 0 = X1) := by show _ = _; simp
            clear hnx Hll hpt
            go_wp2_with fail
            go_loopw [12, 16] (fun vo iv wr => ∃ n : Nat, n ≤ M.length ∧ iv = .int .i64 n ∧ Hid (wr.ownsRow w2.heap.size tNum 1 vo (At.sortU (X1 ++ M.take n)).length ((At.sortU (X1 ++ M.take n)).map intV)) ∧ Nw x5 wr) (fun vo iv _ => M.length - (intOf iv).toNat)
            case atStart => exact ⟨0, Nat.zero_le _, rfl, by rw [hX0.out]; exact Hown5.out, Upd.refl _ _⟩
            case round =>
              obtain ⟨n, hnl, rfl, HOn, u6⟩ := hrel
              obtain ⟨ao2, co2, e⟩ := own_sl HOn.out
              subst e
              have e06 := later_cell ⟨wr, u6⟩ e05
              dsimp only at e06
              by_cases hnM : n < M.length
              · rcases Hc5.out with hnil | ⟨mb, mo, rfl, _, hmb, hmc⟩
                · simp [hnil] at hnM
                have q0 := ((Nw.below u6).cell (p := ⟨mb, mo + n, none⟩) hmb).trans (hmc n hnM)
                have hsn : At.sortU (X1 ++ M.take (n + 1)) = At.insU (At.sortU (X1 ++ M.take n)) M[n] := by
                  rw [List.take_succ_eq_append_getElem hnM, ← List.append_assoc, At.sortU_snoc]
                clear hmc
                generalize M[n] = y at *
                have hlb : (At.sortU (X1 ++ M.take n)).length ≤ 100000 := by
                  have h1 := sortU_len (X1 ++ M.take n)
                  have h2 := HL1.out
                  rw [List.length_append, List.length_take] at h1
                  omega
                have hins := insert_q w2.heap.size _ _ y wr (by have := u6.size; omega) (by have := u6.size; omega) HOn.out hlb
                rw [← hsn] at hins
                have HIns := Lib.hid hins
                clear hins hsn HOn
                go_wp2_with fail
                (with_reducible refine (HIns.out).mono ?_)
                rintro _ x7 ⟨v7, rfl, o7, u7⟩
                have Ho7 := Lib.hid o7
                obtain ⟨a7, c7, rfl⟩ := own_sl o7
                clear o7
                go_wp2_with fail
                go_roundw
                case rel => exact ⟨n + 1, by omega, by go_num, Ho7, u6.trans u7⟩
                case measure => simp [intOf]; omega
              · obtain rfl : n = M.length := by omega
                rw [List.take_length] at HOn ⊢
                have HLn : Hid ((X1 ++ M).length ≤ i * 1400 + (k + 1) * 14) := by show _ ≤ _; rw [List.length_append]; have := HL1.out; omega
                go_wp2_with fail
                go_roundw
                case rel => exact ⟨k + 1, by omega, by go_num, by rw [hl0.out]; exact HLn, by rw [hl0.out]; exact HOn.out, uk.trans (v5.trans u6)⟩
                case measure => simp [intOf]; omega
        · obtain rfl : k = P.length := by omega
          rw [List.take_length, ← Hsc.out] at HO1 HL1 ⊢
          have HL2 : Hid ((At.lieT0 V truth GC P (i + 1)).length ≤ (i + 1) * 1400) := by show _ ≤ _; have := HL1.out; omega
          go_wp2_with fail
          go_roundw
          case rel => exact ⟨i + 1, by omega, by go_num, HL2, HO1.out, u.trans uk⟩
          case measure => simp [intOf]; omega
    · obtain rfl : i = GC.length := by omega
      have hfin : Hid (At.sortU (At.lieT0 V truth GC P GC.length) = At.liars V G truth) := by
        show _ = _
        unfold At.lieT0
        rw [List.take_length, ← HGe.out]
        exact Hlr.out
      rw [hfin.out] at HO0 ⊢
      go_wp2_with fail
      go_ret
      exact ⟨_, rfl, owns_base HO0.out hbs, u2.trans u⟩
end Go.Proofs.YtpceoogmkbcfmaaGreatDoor
