/- The walk of the statement JournalLasts. -/
import Derived.Test.YtjfcclhhonicnaaDoorLawJL0
namespace Go.Proofs.YtjfcclhhonicnaaDoor
open Go.RowKit
set_option linter.unusedVariables false
set_option linter.unusedSimpArgs false
attribute [local irreducible] Calls

/-- Between the operations: the journal's pointer, the lists `all` and `sure`. -/
def LsI (w : World) (db B n : Nat) (jv av sv : Value) (z : World) : Prop :=
  ∃ jp D all sure, jv = ptrJ jp ∧ GS w db jp D (fun k => av.ownBlock = some k ∨ sv.ownBlock = some k) z ∧ Jr.Ls D (jp.map (·.2)) all sure n ∧ z.ownsRow B tStrJ 1 av all.length (all.map bsV) ∧ z.ownsRow B tStrJ 1 sv sure.length (sure.map bsV) ∧ B ≤ z.heap.size
set_option maxHeartbeats 4000000 in
set_option maxRecDepth 100000 in
theorem journalLasts_c (v0 v1 : Value) (C : List (Value × JOp)) (keep : List Int) (w : World) (g : Gl w) (h0 : OpS w.heap.size w v0 C)
    (h2 : Sl 0 w.heap.size w v1 (keep.map intD)) (i2 : ∀ x ∈ keep, I64 x) :
    Calls Tryd.prog 4 #[v0, v1] w fun e w' => e = .returned (.bool true) ∧ Nw w w' := by
  have hs := Lib.hid (small_c w g)
  have hfew := Lib.hid (fun z (u : Nw w z) => few_j w.heap.size v0 C z (h0.nw u))
  obtain ⟨a0, c0, rfl, m0, _⟩ := op_cells h0
  obtain ⟨a2, c2, rfl, m2, _⟩ := int_cells h2
  unfold maxLen at m0 m2
  have m2' : (keep.length : Int) ≤ 9223372036854775807 := by omega
  have HA := Lib.hid (And.intro h0 (And.intro h2 i2))
  clear h0 h2 i2 m0 m2
  go_enter Tryd.func4, Tryd.ntmps4
  go_wp2_with fail
  (with_reducible refine (hs.out).mono ?_)
  rintro _ w1 ⟨rfl, u1⟩
  have U1 := Lib.hid u1
  have hfew2 := Lib.hid (hfew.out w1 u1)
  clear hs hfew u1
  go_wp2_with fail
  (with_reducible refine (hfew2.out).mono ?_)
  rintro _ _ ⟨rfl, rfl⟩
  cases hB : fewB C with
  | false =>
    clear hB
    go_wp2_with fail
    go_ret
    exact ⟨rfl, U1.out⟩
  | true =>
  have hF := Lib.hid (fewB_iff.1 hB)
  clear hB
  by_cases ho : (50 : Int) < keep.length
  · go_wp2_with fail
    go_ret
    exact ⟨rfl, U1.out⟩
  have g1 := g.upd U1.out
  have hn := Lib.hid (new_t w1 g1)
  clear hfew2
  go_wp2_with fail
  (with_reducible refine (hn.out).mono ?_)
  rintro _ w2 ⟨db, rfl, s2⟩
  obtain ⟨D1, oe, ol⟩ := Jr.open_new
  have hop := open_t s2 g1 (f := 3) (I64_s (by decide))
  rw [oe] at hop
  have Hop := Lib.hid hop
  have OL := Lib.hid ol
  clear hn s2 hop oe ol
  go_wp2_with fail
  (with_reducible refine (Hop.out).mono ?_)
  rintro _ w3 ⟨pv, rfl, o3, _⟩
  obtain ⟨jb, rfl, s3⟩ := o3.some_
  have hgw : nG ≤ w3.heap.size := (s3.gl g1).big
  have hwB := Lib.hid (s3.nw0.size)
  have hI0 : Hid (LsI w1 db w3.heap.size 0 (.pointer (some ⟨jb, 0, none⟩)) (.slice none 0 0) (.slice none 0 0) w3) :=
    ⟨some (jb, _), D1, [], [], rfl, s3.keep (Upd.refl _ _) (fun k hk => by rcases hk with hk | hk <;> cases hk), OL.out, World.ownsRow_nil _ _ _ _, World.ownsRow_nil _ _ _ _, Nat.le_refl _⟩
  have hC25 : (C.length : Int) ≤ 25 := by have := hF.out.2; omega
  have hC0 : (0 : Int) ≤ C.length := by omega
  clear Hop o3 s3 OL
  go_wp2_with fail
  go_loopw [7, 9, 10, 11] (fun jv av sv iv wr => ∃ k : Nat, k ≤ C.length + 1 ∧ iv = .int .i64 k ∧ Hid (LsI w1 db w3.heap.size k jv av sv wr)) (fun _ _ _ iv _ => C.length + 1 - (intOf iv).toNat)
  case atStart => exact ⟨0, Nat.zero_le _, rfl, hI0.out⟩
  case round =>
    obtain ⟨k, hk, rfl, HI⟩ := hrel
    obtain ⟨jp, D, all, sure, rfl, G, LS, oa, os, hBz⟩ := HI.out
    obtain ⟨aa, ca, rfl⟩ := own_slD oa
    obtain ⟨asu, csu, rfl⟩ := own_slD os
    have HG := Lib.hid G
    have HL := Lib.hid LS
    have HO := Lib.hid (And.intro oa (And.intro os hBz))
    have uw := U1.out.trans G.nw0
    obtain ⟨a', cap', ev, _, hcells⟩ := op_cells (HA.out.1.nw uw)
    simp only [Value.slice.injEq, true_and] at ev
    obtain ⟨rfl, rfl⟩ := ev
    clear G LS oa os hBz uw HI
    by_cases hgt : C.length < k
    · obtain rfl : k = C.length + 1 := by omega
      have hfin := Lib.hid (U1.out.trans HG.out.nw0)
      clear hcells
      go_wp2_with fail
      go_ret
      exact ⟨rfl, hfin.out⟩
    have hki : (k : Int) ≤ C.length := by omega
    by_cases hlt : k < C.length
    · rcases hcells with hnil | ⟨b, off, rfl, hbh, hbw, hcell⟩
      · rw [hnil] at hlt; simp at hlt
      obtain ⟨x0, x1, x2, x3⟩ := hcell k hlt
      obtain ⟨q1, q2, q3, q4⟩ := HA.out.1.each C[k] (List.getElem_mem hlt)
      obtain ⟨q5, q6⟩ := hF.out.1 C[k] (List.getElem_mem hlt)
      have hkk : k ≤ 25 := by omega
      clear hcell
      generalize C[k] = c at *
      obtain ⟨kv, kd, ss, nn, kp⟩ := c
      dsimp only at *
      obtain ⟨ak, ck, rfl, _, _⟩ := int_cells q1
      have HQ := Lib.hid (And.intro q1 (And.intro q3 (And.intro q4 (And.intro q5 q6))))
      clear q1 q2 q3 q4 q5 q6
      obtain ⟨wo, hwo, n0, hbx⟩ : ∃ z, z = wr.alloc (.cells #[.int .i64 kd, .string ⟨ss.toArray⟩, .int .i64 nn, .slice ak kp.length ck] 46) ∧ Nw wr z ∧ z.heap[wr.heap.size]? = some (.cells #[.int .i64 kd, .string ⟨ss.toArray⟩, .int .i64 nn, .slice ak kp.length ck] 46 (0, 0)) := ⟨_, rfl, nw_alloc wr _, heap_new wr _⟩
      have HGo := Lib.hid (HG.out.nw n0)
      have Ho := Lib.hid (And.intro (owns_updD HO.out.1 n0 (fun _ _ e => e)) (And.intro (owns_updD HO.out.2.1 n0 (fun _ _ e => e)) (Nat.le_trans HO.out.2.2 n0.size)))
      have HW := Lib.hid (And.intro hwo (And.intro n0 hbx))
      clear hwo n0 hbx
      by_cases e2 : kd = 2
      · subst e2
        have hc := lose_t HGo.out HQ.out.2.1
        rw [HW.out.1] at hc
        have Hc := Lib.hid hc
        clear hc
        go_wp2_with fail
        (with_reducible refine (Hc.out).mono ?_)
        rintro _ w5 ⟨rfl, G5, m5⟩
        have HG5 := Lib.hid (And.intro G5 m5)
        rw [← HW.out.1] at HG5
        clear G5 m5
        have hz : Hid (LsI w1 db w3.heap.size (k + 1) (ptrJ jp) (.slice aa all.length ca) (.slice asu sure.length csu) w5) := ⟨jp, _, all, sure, rfl, HG5.out.1, (HL.out.lose HQ.out.2.1.2).mono (by omega), owns_updD Ho.out.1 HG5.out.2 (fun k hk e => e.1 (Or.inl hk)), owns_updD Ho.out.2.1 HG5.out.2 (fun k hk e => e.1 (Or.inr hk)), Nat.le_trans Ho.out.2.2 HG5.out.2.size⟩
        go_wp2_with fail
        go_roundw
        case rel => exact ⟨k + 1, by omega, by go_num, hz.out⟩
        case measure => simp [intOf]; omega
      have b2 : (kd == 2) = false := beq_eq_false_iff_ne.2 e2
      by_cases e3 : kd = 3
      · subst e3
        have hc := arm_t HGo.out g1 HQ.out.2.1 0 w.heap.size (.slice ak kp.length ck) kp HQ.out.2.2.1 (HQ.out.1.nw (U1.out.trans HGo.out.nw0)) (by have := HQ.out.2.2.2.2; omega)
        rw [HW.out.1] at hc
        have Hc := Lib.hid hc
        clear hc
        go_wp2_with fail
        (with_reducible refine (Hc.out).mono ?_)
        rintro _ w5 ⟨rfl, G5, m5⟩
        have HG5 := Lib.hid (And.intro G5 m5)
        rw [← HW.out.1] at HG5
        clear G5 m5
        have hz : Hid (LsI w1 db w3.heap.size (k + 1) (ptrJ jp) (.slice aa all.length ca) (.slice asu sure.length csu) w5) := ⟨jp, _, all, sure, rfl, HG5.out.1, (HL.out.arm HQ.out.2.1.2 kp).mono (by omega), owns_updD Ho.out.1 HG5.out.2 (fun k hk e => e.1 (Or.inl hk)), owns_updD Ho.out.2.1 HG5.out.2 (fun k hk e => e.1 (Or.inr hk)), Nat.le_trans Ho.out.2.2 HG5.out.2.size⟩
        go_wp2_with fail
        go_roundw
        case rel => exact ⟨k + 1, by omega, by go_num, hz.out⟩
        case measure => simp [intOf]; omega
      have b3 : (kd == 3) = false := beq_eq_false_iff_ne.2 e3
      by_cases e1 : kd = 1
      · subst e1
        cases jp with
        | none =>
          have hzz : Hid (LsI w1 db w3.heap.size (k + 1) (.pointer none) (.slice aa all.length ca) (.slice asu sure.length csu) (wr.alloc (.cells #[.int .i64 1, .string ⟨ss.toArray⟩, .int .i64 nn, .slice ak kp.length ck] 46))) := by
            rw [← HW.out.1]
            exact ⟨none, D, all, sure, rfl, HGo.out, HL.out.mono (by omega), Ho.out.1, Ho.out.2.1, Ho.out.2.2⟩
          unfold ptrJ
          have hz : Hid (LsI w1 db w3.heap.size (k + 1) (.pointer none) (.slice aa all.length ca) (.slice asu sure.length csu) _) := hzz.out
          go_wp2_with fail
          go_roundw
          case rel => exact ⟨k + 1, by omega, by go_num, hz.out⟩
          case measure => simp [intOf]; omega
        | some p =>
          obtain ⟨jb8, j⟩ := p
          have hc := jsync_t HGo.out g1
          dsimp only at hc
          rw [HW.out.1] at hc
          have Hc := Lib.hid hc
          have hst := Lib.hid (Jr.Ls.sync HL.out)
          clear hc
          unfold ptrJ
          go_wp2_with fail
          (with_reducible refine (Hc.out).mono ?_)
          rintro _ w5 ⟨rfl, G5, m5⟩
          have HG5 := Lib.hid (And.intro G5 m5)
          rw [← HW.out.1] at HG5
          have O5 := Lib.hid (And.intro (owns_updD Ho.out.1 HG5.out.2 (fun k hk e => e.1 (Or.inl hk))) (And.intro (owns_updD Ho.out.2.1 HG5.out.2 (fun k hk e => e.1 (Or.inr hk))) (Nat.le_trans Ho.out.2.2 HG5.out.2.size)))
          clear G5 m5 Hc
          generalize Jr.syncJ D j = X at *
          obtain ⟨D5, j5, E⟩ := X
          dsimp only at *
          by_cases hE : E = 0
          · subst hE
            have hal := all_t HG5.out.1 g1
            dsimp only at hal
            rw [hst.out.1] at hal
            have Hal := Lib.hid hal
            clear hal
            go_wp2_with fail
            (with_reducible refine (Hal.out).mono ?_)
            rintro _ w6 ⟨vs, rfl, os6, u6⟩
            have hz6 : Hid (LsI w1 db w3.heap.size (k + 1) (.pointer (some ⟨jb8, 0, none⟩)) (.slice aa all.length ca) vs w6) :=
              ⟨some (jb8, j5), D5, all, j.recs, rfl, HG5.out.1.keep u6 (fun k hk => hk.elim (fun e => Or.inl (Or.inl e)) (fun e => Or.inr (by obtain ⟨a, cs, b⟩ := own_blockD os6 e; exact ⟨a, lt_of_block b⟩))), (hst.out.2.2 trivial).mono (by omega), owns_updD O5.out.1 u6 (fun _ _ e => e), owns_base os6 O5.out.2.2, Nat.le_trans O5.out.2.2 u6.size⟩
            clear os6 u6
            have hz : Hid (LsI w1 db w3.heap.size (k + 1) (.pointer (some ⟨jb8, 0, none⟩)) (.slice aa all.length ca) vs w6) := hz6.out
            go_wp2_with fail
            go_roundw
            case rel => exact ⟨k + 1, by omega, by go_num, hz.out⟩
            case measure => simp [intOf]; omega
          · have b1 : (E == 0) = false := beq_eq_false_iff_ne.2 hE
            have bb1 : (E != 0) = true := by simp [hE]
            have hz : Hid (LsI w1 db w3.heap.size (k + 1) (.pointer (some ⟨jb8, 0, none⟩)) (.slice aa all.length ca) (.slice asu sure.length csu) w5) := ⟨some (jb8, j5), D5, all, sure, rfl, HG5.out.1, hst.out.2.1.mono (by omega), O5.out.1, O5.out.2.1, O5.out.2.2⟩
            go_wp2_with fail
            go_roundw
            case rel => exact ⟨k + 1, by omega, by go_num, hz.out⟩
            case measure => simp [intOf]; omega
      have b1 : (kd == 1) = false := beq_eq_false_iff_ne.2 e1
      by_cases e0 : kd = 0
      · subst e0
        cases jp with
        | none =>
          have hzz : Hid (LsI w1 db w3.heap.size (k + 1) (.pointer none) (.slice aa all.length ca) (.slice asu sure.length csu) (wr.alloc (.cells #[.int .i64 0, .string ⟨ss.toArray⟩, .int .i64 nn, .slice ak kp.length ck] 46))) := by
            rw [← HW.out.1]
            exact ⟨none, D, all, sure, rfl, HGo.out, HL.out.mono (by omega), Ho.out.1, Ho.out.2.1, Ho.out.2.2⟩
          unfold ptrJ
          have hz : Hid (LsI w1 db w3.heap.size (k + 1) (.pointer none) (.slice aa all.length ca) (.slice asu sure.length csu) _) := hzz.out
          go_wp2_with fail
          go_roundw
          case rel => exact ⟨k + 1, by omega, by go_num, hz.out⟩
          case measure => simp [intOf]; omega
        | some p =>
          obtain ⟨jb8, j⟩ := p
          have HGq := Lib.hid (HG.out.keep (F' := fun k => ((Value.slice aa all.length ca).ownBlock = some k ∨ (Value.slice asu sure.length csu).ownBlock = some k) ∨ k = wr.heap.size) HW.out.2.1 (fun k hk => hk.imp id (fun e => by subst e; exact ⟨Nat.le_refl _, lt_of_block HW.out.2.2⟩)))
          have hal := all_t HGq.out g1
          dsimp only at hal
          rw [HW.out.1] at hal
          have Hal := Lib.hid hal
          clear hal
          unfold ptrJ
          go_wp2_with fail
          (with_reducible refine (Hal.out).mono ?_)
          rintro _ w5 ⟨vb, rfl, ob, u5⟩
          rw [← HW.out.1] at ob u5
          obtain ⟨ab, cb, rfl⟩ := own_slD ob
          have HG5 := Lib.hid (HGq.out.keep (F' := fun k => (((Value.slice aa all.length ca).ownBlock = some k ∨ (Value.slice asu sure.length csu).ownBlock = some k) ∨ k = wr.heap.size) ∨ (Value.slice ab j.recs.length cb).ownBlock = some k) u5 (fun k hk => hk.imp id (fun e => by obtain ⟨a, cs, b⟩ := own_blockD ob e; exact ⟨a, lt_of_block b⟩)))
          have Ob := Lib.hid ob
          have O5 := Lib.hid (And.intro (owns_updD Ho.out.1 u5 (fun _ _ e => e)) (And.intro (owns_updD Ho.out.2.1 u5 (fun _ _ e => e)) (Nat.le_trans Ho.out.2.2 u5.size)))
          have B5 := Lib.hid (u5.keep HW.out.2.2)
          have x5 : w5.cell? ⟨wr.heap.size, 1, none⟩ = some (.string ⟨ss.toArray⟩) := by rw [cells_cell B5.out]; rfl
          have hap := append_t HG5.out g1 ss (by have := HQ.out.2.2.2.1; omega)
          dsimp only at hap
          have Hap := Lib.hid hap
          have hst := Lib.hid (Jr.Ls.append (j := j) HL.out (by omega) HQ.out.2.2.2.1)
          have hsz5 := u5.size
          clear ob u5 Hal hap
          go_wp2_with fail
          (with_reducible refine (Hap.out).mono ?_)
          rintro _ w6 ⟨rfl, G6, m6⟩
          have HG6 := Lib.hid G6
          have ob6 := owns_updD Ob.out m6 (fun k hk e => e.1 (Or.inr hk))
          have Hb6 := Lib.hid ob6
          have O6 := Lib.hid (And.intro (owns_updD O5.out.1 m6 (fun k hk e => e.1 (Or.inl (Or.inl (Or.inl hk))))) (And.intro (owns_updD O5.out.2.1 m6 (fun k hk e => e.1 (Or.inl (Or.inl (Or.inr hk))))) (Nat.le_trans O5.out.2.2 m6.size)))
          have B6 := Lib.hid (m6.keep B5.out (fun e => e.1 (Or.inl (Or.inr rfl))))
          have hjl : j.recs.length ≤ 40 := by have := (HL.out.jn j rfl).2.1; omega
          have hall40 : all.length ≤ 40 := by have := HL.out.len; omega
          have HJ := Lib.hid (And.intro hjl hall40)
          have hsz56 : wo.heap.size ≤ w6.heap.size := Nat.le_trans hsz5 m6.size
          clear G6 m6 ob6 Hap x5 hjl hall40 hsz5
          generalize Jr.append D j ss = X at *
          obtain ⟨D6, j6, E⟩ := X
          dsimp only at *
          have hal := all_t HG6.out g1
          dsimp only at hal
          have Hal := Lib.hid hal
          clear hal
          go_wp2_with fail
          (with_reducible refine (Hal.out).mono ?_)
          rintro _ w7 ⟨va, rfl, oa7, u7⟩
          obtain ⟨an, cn, rfl⟩ := own_slD oa7
          have HG7 := Lib.hid (HG6.out.nw u7)
          have Ha7 := Lib.hid oa7
          have Hb7 := Lib.hid (owns_updD Hb6.out u7 (fun _ _ e => e))
          have O7 := Lib.hid (And.intro (owns_updD O6.out.1 u7 (fun _ _ e => e)) (And.intro (owns_updD O6.out.2.1 u7 (fun _ _ e => e)) (Nat.le_trans O6.out.2.2 u7.size)))
          have B7 := Lib.hid (u7.keep B6.out)
          have HSz := Lib.hid (And.intro (show wo.heap.size ≤ w7.heap.size from Nat.le_trans (Nat.le_of_lt_succ (Nat.lt_succ_of_le hsz56)) u7.size) u7.size)
          clear oa7 u7 Hal hsz56
          have hgw7 := HG7.out.nw0.size
          have hg7 : nG ≤ w7.heap.size := (HG7.out.gl g1).big
          have Hg7 := Lib.hid hg7
          clear hgw7
          rcases hst.out with ⟨heq, hbr⟩ | ⟨he, hrc, hls⟩ | ⟨he, hrc, hls⟩
          · obtain ⟨rfl, e2⟩ := Prod.mk.inj heq
            obtain ⟨rfl, rfl⟩ := Prod.mk.inj e2
            have Hdk := Lib.hid (fun z => disky_c 7 z)
            have st := Lib.hid (SameTextsQ _ _ _ _ _ _ j6.recs j6.recs w7 (Sl.of_owns Ha7.out) (Sl.of_owns Hb7.out))
            clear heq e2 hst hbr
            go_wp2_with fail
            (with_reducible refine (Hdk.out _).mono ?_)
            rintro _ _ ⟨rfl, rfl⟩
            go_wp2_with fail
            (with_reducible refine (st.out).mono ?_)
            rintro _ w8 ⟨rfl, u8⟩
            have hz8 : Hid (LsI w1 db w3.heap.size (k + 1) (.pointer (some ⟨jb8, 0, none⟩)) (.slice aa all.length ca) (.slice asu sure.length csu) w8) :=
              ⟨some (jb8, j6), D6, all, sure, rfl, HG7.out.keep u8 (fun k hk => Or.inl (Or.inl (Or.inl hk))), HL.out.mono (by omega), owns_updD O7.out.1 u8 (fun _ _ e => e), owns_updD O7.out.2.1 u8 (fun _ _ e => e), Nat.le_trans O7.out.2.2 u8.size⟩
            clear u8
            have hz : Hid (LsI w1 db w3.heap.size (k + 1) (.pointer (some ⟨jb8, 0, none⟩)) (.slice aa all.length ca) (.slice asu sure.length csu) w8) := hz8.out
            go_wp2_with fail
            go_roundw
            case rel => exact ⟨k + 1, by omega, by go_num, hz.out⟩
            case measure => simp [intOf]; omega
          · subst he
            have HLS := Lib.hid hls
            have HRC := Lib.hid hrc
            clear hls hrc hst
            go_upto_region 27 with fail
            go_cut [9] from 78 to 85 (fun v wx => ∃ a9 c9, v = .slice a9 (all.length + 1) c9 ∧ Nw w7 wx ∧ wx.ownsRow w7.heap.size tStrJ 1 (.slice a9 (all.length + 1) c9) (all.length + 1) (all.map bsV ++ [bsV ss]))
            case first =>
              have HS := Lib.hid (fun (z : World) (u : Nw w7 z) => show z.cell? ⟨wr.heap.size, 1, none⟩ = some (.string ⟨ss.toArray⟩) by rw [cells_cell (u.keep B7.out)]; rfl)
              have HSrc := Lib.hid (fun (z : World) (u : Nw w7 z) => (Sl.of_owns O7.out.1).nw u)
              have h63 : Hid (0 + (all.map bsV).length ≤ maxLen ∧ (0 + (all.map bsV).length) * 16 ≤ 140737488355328 ∧ all.length + [bsV ss].length ≤ maxLen ∧ (all.length + [bsV ss].length) * 16 ≤ 140737488355328) := by
                have := HJ.out.2
                rw [List.length_map]
                unfold maxLen
                refine ⟨by omega, by omega, by simp; omega, by simp; omega⟩
              have HA1 : Hid (∀ u ∈ all.map bsV, u.oneCell' = true) := fun u hu => by obtain ⟨y, _, rfl⟩ := List.mem_map.1 hu; rfl
              have HA2 : Hid (∀ u ∈ [bsV ss], u.oneCell' = true) := fun u hu => by rw [List.mem_singleton.1 hu]; rfl
              refine wp_region_G (fun z => z.cell? ⟨wr.heap.size, 1, none⟩ = some (.string ⟨ss.toArray⟩)) 7 (by kernel_rfl) ?_
              have HS0 := HS.out _ (Upd.refl _ w7).drew
              refine wpAnyG_pure (i := 1) (v := ?_) rfl (by kernel_rfl) (by kernel_rfl) (by kernel_rfl) (by kernel_rfl) (by kernel_rfl) (fun _ _ _ h => h) (by rfl) ?_ (fun _ => HS0) ?_
              rotate_left 1
              · (intro zz; go_simp; first | done | with_reducible rfl)
              (try simp only [Act.put, List.setIfInBounds_toArray, List.set_cons_zero, List.set_cons_succ])
              refine wpAnyG_pure (i := 3) (v := ?_) rfl (by kernel_rfl) (by kernel_rfl) (by kernel_rfl) (by kernel_rfl) (by kernel_rfl) (fun _ _ _ h => h) (by rfl) ?_ (fun _ => HS0) ?_
              rotate_left 1
              · (intro zz; go_simp; first | done | with_reducible rfl)
              (try simp only [Act.put, List.setIfInBounds_toArray, List.set_cons_zero, List.set_cons_succ])
              refine wpAnyG_load (i := 4) (v := ?_) [6, 5] rfl (by kernel_rfl) (by kernel_rfl) (by kernel_rfl) (by kernel_rfl) (by kernel_rfl) (by kernel_rfl) (fun _ _ _ h => h) (by rfl) ?_ (fun _ => HS0) ?_
              rotate_left 1
              · (intro zz hS; go_simp; first | done | with_reducible rfl)
              (try simp only [Act.put, List.setIfInBounds_toArray, List.set_cons_zero, List.set_cons_succ])
              refine wpAnyG_ready [0, 5] (by kernel_rfl) (by simp) ?_
              refine AllG.cons rfl (fun K hK => ?_) (AllG.cons rfl (fun K hK => ?_) AllG.nil)
              · go_simp
                refine hK.out _ _ (fun _ => HS.out _ (by repeat (first | exact Upd.refl _ _ | assumption | refine Upd.drew ?_ | refine Upd.alloc ?_ _))) ?_
                clear hK K
                (try simp only [Act.put, List.setIfInBounds_toArray, List.set_cons_zero, List.set_cons_succ])
                refine wpAnyG_ready [2, 5] (by kernel_rfl) (by simp) ?_
                refine AllG.cons rfl (fun K hK => ?_) (AllG.cons rfl (fun K hK => ?_) AllG.nil)
                · refine step_catT rfl _ _ 22 rfl tStrJ _ 16 Tryd.underlying22 infoStrJ rfl w7 Hg7.out (by repeat (first | exact Upd.refl _ _ | refine Upd.drew ?_ | refine Upd.alloc ?_ _)) _ _ (.slice (some ⟨_, 0, none⟩) 0 0) (.slice aa all.length ca) 0 [] (all.map bsV) rfl (own_nil_at (by first | exact heap_new _ _ | exact heap_at2J rfl | exact heap_atJ (by simp)) (by simp)) rfl (HSrc.out _ (by repeat (first | exact Upd.refl _ _ | refine Upd.drew ?_ | refine Upd.alloc ?_ _))) HA1.out h63.out.1 h63.out.2.1 ?_
                  intro v8 w8 h8 u8 t8
                  rw [List.length_map, Nat.zero_add, List.nil_append] at h8
                  obtain ⟨a8, c8, rfl⟩ := own_slD h8
                  refine hK.out _ _ (fun _ => HS.out _ u8) ?_
                  clear hK K
                  (try simp only [Act.put, List.setIfInBounds_toArray, List.set_cons_zero, List.set_cons_succ])
                  refine wpAnyG_ready [5] (by kernel_rfl) (by simp) ?_
                  refine AllG.cons rfl (fun K hK => ?_) AllG.nil
                  go_simp
                  refine hK.out _ _ (fun _ => HS.out _ (by repeat (first | exact Upd.refl _ _ | assumption | refine Upd.drew ?_ | refine Upd.alloc ?_ _))) ?_
                  clear hK K
                  (try simp only [Act.put, List.setIfInBounds_toArray, List.set_cons_zero, List.set_cons_succ])
                  refine wpAnyG_ready [6] (by kernel_rfl) (by simp) ?_
                  refine AllG.cons rfl (fun K hK => ?_) AllG.nil
                  have hbx8 := heap_new w8 (.cells #[.string ⟨ss.toArray⟩] tStrJ)
                  refine step_catT rfl _ _ 22 rfl tStrJ _ 16 Tryd.underlying22 infoStrJ rfl w7 Hg7.out (by first | exact u8 | exact Upd.alloc u8 _) _ _ (.slice a8 all.length c8) (.slice (some ⟨_, 0, none⟩) 1 1) all.length (all.map bsV) [bsV ss] rfl (by first | exact h8 | exact h8.alloc _) rfl (sl_one hbx8) HA2.out h63.out.2.2.1 h63.out.2.2.2 ?_
                  intro v9 w9 h9 u9 t9
                  rw [List.length_singleton] at h9
                  obtain ⟨a9, c9, rfl⟩ := own_slD h9
                  have H9 := Lib.hid h9
                  refine hK.out _ _ (fun _ => HS.out _ u9) ?_
                  clear hK K
                  (try simp only [Act.put, List.setIfInBounds_toArray, List.set_cons_zero, List.set_cons_succ])
                  refine wpAnyG_ready [7] (by kernel_rfl) (by simp) ?_
                  refine AllG.cons rfl (fun K hK => ?_) AllG.nil
                  go_simp
                  refine hK.out _ _ (fun e => absurd (show true = false from e) (by decide)) ?_
                  clear hK K
                  (try simp only [Act.put, List.setIfInBounds_toArray, List.set_cons_zero, List.set_cons_succ])
                  refine wpAnyG_done (by kernel_rfl) ?_ _
                  clear hbx8 t9 t8 u8 h8
                  go_wp2_with fail
                  go_meet
                  exact ⟨_, _, rfl, u9, h9⟩
                · go_simp
                  refine hK.out _ _ (fun _ => HS.out _ (by repeat (first | exact Upd.refl _ _ | assumption | refine Upd.drew ?_ | refine Upd.alloc ?_ _))) ?_
                  clear hK K
                  (try simp only [Act.put, List.setIfInBounds_toArray, List.set_cons_zero, List.set_cons_succ])
                  refine wpAnyG_ready [2] (by kernel_rfl) (by simp) ?_
                  refine AllG.cons rfl (fun K hK => ?_) AllG.nil
                  refine step_catT rfl _ _ 22 rfl tStrJ _ 16 Tryd.underlying22 infoStrJ rfl w7 Hg7.out (by repeat (first | exact Upd.refl _ _ | refine Upd.drew ?_ | refine Upd.alloc ?_ _)) _ _ (.slice (some ⟨_, 0, none⟩) 0 0) (.slice aa all.length ca) 0 [] (all.map bsV) rfl (own_nil_at (by first | exact heap_new _ _ | exact heap_at2J rfl | exact heap_atJ (by simp)) (by simp)) rfl (HSrc.out _ (by repeat (first | exact Upd.refl _ _ | refine Upd.drew ?_ | refine Upd.alloc ?_ _))) HA1.out h63.out.1 h63.out.2.1 ?_
                  intro v8 w8 h8 u8 t8
                  rw [List.length_map, Nat.zero_add, List.nil_append] at h8
                  obtain ⟨a8, c8, rfl⟩ := own_slD h8
                  refine hK.out _ _ (fun _ => HS.out _ u8) ?_
                  clear hK K
                  (try simp only [Act.put, List.setIfInBounds_toArray, List.set_cons_zero, List.set_cons_succ])
                  have hbx8 : w8.heap[w7.heap.size + 1]? = some (.cells #[bsV ss] tStrJ (0, 0)) := t8.keep (heap_atJ (by simp)) (by simp [Value.ownBlock])
                  refine wpAnyG_ready [6] (by kernel_rfl) (by simp) ?_
                  refine AllG.cons rfl (fun K hK => ?_) AllG.nil
                  refine step_catT rfl _ _ 22 rfl tStrJ _ 16 Tryd.underlying22 infoStrJ rfl w7 Hg7.out (by first | exact u8 | exact Upd.alloc u8 _) _ _ (.slice a8 all.length c8) (.slice (some ⟨_, 0, none⟩) 1 1) all.length (all.map bsV) [bsV ss] rfl (by first | exact h8 | exact h8.alloc _) rfl (sl_one hbx8) HA2.out h63.out.2.2.1 h63.out.2.2.2 ?_
                  intro v9 w9 h9 u9 t9
                  rw [List.length_singleton] at h9
                  obtain ⟨a9, c9, rfl⟩ := own_slD h9
                  have H9 := Lib.hid h9
                  refine hK.out _ _ (fun _ => HS.out _ u9) ?_
                  clear hK K
                  (try simp only [Act.put, List.setIfInBounds_toArray, List.set_cons_zero, List.set_cons_succ])
                  refine wpAnyG_ready [7] (by kernel_rfl) (by simp) ?_
                  refine AllG.cons rfl (fun K hK => ?_) AllG.nil
                  go_simp
                  refine hK.out _ _ (fun e => absurd (show true = false from e) (by decide)) ?_
                  clear hK K
                  (try simp only [Act.put, List.setIfInBounds_toArray, List.set_cons_zero, List.set_cons_succ])
                  refine wpAnyG_done (by kernel_rfl) ?_ _
                  clear hbx8 t9 t8 u8 h8
                  go_wp2_with fail
                  go_meet
                  exact ⟨_, _, rfl, u9, h9⟩
              · go_simp
                refine hK.out _ _ (fun _ => HS.out _ (by repeat (first | exact Upd.refl _ _ | assumption | refine Upd.drew ?_ | refine Upd.alloc ?_ _))) ?_
                clear hK K
                (try simp only [Act.put, List.setIfInBounds_toArray, List.set_cons_zero, List.set_cons_succ])
                refine wpAnyG_ready [0] (by kernel_rfl) (by simp) ?_
                refine AllG.cons rfl (fun K hK => ?_) AllG.nil
                go_simp
                refine hK.out _ _ (fun _ => HS.out _ (by repeat (first | exact Upd.refl _ _ | assumption | refine Upd.drew ?_ | refine Upd.alloc ?_ _))) ?_
                clear hK K
                (try simp only [Act.put, List.setIfInBounds_toArray, List.set_cons_zero, List.set_cons_succ])
                refine wpAnyG_ready [2] (by kernel_rfl) (by simp) ?_
                refine AllG.cons rfl (fun K hK => ?_) AllG.nil
                refine step_catT rfl _ _ 22 rfl tStrJ _ 16 Tryd.underlying22 infoStrJ rfl w7 Hg7.out (by repeat (first | exact Upd.refl _ _ | refine Upd.drew ?_ | refine Upd.alloc ?_ _)) _ _ (.slice (some ⟨_, 0, none⟩) 0 0) (.slice aa all.length ca) 0 [] (all.map bsV) rfl (own_nil_at (by first | exact heap_new _ _ | exact heap_at2J rfl | exact heap_atJ (by simp)) (by simp)) rfl (HSrc.out _ (by repeat (first | exact Upd.refl _ _ | refine Upd.drew ?_ | refine Upd.alloc ?_ _))) HA1.out h63.out.1 h63.out.2.1 ?_
                intro v8 w8 h8 u8 t8
                rw [List.length_map, Nat.zero_add, List.nil_append] at h8
                obtain ⟨a8, c8, rfl⟩ := own_slD h8
                refine hK.out _ _ (fun _ => HS.out _ u8) ?_
                clear hK K
                (try simp only [Act.put, List.setIfInBounds_toArray, List.set_cons_zero, List.set_cons_succ])
                have hbx8 : w8.heap[w7.heap.size]? = some (.cells #[bsV ss] tStrJ (0, 0)) := t8.keep (heap_at2J rfl) (by simp [Value.ownBlock])
                refine wpAnyG_ready [6] (by kernel_rfl) (by simp) ?_
                refine AllG.cons rfl (fun K hK => ?_) AllG.nil
                refine step_catT rfl _ _ 22 rfl tStrJ _ 16 Tryd.underlying22 infoStrJ rfl w7 Hg7.out (by first | exact u8 | exact Upd.alloc u8 _) _ _ (.slice a8 all.length c8) (.slice (some ⟨_, 0, none⟩) 1 1) all.length (all.map bsV) [bsV ss] rfl (by first | exact h8 | exact h8.alloc _) rfl (sl_one hbx8) HA2.out h63.out.2.2.1 h63.out.2.2.2 ?_
                intro v9 w9 h9 u9 t9
                rw [List.length_singleton] at h9
                obtain ⟨a9, c9, rfl⟩ := own_slD h9
                have H9 := Lib.hid h9
                refine hK.out _ _ (fun _ => HS.out _ u9) ?_
                clear hK K
                (try simp only [Act.put, List.setIfInBounds_toArray, List.set_cons_zero, List.set_cons_succ])
                refine wpAnyG_ready [7] (by kernel_rfl) (by simp) ?_
                refine AllG.cons rfl (fun K hK => ?_) AllG.nil
                go_simp
                refine hK.out _ _ (fun e => absurd (show true = false from e) (by decide)) ?_
                clear hK K
                (try simp only [Act.put, List.setIfInBounds_toArray, List.set_cons_zero, List.set_cons_succ])
                refine wpAnyG_done (by kernel_rfl) ?_ _
                clear hbx8 t9 t8 u8 h8
                go_wp2_with fail
                go_meet
                exact ⟨_, _, rfl, u9, h9⟩
            case rest =>
              obtain ⟨a9, c9, rfl, u9, h9⟩ := hcut
              rename World => wc
              have HG9 := Lib.hid (HG7.out.keep (F' := fun k => ((Value.slice a9 (all.length + 1) c9).ownBlock = some k ∨ (Value.slice asu sure.length csu).ownBlock = some k) ∨ (Value.slice ab j.recs.length cb).ownBlock = some k) u9 (fun k hk => by
                rcases hk with (hk | hk) | hk
                · exact Or.inr (by obtain ⟨a, cs, b⟩ := own_blockD h9 hk; exact ⟨a, lt_of_block b⟩)
                · exact Or.inl (Or.inl (Or.inl (Or.inr hk)))
                · exact Or.inl (Or.inr hk)))
              have H9 := Lib.hid h9
              have O9 := Lib.hid (And.intro (owns_updD O7.out.2.1 u9 (fun _ _ e => e)) (Nat.le_trans O7.out.2.2 u9.size))
              have Hb9 := Lib.hid (owns_updD Hb7.out u9 (fun _ _ e => e))
              have Ha9 := Lib.hid (owns_updD Ha7.out u9 (fun _ _ e => e))
              have B9 := Lib.hid (u9.keep B7.out)
              have HSc := Lib.hid u9.size
              clear u9 h9
              have hWo : wo.heap.size ≤ wc.heap.size := Nat.le_trans HSz.out.1 HSc.out
              have hgo : nG ≤ wo.heap.size := (HGo.out.gl g1).big
              have x9 : wc.cell? ⟨wr.heap.size, 1, none⟩ = some (.string ⟨ss.toArray⟩) := by rw [cells_cell B9.out]; rfl
              go_wp2_with (at_builtin; refine wpList_open (by rfl) ?_; refine wpList_appL rfl _ _ 22 rfl wo.heap.size tStrJ _ 1 16 Tryd.underlying22 infoStrJ rfl (by decide) _ _ _ rfl Hb9.out [bsV ss] rfl rfl ?c1 ?c2 ?c3 hWo hgo ?_)
              case c1 => intro u hu; rw [List.mem_singleton.1 hu]; rfl
              case c2 => have := HJ.out.1; unfold maxLen; omega
              case c3 => have := HJ.out.1; omega
              intro v10 w10 h10 u10 _
              obtain ⟨a10, c10, rfl⟩ := own_slD h10
              have Ha10 := owns_updD Ha9.out u10 (fun k h1 h2 => by have a := (Ha7.out.lt k h1).1; have b := (Hb6.out.lt k h2).2; omega)
              have st := SameTextsQ _ _ _ _ _ _ j6.recs (j.recs ++ [ss]) w10 (Sl.of_owns Ha10) (by have := Sl.of_owns h10; rw [List.map_append]; exact this)
              rw [decide_eq_true HRC.out] at st
              have St := Lib.hid st
              have HG10 := Lib.hid (HG9.out.upd u10 (fun k hk => Or.inl ⟨Or.inr hk, by have a := (Hb9.out.lt k hk).1; have b := HGo.out.nw0.size; omega⟩))
              have H10 := Lib.hid (owns_updD H9.out u10 (fun k h1 h2 => by have a := (H9.out.lt k h1).1; have b := (Hb6.out.lt k h2).2; have c := HSz.out.2; omega))
              have O10 := Lib.hid (And.intro (owns_updD O9.out.1 u10 (fun k h1 h2 => by have a := (Ho.out.2.1.lt k h1).2; have b := (Hb6.out.lt k h2).1; omega)) (Nat.le_trans O9.out.2 u10.size))
              clear st Ha10 u10 h10 x9
              go_wp2_with fail
              (with_reducible refine (St.out).mono ?_)
              rintro _ w11 ⟨rfl, u11⟩
              have hz11 : Hid (LsI w1 db w3.heap.size (k + 1) (.pointer (some ⟨jb8, 0, none⟩)) (.slice a9 (all.length + 1) c9) (.slice asu sure.length csu) w11) :=
                ⟨some (jb8, j6), D6, all ++ [ss], sure, rfl, HG10.out.keep u11 (fun k hk => Or.inl (Or.inl hk)), HLS.out, by rw [List.length_append, List.map_append]; exact owns_base (owns_updD H10.out u11 (fun _ _ e => e)) O7.out.2.2, owns_updD O10.out.1 u11 (fun _ _ e => e), Nat.le_trans O10.out.2 u11.size⟩
              clear u11
              have hz : Hid (LsI w1 db w3.heap.size (k + 1) (.pointer (some ⟨jb8, 0, none⟩)) (.slice a9 (all.length + 1) c9) (.slice asu sure.length csu) w11) := hz11.out
              go_wp2_with fail
              go_roundw
              case rel => exact ⟨k + 1, by omega, by go_num, hz.out⟩
              case measure => simp [intOf]; omega
          · subst he
            have HLS := Lib.hid hls
            have HRC := Lib.hid hrc
            have Hdk := Lib.hid (fun z => disky_c 8 z)
            clear hls hrc hst
            go_wp2_with fail
            (with_reducible refine (Hdk.out _).mono ?_)
            rintro _ _ ⟨rfl, rfl⟩
            go_upto_region 27 with fail
            go_cut [9] from 78 to 85 (fun v wx => ∃ a9 c9, v = .slice a9 (all.length + 1) c9 ∧ Nw w7 wx ∧ wx.ownsRow w7.heap.size tStrJ 1 (.slice a9 (all.length + 1) c9) (all.length + 1) (all.map bsV ++ [bsV ss]))
            case first =>
              have HS := Lib.hid (fun (z : World) (u : Nw w7 z) => show z.cell? ⟨wr.heap.size, 1, none⟩ = some (.string ⟨ss.toArray⟩) by rw [cells_cell (u.keep B7.out)]; rfl)
              have HSrc := Lib.hid (fun (z : World) (u : Nw w7 z) => (Sl.of_owns O7.out.1).nw u)
              have h63 : Hid (0 + (all.map bsV).length ≤ maxLen ∧ (0 + (all.map bsV).length) * 16 ≤ 140737488355328 ∧ all.length + [bsV ss].length ≤ maxLen ∧ (all.length + [bsV ss].length) * 16 ≤ 140737488355328) := by
                have := HJ.out.2
                rw [List.length_map]
                unfold maxLen
                refine ⟨by omega, by omega, by simp; omega, by simp; omega⟩
              have HA1 : Hid (∀ u ∈ all.map bsV, u.oneCell' = true) := fun u hu => by obtain ⟨y, _, rfl⟩ := List.mem_map.1 hu; rfl
              have HA2 : Hid (∀ u ∈ [bsV ss], u.oneCell' = true) := fun u hu => by rw [List.mem_singleton.1 hu]; rfl
              refine wp_region_G (fun z => z.cell? ⟨wr.heap.size, 1, none⟩ = some (.string ⟨ss.toArray⟩)) 7 (by kernel_rfl) ?_
              have HS0 := HS.out _ (Upd.refl _ w7).drew
              refine wpAnyG_pure (i := 1) (v := ?_) rfl (by kernel_rfl) (by kernel_rfl) (by kernel_rfl) (by kernel_rfl) (by kernel_rfl) (fun _ _ _ h => h) (by rfl) ?_ (fun _ => HS0) ?_
              rotate_left 1
              · (intro zz; go_simp; first | done | with_reducible rfl)
              (try simp only [Act.put, List.setIfInBounds_toArray, List.set_cons_zero, List.set_cons_succ])
              refine wpAnyG_pure (i := 3) (v := ?_) rfl (by kernel_rfl) (by kernel_rfl) (by kernel_rfl) (by kernel_rfl) (by kernel_rfl) (fun _ _ _ h => h) (by rfl) ?_ (fun _ => HS0) ?_
              rotate_left 1
              · (intro zz; go_simp; first | done | with_reducible rfl)
              (try simp only [Act.put, List.setIfInBounds_toArray, List.set_cons_zero, List.set_cons_succ])
              refine wpAnyG_load (i := 4) (v := ?_) [6, 5] rfl (by kernel_rfl) (by kernel_rfl) (by kernel_rfl) (by kernel_rfl) (by kernel_rfl) (by kernel_rfl) (fun _ _ _ h => h) (by rfl) ?_ (fun _ => HS0) ?_
              rotate_left 1
              · (intro zz hS; go_simp; first | done | with_reducible rfl)
              (try simp only [Act.put, List.setIfInBounds_toArray, List.set_cons_zero, List.set_cons_succ])
              refine wpAnyG_ready [0, 5] (by kernel_rfl) (by simp) ?_
              refine AllG.cons rfl (fun K hK => ?_) (AllG.cons rfl (fun K hK => ?_) AllG.nil)
              · go_simp
                refine hK.out _ _ (fun _ => HS.out _ (by repeat (first | exact Upd.refl _ _ | assumption | refine Upd.drew ?_ | refine Upd.alloc ?_ _))) ?_
                clear hK K
                (try simp only [Act.put, List.setIfInBounds_toArray, List.set_cons_zero, List.set_cons_succ])
                refine wpAnyG_ready [2, 5] (by kernel_rfl) (by simp) ?_
                refine AllG.cons rfl (fun K hK => ?_) (AllG.cons rfl (fun K hK => ?_) AllG.nil)
                · refine step_catT rfl _ _ 22 rfl tStrJ _ 16 Tryd.underlying22 infoStrJ rfl w7 Hg7.out (by repeat (first | exact Upd.refl _ _ | refine Upd.drew ?_ | refine Upd.alloc ?_ _)) _ _ (.slice (some ⟨_, 0, none⟩) 0 0) (.slice aa all.length ca) 0 [] (all.map bsV) rfl (own_nil_at (by first | exact heap_new _ _ | exact heap_at2J rfl | exact heap_atJ (by simp)) (by simp)) rfl (HSrc.out _ (by repeat (first | exact Upd.refl _ _ | refine Upd.drew ?_ | refine Upd.alloc ?_ _))) HA1.out h63.out.1 h63.out.2.1 ?_
                  intro v8 w8 h8 u8 t8
                  rw [List.length_map, Nat.zero_add, List.nil_append] at h8
                  obtain ⟨a8, c8, rfl⟩ := own_slD h8
                  refine hK.out _ _ (fun _ => HS.out _ u8) ?_
                  clear hK K
                  (try simp only [Act.put, List.setIfInBounds_toArray, List.set_cons_zero, List.set_cons_succ])
                  refine wpAnyG_ready [5] (by kernel_rfl) (by simp) ?_
                  refine AllG.cons rfl (fun K hK => ?_) AllG.nil
                  go_simp
                  refine hK.out _ _ (fun _ => HS.out _ (by repeat (first | exact Upd.refl _ _ | assumption | refine Upd.drew ?_ | refine Upd.alloc ?_ _))) ?_
                  clear hK K
                  (try simp only [Act.put, List.setIfInBounds_toArray, List.set_cons_zero, List.set_cons_succ])
                  refine wpAnyG_ready [6] (by kernel_rfl) (by simp) ?_
                  refine AllG.cons rfl (fun K hK => ?_) AllG.nil
                  have hbx8 := heap_new w8 (.cells #[.string ⟨ss.toArray⟩] tStrJ)
                  refine step_catT rfl _ _ 22 rfl tStrJ _ 16 Tryd.underlying22 infoStrJ rfl w7 Hg7.out (by first | exact u8 | exact Upd.alloc u8 _) _ _ (.slice a8 all.length c8) (.slice (some ⟨_, 0, none⟩) 1 1) all.length (all.map bsV) [bsV ss] rfl (by first | exact h8 | exact h8.alloc _) rfl (sl_one hbx8) HA2.out h63.out.2.2.1 h63.out.2.2.2 ?_
                  intro v9 w9 h9 u9 t9
                  rw [List.length_singleton] at h9
                  obtain ⟨a9, c9, rfl⟩ := own_slD h9
                  have H9 := Lib.hid h9
                  refine hK.out _ _ (fun _ => HS.out _ u9) ?_
                  clear hK K
                  (try simp only [Act.put, List.setIfInBounds_toArray, List.set_cons_zero, List.set_cons_succ])
                  refine wpAnyG_ready [7] (by kernel_rfl) (by simp) ?_
                  refine AllG.cons rfl (fun K hK => ?_) AllG.nil
                  go_simp
                  refine hK.out _ _ (fun e => absurd (show true = false from e) (by decide)) ?_
                  clear hK K
                  (try simp only [Act.put, List.setIfInBounds_toArray, List.set_cons_zero, List.set_cons_succ])
                  refine wpAnyG_done (by kernel_rfl) ?_ _
                  clear hbx8 t9 t8 u8 h8
                  go_wp2_with fail
                  go_meet
                  exact ⟨_, _, rfl, u9, h9⟩
                · go_simp
                  refine hK.out _ _ (fun _ => HS.out _ (by repeat (first | exact Upd.refl _ _ | assumption | refine Upd.drew ?_ | refine Upd.alloc ?_ _))) ?_
                  clear hK K
                  (try simp only [Act.put, List.setIfInBounds_toArray, List.set_cons_zero, List.set_cons_succ])
                  refine wpAnyG_ready [2] (by kernel_rfl) (by simp) ?_
                  refine AllG.cons rfl (fun K hK => ?_) AllG.nil
                  refine step_catT rfl _ _ 22 rfl tStrJ _ 16 Tryd.underlying22 infoStrJ rfl w7 Hg7.out (by repeat (first | exact Upd.refl _ _ | refine Upd.drew ?_ | refine Upd.alloc ?_ _)) _ _ (.slice (some ⟨_, 0, none⟩) 0 0) (.slice aa all.length ca) 0 [] (all.map bsV) rfl (own_nil_at (by first | exact heap_new _ _ | exact heap_at2J rfl | exact heap_atJ (by simp)) (by simp)) rfl (HSrc.out _ (by repeat (first | exact Upd.refl _ _ | refine Upd.drew ?_ | refine Upd.alloc ?_ _))) HA1.out h63.out.1 h63.out.2.1 ?_
                  intro v8 w8 h8 u8 t8
                  rw [List.length_map, Nat.zero_add, List.nil_append] at h8
                  obtain ⟨a8, c8, rfl⟩ := own_slD h8
                  refine hK.out _ _ (fun _ => HS.out _ u8) ?_
                  clear hK K
                  (try simp only [Act.put, List.setIfInBounds_toArray, List.set_cons_zero, List.set_cons_succ])
                  have hbx8 : w8.heap[w7.heap.size + 1]? = some (.cells #[bsV ss] tStrJ (0, 0)) := t8.keep (heap_atJ (by simp)) (by simp [Value.ownBlock])
                  refine wpAnyG_ready [6] (by kernel_rfl) (by simp) ?_
                  refine AllG.cons rfl (fun K hK => ?_) AllG.nil
                  refine step_catT rfl _ _ 22 rfl tStrJ _ 16 Tryd.underlying22 infoStrJ rfl w7 Hg7.out (by first | exact u8 | exact Upd.alloc u8 _) _ _ (.slice a8 all.length c8) (.slice (some ⟨_, 0, none⟩) 1 1) all.length (all.map bsV) [bsV ss] rfl (by first | exact h8 | exact h8.alloc _) rfl (sl_one hbx8) HA2.out h63.out.2.2.1 h63.out.2.2.2 ?_
                  intro v9 w9 h9 u9 t9
                  rw [List.length_singleton] at h9
                  obtain ⟨a9, c9, rfl⟩ := own_slD h9
                  have H9 := Lib.hid h9
                  refine hK.out _ _ (fun _ => HS.out _ u9) ?_
                  clear hK K
                  (try simp only [Act.put, List.setIfInBounds_toArray, List.set_cons_zero, List.set_cons_succ])
                  refine wpAnyG_ready [7] (by kernel_rfl) (by simp) ?_
                  refine AllG.cons rfl (fun K hK => ?_) AllG.nil
                  go_simp
                  refine hK.out _ _ (fun e => absurd (show true = false from e) (by decide)) ?_
                  clear hK K
                  (try simp only [Act.put, List.setIfInBounds_toArray, List.set_cons_zero, List.set_cons_succ])
                  refine wpAnyG_done (by kernel_rfl) ?_ _
                  clear hbx8 t9 t8 u8 h8
                  go_wp2_with fail
                  go_meet
                  exact ⟨_, _, rfl, u9, h9⟩
              · go_simp
                refine hK.out _ _ (fun _ => HS.out _ (by repeat (first | exact Upd.refl _ _ | assumption | refine Upd.drew ?_ | refine Upd.alloc ?_ _))) ?_
                clear hK K
                (try simp only [Act.put, List.setIfInBounds_toArray, List.set_cons_zero, List.set_cons_succ])
                refine wpAnyG_ready [0] (by kernel_rfl) (by simp) ?_
                refine AllG.cons rfl (fun K hK => ?_) AllG.nil
                go_simp
                refine hK.out _ _ (fun _ => HS.out _ (by repeat (first | exact Upd.refl _ _ | assumption | refine Upd.drew ?_ | refine Upd.alloc ?_ _))) ?_
                clear hK K
                (try simp only [Act.put, List.setIfInBounds_toArray, List.set_cons_zero, List.set_cons_succ])
                refine wpAnyG_ready [2] (by kernel_rfl) (by simp) ?_
                refine AllG.cons rfl (fun K hK => ?_) AllG.nil
                refine step_catT rfl _ _ 22 rfl tStrJ _ 16 Tryd.underlying22 infoStrJ rfl w7 Hg7.out (by repeat (first | exact Upd.refl _ _ | refine Upd.drew ?_ | refine Upd.alloc ?_ _)) _ _ (.slice (some ⟨_, 0, none⟩) 0 0) (.slice aa all.length ca) 0 [] (all.map bsV) rfl (own_nil_at (by first | exact heap_new _ _ | exact heap_at2J rfl | exact heap_atJ (by simp)) (by simp)) rfl (HSrc.out _ (by repeat (first | exact Upd.refl _ _ | refine Upd.drew ?_ | refine Upd.alloc ?_ _))) HA1.out h63.out.1 h63.out.2.1 ?_
                intro v8 w8 h8 u8 t8
                rw [List.length_map, Nat.zero_add, List.nil_append] at h8
                obtain ⟨a8, c8, rfl⟩ := own_slD h8
                refine hK.out _ _ (fun _ => HS.out _ u8) ?_
                clear hK K
                (try simp only [Act.put, List.setIfInBounds_toArray, List.set_cons_zero, List.set_cons_succ])
                have hbx8 : w8.heap[w7.heap.size]? = some (.cells #[bsV ss] tStrJ (0, 0)) := t8.keep (heap_at2J rfl) (by simp [Value.ownBlock])
                refine wpAnyG_ready [6] (by kernel_rfl) (by simp) ?_
                refine AllG.cons rfl (fun K hK => ?_) AllG.nil
                refine step_catT rfl _ _ 22 rfl tStrJ _ 16 Tryd.underlying22 infoStrJ rfl w7 Hg7.out (by first | exact u8 | exact Upd.alloc u8 _) _ _ (.slice a8 all.length c8) (.slice (some ⟨_, 0, none⟩) 1 1) all.length (all.map bsV) [bsV ss] rfl (by first | exact h8 | exact h8.alloc _) rfl (sl_one hbx8) HA2.out h63.out.2.2.1 h63.out.2.2.2 ?_
                intro v9 w9 h9 u9 t9
                rw [List.length_singleton] at h9
                obtain ⟨a9, c9, rfl⟩ := own_slD h9
                have H9 := Lib.hid h9
                refine hK.out _ _ (fun _ => HS.out _ u9) ?_
                clear hK K
                (try simp only [Act.put, List.setIfInBounds_toArray, List.set_cons_zero, List.set_cons_succ])
                refine wpAnyG_ready [7] (by kernel_rfl) (by simp) ?_
                refine AllG.cons rfl (fun K hK => ?_) AllG.nil
                go_simp
                refine hK.out _ _ (fun e => absurd (show true = false from e) (by decide)) ?_
                clear hK K
                (try simp only [Act.put, List.setIfInBounds_toArray, List.set_cons_zero, List.set_cons_succ])
                refine wpAnyG_done (by kernel_rfl) ?_ _
                clear hbx8 t9 t8 u8 h8
                go_wp2_with fail
                go_meet
                exact ⟨_, _, rfl, u9, h9⟩
            case rest =>
              obtain ⟨a9, c9, rfl, u9, h9⟩ := hcut
              rename World => wc
              have HG9 := Lib.hid (HG7.out.keep (F' := fun k => ((Value.slice a9 (all.length + 1) c9).ownBlock = some k ∨ (Value.slice asu sure.length csu).ownBlock = some k) ∨ (Value.slice ab j.recs.length cb).ownBlock = some k) u9 (fun k hk => by
                rcases hk with (hk | hk) | hk
                · exact Or.inr (by obtain ⟨a, cs, b⟩ := own_blockD h9 hk; exact ⟨a, lt_of_block b⟩)
                · exact Or.inl (Or.inl (Or.inl (Or.inr hk)))
                · exact Or.inl (Or.inr hk)))
              have H9 := Lib.hid h9
              have O9 := Lib.hid (And.intro (owns_updD O7.out.2.1 u9 (fun _ _ e => e)) (Nat.le_trans O7.out.2.2 u9.size))
              have Hb9 := Lib.hid (owns_updD Hb7.out u9 (fun _ _ e => e))
              have Ha9 := Lib.hid (owns_updD Ha7.out u9 (fun _ _ e => e))
              have B9 := Lib.hid (u9.keep B7.out)
              have HSc := Lib.hid u9.size
              clear u9 h9
              have st := SameTextsQ _ _ _ _ _ _ j6.recs j.recs wc (Sl.of_owns Ha9.out) (Sl.of_owns Hb9.out)
              rw [decide_eq_true HRC.out] at st
              have St := Lib.hid st
              clear st
              go_wp2_with fail
              (with_reducible refine (St.out).mono ?_)
              rintro _ w10 ⟨rfl, u10⟩
              have hz10 : Hid (LsI w1 db w3.heap.size (k + 1) (.pointer (some ⟨jb8, 0, none⟩)) (.slice a9 (all.length + 1) c9) (.slice asu sure.length csu) w10) :=
                ⟨some (jb8, j6), D6, all ++ [ss], sure, rfl, HG9.out.keep u10 (fun k hk => Or.inl (Or.inl hk)), HLS.out, by rw [List.length_append, List.map_append]; exact owns_base (owns_updD H9.out u10 (fun _ _ e => e)) O7.out.2.2, owns_updD O9.out.1 u10 (fun _ _ e => e), Nat.le_trans O9.out.2 u10.size⟩
              clear u10
              have hz : Hid (LsI w1 db w3.heap.size (k + 1) (.pointer (some ⟨jb8, 0, none⟩)) (.slice a9 (all.length + 1) c9) (.slice asu sure.length csu) w10) := hz10.out
              go_wp2_with fail
              go_roundw
              case rel => exact ⟨k + 1, by omega, by go_num, hz.out⟩
              case measure => simp [intOf]; omega
      have b0 : (kd == 0) = false := beq_eq_false_iff_ne.2 e0
      by_cases e4 : kd = 4
      · subst e4
        have hc := crash_t HGo.out g1 0 w.heap.size U1.out.size (.slice ak kp.length ck) kp HQ.out.2.2.1 (HQ.out.1.nw U1.out)
        rw [HW.out.1] at hc
        have Hc := Lib.hid hc
        clear hc
        go_wp2_with fail
        (with_reducible refine (Hc.out).mono ?_)
        rintro _ w6 ⟨rfl, G6, m6⟩
        have HG6 := Lib.hid (And.intro G6.forget m6)
        rw [← HW.out.1] at HG6
        clear G6 m6 Hc
        have HG6' := Lib.hid HG6.out.1
        have HL6 := Lib.hid (HL.out.crash kp)
        have O6 := Lib.hid (And.intro (owns_updD Ho.out.1 HG6.out.2 (fun k hk e => e.1 (Or.inl hk))) (And.intro (owns_updD Ho.out.2.1 HG6.out.2 (fun k hk e => e.1 (Or.inr hk))) (Nat.le_trans Ho.out.2.2 HG6.out.2.size)))
        have hsr := Lib.hid (start_t HG6'.out)
        go_wp2_with fail
        (with_reducible refine hsr.out.mono ?_)
        rintro _ w7 ⟨rfl, G7, m7⟩
        have HG7 := Lib.hid G7
        have O7 := Lib.hid (And.intro (owns_updD O6.out.1 m7 (fun k hk e => e.1 (Or.inl hk))) (And.intro (owns_updD O6.out.2.1 m7 (fun k hk e => e.1 (Or.inr hk))) (Nat.le_trans O6.out.2.2 m7.size)))
        have HL7 := Lib.hid (Jr.Ls.start HL6.out)
        have hop := Lib.hid (open_t HG7.out g1 (f := 3) (I64_s (by decide)))
        have hol := Lib.hid (Jr.Ls.open_ HL7.out)
        clear G7 m7 hsr
        go_wp2_with fail
        (with_reducible refine hop.out.mono ?_)
        rintro _ w8 ⟨pv, rfl, o8, m8⟩
        have O8 := Lib.hid (And.intro (owns_updD O7.out.1 m8 (fun k hk e => e.1 (Or.inl hk))) (And.intro (owns_updD O7.out.2.1 m8 (fun k hk e => e.1 (Or.inr hk))) (Nat.le_trans O7.out.2.2 m8.size)))
        have H8 := Lib.hid o8
        clear m8 hop o8
        generalize Jr.openJ (Dk.start (Dk.crash D kp)) 3 = X at *
        obtain ⟨D8, jo8, E8⟩ := X
        dsimp only at *
        rcases hol.out with ⟨r1, r2, r3⟩ | ⟨l, r1, r2, r3, r4, r5⟩
        · obtain ⟨rfl, G8⟩ := (OS.none_ (by have := H8.out; rw [r1] at this; exact this))
          have hdk := fun z => disky_c E8 z
          have hd8 : (E8 == 8 || E8 == 9) = true := by rcases r2 with rfl | rfl <;> rfl
          rw [hd8] at hdk
          have Hdk := Lib.hid hdk
          have HG8 := Lib.hid G8
          have HR := Lib.hid r3
          have hik : ((k : Int) == (C.length : Int)) = false := beq_eq_false_iff_ne.2 (by omega)
          have hz11 : Hid (LsI w1 db w3.heap.size (k + 1) (.pointer none) (.slice aa all.length ca) (.slice asu sure.length csu) w8) := ⟨none, _, all, sure, rfl, HG8.out, HR.out.mono (by omega), O8.out.1, O8.out.2.1, O8.out.2.2⟩
          clear hdk hd8 G8 r1 r2 r3 hol
          go_wp2_with fail
          (with_reducible refine (Hdk.out _).mono ?_)
          rintro _ _ ⟨rfl, rfl⟩
          have hz : Hid (LsI w1 db w3.heap.size (k + 1) (.pointer none) (.slice aa all.length ca) (.slice asu sure.length csu) w8) := hz11.out
          go_wp2_with fail
          go_roundw
          case rel => exact ⟨k + 1, by omega, by go_num, hz.out⟩
          case measure => simp [intOf]; omega
        · obtain ⟨jb8, rfl, G8⟩ := (OS.some_ (by have := H8.out; rw [r1] at this; exact this))
          rw [r2]
          have HG8 := Lib.hid G8
          have hal := all_t G8 g1
          dsimp only at hal
          have Hal := Lib.hid hal
          have HR := Lib.hid (And.intro r3 (And.intro r4 r5))
          clear hal G8 r1 r2 r3 r4 r5 hol
          go_wp2_with fail
          (with_reducible refine Hal.out.mono ?_)
          rintro _ w9 ⟨vn, rfl, on, u9⟩
          have HG9 := Lib.hid (HG8.out.keep (F' := fun k => vn.ownBlock = some k ∨ vn.ownBlock = some k) u9 (fun k hk => Or.inr (by rcases hk with e | e <;> (obtain ⟨a, cs, b⟩ := own_blockD on e; exact ⟨a, lt_of_block b⟩))))
          have O9 := Lib.hid (And.intro (owns_updD O8.out.1 u9 (fun _ _ e => e)) (And.intro (owns_updD O8.out.2.1 u9 (fun _ _ e => e)) (And.intro on (Nat.le_trans O8.out.2.2 u9.size))))
          have hHn := Lib.hid (owns_base on O8.out.2.2)
          obtain ⟨an, cn, rfl⟩ := own_slD on
          have hb1 := Lib.hid (begins_c _ _ _ _ _ _ all l w9 (Sl.of_owns O9.out.1) (Sl.of_owns O9.out.2.2.1) HR.out.1)
          clear on u9
          go_wp2_with fail
          (with_reducible refine hb1.out.mono ?_)
          rintro _ w10 ⟨rfl, u10⟩
          have hb2 := Lib.hid (begins_c _ _ _ _ _ _ l sure w10 (Sl.of_owns (owns_updD O9.out.2.2.1 u10 (fun _ _ e => e))) (Sl.of_owns (owns_updD O9.out.2.1 u10 (fun _ _ e => e))) HR.out.2.1)
          go_wp2_with fail
          (with_reducible refine hb2.out.mono ?_)
          rintro _ w11 ⟨rfl, u11⟩
          have U11 := Lib.hid (u10.trans u11)
          clear u10 u11
          have hz11 : Hid (LsI w1 db w3.heap.size (k + 1) (.pointer (some ⟨jb8, 0, none⟩)) (.slice an l.length cn) (.slice an l.length cn) w11) :=
            ⟨some (jb8, _), _, l, l, rfl, HG9.out.nw U11.out, HR.out.2.2.mono (by omega), owns_updD hHn.out U11.out (fun _ _ e => e), owns_updD hHn.out U11.out (fun _ _ e => e), Nat.le_trans O9.out.2.2.2 U11.out.size⟩
          have hz : Hid (LsI w1 db w3.heap.size (k + 1) (.pointer (some ⟨jb8, 0, none⟩)) (.slice an l.length cn) (.slice an l.length cn) w11) := hz11.out
          go_wp2_with fail
          go_roundw
          case rel => exact ⟨k + 1, by omega, by go_num, hz.out⟩
          case measure => simp [intOf]; omega
      have b4 : (kd == 4) = false := beq_eq_false_iff_ne.2 e4
      by_cases e45 : kd = 5
      · subst e45
        have HG6' := Lib.hid (HGo.out.forget)
        have O6 := Lib.hid Ho.out
        rw [HW.out.1] at HG6' O6
        have HL6 := Lib.hid (Jr.Ls.forget HL.out)
        have hsr := Lib.hid (start_t HG6'.out)
        go_wp2_with fail
        (with_reducible refine hsr.out.mono ?_)
        rintro _ w7 ⟨rfl, G7, m7⟩
        have HG7 := Lib.hid G7
        have O7 := Lib.hid (And.intro (owns_updD O6.out.1 m7 (fun k hk e => e.1 (Or.inl hk))) (And.intro (owns_updD O6.out.2.1 m7 (fun k hk e => e.1 (Or.inr hk))) (Nat.le_trans O6.out.2.2 m7.size)))
        have HL7 := Lib.hid (Jr.Ls.start HL6.out)
        have hop := Lib.hid (open_t HG7.out g1 (f := 3) (I64_s (by decide)))
        have hol := Lib.hid (Jr.Ls.open_ HL7.out)
        clear G7 m7 hsr
        go_wp2_with fail
        (with_reducible refine hop.out.mono ?_)
        rintro _ w8 ⟨pv, rfl, o8, m8⟩
        have O8 := Lib.hid (And.intro (owns_updD O7.out.1 m8 (fun k hk e => e.1 (Or.inl hk))) (And.intro (owns_updD O7.out.2.1 m8 (fun k hk e => e.1 (Or.inr hk))) (Nat.le_trans O7.out.2.2 m8.size)))
        have H8 := Lib.hid o8
        clear m8 hop o8
        generalize Jr.openJ (Dk.start D) 3 = X at *
        obtain ⟨D8, jo8, E8⟩ := X
        dsimp only at *
        rcases hol.out with ⟨r1, r2, r3⟩ | ⟨l, r1, r2, r3, r4, r5⟩
        · obtain ⟨rfl, G8⟩ := (OS.none_ (by have := H8.out; rw [r1] at this; exact this))
          have hdk := fun z => disky_c E8 z
          have hd8 : (E8 == 8 || E8 == 9) = true := by rcases r2 with rfl | rfl <;> rfl
          rw [hd8] at hdk
          have Hdk := Lib.hid hdk
          have HG8 := Lib.hid G8
          have HR := Lib.hid r3
          have hik : ((k : Int) == (C.length : Int)) = false := beq_eq_false_iff_ne.2 (by omega)
          have hz11 : Hid (LsI w1 db w3.heap.size (k + 1) (.pointer none) (.slice aa all.length ca) (.slice asu sure.length csu) w8) := ⟨none, _, all, sure, rfl, HG8.out, HR.out.mono (by omega), O8.out.1, O8.out.2.1, O8.out.2.2⟩
          clear hdk hd8 G8 r1 r2 r3 hol
          go_wp2_with fail
          (with_reducible refine (Hdk.out _).mono ?_)
          rintro _ _ ⟨rfl, rfl⟩
          have hz : Hid (LsI w1 db w3.heap.size (k + 1) (.pointer none) (.slice aa all.length ca) (.slice asu sure.length csu) w8) := hz11.out
          go_wp2_with fail
          go_roundw
          case rel => exact ⟨k + 1, by omega, by go_num, hz.out⟩
          case measure => simp [intOf]; omega
        · obtain ⟨jb8, rfl, G8⟩ := (OS.some_ (by have := H8.out; rw [r1] at this; exact this))
          rw [r2]
          have HG8 := Lib.hid G8
          have hal := all_t G8 g1
          dsimp only at hal
          have Hal := Lib.hid hal
          have HR := Lib.hid (And.intro r3 (And.intro r4 r5))
          clear hal G8 r1 r2 r3 r4 r5 hol
          go_wp2_with fail
          (with_reducible refine Hal.out.mono ?_)
          rintro _ w9 ⟨vn, rfl, on, u9⟩
          have HG9 := Lib.hid (HG8.out.keep (F' := fun k => vn.ownBlock = some k ∨ vn.ownBlock = some k) u9 (fun k hk => Or.inr (by rcases hk with e | e <;> (obtain ⟨a, cs, b⟩ := own_blockD on e; exact ⟨a, lt_of_block b⟩))))
          have O9 := Lib.hid (And.intro (owns_updD O8.out.1 u9 (fun _ _ e => e)) (And.intro (owns_updD O8.out.2.1 u9 (fun _ _ e => e)) (And.intro on (Nat.le_trans O8.out.2.2 u9.size))))
          have hHn := Lib.hid (owns_base on O8.out.2.2)
          obtain ⟨an, cn, rfl⟩ := own_slD on
          have hb1 := Lib.hid (begins_c _ _ _ _ _ _ all l w9 (Sl.of_owns O9.out.1) (Sl.of_owns O9.out.2.2.1) HR.out.1)
          clear on u9
          go_wp2_with fail
          (with_reducible refine hb1.out.mono ?_)
          rintro _ w10 ⟨rfl, u10⟩
          have hb2 := Lib.hid (begins_c _ _ _ _ _ _ l sure w10 (Sl.of_owns (owns_updD O9.out.2.2.1 u10 (fun _ _ e => e))) (Sl.of_owns (owns_updD O9.out.2.1 u10 (fun _ _ e => e))) HR.out.2.1)
          go_wp2_with fail
          (with_reducible refine hb2.out.mono ?_)
          rintro _ w11 ⟨rfl, u11⟩
          have U11 := Lib.hid (u10.trans u11)
          clear u10 u11
          have hz11 : Hid (LsI w1 db w3.heap.size (k + 1) (.pointer (some ⟨jb8, 0, none⟩)) (.slice an l.length cn) (.slice an l.length cn) w11) :=
            ⟨some (jb8, _), _, l, l, rfl, HG9.out.nw U11.out, HR.out.2.2.mono (by omega), owns_updD hHn.out U11.out (fun _ _ e => e), owns_updD hHn.out U11.out (fun _ _ e => e), Nat.le_trans O9.out.2.2.2 U11.out.size⟩
          have hz : Hid (LsI w1 db w3.heap.size (k + 1) (.pointer (some ⟨jb8, 0, none⟩)) (.slice an l.length cn) (.slice an l.length cn) w11) := hz11.out
          go_wp2_with fail
          go_roundw
          case rel => exact ⟨k + 1, by omega, by go_num, hz.out⟩
          case measure => simp [intOf]; omega
      have b5 : (kd == 5) = false := beq_eq_false_iff_ne.2 e45
      have hzz : Hid (LsI w1 db w3.heap.size (k + 1) (ptrJ jp) (.slice aa all.length ca) (.slice asu sure.length csu) (wr.alloc (.cells #[.int .i64 kd, .string ⟨ss.toArray⟩, .int .i64 nn, .slice ak kp.length ck] 46))) := by
        rw [← HW.out.1]
        exact ⟨jp, D, all, sure, rfl, HGo.out, HL.out.mono (by omega), Ho.out.1, Ho.out.2.1, Ho.out.2.2⟩
      have hz : Hid (LsI w1 db w3.heap.size (k + 1) (ptrJ jp) (.slice aa all.length ca) (.slice asu sure.length csu) _) := hzz.out
      go_wp2_with fail
      go_roundw
      case rel => exact ⟨k + 1, by omega, by go_num, hz.out⟩
      case measure => simp [intOf]; omega
    · have hkl : k ≤ C.length := by omega
      have hnl : ¬ (k : Int) < C.length := by omega
      clear hcells
      obtain ⟨wo, hwo, n0, hbx⟩ : ∃ z, z = wr.alloc (.cells #[.int .i64 4, .string ⟨#[]⟩, .int .i64 0, .slice a2 keep.length c2] 46) ∧ Nw wr z ∧ z.heap[wr.heap.size]? = some (.cells #[.int .i64 4, .string ⟨#[]⟩, .int .i64 0, .slice a2 keep.length c2] 46 (0, 0)) := ⟨_, rfl, nw_alloc wr _, heap_new wr _⟩
      have HGo := Lib.hid (HG.out.keep (F' := fun k => ((Value.slice aa all.length ca).ownBlock = some k ∨ (Value.slice asu sure.length csu).ownBlock = some k) ∨ k = wr.heap.size) n0 (fun k hk => hk.imp id (fun e => by subst e; exact ⟨Nat.le_refl _, lt_of_block hbx⟩)))
      have Ho := Lib.hid (And.intro (owns_updD HO.out.1 n0 (fun _ _ e => e)) (And.intro (owns_updD HO.out.2.1 n0 (fun _ _ e => e)) (Nat.le_trans HO.out.2.2 n0.size)))
      have HW := Lib.hid (And.intro hwo (And.intro n0 hbx))
      clear hwo n0 hbx
      have hc := lose_t HGo.out (n := 0) (I64_s (by decide))
      rw [HW.out.1] at hc
      have Hc := Lib.hid hc
      clear hc
      go_wp2_with fail
      (with_reducible refine (Hc.out).mono ?_)
      rintro _ w4 ⟨rfl, G4, m4⟩
      have HG4 := Lib.hid (And.intro G4 m4)
      rw [← HW.out.1] at HG4
      clear G4 m4 Hc
      have O4 := Lib.hid (And.intro (owns_updD Ho.out.1 HG4.out.2 (fun k hk e => e.1 (Or.inl (Or.inl hk)))) (And.intro (owns_updD Ho.out.2.1 HG4.out.2 (fun k hk e => e.1 (Or.inl (Or.inr hk)))) (Nat.le_trans Ho.out.2.2 HG4.out.2.size)))
      have B4 := Lib.hid (HG4.out.2.keep HW.out.2.2 (fun e => e.1 (Or.inr rfl)))
      have Hc2 := Lib.hid (arm_t HG4.out.1 g1 (n := 0) (I64_s (by decide)) 0 0 (.slice none 0 0) [] (fun x hx => by cases hx) (Sl.nil 0 0 w4 intD) (by decide))
      go_wp2_with fail
      (with_reducible refine (Hc2.out).mono ?_)
      rintro _ w5 ⟨rfl, G5, m5⟩
      have HG5 := Lib.hid G5
      have O5 := Lib.hid (And.intro (owns_updD O4.out.1 m5 (fun k hk e => e.1 (Or.inl (Or.inl hk)))) (And.intro (owns_updD O4.out.2.1 m5 (fun k hk e => e.1 (Or.inl (Or.inr hk)))) (Nat.le_trans O4.out.2.2 m5.size)))
      have b5 := m5.keep B4.out (fun e => e.1 (Or.inr rfl))
      have y0 : w5.cell? ⟨wr.heap.size, 0, none⟩ = some (.int .i64 4) := by rw [cells_cell b5]; rfl
      have y3 : w5.cell? ⟨wr.heap.size, 3, none⟩ = some (.slice a2 keep.length c2) := by rw [cells_cell b5]; rfl
      have hc3 := Lib.hid (crash_t HG5.out g1 0 w.heap.size U1.out.size (.slice a2 keep.length c2) keep HA.out.2.2 (HA.out.2.1.nw U1.out))
      clear G5 m5 Hc2 b5
      go_wp2_with fail
      (with_reducible refine (hc3.out).mono ?_)
      rintro _ w6 ⟨rfl, G6, m6⟩
      have HG6' := Lib.hid (G6.forget.keep (F' := fun k => (Value.slice aa all.length ca).ownBlock = some k ∨ (Value.slice asu sure.length csu).ownBlock = some k) (Upd.refl _ _) (fun k hk => Or.inl (Or.inl hk)))
      have O6 := Lib.hid (And.intro (owns_updD O5.out.1 m6 (fun k hk e => e.1 (Or.inl (Or.inl hk)))) (And.intro (owns_updD O5.out.2.1 m6 (fun k hk e => e.1 (Or.inl (Or.inr hk)))) (Nat.le_trans O5.out.2.2 m6.size)))
      have HL6 := Lib.hid (((HL.out.lose (k := 0) (by decide)).arm (k := 0) (by decide) []).crash keep)
      have hlast := Lib.hid (HL.out.last keep)
      clear G6 m6 hc3
      have hsr := Lib.hid (start_t HG6'.out)
      go_wp2_with fail
      (with_reducible refine hsr.out.mono ?_)
      rintro _ w7 ⟨rfl, G7, m7⟩
      have HG7 := Lib.hid G7
      have O7 := Lib.hid (And.intro (owns_updD O6.out.1 m7 (fun k hk e => e.1 (Or.inl hk))) (And.intro (owns_updD O6.out.2.1 m7 (fun k hk e => e.1 (Or.inr hk))) (Nat.le_trans O6.out.2.2 m7.size)))
      have HL7 := Lib.hid (Jr.Ls.start HL6.out)
      have hop := Lib.hid (open_t HG7.out g1 (f := 3) (I64_s (by decide)))
      have hol := Lib.hid (Jr.Ls.open_ HL7.out)
      clear G7 m7 hsr
      go_wp2_with fail
      (with_reducible refine hop.out.mono ?_)
      rintro _ w8 ⟨pv, rfl, o8, m8⟩
      have O8 := Lib.hid (And.intro (owns_updD O7.out.1 m8 (fun k hk e => e.1 (Or.inl hk))) (And.intro (owns_updD O7.out.2.1 m8 (fun k hk e => e.1 (Or.inr hk))) (Nat.le_trans O7.out.2.2 m8.size)))
      have H8 := Lib.hid o8
      clear m8 hop o8
      generalize Jr.openJ (Dk.start (Dk.crash (Dk.arm (Dk.lose D 0) 0 []) keep)) 3 = X at *
      obtain ⟨D8, jo8, E8⟩ := X
      dsimp only at *
      rcases hol.out with ⟨r1, r2, r3⟩ | ⟨l, r1, r2, r3, r4, r5⟩
      · exact absurd hlast.out (by omega)
      · obtain ⟨jb8, rfl, G8⟩ := (OS.some_ (by have := H8.out; rw [r1] at this; exact this))
        rw [r2]
        have HG8 := Lib.hid G8
        have hal := all_t G8 g1
        dsimp only at hal
        have Hal := Lib.hid hal
        have HR := Lib.hid (And.intro r3 (And.intro r4 r5))
        clear hal G8 r1 r2 r3 r4 r5 hol
        go_wp2_with fail
        (with_reducible refine Hal.out.mono ?_)
        rintro _ w9 ⟨vn, rfl, on, u9⟩
        have HG9 := Lib.hid (HG8.out.keep (F' := fun k => vn.ownBlock = some k ∨ vn.ownBlock = some k) u9 (fun k hk => Or.inr (by rcases hk with e | e <;> (obtain ⟨a, cs, b⟩ := own_blockD on e; exact ⟨a, lt_of_block b⟩))))
        have O9 := Lib.hid (And.intro (owns_updD O8.out.1 u9 (fun _ _ e => e)) (And.intro (owns_updD O8.out.2.1 u9 (fun _ _ e => e)) (And.intro on (Nat.le_trans O8.out.2.2 u9.size))))
        have hHn := Lib.hid (owns_base on O8.out.2.2)
        obtain ⟨an, cn, rfl⟩ := own_slD on
        have hb1 := Lib.hid (begins_c _ _ _ _ _ _ all l w9 (Sl.of_owns O9.out.1) (Sl.of_owns O9.out.2.2.1) HR.out.1)
        clear on u9
        go_wp2_with fail
        (with_reducible refine hb1.out.mono ?_)
        rintro _ w10 ⟨rfl, u10⟩
        have hb2 := Lib.hid (begins_c _ _ _ _ _ _ l sure w10 (Sl.of_owns (owns_updD O9.out.2.2.1 u10 (fun _ _ e => e))) (Sl.of_owns (owns_updD O9.out.2.1 u10 (fun _ _ e => e))) HR.out.2.1)
        go_wp2_with fail
        (with_reducible refine hb2.out.mono ?_)
        rintro _ w11 ⟨rfl, u11⟩
        have U11 := Lib.hid (u10.trans u11)
        clear u10 u11
        have hz11 : Hid (LsI w1 db w3.heap.size (k + 1) (.pointer (some ⟨jb8, 0, none⟩)) (.slice an l.length cn) (.slice an l.length cn) w11) :=
          ⟨some (jb8, _), _, l, l, rfl, HG9.out.nw U11.out, HR.out.2.2.mono (by omega), owns_updD hHn.out U11.out (fun _ _ e => e), owns_updD hHn.out U11.out (fun _ _ e => e), Nat.le_trans O9.out.2.2.2 U11.out.size⟩
        have hz : Hid (LsI w1 db w3.heap.size (k + 1) (.pointer (some ⟨jb8, 0, none⟩)) (.slice an l.length cn) (.slice an l.length cn) w11) := hz11.out
        go_wp2_with fail
        go_roundw
        case rel => exact ⟨k + 1, by omega, by go_num, hz.out⟩
        case measure => simp [intOf]; omega
end Go.Proofs.YtjfcclhhonicnaaDoor
