/- The walk of the statement StoreTells. -/
import Derived.Test.YtiednpagknnfnaaGreatDoorPkST12
import Derived.Test.YtiednpagknnfnaaGreatDoorPkST4
set_option linter.unusedVariables false
set_option linter.unusedSimpArgs false
namespace Go.Proofs.YtiednpagknnfnaaGreatDoor
open Go.RowKit
attribute [local irreducible] Calls CallsIn
abbrev tOpST : TypeId := 50
theorem fewSB_tells {C : List GC} (h : fewSB C = true) {k : Nat} (hk : k < C.length) : fewOp C[k] = true := by
  unfold fewSB at h
  obtain ⟨h1, h2⟩ := (Bool.and_eq_true _ _).mp h
  have h3 := of_decide_eq_true h2
  exact List.all_eq_true.1 h1 _ (List.mem_take_iff_getElem.2 ⟨k, by omega, rfl⟩)
set_option maxHeartbeats 8000000 in
set_option maxRecDepth 100000 in
theorem storeTells_c (v0 : Value) (C : List GC) (w : World) (g : GmS w) (h0 : GopS w.heap.size w v0 C) :
    Calls Tryz.prog 3 #[v0] w fun e w' => e = .returned (.bool true) ∧ Nw w w' := by
  have hs := Lib.hid (smallS_c w g)
  have hfew := Lib.hid (fun z (u : Nw w z) => few_c (h0.nw u))
  obtain ⟨a0, c0, rfl, m0, _⟩ := gop_cells h0
  unfold maxLen at m0
  have HA := Lib.hid h0
  clear h0 m0
  go_enter Tryz.func3, Tryz.ntmps3
  go_wp2_with fail
  (with_reducible refine (hs.out).mono ?_)
  rintro _ w1 ⟨rfl, u1⟩
  have U1 := Lib.hid u1
  have hfew2 := Lib.hid (hfew.out w1 u1)
  clear hs hfew u1
  go_wp2_with fail
  (with_reducible refine (hfew2.out).mono ?_)
  rintro _ _ ⟨rfl, rfl⟩
  cases hB : fewSB C with
  | false =>
    clear hB
    go_wp2_with fail
    go_ret
    exact ⟨rfl, U1.out⟩
  | true =>
  have hF := Lib.hid hB
  have hB2 := hB
  unfold fewSB at hB2
  have hC17 : C.length ≤ 16 := of_decide_eq_true ((Bool.and_eq_true _ _).mp hB2).2
  clear hB hB2
  have g1 := g.upd U1.out
  have hn := Lib.hid (new_t w1 g1.g)
  clear hfew2
  go_wp2_with fail
  (with_reducible refine (hn.out).mono ?_)
  rintro _ w2 ⟨db, rfl, s2⟩
  have hrn := Lib.hid (new_rd w2 (s2.gl g1.g))
  have S2 := Lib.hid s2
  clear hn s2
  go_wp2_with fail
  (with_reducible refine (hrn.out).mono ?_)
  rintro _ w3 ⟨r, rfl, k3, u3⟩
  have t3 := ts_new S2.out k3 u3
  generalize r.rb = rb at *
  clear hrn S2 k3 u3
  have hop := Lib.hid (mopen_t g1.g t3 (Sg.wf_new 5) (by omega))
  clear t3
  go_wp2_with fail
  (with_reducible refine (hop.out).mono ?_)
  rintro _ w4 ⟨pv, er, rfl, hr4⟩
  have HR4 := Lib.hid hr4
  clear hop hr4
  go_wp2_with fail
  (with_reducible refine (HR4.out).mono ?_)
  rintro _ w5 ⟨qv, rfl, hls, m5⟩
  have HL0 := Lib.hid hls
  clear hls m5 HR4
  go_wp2_with fail
  go_loopw [6, 7, 8, 9, 10] (fun pv ev qv fv iv wr => ∃ k : Nat, k ≤ C.length ∧ iv = .int .i64 (k : Int) ∧ Hid (LS w1 db rb k (fun _ => False) pv ev qv fv wr)) (fun _ _ _ _ iv _ => C.length - (intOf iv).toNat)
  case atStart => exact ⟨0, Nat.zero_le _, rfl, HL0.out⟩
  case round =>
    obtain ⟨k, hk, rfl, HI⟩ := hrel
    obtain ⟨D, e, rfl, rfl, h | ⟨rfl, x, y, j, S, rfl, rfl, h1, h2⟩⟩ := HI.out
    · obtain ⟨rfl, rfl, he, _, _⟩ := h
      have he' : (e == 0) = false := beq_eq_false_iff_ne.2 he
      clear he
      by_cases hlt : k < C.length
      · -- the operation's box: wr the world, HI (hidden) the word LS there
        have uw := U1.out.trans (HI).out.nw0
        have hA2 := HA.out.nw uw
        obtain ⟨a', cap', ev, _, hcells⟩ := gop_cells hA2
        simp only [Value.slice.injEq, true_and] at ev
        obtain ⟨rfl, rfl⟩ := ev
        rcases hcells with h | ⟨cb, co, rfl, hcb1, hcb2, hcl⟩
        · omega
        obtain ⟨d0, d1, d2, d3, d4, d5⟩ := hcl k hlt
        obtain ⟨q1, q2, q3, q4, q5, q6⟩ := HA.out.each _ (List.getElem_mem hlt)
        have hfe := fewSB_tells hF.out hlt
        clear hcl hA2 uw
        generalize C[k] = c at *
        obtain ⟨⟨iv, kv⟩, ⟨kd, s, n, ⟨nm, its⟩, keep⟩⟩ := c
        dsimp only at *
        obtain ⟨ia, ic, rfl, _, _⟩ := items_open q1
        obtain ⟨ka, kc, rfl, _, _⟩ := q3.open_
        rw [List.length_map] at *
        rw [show fewOp ((.slice ia its.length ic, .slice ka keep.length kc), ⟨kd, s, n, ⟨nm, its⟩, keep⟩) = (decide (s.length ≤ 300) && (decide (its.length ≤ 6) && (decide (keep.length ≤ 40) && (decide (nm.length ≤ 60) && its.all fun x => decide (x.nm.length ≤ 60))))) from rfl] at hfe
        simp only [Bool.and_eq_true, decide_eq_true_eq, List.all_eq_true] at hfe
        obtain ⟨f1, f2, f3, f4, f5⟩ := hfe
        have n5 := nw_alloc wr (.cells #[.int .i64 kd, .string ⟨s.toArray⟩, .int .i64 n, .string ⟨nm.toArray⟩, (.slice ia its.length ic), (.slice ka keep.length kc)] tOpST)
        have b5 := heap_new wr (.cells #[.int .i64 kd, .string ⟨s.toArray⟩, .int .i64 n, .string ⟨nm.toArray⟩, (.slice ia its.length ic), (.slice ka keep.length kc)] tOpST)
        obtain ⟨w5, hw5⟩ : ∃ y, y = (wr).alloc (.cells #[.int .i64 kd, .string ⟨s.toArray⟩, .int .i64 n, .string ⟨nm.toArray⟩, (.slice ia its.length ic), (.slice ka keep.length kc)] tOpST) := ⟨_, rfl⟩
        rw [← hw5] at n5 b5
        have HX := Lib.hid (fun x hx => (⟨by have := (f5 x hx); omega, (q2 x hx).2.1, (q2 x hx).2.2.1, (q2 x hx).2.2.2.1, (q2 x hx).2.2.2.2⟩ : ItArg x))
        have HLn := Lib.hid (pfE_few (p := ⟨nm, its⟩) f2 f4 HX.out f5)
        have HB := Lib.hid (And.intro f1 (And.intro f2 (And.intro f4 f3)))
        have HB5 := Lib.hid b5
        have HN5 := Lib.hid n5
        have HQ1 := Lib.hid (fun (z : World) (u : Nw w1 z) => q1.nw (U1.out.trans u))
        have HQ3 := Lib.hid (fun (z : World) (u : Nw w1 z) => q3.nw (U1.out.trans u))
        have HW5 := Lib.hid hw5
        have HK := Lib.hid (And.intro q4 (And.intro q5 q6))
        have HL5 := Lib.hid ((HI).out.keep (Nat.le_refl k) n5 (F' := fun b => b = (wr).heap.size) (fun b hb => Or.inr (by rw [hb, hw5]; simp)))
        clear n5 b5 q1 q2 q3 q4 q5 q6 hw5 f1 f2 f3 f4 f5 hcb1 hcb2
        go_upto_region 24 with fail
        rw [← HW5.out]
        have l0 : (w5).cell? ⟨wr.heap.size, 0, none⟩ = some (.int .i64 kd) := by rw [cells_cell HB5.out]; rfl
        have l1 : (w5).cell? ⟨wr.heap.size, 1, none⟩ = some (.string ⟨s.toArray⟩) := by rw [cells_cell HB5.out]; rfl
        have l2 : (w5).cell? ⟨wr.heap.size, 2, none⟩ = some (.int .i64 n) := by rw [cells_cell HB5.out]; rfl
        have l3 : (w5).cell? ⟨wr.heap.size, 3, none⟩ = some (.string ⟨nm.toArray⟩) := by rw [cells_cell HB5.out]; rfl
        have l4 : (w5).cell? ⟨wr.heap.size, 4, none⟩ = some (.slice ia its.length ic) := by rw [cells_cell HB5.out]; rfl
        have l5 : (w5).cell? ⟨wr.heap.size, 5, none⟩ = some (.slice ka keep.length kc) := by rw [cells_cell HB5.out]; rfl
        clear d0 d1 d2 d3 d4 d5
        by_cases h3 : 0 ≤ kd ∧ kd ≤ 3
        · obtain ⟨h4, h5⟩ := h3
          have HZ := Lib.hid ((HL5).out.keep (m := k + 1) (by omega) (Upd.refl _ _) (F' := fun _ => False) (fun b hb => hb.elim))
          go_wp2_with fail
          go_roundw
          case rel => exact ⟨k + 1, by omega, by go_num, HZ.out⟩
          case measure => simp only [intOf]; omega
        · -- the kinds but 0..3: wr.heap.size the place of the box
          by_cases e4 : kd = 4
          · subst e4
            have Hd := Lib.hid (mlose_t HL5.out HK.out.2.1)
            go_wp2_with fail
            (with_reducible refine (Hd.out).mono ?_)
            rintro _ w6 ⟨rfl, m6, h6⟩
            have H6 := Lib.hid h6
            have HB6 := m6.keep HB5.out (fun e => e.1 rfl)
            clear Hd h6 m6 l0 l1 l2 l3 l4 l5
            have l0 : (w6).cell? ⟨wr.heap.size, 0, none⟩ = some (.int .i64 4) := by rw [cells_cell HB6]; rfl
            have l1 : (w6).cell? ⟨wr.heap.size, 1, none⟩ = some (.string ⟨s.toArray⟩) := by rw [cells_cell HB6]; rfl
            have l2 : (w6).cell? ⟨wr.heap.size, 2, none⟩ = some (.int .i64 n) := by rw [cells_cell HB6]; rfl
            have l3 : (w6).cell? ⟨wr.heap.size, 3, none⟩ = some (.string ⟨nm.toArray⟩) := by rw [cells_cell HB6]; rfl
            have l4 : (w6).cell? ⟨wr.heap.size, 4, none⟩ = some (.slice ia its.length ic) := by rw [cells_cell HB6]; rfl
            have l5 : (w6).cell? ⟨wr.heap.size, 5, none⟩ = some (.slice ka keep.length kc) := by rw [cells_cell HB6]; rfl
            clear HB6
            go_wp2_with fail
            (with_reducible refine (H6.out).mono ?_)
            rintro _ w7 ⟨rfl, ls7, m7⟩
            have HL7 := Lib.hid ls7
            clear H6 ls7 m7 l0 l1 l2 l3 l4 l5
            have HZ := Lib.hid ((HL7).out.keep (m := k + 1) (by omega) (Upd.refl _ _) (F' := fun _ => False) (fun b hb => hb.elim))
            go_wp2_with fail
            go_roundw
            case rel => exact ⟨k + 1, by omega, by go_num, HZ.out⟩
            case measure => simp only [intOf]; omega
          by_cases e5 : kd = 5
          · subst e5
            have Hd := Lib.hid (marm_t HL5.out g1.g HK.out.2.1 (lo := 0) U1.out.size (.slice ka keep.length kc) keep HK.out.2.2 HQ3.out (by have := HB.out.2.2.2; omega))
            go_wp2_with fail
            (with_reducible refine (Hd.out).mono ?_)
            rintro _ w6 ⟨rfl, m6, h6⟩
            have H6 := Lib.hid h6
            have HB6 := m6.keep HB5.out (fun e => e.1 rfl)
            clear Hd h6 m6 l0 l1 l2 l3 l4 l5
            have l0 : (w6).cell? ⟨wr.heap.size, 0, none⟩ = some (.int .i64 5) := by rw [cells_cell HB6]; rfl
            have l1 : (w6).cell? ⟨wr.heap.size, 1, none⟩ = some (.string ⟨s.toArray⟩) := by rw [cells_cell HB6]; rfl
            have l2 : (w6).cell? ⟨wr.heap.size, 2, none⟩ = some (.int .i64 n) := by rw [cells_cell HB6]; rfl
            have l3 : (w6).cell? ⟨wr.heap.size, 3, none⟩ = some (.string ⟨nm.toArray⟩) := by rw [cells_cell HB6]; rfl
            have l4 : (w6).cell? ⟨wr.heap.size, 4, none⟩ = some (.slice ia its.length ic) := by rw [cells_cell HB6]; rfl
            have l5 : (w6).cell? ⟨wr.heap.size, 5, none⟩ = some (.slice ka keep.length kc) := by rw [cells_cell HB6]; rfl
            clear HB6
            go_wp2_with fail
            (with_reducible refine (H6.out).mono ?_)
            rintro _ w7 ⟨rfl, ls7, m7⟩
            have HL7 := Lib.hid ls7
            clear H6 ls7 m7 l0 l1 l2 l3 l4 l5
            have HZ := Lib.hid ((HL7).out.keep (m := k + 1) (by omega) (Upd.refl _ _) (F' := fun _ => False) (fun b hb => hb.elim))
            go_wp2_with fail
            go_roundw
            case rel => exact ⟨k + 1, by omega, by go_num, HZ.out⟩
            case measure => simp only [intOf]; omega
          by_cases e6 : kd = 6
          · subst e6
            have Hd := Lib.hid (mcrash_t HL5.out.done g1.g (lo := 0) U1.out.size (.slice ka keep.length kc) keep HK.out.2.2 (HQ3.out w1 (Upd.refl _ _)))
            go_wp2_with fail
            (with_reducible refine (Hd.out).mono ?_)
            rintro _ w6 ⟨rfl, m6, h6⟩
            have H6 := Lib.hid h6
            have HB6 := m6.keep HB5.out (fun e => e.1 rfl)
            clear Hd h6 m6 l0 l1 l2 l3 l4 l5
            have l0 : (w6).cell? ⟨wr.heap.size, 0, none⟩ = some (.int .i64 6) := by rw [cells_cell HB6]; rfl
            have l1 : (w6).cell? ⟨wr.heap.size, 1, none⟩ = some (.string ⟨s.toArray⟩) := by rw [cells_cell HB6]; rfl
            have l2 : (w6).cell? ⟨wr.heap.size, 2, none⟩ = some (.int .i64 n) := by rw [cells_cell HB6]; rfl
            have l3 : (w6).cell? ⟨wr.heap.size, 3, none⟩ = some (.string ⟨nm.toArray⟩) := by rw [cells_cell HB6]; rfl
            have l4 : (w6).cell? ⟨wr.heap.size, 4, none⟩ = some (.slice ia its.length ic) := by rw [cells_cell HB6]; rfl
            have l5 : (w6).cell? ⟨wr.heap.size, 5, none⟩ = some (.slice ka keep.length kc) := by rw [cells_cell HB6]; rfl
            clear HB6
            go_wp2_with fail
            (with_reducible refine (H6.out).mono ?_)
            rintro _ w7x ⟨rfl, t7, m7⟩
            clear H6 m7 l0 l1 l2 l3 l4 l5
            have Hs := Lib.hid (mstart_t t7)
            go_wp2_with fail
            (with_reducible refine (Hs.out).mono ?_)
            rintro _ w7 ⟨rfl, m7, h8⟩
            have H8 := Lib.hid h8
            clear m7 h8
            go_wp2_with fail
            (with_reducible refine (H8.out).mono ?_)
            rintro _ w8 ⟨rfl, t8, m8⟩
            have Ho := Lib.hid (mopen2_t t8 g1.g (by omega))
            clear H8 t8 m8
            go_wp2_with fail
            (with_reducible refine (Ho.out).mono ?_)
            rintro _ w9 ⟨pv9, e9, rfl, h9⟩
            have H9 := Lib.hid h9
            clear Ho h9
            go_wp2_with fail
            (with_reducible refine (H9.out).mono ?_)
            rintro _ w10 ⟨qv10, rfl, ls10, m10⟩
            have HL10 := Lib.hid ls10
            clear H9 ls10 m10
            have HZ := Lib.hid ((HL10).out.keep (m := k + 1) (by omega) (Upd.refl _ _) (F' := fun _ => False) (fun b hb => hb.elim))
            go_wp2_with fail
            go_roundw
            case rel => exact ⟨k + 1, by omega, by go_num, HZ.out⟩
            case measure => simp only [intOf]; omega
          have b4 : (kd == 4) = false := beq_eq_false_iff_ne.2 e4
          have b5 : (kd == 5) = false := beq_eq_false_iff_ne.2 e5
          have b6 : (kd == 6) = false := beq_eq_false_iff_ne.2 e6
          rcases (by omega : kd < 0 ∨ (0 ≤ kd ∧ 3 < kd)) with h7 | ⟨h7, h8⟩
          · -- both are started and opened: HL5.out.done the word TX
            have Hs := Lib.hid (mstart_t HL5.out.done)
            go_wp2_with fail
            (with_reducible refine (Hs.out).mono ?_)
            rintro _ w7 ⟨rfl, m7, h8⟩
            have H8 := Lib.hid h8
            clear m7 h8
            go_wp2_with fail
            (with_reducible refine (H8.out).mono ?_)
            rintro _ w8 ⟨rfl, t8, m8⟩
            have Ho := Lib.hid (mopen2_t t8 g1.g (by omega))
            clear H8 t8 m8
            go_wp2_with fail
            (with_reducible refine (Ho.out).mono ?_)
            rintro _ w9 ⟨pv9, e9, rfl, h9⟩
            have H9 := Lib.hid h9
            clear Ho h9
            go_wp2_with fail
            (with_reducible refine (H9.out).mono ?_)
            rintro _ w10 ⟨qv10, rfl, ls10, m10⟩
            have HL10 := Lib.hid ls10
            clear H9 ls10 m10
            have HZ := Lib.hid ((HL10).out.keep (m := k + 1) (by omega) (Upd.refl _ _) (F' := fun _ => False) (fun b hb => hb.elim))
            go_wp2_with fail
            go_roundw
            case rel => exact ⟨k + 1, by omega, by go_num, HZ.out⟩
            case measure => simp only [intOf]; omega
          · -- both are started and opened: HL5.out.done the word TX
            have Hs := Lib.hid (mstart_t HL5.out.done)
            go_wp2_with fail
            (with_reducible refine (Hs.out).mono ?_)
            rintro _ w7 ⟨rfl, m7, h8⟩
            have H8 := Lib.hid h8
            clear m7 h8
            go_wp2_with fail
            (with_reducible refine (H8.out).mono ?_)
            rintro _ w8 ⟨rfl, t8, m8⟩
            have Ho := Lib.hid (mopen2_t t8 g1.g (by omega))
            clear H8 t8 m8
            go_wp2_with fail
            (with_reducible refine (Ho.out).mono ?_)
            rintro _ w9 ⟨pv9, e9, rfl, h9⟩
            have H9 := Lib.hid h9
            clear Ho h9
            go_wp2_with fail
            (with_reducible refine (H9.out).mono ?_)
            rintro _ w10 ⟨qv10, rfl, ls10, m10⟩
            have HL10 := Lib.hid ls10
            clear H9 ls10 m10
            have HZ := Lib.hid ((HL10).out.keep (m := k + 1) (by omega) (Upd.refl _ _) (F' := fun _ => False) (fun b hb => hb.elim))
            go_wp2_with fail
            go_roundw
            case rel => exact ⟨k + 1, by omega, by go_num, HZ.out⟩
            case measure => simp only [intOf]; omega
      · obtain rfl : k = C.length := by omega
        obtain ⟨DD, ht, _⟩ := (HI).out.done
        have Hc := Lib.hid (tsize_t ht (f := 5) (I64_s (by decide)))
        have He := Lib.hid (rsize_t ht 5)
        have hI := Lib.hid (tsize_i64 ht 5)
        clear ht
        go_wp2_with fail
        (with_reducible refine (Hc.out).mono ?_)
        rintro _ _ ⟨rfl, rfl⟩
        go_wp2_with fail
        (with_reducible refine (He.out).mono ?_)
        rintro _ w7 ⟨rfl, t7⟩
        have Ha := Lib.hid (tstart_t t7)
        clear He Hc t7
        go_wp2_with fail
        (with_reducible refine (Ha.out).mono ?_)
        rintro _ w8 ⟨rfl, t8, _⟩
        have Hb := Lib.hid (rstart_t t8)
        clear Ha t8
        go_wp2_with fail
        (with_reducible refine (Hb.out).mono ?_)
        rintro _ w9 ⟨rfl, t9, _⟩
        have Hd := Lib.hid (tread_t t9 (f := 5) (i := 0) (I64_s (by decide)) (I64_s (by decide)) hI.out)
        have Hf := Lib.hid (rread_t t9 (f := 5) (i := 0) (I64_s (by decide)) (I64_s (by decide)) hI.out)
        clear Hb t9
        go_wp2_with fail
        (with_reducible refine (Hd.out).mono ?_)
        rintro _ _ ⟨rfl, rfl⟩
        go_wp2_with fail
        (with_reducible refine (Hf.out).mono ?_)
        rintro _ w10 ⟨rfl, t10⟩
        have hfin := Lib.hid (U1.out.trans t10.nw0)
        clear Hf Hd t10
        generalize (Dk.read (Dk.start DD) 5 0 (Dk.size DD 5)).1 = X at *
        have hx : (X == X) = true := beq_self_eq_true X
        go_wp2_with fail
        go_ret
        exact ⟨rfl, hfin.out⟩
    · have H1 := Lib.hid h1
      have H2 := Lib.hid h2
      clear h1 h2
      obtain ⟨p0, p1, p2, p3⟩ := H1.out.rs.st.cells
      have hsame := same_c (H1.out.rs.ts.gl g1.g) H1.out.st H1.out.rs.st.sv
      unfold SvR.val at hsame
      have HS := Lib.hid hsame
      clear hsame
      go_wp2_with fail
      (with_reducible refine (HS.out).mono ?_)
      rintro _ w3 ⟨rfl, u3⟩
      have HI3 := Lib.hid (HI.out.keep (Nat.le_refl k) u3 (F' := fun _ => False) (fun b hb => hb.elim))
      have H3 := Lib.hid (H1.out.nw u3)
      clear HS u3 p0 p1 p2 p3 H1 HI
      by_cases hlt : k < C.length
      · -- the operation's box: w3 the world, HI3 (hidden) the word LS there
        have uw := U1.out.trans (HI3).out.nw0
        have hA2 := HA.out.nw uw
        obtain ⟨a', cap', ev, _, hcells⟩ := gop_cells hA2
        simp only [Value.slice.injEq, true_and] at ev
        obtain ⟨rfl, rfl⟩ := ev
        rcases hcells with h | ⟨cb, co, rfl, hcb1, hcb2, hcl⟩
        · omega
        obtain ⟨d0, d1, d2, d3, d4, d5⟩ := hcl k hlt
        obtain ⟨q1, q2, q3, q4, q5, q6⟩ := HA.out.each _ (List.getElem_mem hlt)
        have hfe := fewSB_tells hF.out hlt
        clear hcl hA2 uw
        generalize C[k] = c at *
        obtain ⟨⟨iv, kv⟩, ⟨kd, s, n, ⟨nm, its⟩, keep⟩⟩ := c
        dsimp only at *
        obtain ⟨ia, ic, rfl, _, _⟩ := items_open q1
        obtain ⟨ka, kc, rfl, _, _⟩ := q3.open_
        rw [List.length_map] at *
        rw [show fewOp ((.slice ia its.length ic, .slice ka keep.length kc), ⟨kd, s, n, ⟨nm, its⟩, keep⟩) = (decide (s.length ≤ 300) && (decide (its.length ≤ 6) && (decide (keep.length ≤ 40) && (decide (nm.length ≤ 60) && its.all fun x => decide (x.nm.length ≤ 60))))) from rfl] at hfe
        simp only [Bool.and_eq_true, decide_eq_true_eq, List.all_eq_true] at hfe
        obtain ⟨f1, f2, f3, f4, f5⟩ := hfe
        have n5 := nw_alloc w3 (.cells #[.int .i64 kd, .string ⟨s.toArray⟩, .int .i64 n, .string ⟨nm.toArray⟩, (.slice ia its.length ic), (.slice ka keep.length kc)] tOpST)
        have b5 := heap_new w3 (.cells #[.int .i64 kd, .string ⟨s.toArray⟩, .int .i64 n, .string ⟨nm.toArray⟩, (.slice ia its.length ic), (.slice ka keep.length kc)] tOpST)
        obtain ⟨w5, hw5⟩ : ∃ y, y = (w3).alloc (.cells #[.int .i64 kd, .string ⟨s.toArray⟩, .int .i64 n, .string ⟨nm.toArray⟩, (.slice ia its.length ic), (.slice ka keep.length kc)] tOpST) := ⟨_, rfl⟩
        rw [← hw5] at n5 b5
        have HX := Lib.hid (fun x hx => (⟨by have := (f5 x hx); omega, (q2 x hx).2.1, (q2 x hx).2.2.1, (q2 x hx).2.2.2.1, (q2 x hx).2.2.2.2⟩ : ItArg x))
        have HLn := Lib.hid (pfE_few (p := ⟨nm, its⟩) f2 f4 HX.out f5)
        have HB := Lib.hid (And.intro f1 (And.intro f2 (And.intro f4 f3)))
        have HB5 := Lib.hid b5
        have HN5 := Lib.hid n5
        have HQ1 := Lib.hid (fun (z : World) (u : Nw w1 z) => q1.nw (U1.out.trans u))
        have HQ3 := Lib.hid (fun (z : World) (u : Nw w1 z) => q3.nw (U1.out.trans u))
        have HW5 := Lib.hid hw5
        have HK := Lib.hid (And.intro q4 (And.intro q5 q6))
        have HL5 := Lib.hid ((HI3).out.keep (Nat.le_refl k) n5 (F' := fun b => b = (w3).heap.size) (fun b hb => Or.inr (by rw [hb, hw5]; simp)))
        clear n5 b5 q1 q2 q3 q4 q5 q6 hw5 f1 f2 f3 f4 f5 hcb1 hcb2
        have H5 := Lib.hid (H3.out.keep HN5.out (F' := fun b => b = w3.heap.size) (fun b hb => Or.inr (by rw [hb, HW5.out]; simp)))
        go_upto_region 24 with fail
        rw [← HW5.out]
        have l0 : (w5).cell? ⟨w3.heap.size, 0, none⟩ = some (.int .i64 kd) := by rw [cells_cell HB5.out]; rfl
        have l1 : (w5).cell? ⟨w3.heap.size, 1, none⟩ = some (.string ⟨s.toArray⟩) := by rw [cells_cell HB5.out]; rfl
        have l2 : (w5).cell? ⟨w3.heap.size, 2, none⟩ = some (.int .i64 n) := by rw [cells_cell HB5.out]; rfl
        have l3 : (w5).cell? ⟨w3.heap.size, 3, none⟩ = some (.string ⟨nm.toArray⟩) := by rw [cells_cell HB5.out]; rfl
        have l4 : (w5).cell? ⟨w3.heap.size, 4, none⟩ = some (.slice ia its.length ic) := by rw [cells_cell HB5.out]; rfl
        have l5 : (w5).cell? ⟨w3.heap.size, 5, none⟩ = some (.slice ka keep.length kc) := by rw [cells_cell HB5.out]; rfl
        clear d0 d1 d2 d3 d4 d5
        by_cases h3 : 0 ≤ kd ∧ kd ≤ 3
        · obtain ⟨h4, h5⟩ := h3
          have Hd := Lib.hid (mdo_t g1 H5.out H2.out (by omega) HK.out.1 (b := n) (s := s) (by have := HB.out.1; omega) (p := ⟨nm, its⟩) (kv := .slice ka keep.length kc) (lo := 0) U1.out.size HQ1.out HLn.out (by have := HB.out.2.2.1; dsimp only; omega) (by have := HB.out.2.1; dsimp only; omega) HX.out)
          go_wp2_with fail
          (with_reducible refine (Hd.out).mono ?_)
          rintro _ w6 ⟨r6, t6, rfl, m6, h6⟩
          have H6 := Lib.hid h6
          have HB6 := m6.keep HB5.out (fun e => e.1 rfl)
          clear Hd h6 m6 l0 l1 l2 l3 l4 l5
          have l0 : (w6).cell? ⟨w3.heap.size, 0, none⟩ = some (.int .i64 kd) := by rw [cells_cell HB6]; rfl
          have l1 : (w6).cell? ⟨w3.heap.size, 1, none⟩ = some (.string ⟨s.toArray⟩) := by rw [cells_cell HB6]; rfl
          have l2 : (w6).cell? ⟨w3.heap.size, 2, none⟩ = some (.int .i64 n) := by rw [cells_cell HB6]; rfl
          have l3 : (w6).cell? ⟨w3.heap.size, 3, none⟩ = some (.string ⟨nm.toArray⟩) := by rw [cells_cell HB6]; rfl
          have l4 : (w6).cell? ⟨w3.heap.size, 4, none⟩ = some (.slice ia its.length ic) := by rw [cells_cell HB6]; rfl
          have l5 : (w6).cell? ⟨w3.heap.size, 5, none⟩ = some (.slice ka keep.length kc) := by rw [cells_cell HB6]; rfl
          clear HB6
          go_wp2_with fail
          (with_reducible refine (H6.out).mono ?_)
          rintro _ w7 ⟨rfl, ls7, m7⟩
          have HL7 := Lib.hid ls7
          have x1 : (r6 == r6) = true := beq_self_eq_true r6
          have x2 : (t6 == t6) = true := beq_self_eq_true t6
          clear H6 ls7 m7 l0 l1 l2 l3 l4 l5
          have HZ := Lib.hid (HL7.out.keep (m := k + 1) (by omega) (Upd.refl _ _) (F' := fun _ => False) (fun b hb => hb.elim))
          go_wp2_with fail
          go_roundw
          case rel => exact ⟨k + 1, by omega, by go_num, HZ.out⟩
          case measure => simp only [intOf]; omega
        · -- the kinds but 0..3: w3.heap.size the place of the box
          by_cases e4 : kd = 4
          · subst e4
            have Hd := Lib.hid (mlose_t HL5.out HK.out.2.1)
            go_wp2_with fail
            (with_reducible refine (Hd.out).mono ?_)
            rintro _ w6 ⟨rfl, m6, h6⟩
            have H6 := Lib.hid h6
            have HB6 := m6.keep HB5.out (fun e => e.1 rfl)
            clear Hd h6 m6 l0 l1 l2 l3 l4 l5
            have l0 : (w6).cell? ⟨w3.heap.size, 0, none⟩ = some (.int .i64 4) := by rw [cells_cell HB6]; rfl
            have l1 : (w6).cell? ⟨w3.heap.size, 1, none⟩ = some (.string ⟨s.toArray⟩) := by rw [cells_cell HB6]; rfl
            have l2 : (w6).cell? ⟨w3.heap.size, 2, none⟩ = some (.int .i64 n) := by rw [cells_cell HB6]; rfl
            have l3 : (w6).cell? ⟨w3.heap.size, 3, none⟩ = some (.string ⟨nm.toArray⟩) := by rw [cells_cell HB6]; rfl
            have l4 : (w6).cell? ⟨w3.heap.size, 4, none⟩ = some (.slice ia its.length ic) := by rw [cells_cell HB6]; rfl
            have l5 : (w6).cell? ⟨w3.heap.size, 5, none⟩ = some (.slice ka keep.length kc) := by rw [cells_cell HB6]; rfl
            clear HB6
            go_wp2_with fail
            (with_reducible refine (H6.out).mono ?_)
            rintro _ w7 ⟨rfl, ls7, m7⟩
            have HL7 := Lib.hid ls7
            clear H6 ls7 m7 l0 l1 l2 l3 l4 l5
            have HZ := Lib.hid ((HL7).out.keep (m := k + 1) (by omega) (Upd.refl _ _) (F' := fun _ => False) (fun b hb => hb.elim))
            go_wp2_with fail
            go_roundw
            case rel => exact ⟨k + 1, by omega, by go_num, HZ.out⟩
            case measure => simp only [intOf]; omega
          by_cases e5 : kd = 5
          · subst e5
            have Hd := Lib.hid (marm_t HL5.out g1.g HK.out.2.1 (lo := 0) U1.out.size (.slice ka keep.length kc) keep HK.out.2.2 HQ3.out (by have := HB.out.2.2.2; omega))
            go_wp2_with fail
            (with_reducible refine (Hd.out).mono ?_)
            rintro _ w6 ⟨rfl, m6, h6⟩
            have H6 := Lib.hid h6
            have HB6 := m6.keep HB5.out (fun e => e.1 rfl)
            clear Hd h6 m6 l0 l1 l2 l3 l4 l5
            have l0 : (w6).cell? ⟨w3.heap.size, 0, none⟩ = some (.int .i64 5) := by rw [cells_cell HB6]; rfl
            have l1 : (w6).cell? ⟨w3.heap.size, 1, none⟩ = some (.string ⟨s.toArray⟩) := by rw [cells_cell HB6]; rfl
            have l2 : (w6).cell? ⟨w3.heap.size, 2, none⟩ = some (.int .i64 n) := by rw [cells_cell HB6]; rfl
            have l3 : (w6).cell? ⟨w3.heap.size, 3, none⟩ = some (.string ⟨nm.toArray⟩) := by rw [cells_cell HB6]; rfl
            have l4 : (w6).cell? ⟨w3.heap.size, 4, none⟩ = some (.slice ia its.length ic) := by rw [cells_cell HB6]; rfl
            have l5 : (w6).cell? ⟨w3.heap.size, 5, none⟩ = some (.slice ka keep.length kc) := by rw [cells_cell HB6]; rfl
            clear HB6
            go_wp2_with fail
            (with_reducible refine (H6.out).mono ?_)
            rintro _ w7 ⟨rfl, ls7, m7⟩
            have HL7 := Lib.hid ls7
            clear H6 ls7 m7 l0 l1 l2 l3 l4 l5
            have HZ := Lib.hid ((HL7).out.keep (m := k + 1) (by omega) (Upd.refl _ _) (F' := fun _ => False) (fun b hb => hb.elim))
            go_wp2_with fail
            go_roundw
            case rel => exact ⟨k + 1, by omega, by go_num, HZ.out⟩
            case measure => simp only [intOf]; omega
          by_cases e6 : kd = 6
          · subst e6
            have Hd := Lib.hid (mcrash_t HL5.out.done g1.g (lo := 0) U1.out.size (.slice ka keep.length kc) keep HK.out.2.2 (HQ3.out w1 (Upd.refl _ _)))
            go_wp2_with fail
            (with_reducible refine (Hd.out).mono ?_)
            rintro _ w6 ⟨rfl, m6, h6⟩
            have H6 := Lib.hid h6
            have HB6 := m6.keep HB5.out (fun e => e.1 rfl)
            clear Hd h6 m6 l0 l1 l2 l3 l4 l5
            have l0 : (w6).cell? ⟨w3.heap.size, 0, none⟩ = some (.int .i64 6) := by rw [cells_cell HB6]; rfl
            have l1 : (w6).cell? ⟨w3.heap.size, 1, none⟩ = some (.string ⟨s.toArray⟩) := by rw [cells_cell HB6]; rfl
            have l2 : (w6).cell? ⟨w3.heap.size, 2, none⟩ = some (.int .i64 n) := by rw [cells_cell HB6]; rfl
            have l3 : (w6).cell? ⟨w3.heap.size, 3, none⟩ = some (.string ⟨nm.toArray⟩) := by rw [cells_cell HB6]; rfl
            have l4 : (w6).cell? ⟨w3.heap.size, 4, none⟩ = some (.slice ia its.length ic) := by rw [cells_cell HB6]; rfl
            have l5 : (w6).cell? ⟨w3.heap.size, 5, none⟩ = some (.slice ka keep.length kc) := by rw [cells_cell HB6]; rfl
            clear HB6
            go_wp2_with fail
            (with_reducible refine (H6.out).mono ?_)
            rintro _ w7x ⟨rfl, t7, m7⟩
            clear H6 m7 l0 l1 l2 l3 l4 l5
            have Hs := Lib.hid (mstart_t t7)
            go_wp2_with fail
            (with_reducible refine (Hs.out).mono ?_)
            rintro _ w7 ⟨rfl, m7, h8⟩
            have H8 := Lib.hid h8
            clear m7 h8
            go_wp2_with fail
            (with_reducible refine (H8.out).mono ?_)
            rintro _ w8 ⟨rfl, t8, m8⟩
            have Ho := Lib.hid (mopen2_t t8 g1.g (by omega))
            clear H8 t8 m8
            go_wp2_with fail
            (with_reducible refine (Ho.out).mono ?_)
            rintro _ w9 ⟨pv9, e9, rfl, h9⟩
            have H9 := Lib.hid h9
            clear Ho h9
            go_wp2_with fail
            (with_reducible refine (H9.out).mono ?_)
            rintro _ w10 ⟨qv10, rfl, ls10, m10⟩
            have HL10 := Lib.hid ls10
            clear H9 ls10 m10
            have HZ := Lib.hid ((HL10).out.keep (m := k + 1) (by omega) (Upd.refl _ _) (F' := fun _ => False) (fun b hb => hb.elim))
            go_wp2_with fail
            go_roundw
            case rel => exact ⟨k + 1, by omega, by go_num, HZ.out⟩
            case measure => simp only [intOf]; omega
          have b4 : (kd == 4) = false := beq_eq_false_iff_ne.2 e4
          have b5 : (kd == 5) = false := beq_eq_false_iff_ne.2 e5
          have b6 : (kd == 6) = false := beq_eq_false_iff_ne.2 e6
          rcases (by omega : kd < 0 ∨ (0 ≤ kd ∧ 3 < kd)) with h7 | ⟨h7, h8⟩
          · -- both are started and opened: HL5.out.done the word TX
            have Hs := Lib.hid (mstart_t HL5.out.done)
            go_wp2_with fail
            (with_reducible refine (Hs.out).mono ?_)
            rintro _ w7 ⟨rfl, m7, h8⟩
            have H8 := Lib.hid h8
            clear m7 h8
            go_wp2_with fail
            (with_reducible refine (H8.out).mono ?_)
            rintro _ w8 ⟨rfl, t8, m8⟩
            have Ho := Lib.hid (mopen2_t t8 g1.g (by omega))
            clear H8 t8 m8
            go_wp2_with fail
            (with_reducible refine (Ho.out).mono ?_)
            rintro _ w9 ⟨pv9, e9, rfl, h9⟩
            have H9 := Lib.hid h9
            clear Ho h9
            go_wp2_with fail
            (with_reducible refine (H9.out).mono ?_)
            rintro _ w10 ⟨qv10, rfl, ls10, m10⟩
            have HL10 := Lib.hid ls10
            clear H9 ls10 m10
            have HZ := Lib.hid ((HL10).out.keep (m := k + 1) (by omega) (Upd.refl _ _) (F' := fun _ => False) (fun b hb => hb.elim))
            go_wp2_with fail
            go_roundw
            case rel => exact ⟨k + 1, by omega, by go_num, HZ.out⟩
            case measure => simp only [intOf]; omega
          · -- both are started and opened: HL5.out.done the word TX
            have Hs := Lib.hid (mstart_t HL5.out.done)
            go_wp2_with fail
            (with_reducible refine (Hs.out).mono ?_)
            rintro _ w7 ⟨rfl, m7, h8⟩
            have H8 := Lib.hid h8
            clear m7 h8
            go_wp2_with fail
            (with_reducible refine (H8.out).mono ?_)
            rintro _ w8 ⟨rfl, t8, m8⟩
            have Ho := Lib.hid (mopen2_t t8 g1.g (by omega))
            clear H8 t8 m8
            go_wp2_with fail
            (with_reducible refine (Ho.out).mono ?_)
            rintro _ w9 ⟨pv9, e9, rfl, h9⟩
            have H9 := Lib.hid h9
            clear Ho h9
            go_wp2_with fail
            (with_reducible refine (H9.out).mono ?_)
            rintro _ w10 ⟨qv10, rfl, ls10, m10⟩
            have HL10 := Lib.hid ls10
            clear H9 ls10 m10
            have HZ := Lib.hid ((HL10).out.keep (m := k + 1) (by omega) (Upd.refl _ _) (F' := fun _ => False) (fun b hb => hb.elim))
            go_wp2_with fail
            go_roundw
            case rel => exact ⟨k + 1, by omega, by go_num, HZ.out⟩
            case measure => simp only [intOf]; omega
      · obtain rfl : k = C.length := by omega
        obtain ⟨DD, ht, _⟩ := (HI3).out.done
        have Hc := Lib.hid (tsize_t ht (f := 5) (I64_s (by decide)))
        have He := Lib.hid (rsize_t ht 5)
        have hI := Lib.hid (tsize_i64 ht 5)
        clear ht
        go_wp2_with fail
        (with_reducible refine (Hc.out).mono ?_)
        rintro _ _ ⟨rfl, rfl⟩
        go_wp2_with fail
        (with_reducible refine (He.out).mono ?_)
        rintro _ w7 ⟨rfl, t7⟩
        have Ha := Lib.hid (tstart_t t7)
        clear He Hc t7
        go_wp2_with fail
        (with_reducible refine (Ha.out).mono ?_)
        rintro _ w8 ⟨rfl, t8, _⟩
        have Hb := Lib.hid (rstart_t t8)
        clear Ha t8
        go_wp2_with fail
        (with_reducible refine (Hb.out).mono ?_)
        rintro _ w9 ⟨rfl, t9, _⟩
        have Hd := Lib.hid (tread_t t9 (f := 5) (i := 0) (I64_s (by decide)) (I64_s (by decide)) hI.out)
        have Hf := Lib.hid (rread_t t9 (f := 5) (i := 0) (I64_s (by decide)) (I64_s (by decide)) hI.out)
        clear Hb t9
        go_wp2_with fail
        (with_reducible refine (Hd.out).mono ?_)
        rintro _ _ ⟨rfl, rfl⟩
        go_wp2_with fail
        (with_reducible refine (Hf.out).mono ?_)
        rintro _ w10 ⟨rfl, t10⟩
        have hfin := Lib.hid (U1.out.trans t10.nw0)
        clear Hf Hd t10
        generalize (Dk.read (Dk.start DD) 5 0 (Dk.size DD 5)).1 = X at *
        have hx : (X == X) = true := beq_self_eq_true X
        go_wp2_with fail
        go_ret
        exact ⟨rfl, hfin.out⟩
end Go.Proofs.YtiednpagknnfnaaGreatDoor
