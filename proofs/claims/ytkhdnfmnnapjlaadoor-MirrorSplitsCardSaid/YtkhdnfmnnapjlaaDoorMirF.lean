/- The contract of the mirror's find. -/
import Derived.Test.YtkhdnfmnnapjlaaDoorMirB
import Derived.WalkMore
namespace Go.Proofs.YtkhdnfmnnapjlaaDoor
open Go.RowKit
set_option linter.unusedVariables false
set_option linter.unusedSimpArgs false
attribute [local irreducible] Calls

section
variable {B : Nat} {w : World} {x : MirR} {m : Mi.Mir}
set_option maxHeartbeats 1000000 in
set_option maxRecDepth 100000 in
theorem find_entry (h : MirAt B w x m) (g : Gl w) (q : Mi.Ques) (hq : QOk q) (h0 : q.kind = 1) :
    Calls Tryd.prog 41 #[.pointer (some ⟨x.mb, 0, none⟩), qV q] w (FindTo w (Mi.find m q)) := by
  have hgb := g.big
  have n1 := nw_alloc w (qObj q)
  have k1 := heap_new w (qObj q)
  obtain ⟨w1, hw1⟩ : ∃ w1, w.alloc (qObj q) = w1 := ⟨_, rfl⟩
  have HW1 : Hid (w.alloc (.cells #[.int .i64 q.kind, .int .i64 q.n, .string ⟨q.text.toArray⟩] tQue) = w1) := hw1
  rw [hw1] at n1 k1
  clear hw1
  have h1 := h.nw n1
  obtain ⟨c0, c1, c2, c3, -⟩ := h1.cells
  obtain ⟨q0, q1, q2⟩ := cell3 k1
  have K1 := Lib.hid k1
  have N1 := Lib.hid n1
  have H1 := Lib.hid h1
  clear k1 n1 h1
  obtain ⟨aH, cH, eH⟩ := own_slG (H1.out.sown 0 (by decide))
  have hs := SgnSl.of_own (H1.out.sown 0 (by decide))
  rw [eH] at hs c1
  have ht := hs.told m.mode
  obtain ⟨_, _, ev, hs1, hs2, hs3, -⟩ := hs
  simp only [Value.slice.injEq, true_and] at ev
  obtain ⟨rfl, rfl⟩ := ev
  have htw := fun (z : World) (u : Nw w1 z) => toldS_w x.mb m.mode aH _ _ _ (told_length m.mode (m.l 0)) z (later_cell ⟨z, u⟩ c0) hs1 hs2 hs3
  have Htw := Lib.hid (fun i : Later w1 => htw i.1 i.nw)
  have Ht := Lib.hid ht
  have hf : Hid (Mi.find m q = Mi.atL (Mi.told m.mode (m.l 0)) q.n) := by show _ = _; unfold Mi.find; rw [if_neg (by omega), if_pos h0]
  have G1 := Lib.hid (g.upd N1.out)
  have HQ := Lib.hid hq.n
  rw [h0] at q0
  have HW2 : Hid (w.alloc (.cells #[.int .i64 1, .int .i64 q.n, .string ⟨q.text.toArray⟩] tQue) = w1) := by rw [← h0]; exact HW1.out
  have l1 := fun i : Later w1 => later_cell i c1
  have l2 := fun i : Later w1 => later_cell i q1
  clear htw ht hs1 hs2 hs3 hq h
  generalize Mi.told m.mode (m.l 0) = T at *
  unfold qV
  rw [h0]
  clear h0 HW1
  go_enter Tryd.func41, Tryd.ntmps41
  go_upto_region 1 with fail
  rw [HW2.out]
  go_wp2_with fail
  refine wp_region_nw_tail 8 (by kernel_rfl) (by kernel_rfl) ?_
  simp only [List.take_succ_cons, List.take_zero, List.drop_succ_cons, List.drop_zero]
  repeat (go_big_quiet_step ((go_at_call 61; exact later_call (Htw.out _))))
  refine wpQuiet_nil ?_
  intro w2 u2
  replace u2 := later_out u2
  have hat := Lib.hid (at_w _ T w2 (G1.out.upd u2) (Ht.out.nw u2) q.n HQ.out)
  have U2 := Lib.hid (N1.out.trans u2)
  clear c0 u2
  go_wp2_with fail
  (with_reducible refine (hat.out).mono ?_)
  rintro _ w3 ⟨v3, rfl, o3, u3⟩
  have O3 := Lib.hid o3
  have U3 := Lib.hid u3
  clear o3 u3
  go_wp2_with fail
  go_ret
  rw [hf.out]
  exact FindTo.of O3.out U2.out U3.out
set_option maxHeartbeats 1000000 in
set_option maxRecDepth 100000 in
theorem find_other (h : MirAt B w x m) (g : Gl w) (q : Mi.Ques) (hq : QOk q) (h0 : q.kind ≠ 0) (h1 : q.kind ≠ 1) (h2 : q.kind ≠ 2) :
    Calls Tryd.prog 41 #[.pointer (some ⟨x.mb, 0, none⟩), qV q] w (FindTo w (Mi.find m q)) := by
  have hgb := g.big
  have n1 := nw_alloc w (qObj q)
  have k1 := heap_new w (qObj q)
  obtain ⟨w1, hw1⟩ : ∃ w1, w.alloc (qObj q) = w1 := ⟨_, rfl⟩
  have HW1 : Hid (w.alloc (.cells #[.int .i64 q.kind, .int .i64 q.n, .string ⟨q.text.toArray⟩] tQue) = w1) := hw1
  rw [hw1] at n1 k1
  clear hw1
  have h1 := h.nw n1
  obtain ⟨c0, c1, c2, c3, -⟩ := h1.cells
  obtain ⟨q0, q1, q2⟩ := cell3 k1
  have K1 := Lib.hid k1
  have N1 := Lib.hid n1
  have H1 := Lib.hid h1
  clear k1 n1 h1
  have hf : Hid (Mi.find m q = []) := by show _ = _; unfold Mi.find; rw [if_neg h0, if_neg h1, if_neg h2]
  have d0 : (q.kind == 0) = false := by simp [h0]
  have d1 : (q.kind == 1) = false := by simp [h1]
  have d2 : (q.kind == 2) = false := by simp [h2]
  clear h0 h1 h2 hq h c0 c1 c2 c3
  unfold qV
  go_enter Tryd.func41, Tryd.ntmps41
  go_upto_region 1 with fail
  rw [HW1.out]
  go_wp2_with fail
  go_ret
  exact ⟨_, rfl, by rw [hf.out]; exact ⟨rfl, Or.inl ⟨rfl, rfl⟩⟩, N1.out⟩
set_option maxHeartbeats 1000000 in
set_option maxRecDepth 100000 in
theorem find_absent (h : MirAt B w x m) (g : Gl w) (q : Mi.Ques) (hq : QOk q) (h0 : q.kind = 2) :
    Calls Tryd.prog 41 #[.pointer (some ⟨x.mb, 0, none⟩), qV q] w (FindTo w (Mi.find m q)) := by
  have hgb := g.big
  have n1 := nw_alloc w (qObj q)
  have k1 := heap_new w (qObj q)
  obtain ⟨w1, hw1⟩ : ∃ w1, w.alloc (qObj q) = w1 := ⟨_, rfl⟩
  have HW1 : Hid (w.alloc (.cells #[.int .i64 q.kind, .int .i64 q.n, .string ⟨q.text.toArray⟩] tQue) = w1) := hw1
  rw [hw1] at n1 k1
  clear hw1
  have h1 := h.nw n1
  obtain ⟨c0, c1, c2, c3, -⟩ := h1.cells
  obtain ⟨q0, q1, q2⟩ := cell3 k1
  have K1 := Lib.hid k1
  have N1 := Lib.hid n1
  have H1 := Lib.hid h1
  clear k1 n1 h1
  obtain ⟨aH, cH, eH⟩ := own_slG (H1.out.sown 2 (by decide))
  have hs := SgnSl.of_own (H1.out.sown 2 (by decide))
  rw [eH] at hs c3
  have ht := hs.told m.mode
  obtain ⟨_, _, ev, hs1, hs2, hs3, -⟩ := hs
  simp only [Value.slice.injEq, true_and] at ev
  obtain ⟨rfl, rfl⟩ := ev
  have htw := fun (z : World) (u : Nw w1 z) => toldS_w x.mb m.mode aH _ _ _ (told_length m.mode (m.l 2)) z (later_cell ⟨z, u⟩ c0) hs1 hs2 hs3
  have Htw := Lib.hid htw
  have Ht := Lib.hid ht
  have hle : (Mi.told m.mode (m.l 2)).length ≤ 1000000 := Nat.le_trans (Mi.told_len _ _) (H1.out.len.1 2 (by decide))
  have hle1 : ((Mi.told m.mode (m.l 2)).length : Int) ≤ 1000000 := by omega
  have hle0 : (0 : Int) ≤ ((Mi.told m.mode (m.l 2)).length : Int) := by omega
  have hoks : Hid (∀ s ∈ Mi.told m.mode (m.l 2), SmS s) := fun s hs => H1.out.oks 2 (by decide) s (Mi.told_mem hs)
  have hf : Hid (Mi.find m q = ((Mi.told m.mode (m.l 2)).reverse.find? (Mi.good q)).toList) := by show _ = _; unfold Mi.find; rw [if_neg (by omega), if_neg (by omega), if_pos h0]
  have G1 := Lib.hid (g.upd N1.out)
  have HQ := Lib.hid hq
  rw [h0] at q0
  have HW2 : Hid (w.alloc (.cells #[.int .i64 2, .int .i64 q.n, .string ⟨q.text.toArray⟩] tQue) = w1) := by rw [← h0]; exact HW1.out
  clear htw ht hs1 hs2 hs3 hq h hle c1 c2
  generalize Mi.told m.mode (m.l 2) = T at *
  unfold qV
  rw [h0]
  clear h0 HW1
  go_enter Tryd.func41, Tryd.ntmps41
  go_upto_region 1 with fail
  rw [HW2.out]
  go_wp2_with fail
  (with_reducible refine (Htw.out _ (Upd.refl _ _)).mono ?_)
  rintro _ w2 ⟨rfl, u2⟩
  have U2 := Lib.hid u2
  have hK0 : Hid ((∀ s ∈ T.drop T.length, Mi.good q s = false) ∧ Nw w1 w2) := ⟨fun s hs => by simp at hs, u2⟩
  clear u2 c0 c3 q0 q1 q2
  go_wp2_with fail
  go_loopw [7] (fun iv wr => ∃ k : Nat, k ≤ T.length ∧ iv = .int .i64 ((k : Int) - 1) ∧ Hid ((∀ s ∈ T.drop k, Mi.good q s = false) ∧ Nw w1 wr)) (fun iv _ => (intOf iv + 1).toNat)
  case atStart => exact ⟨T.length, Nat.le_refl _, rfl, hK0.out⟩
  case round =>
    obtain ⟨k, hk, rfl, HK⟩ := hrel
    cases k with
    | zero =>
      have hr : Hid (Mi.find m q = []) := by show _ = _; rw [hf.out, Mi.find_none (by have := HK.out.1; rw [List.drop_zero] at this; exact this)]; rfl
      have hd : decide ((0 : Int) ≤ ((0 : Nat) : Int) - 1) = false := by decide
      go_wp2_with fail
      go_ret
      exact ⟨_, rfl, by rw [hr.out]; exact ⟨rfl, Or.inl ⟨rfl, rfl⟩⟩, N1.out.trans HK.out.2⟩
    | succ i =>
      have hi : i < T.length := hk
      have hiI : (i : Int) < T.length := by omega
      have e1 : (((i + 1 : Nat) : Int) - 1) = (i : Int) := by omega
      rw [e1]
      obtain ⟨a', cap', ev, _, _, _, hc⟩ := Ht.out.nw HK.out.2
      simp only [Value.slice.injEq, true_and] at ev
      obtain ⟨rfl, rfl⟩ := ev
      rcases hc with hc | ⟨b, off, rfl, hc⟩
      · rw [hc] at hi; simp at hi
      obtain ⟨d0, d1, d2⟩ := hc i hi
      have hso := hoks.out _ (List.getElem_mem hi)
      have hgd : Hid (Mi.good q T[i] = true → Mi.find m q = Mi.atL T i) := fun e => by rw [hf.out, find_some hi e HK.out.1]
      have hbd : Hid (Mi.good q T[i] = false → ∀ s ∈ T.drop i, Mi.good q s = false) := fun e s hs => by
        rw [List.drop_eq_getElem_cons hi] at hs
        rcases List.mem_cons.1 hs with rfl | hs
        · exact e
        · exact HK.out.1 s hs
      have hrd := read_c ⟨T[i].text.toArray⟩ T[i].text (bs_list _) (Nat.le_trans hso.t (by decide)) wr (G1.out.upd HK.out.2)
      have hri := read_i64 T[i].text
      have hge : Hid (Mi.good q T[i] = ((Cl.read T[i].text).2 && decide ((Cl.read T[i].text).1.text = q.text) && decide (q.n ≤ (Cl.read T[i].text).1.n))) := by show _ = _; rfl
      have HNr := Lib.hid HK.out.2
      have Hat := Lib.hid (fun (z : World) (u : Nw wr z) => at_w _ T z (G1.out.upd (HK.out.2.trans u)) (Ht.out.nw (HK.out.2.trans u)) i (by unfold I64; omega))
      clear hc hso HK
      generalize Mi.good q T[i] = gd at *
      generalize Cl.read T[i].text = r1 at *
      obtain ⟨c1, o1⟩ := r1
      unfold clmV errV at hrd
      dsimp only at hrd hge hri
      have HR := Lib.hid hrd
      have HRI := Lib.hid hri
      clear hrd hri
      generalize T[i] = s at *
      go_wp2_with fail
      (with_reducible refine (HR.out).mono ?_)
      rintro _ w3 ⟨rfl, u3⟩
      have u4 := (HNr.out.trans u3).alloc (.cells #[.int .i64 c1.kind, .int .i64 c1.n, .int .i64 c1.time, .string ⟨c1.text.toArray⟩] tC)
      have uw := u3.alloc (.cells #[.int .i64 c1.kind, .int .i64 c1.n, .int .i64 c1.time, .string ⟨c1.text.toArray⟩] tC)
      have k4 := heap_new w3 (.cells #[.int .i64 c1.kind, .int .i64 c1.n, .int .i64 c1.time, .string ⟨c1.text.toArray⟩] tC)
      obtain ⟨_, _, _, _⟩ := cell4 k4
      obtain ⟨_, _, _⟩ := cell3 (Nw.keep u4 K1.out)
      have UW := Lib.hid uw
      have U4 := Lib.hid u4
      clear k4 u4 uw u3 HR
      cases o1 with
      | false =>
        have hz : Hid ((∀ s ∈ T.drop i, Mi.good q s = false) ∧ Nw w1 (w3.alloc (.cells #[.int .i64 c1.kind, .int .i64 c1.n, .int .i64 c1.time, .string ⟨c1.text.toArray⟩] tC))) := ⟨hbd.out (by rw [hge.out]; rfl), U4.out⟩
        clear hge hbd hgd
        go_wp2_with fail
        go_roundw
        case rel => exact ⟨i, by omega, by go_num, hz.out⟩
        case measure => simp [intOf] <;> omega
      | true =>
        by_cases ht : c1.text = q.text
        rotate_left
        · have hz : Hid ((∀ s ∈ T.drop i, Mi.good q s = false) ∧ Nw w1 (w3.alloc (.cells #[.int .i64 c1.kind, .int .i64 c1.n, .int .i64 c1.time, .string ⟨c1.text.toArray⟩] tC))) := ⟨hbd.out (by rw [hge.out]; simp [ht]), U4.out⟩
          have hb1 : (c1.text == q.text) = false := by simp [ht]
          clear hge hbd hgd ht
          go_wp2_with fail
          go_roundw
          case rel => exact ⟨i, by omega, by go_num, hz.out⟩
          case measure => simp [intOf] <;> omega
        have hb1 : (c1.text == q.text) = true := by simp [ht]
        by_cases hn : q.n ≤ c1.n
        rotate_left
        · have hz : Hid ((∀ s ∈ T.drop i, Mi.good q s = false) ∧ Nw w1 (w3.alloc (.cells #[.int .i64 c1.kind, .int .i64 c1.n, .int .i64 c1.time, .string ⟨c1.text.toArray⟩] tC))) := ⟨hbd.out (by rw [hge.out]; simp [hn]), U4.out⟩
          have hb2 : decide (q.n ≤ c1.n) = false := decide_eq_false hn
          clear hge hbd hgd ht hn
          go_wp2_with fail
          go_roundw
          case rel => exact ⟨i, by omega, by go_num, hz.out⟩
          case measure => simp [intOf] <;> omega
        · have hb2 : decide (q.n ≤ c1.n) = true := decide_eq_true hn
          have hr : Hid (Mi.find m q = Mi.atL T i) := by show _ = _; exact hgd.out (by rw [hge.out]; simp [ht, hn])
          clear hge hbd hgd ht hn
          go_wp2_with fail
          (with_reducible refine (Hat.out _ UW.out).mono ?_)
          rintro _ w5 ⟨v5, rfl, o5, u5⟩
          have O5 := Lib.hid o5
          have U5 := Lib.hid u5
          clear o5 u5
          go_wp2_with fail
          go_ret
          rw [hr.out]
          exact FindTo.of O5.out (N1.out.trans U4.out) U5.out
theorem find_w (h : MirAt B w x m) (g : Gl w) (q : Mi.Ques) (hq : QOk q) : Calls Tryd.prog 41 #[.pointer (some ⟨x.mb, 0, none⟩), qV q] w (FindTo w (Mi.find m q)) := by
  by_cases h0 : q.kind = 0
  · exact find_head h g q hq h0
  by_cases h1 : q.kind = 1
  · exact find_entry h g q hq h1
  by_cases h2 : q.kind = 2
  · exact find_absent h g q hq h2
  · exact find_other h g q hq h0 h1 h2
end
end Go.Proofs.YtkhdnfmnnapjlaaDoor
