/- The walk of the statement JournalTells. -/
import Derived.Test.YtiambnllidingaaGreatDoorRJn3
namespace Go.Proofs.YtiambnllidingaaGreatDoor
open Go.RowKit
set_option linter.unusedVariables false
set_option linter.unusedSimpArgs false
attribute [local irreducible] Calls

abbrev tOpJ : TypeId := 38
/-- Both sides, and the operation's box. -/
def TB (w : World) (db rb : Nat) (jp : Option (Nat × Jr.Jn)) (D : Dk.Disk) (kq : Option (Nat × Jr.Jn)) (E : Dk.Disk) (b0 : Nat) (c : Value × JOp) (z : World) : Prop :=
  TS w db jp D rb kq E (fun k => k = b0) z ∧ z.heap[b0]? = some (.cells (opL c).toArray tOpJ (0, 0))
section
variable {w : World} {db rb b0 : Nat} {jp jp' kq kq' : Option (Nat × Jr.Jn)} {D D' E E' : Dk.Disk} {c : Value × JOp} {z z' : World}
theorem TB.next (h : TB w db rb jp D kq E b0 c z) (t : TS w db jp' D' rb kq' E' (fun k => k = b0) z') (m : Moves w (fun k => k = b0) z z') : TB w db rb jp' D' kq' E' b0 c z' :=
  ⟨t, m.keep h.2 (fun e => e.1 rfl)⟩
theorem TB.of (h : TB w db rb jp D kq E b0 c z) {Q : Ending → Prop} {P : Program} {f : FuncId} {args : Array Value}
    (k : Calls P f args z fun e z' => Q e ∧ TS w db jp' D' rb kq' E' (fun k => k = b0) z' ∧ Moves w (fun k => k = b0) z z') : Calls P f args z fun e z' => Q e ∧ TB w db rb jp' D' kq' E' b0 c z' :=
  k.mono fun e z' ⟨q, t, m⟩ => ⟨q, h.next t m⟩
theorem TB.nw (h : TB w db rb jp D kq E b0 c z) (u : Nw z z') : TB w db rb jp D kq E b0 c z' := ⟨h.1.nw u, u.keep h.2⟩
theorem TB.cells (h : TB w db rb jp D kq E b0 c z) : z.cell? ⟨b0, 0, none⟩ = some (.int .i64 c.2.kind) ∧ z.cell? ⟨b0, 1, none⟩ = some (.string ⟨c.2.s.toArray⟩) ∧ z.cell? ⟨b0, 2, none⟩ = some (.int .i64 c.2.n) ∧ z.cell? ⟨b0, 3, none⟩ = some c.1 := by
  refine ⟨?_, ?_, ?_, ?_⟩ <;> (rw [cells_cell h.2]; rfl)
theorem TB.done (h : TB w db rb jp D kq E b0 c z) : TS w db jp D rb kq E (fun _ => False) z := h.1.keep (Upd.refl _ _) (fun k hk => hk.elim)
theorem TB.made (h : TS w db jp D rb kq E (fun _ => False) z) (c : Value × JOp) : TB w db rb jp D kq E z.heap.size c (z.alloc (.cells (opL c).toArray tOpJ)) :=
  ⟨h.keep (nw_alloc z _) (fun k hk => Or.inr (by subst hk; simp)), heap_new z _⟩
end
/-- While the operations are carried out: both sides are the same. -/
def TeI (w : World) (db rb : Nat) (jv ev kv fv : Value) (z : World) : Prop :=
  ∃ (jp kq : Option (Nat × Jr.Jn)) (D : Dk.Disk) (e : Int), jv = ptrJ jp ∧ kv = ptrJ kq ∧ jp.map (·.2) = kq.map (·.2) ∧ ev = .int .i64 e ∧ fv = .int .i64 e ∧ TS w db jp D rb kq D (fun _ => False) z
theorem TS.list3 {w : World} {db rb : Nat} {jp : Option (Nat × Jr.Jn)} {D E : Dk.Disk} {F : Nat → Prop} {z : World} {p : Nat × Jr.Jn} (h : TS w db jp D rb (some p) E F z) : ∃ a n c, z.cell? ⟨p.1, 2, none⟩ = some (.slice a n c) := by
  obtain ⟨v, h1, h2⟩ := h.list
  obtain ⟨a, c, rfl⟩ := own_slD h2
  exact ⟨_, _, _, h1⟩
theorem ptrJ_none : ptrJ none = .pointer none := rfl
theorem ptrJ_some (a : Nat) (j : Jr.Jn) : ptrJ (some (a, j)) = .pointer (some ⟨a, 0, none⟩) := rfl
theorem same_some {jp kq : Option (Nat × Jr.Jn)} (h : jp.map (·.2) = kq.map (·.2)) : (jp = none ∧ kq = none) ∨ ∃ a b j, jp = some (a, j) ∧ kq = some (b, j) := by
  cases jp with
  | none => cases kq with
    | none => exact Or.inl ⟨rfl, rfl⟩
    | some q => cases h
  | some p => cases kq with
    | none => cases h
    | some q => 
      obtain ⟨a, j⟩ := p
      obtain ⟨b, j2⟩ := q
      injection h with h
      dsimp only at h
      subst h
      exact Or.inr ⟨a, b, j, rfl, rfl⟩
set_option maxHeartbeats 4000000 in
set_option maxRecDepth 100000 in
theorem journalTells_c (v0 : Value) (C : List (Value × JOp)) (w : World) (g : Gl w) (h0 : OpS w.heap.size w v0 C) :
    Calls Tryz.prog 3 #[v0] w fun e w' => e = .returned (.bool true) ∧ Nw w w' := by
  have hs := Lib.hid (small_c w g)
  have hfew := Lib.hid (fun z (u : Nw w z) => few_j w.heap.size v0 C z (h0.nw u))
  obtain ⟨a0, c0, rfl, m0, _⟩ := op_cells h0
  unfold maxLen at m0
  have HA := Lib.hid h0
  clear h0 m0
  go_enter Tryz.func3, Tryz.ntmps3
  go_wp2_with fail
  (with_reducible refine (hs.out).mono ?_)
  rintro _ w1 ⟨rfl, u1⟩
  have U1 := Lib.hid u1
  have hfew2 := Lib.hid (hfew.out w1 u1)
  clear hs hfew u1
  go_wp2_with fail
  (with_reducible refine (hfew2.out).mono ?_)
  rintro _ _ ⟨rfl, rfl⟩
  cases hB : fewB C with
  | false =>
    clear hB
    go_wp2_with fail
    go_ret
    exact ⟨rfl, U1.out⟩
  | true =>
  have hF := Lib.hid (fewB_iff.1 hB)
  clear hB
  have g1 := g.upd U1.out
  have hn := Lib.hid (new_t w1 g1)
  clear hfew2
  go_wp2_with fail
  (with_reducible refine (hn.out).mono ?_)
  rintro _ w2 ⟨db, rfl, s2⟩
  have hrn := Lib.hid (new_rd w2 (s2.gl g1))
  have S2 := Lib.hid s2
  clear hn s2
  go_wp2_with fail
  (with_reducible refine (hrn.out).mono ?_)
  rintro _ w3 ⟨r, rfl, k3, u3⟩
  have t3 := ts_new S2.out k3 u3
  have hop := Lib.hid (topen_t t3 g1 (f := 3) (I64_s (by decide)))
  generalize r.rb = rb at *
  clear hrn S2 k3 u3 t3
  go_wp2_with fail
  (with_reducible refine (hop.out).mono ?_)
  rintro _ w4 ⟨jp4, j4, rfl, t4, _⟩
  obtain ⟨pv4, hpv4⟩ : ∃ p, p = ptrJ jp4 := ⟨_, rfl⟩
  rw [← hpv4]
  replace hpv4 := Lib.hid hpv4
  have hrop := Lib.hid (ropen_t t4 g1 (f := 3) (I64_s (by decide)))
  have J4 := Lib.hid j4
  clear hop t4 j4
  go_wp2_with fail
  (with_reducible refine (hrop.out).mono ?_)
  rintro _ w5 ⟨kq5, j5, rfl, t5, _⟩
  obtain ⟨pv5, hpv5⟩ : ∃ p, p = ptrJ kq5 := ⟨_, rfl⟩
  rw [← hpv5]
  replace hpv5 := Lib.hid hpv5
  have hI0 : Hid (TeI w1 db rb pv4 (.int .i64 (Jr.openJ Dk.new 3).2.2) pv5 (.int .i64 (Jr.openJ Dk.new 3).2.2) w5) := ⟨jp4, kq5, _, _, hpv4.out, hpv5.out, J4.out.trans j5.symm, rfl, rfl, t5⟩
  clear hrop t5 j5 J4 hpv4 hpv5
  generalize (Jr.openJ Dk.new 3).2.2 = e0 at *
  have hC25 : (C.length : Int) ≤ 25 := by have := hF.out.2; omega
  have hC0 : (0 : Int) ≤ C.length := by omega
  go_wp2_with fail
  go_loopw [6, 7, 8, 9, 10] (fun jv ev kv fv iv wr => ∃ k : Nat, k ≤ C.length ∧ iv = .int .i64 k ∧ Hid (TeI w1 db rb jv ev kv fv wr)) (fun _ _ _ _ iv _ => C.length - (intOf iv).toNat)
  case atStart => exact ⟨0, Nat.zero_le _, rfl, hI0.out⟩
  case round =>
    obtain ⟨k, hk, rfl, HI⟩ := hrel
    obtain ⟨jp, kq, D, e, rfl, rfl, hjk, rfl, rfl, T⟩ := HI.out
    have HT := Lib.hid T
    have uw := U1.out.trans T.nw0
    obtain ⟨a', cap', ev, _, hcells⟩ := op_cells (HA.out.nw uw)
    simp only [Value.slice.injEq, true_and] at ev
    obtain ⟨rfl, rfl⟩ := ev
    clear T uw HI
    by_cases hlt : k < C.length
    · rcases hcells with hnil | ⟨b, off, rfl, _, _, hcell⟩
      · rw [hnil] at hlt; simp at hlt
      obtain ⟨x0, x1, x2, x3⟩ := hcell k hlt
      obtain ⟨q1, q2, q3, q4⟩ := HA.out.each C[k] (List.getElem_mem hlt)
      obtain ⟨q5, q6⟩ := hF.out.1 C[k] (List.getElem_mem hlt)
      have hkk : k ≤ 25 := by omega
      clear hcell
      generalize C[k] = c at *
      obtain ⟨kv, kd, ss, nn, kp⟩ := c
      dsimp only at *
      obtain ⟨ak, ck, rfl, _, _⟩ := int_cells q1
      have HQ := Lib.hid (And.intro q1 (And.intro q3 (And.intro q4 (And.intro q5 q6))))
      have hsum := Lib.hid (fun z => (Sum_c ss (by omega) z).mono (R' := fun e w' => e = .returned (.int .i64 (Jr.sumN ss)) ∧ Nw z w') fun e w' ⟨a, b⟩ => ⟨a, b ▸ Upd.refl _ _⟩)
      have hsuq := Lib.hid (fun z => (Sum_q ss (by omega) z).mono (R' := fun e w' => e = .returned (.int .i64 (Jr.sumN ss)) ∧ Nw z w') fun e w' ⟨a, b⟩ => ⟨a, b ▸ Upd.refl _ _⟩)
      have tb0 := TB.made HT.out (.slice ak kp.length ck, ⟨kd, ss, nn, kp⟩)
      have l1 : ∀ i : Later (wr.alloc (.cells #[.int .i64 kd, .string ⟨ss.toArray⟩, .int .i64 nn, .slice ak kp.length ck] tOpJ)), i.1.cell? ⟨wr.heap.size, 1, none⟩ = some (.string ⟨ss.toArray⟩) := fun i => (tb0.nw i.nw).cells.2.1
      have TB0 := Lib.hid tb0
      clear q1 q2 q3 q4 q5 q6 tb0
      go_wp2_with fail
      refine wp_region_nw (by kernel_rfl) (by kernel_rfl) ?_
      repeat (go_big_quiet_step ((first | (go_at_call 13; exact later_call (hsum.out _)) | (go_at_call 14; exact later_call (hsuq.out _)))))
      refine wpQuiet_nil ?_
      intro w3 u3
      replace u3 := later_out u3
      have TB3 := Lib.hid (TB0.out.nw u3)
      obtain ⟨y0, y1, y2, y3⟩ := TB3.out.cells
      dsimp only at y0 y1 y2 y3
      clear hsum hsuq u3 TB0 l1
      have kI : Hid (∀ z, Nw w1 z → Sl 0 w.heap.size z (.slice ak kp.length ck) (kp.map intD)) := fun z u => HQ.out.1.nw (U1.out.trans u)
      have wle : Hid (w.heap.size ≤ w1.heap.size) := U1.out.size
      by_cases e0 : kd = 0
      · subst e0
        rcases same_some hjk with ⟨rfl, rfl⟩ | ⟨a, bq, j, rfl, rfl⟩
        · simp only [ptrJ_none, ptrJ_some]
          -- none of both has a journal: w3 the world, TB3.out its TB
          have hz : Hid (TeI w1 db rb (.pointer none) (.int .i64 e) (.pointer none) (.int .i64 e) w3) := ⟨none, none, _, _, rfl, rfl, rfl, rfl, rfl, (TB3.out).done⟩
          go_wp2_with fail
          go_roundw
          case rel => exact ⟨k + 1, by omega, by go_num, hz.out⟩
          case measure => simp [intOf]; omega
        · have ha := TB3.out.of (tappend_t TB3.out.1 g1 ss (by have := HQ.out.2.2.2.1; omega))
          dsimp only at ha
          have Ha := Lib.hid ha
          clear ha
          simp only [ptrJ_none, ptrJ_some]
          go_wp2_with fail
          (with_reducible refine (Ha.out).mono ?_)
          rintro _ w5 ⟨rfl, t5⟩
          have hb := t5.of (rappend_t t5.1 g1 ss (by have := HQ.out.2.2.2.1; omega))
          dsimp only at hb
          have Hb := Lib.hid hb
          obtain ⟨v0, v1, v2, v3⟩ := t5.cells
          dsimp only at v0 v1 v2 v3
          clear hb Ha t5
          go_wp2_with fail
          (with_reducible refine (Hb.out).mono ?_)
          rintro _ w6 ⟨rfl, t6⟩
          have T6 := Lib.hid t6
          clear Hb t6 v0 v1 v2 v3 y0 y1 y2 y3
          -- both have one: w6 the world, T6.out its TB, (Jr.append D j ss).2.2 the error, a and bq the journals' blocks, $6 the state
          obtain ⟨aq, nq, capq, cq⟩ := (T6.out).1.list3
          dsimp only at cq
          have HTd := Lib.hid ((T6.out).nw (Upd.refl _ _).drew)
          have cqd := later_cell ⟨_, (Upd.refl (fun _ => False) _).drew⟩ cq
          have CF := Lib.hid (ts_same HTd.out.1 g1 cqd)
          go_wp2_with fail
          go_region_held3 (fun z => z.cell? ⟨bq, 2, none⟩ = some (.slice aq nq capq)) (first | exact cq | exact cqd | assumption) (first | (go_at_call 28; (with_reducible refine CF.out.mono ?_); rintro _ y1 ⟨ac, nc, cc, rfl, cy1, SF⟩) | (go_at_call 27; (with_reducible refine SF.mono ?_); rintro _ y2 ⟨rfl, cy2, T2, v2⟩))
          have hz : Hid (TeI w1 db rb (.pointer (some ⟨a, 0, none⟩)) (.int .i64 (Jr.append D j ss).2.2) (.pointer (some ⟨bq, 0, none⟩)) (.int .i64 (Jr.append D j ss).2.2) _) := ⟨some (a, _), some (bq, _), _, _, rfl, rfl, rfl, rfl, rfl, T2.keep (Upd.refl _ _) (fun k hk => hk.elim)⟩
          clear T2 v2
          go_wp2_with fail
          go_roundw
          case rel => exact ⟨k + 1, by omega, by go_num, hz.out⟩
          case measure => simp [intOf]; omega
      have b0 : (kd == 0) = false := beq_eq_false_iff_ne.2 e0
      by_cases e1 : kd = 1
      · subst e1
        rcases same_some hjk with ⟨rfl, rfl⟩ | ⟨a, bq, j, rfl, rfl⟩
        · simp only [ptrJ_none, ptrJ_some]
          -- none of both has a journal: w3 the world, TB3.out its TB
          have hz : Hid (TeI w1 db rb (.pointer none) (.int .i64 e) (.pointer none) (.int .i64 e) w3) := ⟨none, none, _, _, rfl, rfl, rfl, rfl, rfl, (TB3.out).done⟩
          go_wp2_with fail
          go_roundw
          case rel => exact ⟨k + 1, by omega, by go_num, hz.out⟩
          case measure => simp [intOf]; omega
        · have ha := TB3.out.of (tsync_t TB3.out.1 g1)
          dsimp only at ha
          have Ha := Lib.hid ha
          clear ha
          simp only [ptrJ_none, ptrJ_some]
          go_wp2_with fail
          (with_reducible refine (Ha.out).mono ?_)
          rintro _ w5 ⟨rfl, t5⟩
          have hb := t5.of (rjsync_t t5.1 g1)
          dsimp only at hb
          have Hb := Lib.hid hb
          clear hb Ha t5
          go_wp2_with fail
          (with_reducible refine (Hb.out).mono ?_)
          rintro _ w6 ⟨rfl, t6⟩
          have T6 := Lib.hid t6
          clear Hb t6 y0 y1 y2 y3
          -- both have one: w6 the world, T6.out its TB, (Jr.syncJ D j).2.2 the error, a and bq the journals' blocks, $6 the state
          obtain ⟨aq, nq, capq, cq⟩ := (T6.out).1.list3
          dsimp only at cq
          have HTd := Lib.hid ((T6.out).nw (Upd.refl _ _).drew)
          have cqd := later_cell ⟨_, (Upd.refl (fun _ => False) _).drew⟩ cq
          have CF := Lib.hid (ts_same HTd.out.1 g1 cqd)
          go_wp2_with fail
          go_region_held3 (fun z => z.cell? ⟨bq, 2, none⟩ = some (.slice aq nq capq)) (first | exact cq | exact cqd | assumption) (first | (go_at_call 28; (with_reducible refine CF.out.mono ?_); rintro _ y1 ⟨ac, nc, cc, rfl, cy1, SF⟩) | (go_at_call 27; (with_reducible refine SF.mono ?_); rintro _ y2 ⟨rfl, cy2, T2, v2⟩))
          have hz : Hid (TeI w1 db rb (.pointer (some ⟨a, 0, none⟩)) (.int .i64 (Jr.syncJ D j).2.2) (.pointer (some ⟨bq, 0, none⟩)) (.int .i64 (Jr.syncJ D j).2.2) _) := ⟨some (a, _), some (bq, _), _, _, rfl, rfl, rfl, rfl, rfl, T2.keep (Upd.refl _ _) (fun k hk => hk.elim)⟩
          clear T2 v2
          go_wp2_with fail
          go_roundw
          case rel => exact ⟨k + 1, by omega, by go_num, hz.out⟩
          case measure => simp [intOf]; omega
      have b1 : (kd == 1) = false := beq_eq_false_iff_ne.2 e1
      by_cases e2 : kd = 2
      · subst e2
        have Ha := Lib.hid (TB3.out.of (tlose_t TB3.out.1 HQ.out.2.1))
        go_wp2_with fail
        (with_reducible refine (Ha.out).mono ?_)
        rintro _ w5 ⟨rfl, t5⟩
        have Hb := Lib.hid (t5.of (rlose_t t5.1 HQ.out.2.1))
        obtain ⟨v0, v1, v2, v3⟩ := t5.cells
        dsimp only at v0 v1 v2 v3
        clear Ha t5
        go_wp2_with fail
        (with_reducible refine (Hb.out).mono ?_)
        rintro _ w6 ⟨rfl, t6⟩
        have T6 := Lib.hid t6
        clear Hb t6 v0 v1 v2 v3 y0 y1 y2 y3
        -- what stands at the end of a round: w6 the world, T6.out its TB, e the error, hjk the equation of the journals
        rcases same_some hjk with ⟨rfl, rfl⟩ | ⟨a, bq, j, rfl, rfl⟩
        · simp only [ptrJ_none, ptrJ_some]
          -- none of both has a journal, and the last test is walked: w6 the world, T6.out its TB, e the error
          have hz0 := Lib.hid T6.out
          go_wp2_with fail
          refine wp_region_nw (by kernel_rfl) (by kernel_rfl) ?_
          repeat (go_big_quiet_step ((fail)))
          refine wpQuiet_nil ?_
          intro w12 u12
          replace u12 := later_out u12
          have hz : Hid (TeI w1 db rb (.pointer none) (.int .i64 e) (.pointer none) (.int .i64 e) w12) := ⟨none, none, _, _, rfl, rfl, rfl, rfl, rfl, (hz0.out.nw u12).done⟩
          clear u12
          go_wp2_with fail
          go_roundw
          case rel => exact ⟨k + 1, by omega, by go_num, hz.out⟩
          case measure => simp [intOf]; omega
        · simp only [ptrJ_none, ptrJ_some]
          -- both have one: w6 the world, T6.out its TB, e the error, a and bq the journals' blocks, $6 the state
          obtain ⟨aq, nq, capq, cq⟩ := (T6.out).1.list3
          dsimp only at cq
          have HTd := Lib.hid ((T6.out).nw (Upd.refl _ _).drew)
          have cqd := later_cell ⟨_, (Upd.refl (fun _ => False) _).drew⟩ cq
          have CF := Lib.hid (ts_same HTd.out.1 g1 cqd)
          go_wp2_with fail
          go_region_held3 (fun z => z.cell? ⟨bq, 2, none⟩ = some (.slice aq nq capq)) (first | exact cq | exact cqd | assumption) (first | (go_at_call 28; (with_reducible refine CF.out.mono ?_); rintro _ y1 ⟨ac, nc, cc, rfl, cy1, SF⟩) | (go_at_call 27; (with_reducible refine SF.mono ?_); rintro _ y2 ⟨rfl, cy2, T2, v2⟩))
          have hz : Hid (TeI w1 db rb (.pointer (some ⟨a, 0, none⟩)) (.int .i64 e) (.pointer (some ⟨bq, 0, none⟩)) (.int .i64 e) _) := ⟨some (a, _), some (bq, _), _, _, rfl, rfl, rfl, rfl, rfl, T2.keep (Upd.refl _ _) (fun k hk => hk.elim)⟩
          clear T2 v2
          go_wp2_with fail
          go_roundw
          case rel => exact ⟨k + 1, by omega, by go_num, hz.out⟩
          case measure => simp [intOf]; omega
      have b2 : (kd == 2) = false := beq_eq_false_iff_ne.2 e2
      by_cases e3 : kd = 3
      · subst e3
        have Ha := Lib.hid (TB3.out.of (tarm_t TB3.out.1 g1 HQ.out.2.1 0 w.heap.size _ kp HQ.out.2.2.1 (kI.out _ TB3.out.1.nw0) (by have := HQ.out.2.2.2.2; omega)))
        go_wp2_with fail
        (with_reducible refine (Ha.out).mono ?_)
        rintro _ w5 ⟨rfl, t5⟩
        have Hb := Lib.hid (t5.of (rarm_t t5.1 g1 HQ.out.2.1 0 w.heap.size wle.out _ kp HQ.out.2.2.1 (kI.out _ t5.1.nw0) (by have := HQ.out.2.2.2.2; omega)))
        obtain ⟨v0, v1, v2, v3⟩ := t5.cells
        dsimp only at v0 v1 v2 v3
        clear Ha t5
        go_wp2_with fail
        (with_reducible refine (Hb.out).mono ?_)
        rintro _ w6 ⟨rfl, t6⟩
        have T6 := Lib.hid t6
        clear Hb t6 v0 v1 v2 v3 y0 y1 y2 y3
        -- what stands at the end of a round: w6 the world, T6.out its TB, e the error, hjk the equation of the journals
        rcases same_some hjk with ⟨rfl, rfl⟩ | ⟨a, bq, j, rfl, rfl⟩
        · simp only [ptrJ_none, ptrJ_some]
          -- none of both has a journal, and the last test is walked: w6 the world, T6.out its TB, e the error
          have hz0 := Lib.hid T6.out
          go_wp2_with fail
          refine wp_region_nw (by kernel_rfl) (by kernel_rfl) ?_
          repeat (go_big_quiet_step ((fail)))
          refine wpQuiet_nil ?_
          intro w12 u12
          replace u12 := later_out u12
          have hz : Hid (TeI w1 db rb (.pointer none) (.int .i64 e) (.pointer none) (.int .i64 e) w12) := ⟨none, none, _, _, rfl, rfl, rfl, rfl, rfl, (hz0.out.nw u12).done⟩
          clear u12
          go_wp2_with fail
          go_roundw
          case rel => exact ⟨k + 1, by omega, by go_num, hz.out⟩
          case measure => simp [intOf]; omega
        · simp only [ptrJ_none, ptrJ_some]
          -- both have one: w6 the world, T6.out its TB, e the error, a and bq the journals' blocks, $6 the state
          obtain ⟨aq, nq, capq, cq⟩ := (T6.out).1.list3
          dsimp only at cq
          have HTd := Lib.hid ((T6.out).nw (Upd.refl _ _).drew)
          have cqd := later_cell ⟨_, (Upd.refl (fun _ => False) _).drew⟩ cq
          have CF := Lib.hid (ts_same HTd.out.1 g1 cqd)
          go_wp2_with fail
          go_region_held3 (fun z => z.cell? ⟨bq, 2, none⟩ = some (.slice aq nq capq)) (first | exact cq | exact cqd | assumption) (first | (go_at_call 28; (with_reducible refine CF.out.mono ?_); rintro _ y1 ⟨ac, nc, cc, rfl, cy1, SF⟩) | (go_at_call 27; (with_reducible refine SF.mono ?_); rintro _ y2 ⟨rfl, cy2, T2, v2⟩))
          have hz : Hid (TeI w1 db rb (.pointer (some ⟨a, 0, none⟩)) (.int .i64 e) (.pointer (some ⟨bq, 0, none⟩)) (.int .i64 e) _) := ⟨some (a, _), some (bq, _), _, _, rfl, rfl, rfl, rfl, rfl, T2.keep (Upd.refl _ _) (fun k hk => hk.elim)⟩
          clear T2 v2
          go_wp2_with fail
          go_roundw
          case rel => exact ⟨k + 1, by omega, by go_num, hz.out⟩
          case measure => simp [intOf]; omega
      have b3 : (kd == 3) = false := beq_eq_false_iff_ne.2 e3
      by_cases e4 : kd = 4
      · subst e4
        have Ha := Lib.hid (TB3.out.of (tcrash_t TB3.out.1 g1 0 w.heap.size wle.out _ kp HQ.out.2.2.1 (HQ.out.1.nw U1.out)))
        go_wp2_with fail
        (with_reducible refine (Ha.out).mono ?_)
        rintro _ w5 ⟨rfl, t5⟩
        have Hb := Lib.hid (t5.of (rcrash_t t5.1 g1 0 w.heap.size wle.out _ kp HQ.out.2.2.1 (HQ.out.1.nw U1.out)))
        obtain ⟨v0, v1, v2, v3⟩ := t5.cells
        dsimp only at v0 v1 v2 v3
        clear Ha t5
        go_wp2_with fail
        (with_reducible refine (Hb.out).mono ?_)
        rintro _ w6 ⟨rfl, t6⟩
        clear Hb v0 v1 v2 v3
        have Hc := Lib.hid (tstart_t t6.1)
        go_wp2_with fail
        (with_reducible refine (Hc.out).mono ?_)
        rintro _ w7 ⟨rfl, t7, m7⟩
        have tb7 := (t6).next t7 m7
        have Hd := Lib.hid (rstart_t tb7.1)
        clear Hc t7 m7
        go_wp2_with fail
        (with_reducible refine (Hd.out).mono ?_)
        rintro _ w8 ⟨rfl, t8, m8⟩
        have tb8 := tb7.next t8 m8
        have He := Lib.hid (topen_t tb8.1 g1 (f := 3) (I64_s (by decide)))
        clear Hd t8 m8 tb7
        go_wp2_with fail
        (with_reducible refine (He.out).mono ?_)
        rintro _ w9 ⟨jp9, j9, rfl, t9, m9⟩
        have tb9 := tb8.next t9 m9
        have Hf := Lib.hid (ropen_t tb9.1 g1 (f := 3) (I64_s (by decide)))
        clear He t9 m9 tb8
        go_wp2_with fail
        (with_reducible refine (Hf.out).mono ?_)
        rintro _ w10 ⟨kq10, q10, rfl, t10, m10⟩
        have T10 := Lib.hid (tb9.next t10 m10)
        have hjq := j9.trans q10.symm
        clear Hf t10 m10 tb9 j9 q10 y0 y1 y2 y3
        -- what stands at the end of a round: w10 the world, T10.out its TB, (Jr.openJ (Dk.start (Dk.crash D kp)) 3).2.2 the error, hjq the equation of the journals
        rcases same_some hjq with ⟨rfl, rfl⟩ | ⟨a, bq, j, rfl, rfl⟩
        · simp only [ptrJ_none, ptrJ_some]
          -- none of both has a journal, and the last test is walked: w10 the world, T10.out its TB, (Jr.openJ (Dk.start (Dk.crash D kp)) 3).2.2 the error
          have hz0 := Lib.hid T10.out
          go_wp2_with fail
          refine wp_region_nw (by kernel_rfl) (by kernel_rfl) ?_
          repeat (go_big_quiet_step ((fail)))
          refine wpQuiet_nil ?_
          intro w12 u12
          replace u12 := later_out u12
          have hz : Hid (TeI w1 db rb (.pointer none) (.int .i64 (Jr.openJ (Dk.start (Dk.crash D kp)) 3).2.2) (.pointer none) (.int .i64 (Jr.openJ (Dk.start (Dk.crash D kp)) 3).2.2) w12) := ⟨none, none, _, _, rfl, rfl, rfl, rfl, rfl, (hz0.out.nw u12).done⟩
          clear u12
          go_wp2_with fail
          go_roundw
          case rel => exact ⟨k + 1, by omega, by go_num, hz.out⟩
          case measure => simp [intOf]; omega
        · simp only [ptrJ_none, ptrJ_some]
          -- both have one: w10 the world, T10.out its TB, (Jr.openJ (Dk.start (Dk.crash D kp)) 3).2.2 the error, a and bq the journals' blocks, $6 the state
          obtain ⟨aq, nq, capq, cq⟩ := (T10.out).1.list3
          dsimp only at cq
          have HTd := Lib.hid ((T10.out).nw (Upd.refl _ _).drew)
          have cqd := later_cell ⟨_, (Upd.refl (fun _ => False) _).drew⟩ cq
          have CF := Lib.hid (ts_same HTd.out.1 g1 cqd)
          go_wp2_with fail
          go_region_held3 (fun z => z.cell? ⟨bq, 2, none⟩ = some (.slice aq nq capq)) (first | exact cq | exact cqd | assumption) (first | (go_at_call 28; (with_reducible refine CF.out.mono ?_); rintro _ y1 ⟨ac, nc, cc, rfl, cy1, SF⟩) | (go_at_call 27; (with_reducible refine SF.mono ?_); rintro _ y2 ⟨rfl, cy2, T2, v2⟩))
          have hz : Hid (TeI w1 db rb (.pointer (some ⟨a, 0, none⟩)) (.int .i64 (Jr.openJ (Dk.start (Dk.crash D kp)) 3).2.2) (.pointer (some ⟨bq, 0, none⟩)) (.int .i64 (Jr.openJ (Dk.start (Dk.crash D kp)) 3).2.2) _) := ⟨some (a, _), some (bq, _), _, _, rfl, rfl, rfl, rfl, rfl, T2.keep (Upd.refl _ _) (fun k hk => hk.elim)⟩
          clear T2 v2
          go_wp2_with fail
          go_roundw
          case rel => exact ⟨k + 1, by omega, by go_num, hz.out⟩
          case measure => simp [intOf]; omega
      have b4 : (kd == 4) = false := beq_eq_false_iff_ne.2 e4
      by_cases e5 : kd = 5
      · subst e5
        have t6 := TB3.out
        have Hc := Lib.hid (tstart_t t6.1)
        go_wp2_with fail
        (with_reducible refine (Hc.out).mono ?_)
        rintro _ w7 ⟨rfl, t7, m7⟩
        have tb7 := (t6).next t7 m7
        have Hd := Lib.hid (rstart_t tb7.1)
        clear Hc t7 m7
        go_wp2_with fail
        (with_reducible refine (Hd.out).mono ?_)
        rintro _ w8 ⟨rfl, t8, m8⟩
        have tb8 := tb7.next t8 m8
        have He := Lib.hid (topen_t tb8.1 g1 (f := 3) (I64_s (by decide)))
        clear Hd t8 m8 tb7
        go_wp2_with fail
        (with_reducible refine (He.out).mono ?_)
        rintro _ w9 ⟨jp9, j9, rfl, t9, m9⟩
        have tb9 := tb8.next t9 m9
        have Hf := Lib.hid (ropen_t tb9.1 g1 (f := 3) (I64_s (by decide)))
        clear He t9 m9 tb8
        go_wp2_with fail
        (with_reducible refine (Hf.out).mono ?_)
        rintro _ w10 ⟨kq10, q10, rfl, t10, m10⟩
        have T10 := Lib.hid (tb9.next t10 m10)
        have hjq := j9.trans q10.symm
        clear Hf t10 m10 tb9 j9 q10 y0 y1 y2 y3
        -- what stands at the end of a round: w10 the world, T10.out its TB, (Jr.openJ (Dk.start D) 3).2.2 the error, hjq the equation of the journals
        rcases same_some hjq with ⟨rfl, rfl⟩ | ⟨a, bq, j, rfl, rfl⟩
        · simp only [ptrJ_none, ptrJ_some]
          -- none of both has a journal, and the last test is walked: w10 the world, T10.out its TB, (Jr.openJ (Dk.start D) 3).2.2 the error
          have hz0 := Lib.hid T10.out
          go_wp2_with fail
          refine wp_region_nw (by kernel_rfl) (by kernel_rfl) ?_
          repeat (go_big_quiet_step ((fail)))
          refine wpQuiet_nil ?_
          intro w12 u12
          replace u12 := later_out u12
          have hz : Hid (TeI w1 db rb (.pointer none) (.int .i64 (Jr.openJ (Dk.start D) 3).2.2) (.pointer none) (.int .i64 (Jr.openJ (Dk.start D) 3).2.2) w12) := ⟨none, none, _, _, rfl, rfl, rfl, rfl, rfl, (hz0.out.nw u12).done⟩
          clear u12
          go_wp2_with fail
          go_roundw
          case rel => exact ⟨k + 1, by omega, by go_num, hz.out⟩
          case measure => simp [intOf]; omega
        · simp only [ptrJ_none, ptrJ_some]
          -- both have one: w10 the world, T10.out its TB, (Jr.openJ (Dk.start D) 3).2.2 the error, a and bq the journals' blocks, $6 the state
          obtain ⟨aq, nq, capq, cq⟩ := (T10.out).1.list3
          dsimp only at cq
          have HTd := Lib.hid ((T10.out).nw (Upd.refl _ _).drew)
          have cqd := later_cell ⟨_, (Upd.refl (fun _ => False) _).drew⟩ cq
          have CF := Lib.hid (ts_same HTd.out.1 g1 cqd)
          go_wp2_with fail
          go_region_held3 (fun z => z.cell? ⟨bq, 2, none⟩ = some (.slice aq nq capq)) (first | exact cq | exact cqd | assumption) (first | (go_at_call 28; (with_reducible refine CF.out.mono ?_); rintro _ y1 ⟨ac, nc, cc, rfl, cy1, SF⟩) | (go_at_call 27; (with_reducible refine SF.mono ?_); rintro _ y2 ⟨rfl, cy2, T2, v2⟩))
          have hz : Hid (TeI w1 db rb (.pointer (some ⟨a, 0, none⟩)) (.int .i64 (Jr.openJ (Dk.start D) 3).2.2) (.pointer (some ⟨bq, 0, none⟩)) (.int .i64 (Jr.openJ (Dk.start D) 3).2.2) _) := ⟨some (a, _), some (bq, _), _, _, rfl, rfl, rfl, rfl, rfl, T2.keep (Upd.refl _ _) (fun k hk => hk.elim)⟩
          clear T2 v2
          go_wp2_with fail
          go_roundw
          case rel => exact ⟨k + 1, by omega, by go_num, hz.out⟩
          case measure => simp [intOf]; omega
      have b5 : (kd == 5) = false := beq_eq_false_iff_ne.2 e5
      clear y1 y2 y3
      -- what stands at the end of a round: w3 the world, TB3.out its TB, e the error, hjk the equation of the journals
      rcases same_some hjk with ⟨rfl, rfl⟩ | ⟨a, bq, j, rfl, rfl⟩
      · simp only [ptrJ_none, ptrJ_some]
        -- none of both has a journal, and the last test is walked: w3 the world, TB3.out its TB, e the error
        have hz0 := Lib.hid TB3.out
        go_wp2_with fail
        refine wp_region_nw (by kernel_rfl) (by kernel_rfl) ?_
        repeat (go_big_quiet_step ((fail)))
        refine wpQuiet_nil ?_
        intro w12 u12
        replace u12 := later_out u12
        have hz : Hid (TeI w1 db rb (.pointer none) (.int .i64 e) (.pointer none) (.int .i64 e) w12) := ⟨none, none, _, _, rfl, rfl, rfl, rfl, rfl, (hz0.out.nw u12).done⟩
        clear u12
        go_wp2_with fail
        go_roundw
        case rel => exact ⟨k + 1, by omega, by go_num, hz.out⟩
        case measure => simp [intOf]; omega
      · simp only [ptrJ_none, ptrJ_some]
        -- both have one: w3 the world, TB3.out its TB, e the error, a and bq the journals' blocks, $6 the state
        obtain ⟨aq, nq, capq, cq⟩ := (TB3.out).1.list3
        dsimp only at cq
        have HTd := Lib.hid ((TB3.out).nw (Upd.refl _ _).drew)
        have cqd := later_cell ⟨_, (Upd.refl (fun _ => False) _).drew⟩ cq
        have CF := Lib.hid (ts_same HTd.out.1 g1 cqd)
        go_wp2_with fail
        go_region_held3 (fun z => z.cell? ⟨bq, 2, none⟩ = some (.slice aq nq capq)) (first | exact cq | exact cqd | assumption) (first | (go_at_call 28; (with_reducible refine CF.out.mono ?_); rintro _ y1 ⟨ac, nc, cc, rfl, cy1, SF⟩) | (go_at_call 27; (with_reducible refine SF.mono ?_); rintro _ y2 ⟨rfl, cy2, T2, v2⟩))
        have hz : Hid (TeI w1 db rb (.pointer (some ⟨a, 0, none⟩)) (.int .i64 e) (.pointer (some ⟨bq, 0, none⟩)) (.int .i64 e) _) := ⟨some (a, _), some (bq, _), _, _, rfl, rfl, rfl, rfl, rfl, T2.keep (Upd.refl _ _) (fun k hk => hk.elim)⟩
        clear T2 v2
        go_wp2_with fail
        go_roundw
        case rel => exact ⟨k + 1, by omega, by go_num, hz.out⟩
        case measure => simp [intOf]; omega
    · obtain rfl : k = C.length := by omega
      clear hcells
      have Ha := Lib.hid (tstart_t HT.out)
      go_wp2_with fail
      (with_reducible refine (Ha.out).mono ?_)
      rintro _ w5 ⟨rfl, t5, _⟩
      have Hb := Lib.hid (rstart_t t5)
      clear Ha t5
      go_wp2_with fail
      (with_reducible refine (Hb.out).mono ?_)
      rintro _ w6 ⟨rfl, t6, _⟩
      have Hc := Lib.hid (tsize_t t6 (f := 3) (I64_s (by decide)))
      have Hd := Lib.hid (tread_t t6 (f := 3) (i := 0) (I64_s (by decide)) (I64_s (by decide)) (tsize_i64 t6 3))
      have He := Lib.hid (rsize_t t6 3)
      have hI := Lib.hid (tsize_i64 t6 3)
      clear Hb t6
      go_wp2_with fail
      (with_reducible refine (Hc.out).mono ?_)
      rintro _ _ ⟨rfl, rfl⟩
      go_wp2_with fail
      (with_reducible refine (Hd.out).mono ?_)
      rintro _ _ ⟨rfl, rfl⟩
      go_wp2_with fail
      (with_reducible refine (He.out).mono ?_)
      rintro _ w7 ⟨rfl, t7⟩
      have Hf := Lib.hid (rread_t t7 (f := 3) (i := 0) (I64_s (by decide)) (I64_s (by decide)) hI.out)
      clear He Hc Hd
      go_wp2_with fail
      (with_reducible refine (Hf.out).mono ?_)
      rintro _ w8 ⟨rfl, t8⟩
      have hfin := Lib.hid (U1.out.trans t8.nw0)
      clear Hf t7 t8
      generalize (Dk.read (Dk.start D) 3 0 (Dk.size (Dk.start D) 3)).1 = X at *
      have hx : (X == X) = true := beq_self_eq_true X
      go_wp2_with fail
      go_ret
      exact ⟨rfl, hfin.out⟩
end Go.Proofs.YtiambnllidingaaGreatDoor
