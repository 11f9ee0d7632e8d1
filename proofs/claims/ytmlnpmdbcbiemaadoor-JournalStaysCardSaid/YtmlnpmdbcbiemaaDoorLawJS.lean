/- The walk of the statement JournalStays. -/
import Derived.Test.YtmlnpmdbcbiemaaDoorJrnV
import Derived.Test.YtmlnpmdbcbiemaaDoorJrnSt
namespace Go.Proofs.YtmlnpmdbcbiemaaDoor
open Go.RowKit
set_option linter.unusedVariables false
set_option linter.unusedSimpArgs false
attribute [local irreducible] Calls

/-- What is kept is turned, and other blocks are kept from now on. -/
theorem GS.upd_keep {w : World} {db : Nat} {jp : Option (Nat × Jr.Jn)} {D : Dk.Disk} {F F' S : Nat → Prop} {z z' : World} (h : GS w db jp D F z) (u : Upd S z z') (hs : ∀ k, S k → (F k ∧ w.heap.size ≤ k) ∨ z.heap.size ≤ k) (hF : ∀ k, F' k → F k ∨ (z.heap.size ≤ k ∧ k < z'.heap.size)) : GS w db jp D F' z' := by
  have hz := u.size
  obtain ⟨d, e, h1, h2, h3, h4⟩ := h
  have hw := h2.size
  refine ⟨d, e, h1.upd u (fun k hk s => ?_), h2.trans' u (fun k hk s => ?_), fun k hk => ?_, fun p hp => ?_⟩
  · rcases hs k s with a | a
    · exact (h3 k a.1).2 hk
    · have := (h1.foot_lt hk).2; omega
  · rcases hs k s with a | a <;> omega
  · rcases hF k hk with a | a
    · exact ⟨by have := (h3 k a).1; omega, (h3 k a).2⟩
    · exact ⟨a.2, fun e => by have := (h1.foot_lt e).2; omega⟩
  · obtain ⟨x, e2, h5, h6, h7⟩ := h4 p hp
    refine ⟨x, e2, h5.upd u (fun k hk s => ?_), h6, fun k hk e3 => ?_⟩
    · rcases hs k s with a | a
      · exact h7 k a.1 hk
      · have := (h5.foot_lt hk).2; omega
    · rcases hF k hk with a | a
      · exact h7 k a e3
      · have := (h5.foot_lt e3).2; omega
/-- While the operations are carried out. -/
def StI (w : World) (db : Nat) (n : Nat) (jv : Value) (z : World) : Prop :=
  ∃ jp D, jv = ptrJ jp ∧ GS w db jp D (fun _ => False) z ∧ Jr.St D (jp.map (·.2)) n
/-- While the records are appended: the list that is wanted is the journal's. -/
def StJ (w : World) (db jb : Nat) (B n : Nat) (wv : Value) (z : World) : Prop :=
  ∃ j D, GS w db (some (jb, j)) D (fun k => wv.ownBlock = some k) z ∧ Jr.St D (some j) n ∧ z.ownsRow B tStrJ 1 wv j.recs.length (j.recs.map bsV) ∧ B ≤ z.heap.size
/-- While crashes come. -/
def StC (w : World) (db : Nat) (B : Nat) (wv : Value) (R : List (List UInt8)) (jv : Value) (z : World) : Prop :=
  ∃ jb j D, jv = .pointer (some ⟨jb, 0, none⟩) ∧ GS w db (some (jb, j)) D (fun k => wv.ownBlock = some k) z ∧ j.recs = R ∧ D.down = false ∧ D.armed = 0 ∧ D.lost = 0 ∧ Jr.Inv D 0 R R ∧ z.ownsRow B tStrJ 1 wv R.length (R.map bsV)
theorem OS.any {w : World} {db : Nat} {D : Dk.Disk} {f : Int} {F : Nat → Prop} {pv : Value} {z : World} {n : Nat} (h : OS w db (Jr.openJ D f).1 (Jr.openJ D f).2.1 F pv z) (hs : Jr.St (Jr.openJ D f).1 (Jr.openJ D f).2.1 n) : ∃ jp D', pv = ptrJ jp ∧ GS w db jp D' F z ∧ Jr.St D' (jp.map (·.2)) n := by
  obtain ⟨jp, h1, h2, h3⟩ := h
  exact ⟨jp, _, h2, h3, by rw [h1]; exact hs⟩
set_option maxHeartbeats 4000000 in
set_option maxRecDepth 100000 in
theorem journalStays_c (v0 v1 v2 v3 : Value) (C : List (Value × JOp)) (S : List (List UInt8)) (one two : List Int) (w : World) (g : Gl w) (h0 : OpS w.heap.size w v0 C) (h1 : Sl 0 w.heap.size w v1 (S.map (fun s => Value.string ⟨s.toArray⟩)))
    (h2 : Sl 0 w.heap.size w v2 (one.map intD)) (i2 : ∀ x ∈ one, I64 x) (h3 : Sl 0 w.heap.size w v3 (two.map intD)) (i3 : ∀ x ∈ two, I64 x) :
    Calls Tryd.prog 5 #[v0, v1, v2, v3] w fun e w' => e = .returned (.bool true) ∧ Nw w w' := by
  have hs := Lib.hid (small_c w g)
  have hfew := Lib.hid (fun z (u : Nw w z) => few_j w.heap.size v0 C z (h0.nw u))
  have htex := Lib.hid (fun z (u : Nw w z) => texts_j 0 w.heap.size v1 S z (h1.nw u))
  obtain ⟨a0, c0, rfl, m0, _⟩ := op_cells h0
  obtain ⟨a1, c1, rfl, m1, _⟩ := str_cells h1
  obtain ⟨a2, c2, rfl, m2, _⟩ := int_cells h2
  obtain ⟨a3, c3, rfl, m3, _⟩ := int_cells h3
  unfold maxLen at m0 m1 m2 m3
  have m2' : (one.length : Int) ≤ 9223372036854775807 := by omega
  have m3' : (two.length : Int) ≤ 9223372036854775807 := by omega
  have HA := Lib.hid (And.intro h0 (And.intro h1 (And.intro h2 (And.intro i2 (And.intro h3 i3)))))
  clear h0 h1 h2 i2 h3 i3 m0 m1 m2 m3
  go_enter Tryd.func5, Tryd.ntmps5
  go_wp2_with fail
  (with_reducible refine (hs.out).mono ?_)
  rintro _ w1 ⟨rfl, u1⟩
  have U1 := Lib.hid u1
  have hfew2 := Lib.hid (hfew.out w1 u1)
  have htex2 := Lib.hid (htex.out w1 u1)
  clear hs hfew htex u1
  go_wp2_with fail
  (with_reducible refine (hfew2.out).mono ?_)
  rintro _ _ ⟨rfl, rfl⟩
  cases hB : fewB C with
  | false =>
    clear hB
    go_wp2_with fail
    go_ret
    exact ⟨rfl, U1.out⟩
  | true =>
  have hF := Lib.hid (fewB_iff.1 hB)
  clear hB
  go_wp2_with fail
  (with_reducible refine (htex2.out).mono ?_)
  rintro _ _ ⟨rfl, rfl⟩
  cases hB : textsB S with
  | false =>
    clear hB
    go_wp2_with fail
    go_ret
    exact ⟨rfl, U1.out⟩
  | true =>
  have hT := Lib.hid (textsB_iff.1 hB)
  clear hB
  by_cases ho : (50 : Int) < one.length
  · go_wp2_with fail
    go_ret
    exact ⟨rfl, U1.out⟩
  by_cases ht : (50 : Int) < two.length
  · go_wp2_with fail
    go_ret
    exact ⟨rfl, U1.out⟩
  have g1 := g.upd U1.out
  have hn := Lib.hid (new_t w1 g1)
  clear hfew2 htex2
  go_wp2_with fail
  (with_reducible refine (hn.out).mono ?_)
  rintro _ w2 ⟨db, rfl, s2⟩
  have hop := Lib.hid (open_t s2 g1 (f := 0) (I64_s (by decide)))
  clear hn s2
  go_wp2_with fail
  (with_reducible refine (hop.out).mono ?_)
  rintro _ w3 ⟨pv, rfl, o3, _⟩
  have hI0 : Hid (StI w1 db 0 pv w3) := OS.any o3 Jr.st_new.open_
  clear hop o3
  have hC25 : (C.length : Int) ≤ 25 := by have := hF.out.2; omega
  have hC0 : (0 : Int) ≤ C.length := by omega
  go_wp2_with fail
  go_loopw [11, 13] (fun jv iv wr => ∃ k : Nat, k ≤ C.length ∧ iv = .int .i64 k ∧ Hid (StI w1 db k jv wr)) (fun _ iv _ => C.length - (intOf iv).toNat)
  case atStart => exact ⟨0, Nat.zero_le _, rfl, hI0.out⟩
  case round =>
    obtain ⟨k, hk, rfl, HI⟩ := hrel
    obtain ⟨jp, D, rfl, G, ST⟩ := HI.out
    have HG := Lib.hid G
    have HST := Lib.hid ST
    have uw := U1.out.trans G.nw0
    obtain ⟨a', cap', ev, _, hcells⟩ := op_cells (HA.out.1.nw uw)
    simp only [Value.slice.injEq, true_and] at ev
    obtain ⟨rfl, rfl⟩ := ev
    clear G ST uw HI
    by_cases hlt : k < C.length
    · rcases hcells with hnil | ⟨b, off, rfl, _, _, hcell⟩
      · rw [hnil] at hlt; simp at hlt
      obtain ⟨x0, x1, x2, x3⟩ := hcell k hlt
      obtain ⟨q1, q2, q3, q4⟩ := HA.out.1.each C[k] (List.getElem_mem hlt)
      obtain ⟨q5, q6⟩ := hF.out.1 C[k] (List.getElem_mem hlt)
      have hkk : k ≤ 25 := by omega
      clear hcell
      generalize C[k] = c at *
      obtain ⟨kv, kd, ss, nn, kp⟩ := c
      dsimp only at *
      obtain ⟨ak, ck, rfl, _, _⟩ := int_cells q1
      have HQ := Lib.hid (And.intro q1 (And.intro q3 (And.intro q4 q5)))
      clear q1 q2 q3 q4 q5 q6
      by_cases e0 : kd = 0
      · subst e0
        cases jp with
        | none =>
          unfold ptrJ
          have hz : Hid (StI w1 db (k + 1) (.pointer none) wr) := ⟨none, D, rfl, HG.out, HST.out.mono (by omega)⟩
          go_wp2_with fail
          go_roundw
          case rel => exact ⟨k + 1, by omega, by go_num, hz.out⟩
          case measure => simp [intOf]; omega
        | some p =>
          have hap := Lib.hid (append_t HG.out g1 ss (by have := HQ.out.2.2.2; omega))
          have hst := Lib.hid (Jr.St.append HST.out (by omega) HQ.out.2.2.2).1
          unfold ptrJ
          go_wp2_with fail
          (with_reducible refine (hap.out).mono ?_)
          rintro _ w5 ⟨rfl, G5, _⟩
          have HG5 := Lib.hid G5
          clear G5
          have hz : Hid (StI w1 db (k + 1) (.pointer (some ⟨p.1, 0, none⟩)) w5) := ⟨some (p.1, (Jr.append D p.2 ss).2.1), _, rfl, HG5.out, hst.out⟩
          go_wp2_with fail
          go_roundw
          case rel => exact ⟨k + 1, by omega, by go_num, hz.out⟩
          case measure => simp [intOf]; omega
      have b0 : (kd == 0) = false := beq_eq_false_iff_ne.2 e0
      by_cases e1 : kd = 1
      · subst e1
        cases jp with
        | none =>
          unfold ptrJ
          have hz : Hid (StI w1 db (k + 1) (.pointer none) wr) := ⟨none, D, rfl, HG.out, HST.out.mono (by omega)⟩
          go_wp2_with fail
          go_roundw
          case rel => exact ⟨k + 1, by omega, by go_num, hz.out⟩
          case measure => simp [intOf]; omega
        | some p =>
          have hap := Lib.hid (jsync_t HG.out g1)
          have hst := Lib.hid (Jr.St.sync HST.out).1
          unfold ptrJ
          go_wp2_with fail
          (with_reducible refine (hap.out).mono ?_)
          rintro _ w5 ⟨rfl, G5, _⟩
          have HG5 := Lib.hid G5
          clear G5
          have hz : Hid (StI w1 db (k + 1) (.pointer (some ⟨p.1, 0, none⟩)) w5) := ⟨some (p.1, (Jr.syncJ D p.2).2.1), _, rfl, HG5.out, hst.out.mono (by omega)⟩
          go_wp2_with fail
          go_roundw
          case rel => exact ⟨k + 1, by omega, by go_num, hz.out⟩
          case measure => simp [intOf]; omega
      have b1 : (kd == 1) = false := beq_eq_false_iff_ne.2 e1
      by_cases e2 : kd = 2
      · subst e2
        have hap := Lib.hid (lose_t HG.out HQ.out.2.1)
        have hst := Lib.hid (HST.out.lose (k := nn) HQ.out.2.1.2)
        go_wp2_with fail
        (with_reducible refine (hap.out).mono ?_)
        rintro _ w5 ⟨rfl, G5, _⟩
        have HG5 := Lib.hid G5
        clear G5
        have hz : Hid (StI w1 db (k + 1) (ptrJ jp) w5) := ⟨_, _, rfl, HG5.out, hst.out.mono (by omega)⟩
        go_wp2_with fail
        go_roundw
        case rel => exact ⟨k + 1, by omega, by go_num, hz.out⟩
        case measure => simp [intOf]; omega
      have b2 : (kd == 2) = false := beq_eq_false_iff_ne.2 e2
      by_cases e4 : kd = 4
      · subst e4
        have hap := Lib.hid (crash_t HG.out.forget g1 0 w.heap.size U1.out.size _ kp HQ.out.2.2.1 (HQ.out.1.nw U1.out))
        have hst := Lib.hid (HST.out.crash kp).open_
        go_wp2_with fail
        (with_reducible refine (hap.out).mono ?_)
        rintro _ w5 ⟨rfl, G5, _⟩
        have hsr := Lib.hid (start_t G5)
        clear G5
        go_wp2_with fail
        (with_reducible refine (hsr.out).mono ?_)
        rintro _ w6 ⟨rfl, G6, _⟩
        have hop := Lib.hid (open_t G6 g1 (f := 0) (I64_s (by decide)))
        clear G6
        go_wp2_with fail
        (with_reducible refine (hop.out).mono ?_)
        rintro _ w7 ⟨pv7, rfl, o7, _⟩
        obtain ⟨jp7, D7, rfl, G7, S7⟩ := OS.any o7 hst.out
        have HG7 := Lib.hid (And.intro G7 S7)
        clear G7 S7 o7
        have hz : Hid (StI w1 db (k + 1) (ptrJ jp7) w7) := ⟨_, _, rfl, HG7.out.1, HG7.out.2.mono (by omega)⟩
        go_wp2_with fail
        go_roundw
        case rel => exact ⟨k + 1, by omega, by go_num, hz.out⟩
        case measure => simp [intOf]; omega
      have b4 : (kd == 4) = false := beq_eq_false_iff_ne.2 e4
      have hz : Hid (StI w1 db (k + 1) (ptrJ jp) wr) := ⟨_, _, rfl, HG.out, HST.out.mono (by omega)⟩
      go_wp2_with fail
      go_roundw
      case rel => exact ⟨k + 1, by omega, by go_num, hz.out⟩
      case measure => simp [intOf]; omega
    · obtain rfl : k = C.length := by omega
      clear hcells
      cases jp with
      | none =>
        have hfin := Lib.hid (U1.out.trans HG.out.nw0)
        unfold ptrJ
        go_wp2_with fail
        go_ret
        exact ⟨rfl, hfin.out⟩
      | some p =>
      obtain ⟨jb, j0⟩ := p
      unfold ptrJ
      have hall := Lib.hid (all_t HG.out g1)
      go_wp2_with fail
      (with_reducible refine (hall.out).mono ?_)
      rintro _ w4 ⟨vw, rfl, ow, u4⟩
      have GW := HG.out.keep (F' := fun k => vw.ownBlock = some k) u4 (fun k hk => Or.inr (by obtain ⟨a, cs, b⟩ := own_blockD ow hk; exact ⟨a, lt_of_block b⟩))
      have HJ0 : Hid (StJ w1 db jb wr.heap.size C.length vw w4) := ⟨j0, D, GW, HST.out, ow, u4.size⟩
      have hgw : nG ≤ wr.heap.size := (HG.out.gl g1).big
      have hS8 : (S.length : Int) ≤ 8 := by have := hT.out.2; omega
      have hS0 : (0 : Int) ≤ S.length := by omega
      have hww := Lib.hid (HG.out.nw0.size)
      clear hall ow u4 GW HG HST
      obtain ⟨wB, hwB⟩ : ∃ x, x = wr := ⟨_, rfl⟩
      rw [← hwB] at HJ0 hgw hww
      clear hwB
      go_wp2_with fail
      go_loopw [14, 15] (fun wv iv wr => ∃ k : Nat, k ≤ S.length ∧ iv = .int .i64 k ∧ Hid (StJ w1 db jb wB.heap.size (C.length + k) wv wr)) (fun _ iv _ => S.length - (intOf iv).toNat)
      case atStart => exact ⟨0, Nat.zero_le _, rfl, HJ0.out⟩
      case round =>
        obtain ⟨k, hk, rfl, HJ⟩ := hrel
        obtain ⟨j, D, G, ST, ow, hBz⟩ := HJ.out
        have HG := Lib.hid G
        have HST := Lib.hid ST
        obtain ⟨aw, cw, rfl⟩ := own_slD ow
        have HO := Lib.hid ow
        have uw := U1.out.trans G.nw0
        obtain ⟨a', cap', ev, _, hcells⟩ := str_cells (HA.out.2.1.nw uw)
        simp only [Value.slice.injEq, true_and] at ev
        obtain ⟨rfl, rfl⟩ := ev
        have hrl : j.recs.length ≤ 40 := by
          obtain ⟨all, sure, _, _, _, h6⟩ := ST.inv
          have := (h6 j rfl).2.1
          have := hF.out.2
          have := hT.out.2
          omega
        have HRL := Lib.hid hrl
        clear G ST uw HJ ow hrl
        by_cases hlt : k < S.length
        · rcases hcells with hnil | ⟨b, off, rfl, hbw, hbz, hcell⟩
          · rw [hnil] at hlt; simp at hlt
          have x0 := hcell k hlt
          have q5 := hT.out.1 S[k] (List.getElem_mem hlt)
          clear hcell
          generalize S[k] = ss at *
          have hap := Lib.hid (append_t HG.out g1 ss (by omega))
          have hst := Lib.hid (Jr.St.append HST.out (by have := hF.out.2; have := hT.out.2; omega) q5)
          dsimp only at hap
          go_wp2_with fail
          (with_reducible refine (hap.out).mono ?_)
          rintro _ w5 ⟨rfl, G5, m5⟩
          have o5 := Lib.hid (owns_updD HO.out m5 (fun k hk e => e.1 hk))
          have hW5 : wB.heap.size ≤ w5.heap.size := Nat.le_trans hBz m5.size
          have x5 : w5.cell? ⟨b, off + k, none⟩ = some (.string ⟨ss.toArray⟩) := (World.cell?_of_block (m5.block b hbz (Or.inr (fun e => by have := e.2; have := U1.out.size; omega)))).trans x0
          have HG5 := Lib.hid G5
          clear G5 m5 hap
          rcases hst.out.2 with ⟨hbr, he⟩ | ⟨hbr, he⟩
          · have hz : Hid (StJ w1 db jb wB.heap.size (C.length + (k + 1)) (.slice aw j.recs.length cw) w5) := ⟨_, _, HG5.out, hst.out.1, by rw [he]; exact o5.out, hW5⟩
            rw [he]
            clear he hst
            go_wp2_with fail
            go_roundw
            case rel => exact ⟨k + 1, by omega, by go_num, hz.out⟩
            case measure => simp [intOf]; omega
          · have he1 : (Jr.append D j ss).2.1 = { j with recs := j.recs ++ [ss] } := by rw [he]
            have he2 : (Jr.append D j ss).2.2 = 0 := by rw [he]
            rw [he2]
            have HE1 := Lib.hid he1
            clear he he1 he2
            go_wp2_with (at_builtin; refine wpList_appL rfl _ _ 22 rfl wB.heap.size tStrJ _ 1 16 Tryd.underlying22 infoStrJ rfl (by decide) _ _ _ rfl o5.out [bsV ss] rfl rfl ?c1 ?c2 ?c3 hW5 hgw ?_)
            case c1 => intro u hu; rw [List.mem_singleton.1 hu]; rfl
            case c2 => have := HRL.out; unfold maxLen; omega
            case c3 => have := HRL.out; omega
            intro v' w6 o6 u6 hob
            have hz : Hid (StJ w1 db jb wB.heap.size (C.length + (k + 1)) v' w6) := ⟨_, _, HG5.out.upd_keep u6 (fun k hk => Or.inl ⟨hk, by have := (o5.out.lt k hk).1; have := hww.out; omega⟩) (fun k hk => (hob k hk).imp id (fun e => by obtain ⟨a, cs, b⟩ := own_blockD o6 hk; exact ⟨e, lt_of_block b⟩)), hst.out.1, by rw [HE1.out]; dsimp only; rw [List.length_append, List.map_append]; exact o6, Nat.le_trans hW5 u6.size⟩
            clear o6 u6 hob
            go_wp2_with fail
            go_roundw
            case rel => exact ⟨k + 1, by omega, by go_num, hz.out⟩
            case measure => simp [intOf]; omega
        · obtain rfl : k = S.length := by omega
          clear hcells hBz
          have hsy := Lib.hid (jsync_t HG.out g1)
          have hst := Lib.hid (Jr.St.sync HST.out)
          dsimp only at hsy
          go_wp2_with fail
          (with_reducible refine (hsy.out).mono ?_)
          rintro _ w5 ⟨rfl, G5, m5⟩
          have o5 := Lib.hid (owns_updD HO.out m5 (fun k hk e => e.1 hk))
          have HG5 := Lib.hid G5
          clear G5 m5 hsy HST HG HO
          generalize Jr.syncJ D j = X at *
          obtain ⟨D5, j5, E⟩ := X
          dsimp only at *
          obtain ⟨s1, s2, s3⟩ := hst.out
          clear hst
          by_cases hE : E = 0
          rotate_left
          · have b1 : (E == 0) = false := beq_eq_false_iff_ne.2 hE
            have b2 : (E != 0) = true := by simp [hE]
            have hal := all_t HG5.out g1
            dsimp only at hal
            rw [s2] at hal
            have Hal := Lib.hid hal
            clear hal s1 s2 s3 hE
            go_wp2_with fail
            (with_reducible refine (Hal.out).mono ?_)
            rintro _ w6 ⟨vk, rfl, ok6, u6⟩
            obtain ⟨ak, ck, rfl⟩ := own_slD ok6
            have st := Lib.hid (SameTextsQ _ _ _ _ _ _ j.recs j.recs w6 (Sl.of_owns ok6) (Sl.of_owns (owns_updD o5.out u6 (fun _ _ e => e))))
            have hfin := Lib.hid (U1.out.trans (HG5.out.nw0.trans u6))
            clear ok6 u6
            go_wp2_with fail
            (with_reducible refine (st.out).mono ?_)
            rintro _ w7 ⟨rfl, u7⟩
            go_wp2_with fail
            go_ret
            exact ⟨rfl, hfin.out.trans u7⟩
          subst hE
          obtain ⟨t1, t2⟩ := s3 rfl
          have hlo := Lib.hid (lose_t HG5.out (n := 0) (I64_s (by decide)))
          have HX := Lib.hid (And.intro s1 (And.intro s2 t2))
          clear s1 s2 s3 t1 t2
          go_wp2_with fail
          (with_reducible refine (hlo.out).mono ?_)
          rintro _ w6 ⟨rfl, G6, m6⟩
          have HC0 : Hid (StC w1 db wB.heap.size (.slice aw j.recs.length cw) j.recs (.pointer (some ⟨jb, 0, none⟩)) w6) :=
            ⟨jb, j5, _, rfl, G6, HX.out.2.1, HX.out.1.down, HX.out.1.armed, (by show max (0 : Int) 0 = 0; decide), HX.out.2.2.of_fs (Dk.lose_ok HX.out.2.2.ok (by decide)) rfl, owns_updD o5.out m6 (fun k hk e => e.1 hk)⟩
          generalize j.recs = R at *
          clear G6 m6 hlo HG5 o5 HX
          go_wp2_with fail
          go_loopw [11, 17] (fun jv iv wr => ∃ k : Nat, k ≤ 2 ∧ iv = .int .i64 k ∧ Hid (StC w1 db wB.heap.size (.slice aw R.length cw) R jv wr)) (fun _ iv _ => 2 - (intOf iv).toNat)
          case atStart => exact ⟨0, Nat.zero_le _, rfl, HC0.out⟩
          case round =>
            obtain ⟨k, hk, rfl, HC⟩ := hrel
            obtain ⟨jb8, j8, D8, rfl, G8, e8, d8, r8, l8, i8, o8⟩ := HC.out
            have HG8 := Lib.hid G8
            have HO8 := Lib.hid o8
            have hal := all_t G8 g1
            dsimp only at hal
            rw [e8] at hal
            have Hal := Lib.hid hal
            have HX8 := Lib.hid (And.intro d8 (And.intro l8 i8))
            clear HC G8 e8 d8 r8 l8 i8 o8 hal
            by_cases hk0 : k = 0
            · subst hk0
              go_wp2_with fail
              (with_reducible refine Hal.out.mono ?_)
              rintro _ w9 ⟨vk, rfl, ok9, u9⟩
              obtain ⟨ak, ck, rfl⟩ := own_slD ok9
              have HO9 := Lib.hid (owns_updD HO8.out u9 (fun _ _ e => e))
              have st := Lib.hid (SameTextsQ _ _ _ _ _ _ R R w9 (Sl.of_owns ok9) (Sl.of_owns HO9.out))
              have HG9 := Lib.hid (HG8.out.nw u9)
              clear ok9 u9
              go_wp2_with fail
              (with_reducible refine st.out.mono ?_)
              rintro _ w10 ⟨rfl, u10⟩
              have HG10 := Lib.hid (HG9.out.nw u10)
              have HO10 := Lib.hid (owns_updD HO9.out u10 (fun _ _ e => e))
              clear u10 HO9 HG9
              obtain ⟨D11, q1, q2, q3, q4, q5⟩ := Jr.sure_open HX8.out.1 HX8.out.2.1 HX8.out.2.2 one
              have hcr := Lib.hid (crash_t HG10.out g1 0 w.heap.size U1.out.size _ one HA.out.2.2.2.1 (HA.out.2.2.1.nw U1.out))
              have HQ := Lib.hid (And.intro q1 (And.intro q2 (And.intro q3 (And.intro q4 q5))))
              clear q1 q2 q3 q4 q5
              go_wp2_with fail
              (with_reducible refine hcr.out.mono ?_)
              rintro _ w11 ⟨rfl, G11, m11⟩
              have o11 := Lib.hid (owns_updD HO10.out m11 (fun k hk e => e.1 hk))
              have hsr := Lib.hid (start_t G11)
              clear G11 m11 hcr
              go_wp2_with fail
              (with_reducible refine hsr.out.mono ?_)
              rintro _ w12 ⟨rfl, G12, m12⟩
              have o12 := Lib.hid (owns_updD o11.out m12 (fun k hk e => e.1 hk))
              have hop := open_t G12 g1 (f := 0) (I64_s (by decide))
              rw [HQ.out.1] at hop
              have Hop := Lib.hid hop
              clear hop G12 m12 hsr o11
              go_wp2_with fail
              (with_reducible refine Hop.out.mono ?_)
              rintro _ w13 ⟨pv, rfl, o13, m13⟩
              obtain ⟨jb13, rfl, G13⟩ := o13.some_
              have hz : Hid (StC w1 db wB.heap.size (.slice aw R.length cw) R (.pointer (some ⟨jb13, 0, none⟩)) w13) := ⟨jb13, _, D11, rfl, G13, rfl, HQ.out.2.1, HQ.out.2.2.1, HQ.out.2.2.2.1, HQ.out.2.2.2.2, owns_updD o12.out m13 (fun k hk e => e.1 hk)⟩
              clear G13 m13 o13 o12 Hop
              go_wp2_with fail
              go_roundw
              case rel => exact ⟨1, by omega, by go_num, hz.out⟩
              case measure => simp [intOf]
            by_cases hk1 : k = 1
            · subst hk1
              go_wp2_with fail
              (with_reducible refine Hal.out.mono ?_)
              rintro _ w9 ⟨vk, rfl, ok9, u9⟩
              obtain ⟨ak, ck, rfl⟩ := own_slD ok9
              have HO9 := Lib.hid (owns_updD HO8.out u9 (fun _ _ e => e))
              have st := Lib.hid (SameTextsQ _ _ _ _ _ _ R R w9 (Sl.of_owns ok9) (Sl.of_owns HO9.out))
              have HG9 := Lib.hid (HG8.out.nw u9)
              clear ok9 u9
              go_wp2_with fail
              (with_reducible refine st.out.mono ?_)
              rintro _ w10 ⟨rfl, u10⟩
              have HG10 := Lib.hid (HG9.out.nw u10)
              have HO10 := Lib.hid (owns_updD HO9.out u10 (fun _ _ e => e))
              clear u10 HO9 HG9
              obtain ⟨D11, q1, q2, q3, q4, q5⟩ := Jr.sure_open HX8.out.1 HX8.out.2.1 HX8.out.2.2 two
              have hcr := Lib.hid (crash_t HG10.out g1 0 w.heap.size U1.out.size _ two HA.out.2.2.2.2.2 (HA.out.2.2.2.2.1.nw U1.out))
              have HQ := Lib.hid (And.intro q1 (And.intro q2 (And.intro q3 (And.intro q4 q5))))
              clear q1 q2 q3 q4 q5
              go_wp2_with fail
              (with_reducible refine hcr.out.mono ?_)
              rintro _ w11 ⟨rfl, G11, m11⟩
              have o11 := Lib.hid (owns_updD HO10.out m11 (fun k hk e => e.1 hk))
              have hsr := Lib.hid (start_t G11)
              clear G11 m11 hcr
              go_wp2_with fail
              (with_reducible refine hsr.out.mono ?_)
              rintro _ w12 ⟨rfl, G12, m12⟩
              have o12 := Lib.hid (owns_updD o11.out m12 (fun k hk e => e.1 hk))
              have hop := open_t G12 g1 (f := 0) (I64_s (by decide))
              rw [HQ.out.1] at hop
              have Hop := Lib.hid hop
              clear hop G12 m12 hsr o11
              go_wp2_with fail
              (with_reducible refine Hop.out.mono ?_)
              rintro _ w13 ⟨pv, rfl, o13, m13⟩
              obtain ⟨jb13, rfl, G13⟩ := o13.some_
              have hz : Hid (StC w1 db wB.heap.size (.slice aw R.length cw) R (.pointer (some ⟨jb13, 0, none⟩)) w13) := ⟨jb13, _, D11, rfl, G13, rfl, HQ.out.2.1, HQ.out.2.2.1, HQ.out.2.2.2.1, HQ.out.2.2.2.2, owns_updD o12.out m13 (fun k hk e => e.1 hk)⟩
              clear G13 m13 o13 o12 Hop
              go_wp2_with fail
              go_roundw
              case rel => exact ⟨2, by omega, by go_num, hz.out⟩
              case measure => simp [intOf]
            obtain rfl : k = 2 := by omega
            clear hk0 hk1
            go_wp2_with fail
            (with_reducible refine Hal.out.mono ?_)
            rintro _ w9 ⟨vk, rfl, ok9, u9⟩
            obtain ⟨ak, ck, rfl⟩ := own_slD ok9
            have HO9 := Lib.hid (owns_updD HO8.out u9 (fun _ _ e => e))
            have st := Lib.hid (SameTextsQ _ _ _ _ _ _ R R w9 (Sl.of_owns ok9) (Sl.of_owns HO9.out))
            have HG9 := Lib.hid (HG8.out.nw u9)
            clear ok9 u9
            go_wp2_with fail
            (with_reducible refine st.out.mono ?_)
            rintro _ w10 ⟨rfl, u10⟩
            have HG10 := Lib.hid (HG9.out.nw u10)
            have HO10 := Lib.hid (owns_updD HO9.out u10 (fun _ _ e => e))
            clear u10 HO9 HG9
            go_wp2_with fail
            go_ret
            exact ⟨rfl, U1.out.trans HG10.out.nw0⟩
end Go.Proofs.YtmlnpmdbcbiemaaDoor
