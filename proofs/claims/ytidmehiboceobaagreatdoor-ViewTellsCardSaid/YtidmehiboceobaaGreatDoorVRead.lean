/- The contracts of the view's Copy and Read. -/
import Derived.Test.YtidmehiboceobaaGreatDoorView8
import Derived.Test.YtidmehiboceobaaGreatDoorRdr
import Derived.Test.YtidmehiboceobaaGreatDoorViewGr
namespace Go.Proofs.YtidmehiboceobaaGreatDoor
open Go.RowKit
set_option linter.unusedVariables false
set_option linter.unusedSimpArgs false
attribute [local irreducible] Calls

theorem rtext_len (st : Wire.St) : (Wire.rText st).1.length ≤ (st.getD []).length := by
  cases h : (Wire.rText st).2 with
  | none => rw [Wire.rText_fail h]; exact Nat.zero_le _
  | some r =>
    cases st with
    | none => rw [show Wire.rText none = ([], none) from rfl] at h; cases h
    | some s =>
      have := Wire.rText_inv (r := s) (r' := r) (t := (Wire.rText (some s)).1) (by rw [← h])
      show _ ≤ s.length
      have e : s.length = (Wire.textE (Wire.rText (some s)).1 ++ r).length := congrArg List.length this
      rw [e]
      simp only [Wire.textE, List.length_append]; omega
def leftW (w : World) (b : Nat) : Nat := match w.cell? ⟨b, 0, none⟩ with
  | some (.string s) => s.size
  | _ => 0
theorem left_rdr {T : TypeId} {w : World} {b : Nat} {st : Wire.St} (h : Rdr T w b st) : leftW w b = (st.getD []).length := by
  unfold leftW
  rw [h.c0]
  simp [bs_size]
/-- In the reading loop. -/
structure RdS (w : World) (b : Nat) (key n : Int) (s : List UInt8) (l : List Bk.Sgn) (st : Wire.St) (f : Nat) (vo : Value) (z : World) : Prop where
  it : Vw.items key n f l st = Vw.itemsOf s
  fuel : (st.getD []).length < f
  rd : Rdr tR z b st
  own : z.ownsRow w.heap.size tSigned 3 vo l.length (flatS l)
  nw : Nw w z
  all : ∀ x ∈ l, x.key = key ∧ 0 ≤ x.mark ∧ I64 x.mark ∧ x.text.length ≤ s.length
  len : l.length + (st.getD []).length ≤ s.length
def ReadPost (rb : Nat) (Lr : List Bk.Seal) (s : List UInt8) (w : World) (e : Ending) (w' : World) : Prop :=
  Nw w w' ∧ ((∃ L r, Vw.readV Lr s = (some L, 0) ∧ e = .returned (.tuple #[.pointer (some ⟨r.vb, 0, none⟩), .int .i64 0]) ∧ ViewAt w.heap.size w' r rb (Wire.rNum (some s)).1 L ∧ Vw.VOk Lr (Wire.rNum (some s)).1 L) ∨
    ((Vw.readV Lr s).1 = none ∧ e = .returned (.tuple #[.pointer none, .int .i64 (Vw.readV Lr s).2])))
/-- In the taking loop: the ring asked, the new view, the slice of what was read. -/
def RdT (B : Nat) (w : World) (q : RingR) (Lr : List Bk.Seal) (key : Int) (vb : Nat) (ov : Value) (l L : List Bk.Sgn) (z : World) : Prop :=
  ∃ r, r.vb = vb ∧ RingAt B z q Lr ∧ ViewAt w.heap.size z r q.rb key L ∧ Vw.VOk Lr key L ∧ z.ownsRow w.heap.size tSigned 3 ov l.length (flatS l) ∧ (∀ j, ov.ownBlock = some j → ¬ r.foot j) ∧ Nw w z
theorem RdT.nw {B : Nat} {w : World} {q : RingR} {Lr : List Bk.Seal} {key : Int} {vb : Nat} {ov : Value} {l L : List Bk.Sgn} {z z' : World} (h : RdT B w q Lr key vb ov l L z) (u : Nw z z') : RdT B w q Lr key vb ov l L z' := by
  obtain ⟨r, h1, h2, h3, h4, h5, h6, h7⟩ := h
  exact ⟨r, h1, h2.nw u, h3.nw u, h4, owns_upd' h5 u (fun _ _ e => e), h6, h7.trans u⟩
theorem rdt_nw {B : Nat} {w : World} {q : RingR} {Lr : List Bk.Seal} {key : Int} {vb : Nat} {ov : Value} {l L : List Bk.Sgn} {z : World} (h : RdT B w q Lr key vb ov l L z) : Nw w z := by obtain ⟨r, h1, h2, h3, h4, h5, h6, h7⟩ := h; exact h7
theorem rdt_acc {B : Nat} {w : World} {q : RingR} {Lr : List Bk.Seal} {key : Int} {vb : Nat} {ov : Value} {l L : List Bk.Sgn} {z : World} (h : RdT B w q Lr key vb ov l L z) (hqlt : ∀ j, q.foot j → j < w.heap.size) (g : Gl z) (s : Bk.Sgn) (hs : SgnOk s) (hL : L.length ≤ 900000) :
    Calls Tryz.prog 14 #[.pointer (some ⟨vb, 0, none⟩), .agg #[.int .i64 s.key, .string ⟨s.text.toArray⟩, .int .i64 s.mark]] z fun e w' => e = .returned (.int .i64 (Vw.accept Lr key L s).1) ∧ RdT B w q Lr key vb ov l (Vw.accept Lr key L s).2 w' := by
  obtain ⟨r, rfl, h2, h3, h4, h5, h6, h7⟩ := h
  refine (accept_v w.heap.size B r q key Lr L s z g h2 h3 h4 hs h7.size hL).mono ?_
  rintro e w' ⟨r', rfl, hv, hvb, u, hf⟩
  refine ⟨rfl, r', hvb, h2.upd u (fun j hj e => by have := hqlt j hj; have := (h3.foot_lt e).1; omega), hv, Vw.accept_ok h4 s, owns_upd' h5 u h6, fun j hj e => ?_, h7.trans' u (fun j hj e => by have := (h3.foot_lt e).1; omega)⟩
  rcases hf j e with e2 | e2
  · exact h6 j hj e2
  · obtain ⟨_, cs, e3⟩ := own_block h5 hj
    have := lt_of_block e3
    omega
theorem rdt_slice {B : Nat} {w : World} {q : RingR} {Lr : List Bk.Seal} {key : Int} {vb : Nat} {ov : Value} {l L : List Bk.Sgn} {z : World} (h : RdT B w q Lr key vb ov l L z) : ∃ a cap, z.cell? ⟨vb, 2, none⟩ = some (.slice a L.length cap) ∧ SlS 3 w.heap.size z.heap.size z (.slice a L.length cap) (L.map sgl) := by
  obtain ⟨r, rfl, h2, h3, h4, h5, h6, h7⟩ := h
  obtain ⟨a, cap, e⟩ := h3.sslice
  refine ⟨a, cap, ?_, ?_⟩
  · rw [h3.cells.2.2.1, e]
  · have := sgn_sls h3.sown
    rwa [e] at this
theorem rd_at8 {B : Nat} {w : World} {a : Option Addr} {n cap : Nat} {L : List Bk.Sgn} {k : Nat} (h : w.ownsRow B tSigned 3 (.slice a n cap) L.length (flatS L)) (hk : k < L.length) :
    ∃ b o, a = some ⟨b, o, none⟩ ∧ w.cell? ⟨b, o + k * 3, none⟩ = some (.int .i64 L[k].key) ∧ w.cell? ⟨b, o + k * 3 + 1, none⟩ = some (.string ⟨L[k].text.toArray⟩) ∧ w.cell? ⟨b, o + k * 3 + 2, none⟩ = some (.int .i64 L[k].mark) := by
  obtain ⟨a', cap', e, _, hc⟩ := sgn_cells (sgn_sls h)
  obtain ⟨rfl, _, _⟩ : a = a' ∧ n = L.length ∧ cap = cap' := by simpa using e
  rcases hc with hnil | ⟨b, o, rfl, _, _, hc⟩
  · simp [hnil] at hk
  · exact ⟨b, o, rfl, (hc k hk).1, (hc k hk).2.1, (hc k hk).2.2⟩
set_option maxHeartbeats 8000000 in
set_option maxRecDepth 100000 in
theorem read_v (B : Nat) (q : RingR) (Lr : List Bk.Seal) (s : List UInt8) (w : World) (g : Gl w) (hq : RingAt B w q Lr) (hs : s.length ≤ 800000) :
    Calls Tryz.prog 36 #[.pointer (some ⟨q.rb, 0, none⟩), .string ⟨s.toArray⟩] w (ReadPost q.rb Lr s w) := by
  have hgb := g.big
  have hqlt : ∀ j, q.foot j → j < w.heap.size := fun j hj => (hq.foot_lt hj).2
  have hk63 := Wire.rNumber_i64 (some s) 59 0
  have hn63 := Wire.rNumber_i64 (Wire.rNum (some s)).2 59 0
  have hle1 := Wire.rNumber_le (some s) 59 0
  have hle2 := Wire.rNumber_le (Wire.rNum (some s)).2 59 0
  change ((Wire.rNum (some s)).2.getD []).length ≤ s.length at hle1
  change ((Wire.rNum (Wire.rNum (some s)).2).2.getD []).length ≤ _ at hle2
  change -9223372036854775808 ≤ (Wire.rNum (some s)).1 ∧ (Wire.rNum (some s)).1 ≤ 9223372036854775807 at hk63
  change -9223372036854775808 ≤ (Wire.rNum (Wire.rNum (some s)).2).1 ∧ (Wire.rNum (Wire.rNum (some s)).2).1 ≤ 9223372036854775807 at hn63
  have hit : Hid (Vw.items (Wire.rNum (some s)).1 (Wire.rNum (Wire.rNum (some s)).2).1 (s.length + 1) [] (Wire.rNum (Wire.rNum (some s)).2).2 = Vw.itemsOf s) := by show _ = _; rfl
  have Hq := Lib.hid hq
  have Hs := Lib.hid hs
  clear hq hs
  go_enter Tryz.func36, Tryz.ntmps36
  go_wp2_with fail
  (with_reducible refine (Open_r ⟨s.toArray⟩ s (bs_list _) _ g).mono ?_)
  rintro _ w1 ⟨b, rfl, hb, h1, u1⟩
  have g1 := g.upd u1
  go_wp2_with fail
  (with_reducible refine (Num_r b (some s) _ g1 h1 (by have := Hs.out; simp only [Option.getD_some]; omega)).mono ?_)
  rintro _ w2 ⟨rfl, h2, u2⟩
  have g2 := g1.upd u2
  have hbw : w.heap.size ≤ b := hb
  go_wp2_with fail
  (with_reducible refine (Num_r b (Wire.rNum (some s)).2 _ g2 h2 (by have := Hs.out; omega)).mono ?_)
  rintro _ w3 ⟨rfl, h3, u3⟩
  have U3 : Nw w w3 := (u1.trans' u2 (fun j hj e => by omega)).trans' u3 (fun j hj e => by omega)
  have hst : RdS w b (Wire.rNum (some s)).1 (Wire.rNum (Wire.rNum (some s)).2).1 s [] (Wire.rNum (Wire.rNum (some s)).2).2 (s.length + 1) (.slice none 0 0) w3 :=
    ⟨hit.out, by omega, h3, World.ownsRow_nil _ _ _ _, U3, fun x hx => (by cases hx), by simp only [List.length_nil]; omega⟩
  have Hst := Lib.hid hst
  have Hform : Hid (Vw.goodForm s = (decide ((Vw.itemsOf s).2 = some []) && decide (((Vw.itemsOf s).1.length : Int) = (Wire.rNum (Wire.rNum (some s)).2).1) && Bk.isKey (Wire.rNum (some s)).1)) := by show _ = _; rfl
  have Hread : Hid (Vw.readV Lr s = if Vw.goodForm s then Vw.takeAll Lr (Wire.rNum (some s)).1 [] (Vw.itemsOf s).1 else (none, 2)) := by show _ = _; rfl
  have hpost : Hid (∀ e z, (Nw w z ∧ ((∃ L r, Vw.readV Lr s = (some L, 0) ∧ e = .returned (.tuple #[.pointer (some ⟨r.vb, 0, none⟩), .int .i64 0]) ∧ ViewAt w.heap.size z r q.rb (Wire.rNum (some s)).1 L ∧ Vw.VOk Lr (Wire.rNum (some s)).1 L) ∨ ((Vw.readV Lr s).1 = none ∧ e = .returned (.tuple #[.pointer none, .int .i64 (Vw.readV Lr s).2])))) → ReadPost q.rb Lr s w e z) := fun e z h => h
  clear hst h1 h2 h3 hit hle1 hle2 u1 u2 u3 g1 g2
  generalize (Wire.rNum (Wire.rNum (some s)).2).1 = n at *
  generalize (Wire.rNum (some s)).1 = key at *
  go_wp2_with fail
  go_loopw [9] (fun vo wr => Hid (∃ l st f, RdS w b key n s l st f vo wr)) (fun vo wr => leftW wr b)
  case atStart => exact ⟨_, _, _, Hst.out⟩
  case round =>
    obtain ⟨l, st, f, R⟩ := hrel.out
    obtain ⟨a, cap, rfl⟩ := own_sl R.own
    have gw := g.upd R.nw
    have hl := R.len
    have hs8 := Hs.out
    have hf := R.fuel
    have HR := Lib.hid R
    obtain ⟨f', rfl⟩ : ∃ f', f = f' + 1 := ⟨f - 1, by omega⟩
    by_cases hc1 : (l.length : Int) < n
    · by_cases hc2 : 0 < (st.getD []).length
      · have hstep : Vw.items key n (f' + 1) l st = Vw.items key n f' (l ++ [⟨key, (Wire.rText (Wire.rNum st).2).1, (Wire.rNum st).1⟩]) (Wire.rText (Wire.rNum st).2).2 := by
          rw [Vw.items, if_pos ⟨hc1, hc2⟩]
        have hless := Vw.left_less hc2
        have hm63 := Wire.rNumber_i64 st 59 0
        have hm0 := Wire.rNumber_least st 59 0 (Int.le_refl 0)
        have hnl := Wire.rNumber_le st 59 0
        have htl := rtext_len (Wire.rNum st).2
        change -9223372036854775808 ≤ (Wire.rNum st).1 ∧ (Wire.rNum st).1 ≤ 9223372036854775807 at hm63
        change 0 ≤ (Wire.rNum st).1 at hm0
        change ((Wire.rNum st).2.getD []).length ≤ _ at hnl
        have c1' : Hid ((st.getD []).length ≤ 9223372036854775807) := by show _ ≤ _; omega
        have c2' : Hid (((Wire.rNum st).2.getD []).length ≤ 9223372036854775807) := by show _ ≤ _; omega
        have hgt : (0 : Int) < ((st.getD []).length : Int) := by omega
        have hL := fun z (h : Rdr tR z b st) => Left_r tR b st z h
        have hN := fun z (gz : Gl z) (h : Rdr tR z b st) => Num_r b st z gz h c1'.out
        have hT := fun z (gz : Gl z) (h : Rdr tR z b (Wire.rNum st).2) => Text_r b (Wire.rNum st).2 z gz h c2'.out
        have HL := Lib.hid hL
        have HN := Lib.hid hN
        have HT := Lib.hid hT
        have Hstep := Lib.hid hstep
        have Hless := Lib.hid hless
        have Hbnd : Hid (0 ≤ (Wire.rNum st).1 ∧ I64 (Wire.rNum st).1 ∧ (Wire.rText (Wire.rNum st).2).1.length ≤ s.length) := ⟨hm0, hm63, by omega⟩
        have h63 : Hid (l.length + 1 ≤ maxLen ∧ (l.length + 1) * 32 ≤ 140737488355328) := ⟨by unfold maxLen; omega, by omega⟩
        have hlf : Hid ((st.getD []).length < f' + 1 ∧ l.length + (st.getD []).length ≤ s.length) := ⟨hf, hl⟩
        clear hL hN hT hstep hless hm63 hm0 hnl htl R hrel hc2 hl hf
        generalize hSL : ((st.getD []).length : Int) = sl at *
        generalize hM : (Wire.rNum st).1 = m at *
        generalize hTX : (Wire.rText (Wire.rNum st).2).1 = tx at *
        have HSL := Lib.hid hSL
        clear hSL hM hTX
        go_wp2_with fail
        (with_reducible refine (HL.out _ HR.out.rd).mono ?_)
        rintro _ _ ⟨rfl, rfl⟩
        go_wp2_with fail
        (with_reducible refine (HN.out _ gw HR.out.rd).mono ?_)
        rintro _ x1 ⟨rfl, r1, v1⟩
        have g1 := gw.upd v1
        go_wp2_with fail
        (with_reducible refine (HT.out _ g1 r1).mono ?_)
        rintro _ x2 ⟨rfl, r2, v2⟩
        have V2 : Upd (· = b) wr x2 := v1.trans v2
        have hob : ∀ k, (Value.slice a l.length cap).ownBlock = some k → ¬ k = b := by
          rintro k hk rfl
          obtain ⟨_, cs, e1⟩ := own_block HR.out.own hk
          have e2 := HR.out.rd.2
          rw [e1] at e2
          injection e2 with e2
          injection e2 with _ e2
          exact absurd e2 (by decide)
        have hown2 : x2.ownsRow w.heap.size tSigned 3 (.slice a l.length cap) l.length (flatS l) := owns_upd' HR.out.own V2 hob
        have hsz := HR.out.nw.size
        have hsz2 := V2.size
        have Hown2 := Lib.hid hown2
        have Hob := Lib.hid hob
        clear hown2 hob
        go_wp2_with (at_builtin; refine wpList_appL rfl _ _ 27 rfl w.heap.size tSigned _ 3 32 Tryz.underlying27 infoSgn rfl (by decide) (.slice a l.length cap) l.length (flatS l) rfl Hown2.out (sgl ⟨key, tx, m⟩) rfl rfl (sgl_one _) h63.out.1 h63.out.2 (by omega) hgb ?_)
        intro v' w4 hown hu hob2
        obtain ⟨a2, cap2, rfl⟩ := own_sl hown
        have Hown := Lib.hid hown
        clear hown
        have hnb : ¬ (Value.slice a l.length cap).ownBlock = some b := fun e => Hob.out b e rfl
        have hfin : RdS w b key n s (l ++ [⟨key, tx, m⟩]) (Wire.rText (Wire.rNum st).2).2 f' (.slice a2 (l.length + 1) cap2) w4 := by
          refine ⟨Hstep.out.symm.trans HR.out.it, by have := Hless.out; have := hlf.out.1; omega, r2.upd hu hnb, ?_, (HR.out.nw.trans' V2 (fun j hj e => by omega)).trans' hu (fun j hj e => by have := (own_block Hown2.out e).1; omega), ?_, ?_⟩
          · rw [List.length_append, flatS_snoc]; exact Hown.out
          · intro x hx
            rcases List.mem_append.1 hx with hx | hx
            · exact HR.out.all x hx
            · rw [List.mem_singleton.1 hx]
              exact ⟨rfl, Hbnd.out.1, Hbnd.out.2.1, Hbnd.out.2.2⟩
          · rw [List.length_append]
            have := Hless.out
            have := hlf.out.2
            simp only [List.length_cons, List.length_nil]
            omega
        have Hfin := Lib.hid hfin
        have hm1 : leftW w4 b < leftW wr b := by
          rw [left_rdr hfin.rd, left_rdr HR.out.rd]
          exact Hless.out
        clear hfin r1 r2
        go_wp2_with fail
        go_roundw
        case rel => exact ⟨_, _, _, Hfin.out⟩
        case measure => exact hm1
      · have hstep : Vw.itemsOf s = (l, st) := by rw [← HR.out.it, Vw.items, if_neg (fun e => hc2 e.2)]
        have hgt : ¬ (0 : Int) < ((st.getD []).length : Int) := by omega
        have HL := Lib.hid (fun z (h : Rdr tR z b st) => Left_r tR b st z h)
        generalize hSL : ((st.getD []).length : Int) = sl at *
        clear hSL hc2 hf
        go_wp2_with fail
        (with_reducible refine (HL.out _ HR.out.rd).mono ?_)
        rintro _ _ ⟨rfl, rfl⟩
        have Hstep := Lib.hid hstep
        have Hnv := Lib.hid (new_v q.rb key wr gw)
        clear hstep R hrel hl
        go_wp2_with fail
        (with_reducible refine (Hnv.out).mono ?_)
        rintro _ x1 hnv
        rcases hnv with ⟨hkk, r, rfl, hr, v1⟩ | ⟨hkk, rfl, v1⟩
        rotate_left
        · have hres : Hid (Vw.readV Lr s = (none, 2)) := by show _ = _; rw [Hread.out, Hform.out, hkk]; simp
          have HD := Lib.hid (Done_r b st x1 (HR.out.rd.nw v1))
          clear hkk
          generalize decide (st = some []) = dd at *
          go_wp2_with fail
          (with_reducible refine (HD.out).mono ?_)
          rintro _ _ ⟨rfl, rfl⟩
          cases dd
          all_goals go_wp2_with fail
          all_goals go_ret2
          all_goals exact hpost.out _ _ ⟨HR.out.nw.trans v1, Or.inr (by rw [hres.out]; exact ⟨rfl, rfl⟩)⟩
        have Hkk := Lib.hid hkk
        have HD := Lib.hid (Done_r b st x1 (HR.out.rd.nw v1))
        have hgf : Vw.goodForm s = (decide (st = some []) && decide ((l.length : Int) = n)) := by rw [Hform.out, Hstep.out, hkk, Bool.and_true]
        clear hkk
        generalize decide (st = some []) = dd at *
        have Hgf := Lib.hid hgf
        clear hgf
        go_wp2_with fail
        (with_reducible refine (HD.out).mono ?_)
        rintro _ _ ⟨rfl, rfl⟩
        cases dd with
        | false =>
          have hres : Hid (Vw.readV Lr s = (none, 2)) := by show _ = _; rw [Hread.out, Hgf.out]; simp
          go_wp2_with fail
          go_ret2
          exact hpost.out _ _ ⟨HR.out.nw.trans v1, Or.inr (by rw [hres.out]; exact ⟨rfl, rfl⟩)⟩
        | true =>
        by_cases hln : (l.length : Int) = n
        rotate_left
        · have hres : Hid (Vw.readV Lr s = (none, 2)) := by show _ = _; rw [Hread.out, Hgf.out, decide_eq_false hln]; simp
          have dln : ((l.length : Int) == n) = false := beq_eq_false_iff_ne.2 hln
          have dln2 : ((l.length : Int) != n) = true := by simp [bne, dln]
          clear hln
          go_wp2_with fail
          go_ret2
          exact hpost.out _ _ ⟨HR.out.nw.trans v1, Or.inr (by rw [hres.out]; exact ⟨rfl, rfl⟩)⟩
        have dln : ((l.length : Int) == n) = true := beq_iff_eq.2 hln
        have dln2 : ((l.length : Int) != n) = false := by simp [bne, dln]
        have hres : Hid (Vw.readV Lr s = Vw.takeAll Lr key [] l) := by show _ = _; rw [Hread.out, Hgf.out, decide_eq_true hln, if_pos (by simp), Hstep.out]
        clear hln
        have hT0 : RdT B w q Lr key r.vb (.slice a l.length cap) l [] x1 := by
          have s1 := HR.out.nw.size
          refine ⟨r, rfl, (Hq.out.nw HR.out.nw).nw v1, hr.base s1 hgb, Vw.VOk.nil _ _, owns_upd' HR.out.own v1 (fun _ _ e => e), fun j hj e => ?_, HR.out.nw.trans v1⟩
          obtain ⟨_, cs, e3⟩ := own_block HR.out.own hj
          have := lt_of_block e3
          have := (hr.foot_lt e).1
          omega
        have HT0 := Lib.hid hT0
        have Hall := Lib.hid HR.out.all
        have hl8 : Hid (l.length ≤ 800000) := by show _ ≤ _; have := HR.out.len; have := Hs.out; omega
        have hl63 : l.length ≤ 800000 := hl8.out
        clear hT0 hr v1 HR HD Hnv
        generalize r.vb = vb at *
        go_wp2_with fail
        go_loopw [58] (fun i wr => ∃ k : Nat, k ≤ l.length ∧ i = .int .i64 k ∧ Hid (∃ L, L.length ≤ k ∧ Vw.takeAll Lr key L (l.drop k) = Vw.takeAll Lr key [] l ∧ RdT B w q Lr key vb (.slice a l.length cap) l L wr)) (fun i _ => l.length - (intOf i).toNat)
        case atStart => exact ⟨0, Nat.zero_le _, rfl, [], Nat.le_refl _, rfl, HT0.out⟩
        case round =>
          obtain ⟨k, hk, rfl, HK⟩ := hrel
          obtain ⟨L, hLk, hta, T⟩ := HK.out
          have gk := g.upd (rdt_nw T)
          have hL9 : L.length ≤ 900000 := by omega
          by_cases hlt : k < l.length
          · have hdrop : l.drop k = l[k] :: l.drop (k + 1) := List.drop_eq_getElem_cons hlt
            rw [hdrop] at hta
            obtain ⟨hx1, hx2, hx3, hx4⟩ := Hall.out l[k] (List.getElem_mem hlt)
            have hcell : ∃ b o, a = some ⟨b, o, none⟩ ∧ wr.cell? ⟨b, o + k * 3, none⟩ = some (.int .i64 l[k].key) ∧ wr.cell? ⟨b, o + k * 3 + 1, none⟩ = some (.string ⟨l[k].text.toArray⟩) ∧ wr.cell? ⟨b, o + k * 3 + 2, none⟩ = some (.int .i64 l[k].mark) := by
              obtain ⟨r, h1, h2, h3, h4, h5, h6, h7⟩ := T
              exact rd_at8 h5 hlt
            obtain ⟨b0, o0, rfl, d0, d1, d2⟩ := hcell
            generalize l[k] = x at *
            have hxo : SgnOk x := ⟨by rw [hx1]; unfold I64; omega, by have := Hs.out; omega, hx3⟩
            have HT := Lib.hid T
            have Hta := Lib.hid hta
            have Hxo := Lib.hid hxo
            have HL9 := Lib.hid hL9
            have HLk := Lib.hid hLk
            clear T hta hxo hL9 hLk HK hdrop hx1 hx2 hx3 hx4
            have n5 := nw_alloc wr (.cells #[.int .i64 x.key, .string ⟨x.text.toArray⟩, .int .i64 x.mark] tSigned)
            have k5 := heap_new wr (.cells #[.int .i64 x.key, .string ⟨x.text.toArray⟩, .int .i64 x.mark] tSigned)
            generalize hW5 : wr.alloc (.cells #[.int .i64 x.key, .string ⟨x.text.toArray⟩, .int .i64 x.mark] tSigned) = W5 at *
            have HW5 := Lib.hid hW5
            have T5 := HT.out.nw n5
            have HT5 := Lib.hid T5
            obtain ⟨a3, cap3, hc3, hs3⟩ := rdt_slice T5
            have l3 := fun i : Later W5 => later_cell i hc3
            obtain ⟨_, _, _⟩ := later3 k5
            have HC := Lib.hid (fun i : Later W5 => contains_v w.heap.size W5.heap.size (.slice a3 L.length cap3) L x i.1 (hs3.nw i.nw) (by have := HL9.out; omega))
            have HK5 := Lib.hid k5
            clear hW5 T5 hc3 hs3 k5
            generalize hmem : decide (x ∈ L) = dm at *
            have Hmem := Lib.hid hmem
            clear hmem
            go_wp2_with fail
            rw [HW5.out]
            refine wp_region_nw (by kernel_rfl) (by kernel_rfl) ?_
            repeat (go_big_quiet_step ((go_at_call 56; exact later_call (HC.out _))))
            refine wpQuiet_nil ?_
            intro w6 u6
            replace u6 := later_out u6
            have T6 := HT5.out.nw u6
            obtain ⟨_, _, _⟩ := cell3 (u6.keep HK5.out)
            cases dm with
            | true =>
              have hfin : Hid (Vw.readV Lr s = (none, 5)) := by show _ = _; rw [hres.out, ← Hta.out, Vw.takeAll, if_pos (of_decide_eq_true Hmem.out)]
              have hn6 := rdt_nw T6
              clear T6
              go_wp2_with fail
              go_ret2
              exact hpost.out _ _ ⟨hn6, Or.inr (by rw [hfin.out]; exact ⟨rfl, rfl⟩)⟩
            | false =>
            have HT6 := Lib.hid T6
            clear T6
            have hacl := Vw.accept_len Lr key L x
            obtain ⟨e, L', hac⟩ : ∃ e L', Vw.accept Lr key L x = (e, L') := ⟨_, _, rfl⟩
            rw [hac] at hacl
            dsimp only at hacl
            have hta2 := Hta.out
            rw [Vw.takeAll, if_neg (of_decide_eq_false Hmem.out), hac] at hta2
            dsimp only at hta2
            have hacc := rdt_acc HT6.out hqlt (g.upd (rdt_nw HT6.out)) x Hxo.out HL9.out
            rw [hac] at hacc
            dsimp only at hacc
            have Hacc := Lib.hid hacc
            have Hta2 := Lib.hid hta2
            have Hacl := Lib.hid hacl
            clear hacc hta2 hac hacl
            go_wp2_with fail
            (with_reducible refine (Hacc.out).mono ?_)
            rintro _ w7 ⟨rfl, T7⟩
            by_cases he : e = 0
            · subst he
              have HT7 := Lib.hid T7
              clear T7
              go_wp2_with fail
              go_roundw
              case rel => exact ⟨k + 1, by omega, by go_num, L', by have := Hacl.out; have := HLk.out; omega, by have := Hta2.out; rwa [if_neg (by simp)] at this, HT7.out⟩
              case measure => simp [intOf]; omega
            · have hfin : Hid (Vw.readV Lr s = (none, e)) := by show _ = _; rw [hres.out, ← Hta2.out, if_pos he]
              have hn7 := rdt_nw T7
              have de : (e == 0) = false := beq_eq_false_iff_ne.2 he
              have de2 : (e != 0) = true := by simp [bne, de]
              clear T7 he
              go_wp2_with fail
              go_ret2
              exact hpost.out _ _ ⟨hn7, Or.inr (by rw [hfin.out]; exact ⟨rfl, rfl⟩)⟩
          · obtain rfl : k = l.length := by omega
            rw [List.drop_length] at hta
            have hfin : Hid (Vw.readV Lr s = (some L, 0)) := by show _ = _; rw [hres.out, ← hta]; rfl
            have HT := Lib.hid T
            clear T hta HK
            go_wp2_with fail
            go_ret2
            obtain ⟨r, rfl, h2, h3, h4, h5, h6, h7⟩ := HT.out
            exact hpost.out _ _ ⟨h7, Or.inl ⟨L, r, hfin.out, rfl, h3, h4⟩⟩
    · have hstep : Vw.itemsOf s = (l, st) := by rw [← HR.out.it, Vw.items, if_neg (fun e => hc1 e.1)]
      clear hf
      have Hstep := Lib.hid hstep
      have Hnv := Lib.hid (new_v q.rb key wr gw)
      clear hstep R hrel hl
      go_wp2_with fail
      (with_reducible refine (Hnv.out).mono ?_)
      rintro _ x1 hnv
      rcases hnv with ⟨hkk, r, rfl, hr, v1⟩ | ⟨hkk, rfl, v1⟩
      rotate_left
      · have hres : Hid (Vw.readV Lr s = (none, 2)) := by show _ = _; rw [Hread.out, Hform.out, hkk]; simp
        have HD := Lib.hid (Done_r b st x1 (HR.out.rd.nw v1))
        clear hkk
        generalize decide (st = some []) = dd at *
        go_wp2_with fail
        (with_reducible refine (HD.out).mono ?_)
        rintro _ _ ⟨rfl, rfl⟩
        cases dd
        all_goals go_wp2_with fail
        all_goals go_ret2
        all_goals exact hpost.out _ _ ⟨HR.out.nw.trans v1, Or.inr (by rw [hres.out]; exact ⟨rfl, rfl⟩)⟩
      have Hkk := Lib.hid hkk
      have HD := Lib.hid (Done_r b st x1 (HR.out.rd.nw v1))
      have hgf : Vw.goodForm s = (decide (st = some []) && decide ((l.length : Int) = n)) := by rw [Hform.out, Hstep.out, hkk, Bool.and_true]
      clear hkk
      generalize decide (st = some []) = dd at *
      have Hgf := Lib.hid hgf
      clear hgf
      go_wp2_with fail
      (with_reducible refine (HD.out).mono ?_)
      rintro _ _ ⟨rfl, rfl⟩
      cases dd with
      | false =>
        have hres : Hid (Vw.readV Lr s = (none, 2)) := by show _ = _; rw [Hread.out, Hgf.out]; simp
        go_wp2_with fail
        go_ret2
        exact hpost.out _ _ ⟨HR.out.nw.trans v1, Or.inr (by rw [hres.out]; exact ⟨rfl, rfl⟩)⟩
      | true =>
      by_cases hln : (l.length : Int) = n
      rotate_left
      · have hres : Hid (Vw.readV Lr s = (none, 2)) := by show _ = _; rw [Hread.out, Hgf.out, decide_eq_false hln]; simp
        have dln : ((l.length : Int) == n) = false := beq_eq_false_iff_ne.2 hln
        have dln2 : ((l.length : Int) != n) = true := by simp [bne, dln]
        clear hln
        go_wp2_with fail
        go_ret2
        exact hpost.out _ _ ⟨HR.out.nw.trans v1, Or.inr (by rw [hres.out]; exact ⟨rfl, rfl⟩)⟩
      have dln : ((l.length : Int) == n) = true := beq_iff_eq.2 hln
      have dln2 : ((l.length : Int) != n) = false := by simp [bne, dln]
      have hres : Hid (Vw.readV Lr s = Vw.takeAll Lr key [] l) := by show _ = _; rw [Hread.out, Hgf.out, decide_eq_true hln, if_pos (by simp), Hstep.out]
      clear hln
      have hT0 : RdT B w q Lr key r.vb (.slice a l.length cap) l [] x1 := by
        have s1 := HR.out.nw.size
        refine ⟨r, rfl, (Hq.out.nw HR.out.nw).nw v1, hr.base s1 hgb, Vw.VOk.nil _ _, owns_upd' HR.out.own v1 (fun _ _ e => e), fun j hj e => ?_, HR.out.nw.trans v1⟩
        obtain ⟨_, cs, e3⟩ := own_block HR.out.own hj
        have := lt_of_block e3
        have := (hr.foot_lt e).1
        omega
      have HT0 := Lib.hid hT0
      have Hall := Lib.hid HR.out.all
      have hl8 : Hid (l.length ≤ 800000) := by show _ ≤ _; have := HR.out.len; have := Hs.out; omega
      have hl63 : l.length ≤ 800000 := hl8.out
      clear hT0 hr v1 HR HD Hnv
      generalize r.vb = vb at *
      go_wp2_with fail
      go_loopw [58] (fun i wr => ∃ k : Nat, k ≤ l.length ∧ i = .int .i64 k ∧ Hid (∃ L, L.length ≤ k ∧ Vw.takeAll Lr key L (l.drop k) = Vw.takeAll Lr key [] l ∧ RdT B w q Lr key vb (.slice a l.length cap) l L wr)) (fun i _ => l.length - (intOf i).toNat)
      case atStart => exact ⟨0, Nat.zero_le _, rfl, [], Nat.le_refl _, rfl, HT0.out⟩
      case round =>
        obtain ⟨k, hk, rfl, HK⟩ := hrel
        obtain ⟨L, hLk, hta, T⟩ := HK.out
        have gk := g.upd (rdt_nw T)
        have hL9 : L.length ≤ 900000 := by omega
        by_cases hlt : k < l.length
        · have hdrop : l.drop k = l[k] :: l.drop (k + 1) := List.drop_eq_getElem_cons hlt
          rw [hdrop] at hta
          obtain ⟨hx1, hx2, hx3, hx4⟩ := Hall.out l[k] (List.getElem_mem hlt)
          have hcell : ∃ b o, a = some ⟨b, o, none⟩ ∧ wr.cell? ⟨b, o + k * 3, none⟩ = some (.int .i64 l[k].key) ∧ wr.cell? ⟨b, o + k * 3 + 1, none⟩ = some (.string ⟨l[k].text.toArray⟩) ∧ wr.cell? ⟨b, o + k * 3 + 2, none⟩ = some (.int .i64 l[k].mark) := by
            obtain ⟨r, h1, h2, h3, h4, h5, h6, h7⟩ := T
            exact rd_at8 h5 hlt
          obtain ⟨b0, o0, rfl, d0, d1, d2⟩ := hcell
          generalize l[k] = x at *
          have hxo : SgnOk x := ⟨by rw [hx1]; unfold I64; omega, by have := Hs.out; omega, hx3⟩
          have HT := Lib.hid T
          have Hta := Lib.hid hta
          have Hxo := Lib.hid hxo
          have HL9 := Lib.hid hL9
          have HLk := Lib.hid hLk
          clear T hta hxo hL9 hLk HK hdrop hx1 hx2 hx3 hx4
          have n5 := nw_alloc wr (.cells #[.int .i64 x.key, .string ⟨x.text.toArray⟩, .int .i64 x.mark] tSigned)
          have k5 := heap_new wr (.cells #[.int .i64 x.key, .string ⟨x.text.toArray⟩, .int .i64 x.mark] tSigned)
          generalize hW5 : wr.alloc (.cells #[.int .i64 x.key, .string ⟨x.text.toArray⟩, .int .i64 x.mark] tSigned) = W5 at *
          have HW5 := Lib.hid hW5
          have T5 := HT.out.nw n5
          have HT5 := Lib.hid T5
          obtain ⟨a3, cap3, hc3, hs3⟩ := rdt_slice T5
          have l3 := fun i : Later W5 => later_cell i hc3
          obtain ⟨_, _, _⟩ := later3 k5
          have HC := Lib.hid (fun i : Later W5 => contains_v w.heap.size W5.heap.size (.slice a3 L.length cap3) L x i.1 (hs3.nw i.nw) (by have := HL9.out; omega))
          have HK5 := Lib.hid k5
          clear hW5 T5 hc3 hs3 k5
          generalize hmem : decide (x ∈ L) = dm at *
          have Hmem := Lib.hid hmem
          clear hmem
          go_wp2_with fail
          rw [HW5.out]
          refine wp_region_nw (by kernel_rfl) (by kernel_rfl) ?_
          repeat (go_big_quiet_step ((go_at_call 56; exact later_call (HC.out _))))
          refine wpQuiet_nil ?_
          intro w6 u6
          replace u6 := later_out u6
          have T6 := HT5.out.nw u6
          obtain ⟨_, _, _⟩ := cell3 (u6.keep HK5.out)
          cases dm with
          | true =>
            have hfin : Hid (Vw.readV Lr s = (none, 5)) := by show _ = _; rw [hres.out, ← Hta.out, Vw.takeAll, if_pos (of_decide_eq_true Hmem.out)]
            have hn6 := rdt_nw T6
            clear T6
            go_wp2_with fail
            go_ret2
            exact hpost.out _ _ ⟨hn6, Or.inr (by rw [hfin.out]; exact ⟨rfl, rfl⟩)⟩
          | false =>
          have HT6 := Lib.hid T6
          clear T6
          have hacl := Vw.accept_len Lr key L x
          obtain ⟨e, L', hac⟩ : ∃ e L', Vw.accept Lr key L x = (e, L') := ⟨_, _, rfl⟩
          rw [hac] at hacl
          dsimp only at hacl
          have hta2 := Hta.out
          rw [Vw.takeAll, if_neg (of_decide_eq_false Hmem.out), hac] at hta2
          dsimp only at hta2
          have hacc := rdt_acc HT6.out hqlt (g.upd (rdt_nw HT6.out)) x Hxo.out HL9.out
          rw [hac] at hacc
          dsimp only at hacc
          have Hacc := Lib.hid hacc
          have Hta2 := Lib.hid hta2
          have Hacl := Lib.hid hacl
          clear hacc hta2 hac hacl
          go_wp2_with fail
          (with_reducible refine (Hacc.out).mono ?_)
          rintro _ w7 ⟨rfl, T7⟩
          by_cases he : e = 0
          · subst he
            have HT7 := Lib.hid T7
            clear T7
            go_wp2_with fail
            go_roundw
            case rel => exact ⟨k + 1, by omega, by go_num, L', by have := Hacl.out; have := HLk.out; omega, by have := Hta2.out; rwa [if_neg (by simp)] at this, HT7.out⟩
            case measure => simp [intOf]; omega
          · have hfin : Hid (Vw.readV Lr s = (none, e)) := by show _ = _; rw [hres.out, ← Hta2.out, if_pos he]
            have hn7 := rdt_nw T7
            have de : (e == 0) = false := beq_eq_false_iff_ne.2 he
            have de2 : (e != 0) = true := by simp [bne, de]
            clear T7 he
            go_wp2_with fail
            go_ret2
            exact hpost.out _ _ ⟨hn7, Or.inr (by rw [hfin.out]; exact ⟨rfl, rfl⟩)⟩
        · obtain rfl : k = l.length := by omega
          rw [List.drop_length] at hta
          have hfin : Hid (Vw.readV Lr s = (some L, 0)) := by show _ = _; rw [hres.out, ← hta]; rfl
          have HT := Lib.hid T
          clear T hta HK
          go_wp2_with fail
          go_ret2
          obtain ⟨r, rfl, h2, h3, h4, h5, h6, h7⟩ := HT.out
          exact hpost.out _ _ ⟨h7, Or.inl ⟨L, r, hfin.out, rfl, h3, h4⟩⟩
end Go.Proofs.YtidmehiboceobaaGreatDoor
