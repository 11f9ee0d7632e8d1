/- The contract of ViewBook. -/
import Derived.Test.YtidmehiboceobaaDoorLawVB
import Derived.Deep.CutBlock
namespace Go.Proofs.YtidmehiboceobaaDoor
open Go.RowKit
set_option linter.unusedVariables false
set_option linter.unusedSimpArgs false
attribute [local irreducible] Calls

theorem vb_start {W w1 w2 w3 : World} {q : RingR} {br : BookR} {r : ViewR} {key : Int} (hq : RingAt W.heap.size w1 q []) (u1 : Nw W w1) (hb : BookAt w1.heap.size w2 br q.rb (Bk.new key)) (u2 : Nw w1 w2) (hr : ViewAt w2.heap.size w3 r q.rb key []) (u3 : Nw w2 w3) :
    VB W q.rb br.bb r.vb key [] ⟨[], Bk.new key⟩ (.slice none 0 0) [] [] w3 := by
  have s1 := u1.size
  have s2 := u2.size
  refine ⟨q, br, r, rfl, rfl, rfl, (both_new hq hb u2 s1).nw u3, hr.base (by omega) hq.hb, Vw.VOk.nil _ _, (u1.trans u2).trans u3, World.ownsRow_nil _ _ _ _, fun j hj => ⟨fun e => ?_, fun e => ?_⟩, fun j hj => by simp [Value.ownBlock] at hj, fun p hp => by cases hp⟩
  · have := (hq.foot_lt e).2; have := (hr.foot_lt hj).1; omega
  · have := (hb.foot_lt e).2; have := (hr.foot_lt hj).1; omega
theorem valid_ok8 {key : Int} {Lr : List Bk.Seal} {s : Bk.Sgn} (hk : Bk.isKey key = true) (hl : Lr.length ≤ 1000000) (h1 : Bk.valid Lr s = true) (h2 : s.key = key) (h3 : Vw.isLog s.text = true) : SgnOk s := by
  have hk2 : 0 ≤ key ∧ key < 200 := by unfold Bk.isKey at hk; simpa using hk
  have hm := Vw.valid_lt h1
  obtain ⟨l1, l2, _⟩ := Vw.log_spec h3
  have := text_len8 (Vw.claimOf s) (log_bounds h3).1
  rw [l2] at this
  exact ⟨by unfold I64; omega, by omega, by unfold I64; omega⟩
theorem rem_place (n : Int) (m : Nat) (hm : 0 < m) (hm2 : m ≤ 1000000) : ∃ j : Nat, j < m ∧ (wrap64 (n.tmod (m : Int) + (m : Int))).tmod (m : Int) = (j : Int) := by
  have hp : (0 : Int) < (m : Int) := by omega
  have h1 : n.tmod (m : Int) < (m : Int) := Int.tmod_lt_of_pos n hp
  have h2 : -(m : Int) < n.tmod (m : Int) := by
    by_cases hn : 0 ≤ n
    · have := Int.tmod_nonneg (m : Int) hn; omega
    · have h3 := Int.tmod_lt_of_pos (-n) hp
      rw [Int.neg_tmod] at h3
      omega
  generalize n.tmod (m : Int) = x at *
  have hw : wrap64 (x + (m : Int)) = x + (m : Int) := by unfold wrap64; omega
  rw [hw, Int.tmod_eq_emod_of_nonneg (by omega)]
  have h4 := Int.emod_nonneg (x + (m : Int)) (b := (m : Int)) (by omega)
  have h5 := Int.emod_lt_of_pos (x + (m : Int)) hp
  exact ⟨((x + (m : Int)) % (m : Int)).toNat, by omega, by omega⟩
/-- Behind the turns: what the book has signed so far. -/
def VBT (W : World) (rb bb vb : Nat) (key : Int) (k : Nat) (mv : Value) (z : World) : Prop :=
  ∃ x M, VB W rb bb vb key [] x mv M [] z ∧ Vw.Made key x M ∧ x.L.length ≤ k ∧ M.length ≤ k ∧ x.b.es.length ≤ k
theorem turn_len (x : Bk.St) (o : Vw.Turn) : (Vw.turnS x o).2.L.length ≤ x.L.length + 1 ∧ (Vw.turnS x o).2.b.es.length ≤ x.b.es.length + 1 := by
  unfold Vw.turnS Bk.entry Bk.head Bk.absent Bk.append
  repeat' split
  all_goals refine ⟨?_, ?_⟩
  all_goals first | exact Bk.sign_len _ _ _ | exact Nat.le_succ _ | (simp; done)
set_option maxHeartbeats 8000000 in
set_option maxRecDepth 100000 in
theorem book8_c (l : List Vw.Turn) (ord : List Int) (v ov : Value) (key : Int) (W : World) (g : Gl W) (hv : SlS 4 0 W.heap.size W v (l.map turnL)) (ho : ∀ x ∈ l, TurnOk x) (hkey : I64 key) (hov : Sl 0 W.heap.size W ov (ord.map (Value.int .i64))) (hord : ∀ n ∈ ord, I64 n) :
    Calls Tryd.prog 4 #[.int .i64 key, v, ov] W fun e w' => e = .returned (.bool true) ∧ Nw W w' := by
  have hgb := g.big
  obtain ⟨a0, cap0, rfl, hm0, hcells⟩ := turn_cells hv
  obtain ⟨a1, cap1, rfl, hm1, hocells⟩ := hov.open_
  rw [List.length_map] at hm1
  unfold maxLen at hm0 hm1
  have Hho := Lib.hid ho
  have Hv := Lib.hid hv
  have Hsc := Lib.hid hcells
  have Hoc := Lib.hid hocells
  have Hord := Lib.hid hord
  clear ho hv hcells hocells hov hord
  rw [List.length_map]
  go_enter Tryd.func4, Tryd.ntmps4
  go_wp2_with fail
  (with_reducible refine (small_v _ g).mono ?_)
  rintro _ w0 ⟨rfl, u0⟩
  have g0 := g.upd u0
  go_wp2_with fail
  (with_reducible refine (new_s _ g0).mono ?_)
  rintro _ w1 ⟨q, rfl, hq, u1⟩
  have U1 := u0.trans u1
  have hq1 := hq.base8 u0.size hgb
  go_wp2_with fail
  (with_reducible refine (fewturns_w 0 W.heap.size _ l _ (Hv.out.nw U1) Hho.out).mono ?_)
  rintro _ w2 ⟨f, rfl, hf, u2⟩
  have U2 := U1.trans u2
  have g2 := g.upd U2
  cases f with
  | false =>
    clear hf
    go_wp2_with fail
    go_ret
    exact ⟨rfl, U2⟩
  | true =>
  obtain ⟨hl25, hl100⟩ := hf rfl
  have Hl100 := Lib.hid hl100
  clear hf hl100
  by_cases ho80 : ord.length ≤ 80
  rotate_left
  · go_wp2_with fail
    go_ret
    exact ⟨rfl, U2⟩
  have hq2 := hq1.nw u2
  have Hnb := Lib.hid (new_b q.rb key w2 g2)
  go_wp2_with fail
  (with_reducible refine (Hnb.out).mono ?_)
  rintro _ w3 hnb
  have Hnv := Lib.hid (fun z (gz : Gl z) => new_v q.rb key z gz)
  rcases hnb with ⟨hkk, br, rfl, hb, u3⟩ | ⟨hkk, rfl, u3⟩
  rotate_left
  · have hk2 : key < 0 ∨ 200 ≤ key := by unfold Bk.isKey at hkk; rw [← Bool.not_eq_true] at hkk; simp at hkk; omega
    have U3 := U2.trans u3
    have Hk2 := Lib.hid hk2
    have Hkk := Lib.hid hkk
    clear hk2 hkk
    go_wp2_with fail
    (with_reducible refine (Hnv.out _ (g.upd U3)).mono ?_)
    rintro _ w4 hnv
    rcases hnv with ⟨hkk', _⟩ | ⟨_, rfl, u4⟩
    · rw [Hkk.out] at hkk'; cases hkk'
    rcases Hk2.out with hk2 | hk2
    all_goals go_wp2_with fail
    all_goals go_ret
    all_goals exact ⟨rfl, U3.trans u4⟩
  have U3 := U2.trans u3
  have Hkk := Lib.hid hkk
  have Hb := Lib.hid hb
  clear hkk hb
  go_wp2_with fail
  (with_reducible refine (Hnv.out _ (g.upd U3)).mono ?_)
  rintro _ w4 hnv
  rcases hnv with ⟨_, r, rfl, hr, u4⟩ | ⟨hkk', _⟩
  rotate_left
  · rw [Hkk.out] at hkk'; cases hkk'
  have K0 : VBT W q.rb br.bb r.vb key 0 (.slice none 0 0) w4 := ⟨_, [], vb_start hq2 U2 Hb.out u3 (hr.base (Nat.le_refl _) (Nat.le_trans hgb U3.size)) u4, Vw.Made.start Hkk.out, Nat.le_refl _, Nat.le_refl _, Nat.le_refl _⟩
  have HK0 := Lib.hid K0
  clear K0 hr Hb Hnv Hnb hq hq1 hq2
  generalize q.rb = rb at *
  generalize br.bb = bb at *
  generalize r.vb = vb at *
  go_wp2_with fail
  go_loopw [12, 13] (fun mv iv wr => ∃ k : Nat, k ≤ l.length ∧ iv = .int .i64 k ∧ Hid (VBT W rb bb vb key k mv wr)) (fun mv iv _ => l.length - (intOf iv).toNat)
  case atStart => exact ⟨0, Nat.zero_le _, rfl, HK0.out⟩
  case round =>
    obtain ⟨k, hk, rfl, HR⟩ := hrel
    obtain ⟨x, M, K, hmade, hx1, hx2, hx3⟩ := HR.out
    obtain ⟨am, capm, hmv⟩ := own_sl K.row
    subst hmv
    have gw := g.upd K.nw
    by_cases hlt : k < l.length
    · rcases Hsc.out with hnil | ⟨b, o, rfl, hbW, _, hc⟩
      · simp [hnil] at hlt
      have Hy := Lib.hid (hc k hlt)
      have hyo := Hho.out l[k] (List.getElem_mem hlt)
      have hy100 := Hl100.out l[k] (List.getElem_mem hlt)
      generalize l[k] = y at *
      have hyc : Hid (∀ {z : World}, Nw W z → z.cell? ⟨b, o + k * 4, none⟩ = some (.int .i64 y.kind) ∧ z.cell? ⟨b, o + k * 4 + 1, none⟩ = some (.string ⟨y.name.toArray⟩) ∧ z.cell? ⟨b, o + k * 4 + 2, none⟩ = some (.string ⟨y.text.toArray⟩) ∧ z.cell? ⟨b, o + k * 4 + 3, none⟩ = some (.int .i64 y.n)) := fun {z} u => by
        obtain ⟨p0, p1, p2, p3⟩ := Hy.out
        exact ⟨((Nw.below u).cell (p := ⟨b, o + k * 4, none⟩) hbW).trans p0, ((Nw.below u).cell (p := ⟨b, o + k * 4 + 1, none⟩) hbW).trans p1, ((Nw.below u).cell (p := ⟨b, o + k * 4 + 2, none⟩) hbW).trans p2, ((Nw.below u).cell (p := ⟨b, o + k * 4 + 3, none⟩) hbW).trans p3⟩
      have hmade' := hmade.step y
      obtain ⟨t1, t2⟩ := turn_len x y
      have HM := Lib.hid hmade
      have HM' := Lib.hid hmade'
      have HT : Hid ((Vw.turnS x y).2.L.length ≤ k + 1 ∧ (Vw.turnS x y).2.b.es.length ≤ k + 1) := ⟨by omega, by omega⟩
      have hxL : Hid (x.L.length ≤ 1000000) := by show _ ≤ _; omega
      have Hyo := Lib.hid hyo
      have Hy100 := Lib.hid hy100
      have hMk : M.length ≤ k := hx2
      have K1 : VB W rb bb vb key [(wr.heap.size, sgnO Bk.noSgn)] x (.slice am M.length capm) M [] (wr.alloc (.cells #[.int .i64 0, .string ⟨#[]⟩, .int .i64 0] tSigned)) := K.box (sgnO Bk.noSgn)
      have H0 := Lib.hid K1
      clear K K1 hmade hmade' t1 t2 hc Hy HR hyo hy100 hx1 hx2 hx3
      obtain ⟨_, _, _, _⟩ := hyc.out H0.out.nw
      go_upto_block 2 with fail
      go_cut [15] from 93 to 149 (fun fv wx => ∃ e0 : Int, fv = .int .i64 e0 ∧ Hid (∃ s, (Vw.turnS x y).1 = (s, e0) ∧ VB W rb bb vb key [(wr.heap.size, sgnO s)] (Vw.turnS x y).2 (.slice am M.length capm) M [] wx))
      case first =>
        by_cases k0 : y.kind = 0
        · have d0 : (y.kind == 0) = true := beq_iff_eq.2 k0
          have hst : Vw.turnS x y = ((Bk.noSgn, 4), ⟨x.L, (Bk.append x.b (Wire.textE y.name ++ y.text)).2⟩) := by unfold Vw.turnS; rw [if_pos k0]
          have Hst := Lib.hid hst
          have hnl := Hy100.out.1
          have htl := Hy100.out.2
          have TF := Lib.hid (fun (i : Later (wr.alloc (.cells #[.int .i64 0, .string ⟨#[]⟩, .int .i64 0] tSigned))) => Text_e ⟨y.name.toArray⟩ y.name (bs_list _) i.1 (g.upd (H0.out.nw.trans i.nw)) (by omega))
          have htl2 : (Wire.textE y.name).length ≤ 200 := by
            have i2 := itoa_le (n := (y.name.length : Int)) (by unfold I64; omega)
            simp only [Wire.textE, List.length_append, List.length_cons, List.length_nil]; omega
          have q1 := fun i : Later (wr.alloc (.cells #[.int .i64 0, .string ⟨#[]⟩, .int .i64 0] tSigned)) => (hyc.out (H0.out.nw.trans i.nw)).2.1
          have q2 := fun i : Later (wr.alloc (.cells #[.int .i64 0, .string ⟨#[]⟩, .int .i64 0] tSigned)) => (hyc.out (H0.out.nw.trans i.nw)).2.2.1
          have q3 := fun i : Later (wr.alloc (.cells #[.int .i64 0, .string ⟨#[]⟩, .int .i64 0] tSigned)) => (hyc.out (H0.out.nw.trans i.nw)).2.2.2
          generalize hW1 : wr.alloc (.cells #[.int .i64 0, .string ⟨#[]⟩, .int .i64 0] tSigned) = W1 at *
          have HW1 := Lib.hid hW1
          clear hst hW1 k0
          generalize Wire.textE y.name = tn at *
          have hcat : Hid ((ByteArray.mk tn.toArray ++ ByteArray.mk y.text.toArray).data.toList = tn ++ y.text) := by show _ = _; simp only [bs_append_list, bs_list]
          have hcl : Hid ((tn ++ y.text).length ≤ 1000000) := by show _ ≤ _; rw [List.length_append]; omega
          go_wp2_with fail
          (try rw [HW1.out])
          refine wp_region_nw_tail 13 (by kernel_rfl) (by kernel_rfl) ?_
          simp only [List.take_succ_cons, List.take_zero, List.drop_succ_cons, List.drop_zero]
          repeat (go_big_quiet_step ((go_at_call 20; exact later_call (TF.out _))))
          refine wpQuiet_nil ?_
          intro w5 u5
          replace u5 := later_out u5
          have H5 := Lib.hid (H0.out.go u5)
          clear q1 q2 q3
          go_wp2_with fail
          (with_reducible refine (vb_append H5.out (g.upd H5.out.nw) _ _ hcat.out hcl.out).mono ?_)
          rintro _ x1 ⟨_, _, rfl, K1⟩
          have H1 := Lib.hid K1
          clear K1
          go_wp2_with fail
          go_meet
          exact ⟨4, rfl, Bk.noSgn, by rw [Hst.out], by rw [Hst.out]; exact H1.out⟩
        have d0 : (y.kind == 0) = false := beq_eq_false_iff_ne.2 k0
        by_cases k1 : y.kind = 1
        · have d1 : (y.kind == 1) = true := beq_iff_eq.2 k1
          obtain ⟨⟨s, e0⟩, L', he⟩ : ∃ p L', Bk.entry x.L x.b y.n = (p, L') := ⟨_, _, rfl⟩
          have hst : Vw.turnS x y = ((s, e0), ⟨L', x.b⟩) := by unfold Vw.turnS; rw [if_neg k0, if_pos k1, he]
          have Hst := Lib.hid hst
          have He := Lib.hid he
          clear hst he k0 k1
          go_wp2_with fail
          (with_reducible refine (vb_entry H0.out (g.upd H0.out.nw) y.n Hyo.out.n hxL.out He.out).mono ?_)
          rintro _ x1 ⟨rfl, K1⟩
          have H1 := Lib.hid K1
          have f0 := cells_frozen (K1.at 0 rfl) 0
          have f1 := cells_frozen (K1.at 0 rfl) 1
          have f2 := cells_frozen (K1.at 0 rfl) 2
          obtain ⟨_, _, _⟩ := cell3 (K1.at 0 rfl)
          clear K1
          go_wp2_with fail
          go_meet
          exact ⟨e0, rfl, s, by rw [Hst.out], by rw [Hst.out]; exact H1.out.set rfl⟩
        have d1 : (y.kind == 1) = false := beq_eq_false_iff_ne.2 k1
        by_cases k2 : y.kind = 2
        · have d2 : (y.kind == 2) = true := beq_iff_eq.2 k2
          obtain ⟨⟨s, e0⟩, ⟨L', b'⟩, he⟩ : ∃ p q, Bk.head x.L x.b y.n = (p, q) := ⟨_, _, rfl⟩
          have hst : Vw.turnS x y = ((s, e0), ⟨L', b'⟩) := by unfold Vw.turnS; rw [if_neg k0, if_neg k1, if_pos k2, he]
          have Hst := Lib.hid hst
          have He := Lib.hid he
          clear hst he k0 k1 k2
          go_wp2_with fail
          (with_reducible refine (vb_head H0.out (g.upd H0.out.nw) y.n Hyo.out.n hxL.out He.out).mono ?_)
          rintro _ x1 ⟨rfl, K1⟩
          have H1 := Lib.hid K1
          have f0 := cells_frozen (K1.at 0 rfl) 0
          have f1 := cells_frozen (K1.at 0 rfl) 1
          have f2 := cells_frozen (K1.at 0 rfl) 2
          obtain ⟨_, _, _⟩ := cell3 (K1.at 0 rfl)
          clear K1
          go_wp2_with fail
          go_meet
          exact ⟨e0, rfl, s, by rw [Hst.out], by rw [Hst.out]; exact H1.out.set rfl⟩
        have d2 : (y.kind == 2) = false := beq_eq_false_iff_ne.2 k2
        by_cases k3 : y.kind = 3
        · have d3 : (y.kind == 3) = true := beq_iff_eq.2 k3
          obtain ⟨⟨s, e0⟩, L', he⟩ : ∃ p L', Bk.absent x.L x.b y.name y.n = (p, L') := ⟨_, _, rfl⟩
          have hst : Vw.turnS x y = ((s, e0), ⟨L', x.b⟩) := by unfold Vw.turnS; rw [if_neg k0, if_neg k1, if_neg k2, if_pos k3, he]
          have Hst := Lib.hid hst
          have He := Lib.hid he
          have q1 := fun i : Later (wr.alloc (.cells #[.int .i64 0, .string ⟨#[]⟩, .int .i64 0] tSigned)) => (hyc.out (H0.out.nw.trans i.nw)).2.1
          have q2 := fun i : Later (wr.alloc (.cells #[.int .i64 0, .string ⟨#[]⟩, .int .i64 0] tSigned)) => (hyc.out (H0.out.nw.trans i.nw)).2.2.1
          have q3 := fun i : Later (wr.alloc (.cells #[.int .i64 0, .string ⟨#[]⟩, .int .i64 0] tSigned)) => (hyc.out (H0.out.nw.trans i.nw)).2.2.2
          generalize hW1 : wr.alloc (.cells #[.int .i64 0, .string ⟨#[]⟩, .int .i64 0] tSigned) = W1 at *
          have HW1 := Lib.hid hW1
          clear hst he hW1 k0 k1 k2 k3
          go_wp2_with fail
          (try rw [HW1.out])
          have H5 := Lib.hid (H0.out.go (Upd.refl _ W1).drew)
          obtain ⟨_, _, _, _⟩ := hyc.out H5.out.nw
          obtain ⟨_, _, _, _⟩ := hyc.out H0.out.nw
          have AF := Lib.hid (vb_absent H5.out (g.upd H5.out.nw) y.name y.n Hyo.out.n (by have := Hy100.out.1; omega) hxL.out He.out)
          clear q1 q2 q3
          go_region_with ((go_at_call 23; (with_reducible refine AF.out.mono ?_); rintro _ x1 ⟨rfl, K1⟩; have f0 := cells_frozen (K1.at 0 rfl) 0; have f1 := cells_frozen (K1.at 0 rfl) 1; have f2 := cells_frozen (K1.at 0 rfl) 2; obtain ⟨_, _, _⟩ := cell3 (K1.at 0 rfl)))
          all_goals
            have H1 := Lib.hid K1
            clear K1
          all_goals go_wp2_with fail
          all_goals go_meet
          all_goals
            exact ⟨e0, rfl, s, by rw [Hst.out], by rw [Hst.out]; exact H1.out.set rfl⟩
        have d3 : (y.kind == 3) = false := beq_eq_false_iff_ne.2 k3
        have hst : Vw.turnS x y = ((Bk.noSgn, 4), x) := by unfold Vw.turnS; rw [if_neg k0, if_neg k1, if_neg k2, if_neg k3]
        have Hst := Lib.hid hst
        clear hst k0 k1 k2 k3
        go_wp2_with fail
        go_meet
        exact ⟨4, rfl, Bk.noSgn, by rw [Hst.out], by rw [Hst.out]; exact H0.out⟩
      case rest =>
        obtain ⟨e0, rfl, hc⟩ := hcut
        obtain ⟨s, hs, K1⟩ := hc.out
        have HM2 := HM'.out
        rw [hs] at HM2
        dsimp only at HM2
        have H1 := Lib.hid K1
        by_cases h0 : e0 = 0
        · subst h0
          rw [if_pos rfl] at HM2
          have HM3 := Lib.hid HM2
          have hown := K1.row
          obtain ⟨_, _, _⟩ := cell3 (K1.at 0 rfl)
          have h63 : Hid (M.length + 1 ≤ maxLen ∧ (M.length + 1) * 32 ≤ 140737488355328) := ⟨by unfold maxLen; omega, by omega⟩
          have hsz : W.heap.size ≤ wc.heap.size := K1.nw.size
          clear K1 HM2 hc HM' hs
          go_wp2_with (at_builtin; refine wpList_appL rfl _ _ 29 rfl W.heap.size tSigned _ 3 32 Tryd.underlying29 infoSgn rfl (by decide) (.slice am M.length capm) M.length (flatS M) rfl hown (sgl s) rfl rfl (sgl_one _) h63.out.1 h63.out.2 hsz hgb ?_)
          intro v' w9 hown9 u9 hob
          obtain ⟨a9, cap9, rfl⟩ := own_sl hown9
          have K9 := H1.out.app hown9 u9 hob
          have H9 := Lib.hid K9
          clear K9 hown9 u9 hob hown
          go_wp2_with fail
          go_roundw
          case rel => exact ⟨k + 1, by omega, by go_num, _, _, H9.out, HM3.out, HT.out.1, by rw [List.length_append]; simp; omega, HT.out.2⟩
          case measure => simp [intOf]; omega
        · rw [if_neg h0] at HM2
          have HM3 := Lib.hid HM2
          have de : (e0 == 0) = false := beq_eq_false_iff_ne.2 h0
          clear K1 HM2 hc HM' hs h0
          go_wp2_with fail
          go_roundw
          case rel => exact ⟨k + 1, by omega, by go_num, _, _, H1.out.drop, HM3.out, HT.out.1, by omega, HT.out.2⟩
          case measure => simp [intOf]; omega
    · obtain rfl : k = l.length := by omega
      have HM := Lib.hid hmade
      have hes : x.b.es.length ≤ 25 := by omega
      have hM25 : M.length ≤ 25 := by omega
      have Hcs := Lib.hid (fun (L : List Bk.Sgn) (z : World) (k : Nat) (hk : k < M.length) (h : VB W rb bb vb key [] x (.slice am M.length capm) M L z) => vb_sgn h rfl hk)
      have H0 := Lib.hid K
      have hI : Hid (∀ s ∈ M, SgnOk s) := fun s hs => by
        obtain ⟨v1, k1, l1⟩ := hmade.each s hs
        exact (valid_ok8 hmade.kok (by omega) v1 k1 l1)
      clear K hmade HR hx1 hx2 hx3
      go_wp2_with fail
      go_loopw [16] (fun iv wr => ∃ k : Nat, k ≤ ord.length ∧ iv = .int .i64 k ∧ Hid (∃ L, L.length ≤ k ∧ (∀ s ∈ L, s ∈ M) ∧ VB W rb bb vb key [] x (.slice am M.length capm) M L wr)) (fun iv _ => ord.length - (intOf iv).toNat)
      case atStart => exact ⟨0, Nat.zero_le _, rfl, [], Nat.le_refl _, (fun s h => by cases h), H0.out⟩
      case round =>
        obtain ⟨k, hk, rfl, HR⟩ := hrel
        obtain ⟨wq, rfl⟩ : ∃ x, x = wr := ⟨_, rfl⟩
        obtain ⟨L, hLk, hLM, K⟩ := HR.out
        have gw := g.upd K.nw
        by_cases hlt : k < ord.length ∧ 0 < M.length
        · obtain ⟨hlt, hM0⟩ := hlt
          rcases Hoc.out with ⟨_, _, hnil⟩ | ⟨b, o, rfl, _, hbW, _, hc⟩
          · have : ord = [] := by simpa using hnil
            simp [this] at hlt
          have hc2 := hc k (by simpa using hlt)
          rw [List.getElem?_map, List.getElem?_eq_getElem hlt] at hc2
          have d0 := ((Nw.below K.nw).cell (p := ⟨b, o + k, none⟩) hbW).trans hc2
          have hn64 := Hord.out ord[k] (List.getElem_mem hlt)
          unfold I64 at hn64
          simp only [Option.map_some] at d0
          generalize ord[k] = n at *
          clear hc hc2
          have H1 := Lib.hid K
          clear K HR
          obtain ⟨j, hjM, hj⟩ := rem_place n M.length hM0 (by omega)
          obtain ⟨b2, o2, rfl, e0, e1, e2⟩ := Hcs.out L wq j hjM H1.out
          have hsM := List.getElem_mem hjM
          generalize M[j] = s at *
          obtain ⟨e, L', hac⟩ : ∃ e L', Vw.accept x.L key L s = (e, L') := ⟨_, _, rfl⟩
          have hma := Vw.made_accept HM.out hLM hsM
          rw [hac] at hma
          dsimp only at hma
          obtain ⟨rfl, hLM'⟩ := hma
          have hl' := Vw.accept_len x.L key L s
          rw [hac] at hl'
          dsimp only at hl'
          have Hac := Lib.hid hac
          have HL' : Hid (L'.length ≤ k + 1 ∧ ∀ t ∈ L', t ∈ M) := ⟨by omega, hLM'⟩
          have HSo := Lib.hid (hI.out s hsM)
          have hL9 : Hid (L.length ≤ 900000) := by show _ ≤ _; omega
          clear hac hl' hLM hLM' hsM
          go_wp2_with fail
          (with_reducible refine (vb_acc H1.out gw s HSo.out hL9.out Hac.out).mono ?_)
          rintro _ x1 ⟨rfl, K1⟩
          have H2 := Lib.hid K1
          clear K1
          go_wp2_with fail
          go_roundw
          case rel => exact ⟨k + 1, by omega, by go_num, L', HL'.out.1, HL'.out.2, H2.out⟩
          case measure => simp [intOf]; omega
        · have H1 := Lib.hid K
          have HLM := Lib.hid hLM
          have hL80 : L.length ≤ 80 := by omega
          have hstop : Hid (True) := trivial
          clear K HR hLM hLk
          have hcase : k < ord.length ∧ M.length = 0 ∨ ¬ k < ord.length := by omega
          clear hlt
          rcases hcase with ⟨hlt, hM0⟩ | hlt
          · go_wp2_with fail
            (try clear hM0)
            go_loopw [18] (fun iv wr => ∃ k : Nat, k ≤ M.length ∧ iv = .int .i64 k ∧ Hid (∃ L, L.length ≤ 80 + k ∧ (∀ s ∈ L, s ∈ M) ∧ VB W rb bb vb key [] x (.slice am M.length capm) M L wr)) (fun iv _ => M.length - (intOf iv).toNat)
            case atStart => exact ⟨0, Nat.zero_le _, rfl, L, by omega, HLM.out, H1.out⟩
            case round =>
              clear H1 HLM hL80 L gw
              obtain ⟨k, hk, rfl, HR⟩ := hrel
              obtain ⟨wp, rfl⟩ : ∃ x, x = wr := ⟨_, rfl⟩
              obtain ⟨L, hLk, hLM, K⟩ := HR.out
              have gw := g.upd K.nw
              have hL9 : Hid (L.length ≤ 900000) := by show _ ≤ _; omega
              by_cases hkM : k < M.length
              · have H1 := Lib.hid K
                clear K HR
                obtain ⟨b2, o2, rfl, e0, e1, e2⟩ := Hcs.out L wp k hkM H1.out
                have hsM := List.getElem_mem hkM
                generalize M[k] = s at *
                obtain ⟨e, L', hac⟩ : ∃ e L', Vw.accept x.L key L s = (e, L') := ⟨_, _, rfl⟩
                have hma := Vw.made_accept HM.out hLM hsM
                rw [hac] at hma
                dsimp only at hma
                obtain ⟨rfl, hLM'⟩ := hma
                have hl' := Vw.accept_len x.L key L s
                rw [hac] at hl'
                dsimp only at hl'
                have Hac := Lib.hid hac
                have HL' : Hid (L'.length ≤ 80 + (k + 1) ∧ ∀ t ∈ L', t ∈ M) := ⟨by omega, hLM'⟩
                have HSo := Lib.hid (hI.out s hsM)
                clear hac hl' hLM hLM' hsM hLk
                go_wp2_with fail
                (with_reducible refine (vb_acc H1.out gw s HSo.out hL9.out Hac.out).mono ?_)
                rintro _ x1 ⟨rfl, K1⟩
                have H2 := Lib.hid K1
                clear K1
                go_wp2_with fail
                go_roundw
                case rel => exact ⟨k + 1, by omega, by go_num, L', HL'.out.1, HL'.out.2, H2.out⟩
                case measure => simp [intOf]; omega
              · have H1 := Lib.hid K
                have HLM := Lib.hid hLM
                have hsz := HM.out.size hLM
                obtain ⟨sn, st, hst⟩ : ∃ sn st, Vw.sizeOf L = (sn, st) := ⟨_, _, rfl⟩
                rw [hst] at hsz
                dsimp only at hsz
                have Hst := Lib.hid hst
                clear K HR hLM hLk hst
                go_wp2_with fail
                (with_reducible refine (vb_size H1.out Hst.out).mono ?_)
                rintro _ x1 ⟨rfl, K1⟩
                have H2 := Lib.hid K1
                clear K1
                go_wp2_with fail
                (with_reducible refine (vb_len H2.out).mono ?_)
                rintro _ x2 ⟨rfl, K2⟩
                have H3 := Lib.hid K2
                clear K2
                go_wp2_with fail
                go_loopw [21] (fun iv wr => ∃ k : Nat, k ≤ x.b.es.length + 2 ∧ iv = .int .i64 k ∧ Hid (VB W rb bb vb key [] x (.slice am M.length capm) M L wr)) (fun iv _ => x.b.es.length + 2 - (intOf iv).toNat)
                case atStart => exact ⟨0, Nat.zero_le _, rfl, H3.out⟩
                case round =>
                  obtain ⟨i, hi, rfl, H4⟩ := hrel
                  obtain ⟨wo, rfl⟩ : ∃ x, x = wr := ⟨_, rfl⟩
                  by_cases hin : i < x.b.es.length + 2
                  · obtain ⟨t, tb, htx⟩ : ∃ t tb, Vw.textAt L i = (t, tb) := ⟨_, _, rfl⟩
                    obtain ⟨u, ub, hux⟩ : ∃ u ub, Bk.textAt x.b i = (u, ub) := ⟨_, _, rfl⟩
                    have hmt : tb = true → u = t ∧ ub = true := fun e => by
                      have := HM.out.textAt HLM.out (i := i) (by rw [htx]; exact e)
                      rw [htx, hux] at this
                      injection this with a b
                      exact ⟨a, b⟩
                    have Hmt := Lib.hid hmt
                    have Htx := Lib.hid htx
                    have Hux := Lib.hid hux
                    have hI64 : I64 (i : Int) := by unfold I64; omega
                    clear hmt htx hux
                    go_wp2_with fail
                    (with_reducible refine (vb_len H4.out).mono ?_)
                    rintro _ x3 ⟨rfl, K3⟩
                    have H5 := Lib.hid K3
                    clear K3
                    go_wp2_with fail
                    (with_reducible refine (vb_text H5.out i hI64 Htx.out).mono ?_)
                    rintro _ x4 ⟨rfl, K4⟩
                    have H6 := Lib.hid K4
                    clear K4
                    go_wp2_with fail
                    (with_reducible refine (vb_btext H6.out i Hux.out).mono ?_)
                    rintro _ x5 ⟨rfl, K5⟩
                    have H7 := Lib.hid K5
                    clear K5
                    cases tb with
                    | false =>
                      go_wp2_with fail
                      go_roundw
                      case rel => exact ⟨i + 1, by omega, by go_num, H7.out⟩
                      case measure => simp [intOf]; omega
                    | true =>
                      obtain ⟨rfl, rfl⟩ := Hmt.out rfl
                      go_wp2_with fail
                      go_roundw
                      case rel => exact ⟨i + 1, by omega, by go_num, H7.out⟩
                      case measure => simp [intOf]; omega
                  · obtain rfl : i = x.b.es.length + 2 := by omega
                    go_wp2_with fail
                    (with_reducible refine (vb_len H4.out).mono ?_)
                    rintro _ x3 ⟨rfl, K3⟩
                    have H5 := Lib.hid K3
                    clear K3
                    go_wp2_with fail
                    go_loopw [26] (fun iv wr => ∃ k : Nat, k ≤ l.length ∧ iv = .int .i64 k ∧ Hid (VB W rb bb vb key [] x (.slice am M.length capm) M L wr)) (fun iv _ => l.length - (intOf iv).toNat)
                    case atStart => exact ⟨0, Nat.zero_le _, rfl, H5.out⟩
                    case round =>
                      obtain ⟨j, hj, rfl, H6⟩ := hrel
                      obtain ⟨wn, rfl⟩ : ∃ x, x = wr := ⟨_, rfl⟩
                      by_cases hjl : j < l.length
                      · rcases Hsc.out with hnil | ⟨b, o, rfl, hbW, _, hc⟩
                        · simp [hnil] at hjl
                        have Hy := Lib.hid (hc j hjl)
                        have hy100 := Hl100.out l[j] (List.getElem_mem hjl)
                        generalize l[j] = y at *
                        have hyc : Hid (∀ {z : World}, Nw W z → z.cell? ⟨b, o + j * 4 + 1, none⟩ = some (.string ⟨y.name.toArray⟩)) := fun {z} u => by
                          obtain ⟨p0, p1, p2, p3⟩ := Hy.out
                          exact ((Nw.below u).cell (p := ⟨b, o + j * 4 + 1, none⟩) hbW).trans p1
                        have c1 := hyc.out H6.out.nw
                        obtain ⟨m, mb, hab⟩ : ∃ m mb, Vw.absentOf L y.name = (m, mb) := ⟨_, _, rfl⟩
                        have habs := fun (k : Nat) (hk : (k : Int) < m) => HM.out.absent HLM.out (name := y.name) (k := k) (by rw [hab]; exact hk)
                        have hm0 := (Vw.abs_spec (fun s hs => (HM.out.each s (HLM.out s hs)).2.2) y.name).2.2
                        rw [hab] at hm0
                        dsimp only at hm0
                        have Habs := Lib.hid habs
                        have Hab := Lib.hid hab
                        have Hy100 := Lib.hid hy100
                        generalize y.name = nm at *
                        clear habs hab hy100 hc Hy
                        go_wp2_with fail
                        (with_reducible refine (vb_abs H6.out nm (by have := Hy100.out.1; omega) Hab.out).mono ?_)
                        rintro _ x6 ⟨rfl, K6⟩
                        have H7 := Lib.hid K6
                        clear K6 c1
                        have hm63 : m ≤ 25 := by
                          by_cases h : 0 < m
                          · obtain ⟨h1, _⟩ := Habs.out (m - 1).toNat (by omega)
                            omega
                          · omega
                        obtain ⟨mn, rfl⟩ := Int.eq_ofNat_of_zero_le hm0
                        go_wp2_with fail
                        go_loopw [29] (fun iv wr => ∃ k : Nat, k ≤ mn ∧ iv = .int .i64 k ∧ Hid (VB W rb bb vb key [] x (.slice am M.length capm) M L wr)) (fun iv _ => mn - (intOf iv).toNat)
                        case atStart => exact ⟨0, Nat.zero_le _, rfl, H7.out⟩
                        case round =>
                          obtain ⟨k, hk, rfl, H8⟩ := hrel
                          obtain ⟨wm, rfl⟩ : ∃ x, x = wr := ⟨_, rfl⟩
                          cases mb with
                          | false =>
                            go_wp2_with fail
                            go_roundw
                            case rel => exact ⟨j + 1, by omega, by go_num, H8.out⟩
                            case measure => simp [intOf]; omega
                          | true =>
                          by_cases hkm : k < mn
                          · obtain ⟨hke, hhas⟩ := Habs.out k (by omega)
                            have htx : Bk.textAt x.b k = (x.b.es[k], true) := by unfold Bk.textAt; rw [if_neg (by omega)]; simp [hke]
                            have hkl := (HM.out.hon.keyed _ (List.getElem_mem hke)).2
                            generalize x.b.es[k] = t at *
                            have Htx := Lib.hid htx
                            obtain ⟨kn, hn, hkey2⟩ : ∃ kn hn, Cl.key t = (kn, hn) := ⟨_, _, rfl⟩
                            have hno : hn = true → kn ≠ nm := fun e1 e2 => by
                              unfold Cl.hasKey at hhas
                              rw [hkey2, e1, e2] at hhas
                              simp at hhas
                            have KC := Lib.hid (fun z (gz : Gl z) => key_c ⟨t.toArray⟩ t (bs_list _) (by omega) z gz)
                            have Hno := Lib.hid hno
                            have Hk2 := Lib.hid hkey2
                            clear htx hhas hkey2 hno hke
                            go_wp2_with fail
                            (with_reducible refine (vb_btext H8.out k Htx.out).mono ?_)
                            rintro _ x7 ⟨rfl, K7⟩
                            have H9 := Lib.hid K7
                            clear K7
                            go_wp2_with fail
                            (with_reducible refine (KC.out _ (g.upd H9.out.nw)).mono ?_)
                            rintro _ x8 ⟨rfl, u8⟩
                            have H10 := Lib.hid (H9.out.go u8)
                            have c2 := hyc.out H10.out.nw
                            rw [Hk2.out]
                            cases hn with
                            | false =>
                              go_wp2_with fail
                              go_roundw
                              case rel => exact ⟨k + 1, by omega, by go_num, H10.out⟩
                              case measure => simp [intOf]; omega
                            | true =>
                              have dn : (kn == nm) = false := beq_eq_false_iff_ne.2 (Hno.out rfl)
                              go_wp2_with fail
                              go_roundw
                              case rel => exact ⟨k + 1, by omega, by go_num, H10.out⟩
                              case measure => simp [intOf]; omega
                          · obtain rfl : k = mn := by omega
                            go_wp2_with fail
                            go_roundw
                            case rel => exact ⟨j + 1, by omega, by go_num, H8.out⟩
                            case measure => simp [intOf]; omega
                      · obtain rfl : j = l.length := by omega
                        go_wp2_with fail
                        go_ret
                        exact ⟨rfl, H6.out.nw⟩
          · go_wp2_with fail
            (try clear hM0)
            go_loopw [18] (fun iv wr => ∃ k : Nat, k ≤ M.length ∧ iv = .int .i64 k ∧ Hid (∃ L, L.length ≤ 80 + k ∧ (∀ s ∈ L, s ∈ M) ∧ VB W rb bb vb key [] x (.slice am M.length capm) M L wr)) (fun iv _ => M.length - (intOf iv).toNat)
            case atStart => exact ⟨0, Nat.zero_le _, rfl, L, by omega, HLM.out, H1.out⟩
            case round =>
              clear H1 HLM hL80 L gw
              obtain ⟨k, hk, rfl, HR⟩ := hrel
              obtain ⟨wp, rfl⟩ : ∃ x, x = wr := ⟨_, rfl⟩
              obtain ⟨L, hLk, hLM, K⟩ := HR.out
              have gw := g.upd K.nw
              have hL9 : Hid (L.length ≤ 900000) := by show _ ≤ _; omega
              by_cases hkM : k < M.length
              · have H1 := Lib.hid K
                clear K HR
                obtain ⟨b2, o2, rfl, e0, e1, e2⟩ := Hcs.out L wp k hkM H1.out
                have hsM := List.getElem_mem hkM
                generalize M[k] = s at *
                obtain ⟨e, L', hac⟩ : ∃ e L', Vw.accept x.L key L s = (e, L') := ⟨_, _, rfl⟩
                have hma := Vw.made_accept HM.out hLM hsM
                rw [hac] at hma
                dsimp only at hma
                obtain ⟨rfl, hLM'⟩ := hma
                have hl' := Vw.accept_len x.L key L s
                rw [hac] at hl'
                dsimp only at hl'
                have Hac := Lib.hid hac
                have HL' : Hid (L'.length ≤ 80 + (k + 1) ∧ ∀ t ∈ L', t ∈ M) := ⟨by omega, hLM'⟩
                have HSo := Lib.hid (hI.out s hsM)
                clear hac hl' hLM hLM' hsM hLk
                go_wp2_with fail
                (with_reducible refine (vb_acc H1.out gw s HSo.out hL9.out Hac.out).mono ?_)
                rintro _ x1 ⟨rfl, K1⟩
                have H2 := Lib.hid K1
                clear K1
                go_wp2_with fail
                go_roundw
                case rel => exact ⟨k + 1, by omega, by go_num, L', HL'.out.1, HL'.out.2, H2.out⟩
                case measure => simp [intOf]; omega
              · have H1 := Lib.hid K
                have HLM := Lib.hid hLM
                have hsz := HM.out.size hLM
                obtain ⟨sn, st, hst⟩ : ∃ sn st, Vw.sizeOf L = (sn, st) := ⟨_, _, rfl⟩
                rw [hst] at hsz
                dsimp only at hsz
                have Hst := Lib.hid hst
                clear K HR hLM hLk hst
                go_wp2_with fail
                (with_reducible refine (vb_size H1.out Hst.out).mono ?_)
                rintro _ x1 ⟨rfl, K1⟩
                have H2 := Lib.hid K1
                clear K1
                go_wp2_with fail
                (with_reducible refine (vb_len H2.out).mono ?_)
                rintro _ x2 ⟨rfl, K2⟩
                have H3 := Lib.hid K2
                clear K2
                go_wp2_with fail
                go_loopw [21] (fun iv wr => ∃ k : Nat, k ≤ x.b.es.length + 2 ∧ iv = .int .i64 k ∧ Hid (VB W rb bb vb key [] x (.slice am M.length capm) M L wr)) (fun iv _ => x.b.es.length + 2 - (intOf iv).toNat)
                case atStart => exact ⟨0, Nat.zero_le _, rfl, H3.out⟩
                case round =>
                  obtain ⟨i, hi, rfl, H4⟩ := hrel
                  obtain ⟨wo, rfl⟩ : ∃ x, x = wr := ⟨_, rfl⟩
                  by_cases hin : i < x.b.es.length + 2
                  · obtain ⟨t, tb, htx⟩ : ∃ t tb, Vw.textAt L i = (t, tb) := ⟨_, _, rfl⟩
                    obtain ⟨u, ub, hux⟩ : ∃ u ub, Bk.textAt x.b i = (u, ub) := ⟨_, _, rfl⟩
                    have hmt : tb = true → u = t ∧ ub = true := fun e => by
                      have := HM.out.textAt HLM.out (i := i) (by rw [htx]; exact e)
                      rw [htx, hux] at this
                      injection this with a b
                      exact ⟨a, b⟩
                    have Hmt := Lib.hid hmt
                    have Htx := Lib.hid htx
                    have Hux := Lib.hid hux
                    have hI64 : I64 (i : Int) := by unfold I64; omega
                    clear hmt htx hux
                    go_wp2_with fail
                    (with_reducible refine (vb_len H4.out).mono ?_)
                    rintro _ x3 ⟨rfl, K3⟩
                    have H5 := Lib.hid K3
                    clear K3
                    go_wp2_with fail
                    (with_reducible refine (vb_text H5.out i hI64 Htx.out).mono ?_)
                    rintro _ x4 ⟨rfl, K4⟩
                    have H6 := Lib.hid K4
                    clear K4
                    go_wp2_with fail
                    (with_reducible refine (vb_btext H6.out i Hux.out).mono ?_)
                    rintro _ x5 ⟨rfl, K5⟩
                    have H7 := Lib.hid K5
                    clear K5
                    cases tb with
                    | false =>
                      go_wp2_with fail
                      go_roundw
                      case rel => exact ⟨i + 1, by omega, by go_num, H7.out⟩
                      case measure => simp [intOf]; omega
                    | true =>
                      obtain ⟨rfl, rfl⟩ := Hmt.out rfl
                      go_wp2_with fail
                      go_roundw
                      case rel => exact ⟨i + 1, by omega, by go_num, H7.out⟩
                      case measure => simp [intOf]; omega
                  · obtain rfl : i = x.b.es.length + 2 := by omega
                    go_wp2_with fail
                    (with_reducible refine (vb_len H4.out).mono ?_)
                    rintro _ x3 ⟨rfl, K3⟩
                    have H5 := Lib.hid K3
                    clear K3
                    go_wp2_with fail
                    go_loopw [26] (fun iv wr => ∃ k : Nat, k ≤ l.length ∧ iv = .int .i64 k ∧ Hid (VB W rb bb vb key [] x (.slice am M.length capm) M L wr)) (fun iv _ => l.length - (intOf iv).toNat)
                    case atStart => exact ⟨0, Nat.zero_le _, rfl, H5.out⟩
                    case round =>
                      obtain ⟨j, hj, rfl, H6⟩ := hrel
                      obtain ⟨wn, rfl⟩ : ∃ x, x = wr := ⟨_, rfl⟩
                      by_cases hjl : j < l.length
                      · rcases Hsc.out with hnil | ⟨b, o, rfl, hbW, _, hc⟩
                        · simp [hnil] at hjl
                        have Hy := Lib.hid (hc j hjl)
                        have hy100 := Hl100.out l[j] (List.getElem_mem hjl)
                        generalize l[j] = y at *
                        have hyc : Hid (∀ {z : World}, Nw W z → z.cell? ⟨b, o + j * 4 + 1, none⟩ = some (.string ⟨y.name.toArray⟩)) := fun {z} u => by
                          obtain ⟨p0, p1, p2, p3⟩ := Hy.out
                          exact ((Nw.below u).cell (p := ⟨b, o + j * 4 + 1, none⟩) hbW).trans p1
                        have c1 := hyc.out H6.out.nw
                        obtain ⟨m, mb, hab⟩ : ∃ m mb, Vw.absentOf L y.name = (m, mb) := ⟨_, _, rfl⟩
                        have habs := fun (k : Nat) (hk : (k : Int) < m) => HM.out.absent HLM.out (name := y.name) (k := k) (by rw [hab]; exact hk)
                        have hm0 := (Vw.abs_spec (fun s hs => (HM.out.each s (HLM.out s hs)).2.2) y.name).2.2
                        rw [hab] at hm0
                        dsimp only at hm0
                        have Habs := Lib.hid habs
                        have Hab := Lib.hid hab
                        have Hy100 := Lib.hid hy100
                        generalize y.name = nm at *
                        clear habs hab hy100 hc Hy
                        go_wp2_with fail
                        (with_reducible refine (vb_abs H6.out nm (by have := Hy100.out.1; omega) Hab.out).mono ?_)
                        rintro _ x6 ⟨rfl, K6⟩
                        have H7 := Lib.hid K6
                        clear K6 c1
                        have hm63 : m ≤ 25 := by
                          by_cases h : 0 < m
                          · obtain ⟨h1, _⟩ := Habs.out (m - 1).toNat (by omega)
                            omega
                          · omega
                        obtain ⟨mn, rfl⟩ := Int.eq_ofNat_of_zero_le hm0
                        go_wp2_with fail
                        go_loopw [29] (fun iv wr => ∃ k : Nat, k ≤ mn ∧ iv = .int .i64 k ∧ Hid (VB W rb bb vb key [] x (.slice am M.length capm) M L wr)) (fun iv _ => mn - (intOf iv).toNat)
                        case atStart => exact ⟨0, Nat.zero_le _, rfl, H7.out⟩
                        case round =>
                          obtain ⟨k, hk, rfl, H8⟩ := hrel
                          obtain ⟨wm, rfl⟩ : ∃ x, x = wr := ⟨_, rfl⟩
                          cases mb with
                          | false =>
                            go_wp2_with fail
                            go_roundw
                            case rel => exact ⟨j + 1, by omega, by go_num, H8.out⟩
                            case measure => simp [intOf]; omega
                          | true =>
                          by_cases hkm : k < mn
                          · obtain ⟨hke, hhas⟩ := Habs.out k (by omega)
                            have htx : Bk.textAt x.b k = (x.b.es[k], true) := by unfold Bk.textAt; rw [if_neg (by omega)]; simp [hke]
                            have hkl := (HM.out.hon.keyed _ (List.getElem_mem hke)).2
                            generalize x.b.es[k] = t at *
                            have Htx := Lib.hid htx
                            obtain ⟨kn, hn, hkey2⟩ : ∃ kn hn, Cl.key t = (kn, hn) := ⟨_, _, rfl⟩
                            have hno : hn = true → kn ≠ nm := fun e1 e2 => by
                              unfold Cl.hasKey at hhas
                              rw [hkey2, e1, e2] at hhas
                              simp at hhas
                            have KC := Lib.hid (fun z (gz : Gl z) => key_c ⟨t.toArray⟩ t (bs_list _) (by omega) z gz)
                            have Hno := Lib.hid hno
                            have Hk2 := Lib.hid hkey2
                            clear htx hhas hkey2 hno hke
                            go_wp2_with fail
                            (with_reducible refine (vb_btext H8.out k Htx.out).mono ?_)
                            rintro _ x7 ⟨rfl, K7⟩
                            have H9 := Lib.hid K7
                            clear K7
                            go_wp2_with fail
                            (with_reducible refine (KC.out _ (g.upd H9.out.nw)).mono ?_)
                            rintro _ x8 ⟨rfl, u8⟩
                            have H10 := Lib.hid (H9.out.go u8)
                            have c2 := hyc.out H10.out.nw
                            rw [Hk2.out]
                            cases hn with
                            | false =>
                              go_wp2_with fail
                              go_roundw
                              case rel => exact ⟨k + 1, by omega, by go_num, H10.out⟩
                              case measure => simp [intOf]; omega
                            | true =>
                              have dn : (kn == nm) = false := beq_eq_false_iff_ne.2 (Hno.out rfl)
                              go_wp2_with fail
                              go_roundw
                              case rel => exact ⟨k + 1, by omega, by go_num, H10.out⟩
                              case measure => simp [intOf]; omega
                          · obtain rfl : k = mn := by omega
                            go_wp2_with fail
                            go_roundw
                            case rel => exact ⟨j + 1, by omega, by go_num, H8.out⟩
                            case measure => simp [intOf]; omega
                      · obtain rfl : j = l.length := by omega
                        go_wp2_with fail
                        go_ret
                        exact ⟨rfl, H6.out.nw⟩
end Go.Proofs.YtidmehiboceobaaDoor
