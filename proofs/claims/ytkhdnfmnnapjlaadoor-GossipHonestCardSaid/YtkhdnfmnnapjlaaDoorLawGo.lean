/- The walk of the statement GossipHonest. -/
import Derived.Test.YtkhdnfmnnapjlaaDoorGosT
import Derived.Test.YtkhdnfmnnapjlaaDoorGosE
namespace Go.Proofs.YtkhdnfmnnapjlaaDoor
open Go.RowKit
set_option linter.unusedVariables false
set_option linter.unusedSimpArgs false
attribute [local irreducible] Calls

/-- While the book is asked. -/
def GoI (W : World) (p : VNR) (vv : Value) (k : Nat) (mv : Value) (z : World) : Prop :=
  ∃ (x : Bk.St) (M : List Bk.Sgn), Fam W p 1 3 7 x.L (fun _ => x.b) (fun _ => []) (fun j => vv.ownBlock = some j ∨ mv.ownBlock = some j) z ∧ Vw.Made 7 x M ∧ x.L.length ≤ k ∧ M.length ≤ k ∧ z.ownsRow W.heap.size tSigned 3 mv M.length (flatS M) ∧ z.ownsRow W.heap.size tPV 1 vv 3 (ptrs p.vbs 3)
theorem turn_len9 (x : Bk.St) (o : Vw.Turn) : (Vw.turnS x o).2.L.length ≤ x.L.length + 1 := by
  unfold Vw.turnS Bk.entry Bk.head Bk.absent Bk.append
  repeat' split
  all_goals first | exact Bk.sign_len _ _ _ | exact Nat.le_succ _ | (simp; done)
theorem sl_own {B : Nat} {T : TypeId} {w : World} {v : Value} {n : Nat} {xs : List Value} (h : w.ownsRow B T 1 v n xs) (hn : n = xs.length) : Sl B w.heap.size w v xs := by
  subst hn
  exact Sl.of_owns h
set_option maxHeartbeats 4000000 in
set_option maxRecDepth 100000 in
theorem gossipHonest_c (v0 v1 v2 : Value) (l : List Vw.Turn) (tl : List Int) (P : List (Int × Int)) (W : World) (g : Gl W) (h0 : SlS 4 0 W.heap.size W v0 (l.map turnL)) (ho : ∀ o ∈ l, TurnOk o) (h1 : Sl 0 W.heap.size W v1 (tl.map (Value.int .i64))) (i1 : ∀ k ∈ tl, I64 k)
    (h2 : SlS 2 0 W.heap.size W v2 (P.map pairL)) (i2 : ∀ q ∈ P, I64 q.1 ∧ I64 q.2) :
    Calls Tryd.prog 3 #[v0, v1, v2] W fun e w' => e = .returned (.bool true) ∧ Nw W w' := by
  have hgb := g.big
  have hsm := Lib.hid (small9_w W g)
  obtain ⟨a0, c0, rfl, m0, _⟩ := turn_cells h0
  obtain ⟨a1, c1, rfl, m1, _⟩ := h1.open_
  obtain ⟨a2, c2, rfl, m2, _⟩ := pair_cells h2
  rw [List.length_map] at m1
  unfold maxLen at m0 m1 m2
  have HA := Lib.hid (And.intro h0 (And.intro ho (And.intro h1 (And.intro i1 (And.intro h2 i2)))))
  clear h0 ho h1 i1 h2 i2
  rw [List.length_map] at HA ⊢
  go_enter Tryd.func3, Tryd.ntmps3
  go_wp2_with fail
  (with_reducible refine (hsm.out).mono ?_)
  rintro _ w1 ⟨rfl, u1⟩
  have hfw := Lib.hid (fewturns20_w 0 W.heap.size _ l w1 (HA.out.1.nw u1) HA.out.2.1)
  have U1 := Lib.hid u1
  clear hsm u1
  go_wp2_with fail
  (with_reducible refine (hfw.out).mono ?_)
  rintro _ w2 ⟨f, rfl, hf, u2⟩
  have U2 := Lib.hid (U1.out.trans u2)
  clear hfw u2
  cases f with
  | false =>
    clear hf
    go_wp2_with fail
    go_ret
    exact ⟨rfl, U2.out⟩
  | true =>
  have HF := Lib.hid (hf rfl)
  clear hf
  by_cases ht : 20 < tl.length
  · have ht1 : (20 : Int) < tl.length := by omega
    go_wp2_with fail
    go_ret
    exact ⟨rfl, U2.out⟩
  by_cases hp : 8 < P.length
  · have hp1 : (8 : Int) < P.length := by omega
    have ht1 : ¬ (20 : Int) < tl.length := by omega
    go_wp2_with fail
    go_ret
    exact ⟨rfl, U2.out⟩
  have ht1 : ¬ (20 : Int) < tl.length := by omega
  have hp1 : ¬ (8 : Int) < P.length := by omega
  have g2 := g.upd U2.out
  have hns := Lib.hid (new_s w2 g2)
  go_wp2_with fail
  (with_reducible refine (hns.out).mono ?_)
  rintro _ w3 ⟨q, rfl, hq, u3⟩
  have fa3 := Fam.start (key := 7) (bs := fun _ => Bk.new 7) (L := fun _ => []) hq u3
  have hnb := Lib.hid (new_b' q.rb 7 (by decide) w3 (g2.upd u3))
  have FA3 := Lib.hid fa3
  generalize q.rb = rb at *
  clear hns hq u3 fa3
  go_wp2_with fail
  (with_reducible refine (hnb.out).mono ?_)
  rintro _ w4 ⟨br, rfl, hb, u4⟩
  have fa4 := FA3.out.oneBook g2.big u4 hb
  have FA4 : Hid (Fam w2 ⟨rb, fun _ => br.bb, fun _ => 0⟩ 1 0 7 [] (fun _ => Bk.new 7) (fun _ => []) (fun _ => False) w4) := by
    refine ⟨fa4.1.same (fun i hi => ?_), fun i hi => by omega⟩
    unfold famC
    by_cases hi0 : i = 0
    · rw [if_pos hi0, if_pos hi0]
    · obtain rfl : i = 1 := by omega
      rfl
  generalize br.bb = bb at *
  clear hnb hb u4 fa4 FA3
  have hvw := Lib.hid (views_w FA4.out g2 (by decide))
  go_wp2_with fail
  (with_reducible refine (hvw.out).mono ?_)
  rintro _ w5 ⟨vv, rfl, ⟨vbs, fa5, ov5, n5⟩⟩
  obtain ⟨av, cv, rfl⟩ := own_slG ov5
  have hI0 : Hid (GoI w2 ⟨rb, fun _ => bb, vbs⟩ (.slice av 3 cv) 0 (.slice none 0 0) w5) := ⟨⟨[], Bk.new 7⟩, [], fa5.less (fun k hk => Or.inr (hk.resolve_right (fun e => by cases e))), Vw.Made.start (by decide), Nat.le_refl _, Nat.le_refl _, World.ownsRow_nil _ _ _ _, owns_base ov5 FA4.out.nw0.size⟩
  clear hvw fa5 ov5 n5
  have hl20 : (l.length : Int) ≤ 20 := by have := HF.out.1; omega
  have hl0 : (0 : Int) ≤ l.length := by omega
  obtain ⟨pp, hpp⟩ : ∃ pp : VNR, pp = ⟨rb, fun _ => bb, vbs⟩ := ⟨_, rfl⟩
  have Hpp : Hid (pp.rb = rb ∧ pp.bbs 0 = bb) := by rw [hpp]; exact ⟨rfl, rfl⟩
  rw [← hpp] at hI0
  have hgw2 := g2.big
  clear hpp FA4
  rw [← Hpp.out.1, ← Hpp.out.2]
  go_wp2_with fail
  go_loopw [12, 13] (fun mv iv wr => ∃ k : Nat, k ≤ l.length ∧ iv = .int .i64 k ∧ Hid (GoI w2 pp (.slice av 3 cv) k mv wr)) (fun _ iv _ => l.length - (intOf iv).toNat)
  case atStart => exact ⟨0, Nat.zero_le _, rfl, hI0.out⟩
  case round =>
    obtain ⟨k, hk, rfl, HI⟩ := hrel
    obtain ⟨x, M, fa, hmade, hx1, hx2, om, ov⟩ := HI.out
    obtain ⟨am, cm, rfl⟩ := own_slG om
    have FA := Lib.hid fa
    have OM := Lib.hid om
    have OV := Lib.hid ov
    have HMd := Lib.hid hmade
    have Hx := Lib.hid (And.intro hx1 hx2)
    clear fa om ov hmade hx1 hx2 HI
    by_cases hlt : k < l.length
    · obtain ⟨a', cap', ev, _, hcells⟩ := turn_cells (HA.out.1.nw (U2.out.trans FA.out.nw0))
      simp only [Value.slice.injEq, true_and] at ev
      obtain ⟨rfl, rfl⟩ := ev
      rcases hcells with hnil | ⟨b, off, rfl, _, _, hc⟩
      · rw [hnil] at hlt; simp at hlt
      obtain ⟨d0, d1, d2, d3⟩ := hc k hlt
      have hto := HA.out.2.1 _ (List.getElem_mem hlt)
      have h100 := HF.out.2 _ (List.getElem_mem hlt)
      have hkk : k ≤ 20 := by omega
      clear hc
      generalize l[k] = o at *
      have hak := Lib.hid (asked_w (p := pp) x FA.out g2 o hto h100 (by have := Hx.out.1; omega))
      have hst := HMd.out.step o
      have htl := turn_len9 x o
      clear hto h100
      generalize hT : Vw.turnS x o = T at *
      clear hT
      obtain ⟨⟨y, e0⟩, x'⟩ := T
      dsimp only [sgnV] at hak hst htl
      have Hst := Lib.hid hst
      have Htl := Lib.hid htl
      clear hst htl
      go_wp2_with fail
      (with_reducible refine (hak.out).mono ?_)
      rintro _ w6 ⟨rfl, fa6, mv6⟩
      have FA6 := Lib.hid (fa6.nw (nw_alloc w6 (sObj y)))
      have mv7 := mv6.trans (Nw.upd _ (nw_alloc w6 (sObj y)))
      have OM6 := Lib.hid (owns_upd' OM.out mv7 (fun j hj e => e.1 (Or.inr hj)))
      have OV6 := Lib.hid (owns_upd' OV.out mv7 (fun j hj e => e.1 (Or.inl hj)))
      clear hak fa6 mv6 d0 d1 d2 d3
      by_cases he0 : e0 = 0
      · subst he0
        have hM2 := Hst.out
        rw [if_pos rfl] at hM2
        have HM2 := Lib.hid hM2
        have hMl : M.length + 1 ≤ 21 := by have := Hx.out.2; omega
        have hw67 : w2.heap.size ≤ (w6.alloc (sObj y)).heap.size := FA6.out.nw0.size
        clear hM2 mv7
        go_wp2_with (at_builtin; (refine wpList_appL rfl _ _ 35 rfl w2.heap.size tSigned _ 3 32 Tryd.underlying35 infoSgn rfl (by decide) _ _ _ rfl OM6.out (sgl y) (by show Value.slice _ _ _ = Value.slice _ _ _; simp) rfl ?c1 ?c2 ?c3 hw67 hgw2 ?_))
        case c1 =>
          intro u hu
          simp only [sgl, List.mem_cons, List.not_mem_nil, or_false] at hu
          rcases hu with rfl | rfl | rfl <;> rfl
        case c2 => unfold maxLen; omega
        case c3 => omega
        intro v' w8 o8 u8 hob
        have hz : Hid (GoI w2 pp (.slice av 3 cv) (k + 1) v' w8) := by
          refine ⟨x', M ++ [y], FA6.out.upd_keep u8 (fun j hj => Or.inl ⟨Or.inr hj, (OM6.out.lt j hj).1⟩) (fun j hj => ?_), HM2.out, by have := Htl.out; have := Hx.out.1; omega, by rw [List.length_append, List.length_singleton]; have := Hx.out.2; omega, ?_, owns_upd' OV6.out u8 (fun j hj e => ?_)⟩
          · rcases hj with hj | hj
            · exact Or.inl (Or.inl hj)
            · rcases hob j hj with e | e
              · exact Or.inl (Or.inr e)
              · exact Or.inr ⟨by simp; exact e, (o8.lt j hj).2⟩
          · rw [List.length_append, List.length_singleton, flatS_snoc]; exact o8
          · obtain ⟨_, cs, q1⟩ := own_block OV6.out hj
            obtain ⟨_, cs2, q2⟩ := own_block OM6.out e
            rw [q1] at q2
            injection q2 with q2
            injection q2 with _ q2
            exact absurd q2 (by decide)
        clear o8 u8 hob
        go_wp2_with fail
        go_roundw
        case rel => exact ⟨k + 1, by omega, by go_num, hz.out⟩
        case measure => simp [intOf]; omega
      · have hd : decide (e0 = 0) = false := decide_eq_false he0
        have hM2 := Hst.out
        rw [if_neg he0] at hM2
        have hz : Hid (GoI w2 pp (.slice av 3 cv) (k + 1) (.slice am M.length cm) (w6.alloc (sObj y))) := ⟨x', M, FA6.out, hM2, by have := Htl.out; have := Hx.out.1; omega, by have := Hx.out.2; omega, OM6.out, OV6.out⟩
        clear hM2 mv7 he0
        rw [hd]
        go_wp2_with fail
        go_roundw
        case rel => exact ⟨k + 1, by omega, by go_num, hz.out⟩
        case measure => simp [intOf]; omega
    · obtain rfl : k = l.length := by omega
      have hx20 : x.L.length ≤ 20 := by have := Hx.out.1; omega
      have hM20 : (M.length : Int) ≤ 20 := by have := Hx.out.2; omega
      have HX20 := Lib.hid hx20
      have hM0 : (0 : Int) ≤ M.length := by omega
      obtain ⟨wq, rfl⟩ : ∃ w, w = wr := ⟨_, rfl⟩
      have hJ0 : Hid (HFam w2 pp 1 3 7 x.L (fun _ => x.b) M (fun j => (Value.slice av 3 cv).ownBlock = some j ∨ (Value.slice am M.length cm).ownBlock = some j) wq ∧ MovesN w2 (fun j => (Value.slice av 3 cv).ownBlock = some j ∨ (Value.slice am M.length cm).ownBlock = some j) wq wq) := ⟨⟨_, FA.out, fun i hi s hs => by cases hs⟩, Upd.refl _ _⟩
      clear Hx hx20
      obtain ⟨F5, hF5⟩ : ∃ F5 : Nat → Prop, F5 = fun j => (Value.slice av 3 cv).ownBlock = some j ∨ (Value.slice am M.length cm).ownBlock = some j := ⟨_, rfl⟩
      rw [← hF5] at hJ0
      have HF5 : Hid ((∀ j, (Value.slice av 3 cv).ownBlock = some j → F5 j) ∧ ∀ j, (Value.slice am M.length cm).ownBlock = some j → F5 j) := by rw [hF5]; exact ⟨fun j e => Or.inl e, fun j e => Or.inr e⟩
      clear hF5
      have HC : Hid (∀ z', MovesN w2 F5 wq z' → ∃ b off, am = some ⟨b, off, none⟩ ∧ ∀ i (h : i < M.length), z'.cell? ⟨b, off + i * 3, none⟩ = some (.int .i64 M[i].key) ∧ z'.cell? ⟨b, off + i * 3 + 1, none⟩ = some (.string ⟨M[i].text.toArray⟩) ∧ z'.cell? ⟨b, off + i * 3 + 2, none⟩ = some (.int .i64 M[i].mark)) ∨ Hid (M = []) := by
        by_cases hMn : M = []
        · exact Or.inr hMn
        · refine Or.inl fun z' mv => ?_
          obtain ⟨a', cap', ev, _, hc⟩ := sgn_cells (sgn_sls (owns_upd' OM.out mv (fun j hj e => e.1 (HF5.out.2 j hj))))
          simp only [Value.slice.injEq, true_and] at ev
          obtain ⟨rfl, rfl⟩ := ev
          rcases hc with hn | ⟨b, off, e, _, _, hc⟩
          · exact absurd hn hMn
          · exact ⟨b, off, e, hc⟩
      have HVc : Hid (∀ z', MovesN w2 F5 wq z' → ∃ lo hi, Sl lo hi z' (.slice av 3 cv) (ptrs pp.vbs 3)) := fun z' mv => ⟨_, _, sl_own (owns_upd' OV.out mv (fun j hj e => e.1 (HF5.out.1 j hj))) (by unfold ptrs; simp)⟩
      have HNw : Hid (∀ z', MovesN w2 F5 wq z' → Nw W z') := fun z' mv => U2.out.trans (FA.out.nw0.trans' mv (fun k hk e => by have := e.2; omega))
      have hHok := Lib.hid (fun s (hs : s ∈ M) => made_ok HMd.out (by have := HX20.out; omega) hs)
      go_wp2_with fail
      go_loopw [16] (fun iv wr => ∃ i : Nat, i ≤ M.length ∧ iv = .int .i64 i ∧ Hid (HFam w2 pp 1 3 7 x.L (fun _ => x.b) M F5 wr ∧ MovesN w2 F5 wq wr)) (fun iv _ => M.length - (intOf iv).toNat)
      case atStart => exact ⟨0, Nat.zero_le _, rfl, hJ0.out⟩
      case round =>
        obtain ⟨i, hi, rfl, HJ⟩ := hrel
        by_cases hlt : i < M.length
        · have hHJ := HJ.out.1
          have HHJ := Lib.hid hHJ
          have MVJ := Lib.hid HJ.out.2
          have hMn : M ≠ [] := fun e => by rw [e] at hlt; simp at hlt
          obtain ⟨wJ, rfl⟩ : ∃ w, w = wr := ⟨_, rfl⟩
          have HC2 : Hid (∀ z', MovesN w2 F5 wq z' → ∃ b off, am = some ⟨b, off, none⟩ ∧ ∀ i (h : i < M.length), z'.cell? ⟨b, off + i * 3, none⟩ = some (.int .i64 M[i].key) ∧ z'.cell? ⟨b, off + i * 3 + 1, none⟩ = some (.string ⟨M[i].text.toArray⟩) ∧ z'.cell? ⟨b, off + i * 3 + 2, none⟩ = some (.int .i64 M[i].mark)) := by
            rcases HC with h | h
            · exact h
            · exact absurd h.out hMn
          obtain ⟨sb, so, e9, _⟩ := HC2.out wJ MVJ.out
          subst e9
          have HC3 : Hid (∀ z', MovesN w2 F5 wq z' → ∀ i (h : i < M.length), z'.cell? ⟨sb, so + i * 3, none⟩ = some (.int .i64 M[i].key) ∧ z'.cell? ⟨sb, so + i * 3 + 1, none⟩ = some (.string ⟨M[i].text.toArray⟩) ∧ z'.cell? ⟨sb, so + i * 3 + 2, none⟩ = some (.int .i64 M[i].mark)) := fun z' mv i h => by
            obtain ⟨b', o', e, hc⟩ := HC2.out z' mv
            obtain ⟨rfl, rfl⟩ : sb = b' ∧ so = o' := by simpa using e
            exact hc i h
          have hi20 : (i : Int) ≤ 20 := by omega
          obtain ⟨L, fa, hLM⟩ := hHJ
          obtain ⟨q, hqb, hq⟩ := fa.ring
          have HCv : Hid (∀ (z' : World) (k : Nat) (hk : k < M.length), Nw wJ z' → Calls Tryd.prog 11 #[.pointer (some ⟨pp.rb, 0, none⟩), .agg #[.int .i64 M[i].key, .string ⟨M[i].text.toArray⟩, .int .i64 M[i].mark], .agg #[.int .i64 M[k].key, .string ⟨M[k].text.toArray⟩, .int .i64 M[k].mark]] z' fun e w' => e = .returned (.int .i64 19) ∧ Nw z' w') := fun z' k hk u => by
            have := convict_w _ q x.L M[i] M[k] z' (g2.upd (fa.nw0.trans u)) (hq.nw u) (hHok.out _ (List.getElem_mem hlt)) (hHok.out _ (List.getElem_mem hk))
            rw [hqb, made_convict HMd.out (List.getElem_mem hlt) (List.getElem_mem hk)] at this
            exact this
          have hK0 : Hid (Nw wJ wJ) := Upd.refl _ _
          clear fa hLM hq hqb HC HC2 HJ
          go_wp2_with fail
          go_loopw [17] (fun iv wr => ∃ k : Nat, k ≤ i + 1 ∧ iv = .int .i64 k ∧ Hid (Nw wJ wr)) (fun iv _ => i + 1 - (intOf iv).toNat)
          case atStart => exact ⟨0, Nat.zero_le _, rfl, hK0.out⟩
          case round =>
            obtain ⟨k, hk, rfl, HK⟩ := hrel
            have mvK := MVJ.out.trans (Nw.upd _ HK.out)
            by_cases hki : k < i + 1
            · have hkM : k < M.length := by omega
              have hki1 : (k : Int) ≤ i := by omega
              have hkM1 : (k : Int) < M.length := by omega
              have hiM1 : (i : Int) < M.length := by omega
              have l0 : ∀ t : Later wr, t.1.cell? ⟨sb, so + i * 3, none⟩ = some (.int .i64 M[i].key) := fun t => (HC3.out t.1 (mvK.trans (Nw.upd _ t.nw)) i hlt).1
              have l1 : ∀ t : Later wr, t.1.cell? ⟨sb, so + i * 3 + 1, none⟩ = some (.string ⟨M[i].text.toArray⟩) := fun t => (HC3.out t.1 (mvK.trans (Nw.upd _ t.nw)) i hlt).2.1
              have l2 : ∀ t : Later wr, t.1.cell? ⟨sb, so + i * 3 + 2, none⟩ = some (.int .i64 M[i].mark) := fun t => (HC3.out t.1 (mvK.trans (Nw.upd _ t.nw)) i hlt).2.2
              have l3 : ∀ t : Later wr, t.1.cell? ⟨sb, so + k * 3, none⟩ = some (.int .i64 M[k].key) := fun t => (HC3.out t.1 (mvK.trans (Nw.upd _ t.nw)) k hkM).1
              have l4 : ∀ t : Later wr, t.1.cell? ⟨sb, so + k * 3 + 1, none⟩ = some (.string ⟨M[k].text.toArray⟩) := fun t => (HC3.out t.1 (mvK.trans (Nw.upd _ t.nw)) k hkM).2.1
              have l5 : ∀ t : Later wr, t.1.cell? ⟨sb, so + k * 3 + 2, none⟩ = some (.int .i64 M[k].mark) := fun t => (HC3.out t.1 (mvK.trans (Nw.upd _ t.nw)) k hkM).2.2
              have hcv := Lib.hid (fun t : Later wr => HCv.out t.1 k hkM (HK.out.trans t.nw))
              clear mvK
              generalize M[i] = si at *
              generalize M[k] = sk at *
              go_wp2_with fail
              refine wp_region_nw (by kernel_rfl) (by kernel_rfl) ?_
              repeat (go_big_quiet_step ((go_at_call 11; exact later_call (hcv.out _))))
              refine wpQuiet_nil ?_
              intro w5 u5
              replace u5 := later_out u5
              have hz : Hid (Nw wJ w5) := HK.out.trans u5
              clear l0 l1 l2 l3 l4 l5 hcv u5
              go_wp2_with fail
              go_roundw
              case rel => exact ⟨k + 1, by omega, by go_num, hz.out⟩
              case measure => simp [intOf]; omega
            · obtain rfl : k = i + 1 := by omega
              have HJ1 := Lib.hid (HHJ.out.nw HK.out)
              have hki1 : ¬ ((i : Int) + 1 ≤ i) := by omega
              have hiM1 : (i : Int) < M.length := by omega
              by_cases hit : i < tl.length
              · have hit1 : (i : Int) < tl.length := by omega
                obtain ⟨a', cap', ev, hm', hcells⟩ := HA.out.2.2.1.open_
                rw [List.length_map] at ev
                simp only [Value.slice.injEq, true_and] at ev
                obtain ⟨rfl, rfl⟩ := ev
                rcases hcells with ⟨_, _, hnil⟩ | ⟨tb, tof, rfl, _, htb, htw, htc⟩
                · have := congrArg List.length hnil
                  rw [List.length_map] at this
                  rw [this] at hit; simp at hit
                have ht0 := htc i (by rw [List.length_map]; exact hit)
                rw [List.getElem?_map, List.getElem?_eq_getElem hit] at ht0
                have hti := HA.out.2.2.2.1 _ (List.getElem_mem hit)
                obtain ⟨j, hj3, hpl⟩ := place_w tl[i] hti
                have HPl := Lib.hid hpl
                obtain ⟨a4, c4, ev, hpc⟩ := ptr_cells (HVc.out wr mvK)
                simp only [Value.slice.injEq, true_and] at ev
                obtain ⟨rfl, rfl⟩ := ev
                rcases hpc with hn0 | ⟨vb0, vo0, rfl, hpc⟩
                · omega
                have hj1 : (j : Int) < 3 := by omega
                have q1 := hpc j hj3
                have t0 : ∀ t : Later wr, t.1.cell? ⟨tb, tof + i, none⟩ = some (.int .i64 tl[i]) := fun t => ((Nw.below (HNw.out t.1 (mvK.trans (Nw.upd _ t.nw)))).cell (p := ⟨tb, tof + i, none⟩) htw).trans ht0
                have t1 : ∀ t : Later wr, t.1.cell? ⟨vb0, vo0 + j, none⟩ = some (.pointer (some ⟨pp.vbs j, 0, none⟩)) := fun t => later_cell t q1
                have l0 : ∀ t : Later wr, t.1.cell? ⟨sb, so + i * 3, none⟩ = some (.int .i64 M[i].key) := fun t => (HC3.out t.1 (mvK.trans (Nw.upd _ t.nw)) i hlt).1
                have l1 : ∀ t : Later wr, t.1.cell? ⟨sb, so + i * 3 + 1, none⟩ = some (.string ⟨M[i].text.toArray⟩) := fun t => (HC3.out t.1 (mvK.trans (Nw.upd _ t.nw)) i hlt).2.1
                have l2 : ∀ t : Later wr, t.1.cell? ⟨sb, so + i * 3 + 2, none⟩ = some (.int .i64 M[i].mark) := fun t => (HC3.out t.1 (mvK.trans (Nw.upd _ t.nw)) i hlt).2.2
                have hsM := List.getElem_mem hlt
                have hac := Lib.hid (fun (t : Later wr) => hn_accept (HJ1.out.nw t.nw) g2 HMd.out (by have := HX20.out; omega) hj3 M[i] hsM)
                clear hpl hpc htc ht0 hti hHok HCv
                generalize M[i] = si at *
                generalize tl[i] = ti at *
                go_wp2_with fail
                refine wp_region_nw_tail 17 (by kernel_rfl) (by kernel_rfl) ?_
                simp only [List.take_succ_cons, List.take_zero, List.drop_succ_cons, List.drop_zero]
                repeat (go_big_quiet_step ((go_at_call 12; exact later_call (HPl.out _))))
                refine wpQuiet_nil ?_
                intro w6 u6
                replace u6 := later_out u6
                have hac2 := hac.out ⟨w6, u6⟩
                dsimp only at hac2
                have Hac := Lib.hid hac2
                clear hac2
                have HU6 := Lib.hid u6
                clear l0 l1 l2 t0 t1 hac u6
                go_wp2_with fail
                (with_reducible refine (Hac.out).mono ?_)
                rintro _ w7 ⟨rfl, fa7, mv7⟩
                have hz : Hid (HFam w2 pp 1 3 7 x.L (fun _ => x.b) M F5 w7 ∧ MovesN w2 F5 wq w7) := ⟨fa7, (mvK.trans (Nw.upd _ HU6.out)).trans mv7⟩
                clear fa7 mv7 Hac
                go_wp2_with fail
                go_roundw
                case rel => exact ⟨i + 1, by omega, by go_num, hz.out⟩
                case measure => simp [intOf]; omega
              · have hit1 : ¬ (i : Int) < tl.length := by omega
                go_wp2_with fail
                refine wp_region_nw (by kernel_rfl) (by kernel_rfl) ?_
                repeat (go_big_quiet_step ((fail)))
                refine wpQuiet_nil ?_
                intro w6 u6
                replace u6 := later_out u6
                have hz : Hid (HFam w2 pp 1 3 7 x.L (fun _ => x.b) M F5 w6 ∧ MovesN w2 F5 wq w6) := ⟨HJ1.out.nw u6, mvK.trans (Nw.upd _ u6)⟩
                clear u6
                go_wp2_with fail
                go_roundw
                case rel => exact ⟨i + 1, by omega, by go_num, hz.out⟩
                case measure => simp [intOf]; omega
        · obtain rfl : i = M.length := by omega
          obtain ⟨L, fa, hLM⟩ := HJ.out.1
          have mvJ := HJ.out.2
          have hms := made_spread HMd.out P 0 L hLM
          have hsp := spread_w fa g2 (by have := HX20.out; omega) (by omega) P HA.out.2.2.2.2.2 (by omega) (.slice av 3 cv) (.slice a2 P.length c2) 0 W.heap.size (fun z' mv => HVc.out z' (mvJ.trans mv)) (fun z' mv => HA.out.2.2.2.2.1.nw (HNw.out z' (mvJ.trans mv)))
          rw [hms] at hsp
          dsimp only [sgnV] at hsp
          rw [Nat.zero_add] at hsp
          have Hsp := Lib.hid hsp
          clear hms hsp fa hLM
          go_wp2_with fail
          (with_reducible refine (Hsp.out).mono ?_)
          rintro _ w8 ⟨rfl, _, mv8⟩
          have hfin := Lib.hid (HNw.out w8 (mvJ.trans mv8))
          have hPP : ((P.length : Int) == (P.length : Int)) = true := beq_self_eq_true _
          clear Hsp mv8 mvJ
          go_wp2_with fail
          go_ret
          exact ⟨rfl, (hfin.out.trans (nw_alloc _ _)).trans (nw_alloc _ _)⟩
end Go.Proofs.YtkhdnfmnnapjlaaDoor
