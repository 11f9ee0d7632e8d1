/- The contract of attest's Right: the groups' keys are met one after the other, those met are in a map of the call's own. The contracts of attest's votes without a ring, and of Accept. The contract of attest's Liars. -/
import Derived.Test.YtpceoogmkbcfmaaGreatDoorAttW
import Derived.Test.YtpceoogmkbcfmaaGreatDoorView0
import Derived.Test.YtpceoogmkbcfmaaGreatDoorAttP
namespace Go.Proofs.YtpceoogmkbcfmaaGreatDoor
open Go.RowKit Go.MapKept
open Go.Maps (Keyed)
set_option linter.unusedVariables false
set_option linter.unusedSimpArgs false
attribute [local irreducible] Calls

def seenL (l : List Int) : List (Value × Value) := l.map fun k => (.int .i64 k, .bool true)
theorem seen_look {w : World} {b : Nat} {l : List Int} (h : MapL Tryz.prog 3 w b (seenL l)) {k : Int} (hk : I64 k) : (Instr.lookup 70 (.map (some b)) (.int .i64 k) false).run Tryz.prog w = .ok (.bool (l.contains k)) w := by
  have hz : (zeroValue 4).run Tryz.prog w = .ok (.bool false) w := by kernel_rfl
  rcases h.look (t := 70) (e := 4) intKeyed Tryz.underlying70 hz (int_key hk) with ⟨v, hm, hrun⟩ | ⟨hno, hrun⟩
  · obtain ⟨k', hk', e⟩ := List.mem_map.1 hm
    obtain ⟨e1, e2⟩ := Prod.mk.inj e
    obtain rfl : k' = k := (Value.int.inj e1).2
    subst e2
    have hc : l.contains k' = true := List.contains_iff_mem.2 hk'
    rw [hc]
    have := hrun false
    rwa [if_neg (by simp)] at this
  · have hc : l.contains k = false := by
      rw [← Bool.not_eq_true, List.contains_iff_mem]
      intro hm
      exact hno (.int .i64 k, .bool true) (List.mem_map.2 ⟨k, hm, rfl⟩) rfl
    rw [hc]
    have := hrun false
    rwa [if_neg (by simp)] at this
theorem seen_store {w : World} {b : Nat} {l : List Int} (h : MapL Tryz.prog 3 w b (seenL l)) (hg : nG ≤ b) {k : Int} (hk : I64 k) (hno : l.contains k = false) :
    ∃ w', (Instr.mapUpdate 70 (.map (some b)) (.int .i64 k) (.bool true)).run Tryz.prog w = .ok () w' ∧ MapL Tryz.prog 3 w' b (seenL (l ++ [k])) ∧ Upd (· = b) w w' := by
  have := h.store_new (t := 70) (e := 4) intKeyed Tryz.underlying70 hg (int_key hk) (fun p hp e => by
    obtain ⟨k', hk', rfl⟩ := List.mem_map.1 hp
    obtain rfl : k' = k := (Value.int.inj e).2
    rw [List.contains_iff_mem.2 hk'] at hno; cases hno) (.bool true)
  unfold seenL
  rw [List.map_append]
  exact this
namespace At
theorem take_no {seen ms : List Int} {i : Nat} (hi : i < ms.length) (h : ∀ j, j < i → keyOk seen ms j = true) (ha : i = 0 ∨ ms.getD (i - 1) 0 < ms.getD i 0) : (seen ++ ms.take i).contains (ms.getD i 0) = seen.contains (ms.getD i 0) := by
  have h1 : ∀ j, j + 1 ≤ i → ms.getD j 0 < ms.getD (j + 1) 0 := fun j hj => by
    by_cases e : j + 1 = i
    · rcases ha with h0 | h0
      · omega
      · rw [← e, Nat.add_sub_cancel] at h0; exact h0
    · have := h (j + 1) (by omega)
      unfold keyOk at this
      simp only [Bool.and_eq_true, Bool.or_eq_true, decide_eq_true_eq, Nat.add_sub_cancel] at this
      rcases this.1.2 with h | h
      · omega
      · exact h
  have h2 : ∀ d j, j + d + 1 ≤ i → ms.getD j 0 < ms.getD (j + d + 1) 0 := fun d => by
    induction d with
    | zero => intro j hj; exact h1 j hj
    | succ d ih => intro j hj; exact Int.lt_trans (ih j (by omega)) (h1 (j + d + 1) (by omega))
  have h3 : ¬ ms.getD i 0 ∈ ms.take i := fun hm => by
    obtain ⟨j, hj, e⟩ := List.mem_iff_getElem.1 hm
    rw [List.length_take] at hj
    rw [List.getElem_take] at e
    have := h2 (i - j - 1) j (by omega)
    rw [show j + (i - j - 1) + 1 = i by omega] at this
    rw [List.getD_eq_getElem?_getD, List.getElem?_eq_getElem (show j < ms.length by omega), Option.getD_some, e] at this
    omega
  apply Bool.eq_iff_iff.2
  rw [List.contains_iff_mem, List.contains_iff_mem, List.mem_append]
  exact ⟨fun h => h.elim id (fun h => absurd h h3), Or.inl⟩
theorem all_range {n : Nat} {p : Nat → Bool} (h : ∀ j, j < n → p j = true) : (List.range n).all p = true := List.all_eq_true.2 (fun j hj => h j (List.mem_range.1 hj))
theorem not_all_range {n : Nat} {p : Nat → Bool} {i : Nat} (hi : i < n) (h : p i = false) : (List.range n).all p = false := by
  rw [← Bool.not_eq_true, List.all_eq_true]
  intro hh
  have := hh i (List.mem_range.2 hi)
  rw [h] at this; cases this
end At
/-- 'm[k]' at an operation that is guarded, where the guard lets it by. -/
theorem wpList_lookW {P : Program} {w : World} {ops : Array Oper} {rest : List Oper} {o : Oper} {a : Act} {Q : Exit → Act → World → Prop} (m x : Operand) (t : TypeId) (c : Bool) (hop : o.op = Op.lookup t m x c) (hw : Region.wanted o (yielded ops a.tmps) = true)
    (vm key v : Value) (hm : a.eval m = vm) (hx : a.eval x = key) (hrun : (Instr.lookup t vm key c).run P w = .ok v w) (h : wpList P ops Q rest (a.put o.dst v) w) : wpList P ops Q (o :: rest) a w := by
  refine wpList_step fun K hK => ?_
  rw [if_pos hw]
  unfold Oper.wp
  simp [execOp, hop, hm, hx, hrun, Result.andThen]
  exact hK _ _ h
set_option maxHeartbeats 4000000 in
set_option maxRecDepth 100000 in
theorem Right_w (hi : Nat) (v : Value) (G : List At.Grp) (C : List (Value × At.Grp)) (w : World) (g : Gl w) (hv : GrpS hi w v G C) :
    Calls Tryz.prog 11 #[v] w fun e w' => e = .returned (.bool (At.right G)) ∧ Nw w w' := by
  have hgb := g.big
  obtain ⟨a, cap, rfl, hm, ha⟩ := grp_cells hv
  have Ha := Lib.hid ha
  have He := Lib.hid hv.each
  have hG : Hid (G = C.map (·.2)) := hv.fst.symm
  unfold maxLen at hm
  clear ha hv
  have hmm := @run_makeMap Tryz.prog
  have m1 := MapL.made Tryz.prog 3 w
  have u1 := nw_alloc w (.map #[] 0)
  have hs1 : (w.alloc (.map #[] 0)).heap.size = w.heap.size + 1 := by simp
  have M1 : Hid (MapL Tryz.prog 3 (w.alloc (.map #[] 0)) w.heap.size (seenL [])) := m1
  clear m1
  have hR : Hid (At.right G = (At.rightGo [] G && (decide (0 < G.length) && decide (G.length ≤ 8)))) := by show _ = _; rfl
  have hGl : Hid (G.length = C.length) := by show _ = _; rw [hG.out, List.length_map]
  go_enter Tryz.func11, Tryz.ntmps11
  go_wp2_with fail
  go_loopw [11] (fun iv wr => ∃ n : Nat, n ≤ C.length ∧ iv = .int .i64 n ∧ Hid (∃ S, At.rightGo [] G = At.rightGo S ((C.drop n).map (·.2)) ∧ MapL Tryz.prog 3 wr w.heap.size (seenL S)) ∧ Nw w wr ∧ Hid (w.heap.size < wr.heap.size)) (fun iv _ => C.length - (intOf iv).toNat)
  case atStart => exact ⟨0, Nat.zero_le _, rfl, ⟨[], by rw [hG.out, List.drop_zero], M1.out⟩, u1, by show _ < _; omega⟩
  case round =>
    obtain ⟨n, hn, rfl, HS, u, hsz⟩ := hrel
    obtain ⟨wq, rfl⟩ : ∃ x, x = wr := ⟨_, rfl⟩
    obtain ⟨S, hS, hM⟩ := HS.out
    by_cases hlt : n < C.length
    · rcases Ha.out with hnil | ⟨b, o, rfl, _, hb, hc⟩
      · simp [hnil] at hlt
      obtain ⟨p0, p1⟩ := hc n hlt
      have d0 := ((Nw.below u).cell (p := ⟨b, o + n * 2, none⟩) hb).trans p0
      have d1 := ((Nw.below u).cell (p := ⟨b, o + n * 2 + 1, none⟩) hb).trans p1
      obtain ⟨hsl, hbad, hks⟩ := He.out C[n] (List.getElem_mem hlt)
      rw [List.drop_eq_getElem_cons hlt, List.map_cons] at hS
      generalize hX : C[n] = x at *
      clear hX
      obtain ⟨xs, ms, xb⟩ := x
      dsimp only at *
      obtain ⟨am, capm, rfl, hmm1, hmc⟩ := num_cells hsl
      unfold maxLen at hmm1
      have hstep : At.rightGo S (⟨ms, xb⟩ :: (C.drop (n + 1)).map (·.2)) = (At.grpOk S ⟨ms, xb⟩ && At.rightGo (S ++ ms) ((C.drop (n + 1)).map (·.2))) := rfl
      have hbadg : At.grpOk S ⟨ms, xb⟩ = false → Hid (At.right G = false) := fun e => by show _ = _; rw [hR.out, hS, hstep, e]; rfl
      have hgo : At.grpOk S ⟨ms, xb⟩ = true → Hid (At.rightGo [] G = At.rightGo (S ++ ms) ((C.drop (n + 1)).map (·.2))) := fun e => by show _ = _; rw [hS, hstep, e]; rfl
      have hgrp : At.grpOk S ⟨ms, xb⟩ = (decide (0 < ms.length) && decide (ms.length ≤ 12) && decide (0 ≤ xb) && decide (xb < ms.length) && (List.range ms.length).all (At.keyOk S ms)) := rfl
      have HGrp := Lib.hid hgrp
      have Hbadg := Lib.hid hbadg
      have Hgo := Lib.hid hgo
      have HMc := Lib.hid hmc
      have HM := Lib.hid hM
      have Hks := Lib.hid hks
      unfold I64 at hbad
      clear hc p0 p1 hS hstep hbadg hgo hgrp hmc hM hks hsl HS
      by_cases h1 : ms.length = 0
      · have hr := Hbadg.out (by rw [HGrp.out]; simp [h1])
        have e1 : (ms.length : Int) = 0 := by omega
        go_wp2_with fail
        go_ret
        exact ⟨ret_bool hr.out.symm, u.alloc _⟩
      by_cases h2 : ms.length ≤ 12
      rotate_left
      · have hr := Hbadg.out (by rw [HGrp.out]; simp [h2])
        go_wp2_with fail
        go_ret
        exact ⟨ret_bool hr.out.symm, u.alloc _⟩
      by_cases h3 : 0 ≤ xb
      rotate_left
      · have hr := Hbadg.out (by rw [HGrp.out]; simp [h3])
        go_wp2_with fail
        go_ret
        exact ⟨ret_bool hr.out.symm, u.alloc _⟩
      by_cases h4 : xb < (ms.length : Int)
      rotate_left
      · have hr := Hbadg.out (by rw [HGrp.out]; simp [h4])
        go_wp2_with fail
        go_ret
        exact ⟨ret_bool hr.out.symm, u.alloc _⟩
      have e1 : ((ms.length : Int) == 0) = false := beq_eq_false_iff_ne.2 (by omega)
      have hok : (List.range ms.length).all (At.keyOk S ms) = true → Hid (At.grpOk S ⟨ms, xb⟩ = true) := fun e => by show _ = _; rw [HGrp.out, e]; simp [h2, h3, h4]; omega
      have hnok : (List.range ms.length).all (At.keyOk S ms) = false → Hid (At.grpOk S ⟨ms, xb⟩ = false) := fun e => by show _ = _; rw [HGrp.out, e]; simp
      have Hok := Lib.hid hok
      have Hnok := Lib.hid hnok
      have n2 := nw_alloc wq (.cells #[.slice am ms.length capm, .int .i64 xb] tGrp)
      have k2 := heap_new wq (.cells #[.slice am ms.length capm, .int .i64 xb] tGrp)
      have K2 := Lib.hid k2
      have HM2 : Hid (MapL Tryz.prog 3 (wq.alloc (.cells #[.slice am ms.length capm, .int .i64 xb] tGrp)) w.heap.size (seenL (S ++ ms.take 0))) := by show MapL _ _ _ _ _; rw [List.take_zero, List.append_nil]; exact HM.out.nw n2
      have hmb : Hid (nG ≤ w.heap.size) := hgb
      clear hok hnok k2
      go_wp2_with fail
      go_loopw [41] (fun iv wr => ∃ i : Nat, i ≤ ms.length ∧ iv = .int .i64 i ∧ Hid (∀ j, j < i → At.keyOk S ms j = true) ∧ Hid (MapL Tryz.prog 3 wr w.heap.size (seenL (S ++ ms.take i))) ∧ Hid (Upd (fun j => j = w.heap.size) (wq.alloc (.cells #[.slice am ms.length capm, .int .i64 xb] tGrp)) wr)) (fun iv _ => ms.length - (intOf iv).toNat)
      case atStart => exact ⟨0, Nat.zero_le _, rfl, fun j hj => by omega, HM2.out, Upd.refl _ _⟩
      case round =>
        obtain ⟨i, hi, rfl, hall, HM3, hU⟩ := hrel
        obtain ⟨wp, rfl⟩ : ∃ x, x = wr := ⟨_, rfl⟩
        have hne : ¬ wq.heap.size = w.heap.size := by have := hsz.out; omega
        have k3 := hU.out.keep K2.out hne
        obtain ⟨_, _⟩ := cell2 k3
        by_cases hil : i < ms.length
        · rcases HMc.out with hnil | ⟨b2, o2, rfl, _, hb2, hc2⟩
          · simp [hnil] at hil
          have uW : Nw w wp := (u.trans n2).trans' hU.out (fun j hj e => by omega)
          have q0 := ((Nw.below uW).cell (p := ⟨b2, o2 + i, none⟩) hb2).trans (hc2 i hil)
          have hk64 := Hks.out ms[i] (List.getElem_mem hil)
          have hget : ms.getD i 0 = ms[i] := by simp [List.getD_eq_getElem?_getD, hil]
          have hkey : At.keyOk S ms i = (decide (0 ≤ ms[i]) && decide (ms[i] < 200) && (decide (i = 0) || decide (ms.getD (i - 1) 0 < ms[i])) && !S.contains ms[i]) := by unfold At.keyOk; rw [hget]
          have htno := At.take_no hil hall.out
          rw [hget] at htno
          have hbad2 : At.keyOk S ms i = false → Hid (At.right G = false) := fun e => Hbadg.out (Hnok.out (At.not_all_range hil e)).out
          have hnext : At.keyOk S ms i = true → Hid (∀ j, j < i + 1 → At.keyOk S ms j = true) := fun e j hj => by
            by_cases ej : j = i
            · subst ej; exact e
            · exact hall.out j (by omega)
          have htk : ms.take (i + 1) = ms.take i ++ [ms[i]] := List.take_succ_eq_append_getElem hil
          have hprev : ∀ j, i = j + 1 → wp.cell? ⟨b2, o2 + j, none⟩ = some (.int .i64 (ms.getD (i - 1) 0)) := fun j e => by
            subst e
            rw [((Nw.below uW).cell (p := ⟨b2, o2 + j, none⟩) hb2).trans (hc2 j (by omega)), Nat.add_sub_cancel]
            simp [List.getD_eq_getElem?_getD, show j < ms.length by omega]
          have HKey := Lib.hid hkey
          have Htno := Lib.hid htno
          have Hbad2 := Lib.hid hbad2
          have Hnext := Lib.hid hnext
          have Htk := Lib.hid htk
          have HHad := Lib.hid hk64
          unfold I64 at hk64
          generalize ms.getD (i - 1) 0 = pv at *
          generalize ms[i] = k at *
          clear hkey htno hbad2 hnext htk hget hc2
          by_cases g1 : k < 0
          · have hr := Hbad2.out (by rw [HKey.out]; simp; intro h; omega)
            go_wp2_with fail
            go_ret
            exact ⟨ret_bool hr.out.symm, uW⟩
          by_cases g2 : k < 200
          rotate_left
          · have hr := Hbad2.out (by rw [HKey.out]; simp [g2])
            go_wp2_with fail
            go_ret
            exact ⟨ret_bool hr.out.symm, uW⟩
          have e0 : Hid ((decide (0 ≤ k) && decide (k < 200)) = true) := by show _ = _; simp [g2]; omega
          by_cases g0 : i = 0
          · subst g0
            rw [Nat.add_zero] at q0
            have hsc := Htno.out (Or.inl rfl)
            have hky : Hid (At.keyOk S ms 0 = !S.contains k) := by show _ = _; rw [HKey.out]; simp [g2]; omega
            clear hprev
            have hlk := seen_look HM3.out HHad.out
            rw [hsc] at hlk
            generalize hsv : S.contains k = sc at *
            have Hlk := Lib.hid hlk
            have Hsc := Lib.hid hsc
            clear hlk hsc hsv
            cases sc with
            | true =>
              have hr := Hbad2.out (by rw [hky.out]; rfl)
              go_wp2_with (at_lookup; go_loud (refine wpList_lookW _ _ 70 false rfl (by simp [Region.wanted, yielded] <;> omega) _ _ _ rfl rfl Hlk.out ?_))
              go_ret
              exact ⟨ret_bool hr.out.symm, uW⟩
            | false =>
              have hn := Hnext.out (by rw [hky.out]; rfl)
              obtain ⟨w9, hst, hm9, u9⟩ := seen_store HM3.out hgb HHad.out Hsc.out
              have Hst := Lib.hid hst
              have hm10 : Hid (MapL Tryz.prog 3 w9 w.heap.size (seenL (S ++ ms.take (0 + 1)))) := by show MapL _ _ _ _ _; rw [Htk.out, ← List.append_assoc]; exact hm9
              have hU9 : Hid (Upd (fun j => j = w.heap.size) (wq.alloc (.cells #[.slice (some ⟨b2, o2, none⟩) ms.length capm, .int .i64 xb] tGrp)) w9) := hU.out.trans u9
              clear hst hm9 u9
              go_wp2_with (first | (at_lookup; go_loud (refine wpList_lookW _ _ 70 false rfl (by simp [Region.wanted, yielded] <;> omega) _ _ _ rfl rfl Hlk.out ?_)) | (at_mapUpdate; refine wpList_storeL rfl _ _ _ 70 rfl _ _ _ rfl rfl rfl Hst.out ?_))
              go_roundw
              case rel => exact ⟨0 + 1, by omega, by go_num, hn, hm10, hU9⟩
              case measure => simp [intOf]; omega
          · obtain ⟨j0, rfl⟩ : ∃ j0, i = j0 + 1 := ⟨i - 1, by omega⟩
            have q1 := hprev j0 rfl
            have hip : (0 : Int) < ((j0 + 1 : Nat) : Int) := by omega
            by_cases g3 : pv < k
            · have hsc := Htno.out (Or.inr g3)
              have hky : Hid (At.keyOk S ms (j0 + 1) = !S.contains k) := by show _ = _; rw [HKey.out]; simp [g2, g3]; omega
              clear hprev
              have hlk := seen_look HM3.out HHad.out
              rw [hsc] at hlk
              generalize hsv : S.contains k = sc at *
              have Hlk := Lib.hid hlk
              have Hsc := Lib.hid hsc
              clear hlk hsc hsv
              cases sc with
              | true =>
                have hr := Hbad2.out (by rw [hky.out]; rfl)
                go_wp2_with (at_lookup; go_loud (refine wpList_lookW _ _ 70 false rfl (by simp [Region.wanted, yielded] <;> omega) _ _ _ rfl rfl Hlk.out ?_))
                go_ret
                exact ⟨ret_bool hr.out.symm, uW⟩
              | false =>
                have hn := Hnext.out (by rw [hky.out]; rfl)
                obtain ⟨w9, hst, hm9, u9⟩ := seen_store HM3.out hgb HHad.out Hsc.out
                have Hst := Lib.hid hst
                have hm10 : Hid (MapL Tryz.prog 3 w9 w.heap.size (seenL (S ++ ms.take ((j0 + 1) + 1)))) := by show MapL _ _ _ _ _; rw [Htk.out, ← List.append_assoc]; exact hm9
                have hU9 : Hid (Upd (fun j => j = w.heap.size) (wq.alloc (.cells #[.slice (some ⟨b2, o2, none⟩) ms.length capm, .int .i64 xb] tGrp)) w9) := hU.out.trans u9
                clear hst hm9 u9
                go_wp2_with (first | (at_lookup; go_loud (refine wpList_lookW _ _ 70 false rfl (by simp [Region.wanted, yielded] <;> omega) _ _ _ rfl rfl Hlk.out ?_)) | (at_mapUpdate; refine wpList_storeL rfl _ _ _ 70 rfl _ _ _ rfl rfl rfl Hst.out ?_))
                go_roundw
                case rel => exact ⟨(j0 + 1) + 1, by omega, by go_num, hn, hm10, hU9⟩
                case measure => simp [intOf]; omega
            · have hr := Hbad2.out (by rw [HKey.out]; simp [g3])
              clear hprev
              go_wp2_with fail
              go_ret
              exact ⟨ret_bool hr.out.symm, uW⟩
        · obtain rfl : i = ms.length := by omega
          have uW : Nw w wp := (u.trans n2).trans' hU.out (fun j hj e => by omega)
          have hall2 := Hgo.out (Hok.out (At.all_range hall.out)).out
          have hm9 := HM3.out
          rw [List.take_length] at hm9
          have hfin : Hid (∃ S', At.rightGo [] G = At.rightGo S' ((C.drop (n + 1)).map (·.2)) ∧ MapL Tryz.prog 3 wp w.heap.size (seenL S')) := ⟨S ++ ms, hall2.out, hm9⟩
          have hsz2 : Hid (w.heap.size < wp.heap.size) := by
            show _ < _
            have a1 := hsz.out
            have a2 := n2.size
            have a3 := hU.out.size
            omega
          clear hall2 hm9
          go_wp2_with fail
          go_roundw
          case rel => exact ⟨n + 1, by omega, by go_num, hfin, uW, hsz2⟩
          case measure => simp [intOf]; omega
    · obtain rfl : n = C.length := by omega
      rw [List.drop_length] at hS
      have hr : Hid (At.right G = (decide (0 < C.length) && decide (C.length ≤ 8))) := by show _ = _; rw [hR.out, hS, hGl.out]; rfl
      clear HS hS hM
      by_cases h0 : 0 < C.length
      · by_cases h8 : C.length ≤ 8
        · go_wp2_with fail
          go_ret
          exact ⟨ret_bool (by rw [hr.out]; simp [h0, h8] <;> omega), u⟩
        · go_wp2_with fail
          go_ret
          exact ⟨ret_bool (by rw [hr.out]; simp [h0, h8] <;> omega), u⟩
      · go_wp2_with fail
        go_ret
        exact ⟨ret_bool (by rw [hr.out]; simp [h0] <;> omega), u⟩
end Go.Proofs.YtpceoogmkbcfmaaGreatDoor
namespace Go.Proofs.YtpceoogmkbcfmaaGreatDoor
open Go.RowKit
set_option linter.unusedVariables false
set_option linter.unusedSimpArgs false
attribute [local irreducible] Calls

set_option maxHeartbeats 2000000 in
set_option maxRecDepth 100000 in
theorem votes_nil (lo hi : Nat) (v : Value) (C : List Bk.Sgn) (text : List UInt8) (w : World) (g : Gl w) (hv : SlS 3 lo hi w v (C.map sgl)) :
    Calls Tryz.prog 34 #[.pointer none, v, .string ⟨text.toArray⟩] w fun e w' => ∃ v', e = .returned v' ∧ w'.ownsRow w.heap.size tVote 4 v' ([] : List (Bk.Sgn × Int)).length (flatV []) ∧ Nw w w' := by
  obtain ⟨a, cap, rfl, hm, ha⟩ := sgn_cells hv
  unfold maxLen at hm
  have Ha := Lib.hid ha
  clear ha hv
  go_enter Tryz.func34, Tryz.ntmps34
  go_wp2_with fail
  go_loopw [7, 14] (fun vo iv wr => ∃ n : Nat, n ≤ C.length ∧ iv = .int .i64 n ∧ vo = .slice none 0 0 ∧ Nw w wr) (fun vo iv _ => C.length - (intOf iv).toNat)
  case atStart => exact ⟨0, Nat.zero_le _, rfl, rfl, Upd.refl _ _⟩
  case round =>
    obtain ⟨n, hn, rfl, rfl, u⟩ := hrel
    by_cases hlt : n < C.length
    · rcases Ha.out with hnil | ⟨b, o, rfl, _, hb, hc⟩
      · simp [hnil] at hlt
      obtain ⟨p0, p1, p2⟩ := hc n hlt
      have d0 := ((Nw.below u).cell (p := ⟨b, o + n * 3, none⟩) hb).trans p0
      have d1 := ((Nw.below u).cell (p := ⟨b, o + n * 3 + 1, none⟩) hb).trans p1
      have d2 := ((Nw.below u).cell (p := ⟨b, o + n * 3 + 2, none⟩) hb).trans p2
      generalize C[n] = s at *
      clear hc p0 p1 p2
      go_wp2_with fail
      go_roundw
      case rel => exact ⟨n + 1, by omega, by go_num, rfl, u.alloc _⟩
      case measure => simp [intOf]; omega
    · obtain rfl : n = C.length := by omega
      go_wp2_with fail
      go_ret
      exact ⟨_, rfl, World.ownsRow_nil _ _ _ _, u⟩
theorem call_accept : ∀ args w, (callFunc 41 args).run Tryz.prog w = .ok (.enter 41 args) w := enters_of Tryz.func41 (by kernel_rfl) rfl
namespace At
theorem right_len {G : List Grp} (h : right G = true) : G.length ≤ 8 := by
  unfold right at h
  simp only [Bool.and_eq_true, decide_eq_true_eq] at h
  exact h.2.2
theorem prints_len (V : List (Bk.Sgn × Int)) : (prints V).length ≤ V.length := by
  have := sortU_len (V.map (·.2))
  rwa [List.length_map] at this
theorem foundTo_len (V : List (Bk.Sgn × Int)) (G : List Grp) (n : Nat) : (foundTo V G n).length ≤ V.length :=
  Nat.le_trans (List.length_filter_le _ _) (Nat.le_trans (by rw [List.length_take]; omega) (prints_len V))
end At
set_option maxHeartbeats 4000000 in
set_option maxRecDepth 100000 in
theorem Accept_w (ro : Option Addr) (v gv : Value) (V : List (Bk.Sgn × Int)) (text : List UInt8) (hi : Nat) (G : List At.Grp) (C : List (Value × At.Grp)) (w : World) (g : Gl w) (hv : ∃ a n c, v = .slice a n c) (hG : GrpS hi w gv G C) (hV : V.length ≤ 100000)
    (hvt : ∀ z, Nw w z → Calls Tryz.prog 34 #[.pointer ro, v, .string ⟨text.toArray⟩] z fun e w' => ∃ v', e = .returned v' ∧ w'.ownsRow z.heap.size tVote 4 v' V.length (flatV V) ∧ Nw z w') :
    Calls Tryz.prog 16 #[.pointer ro, v, gv, .string ⟨text.toArray⟩] w fun e w' => e = .returned (.tuple #[.int .i64 (At.accept V G).1, .int .i64 (At.accept V G).2]) ∧ Nw w w' := by
  have hgb := g.big
  obtain ⟨av, nv, cv, rfl⟩ := hv
  obtain ⟨a, cap, rfl, hm, _⟩ := grp_cells hG
  unfold maxLen at hm
  have Hv := Lib.hid hvt
  have HG := Lib.hid hG
  have qr := Right_w hi _ G C w g hG
  have hacc : At.accept V G = if At.right G = true then At.acceptF (At.found V G) else (0, 1) := rfl
  clear hvt
  cases hrg : At.right G with
  | false =>
    rw [hrg] at qr
    have QR := Lib.hid qr
    have hr : Hid (At.accept V G = (0, 1)) := by show _ = _; rw [hacc, hrg]; rfl
    clear hacc hrg qr hG
    go_enter Tryz.func16, Tryz.ntmps16
    go_wp2_with fail
    (with_reducible refine (QR.out).mono ?_)
    rintro _ w1 ⟨rfl, u1⟩
    go_wp2_with fail
    go_ret2
    exact ⟨by rw [hr.out]; rfl, u1⟩
  | true =>
    rw [hrg] at qr
    have QR := Lib.hid qr
    have hr : Hid (At.accept V G = At.acceptF (At.found V G)) := by show _ = _; rw [hacc, if_pos hrg]
    have hCl : C.length ≤ 1000000 := by
      have h1 := At.right_len hrg
      rw [← hG.fst, List.length_map] at h1
      omega
    have hml : ∀ c ∈ C, c.2.members.length ≤ 1000000 := fun c hc => by
      have := ((At.right_grp hrg).1 c.2 (by rw [← hG.fst]; exact List.mem_map.2 ⟨c, hc, rfl⟩)).2.1
      omega
    have Hml := Lib.hid hml
    clear hacc hrg qr hG hml
    go_enter Tryz.func16, Tryz.ntmps16
    go_wp2_with fail
    (with_reducible refine (QR.out).mono ?_)
    rintro _ w1 ⟨rfl, u1⟩
    go_wp2_with fail
    (with_reducible refine (Hv.out _ u1).mono ?_)
    rintro _ w2 ⟨v2, rfl, o2, u2⟩
    obtain ⟨a2, c2, rfl⟩ := own_sl o2
    have U2 := u1.trans u2
    have n3 := nw_alloc w2 (.cells #[.slice a2 V.length c2] 72)
    have k3 := heap_new w2 (.cells #[.slice a2 V.length c2] 72)
    have U3 := U2.trans n3
    have S3 := Lib.hid ((vote_sls o2).nw n3)
    have QP := Lib.hid (prints_w _ _ _ V _ (g.upd U3) S3.out (by omega))
    have K3 := Lib.hid k3
    clear k3 o2
    go_wp2_with fail
    (with_reducible refine (QP.out).mono ?_)
    rintro _ w4 ⟨v4, rfl, o4, u4⟩
    obtain ⟨a4, c4, rfl⟩ := own_sl o4
    have U4 := U3.trans u4
    obtain ⟨a4', c4', e4, hm4, hc4⟩ := num_cells (own_num o4)
    obtain ⟨rfl, rfl⟩ : a4' = a4 ∧ c4' = c4 := by simp at e4; exact ⟨e4.1.symm, e4.2.symm⟩
    unfold maxLen at hm4
    have Hc4 := Lib.hid hc4
    have h4b : nG ≤ w4.heap.size := Nat.le_trans hgb U4.size
    clear o4 hc4 e4
    go_wp2_with fail
    go_loopw [11, 24] (fun vo iv wr => ∃ n : Nat, n ≤ (At.prints V).length ∧ iv = .int .i64 n ∧ Hid (wr.ownsRow w4.heap.size tNum 1 vo (At.foundTo V G n).length ((At.foundTo V G n).map intV)) ∧ Nw w4 wr) (fun vo iv _ => (At.prints V).length - (intOf iv).toNat)
    case atStart => exact ⟨0, Nat.zero_le _, rfl, World.ownsRow_nil _ _ _ _, Upd.refl _ _⟩
    case round =>
      obtain ⟨n, hn, rfl, HO, u⟩ := hrel
      obtain ⟨ao, capo, e⟩ := own_sl HO.out
      subst e
      have U := U4.trans u
      have gw := g.upd U
      have hfl := At.foundTo_len V G n
      by_cases hlt : n < (At.prints V).length
      · rcases Hc4.out with hnil | ⟨b, o, rfl, _, hb, hc⟩
        · simp [hnil] at hlt
        have d0 := ((Nw.below u).cell (p := ⟨b, o + n, none⟩) hb).trans (hc n hlt)
        have hst := At.foundTo_step (G := G) hlt
        generalize (At.prints V)[n] = p at *
        have Hst := Lib.hid hst
        have n5 := nw_alloc wr (.cells #[.int .i64 p] tNum)
        have k5 := heap_new wr (.cells #[.int .i64 p] tNum)
        have k3' := Nw.keep (u4.trans (u.trans n5)) K3.out
        have QC := Lib.hid (containsG2 41 w2.heap.size wr.heap.size call_accept (At.weak V p) hi _ G C _ (HG.out.nw (U.trans n5)) hCl (fun Wz x uz hx =>
          accP V p _ _ hi _ _ x.2 _ _ Wz (g.upd ((U.trans n5).trans uz)) (S3.out.nw (u4.trans ((u.trans n5).trans uz))) (by omega) (Nw.keep uz k3') (Nw.keep uz k5) (((HG.out.each x hx).1.nw (U.trans n5)).nw uz) (Hml.out x hx)))
        have K5 := Lib.hid k5
        clear hc hst k5 k3'
        generalize G.any (At.weak V p) = q at *
        go_wp2_with fail
        (with_reducible refine (QC.out).mono ?_)
        rintro _ w6 ⟨rfl, u6⟩
        have U6 := n5.trans u6
        obtain c6 : w6.cell? ⟨wr.heap.size, 0, none⟩ = some (.int .i64 p) := by rw [cells_cell (Nw.keep u6 K5.out)]; rfl
        cases q with
        | true =>
          have hfin : Hid (w6.ownsRow w4.heap.size tNum 1 (.slice ao (At.foundTo V G n).length capo) (At.foundTo V G (n + 1)).length ((At.foundTo V G (n + 1)).map intV)) := by
            show w6.ownsRow _ _ _ _ _ _
            rw [Hst.out, if_pos rfl, List.append_nil]
            exact owns_upd' HO.out U6 (fun _ _ e => e)
          clear Hst
          go_wp2_with fail
          go_roundw
          case rel => exact ⟨n + 1, by omega, by go_num, hfin, u.trans U6⟩
          case measure => simp [intOf]; omega
        | false =>
          have hyes : At.foundTo V G (n + 1) = At.foundTo V G n ++ [p] := by rw [Hst.out, if_neg (by simp)]
          have Hyes := Lib.hid hyes
          have hown := owns_upd' HO.out U6 (fun _ _ e => e)
          have h63 : Hid ((At.foundTo V G n).length + 1 ≤ maxLen ∧ ((At.foundTo V G n).length + 1) * 8 ≤ 140737488355328) := ⟨by unfold maxLen; omega, by omega⟩
          have hsz : w4.heap.size ≤ w6.heap.size := (u.trans U6).size
          clear hyes Hst
          go_wp2_with (at_builtin; refine wpList_appL rfl _ _ 31 rfl w4.heap.size tNum _ 1 8 Tryz.underlying31 infoNum rfl (by decide) _ _ _ rfl hown [.int .i64 p] rfl rfl (by intro u hu; rw [List.mem_singleton.1 hu]; rfl) h63.out.1 h63.out.2 hsz h4b ?_)
          intro v' w9 hown9 u9 hob
          obtain ⟨a9, cap9, rfl⟩ := own_sl hown9
          have hfin : Hid (w9.ownsRow w4.heap.size tNum 1 (.slice a9 ((At.foundTo V G n).length + 1) cap9) (At.foundTo V G (n + 1)).length ((At.foundTo V G (n + 1)).map intV)) := by
            show w9.ownsRow _ _ _ _ _ _
            rw [Hyes.out, List.length_append, List.length_singleton, List.map_append]
            exact hown9
          have hU : Hid (Nw w4 w9) := (u.trans U6).trans' u9 (fun j hj e => by
            have h1 := (own_block HO.out e).1
            omega)
          clear hown hown9 u9 hob
          go_wp2_with fail
          go_roundw
          case rel => exact ⟨n + 1, by omega, by go_num, hfin, hU.out⟩
          case measure => simp [intOf]; omega
      · obtain rfl : n = (At.prints V).length := by omega
        rw [At.foundTo_all] at HO hfl ⊢
        obtain ⟨a7, c7, e7, hm7, hc7⟩ := num_cells (own_num HO.out)
        obtain ⟨rfl, rfl⟩ : ao = a7 ∧ capo = c7 := by simp at e7; exact ⟨e7.1, e7.2⟩
        clear HO e7
        generalize At.found V G = F at *
        match F, hc7 with
        | [], _ =>
          go_wp2_with fail
          go_ret2
          exact ⟨by rw [hr.out]; rfl, U⟩
        | [p], hc7 =>
          rcases hc7 with h | ⟨b, o, rfl, _, _, hc⟩
          · cases h
          have d0 := hc 0 (by simp)
          rw [Nat.add_zero, List.getElem_cons_zero] at d0
          clear hc
          go_wp2_with fail
          go_ret2
          exact ⟨by rw [hr.out]; rfl, U⟩
        | p :: q :: r, _ =>
          have hl : (p :: q :: r).length = r.length + 2 := by simp
          simp only [hl] at hfl ⊢
          have e0 : (((r.length + 2 : Nat) : Int) == 0) = false := beq_eq_false_iff_ne.2 (by omega)
          have e1 : (((r.length + 2 : Nat) : Int) == 1) = false := beq_eq_false_iff_ne.2 (by omega)
          go_wp2_with fail
          go_ret2
          exact ⟨by rw [hr.out]; rfl, U⟩
end Go.Proofs.YtpceoogmkbcfmaaGreatDoor
namespace Go.Proofs.YtpceoogmkbcfmaaGreatDoor
open Go.RowKit
set_option linter.unusedVariables false
set_option linter.unusedSimpArgs false
attribute [local irreducible] Calls

theorem call_liars : ∀ args w, (callFunc 36 args).run Tryz.prog w = .ok (.enter 36 args) w := enters_of Tryz.func36 (by kernel_rfl) rfl
/-- 'v.print != truth && v.signed.Key == k'. -/
theorem lieP (x : Bk.Sgn × Int) (p k : Int) (b1 b2 : Nat) (w : World) (h1 : w.heap[b1]? = some (.cells #[.int .i64 p] tNum (0, 0))) (h2 : w.heap[b2]? = some (.cells #[.int .i64 k] tNum (0, 0))) :
    Calls Tryz.prog 36 #[.agg #[.int .i64 x.1.key, .string ⟨x.1.text.toArray⟩, .int .i64 x.1.mark, .int .i64 x.2], .pointer (some ⟨b1, 0, none⟩), .pointer (some ⟨b2, 0, none⟩)] w fun e w' => e = .returned (.bool (decide (x.2 ≠ p) && decide (x.1.key = k))) ∧ Nw w w' := by
  have n1 := nw_alloc w (.cells #[.int .i64 x.1.key, .string ⟨x.1.text.toArray⟩, .int .i64 x.1.mark, .int .i64 x.2] tVote)
  have c1 : w.cell? ⟨b1, 0, none⟩ = some (.int .i64 p) := by rw [cells_cell h1]; rfl
  have c2 : w.cell? ⟨b2, 0, none⟩ = some (.int .i64 k) := by rw [cells_cell h2]; rfl
  have c1' := later_cell ⟨_, n1⟩ c1
  have c2' := later_cell ⟨_, n1⟩ c2
  obtain ⟨⟨xk, xt, xm⟩, xp⟩ := x
  dsimp only at *
  by_cases hp : xp = p
  · have dp : (xp != p) = false := by simp [hp]
    have dp2 : (xp == p) = true := by simp [hp]
    have hr : Hid ((decide (xp ≠ p) && decide (xk = k)) = false) := by show _ = _; simp [hp]
    clear hp h1 h2
    go_enter Tryz.func36, Tryz.ntmps36
    go_wp2_with fail
    go_ret
    exact ⟨ret_bool (by rw [← decide_not]; exact hr.out.symm), n1⟩
  · have dp : (xp != p) = true := by simp [hp]
    have dp2 : (xp == p) = false := by simp [hp]
    by_cases hk : xk = k
    · have dk : (xk == k) = true := beq_iff_eq.2 hk
      have hr : Hid ((decide (xp ≠ p) && decide (xk = k)) = true) := by show _ = _; simp [hp, hk]
      clear hp hk h1 h2
      go_enter Tryz.func36, Tryz.ntmps36
      go_wp2_with fail
      go_ret
      exact ⟨ret_bool (by rw [← decide_not]; exact hr.out.symm), n1⟩
    · have dk : (xk == k) = false := beq_eq_false_iff_ne.2 hk
      have hr : Hid ((decide (xp ≠ p) && decide (xk = k)) = false) := by show _ = _; simp [hk]
      clear hp hk h1 h2
      go_enter Tryz.func36, Tryz.ntmps36
      go_wp2_with fail
      go_ret
      exact ⟨ret_bool (by rw [← decide_not]; exact hr.out.symm), n1⟩
namespace At
/-- The liars of the first n groups. -/
def lieTo (V : List (Bk.Sgn × Int)) (truth : Int) (C : List (Value × Grp)) (n : Nat) : List Int := ((C.take n).map fun c => c.2.members.filter fun k => lies V truth k).flatten
theorem lieTo_succ {V : List (Bk.Sgn × Int)} {truth : Int} {C : List (Value × Grp)} {n : Nat} (h : n < C.length) : lieTo V truth C (n + 1) = lieTo V truth C n ++ C[n].2.members.filter fun k => lies V truth k := by
  unfold lieTo
  rw [List.take_succ_eq_append_getElem h, List.map_append, List.flatten_append]; simp
theorem lieTo_all (V : List (Bk.Sgn × Int)) (truth : Int) (C : List (Value × Grp)) : lieTo V truth C C.length = liarsOf V (C.map (·.2)) truth := by
  unfold lieTo liarsOf
  rw [List.take_length, List.map_map]; rfl
end At
set_option maxHeartbeats 8000000 in
set_option maxRecDepth 100000 in
theorem Liars_w (ro : Option Addr) (v gv : Value) (V : List (Bk.Sgn × Int)) (text : List UInt8) (truth : Int) (hi : Nat) (G : List At.Grp) (C : List (Value × At.Grp)) (w : World) (g : Gl w) (hv : ∃ a n c, v = .slice a n c) (hG : GrpS hi w gv G C) (hV : V.length ≤ 100000) (hC : C.length ≤ 800) (hml : ∀ c ∈ C, c.2.members.length ≤ 1000)
    (hvt : ∀ z, Nw w z → Calls Tryz.prog 34 #[.pointer ro, v, .string ⟨text.toArray⟩] z fun e w' => ∃ v', e = .returned v' ∧ w'.ownsRow z.heap.size tVote 4 v' V.length (flatV V) ∧ Nw z w') :
    Calls Tryz.prog 13 #[.pointer ro, v, gv, .string ⟨text.toArray⟩, .int .i64 truth] w fun e w' => ∃ v', e = .returned v' ∧ w'.ownsRow w.heap.size tNum 1 v' (At.liars V G truth).length ((At.liars V G truth).map intV) ∧ Nw w w' := by
  have hgb := g.big
  obtain ⟨av, nv, cv, rfl⟩ := hv
  obtain ⟨a, cap, rfl, hm, ha⟩ := grp_cells hG
  unfold maxLen at hm
  have hGf : Hid (At.liarsOf V G truth = At.lieTo V truth C C.length) := by show _ = _; rw [At.lieTo_all, hG.fst]
  have Hv := Lib.hid hvt
  have HG := Lib.hid hG
  have Ha := Lib.hid ha
  have Hml := Lib.hid hml
  have n0 := nw_alloc w (.cells #[.int .i64 truth] tNum)
  have k0 := heap_new w (.cells #[.int .i64 truth] tNum)
  have K0 := Lib.hid k0
  clear hvt hG ha hml k0
  go_enter Tryz.func13, Tryz.ntmps13
  go_wp2_with fail
  (with_reducible refine (Hv.out _ n0).mono ?_)
  rintro _ w2 ⟨v2, rfl, o2, u2⟩
  obtain ⟨a2, c2, rfl⟩ := own_sl o2
  have U2 := n0.trans u2
  have S2 := Lib.hid (vote_sls o2)
  have k02 := Nw.keep u2 K0.out
  have K02 := Lib.hid k02
  have h2b : nG ≤ w2.heap.size := Nat.le_trans hgb U2.size
  have hbs : Hid (w.heap.size ≤ w2.heap.size) := U2.size
  clear o2 K0 k02
  go_wp2_with fail
  go_loopw [12, 23] (fun vo iv wr => ∃ n : Nat, n ≤ C.length ∧ iv = .int .i64 n ∧ Hid ((At.lieTo V truth C n).length ≤ n * 1000) ∧ Hid (wr.ownsRow w2.heap.size tNum 1 vo (At.lieTo V truth C n).length ((At.lieTo V truth C n).map intV)) ∧ Nw w2 wr) (fun vo iv _ => C.length - (intOf iv).toNat)
  case atStart => exact ⟨0, Nat.zero_le _, rfl, by show _ ≤ _; simp [At.lieTo], World.ownsRow_nil _ _ _ _, Upd.refl _ _⟩
  case round =>
    obtain ⟨n, hn, rfl, HL, HO, u⟩ := hrel
    obtain ⟨wq, rfl⟩ : ∃ x, x = wr := ⟨_, rfl⟩
    obtain ⟨ao, capo, e⟩ := own_sl HO.out
    subst e
    have U := U2.trans u
    by_cases hlt : n < C.length
    · rcases Ha.out with hnil | ⟨b, o, rfl, _, hb, hc⟩
      · simp [hnil] at hlt
      obtain ⟨p0, p1⟩ := hc n hlt
      have d0 := ((Nw.below U).cell (p := ⟨b, o + n * 2, none⟩) hb).trans p0
      have d1 := ((Nw.below U).cell (p := ⟨b, o + n * 2 + 1, none⟩) hb).trans p1
      obtain ⟨hsl, _, _⟩ := HG.out.each C[n] (List.getElem_mem hlt)
      have hm1000 := Hml.out C[n] (List.getElem_mem hlt)
      have hsn := At.lieTo_succ (V := V) (truth := truth) hlt
      generalize C[n] = x at *
      obtain ⟨xs, ms, xb⟩ := x
      dsimp only at *
      obtain ⟨am, capm, rfl, hmm1, hmc⟩ := num_cells hsl
      unfold maxLen at hmm1
      have Hsn := Lib.hid hsn
      have HMc := Lib.hid hmc
      have n3 := nw_alloc wq (.cells #[.slice am ms.length capm, .int .i64 xb] tGrp)
      have k3 := heap_new wq (.cells #[.slice am ms.length capm, .int .i64 xb] tGrp)
      obtain ⟨_, _⟩ := cell2 k3
      have hX0 : Hid (At.lieTo V truth C n ++ (ms.take 0).filter (fun k => At.lies V truth k) = At.lieTo V truth C n) := by show _ = _; simp
      have hO3 := owns_upd' HO.out n3 (fun _ _ e => e)
      have HO3 := Lib.hid hO3
      clear hc p0 p1 hsl hsn hmc k3 HO
      go_wp2_with fail
      generalize hWW : wq.alloc (.cells #[.slice am ms.length capm, .int .i64 xb] tGrp) = WW at *
      clear hWW
      go_loopw [12, 30] (fun vo iv wr => ∃ i : Nat, i ≤ ms.length ∧ iv = .int .i64 i ∧ Hid ((At.lieTo V truth C n ++ (ms.take i).filter (fun k => At.lies V truth k)).length ≤ n * 1000 + i) ∧ Hid (wr.ownsRow w2.heap.size tNum 1 vo (At.lieTo V truth C n ++ (ms.take i).filter (fun k => At.lies V truth k)).length ((At.lieTo V truth C n ++ (ms.take i).filter (fun k => At.lies V truth k)).map intV)) ∧ Nw w2 wr) (fun vo iv _ => ms.length - (intOf iv).toNat)
      case atStart => exact ⟨0, Nat.zero_le _, rfl, by show _ ≤ _; rw [hX0.out]; have := HL.out; omega, by show World.ownsRow _ _ _ _ _ _ _; rw [hX0.out]; exact HO3.out, u.trans n3⟩
      case round =>
        obtain ⟨i, hi, rfl, HLi, HOi, ui⟩ := hrel
        obtain ⟨ai, capi, e⟩ := own_sl HOi.out
        subst e
        have Ui := U2.trans ui
        have gw := g.upd Ui
        by_cases hil : i < ms.length
        · rcases HMc.out with hnil | ⟨b2, o2, rfl, _, hb2, hc2⟩
          · simp [hnil] at hil
          have q0 := ((Nw.below Ui).cell (p := ⟨b2, o2 + i, none⟩) hb2).trans (hc2 i hil)
          have htk : At.lieTo V truth C n ++ (ms.take (i + 1)).filter (fun k => At.lies V truth k) = (At.lieTo V truth C n ++ (ms.take i).filter (fun k => At.lies V truth k)) ++ (if At.lies V truth ms[i] = true then [ms[i]] else []) := by
            rw [List.take_succ_eq_append_getElem hil, List.filter_append, ← List.append_assoc]
            congr 1
            simp only [List.filter_cons, List.filter_nil]
          generalize ms[i] = k at *
          have Htk := Lib.hid htk
          have n5 := nw_alloc wr (.cells #[.int .i64 k] tNum)
          have k5 := heap_new wr (.cells #[.int .i64 k] tNum)
          have k05 := Nw.keep (ui.trans n5) K02.out
          have qc := containsV2 36 w.heap.size wr.heap.size call_liars (fun x => decide (x.2 ≠ truth) && decide (x.1.key = k)) _ _ _ V _ (S2.out.nw (ui.trans n5)) (by omega) (fun Wz x uz hx => lieP x truth k _ _ Wz (Nw.keep uz k05) (Nw.keep uz k5))
          rw [show (V.any fun x => decide (x.2 ≠ truth) && decide (x.1.key = k)) = At.lies V truth k from rfl] at qc
          have QC := Lib.hid qc
          have K5 := Lib.hid k5
          have hLi := HLi.out
          clear hc2 htk k5 k05 qc
          generalize hXd : At.lieTo V truth C n ++ (ms.take (i + 1)).filter (fun k => At.lies V truth k) = X1 at *
          generalize hXe : At.lieTo V truth C n ++ (ms.take i).filter (fun k => At.lies V truth k) = X0 at *
          have HXd := Lib.hid hXd
          have HXe := Lib.hid hXe
          clear hXd hXe
          generalize At.lies V truth k = q at *
          go_wp2_with fail
          (with_reducible refine (QC.out).mono ?_)
          rintro _ w6 ⟨rfl, u6⟩
          have U6 := n5.trans u6
          obtain c6 : w6.cell? ⟨wr.heap.size, 0, none⟩ = some (.int .i64 k) := by rw [cells_cell (Nw.keep u6 K5.out)]; rfl
          cases q with
          | false =>
            have hX : X1 = X0 := by rw [Htk.out, if_neg (by simp), List.append_nil]
            have hfin : Hid (w6.ownsRow w2.heap.size tNum 1 (.slice ai X0.length capi) X1.length (X1.map intV)) := by
              show w6.ownsRow _ _ _ _ _ _
              rw [hX]
              exact owns_upd' HOi.out U6 (fun _ _ e => e)
            have hln : Hid (X1.length ≤ n * 1000 + (i + 1)) := by show _ ≤ _; rw [hX]; omega
            clear Htk hX
            go_wp2_with fail
            go_roundw
            case rel => exact ⟨i + 1, by omega, by go_num, by rw [HXd.out]; exact hln, by rw [HXd.out]; exact hfin, ui.trans U6⟩
            case measure => simp [intOf]; omega
          | true =>
            have hX : X1 = X0 ++ [k] := by rw [Htk.out, if_pos rfl]
            have HX := Lib.hid hX
            have hln : Hid (X1.length ≤ n * 1000 + (i + 1)) := by show _ ≤ _; rw [hX, List.length_append, List.length_singleton]; omega
            have hown := owns_upd' HOi.out U6 (fun _ _ e => e)
            have h63 : Hid (X0.length + 1 ≤ maxLen ∧ (X0.length + 1) * 8 ≤ 140737488355328) := ⟨by unfold maxLen; omega, by omega⟩
            have hsz : w2.heap.size ≤ w6.heap.size := (ui.trans U6).size
            clear hX Htk
            go_wp2_with (at_builtin; refine wpList_appL rfl _ _ 31 rfl w2.heap.size tNum _ 1 8 Tryz.underlying31 infoNum rfl (by decide) _ _ _ rfl hown [.int .i64 k] rfl rfl (by intro u hu; rw [List.mem_singleton.1 hu]; rfl) h63.out.1 h63.out.2 hsz h2b ?_)
            intro v' w9 hown9 u9 hob
            obtain ⟨a9, cap9, rfl⟩ := own_sl hown9
            have hfin : Hid (w9.ownsRow w2.heap.size tNum 1 (.slice a9 (X0.length + 1) cap9) X1.length (X1.map intV)) := by
              show w9.ownsRow _ _ _ _ _ _
              rw [HX.out, List.length_append, List.length_singleton, List.map_append]
              exact hown9
            have hU : Hid (Nw w2 w9) := (ui.trans U6).trans' u9 (fun j hj e => by
              have h1 := (own_block HOi.out e).1
              omega)
            clear hown hown9 u9 hob
            go_wp2_with fail
            go_roundw
            case rel => exact ⟨i + 1, by omega, by go_num, by rw [HXd.out]; exact hln, by rw [HXd.out]; exact hfin, hU.out⟩
            case measure => simp [intOf]; omega
        · obtain rfl : i = ms.length := by omega
          rw [List.take_length, ← Hsn.out] at HOi HLi ⊢
          have hfin := HOi.out
          have hln := HLi.out
          have Hfin := Lib.hid hfin
          have Hln : Hid ((At.lieTo V truth C (n + 1)).length ≤ (n + 1) * 1000) := by show _ ≤ _; omega
          clear hfin hln HOi HLi
          go_wp2_with fail
          go_roundw
          case rel => exact ⟨n + 1, by omega, by go_num, Hln, Hfin.out, ui⟩
          case measure => simp [intOf]; omega
    · obtain rfl : n = C.length := by omega
      rw [← hGf.out] at HO HL ⊢
      have hrow := HO.out
      have hlen := HL.out
      have QS := Lib.hid (sorted_w w2.heap.size (At.liarsOf V G truth) _ wq h2b (by omega) hrow)
      have hsv : Hid (At.sortU (At.liarsOf V G truth) = At.liars V G truth) := by show _ = _; rfl
      have Hr := Lib.hid hrow
      clear HO HL hrow
      go_wp2_with fail
      (with_reducible refine (QS.out).mono ?_)
      rintro _ w5 ⟨v5, rfl, o5, u5, hf5⟩
      rw [hsv.out] at o5
      have Ho5 := Lib.hid o5
      have hU : Hid (Nw w w5) := U.trans' u5 (fun j hj e => by have := (own_block Hr.out e).1; have := hbs.out; omega)
      obtain ⟨a5, c5, rfl⟩ := own_sl o5
      clear o5 u5 hf5
      go_wp2_with fail
      go_ret
      exact ⟨_, rfl, owns_base Ho5.out hbs.out, hU.out⟩
end Go.Proofs.YtpceoogmkbcfmaaGreatDoor
