/- wave.formedWaves. -/
import Derived.Test.YtjlgmoemnhmgmaaGreatDoorPkWTells22
namespace Go.Proofs.YtjlgmoemnhmgmaaGreatDoor
open Go.RowKit Go.MapKept
open Go.Maps (Keyed)
set_option linter.unusedVariables false
set_option linter.unusedSimpArgs false
attribute [local irreducible] Calls
open Wv (Svc FL)

namespace Wv
/-- May a machine stand in its wave, behind the machines seen. -/
def mOk (n : Nat) (S ms : List Int) (i : Nat) : Bool := inR n (ms.getD i 0) && (decide (i = 0) || decide (ms.getD (i - 1) 0 < ms.getD i 0)) && !S.contains (ms.getD i 0)
def waveGo (n : Nat) (S : List Int) (w : Wave) : Bool := !w.ms.isEmpty && decide (0 ≤ w.after) && decide (w.after ≤ maxTime) && (List.range w.ms.length).all (mOk n S w.ms)
def formedGo (n : Nat) : List Int → List Wave → Bool
  | _, [] => true
  | S, w :: r => waveGo n S w && formedGo n (S ++ w.ms) r
theorem mOk_all {n : Nat} {S ms : List Int} : (List.range ms.length).all (mOk n S ms) = (ms.all (inR n) && ascI ms && ms.all fun m => !S.contains m) := by
  apply Bool.eq_iff_iff.2
  rw [Bool.and_eq_true, Bool.and_eq_true, List.all_eq_true, List.all_eq_true, List.all_eq_true]
  constructor
  · intro h
    have h' : ∀ i (hi : i < ms.length), inR n ms[i] = true ∧ (i = 0 ∨ ms.getD (i - 1) 0 < ms[i]) ∧ S.contains ms[i] = false := fun i hi => by
      have := h i (List.mem_range.2 hi)
      unfold mOk at this
      rw [getD_of hi] at this
      simp only [Bool.and_eq_true, Bool.or_eq_true, decide_eq_true_eq, Bool.not_eq_true'] at this
      exact ⟨this.1.1, this.1.2, this.2⟩
    refine ⟨⟨fun x hx => ?_, ascI_iff.2 fun i hi => ?_⟩, fun x hx => ?_⟩
    · obtain ⟨i, hi, rfl⟩ := List.mem_iff_getElem.1 hx
      exact (h' i hi).1
    · have := (h' (i + 1) hi).2.1
      rw [Nat.add_sub_cancel, getD_of (by omega : i < ms.length)] at this
      exact this.resolve_left (by omega)
    · obtain ⟨i, hi, rfl⟩ := List.mem_iff_getElem.1 hx
      rw [(h' i hi).2.2]; rfl
  · rintro ⟨⟨h1, h2⟩, h3⟩ i hi
    have hi := List.mem_range.1 hi
    unfold mOk
    rw [getD_of hi, h1 _ (List.getElem_mem hi), h3 _ (List.getElem_mem hi)]
    simp only [Bool.true_and, Bool.and_true, Bool.or_eq_true, decide_eq_true_eq]
    by_cases e : i = 0
    · exact Or.inl e
    · refine Or.inr ?_
      rw [getD_of (by omega : i - 1 < ms.length)]
      exact ascI_pair h2 (i - 1) i hi (by omega)
theorem waveGo_eq {n : Nat} {S : List Int} {w : Wave} : waveGo n S w = (waveOk n w && w.ms.all fun m => !S.contains m) := by
  unfold waveGo waveOk
  rw [mOk_all]
  simp only [Bool.and_assoc]
theorem formedGo_eq {n : Nat} : ∀ {ws : List Wave} {S : List Int}, S.Nodup → formedGo n S ws = (ws.all (waveOk n) && decide ((S ++ (ws.map (·.ms)).flatten).Nodup))
  | [], S, hS => by
    unfold formedGo
    simp [hS]
  | w :: r, S, hS => by
    unfold formedGo
    rw [waveGo_eq, List.all_cons, List.map_cons, List.flatten_cons]
    cases h1 : waveOk n w with
    | false => simp
    | true =>
      have hw : w.ms.Nodup := by
        unfold waveOk at h1
        rw [Bool.and_eq_true] at h1
        exact ascI_nodup h1.2
      cases h2 : w.ms.all (fun m => !S.contains m) with
      | false =>
        obtain ⟨x, hx, hc⟩ := List.all_eq_false.1 h2
        have hxS : x ∈ S := by simpa using hc
        have : ¬ (S ++ (w.ms ++ (r.map (·.ms)).flatten)).Nodup := fun hn => by
          rw [List.nodup_append] at hn
          exact hn.2.2 x hxS x (List.mem_append_left _ hx) rfl
        rw [decide_eq_false this]; simp
      | true =>
        have hSw : (S ++ w.ms).Nodup := by
          rw [List.nodup_append]
          refine ⟨hS, hw, fun a ha b hb e => ?_⟩
          subst e
          have := List.all_eq_true.1 h2 a hb
          simp at this
          exact this ha
        rw [formedGo_eq hSw, List.append_assoc]; simp
theorem formedW_go (f : FL) (ws : List Wave) : formedW f ws = formedGo f.runs.length [] ws := by
  rw [formedGo_eq List.nodup_nil]; rfl
theorem take_noW {n : Nat} {S ms : List Int} {i : Nat} (hi : i < ms.length) (h : ∀ j, j < i → mOk n S ms j = true) (ha : i = 0 ∨ ms.getD (i - 1) 0 < ms.getD i 0) : (S ++ ms.take i).contains (ms.getD i 0) = S.contains (ms.getD i 0) := by
  have h1 : ∀ j, j + 1 ≤ i → ms.getD j 0 < ms.getD (j + 1) 0 := fun j hj => by
    by_cases e : j + 1 = i
    · rcases ha with h0 | h0
      · omega
      · rw [← e, Nat.add_sub_cancel] at h0; exact h0
    · have := h (j + 1) (by omega)
      unfold mOk at this
      simp only [Bool.and_eq_true, Bool.or_eq_true, decide_eq_true_eq, Nat.add_sub_cancel] at this
      rcases this.1.2 with h | h
      · omega
      · exact h
  have h2 : ∀ d j, j + d + 1 ≤ i → ms.getD j 0 < ms.getD (j + d + 1) 0 := fun d => by
    induction d with
    | zero => intro j hj; exact h1 j hj
    | succ d ih => intro j hj; exact Int.lt_trans (ih j (by omega)) (h1 (j + d + 1) (by omega))
  have h3 : ¬ ms.getD i 0 ∈ ms.take i := fun hm => by
    obtain ⟨j, hj, e⟩ := List.mem_iff_getElem.1 hm
    rw [List.length_take] at hj
    rw [List.getElem_take] at e
    have := h2 (i - j - 1) j (by omega)
    rw [show j + (i - j - 1) + 1 = i by omega] at this
    rw [List.getD_eq_getElem?_getD, List.getElem?_eq_getElem (show j < ms.length by omega), Option.getD_some, e] at this
    omega
  apply Bool.eq_iff_iff.2
  rw [List.contains_iff_mem, List.contains_iff_mem, List.mem_append]
  exact ⟨fun h => h.elim id (fun h => absurd h h3), Or.inl⟩
theorem all_rangeW {n : Nat} {p : Nat → Bool} (h : ∀ j, j < n → p j = true) : (List.range n).all p = true := List.all_eq_true.2 (fun j hj => h j (List.mem_range.1 hj))
theorem not_all_rangeW {n : Nat} {p : Nat → Bool} {i : Nat} (hi : i < n) (h : p i = false) : (List.range n).all p = false := by
  rw [← Bool.not_eq_true, List.all_eq_true]
  intro hh
  have := hh i (List.mem_range.2 hi)
  rw [h] at this; cases this
end Wv
theorem intKeyedW : Keyed Tryz.prog 3 := Maps.int_keyed Tryz.underlying3
theorem int_keyW {n : Int} (h : I64 n) : keyOf Tryz.prog 3 (.int .i64 n) = some (.int .i64 n) := by
  unfold keyOf
  rw [Tryz.underlying3]
  unfold I64 at h

  simp [mapKey, Tryz.underlying3, i64_wf' h]
def seenL (l : List Int) : List (Value × Value) := l.map fun k => (.int .i64 k, .bool true)
theorem seen_look {w : World} {b : Nat} {l : List Int} (h : MapL Tryz.prog 3 w b (seenL l)) {k : Int} (hk : I64 k) : (Instr.lookup 72 (.map (some b)) (.int .i64 k) false).run Tryz.prog w = .ok (.bool (l.contains k)) w := by
  have hz : (zeroValue 4).run Tryz.prog w = .ok (.bool false) w := by kernel_rfl
  rcases h.look (t := 72) (e := 4) intKeyedW Tryz.underlying72 hz (int_keyW hk) with ⟨v, hm, hrun⟩ | ⟨hno, hrun⟩
  · obtain ⟨k', hk', e⟩ := List.mem_map.1 hm
    obtain ⟨e1, e2⟩ := Prod.mk.inj e
    obtain rfl : k' = k := (Value.int.inj e1).2
    subst e2
    have hc : l.contains k' = true := List.contains_iff_mem.2 hk'
    rw [hc]
    have := hrun false
    rwa [if_neg (by simp)] at this
  · have hc : l.contains k = false := by
      rw [← Bool.not_eq_true, List.contains_iff_mem]
      intro hm
      exact hno (.int .i64 k, .bool true) (List.mem_map.2 ⟨k, hm, rfl⟩) rfl
    rw [hc]
    have := hrun false
    rwa [if_neg (by simp)] at this
theorem seen_store {w : World} {b : Nat} {l : List Int} (h : MapL Tryz.prog 3 w b (seenL l)) (hg : nG ≤ b) {k : Int} (hk : I64 k) (hno : l.contains k = false) :
    ∃ w', (Instr.mapUpdate 72 (.map (some b)) (.int .i64 k) (.bool true)).run Tryz.prog w = .ok () w' ∧ MapL Tryz.prog 3 w' b (seenL (l ++ [k])) ∧ Upd (· = b) w w' := by
  have := h.store_new (t := 72) (e := 4) intKeyedW Tryz.underlying72 hg (int_keyW hk) (fun p hp e => by
    obtain ⟨k', hk', rfl⟩ := List.mem_map.1 hp
    obtain rfl : k' = k := (Value.int.inj e).2
    rw [List.contains_iff_mem.2 hk'] at hno; cases hno) (.bool true)
  unfold seenL
  rw [List.map_append]
  exact this
/-- 'm[k]' at an operation that is guarded, where the guard lets it by. -/
theorem wpList_lookW {P : Program} {w : World} {ops : Array Oper} {rest : List Oper} {o : Oper} {a : Act} {Q : Exit → Act → World → Prop} (m x : Operand) (t : TypeId) (c : Bool) (hop : o.op = Op.lookup t m x c) (hw : Region.wanted o (yielded ops a.tmps) = true)
    (vm key v : Value) (hm : a.eval m = vm) (hx : a.eval x = key) (hrun : (Instr.lookup t vm key c).run P w = .ok v w) (h : wpList P ops Q rest (a.put o.dst v) w) : wpList P ops Q (o :: rest) a w := by
  refine wpList_step fun K hK => ?_
  rw [if_pos hw]
  unfold Oper.wp
  simp [execOp, hop, hm, hx, hrun, Result.andThen]
  exact hK _ _ h
set_option maxHeartbeats 4000000 in
set_option maxRecDepth 100000 in
theorem formedWaves_c (oa na ra wa : Option Addr) (oc nc rc wc : Nat) (f : FL) (ws : List Wv.Wave) (w : World) (g : Gm w) (hrl : f.runs.length ≤ 100000) (hws : WvC w wa ws) (hwl : ws.length ≤ 100000) (hms : ∀ x ∈ ws, x.ms.length ≤ 100000) :
    Calls Tryz.prog 34 #[.agg (flV oa na ra oc nc rc f), .slice wa ws.length wc] w fun e w' => e = .returned (.bool (Wv.formedW f ws)) ∧ Nw w w' := by
  unfold flV
  rw [Wv.formedW_go]
  obtain ⟨fv, hfv⟩ : ∃ x, x = Obj.cells #[.slice oa f.old.length oc, .slice na f.new.length nc, .slice ra f.runs.length rc] tFl := ⟨_, rfl⟩
  have n1 := nw_alloc w fv
  have b1 := heap_new w fv
  obtain ⟨W, hW⟩ : ∃ z, z = w.alloc fv := ⟨_, rfl⟩
  rw [← hW] at n1 b1
  have hWs : W.heap.size = w.heap.size + 1 := by rw [hW]; simp
  rw [hfv] at hW b1
  have HW := Lib.hid hW
  have HN := Lib.hid n1
  have HX : Hid (∀ y, Nw W y → y.cell? ⟨w.heap.size, 2, none⟩ = some (.slice ra f.runs.length rc)) := fun y u => by rw [cells_cell (Nw.keep u b1)]; rfl
  have Ha := Lib.hid (WvC.nw hws n1)
  have HGB : Hid (nG ≤ W.heap.size) := by have := g.g.big; show _ ≤ _; omega
  have HMS := Lib.hid hms
  have hrl1 : (f.runs.length : Int) ≤ 100000 := by omega
  clear n1 b1 hW hfv fv hws hms g hWs
  have hmm := @run_makeMap Tryz.prog
  have u1 := nw_alloc W (.map #[] 0)
  have M1 : Hid (MapL Tryz.prog 3 (W.alloc (.map #[] 0)) W.heap.size (seenL [])) := MapL.made Tryz.prog 3 W
  have hwl1 : (ws.length : Int) ≤ 100000 := by omega
  generalize f.runs.length = rn at *
  go_enter Tryz.func34, Tryz.ntmps34
  go_upto_region 1 with fail
  rw [← HW.out]
  clear HW
  go_wp2_with fail
  go_loopw [13] (fun iv wr => ∃ n : Nat, n ≤ ws.length ∧ iv = .int .i64 n ∧ Hid (∃ S, Wv.formedGo rn [] ws = Wv.formedGo rn S (ws.drop n) ∧ MapL Tryz.prog 3 wr W.heap.size (seenL S)) ∧ Nw W wr) (fun iv _ => ws.length - (intOf iv).toNat)
  case atStart => exact ⟨0, Nat.zero_le _, rfl, ⟨[], by rw [List.drop_zero], M1.out⟩, u1⟩
  case round =>
    obtain ⟨n, hn, rfl, HS, u⟩ := hrel
    obtain ⟨wq, rfl⟩ : ∃ x, x = wr := ⟨_, rfl⟩
    obtain ⟨S, hS, hM⟩ := HS.out
    have x2 := HX.out wq u
    by_cases hlt : n < ws.length
    · rcases Ha.out with hnil | ⟨b, o, rfl, hb, hc⟩
      · simp [hnil] at hlt
      obtain ⟨am, capm, p0, p1, hmc, hmm1⟩ := hc n hlt
      have d0 := nw_cellF u p0
      have d1 := nw_cellF u p1
      have hmm2 := HMS.out ws[n] (List.getElem_mem hlt)
      rw [List.drop_eq_getElem_cons hlt] at hS
      generalize hX : ws[n] = x at *
      clear hX hmm1
      obtain ⟨ms, xb⟩ := x
      dsimp only at *
      have hstep : Wv.formedGo rn S (⟨ms, xb⟩ :: ws.drop (n + 1)) = (Wv.waveGo rn S ⟨ms, xb⟩ && Wv.formedGo rn (S ++ ms) (ws.drop (n + 1))) := rfl
      have hbadg : Wv.waveGo rn S ⟨ms, xb⟩ = false → Hid (Wv.formedGo rn [] ws = false) := fun e => by show _ = _; rw [hS, hstep, e]; rfl
      have hgo : Wv.waveGo rn S ⟨ms, xb⟩ = true → Hid (Wv.formedGo rn [] ws = Wv.formedGo rn (S ++ ms) (ws.drop (n + 1))) := fun e => by show _ = _; rw [hS, hstep, e]; rfl
      have hgrp : Wv.waveGo rn S ⟨ms, xb⟩ = (!ms.isEmpty && decide (0 ≤ xb) && decide (xb ≤ 1073741824) && (List.range ms.length).all (Wv.mOk rn S ms)) := rfl
      have HGrp := Lib.hid hgrp
      have Hbadg := Lib.hid hbadg
      have Hgo := Lib.hid hgo
      have HMc := Lib.hid hmc
      have HM := Lib.hid hM
      have hm9 : (ms.length : Int) ≤ 100000 := by omega
      have n2 := nw_alloc wq (.cells #[.slice am ms.length capm, .int .i64 xb] tWv)
      have k2 := heap_new wq (.cells #[.slice am ms.length capm, .int .i64 xb] tWv)
      clear hc p0 p1 hS hstep hbadg hgo hgrp hmc hM HS
      have HU1 := Lib.hid u
      by_cases h1 : ms.length = 0
      · have hr := Hbadg.out (by rw [HGrp.out, List.length_eq_zero_iff.1 h1]; rfl)
        have e1 : ((ms.length : Int) == 0) = true := by simpa using h1
        clear h1
        go_wp2_with fail
        go_ret
        exact ⟨ret_bool hr.out.symm, HN.out.trans (HU1.out.trans n2)⟩
      have e1 : ((ms.length : Int) == 0) = false := beq_eq_false_iff_ne.2 (by omega)
      have hne : ms.isEmpty = false := by
        cases ms with
        | nil => simp at h1
        | cons => rfl
      by_cases h3 : xb < 0
      · have hr := Hbadg.out (by rw [HGrp.out]; simp; intro _ h; omega)
        go_wp2_with fail
        go_ret
        exact ⟨ret_bool hr.out.symm, HN.out.trans (HU1.out.trans n2)⟩
      by_cases h4 : 1073741824 < xb
      · have hr := Hbadg.out (by rw [HGrp.out]; simp; intro _ _ h; omega)
        go_wp2_with fail
        go_ret
        exact ⟨ret_bool hr.out.symm, HN.out.trans (HU1.out.trans n2)⟩
      have hok : (List.range ms.length).all (Wv.mOk rn S ms) = true → Hid (Wv.waveGo rn S ⟨ms, xb⟩ = true) := fun e => by show _ = _; rw [HGrp.out, e, hne]; simp; omega
      have hnok : (List.range ms.length).all (Wv.mOk rn S ms) = false → Hid (Wv.waveGo rn S ⟨ms, xb⟩ = false) := fun e => by show _ = _; rw [HGrp.out, e]; simp
      have Hok := Lib.hid hok
      have Hnok := Lib.hid hnok
      have K2 := Lib.hid k2
      have hsz : Hid (W.heap.size < wq.heap.size) := HM.out.lt
      have HM2 : Hid (MapL Tryz.prog 3 (wq.alloc (.cells #[.slice am ms.length capm, .int .i64 xb] tWv)) W.heap.size (seenL (S ++ ms.take 0))) := by show MapL _ _ _ _ _; rw [List.take_zero, List.append_nil]; exact HM.out.nw n2
      have HN2 := Lib.hid n2
      clear hok hnok k2 hne n2 u
      go_wp2_with fail
      go_loopw [34] (fun iv wr => ∃ i : Nat, i ≤ ms.length ∧ iv = .int .i64 i ∧ Hid (∀ j, j < i → Wv.mOk rn S ms j = true) ∧ Hid (MapL Tryz.prog 3 wr W.heap.size (seenL (S ++ ms.take i))) ∧ Hid (Upd (fun j => j = W.heap.size) (wq.alloc (.cells #[.slice am ms.length capm, .int .i64 xb] tWv)) wr)) (fun iv _ => ms.length - (intOf iv).toNat)
      case atStart => exact ⟨0, Nat.zero_le _, rfl, fun j hj => by omega, HM2.out, Upd.refl _ _⟩
      case round =>
        obtain ⟨i, hi, rfl, hall, HM3, hU⟩ := hrel
        obtain ⟨wp, rfl⟩ : ∃ x, x = wr := ⟨_, rfl⟩
        have hne : ¬ wq.heap.size = W.heap.size := by have := hsz.out; omega
        have k3 := hU.out.keep K2.out hne
        have y0 : wp.cell? ⟨wq.heap.size, 0, none⟩ = some (.slice am ms.length capm) := by rw [cells_cell k3]; rfl
        have y1 : wp.cell? ⟨wq.heap.size, 1, none⟩ = some (.int .i64 xb) := by rw [cells_cell k3]; rfl
        have HuW : Hid (Nw W wp) := (HU1.out.trans HN2.out).trans' hU.out (fun j hj e => by omega)
        clear k3 x2
        have x2 := HX.out wp HuW.out
        by_cases hil : i < ms.length
        · rcases HMc.out with hnil | ⟨b2, o2, rfl, hb2, hc2⟩
          · simp [hnil] at hil
          have q0 := nw_cellF HuW.out (hc2 i hil)
          have hget : ms.getD i 0 = ms[i] := getD_of hil
          have hkey : Wv.mOk rn S ms i = (Wv.inR rn ms[i] && (decide (i = 0) || decide (ms.getD (i - 1) 0 < ms[i])) && !S.contains ms[i]) := by unfold Wv.mOk; rw [hget]
          have htno := Wv.take_noW hil hall.out
          rw [hget] at htno
          have hbad2 : Wv.mOk rn S ms i = false → Hid (Wv.formedGo rn [] ws = false) := fun e => Hbadg.out (Hnok.out (Wv.not_all_rangeW hil e)).out
          have hnext : Wv.mOk rn S ms i = true → Hid (∀ j, j < i + 1 → Wv.mOk rn S ms j = true) := fun e j hj => by
            by_cases ej : j = i
            · subst ej; exact e
            · exact hall.out j (by omega)
          have htk : ms.take (i + 1) = ms.take i ++ [ms[i]] := List.take_succ_eq_append_getElem hil
          have hprev : ∀ j, i = j + 1 → wp.cell? ⟨b2, o2 + j, none⟩ = some (.int .i64 (ms.getD (i - 1) 0)) := fun j e => by
            subst e
            rw [nw_cellF HuW.out (hc2 j (by omega)), Nat.add_sub_cancel, getD_of (by omega : j < ms.length)]
          have HKey := Lib.hid hkey
          have Htno := Lib.hid htno
          have Hbad2 := Lib.hid hbad2
          have Hnext := Lib.hid hnext
          have Htk := Lib.hid htk
          have hi9 : (i : Int) < ms.length := by omega
          generalize ms.getD (i - 1) 0 = pv at *
          generalize ms[i] = k at *
          clear hkey htno hbad2 hnext htk hget hc2
          by_cases g1 : k < 0
          · have hr := Hbad2.out (by rw [HKey.out]; unfold Wv.inR; rw [decide_eq_false (show ¬ 0 ≤ k by omega)]; rfl)
            go_wp2_with fail
            go_ret
            exact ⟨ret_bool hr.out.symm, HN.out.trans HuW.out⟩
          by_cases g2 : k < (rn : Int)
          rotate_left
          · have hr := Hbad2.out (by rw [HKey.out]; unfold Wv.inR; rw [decide_eq_false g2]; simp)
            go_wp2_with fail
            go_ret
            exact ⟨ret_bool hr.out.symm, HN.out.trans HuW.out⟩
          have e0 : Hid (Wv.inR rn k = true) := Wv.inR_iff.2 ⟨by omega, g2⟩
          have HHad : Hid (I64 k) := by show I64 k; unfold I64; omega
          by_cases g0 : i = 0
          · subst g0
            rw [Nat.add_zero] at q0
            have hsc := Htno.out (Or.inl rfl)
            have hky : Hid (Wv.mOk rn S ms 0 = !S.contains k) := by show _ = _; rw [HKey.out, e0.out]; simp
            clear hprev
            have hlk := seen_look HM3.out HHad.out
            rw [hsc] at hlk
            generalize hsv : S.contains k = sc at *
            have Hlk := Lib.hid hlk
            have Hsc := Lib.hid hsc
            clear hlk hsc hsv
            cases sc with
            | true =>
              have hr := Hbad2.out (by rw [hky.out]; rfl)
              go_wp2_with (at_lookup; go_loud (refine wpList_lookW _ _ 72 false rfl (by simp [Region.wanted, yielded] <;> omega) _ _ _ rfl rfl Hlk.out ?_))
              go_ret
              exact ⟨ret_bool hr.out.symm, HN.out.trans HuW.out⟩
            | false =>
              have hn := Hnext.out (by rw [hky.out]; rfl)
              obtain ⟨w9, hst, hm9, u9⟩ := seen_store HM3.out HGB.out HHad.out Hsc.out
              have Hst := Lib.hid hst
              have hm10 : Hid (MapL Tryz.prog 3 w9 W.heap.size (seenL (S ++ ms.take (0 + 1)))) := by show MapL _ _ _ _ _; rw [Htk.out, ← List.append_assoc]; exact hm9
              have hU9 : Hid (Upd (fun j => j = W.heap.size) (wq.alloc (.cells #[.slice (some ⟨b2, o2, none⟩) ms.length capm, .int .i64 xb] tWv)) w9) := hU.out.trans u9
              clear hst hm9 u9
              go_wp2_with (first | (at_lookup; go_loud (refine wpList_lookW _ _ 72 false rfl (by simp [Region.wanted, yielded] <;> omega) _ _ _ rfl rfl Hlk.out ?_)) | (at_mapUpdate; refine wpList_storeL rfl _ _ _ 72 rfl _ _ _ rfl rfl rfl Hst.out ?_))
              go_roundw
              case rel => exact ⟨0 + 1, by omega, by go_num, hn, hm10, hU9⟩
              case measure => simp [intOf]; omega
          · obtain ⟨j0, rfl⟩ : ∃ j0, i = j0 + 1 := ⟨i - 1, by omega⟩
            have q1 := hprev j0 rfl
            have hip : (0 : Int) < ((j0 + 1 : Nat) : Int) := by omega
            by_cases g3 : pv < k
            · have hsc := Htno.out (Or.inr g3)
              have hky : Hid (Wv.mOk rn S ms (j0 + 1) = !S.contains k) := by show _ = _; rw [HKey.out, e0.out]; simp [g3]
              clear hprev
              have hlk := seen_look HM3.out HHad.out
              rw [hsc] at hlk
              generalize hsv : S.contains k = sc at *
              have Hlk := Lib.hid hlk
              have Hsc := Lib.hid hsc
              clear hlk hsc hsv
              cases sc with
              | true =>
                have hr := Hbad2.out (by rw [hky.out]; rfl)
                go_wp2_with (at_lookup; go_loud (refine wpList_lookW _ _ 72 false rfl (by simp [Region.wanted, yielded] <;> omega) _ _ _ rfl rfl Hlk.out ?_))
                go_ret
                exact ⟨ret_bool hr.out.symm, HN.out.trans HuW.out⟩
              | false =>
                have hn := Hnext.out (by rw [hky.out]; rfl)
                obtain ⟨w9, hst, hm9, u9⟩ := seen_store HM3.out HGB.out HHad.out Hsc.out
                have Hst := Lib.hid hst
                have hm10 : Hid (MapL Tryz.prog 3 w9 W.heap.size (seenL (S ++ ms.take ((j0 + 1) + 1)))) := by show MapL _ _ _ _ _; rw [Htk.out, ← List.append_assoc]; exact hm9
                have hU9 : Hid (Upd (fun j => j = W.heap.size) (wq.alloc (.cells #[.slice (some ⟨b2, o2, none⟩) ms.length capm, .int .i64 xb] tWv)) w9) := hU.out.trans u9
                clear hst hm9 u9
                go_wp2_with (first | (at_lookup; go_loud (refine wpList_lookW _ _ 72 false rfl (by simp [Region.wanted, yielded] <;> omega) _ _ _ rfl rfl Hlk.out ?_)) | (at_mapUpdate; refine wpList_storeL rfl _ _ _ 72 rfl _ _ _ rfl rfl rfl Hst.out ?_))
                go_roundw
                case rel => exact ⟨(j0 + 1) + 1, by omega, by go_num, hn, hm10, hU9⟩
                case measure => simp [intOf]; omega
            · have hr := Hbad2.out (by rw [HKey.out]; simp [g3])
              clear hprev
              have hlk := seen_look HM3.out HHad.out
              generalize (S ++ ms.take (j0 + 1)).contains k = sc at *
              have Hlk := Lib.hid hlk
              clear hlk
              cases sc <;>
              · go_wp2_with (at_lookup; go_loud (refine wpList_lookW _ _ 72 false rfl (by simp [Region.wanted, yielded] <;> omega) _ _ _ rfl rfl Hlk.out ?_))
                go_ret
                exact ⟨ret_bool hr.out.symm, HN.out.trans HuW.out⟩
        · obtain rfl : i = ms.length := by omega
          have hall2 := Hgo.out (Hok.out (Wv.all_rangeW hall.out)).out
          have hm9 := HM3.out
          rw [List.take_length] at hm9
          have hfin : Hid (∃ S', Wv.formedGo rn [] ws = Wv.formedGo rn S' (ws.drop (n + 1)) ∧ MapL Tryz.prog 3 wp W.heap.size (seenL S')) := ⟨S ++ ms, hall2.out, hm9⟩
          clear hall2 hm9
          go_wp2_with fail
          go_roundw
          case rel => exact ⟨n + 1, by omega, by go_num, hfin, HuW.out⟩
          case measure => simp [intOf]; omega
    · obtain rfl : n = ws.length := by omega
      rw [List.drop_length] at hS
      have hr : Hid (Wv.formedGo rn [] ws = true) := hS
      clear HS hS hM
      go_wp2_with fail
      go_ret
      exact ⟨ret_bool hr.out.symm, HN.out.trans u⟩
end Go.Proofs.YtjlgmoemnhmgmaaGreatDoor
