/- wave.table.run. wave.Run. -/
import Derived.Test.YtjlgmoemnhmgmaaGreatDoorPkWTells23
import Derived.Laws.MakeOwn
import Derived.Deep.CutBlock
namespace Go.Proofs.YtjlgmoemnhmgmaaGreatDoor
open Go.RowKit Go.MapKept
set_option linter.unusedVariables false
set_option linter.unusedSimpArgs false
attribute [local irreducible] Calls
open Wv (Svc FL)

theorem infoIntW : (Tryz.prog.info? 3).map (fun i => (i.zero, i.size, i.bytes)) = some (some (.int .i64 0), 1, 8) := by kernel_rfl
theorem infoBoolW : (Tryz.prog.info? 4).map (fun i => (i.zero, i.size, i.bytes)) = some (some (.bool false), 1, 1) := by kernel_rfl
theorem own_slW {B sz : Nat} {e : TypeId} {w : World} {v : Value} {n : Nat} {xs : List Value} (h : w.ownsRow B e sz v n xs) : ∃ a cap, v = .slice a n cap := by
  rcases h.2 with ⟨rfl, rfl⟩ | ⟨g, cap, cur, rfl, _⟩
  · exact ⟨_, _, rfl⟩
  · exact ⟨_, _, rfl⟩
/-- 'make([]T, n)', elements of one cell. -/
theorem wpList_makeW {P : Program} {w : World} {ops : Array Oper} {rest : List Oper} {o : Oper} {a : Act} {Q : Exit → Act → World → Prop} (hgd : o.guard = none) (l c : Operand) (t e : TypeId) (z : Value) (bytes : Nat) (hop : o.op = Op.makeSlice t l c) (ht : P.underlying t = some (.slice e)) (hinfo : (P.info? e).map (fun i => (i.zero, i.size, i.bytes)) = some (some z, 1, bytes))
    (n : Nat) (hl : a.eval l = .int .i64 n) (hc : a.eval c = .int .i64 n) (hn : n ≤ 281474976710656) (hb : n * bytes ≤ 281474976710656)
    (h : ∀ w', w'.heap[w.heap.size]? = some (.cells (madeCells z.cells n) e (0, 0)) → Nw w w' → wpList P ops Q rest (a.put o.dst (.slice (some ⟨w.heap.size, 0, none⟩) n n)) w') : wpList P ops Q (o :: rest) a w := by
  obtain ⟨i0, hi, hz0, hz1, hz2⟩ := info_parts hinfo
  have hrun := run_make (P := P) w t e i0 z ht hi hz0 .i64 .i64 n n (by omega) (Int.le_refl _) (by rw [hz2, Int.mul_comm]; have h2 := Int.ofNat_le.2 hb; rw [Int.natCast_mul] at h2; exact h2) (by omega)
  rw [Int.toNat_natCast, hz1, Nat.mul_one] at hrun
  refine wpList_plain hgd fun K hK => ?_
  unfold Oper.wp
  simp [execOp, hop, hl, hc, hrun, Result.andThen]
  exact hK _ _ (h _ (heap_new w _) (nw_alloc w _))
/-- A state of machines in a block of its own. -/
def DoneAt (w : World) (b : Nat) (done : List Bool) : Prop := w.heap[b]? = some (.cells (done.map Value.bool).toArray 4 (0, 0))
theorem DoneAt.lt {w : World} {b : Nat} {done : List Bool} (h : DoneAt w b done) : b < w.heap.size := by
  unfold DoneAt at h
  exact (Array.getElem?_eq_some_iff.1 h).1
theorem DoneAt.upd {S : Nat → Prop} {w w' : World} {b : Nat} {done : List Bool} (h : DoneAt w b done) (u : Upd S w w') (hn : ¬ S b) : DoneAt w' b done := by
  unfold DoneAt at h ⊢
  exact u.keep h hn
theorem DoneAt.bc {w : World} {b : Nat} {done : List Bool} (h : DoneAt w b done) : BC w (some ⟨b, 0, none⟩) done := by
  have hlt := h.lt
  unfold DoneAt at h
  refine Or.inr ⟨b, 0, rfl, hlt, fun i hi => ?_⟩
  rw [cells_cell h, Nat.zero_add]
  simp [hi]
theorem DoneAt.cell {w : World} {b : Nat} {done : List Bool} (h : DoneAt w b done) {i : Nat} (hi : i < done.length) : w.cell? ⟨b, i, none⟩ = some (.bool done[i]) := by
  unfold DoneAt at h
  rw [cells_cell h]
  simp [hi]
theorem DoneAt.frozen {w : World} {b : Nat} {done : List Bool} (h : DoneAt w b done) (i : Nat) : w.frozen? ⟨b, i, none⟩ = false := by
  unfold DoneAt at h
  exact cells_frozen h i
theorem DoneAt.set {w : World} {b : Nat} {done : List Bool} (h : DoneAt w b done) (i : Nat) (x : Bool) : DoneAt (w.setCell ⟨b, i, none⟩ (.bool x)) b (done.set i x) := by
  unfold DoneAt at h ⊢
  rw [setCell_block h]
  congr 2
  apply Array.ext'
  simp [List.map_set]
theorem DoneAt.made {w : World} {b n : Nat} (h : w.heap[b]? = some (.cells (madeCells (Value.bool false).cells n) 4 (0, 0))) : DoneAt w b (List.replicate n false) := by
  unfold DoneAt
  rw [h]
  congr 2
  apply Array.ext'
  apply List.ext_getElem?
  intro i
  simp only [madeCells, Value.cells, Array.toList_map, Array.toList_range, List.getElem?_map]
  by_cases h : i < n
  · simp [h, Nat.mod_one]
  · simp [h]
namespace Wv
theorem setAll_take {done : List Bool} {ms : List Int} {i : Nat} (h : i < ms.length) : setAll done (ms.take (i + 1)) = (setAll done (ms.take i)).set ms[i].toNat true := by
  unfold setAll
  rw [List.take_succ_eq_append_getElem h, List.foldl_append]; rfl
theorem setAll_length (done : List Bool) (ms : List Int) : (setAll done ms).length = done.length := by
  unfold setAll
  induction ms generalizing done with
  | nil => rfl
  | cons m r ih => rw [List.foldl_cons, ih, List.length_set]
theorem pairOf_bad (o : Option (Nat × Nat)) : (pairOf o).2.2 = o.isSome := by cases o <;> rfl
theorem held_def (holds : List Int) (s : Nat) (now : Int) : held holds s now = (decide (s < holds.length) && decide (now < holds.getD s 0)) := rfl
theorem waveOk_parts {n : Nat} {w : Wave} (h : waveOk n w = true) : 0 ≤ w.after ∧ w.after ≤ 1073741824 ∧ ∀ x ∈ w.ms, 0 ≤ x ∧ x < n := by
  unfold waveOk at h
  simp only [Bool.and_eq_true, decide_eq_true_eq, List.all_eq_true] at h
  exact ⟨h.1.1.1.2, h.1.1.2, fun x hx => inR_iff.1 (h.1.2 x hx)⟩
theorem nowOf_none (w : Wave) : nowOf w [] = w.after := rfl
theorem nowOf_some (w : Wave) {mo : List Int} {n : Nat} (h : mo.length = n + 1) : nowOf w mo = max w.after (mo.getD n 0 + 1) := by
  unfold nowOf
  rw [List.getLast?_eq_getElem?, h, Nat.add_sub_cancel, List.getElem?_eq_getElem (by omega), getD_of (by omega)]
theorem any_no {ms : List Int} {p : Int → Bool} {i : Nat} (hi : i = ms.length) (h : ∀ j (hj : j < ms.length), j < i → p ms[j] = false) : ms.any p = false := by
  rw [List.any_eq_false]
  intro x hx
  obtain ⟨j, hj, rfl⟩ := List.mem_iff_getElem.1 hx
  rw [h j hj (by omega)]; simp
theorem any_yes {ms : List Int} {p : Int → Bool} {i : Nat} (hi : i < ms.length) (h : p ms[i] = true) : ms.any p = true := List.any_eq_true.2 ⟨_, List.getElem_mem hi, h⟩
end Wv
theorem run_results (tmps : Array Value) (w : World) : (results Tryz.f35 tmps).run Tryz.prog w = .ok (.tuple #[tmps.getD 10 undef, tmps.getD 11 undef]) w := by
  simp [results, Tryz.results35, go_sem]
/-- What a rollout returns. -/
def RunD (w : World) (r : List Int × Int) (e : Ending) (w' : World) : Prop :=
  ∃ v', e = .returned (.tuple #[v', .int .i64 r.2]) ∧ w'.ownsRow w.heap.size 3 1 v' r.1.length (r.1.map (Value.int .i64)) ∧ Nw w w'
set_option maxHeartbeats 16000000 in
set_option maxRecDepth 100000 in
theorem run_c (tb : Nat) (T : Nat → Bool) (oa na ra wa ha : Option Addr) (oc nc rc wvc hc : Nat) (f : FL) (ws : List Wv.Wave) (quota : Int) (holds : List Int) (w : World) (hgb : nG ≤ w.heap.size) (h : FlAt w oa na ra oc nc f) (hr : Wv.Rg f) (hT : TabAt w tb T) (hok : TabOk f T)
    (hws : WvC w wa ws) (hwl : ws.length ≤ 100000) (hms : ∀ x ∈ ws, x.ms.length ≤ 100000 ∧ Wv.waveOk f.runs.length x = true) (hhc : IC w ha holds) (hhl : holds.length ≤ 100000) :
    Calls Tryz.prog 35 #[.pointer (some ⟨tb, 0, none⟩), .agg (flV oa na ra oc nc rc f), .slice wa ws.length wvc, .int .i64 quota, .slice ha holds.length hc] w (RunD w (Wv.runG f ws quota holds)) := by
  unfold flV
  obtain ⟨fv, hfv⟩ : ∃ x, x = Obj.cells #[.slice oa f.old.length oc, .slice na f.new.length nc, .slice ra f.runs.length rc] tFl := ⟨_, rfl⟩
  have n1 := nw_alloc w fv
  have b1 := heap_new w fv
  obtain ⟨W, hW⟩ : ∃ z, z = w.alloc fv := ⟨_, rfl⟩
  rw [← hW] at n1 b1
  have hWs : W.heap.size = w.heap.size + 1 := by rw [hW]; simp
  rw [hfv] at hW b1
  have HW := Lib.hid hW
  have HN := Lib.hid n1
  have HX : Hid (∀ y, Nw W y → y.cell? ⟨w.heap.size, 0, none⟩ = some (.slice oa f.old.length oc) ∧ y.cell? ⟨w.heap.size, 1, none⟩ = some (.slice na f.new.length nc) ∧ y.cell? ⟨w.heap.size, 2, none⟩ = some (.slice ra f.runs.length rc)) := fun y u => ⟨by rw [cells_cell (Nw.keep u b1)]; rfl, by rw [cells_cell (Nw.keep u b1)]; rfl, by rw [cells_cell (Nw.keep u b1)]; rfl⟩
  have HA := Lib.hid (WvC.nw hws n1)
  have HGB : Hid (nG ≤ W.heap.size ∧ w.heap.size + 1 = W.heap.size) := by show _ ≤ _ ∧ _ = _; omega
  have HMS := Lib.hid hms
  have HHC := Lib.hid (IC.nw hhc n1)
  have HRL : Hid (∀ y, Nw W y → ∀ k (hk : k < f.runs.length), ∃ b off, ra = some ⟨b, off, none⟩ ∧ y.cell? ⟨b, off + k, none⟩ = some (.int .i64 (Wv.run f k : Nat)) ∧ Wv.run f k < 8) := fun y u k hk => by
    rcases h.runs with hnil | ⟨b, off, e, _, hcell⟩
    · rw [hnil] at hk; simp at hk
    · refine ⟨b, off, e, ?_, by have := (run_lt hr hk).1; have := hr.old8; omega⟩
      rw [← (run_lt hr hk).2]; exact nw_cellF (n1.trans u) (hcell k hk)
  have HFS : Hid (∀ y done, Nw W y → DoneAt y W.heap.size done → done.length = f.runs.length → ∀ p, p = Wv.pairOf (Wv.firstBad f done) → Calls Tryz.prog 31 #[.pointer (some ⟨tb, 0, none⟩), .agg #[.slice oa f.old.length oc, .slice na f.new.length nc, .slice ra f.runs.length rc], .slice (some ⟨W.heap.size, 0, none⟩) f.runs.length f.runs.length] y fun e w' => e = .returned (.tuple #[.int .i64 p.1, .int .i64 p.2.1, .bool p.2.2]) ∧ Nw y w') := fun y done u hd hdl p hp => by
    have := first_c tb T oa na ra (some ⟨W.heap.size, 0, none⟩) oc nc rc f.runs.length f done y (Nat.le_trans hgb (n1.trans u).size) (h.nw (n1.trans u)) hr (hT.upd (n1.trans u) (fun e => e)) hok hd.bc trivial
    rw [hdl, ← hp] at this
    exact this
  have hrl : f.runs.length ≤ 400 := hr.few
  have hwl1 : (ws.length : Int) ≤ 100000 := by omega
  clear n1 b1 hW hfv fv hws hms hWs h hr hT hok hhc hgb
  obtain ⟨rg, hrg⟩ : ∃ r, r = Wv.runG f ws quota holds := ⟨_, rfl⟩
  rw [← hrg]
  have HRGD := Lib.hid hrg
  clear hrg
  obtain ⟨rn, hrn⟩ : ∃ r, r = f.runs.length := ⟨_, rfl⟩
  rw [← hrn] at HX HMS HRL HFS hrl HW ⊢
  have HRN := Lib.hid hrn
  clear hrn
  have hrl1 : (rn : Int) ≤ 400 := by omega
  obtain ⟨x0, x1, x2⟩ := HX.out W (Upd.refl _ _)
  go_enter Tryz.func35, Tryz.ntmps35
  go_upto_region 1 with fail
  rw [← HW.out]
  clear HW
  go_wp2_with (at_make; refine wpList_makeW rfl _ _ 26 4 _ 1 rfl Tryz.underlying26 infoBoolW rn rfl rfl ?m1 ?m2 ?_)
  case m1 => omega
  case m2 => omega
  intro wD hD nD
  have HD0 : Hid (DoneAt wD W.heap.size (Wv.none_ f)) := by unfold Wv.none_; rw [← HRN.out]; exact DoneAt.made hD
  have HND := Lib.hid nD
  clear hD x0 x1 x2
  obtain ⟨x0, x1, x2⟩ := HX.out wD nD
  obtain ⟨pr, hpr⟩ : ∃ p, p = Wv.pairOf (Wv.firstBad f (Wv.none_ f)) := ⟨_, rfl⟩
  have hc1 := Lib.hid (HFS.out wD (Wv.none_ f) nD HD0.out (by unfold Wv.none_; rw [List.length_replicate, HRN.out]) pr hpr)
  have hbad : Hid (pr.2.2 = (Wv.firstBad f (Wv.none_ f)).isSome) := by show _ = _; rw [hpr, Wv.pairOf_bad]
  clear nD hpr
  obtain ⟨p1, p2, p3⟩ := pr
  dsimp only at hc1 hbad
  cases p3 with
  | true =>
    have HR9 : Hid (rg = ([], 27)) := by show _ = _; rw [HRGD.out]; unfold Wv.runG; rw [if_pos hbad.out.symm]
    go_wp2_with fail
    (with_reducible refine (hc1.out).mono ?_)
    rintro _ w2 ⟨rfl, u2⟩
    have U2 := Lib.hid (HND.out.trans u2)
    clear u2
    go_wp2_with fail
    refine bodyPost_ret (run_results _ _) rfl ?_
    exact ⟨_, by rw [HR9.out]; rfl, by rw [HR9.out]; exact World.ownsRow_nil _ _ _ _, HN.out.trans U2.out⟩
  | false =>
  have HR9 : Hid (rg = Wv.runL f quota holds ws (Wv.none_ f) []) := by show _ = _; rw [HRGD.out]; unfold Wv.runG; rw [← hbad.out]; rfl
  clear hbad
  go_wp2_with fail
  (with_reducible refine (hc1.out).mono ?_)
  rintro _ w2 ⟨rfl, u2⟩
  have HD2 := Lib.hid (HD0.out.upd u2 (fun e => e))
  have HU2 := Lib.hid (HND.out.trans u2)
  clear u2 hc1 x0 x1 x2 HD0 HND
  go_wp2_with fail
  go_loopw [16, 42] (fun mv iv wr => ∃ (n : Nat) (done : List Bool) (mo : List Int), n ≤ ws.length ∧ iv = .int .i64 (n : Int) ∧ Hid (rg = Wv.runL f quota holds (ws.drop n) done mo) ∧ Hid (done.length = rn ∧ mo.length = n ∧ ∀ x ∈ mo, 0 ≤ x ∧ x ≤ 1073741824 + n) ∧ Hid (DoneAt wr W.heap.size done) ∧ Hid (wr.ownsRow (W.heap.size + 1) 3 1 mv mo.length (mo.map (Value.int .i64))) ∧ Hid (Nw W wr)) (fun mv iv _ => ws.length - (intOf iv).toNat)
  case atStart => exact ⟨0, Wv.none_ f, [], Nat.zero_le _, rfl, HR9, ⟨by unfold Wv.none_; rw [List.length_replicate, HRN.out], rfl, fun x hx => by cases hx⟩, HD2, World.ownsRow_nil _ _ _ _, HU2⟩
  case round =>
    obtain ⟨n, done, mo, hn, rfl, HR, HM, HDN, HO, HU⟩ := hrel
    obtain ⟨moa, moc, rfl⟩ := own_slW HO.out
    by_cases hlt : n < ws.length
    · have hlt1 : (n : Int) < ws.length := by omega
      have hn9 : (n : Int) ≤ 100000 := by omega
      have hn0 : decide ((n : Int) < 0) = false := decide_eq_false (by omega)
      rcases HA.out with hnil | ⟨b, off, rfl, hb, hcell⟩
      · rw [hnil] at hlt; simp at hlt
      obtain ⟨ma, mc, q0, q1, hmi, hml⟩ := hcell n hlt
      have d0 := nw_cellF HU.out q0
      have d1 := nw_cellF HU.out q1
      obtain ⟨hm5, hwok⟩ := HMS.out ws[n] (List.getElem_mem hlt)
      have hwp := Wv.waveOk_parts hwok
      have hrr := HR.out
      rw [List.drop_eq_getElem_cons hlt] at hrr
      clear hcell q0 q1 hml hwok
      generalize ws[n] = wv at *
      obtain ⟨ms, af⟩ := wv
      dsimp only at *
      have HMI := Lib.hid hmi
      have HWP := Lib.hid hwp.2.2
      have haf0 := hwp.1
      have haf1 := hwp.2.1
      have hmsl : (ms.length : Int) ≤ 100000 := by omega
      obtain ⟨now, hnow⟩ : ∃ x, x = Wv.nowOf ⟨ms, af⟩ mo := ⟨_, rfl⟩
      have hstep : Wv.runL f quota holds (⟨ms, af⟩ :: ws.drop (n + 1)) done mo = if quota < ms.length then (mo, 32) else if ms.any (fun m => Wv.held holds (Wv.run f m.toNat) now) then (mo, 31) else if (Wv.firstBad f (Wv.setAll done ms)).isSome then (mo, 27) else Wv.runL f quota holds (ws.drop (n + 1)) (Wv.setAll done ms) (mo ++ [now]) := by rw [hnow]; rfl
      rw [hstep] at hrr
      have HRR := Lib.hid hrr
      have HNOW : Hid (now = Wv.nowOf ⟨ms, af⟩ mo) := hnow
      have HNB : Hid (0 ≤ now ∧ now ≤ 1073741824 + (n + 1 : Nat)) := by
        show _ ∧ _
        rw [hnow]
        cases hmn : n with
        | zero =>
          have : mo = [] := List.eq_nil_of_length_eq_zero (by have := HM.out.2.1; omega)
          rw [this, Wv.nowOf_none]
          exact ⟨haf0, by show af ≤ _; omega⟩
        | succ k =>
          have hk : mo.length = k + 1 := by have := HM.out.2.1; omega
          rw [Wv.nowOf_some _ hk]
          have := HM.out.2.2 (mo.getD k 0) (by rw [getD_of (by omega : k < mo.length)]; exact List.getElem_mem _)
          show 0 ≤ max af _ ∧ max af _ ≤ _
          omega
      clear hstep hrr hmi hwp hnow HR
      have HN1 := nw_alloc wr (.cells #[.slice ma ms.length mc, .int .i64 af] tWv)
      have HB1 := heap_new wr (.cells #[.slice ma ms.length mc, .int .i64 af] tWv)
      obtain ⟨wo, hwo⟩ : ∃ z, z = wr.alloc (.cells #[.slice ma ms.length mc, .int .i64 af] tWv) := ⟨_, rfl⟩
      rw [← hwo] at HN1 HB1
      have HWO := Lib.hid hwo
      obtain ⟨P, hP⟩ : ∃ P, P = wr.heap.size := ⟨_, rfl⟩
      rw [← hP] at HB1
      have HDL := Lib.hid HDN.out.lt
      have HPP : Hid (W.heap.size < P) := by have := HDL.out; show _ < _; omega
      have HXP : Hid (∀ y, Upd (fun k => k = W.heap.size) wo y → y.cell? ⟨P, 0, none⟩ = some (.slice ma ms.length mc) ∧ y.cell? ⟨P, 1, none⟩ = some (.int .i64 af)) := fun y u => by
        have hk := u.keep HB1 (fun e => by have := HPP.out; omega)
        exact ⟨by rw [cells_cell hk]; rfl, by rw [cells_cell hk]; rfl⟩
      have HUO := Lib.hid (HU.out.trans HN1)
      have HDO := Lib.hid (HDN.out.upd HN1 (fun e => e))
      have HOO : Hid (wo.ownsRow (W.heap.size + 1) 3 1 (.slice moa mo.length moc) mo.length (mo.map (Value.int .i64))) := owns_upd' HO.out HN1 (fun k _ e => e)
      have HUW : Hid (∀ y, Upd (fun k => k = W.heap.size) wo y → Nw W y) := fun y u => HUO.out.trans' u (fun j hj e => by omega)
      obtain ⟨y0, y1⟩ := HXP.out wo (Upd.refl _ _)
      clear hwo HN1 HB1 HDN HO
      go_upto_region 9 with fail
      rw [← HWO.out, ← hP]
      clear HWO hP d0 d1
      go_upto_if 50 with fail
      go_cut [19] from 51 to 58 (fun c wx => c = .int .i64 now ∧ wx = wo)
      case first =>
        by_cases hn1 : n = 0
        · subst hn1
          have : mo = [] := List.eq_nil_of_length_eq_zero HM.out.2.1
          subst this
          have e9 : Hid (now = af) := by show _ = _; rw [HNOW.out]; rfl
          go_wp2_with fail
          go_meet
          exact ⟨by rw [e9.out], rfl⟩
        · obtain ⟨k, rfl⟩ : ∃ k, n = k + 1 := ⟨n - 1, by omega⟩
          have hk : mo.length = k + 1 := HM.out.2.1
          have e9 : Hid (now = max af (mo.getD k 0 + 1)) := by show _ = _; rw [HNOW.out, Wv.nowOf_some _ hk]
          have hmb := HM.out.2.2 (mo.getD k 0) (by rw [getD_of (by omega : k < mo.length)]; exact List.getElem_mem _)
          have hcc : ∃ gb, moa = some ⟨gb, 0, none⟩ ∧ wo.cell? ⟨gb, k, none⟩ = some (.int .i64 (mo.getD k 0)) := by
            rcases HOO.out.2 with ⟨e1, e2⟩ | ⟨gb, cap, cur, e1, hb, hg, h4, h5, h6, h7⟩
            · rw [hk] at e2; cases e2
            · injection e1 with e3 e4 e5
              refine ⟨gb, e3, ?_⟩
              rw [cells_cell hg]
              have := congrArg (fun (l : List Value) => l[k]?) h7
              rw [List.getElem?_take, if_pos (by omega), List.getElem?_map, List.getElem?_eq_getElem (by omega : k < mo.length)] at this
              rw [getD_of (by omega : k < mo.length)]
              simpa using this
          obtain ⟨gb, rfl, cc⟩ := hcc
          have hk1 : (0 : Int) < ((k + 1 : Nat) : Int) := by omega
          have hkl : (k : Int) < (mo.length : Int) := by omega
          have hk0 : decide ((k : Int) < 0) = false := decide_eq_false (by omega)
          generalize mo.getD k 0 = x at *
          have hx0 : 0 ≤ x := hmb.1
          have hx1 : x ≤ 1073841825 := by have := hmb.2; omega
          have hk9 : (k : Int) ≤ 100000 := by omega
          clear hk hmb haf0 haf1 hn9 hn0 hlt1 hlt hn1 hn
          by_cases hmx : af < x + 1
          · go_wp2_with fail
            go_meet
            exact ⟨by (rw [e9.out]) <;> (congr 1; omega), rfl⟩
          · go_wp2_with fail
            go_meet
            exact ⟨by (rw [e9.out]) <;> (congr 1; omega), rfl⟩
      case rest =>
        obtain ⟨rfl, rfl⟩ := hcut
        by_cases hq : quota < (ms.length : Int)
        · have HR1 : Hid (rg = (mo, 32)) := by show _ = _; rw [HRR.out, if_pos hq]
          go_wp2_with fail
          refine bodyPost_ret (run_results _ _) rfl ?_
          exact ⟨_, by rw [HR1.out]; rfl, by rw [HR1.out]; exact owns_base HOO.out (by have := HGB.out; omega), HN.out.trans HUO.out⟩
        have HR1 : Hid (rg = if ms.any (fun m => Wv.held holds (Wv.run f m.toNat) now) then (mo, 31) else if (Wv.firstBad f (Wv.setAll done ms)).isSome then (mo, 27) else Wv.runL f quota holds (ws.drop (n + 1)) (Wv.setAll done ms) (mo ++ [now])) := by show _ = _; rw [HRR.out, if_neg hq]
        have HDA : Hid (DoneAt wc W.heap.size (Wv.setAll done (ms.take 0))) := HDO.out
        clear haf0 haf1 HRR
        go_wp2_with fail
        clear y0 y1
        go_loopw [68] (fun iv wr => ∃ i : Nat, i ≤ ms.length ∧ iv = .int .i64 (i : Int) ∧ Hid (∀ j (hj : j < ms.length), j < i → Wv.held holds (Wv.run f ms[j].toNat) now = false) ∧ Hid (DoneAt wr W.heap.size (Wv.setAll done (ms.take i))) ∧ Hid (Upd (fun k => k = W.heap.size) wc wr)) (fun iv _ => ms.length - (intOf iv).toNat)
        case atStart => exact ⟨0, Nat.zero_le _, rfl, (fun j hj h => by omega), HDA.out, Upd.refl _ _⟩
        case round =>
          obtain ⟨i, hi, rfl, HNH, HDI, HUI⟩ := hrel
          obtain ⟨y0, y1⟩ := HXP.out wr HUI.out
          have HUI2 := Lib.hid (HUW.out wr HUI.out)
          obtain ⟨x0, x1, x2⟩ := HX.out wr HUI2.out
          by_cases hil : i < ms.length
          · have hil1 : (i : Int) < ms.length := by omega
            have hi9 : (i : Int) ≤ 100000 := by omega
            have hi0 : decide ((i : Int) < 0) = false := decide_eq_false (by omega)
            rcases HMI.out with hnil | ⟨b2, o2, rfl, hb2, hc2⟩
            · rw [hnil] at hil; simp at hil
            have z0 := nw_cellF (HUI2.out) (hc2 i hil)
            have hin := HWP.out ms[i] (List.getElem_mem hil)
            obtain ⟨m, hm⟩ : ∃ m : Nat, ms[i] = (m : Int) := ⟨ms[i].toNat, by omega⟩
            have HST := Lib.hid (Wv.setAll_take (done := done) hil)
            have HSL : Hid ((Wv.setAll done (ms.take i)).length = rn) := by show _ = _; rw [Wv.setAll_length]; exact HM.out.1
            have HHY : Hid (Wv.held holds (Wv.run f m) now = true → ms.any (fun m => Wv.held holds (Wv.run f m.toNat) now) = true) := fun e => Wv.any_yes hil (by rw [hm, Int.toNat_natCast]; exact e)
            have HHN : Hid (Wv.held holds (Wv.run f m) now = false → ∀ j (hj : j < ms.length), j < i + 1 → Wv.held holds (Wv.run f ms[j].toNat) now = false) := fun e j hj h => by
              by_cases ej : j = i
              · subst ej; rw [hm, Int.toNat_natCast]; exact e
              · exact HNH.out j hj (by omega)
            rw [hm] at z0 HST
            rw [hm] at hin
            have hmr : m < rn := by omega
            have hmr1 : (m : Int) < (rn : Int) := by omega
            have hm0 : decide ((m : Int) < 0) = false := decide_eq_false (by omega)
            have hm9 : (m : Int) ≤ 400 := by omega
            obtain ⟨rb, ro, rfl, z1, hr8⟩ := HRL.out wr HUI2.out m hmr
            have HHD := Lib.hid (Wv.held_def holds (Wv.run f m) now)
            have hcl := Lib.hid (hold_c ha hc holds (Wv.run f m) wr (IC.nw HHC.out HUI2.out) (by omega))
            obtain ⟨x9, c9⟩ : ∃ x, wr.cell? ⟨W.heap.size, m, none⟩ = some (.bool x) := ⟨_, HDI.out.cell (by rw [HSL.out]; exact hmr)⟩
            have f9 : wr.frozen? ⟨W.heap.size, m, none⟩ = false := HDI.out.frozen m
            have HS9 : Hid (DoneAt (wr.setCell ⟨W.heap.size, m, none⟩ (.bool true)) W.heap.size (Wv.setAll done (ms.take (i + 1)))) := by
              show DoneAt _ _ _
              rw [HST.out, Int.toNat_natCast]
              exact HDI.out.set m true
            have HU9 : Hid (Upd (fun k => k = W.heap.size) wc (wr.setCell ⟨W.heap.size, m, none⟩ (.bool true))) := Upd.set1 HUI.out HGB.out.1 m (.bool true)
            clear hc2 hm hin HST HSL
            generalize Wv.run f m = s at *
            have hs9 : (s : Int) < 8 := by omega
            have hs0 : decide ((s : Int) < 0) = false := decide_eq_false (by omega)
            generalize holds.getD s 0 = hv at *
            by_cases hsl : s < holds.length
            · rw [decide_eq_true hsl] at hcl HHD
              by_cases hnh : now < hv
              · have HR2 : Hid (rg = (mo, 31)) := by show _ = _; rw [HR1.out, if_pos (HHY.out (by rw [HHD.out, decide_eq_true hnh]; rfl))]
                clear HHY HHN
                go_wp2_with fail
                (with_reducible refine (hcl.out).mono ?_)
                rintro _ _ ⟨rfl, rfl⟩
                go_wp2_with fail
                refine bodyPost_ret (run_results _ _) rfl ?_
                exact ⟨_, by rw [HR2.out]; rfl, by rw [HR2.out]; exact owns_base (owns_upd' HOO.out HUI.out (fun k hk e => by have := (own_block HOO.out hk).1; omega)) (by have := HGB.out; omega), HN.out.trans HUI2.out⟩
              · have HH2 := Lib.hid (HHN.out (by rw [HHD.out, decide_eq_false hnh]; rfl))
                clear HHY HHN
                go_wp2_with fail
                (with_reducible refine (hcl.out).mono ?_)
                rintro _ _ ⟨rfl, rfl⟩
                go_wp2_with fail
                go_roundw
                case rel => exact ⟨i + 1, by omega, by go_num, HH2.out, HS9.out, HU9.out⟩
                case measure => simp [intOf]; omega
            · rw [decide_eq_false hsl] at hcl HHD
              have HH2 := Lib.hid (HHN.out (by rw [HHD.out]; rfl))
              clear HHY HHN
              go_wp2_with fail
              (with_reducible refine (hcl.out).mono ?_)
              rintro _ _ ⟨rfl, rfl⟩
              go_wp2_with fail
              go_roundw
              case rel => exact ⟨i + 1, by omega, by go_num, HH2.out, HS9.out, HU9.out⟩
              case measure => simp [intOf]; omega
          · obtain rfl : i = ms.length := by omega
            have HDI2 : Hid (DoneAt wr W.heap.size (Wv.setAll done ms)) := by have := HDI.out; rw [List.take_length] at this; exact this
            have HR2 : Hid (rg = if (Wv.firstBad f (Wv.setAll done ms)).isSome then (mo, 27) else Wv.runL f quota holds (ws.drop (n + 1)) (Wv.setAll done ms) (mo ++ [now])) := by
              show _ = _
              rw [HR1.out, Wv.any_no rfl HNH.out]; rfl
            have HDNL : Hid ((Wv.setAll done ms).length = rn) := by show _ = _; rw [Wv.setAll_length]; exact HM.out.1
            have HO5 : Hid (wr.ownsRow (W.heap.size + 1) 3 1 (.slice moa mo.length moc) mo.length (mo.map (Value.int .i64))) := owns_upd' HOO.out HUI.out (fun k hk e => by have := (own_block HOO.out hk).1; omega)
            obtain ⟨pr, hpr⟩ : ∃ p, p = Wv.pairOf (Wv.firstBad f (Wv.setAll done ms)) := ⟨_, rfl⟩
            have hc1 := Lib.hid (HFS.out wr (Wv.setAll done ms) HUI2.out HDI2.out HDNL.out pr hpr)
            have hbad : Hid (pr.2.2 = (Wv.firstBad f (Wv.setAll done ms)).isSome) := by show _ = _; rw [hpr, Wv.pairOf_bad]
            clear hpr HR1 HNH
            obtain ⟨p4, p5, p6⟩ := pr
            dsimp only at hc1 hbad
            cases p6 with
            | true =>
              have HR3 : Hid (rg = (mo, 27)) := by show _ = _; rw [HR2.out, ← hbad.out]; rfl
              go_wp2_with fail
              (with_reducible refine (hc1.out).mono ?_)
              rintro _ w5 ⟨rfl, u5⟩
              have U5 := Lib.hid (HUI2.out.trans u5)
              have HO6 := Lib.hid (owns_upd' HO5.out u5 (fun k _ e => e))
              clear u5
              go_wp2_with fail
              refine bodyPost_ret (run_results _ _) rfl ?_
              exact ⟨_, by rw [HR3.out]; rfl, by rw [HR3.out]; exact owns_base HO6.out (by have := HGB.out; omega), HN.out.trans U5.out⟩
            | false =>
              have HR3 : Hid (rg = Wv.runL f quota holds (ws.drop (n + 1)) (Wv.setAll done ms) (mo ++ [now])) := by show _ = _; rw [HR2.out, ← hbad.out]; rfl
              go_wp2_with fail
              (with_reducible refine (hc1.out).mono ?_)
              rintro _ w5 ⟨rfl, u5⟩
              have U5 := Lib.hid (HUI2.out.trans u5)
              have HO6 := Lib.hid (owns_upd' HO5.out u5 (fun k _ e => e))
              have HD6 := Lib.hid (HDI2.out.upd u5 (fun e => e))
              have hz : W.heap.size + 1 ≤ w5.heap.size := by have := HD6.out.lt; omega
              have hg1 : nG ≤ W.heap.size + 1 := by have := HGB.out; omega
              have hmo9 : mo.length ≤ 100000 := by have := HM.out.2.1; omega
              clear u5
              go_wp2_with (at_builtin; refine wpList_appL rfl _ _ 23 rfl (W.heap.size + 1) 3 _ 1 8 Tryz.underlying23 infoIntW rfl (by decide) _ _ _ rfl HO6.out [.int .i64 now] rfl rfl ?c1 ?c2 ?c3 hz hg1 ?_)
              case c1 => intro u hu; rw [List.mem_singleton.1 hu]; rfl
              case c2 => unfold maxLen; omega
              case c3 => omega
              intro v' w9 hown9 u9 hob
              have hfin : Hid (w9.ownsRow (W.heap.size + 1) 3 1 v' (mo ++ [now]).length ((mo ++ [now]).map (Value.int .i64))) := by
                show w9.ownsRow _ _ _ _ _ _
                rw [List.length_append, List.length_singleton, List.map_append]
                exact hown9
              have hkb : ∀ k, (Value.slice moa mo.length moc).ownBlock = some k → W.heap.size + 1 ≤ k := fun k hk => (own_block HO6.out hk).1
              have HD9 := Lib.hid (HD6.out.upd u9 (fun e => by have := hkb _ e; omega))
              have HU9 := Lib.hid (U5.out.trans' u9 (fun j hj e => by have := hkb _ e; omega))
              have HM9 : Hid ((Wv.setAll done ms).length = rn ∧ (mo ++ [now]).length = n + 1 ∧ ∀ x ∈ mo ++ [now], 0 ≤ x ∧ x ≤ 1073741824 + (n + 1 : Nat)) := ⟨HDNL.out, by rw [List.length_append, List.length_singleton, HM.out.2.1], fun x hx => by
                rcases List.mem_append.1 hx with h | h
                · have := HM.out.2.2 x h; omega
                · rw [List.mem_singleton.1 h]; exact HNB.out⟩
              obtain ⟨a9, cap9, rfl⟩ := own_slW hfin.out
              clear hown9 u9 hob hkb
              go_wp2_with fail
              go_roundw
              case rel => exact ⟨n + 1, _, _, by omega, by go_num, HR3, HM9, HD9, hfin, HU9⟩
              case measure => simp [intOf]; omega
    · obtain rfl : n = ws.length := by omega
      have HR1 : Hid (rg = (mo, 0)) := by show _ = _; rw [HR.out, List.drop_length]; rfl
      have hlt1 : ¬ ((ws.length : Nat) : Int) < ws.length := by omega
      go_wp2_with fail
      refine bodyPost_ret (run_results _ _) rfl ?_
      exact ⟨_, by rw [HR1.out]; rfl, by rw [HR1.out]; exact owns_base HO.out (by have := HGB.out; omega), HN.out.trans HU.out⟩
end Go.Proofs.YtjlgmoemnhmgmaaGreatDoor
namespace Go.Proofs.YtjlgmoemnhmgmaaGreatDoor
open Go.RowKit
set_option linter.unusedVariables false
set_option linter.unusedSimpArgs false
attribute [local irreducible] Calls
open Wv (Svc FL svcOk sendsOk inR)
theorem Run_results (tmps : Array Value) (w : World) : (results Tryz.f12 tmps).run Tryz.prog w = .ok (.tuple #[tmps.getD 8 undef, tmps.getD 9 undef]) w := by
  simp [results, Tryz.results12, go_sem]
theorem Wv.formedW_waves {f : FL} {ws : List Wv.Wave} (h : Wv.formedW f ws = true) : ∀ x ∈ ws, Wv.waveOk f.runs.length x = true := by
  unfold Wv.formedW at h
  rw [Bool.and_eq_true] at h
  exact List.all_eq_true.1 h.1
set_option maxHeartbeats 8000000 in
set_option maxRecDepth 100000 in
theorem Run_c (oa na ra wa ha : Option Addr) (oc nc rc wvc hc : Nat) (f : FL) (ws : List Wv.Wave) (quota : Int) (holds : List Int) (w : World) (g : Gm w) (h : FlAt w oa na ra oc nc f) (hs : Sm f)
    (hws : WvC w wa ws) (hwl : ws.length ≤ 100000) (hms : ∀ x ∈ ws, x.ms.length ≤ 100000) (hhc : IC w ha holds) (hhl : holds.length ≤ 100000) :
    Calls Tryz.prog 12 #[.agg (flV oa na ra oc nc rc f), .slice wa ws.length wvc, .int .i64 quota, .slice ha holds.length hc] w (RunD w (Wv.runF f ws quota holds)) := by
  unfold flV
  have n1 := nw_alloc w (.cells #[.slice oa f.old.length oc, .slice na f.new.length nc, .slice ra f.runs.length rc] tFl)
  have b1 := heap_new w (.cells #[.slice oa f.old.length oc, .slice na f.new.length nc, .slice ra f.runs.length rc] tFl)
  obtain ⟨W, hW⟩ : ∃ z, z = w.alloc (.cells #[.slice oa f.old.length oc, .slice na f.new.length nc, .slice ra f.runs.length rc] tFl) := ⟨_, rfl⟩
  rw [← hW] at n1 b1
  have HW := Lib.hid hW
  have HN := Lib.hid n1
  have HX : Hid (∀ y, Nw W y → y.cell? ⟨w.heap.size, 0, none⟩ = some (.slice oa f.old.length oc) ∧ y.cell? ⟨w.heap.size, 1, none⟩ = some (.slice na f.new.length nc) ∧ y.cell? ⟨w.heap.size, 2, none⟩ = some (.slice ra f.runs.length rc)) := fun y u => ⟨by rw [cells_cell (Nw.keep u b1)]; rfl, by rw [cells_cell (Nw.keep u b1)]; rfl, by rw [cells_cell (Nw.keep u b1)]; rfl⟩
  have HF := Lib.hid (h.nw n1)
  have HG := Lib.hid (g.upd n1)
  have hr1 := Lib.hid (wvRight_c oa na ra oc nc rc f W (g.upd n1) (h.nw n1) hs.o hs.n hs.r hs.so hs.sn)
  have HFW : Hid (∀ y, Nw W y → Calls Tryz.prog 34 #[.agg #[.slice oa f.old.length oc, .slice na f.new.length nc, .slice ra f.runs.length rc], .slice wa ws.length wvc] y fun e w' => e = .returned (.bool (Wv.formedW f ws)) ∧ Nw y w') := fun y u => formedWaves_c oa na ra wa oc nc rc wvc f ws y (g.upd (n1.trans u)) hs.r (WvC.nw hws (n1.trans u)) hwl hms
  obtain ⟨rg, hrg⟩ : ∃ r, r = Wv.runF f ws quota holds := ⟨_, rfl⟩
  rw [← hrg]
  have HRG0 : Hid (rg = if Wv.right f = true ∧ 1 ≤ quota ∧ Wv.formedW f ws = true then Wv.runG f ws quota holds else ([], 1)) := hrg
  have HWS := Lib.hid (WvC.nw hws n1)
  have HHC := Lib.hid (IC.nw hhc n1)
  have HMS := Lib.hid hms
  have HSM := Lib.hid hs
  obtain ⟨x0, x1, x2⟩ := HX.out W (Upd.refl _ _)
  unfold flV at hr1
  clear n1 b1 hW h g hs hrg hws hhc hms
  go_enter Tryz.func12, Tryz.ntmps12
  go_upto_region 1 with fail
  rw [← HW.out]
  clear HW
  go_wp2_with fail
  cases hR : Wv.right f with
  | false =>
    rw [hR] at hr1
    have e9 : Hid (rg = ([], 1)) := by show _ = _; rw [HRG0.out, hR]; rfl
    clear hR
    (with_reducible refine (hr1.out).mono ?_)
    rintro _ w2 ⟨rfl, u2⟩
    have U2 := Lib.hid (HN.out.trans u2)
    clear u2
    go_wp2_with fail
    refine bodyPost_ret (Run_results _ _) rfl ?_
    exact ⟨_, by rw [e9.out]; rfl, by rw [e9.out]; exact World.ownsRow_nil _ _ _ _, U2.out⟩
  | true =>
  rw [hR] at hr1
  have HRG := Lib.hid (Wv.rg_of hR)
  have HRG1 : Hid (rg = if 1 ≤ quota ∧ Wv.formedW f ws = true then Wv.runG f ws quota holds else ([], 1)) := by
    show _ = _; rw [HRG0.out, hR]; by_cases h : 1 ≤ quota ∧ Wv.formedW f ws = true
    · rw [if_pos ⟨rfl, h⟩, if_pos h]
    · rw [if_neg (fun e => h e.2), if_neg h]
  clear hR HRG0
  by_cases hq : quota < 1
  · have e9 : Hid (rg = ([], 1)) := by show _ = _; rw [HRG1.out, if_neg (fun e => by omega)]
    (with_reducible refine (hr1.out).mono ?_)
    rintro _ w2 ⟨rfl, u2⟩
    have U2 := Lib.hid (HN.out.trans u2)
    clear u2
    go_wp2_with fail
    refine bodyPost_ret (Run_results _ _) rfl ?_
    exact ⟨_, by rw [e9.out]; rfl, by rw [e9.out]; exact World.ownsRow_nil _ _ _ _, U2.out⟩
  (with_reducible refine (hr1.out).mono ?_)
  rintro _ w2 ⟨rfl, u2⟩
  have U2 := Lib.hid u2
  have hfw := Lib.hid (HFW.out w2 u2)
  clear x0 x1 x2
  obtain ⟨x0, x1, x2⟩ := HX.out w2 u2
  clear u2 HFW hr1
  cases hfm : Wv.formedW f ws with
  | false =>
    rw [hfm] at hfw
    have e9 : Hid (rg = ([], 1)) := by show _ = _; rw [HRG1.out, if_neg (fun e => by rw [hfm] at e; cases e.2)]
    clear hfm
    go_wp2_with fail
    (with_reducible refine (hfw.out).mono ?_)
    rintro _ w3 ⟨rfl, u3⟩
    have U3 := Lib.hid (HN.out.trans (U2.out.trans u3))
    clear u3
    go_wp2_with fail
    refine bodyPost_ret (Run_results _ _) rfl ?_
    exact ⟨_, by rw [e9.out]; rfl, by rw [e9.out]; exact World.ownsRow_nil _ _ _ _, U3.out⟩
  | true =>
  rw [hfm] at hfw
  have e9 : Hid (rg = Wv.runG f ws quota holds) := by show _ = _; rw [HRG1.out, if_pos ⟨by omega, hfm⟩]
  have HWO : Hid (∀ x ∈ ws, x.ms.length ≤ 100000 ∧ Wv.waveOk f.runs.length x = true) := fun x hx => ⟨HMS.out x hx, Wv.formedW_waves hfm x hx⟩
  clear hfm HRG1
  go_wp2_with fail
  (with_reducible refine (hfw.out).mono ?_)
  rintro _ w3 ⟨rfl, u3⟩
  have U3 := Lib.hid (U2.out.trans u3)
  have HTK : Hid (∀ y, Nw W y → Calls Tryz.prog 30 #[.agg #[.slice oa f.old.length oc, .slice na f.new.length nc, .slice ra f.runs.length rc]] y fun e w' => ∃ tb T, e = .returned (.pointer (some ⟨tb, 0, none⟩)) ∧ Hid (TabAt w' tb T ∧ TabOk f T ∧ y.heap.size ≤ tb ∧ Nw y w')) := fun y u => talks_c oa na ra oc nc rc f y (HG.out.upd u) (HF.out.nw u) HRG.out HSM.out.so HSM.out.sn
  have HRN : Hid (∀ y tb T, Nw W y → TabAt y tb T → TabOk f T → Calls Tryz.prog 35 #[.pointer (some ⟨tb, 0, none⟩), .agg #[.slice oa f.old.length oc, .slice na f.new.length nc, .slice ra f.runs.length rc], .slice wa ws.length wvc, .int .i64 quota, .slice ha holds.length hc] y (RunD y rg)) := fun y tb T u hT hok => by
    rw [e9.out]
    exact run_c tb T oa na ra wa ha oc nc rc wvc hc f ws quota holds y (HG.out.upd u).g.big (HF.out.nw u) HRG.out hT hok (WvC.nw HWS.out u) hwl HWO.out (IC.nw HHC.out u) hhl
  clear u3 x0 x1 x2 hfw
  go_upto_region 3 with fail
  have hd0 : Nw W w3.drew := U3.out.trans (Upd.refl _ w3).drew
  have HS0 := Lib.hid (HX.out _ hd0)
  refine wp_region_G (fun y => y.cell? ⟨w.heap.size, 0, none⟩ = some (.slice oa f.old.length oc) ∧ y.cell? ⟨w.heap.size, 1, none⟩ = some (.slice na f.new.length nc) ∧ y.cell? ⟨w.heap.size, 2, none⟩ = some (.slice ra f.runs.length rc)) 9 (by kernel_rfl) ?_
  refine wpAnyG_load (i := 0) (v := ?_) [] rfl (by kernel_rfl) (by kernel_rfl) (by kernel_rfl) (by kernel_rfl) (by kernel_rfl) (by kernel_rfl) (fun _ _ _ h => h) (by kernel_rfl) ?_ (fun _ => HS0.out) ?_
  rotate_left 1
  · (intro zz hS; obtain ⟨_, _, _⟩ := hS; go_simp; first | done | with_reducible rfl)
  (try simp only [Act.put, List.setIfInBounds_toArray, List.set_cons_zero, List.set_cons_succ])
  refine wpAnyG_load (i := 2) (v := ?_) [] rfl (by kernel_rfl) (by kernel_rfl) (by kernel_rfl) (by kernel_rfl) (by kernel_rfl) (by kernel_rfl) (fun _ _ _ h => h) (by kernel_rfl) ?_ (fun _ => HS0.out) ?_
  rotate_left 1
  · (intro zz hS; obtain ⟨_, _, _⟩ := hS; go_simp; first | done | with_reducible rfl)
  (try simp only [Act.put, List.setIfInBounds_toArray, List.set_cons_zero, List.set_cons_succ])
  refine wpAnyG_pure (i := 3) (v := ?_) rfl (by kernel_rfl) (by kernel_rfl) (by kernel_rfl) (by kernel_rfl) (by kernel_rfl) (fun _ _ _ h => h) (by kernel_rfl) ?_ (fun _ => HS0.out) ?_
  rotate_left 1
  · (intro zz; go_simp; first | done | with_reducible rfl)
  (try simp only [Act.put, List.setIfInBounds_toArray, List.set_cons_zero, List.set_cons_succ])
  refine wpAnyG_pure (i := 4) (v := ?_) rfl (by kernel_rfl) (by kernel_rfl) (by kernel_rfl) (by kernel_rfl) (by kernel_rfl) (fun _ _ _ h => h) (by kernel_rfl) ?_ (fun _ => HS0.out) ?_
  rotate_left 1
  · (intro zz; go_simp; first | done | with_reducible rfl)
  (try simp only [Act.put, List.setIfInBounds_toArray, List.set_cons_zero, List.set_cons_succ])
  refine wpAnyG_pure (i := 5) (v := ?_) rfl (by kernel_rfl) (by kernel_rfl) (by kernel_rfl) (by kernel_rfl) (by kernel_rfl) (fun _ _ _ h => h) (by kernel_rfl) ?_ (fun _ => HS0.out) ?_
  rotate_left 1
  · (intro zz; go_simp; first | done | with_reducible rfl)
  (try simp only [Act.put, List.setIfInBounds_toArray, List.set_cons_zero, List.set_cons_succ])
  refine wpAnyG_ready [1] (by kernel_rfl) (by simp) ?_
  refine AllG.cons rfl (fun K hK => ?_) AllG.nil
  have hCC := HTK.out w3.drew hd0
  go_simp
  (with_reducible refine (hCC).mono ?_)
  rintro _ w4 ⟨tb, T, rfl, HT⟩
  clear hCC
  have HU4 := Lib.hid (hd0.trans HT.out.2.2.2)
  refine hK.out _ _ (fun _ => HX.out _ HU4.out) ?_
  clear hK K
  (try simp only [Act.put, List.setIfInBounds_toArray, List.set_cons_zero, List.set_cons_succ])
  refine wpAnyG_ready [6] (by kernel_rfl) (by simp) ?_
  refine AllG.cons rfl (fun K hK => ?_) AllG.nil
  have hCC := HRN.out w4 tb T HU4.out HT.out.1 HT.out.2.1
  go_simp
  (with_reducible refine (hCC).mono ?_)
  rintro _ w5 ⟨v5, rfl, o5, u5⟩
  clear hCC
  obtain ⟨a5, c5, rfl⟩ := own_slW o5
  have HU5 := Lib.hid (HU4.out.trans u5)
  have HZ : Hid (w.heap.size ≤ w4.heap.size) := (HN.out.trans HU4.out).size
  have HO5 := Lib.hid (owns_base o5 HZ.out)
  refine hK.out _ _ (fun _ => HX.out _ HU5.out) ?_
  clear hK K
  (try simp only [Act.put, List.setIfInBounds_toArray, List.set_cons_zero, List.set_cons_succ])
  have HS1 := Lib.hid (HX.out _ HU5.out)
  refine wpAnyG_pure (i := 7) (v := ?_) rfl (by kernel_rfl) (by kernel_rfl) (by kernel_rfl) (by kernel_rfl) (by kernel_rfl) (fun _ _ _ h => h) (by kernel_rfl) ?_ (fun _ => HS1.out) ?_
  rotate_left 1
  · (intro zz; go_simp; first | done | with_reducible rfl)
  (try simp only [Act.put, List.setIfInBounds_toArray, List.set_cons_zero, List.set_cons_succ])
  refine wpAnyG_pure (i := 8) (v := ?_) rfl (by kernel_rfl) (by kernel_rfl) (by kernel_rfl) (by kernel_rfl) (by kernel_rfl) (fun _ _ _ h => h) (by kernel_rfl) ?_ (fun _ => HS1.out) ?_
  rotate_left 1
  · (intro zz; go_simp; first | done | with_reducible rfl)
  (try simp only [Act.put, List.setIfInBounds_toArray, List.set_cons_zero, List.set_cons_succ])
  refine wpAnyG_ready [9] (by kernel_rfl) (by simp) ?_
  refine AllG.cons rfl (fun K hK => ?_) AllG.nil
  go_simp
  refine hK.out _ _ (fun e => absurd (show true = false from e) (by decide)) ?_
  clear hK K
  (try simp only [Act.put, List.setIfInBounds_toArray, List.set_cons_zero, List.set_cons_succ])
  refine wpAnyG_ready [10] (by kernel_rfl) (by simp) ?_
  refine AllG.cons rfl (fun K hK => ?_) AllG.nil
  go_simp
  refine hK.out _ _ (fun e => absurd (show true = false from e) (by decide)) ?_
  clear hK K
  (try simp only [Act.put, List.setIfInBounds_toArray, List.set_cons_zero, List.set_cons_succ])
  refine wpAnyG_done (by kernel_rfl) ?_ _
  clear u5 o5
  go_wp2_with fail
  refine bodyPost_ret (Run_results _ _) rfl ?_
  exact ⟨_, rfl, HO5.out, HN.out.trans HU5.out⟩
end Go.Proofs.YtjlgmoemnhmgmaaGreatDoor
