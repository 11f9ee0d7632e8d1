/- fetch.Plan. The example of chapter 38, in plain words; a fetch on a calm disk. A range over a function whose iterator writes a block of its own (bt) and reads others (S) between two rounds: its contract, and the statement's law, at the wide fence. chunk.parts as an iterator. chunk.Of. small and cut of chapter 38; Ints. The reference's Text and Own. The reference's small functions of the chapters 4, 36, 38. within. The reference's Missing. The reference's Short. The reference's Plan. The reference's bytes, Right (chapter 4). The reference's Right (chapter 36), of a manifest that is right. The reference's disk (layer 2) in memory: a list of files, a list of pending sectors; get, Size, may, fits, pending. The reference's Put (layer 2): a slice of bytes that a conversion made grows, is written into, and turned to a string. The reference's disk (layer 2): set, add. -/
import Derived.Test.YtmlmdlbepppnlaaGreatDoorPkFTells1
import Derived.Test.YtmlmdlbepppnlaaGreatDoorPkFTells2
import Derived.Test.YtmlmdlbepppnlaaGreatDoorPkFTells0
import Derived.RangeFuncKeeps
import Derived.RangeFuncNested
import Derived.RangeFuncBound
import Derived.RangeFuncCalls
import Derived.RangeFuncLeaves
import Derived.Shelf.Abstract
import Derived.Shelf.RegionOpen
import Derived.WalkKit
import Derived.OwnWalkIn
import Derived.TacticsInMore
import Derived.LoopNIn
import Derived.LoopIn
import Derived.Maps.OwnIn
import Derived.ArgAppend
import Derived.Lib.ConvBytes
namespace Go.Proofs.YtmlmdlbepppnlaaGreatDoor
open Go.RowKit
set_option linter.unusedVariables false
set_option linter.unusedSimpArgs false
attribute [local irreducible] Calls

theorem madeI (n : Nat) : madeCells #[Value.int .i64 0] n = ((List.replicate n (0 : Int)).map intD).toArray := by
  apply Array.ext'
  apply List.ext_getElem?
  intro i
  simp only [madeCells, Array.toList_map, Array.toList_range, List.getElem?_map]
  by_cases h : i < n
  · simp [h, intD, Nat.mod_one]
  · simp [h]
theorem load_cell {w : World} {b : Nat} {L : List Int} (h : w.heap[b]? = some (.cells (L.map intD).toArray 3 (0, 0))) {k : Nat} (hk : k < L.length) : w.cell? ⟨b, k, none⟩ = some (.int .i64 (L.getD k 0)) := by
  rw [cells_cell h]
  simp [intD, hk]
theorem load_set {w : World} {b : Nat} {L : List Int} (h : w.heap[b]? = some (.cells (L.map intD).toArray 3 (0, 0))) (k : Nat) (x : Int) : (w.setCell ⟨b, k, none⟩ (.int .i64 x)).heap[b]? = some (.cells ((L.set k x).map intD).toArray 3 (0, 0)) := by
  rw [setCell_block h]
  congr 2
  apply Array.ext'
  simp [List.map_set, intD]
theorem plan_results (tmps : Array Value) (w : World) : (results Tryz.f7 tmps).run Tryz.prog w = .ok (.tuple #[tmps.getD 4 undef, tmps.getD 5 undef]) w := by
  simp [results, Tryz.results7, go_sem]
/-- What Plan returns. -/
def PlanD (w : World) (l : List Int) (ls : List (List Int)) (e : Ending) (w' : World) : Prop :=
  ∃ v', e = .returned (.tuple #[v', .int .i64 (Ft.plan l ls).2]) ∧ w'.ownsRow w.heap.size 3 1 v' (Ft.plan l ls).1.length ((Ft.plan l ls).1.map intD) ∧ Nw w w'
theorem plan_full {w w' : World} {l : List Int} {ls : List (List Int)} (h : 20 < ls.length ∨ 1000 < l.length) (u : Nw w w') : PlanD w l ls (.returned (.tuple #[.slice none 0 0, .int .i64 6])) w' := by
  have e : Ft.plan l ls = ([], 6) := by unfold Ft.plan; rw [if_pos h]
  exact ⟨.slice none 0 0, by rw [e], by rw [e]; exact World.ownsRow_nil _ _ _ _, u⟩
theorem plan_miss {w w' : World} {l : List Int} {ls : List (List Int)} (h : ¬ (20 < ls.length ∨ 1000 < l.length)) (hm : 0 < (Ft.miss l ls.flatten).length) (u : Nw w w') : PlanD w l ls (.returned (.tuple #[.slice none 0 0, .int .i64 33])) w' := by
  have e : Ft.plan l ls = ([], 33) := by unfold Ft.plan; rw [if_neg h, if_pos hm]
  exact ⟨.slice none 0 0, by rw [e], by rw [e]; exact World.ownsRow_nil _ _ _ _, u⟩
theorem plan_ok {w w' : World} {l : List Int} {ls : List (List Int)} (h : ¬ (20 < ls.length ∨ 1000 < l.length)) (hm : ¬ 0 < (Ft.miss l ls.flatten).length) {v : Value} {b : Nat} (hb : w.heap.size ≤ b) (o : w'.ownsRow b 3 1 v l.length ((Ft.runP ls l).2.map intD)) (u : Nw w w') : PlanD w l ls (.returned (.tuple #[v, .int .i64 0])) w' := by
  have e : Ft.plan l ls = ((Ft.runP ls l).2, 0) := by unfold Ft.plan; rw [if_neg h, if_neg hm]
  exact ⟨v, by rw [e], by rw [e, (Ft.runP_len ls l).2]; exact owns_base o hb, u⟩
theorem step_eq {ls : List (List Int)} {s : List Int × List Int} {p : Int} {bb : Nat} (h : Ft.best p s.1 ls ls.length = bb) : Ft.stepP ls s p = (s.1.set bb (s.1.getD bb 0 + 1), s.2 ++ [(bb : Int)]) := by
  unfold Ft.stepP; simp only [h, Int.toNat_natCast]
/-- The place of a mirror, after k rounds. -/
theorem best_next {C : List (Value × List Int)} {p : Int} {L : List Int} {k : Nat} (hk : k < C.length) :
    Ft.best p L (C.map (·.2)) (k + 1) = if (Ft.best p L (C.map (·.2)) k < 0 ∨ L.getD k 0 < L.getD (Ft.best p L (C.map (·.2)) k).toNat 0) ∧ p ∈ C[k].2 then (k : Int) else Ft.best p L (C.map (·.2)) k := by
  rw [Ft.best_succ]
  have : (C.map (·.2)).getD k [] = C[k].2 := by simp [hk]
  rw [this]
set_option maxHeartbeats 4000000 in
set_option maxRecDepth 100000 in
theorem plan_c (lo hi : Nat) (p z : Int) (cv : Value) (l : List Int) (v : Value) (C : List (Value × List Int)) (w : World) (g : Gl w) (hc : Sl lo hi w cv (l.map intD)) (hl : l.length ≤ 1000000) (h : RowsI w v C) (hC : C.length ≤ 1000000) (hT : totL C ≤ 1000000) (hE : ∀ c ∈ C, c.2.length ≤ 1000000) :
    Calls Tryz.prog 7 #[.agg #[.int .i64 p, .int .i64 z, cv], v] w (PlanD w l (C.map (·.2))) := by
  have hgb := g.big
  obtain ⟨a, cap, rfl, -, -⟩ := int_cells hc
  have n1 := nw_alloc w (.cells #[.int .i64 p, .int .i64 z, .slice a l.length cap] tManU)
  have b1 := heap_new w (.cells #[.int .i64 p, .int .i64 z, .slice a l.length cap] tManU)
  have HC := Lib.hid (int_cells (hc.nw n1))
  have HE := Lib.hid (fun c hc => And.intro (h.each c hc) (hE c hc))
  have HS := Lib.hid (short_c lo hi p z _ l v C _ (g.upd n1) (hc.nw n1) hl (h.nw n1) hC hT)
  have HCC := Lib.hid h.cells
  obtain ⟨av, cv2, rfl, -, -⟩ := h.cells
  have hl1 : (l.length : Int) ≤ 1000000 := by omega
  have hC1 : (C.length : Int) ≤ 1000000 := by omega
  have HU := Lib.hid n1
  have HB := Lib.hid (fun (y : World) (u : Nw (w.alloc (.cells #[.int .i64 p, .int .i64 z, .slice a l.length cap] tManU)) y) => (show y.cell? ⟨w.heap.size, 2, none⟩ = some (.slice a l.length cap) from by rw [cells_cell (Nw.keep u b1)]; rfl))
  have hll : (C.map (·.2)).length = C.length := List.length_map _
  have Hll := Lib.hid hll
  clear hc h n1 b1 hE hll
  by_cases hf : 20 < C.length ∨ 1000 < l.length
  · have hfin := Lib.hid (fun (y : World) (u : Nw w y) => plan_full (ls := C.map (·.2)) (by rw [Hll.out]; exact hf) u)
    by_cases h20 : 20 < C.length
    · have d1 : decide ((20 : Int) < C.length) = true := decide_eq_true (by omega)
      clear hf h20
      go_enter Tryz.func7, Tryz.ntmps7
      go_wp2_with fail
      (try simp only [Exit.inBlock, Exit.then])
      refine bodyPost_ret (plan_results _ _) rfl ?_
      exact hfin.out _ HU.out
    · have d1 : decide ((20 : Int) < C.length) = false := decide_eq_false (by omega)
      have d2 : decide ((1000 : Int) < l.length) = true := decide_eq_true (by omega)
      clear hf h20
      go_enter Tryz.func7, Tryz.ntmps7
      go_wp2_with fail
      (try simp only [Exit.inBlock, Exit.then])
      refine bodyPost_ret (plan_results _ _) rfl ?_
      exact hfin.out _ HU.out
  have d1 : decide ((20 : Int) < C.length) = false := decide_eq_false (by omega)
  have d2 : decide ((1000 : Int) < l.length) = false := decide_eq_false (by omega)
  have hC2 : (C.length : Int) ≤ 20 := by omega
  have hl2 : (l.length : Int) ≤ 1000 := by omega
  have Hf : Hid (¬ (20 < (C.map (·.2)).length ∨ 1000 < l.length)) := by rw [Hll.out]; exact hf
  clear hf
  by_cases hm : 0 < (Ft.miss l (C.map (·.2)).flatten).length
  · have hfin := Lib.hid (fun (y : World) (u : Nw w y) => plan_miss (l := l) (ls := C.map (·.2)) Hf.out hm u)
    have d3 : decide (0 < (Ft.miss l (C.map (·.2)).flatten).length) = true := decide_eq_true hm
    generalize (Ft.miss l (C.map (·.2)).flatten).length = ml at *
    clear hm
    go_enter Tryz.func7, Tryz.ntmps7
    go_wp2_with fail
    (with_reducible refine (HS.out).mono ?_)
    rintro _ w2 ⟨v2, rfl, o2, u2⟩
    obtain ⟨a2, c2, rfl⟩ := own_slG o2
    have HU2 := Lib.hid (HU.out.trans u2)
    clear o2 u2 HS
    go_wp2_with fail
    (try simp only [Exit.inBlock, Exit.then])
    refine bodyPost_ret (plan_results _ _) rfl ?_
    exact hfin.out _ HU2.out
  have d3 : decide (0 < (Ft.miss l (C.map (·.2)).flatten).length) = false := decide_eq_false hm
  have HPO := Lib.hid (fun (w' : World) (v : Value) (b : Nat) (hb : w.heap.size ≤ b) (o : w'.ownsRow b 3 1 v l.length ((Ft.runP (C.map (·.2)) l).2.map intD)) (u : Nw w w') => plan_ok (ls := C.map (·.2)) Hf.out hm hb o u)
  have hnil : Ft.miss l (C.map (·.2)).flatten = [] := List.length_eq_zero_iff.1 (by omega)
  have Hin := Lib.hid (Ft.miss_nil_iff.1 hnil)
  have hml0 : (Ft.miss l (C.map (·.2)).flatten).length = 0 := by omega
  clear hm hnil
  generalize (Ft.miss l (C.map (·.2)).flatten).length = ml at *
  go_enter Tryz.func7, Tryz.ntmps7
  go_wp2_with fail
  (with_reducible refine (HS.out).mono ?_)
  rintro _ w2 ⟨v2, rfl, o2, u2⟩
  obtain ⟨a2, c2, rfl⟩ := own_slG o2
  have HU2 := Lib.hid (HU.out.trans u2)
  have U2 := Lib.hid u2
  have k2 := HB.out w2 u2
  clear o2 u2 HS
  go_wp2_with (at_make; refine wpList_makeE rfl _ _ 26 3 _ 8 rfl Tryz.underlying26 infoIntU C.length rfl rfl ?m1 ?m2 ?_)
  case m1 => omega
  case m2 => omega
  intro w3 kb3 u3
  rw [madeI] at kb3
  have k3 : w3.cell? ⟨w.heap.size, 2, none⟩ = some (.slice a l.length cap) := HB.out w3 (U2.out.trans u3)
  have HU3 := Lib.hid (HU2.out.trans u3)
  have U3 := Lib.hid (U2.out.trans u3)
  have hz2 : w.heap.size + 1 ≤ w2.heap.size := by have := U2.out.size; simpa using this
  have hz3 : w2.heap.size < w3.heap.size := lt_of_block kb3
  have HL3 : Hid (w3.heap[w2.heap.size]? = some (.cells (((Ft.runP (C.map (·.2)) (l.take 0)).1.map intD).toArray) 3 (0, 0))) := by
    show _ = _
    have e : (Ft.runP (C.map (·.2)) (l.take 0)).1 = List.replicate C.length 0 := by unfold Ft.runP; rw [Hll.out]; rfl
    rw [e]; exact kb3
  clear kb3 u3 k2
  generalize hlb : w2.heap.size = lb at *
  go_wp2_with fail
  go_loopw [7, 35] (fun vo iv wr => ∃ n : Nat, n ≤ l.length ∧ iv = .int .i64 (n : Int) ∧ Hid (wr.ownsRow w3.heap.size 3 1 vo n ((Ft.runP (C.map (·.2)) (l.take n)).2.map intD)) ∧ Hid (wr.heap[lb]? = some (.cells (((Ft.runP (C.map (·.2)) (l.take n)).1.map intD).toArray) 3 (0, 0))) ∧ Hid (Nw (w.alloc (.cells #[.int .i64 p, .int .i64 z, .slice a l.length cap] tManU)) wr) ∧ Hid (w3.heap.size ≤ wr.heap.size)) (fun _ iv _ => l.length - (intOf iv).toNat)
  case atStart => exact ⟨0, Nat.zero_le _, rfl, World.ownsRow_nil _ _ _ _, HL3, U3, Nat.le_refl _⟩
  case round =>
    obtain ⟨n, hn, rfl, HO, HL, U, HZ⟩ := hrel
    obtain ⟨ao, co, rfl⟩ := own_slG HO.out
    by_cases hlt : n < l.length
    · rcases HC.out with ⟨_, _, e, _, hnil | ⟨b, off, e2, _, _, hcell⟩⟩
      · simp [hnil] at hlt
      injection e with e3 e4 e5
      subst e3 e5
      subst e2
      have c0 : wr.cell? ⟨b, off + n, none⟩ = some (.int .i64 l[n]) := later_cell ⟨wr, U.out⟩ (hcell n hlt)
      have hlt1 : (n : Int) < l.length := by omega
      have hrun := Ft.runP_snoc (C.map (·.2)) (l.take n) l[n]
      rw [← List.take_succ_eq_append_getElem hlt] at hrun
      have hbd := Ft.runP_bd (C.map (·.2)) (l.take n)
      have hln := (Ft.runP_len (C.map (·.2)) (l.take n)).1
      rw [Hll.out] at hln
      obtain ⟨i0, hi0, hp0⟩ := Ft.mem_flat (Hin.out l[n] (List.getElem_mem hlt))
      have hhit := Ft.best_hit (load := (Ft.runP (C.map (·.2)) (l.take n)).1) (C.map (·.2)).length ⟨i0, hi0, hp0⟩
      have hlo := Ft.best_lo l[n] (Ft.runP (C.map (·.2)) (l.take n)).1 (C.map (·.2))
      have HR := Lib.hid hrun
      have HH := Lib.hid hhit
      have HLo := Lib.hid hlo
      have HBd := Lib.hid hbd
      have Hln := Lib.hid hln
      clear hcell hrun hhit hlo hbd hln hp0 hi0
      generalize hLd : (Ft.runP (C.map (·.2)) (l.take n)).1 = Ld at *
      generalize l[n] = x at *
      have HLd := Lib.hid hLd
      clear hLd
      obtain ⟨wo, hwo⟩ : ∃ y, y = wr := ⟨_, rfl⟩
      subst hwo
      go_wp2_with fail
      go_loopw [10, 41] (fun bv iv wr => ∃ k : Nat, k ≤ C.length ∧ iv = .int .i64 (k : Int) ∧ bv = .int .i64 (Ft.best x Ld (C.map (·.2)) k) ∧ Hid (Nw wo wr)) (fun _ iv _ => C.length - (intOf iv).toNat)
      case atStart => exact ⟨0, Nat.zero_le _, rfl, rfl, Upd.refl _ _⟩
      case round =>
        obtain ⟨k, hk, rfl, rfl, UI⟩ := hrel
        by_cases hkl : k < C.length
        · rcases HCC.out with ⟨_, _, e, _, hnil | ⟨bv, ov, e2, _, hcell⟩⟩
          · simp [hnil] at hkl
          injection e with e3 e4 e5
          subst e3 e5
          subst e2
          have hkl1 : (k : Int) < C.length := by omega
          obtain ⟨⟨lo2, hi2, hs⟩, hEk⟩ := HE.out C[k] (List.getElem_mem hkl)
          have NW := Nw.trans HU.out (U.out.trans UI.out)
          have e0 : wr.cell? ⟨bv, ov + k, none⟩ = some C[k].1 := later_cell ⟨wr, NW⟩ (hcell k hkl)
          have HK := Lib.hid (fun (y : World) (u : Nw wr y) => contains_iN lo2 hi2 C[k].1 C[k].2 x y ((hs.nw NW).nw u) (Nat.le_trans hEk (by decide)))
          obtain ⟨ak, ck, hvk, -, -⟩ := int_cells hs
          have hkk : C[k].2.length ≤ 1000000 := hEk
          rw [hvk] at e0 HK
          have HN := Lib.hid (best_next (p := x) (L := Ld) hkl)
          have hb1 := HLo.out k
          have m1 := load_cell (Nw.keep UI.out HL.out) (k := k) (by rw [Hln.out]; exact hkl)
          clear hcell hs hvk NW hEk
          have HN2 : Hid (Ft.best x Ld (C.map (·.2)) (k + 1) = if (Ft.best x Ld (C.map (·.2)) k < 0 ∨ Ld.getD k 0 < Ld.getD (Ft.best x Ld (C.map (·.2)) k).toNat 0) ∧ decide (x ∈ C[k].2) = true then (k : Int) else Ft.best x Ld (C.map (·.2)) k) := by
            show _ = _
            rw [HN.out]
            simp only [decide_eq_true_eq]
          clear HN
          generalize C[k].2.length = Lk at *
          generalize decide (x ∈ C[k].2) = q at *
          have mB : Hid (∀ bb : Nat, bb < k → wr.cell? ⟨lb, bb, none⟩ = some (.int .i64 (Ld.getD bb 0))) := fun bb hbb => load_cell (Nw.keep UI.out HL.out) (k := bb) (by rw [Hln.out]; omega)
          generalize Ft.best x Ld (C.map (·.2)) k = b at *
          have m1' : ∀ i : Later wr, i.1.cell? ⟨lb, k, none⟩ = some (.int .i64 (Ld.getD k 0)) := fun i => later_cell i m1
          by_cases hb0 : b < 0
          · have d0 : decide (b < 0) = true := decide_eq_true hb0
            cases q with
            | true =>
              have hfin : Hid (Ft.best x Ld (C.map (·.2)) (k + 1) = (k : Int)) := by show _ = _; rw [HN2.out, if_pos ⟨Or.inl hb0, rfl⟩]
              clear HN2 hb0 mB
              go_wp2_with fail
              refine wp_region_nw (by kernel_rfl) (by kernel_rfl) ?_
              repeat (go_big_quiet_step ((go_at_call 34; exact later_call (HK.out _ (Later.nw _)))))
              refine wpQuiet_nil ?_
              intro w5 u5
              replace u5 := later_out u5
              go_wp2_with fail
              go_roundw
              case rel => exact ⟨k + 1, by omega, by go_num, by rw [hfin.out], UI.out.trans u5⟩
              case measure => simp [intOf]; omega
            | false =>
              have hfin : Hid (Ft.best x Ld (C.map (·.2)) (k + 1) = b) := by show _ = _; rw [HN2.out, if_neg (fun h => by cases h.2)]
              clear HN2 hb0 mB
              go_wp2_with fail
              refine wp_region_nw (by kernel_rfl) (by kernel_rfl) ?_
              repeat (go_big_quiet_step ((go_at_call 34; exact later_call (HK.out _ (Later.nw _)))))
              refine wpQuiet_nil ?_
              intro w5 u5
              replace u5 := later_out u5
              go_wp2_with fail
              go_roundw
              case rel => exact ⟨k + 1, by omega, by go_num, by rw [hfin.out], UI.out.trans u5⟩
              case measure => simp [intOf]; omega
          · have d0 : decide (b < 0) = false := decide_eq_false hb0
            obtain ⟨bb, rfl⟩ : ∃ bb : Nat, b = bb := ⟨b.toNat, by omega⟩
            have hbk : bb < k := by omega
            have m2 := mB.out bb hbk
            have m2' : ∀ i : Later wr, i.1.cell? ⟨lb, bb, none⟩ = some (.int .i64 (Ld.getD bb 0)) := fun i => later_cell i m2
            rw [Int.toNat_natCast] at HN2
            have hbC : (bb : Int) < C.length := by omega
            generalize Ld.getD bb 0 = y2 at *
            generalize Ld.getD k 0 = y1 at *
            by_cases hy : y1 < y2
            · have d1 : decide (y1 < y2) = true := decide_eq_true hy
              cases q with
              | true =>
                have hfin : Hid (Ft.best x Ld (C.map (·.2)) (k + 1) = (k : Int)) := by show _ = _; rw [HN2.out, if_pos ⟨Or.inr hy, rfl⟩]
                clear HN2 hb0 mB hy
                go_wp2_with fail
                refine wp_region_nw (by kernel_rfl) (by kernel_rfl) ?_
                repeat (go_big_quiet_step ((go_at_call 34; exact later_call (HK.out _ (Later.nw _)))))
                refine wpQuiet_nil ?_
                intro w5 u5
                replace u5 := later_out u5
                go_wp2_with fail
                go_roundw
                case rel => exact ⟨k + 1, by omega, by go_num, by rw [hfin.out], UI.out.trans u5⟩
                case measure => simp [intOf]; omega
              | false =>
                have hfin : Hid (Ft.best x Ld (C.map (·.2)) (k + 1) = (bb : Int)) := by show _ = _; rw [HN2.out, if_neg (fun h => by cases h.2)]
                clear HN2 hb0 mB hy
                go_wp2_with fail
                refine wp_region_nw (by kernel_rfl) (by kernel_rfl) ?_
                repeat (go_big_quiet_step ((go_at_call 34; exact later_call (HK.out _ (Later.nw _)))))
                refine wpQuiet_nil ?_
                intro w5 u5
                replace u5 := later_out u5
                go_wp2_with fail
                go_roundw
                case rel => exact ⟨k + 1, by omega, by go_num, by rw [hfin.out], UI.out.trans u5⟩
                case measure => simp [intOf]; omega
            · have d1 : decide (y1 < y2) = false := decide_eq_false hy
              have hfin : Hid (Ft.best x Ld (C.map (·.2)) (k + 1) = (bb : Int)) := by show _ = _; rw [HN2.out, if_neg (fun h => by rcases h.1 with h | h <;> omega)]
              clear HN2 hb0 mB hy HK
              go_wp2_with fail
              refine wp_region_nw (by kernel_rfl) (by kernel_rfl) ?_
              repeat (go_big_quiet_step ((fail)))
              refine wpQuiet_nil ?_
              intro w5 u5
              replace u5 := later_out u5
              go_wp2_with fail
              go_roundw
              case rel => exact ⟨k + 1, by omega, by go_num, by rw [hfin.out], UI.out.trans u5⟩
              case measure => simp [intOf]; omega
        · obtain rfl : k = C.length := by omega
          have hb := HH.out
          rw [Hll.out] at hb
          obtain ⟨bb, hbb⟩ : ∃ bb : Nat, Ft.best x Ld (C.map (·.2)) C.length = bb := ⟨_, (Int.toNat_of_nonneg hb.1).symm⟩
          have hbC : bb < C.length := by have := (HLo.out C.length).2; omega
          have hstep : Ft.runP (C.map (·.2)) (l.take (n + 1)) = (Ld.set bb (Ld.getD bb 0 + 1), (Ft.runP (C.map (·.2)) (l.take n)).2 ++ [(bb : Int)]) := by
            rw [HR.out, ← HLd.out]
            exact step_eq (by rw [HLd.out, Hll.out]; exact hbb)
          have hyb : 0 ≤ Ld.getD bb 0 ∧ Ld.getD bb 0 ≤ 1000 := by
            have hlt2 : bb < Ld.length := by rw [Hln.out]; exact hbC
            have := HBd.out (Ld.getD bb 0) (by rw [List.getD_eq_getElem?_getD, List.getElem?_eq_getElem hlt2]; exact List.getElem_mem hlt2)
            rw [List.length_take] at this
            omega
          have kb := Nw.keep UI.out HL.out
          have m2 := load_cell kb (k := bb) (by rw [Hln.out]; exact hbC)
          have f2 : wr.frozen? ⟨lb, bb, none⟩ = false := cells_frozen kb bb
          have kb2 := load_set kb bb (Ld.getD bb 0 + 1)
          have hz4 : w3.heap.size ≤ wr.heap.size := Nat.le_trans HZ.out UI.out.size
          have UW : Upd (fun k => k = lb) wr (wr.setCell ⟨lb, bb, none⟩ (.int .i64 (Ld.getD bb 0 + 1))) := (Upd.refl _ _).set1 (by omega) _ _
          have HO2 := Lib.hid (owns_upd' (owns_upd' HO.out UI.out (fun _ _ e => e)) UW (fun k hk e => by have := (HO.out.lt k hk).1; omega))
          have hz5 : w3.heap.size ≤ (wr.setCell ⟨lb, bb, none⟩ (.int .i64 (Ld.getD bb 0 + 1))).heap.size := Nat.le_trans hz4 UW.size
          have e1 := congrArg Prod.fst hstep
          have e2 := congrArg Prod.snd hstep
          have HS1 := Lib.hid e1
          have HS2 := Lib.hid e2
          have HKB := Lib.hid kb2
          have UW2 := Lib.hid UW
          have hbC1 : (bb : Int) < C.length := by omega
          clear hstep e1 e2 kb kb2 UW HR HH hb
          obtain ⟨hy1, hy2⟩ := hyb
          generalize Ld.getD bb 0 = y at *
          rw [hbb]
          have Hbb := Lib.hid hbb
          clear hbb
          go_wp2_with (at_builtin; refine hold_on ?_)
          intro _
          refine (wpList_appL rfl _ _ 26 rfl w3.heap.size 3 _ 1 8 Tryz.underlying26 infoIntU rfl (by decide) _ _ _ rfl HO2.out [.int .i64 (bb : Int)] (by show Value.slice _ _ _ = Value.slice _ _ _; simp) rfl ?c1 ?c2 ?c3 hz5 (by omega) ?_)
          case c1 => intro u hu; rw [List.mem_singleton.1 hu]; rfl
          case c2 => unfold maxLen; omega
          case c3 => omega
          intro v' w9 o9 u9 hob
          obtain ⟨a9, c9, rfl⟩ := own_slG o9
          have hfin : Hid (w9.ownsRow w3.heap.size 3 1 (.slice a9 (n + 1) c9) (n + 1) ((Ft.runP (C.map (·.2)) (l.take (n + 1))).2.map intD)) := by
            show w9.ownsRow _ _ _ _ _ _
            rw [HS2.out, List.map_append]
            exact o9
          have hfin2 : Hid (w9.heap[lb]? = some (.cells ((Ft.runP (C.map (·.2)) (l.take (n + 1))).1.map intD).toArray 3 (0, 0))) := by
            show _ = _
            rw [HS1.out]
            exact u9.keep HKB.out (fun e => by have := (HO2.out.lt _ e).1; omega)
          have hU2 := Lib.hid (((U.out.trans UI.out).trans' UW2.out (fun k hk e => by simp at hk; omega)).trans' u9 (fun k hk e => by have := (HO2.out.lt k e).1; simp at hk; omega))
          have hz9 : Hid (w3.heap.size ≤ w9.heap.size) := Nat.le_trans hz5 u9.size
          clear o9 u9 hob
          go_wp2_with fail
          go_roundw
          case rel => exact ⟨n + 1, by omega, by go_num, hfin, hfin2, hU2, hz9⟩
          case measure => simp [intOf]; omega
    · obtain rfl : n = l.length := by omega
      simp only [List.take_length] at HO ⊢
      have hfin := Lib.hid (HPO.out _ _ _ (by omega) HO.out (HU.out.trans U.out))
      go_wp2_with fail
      (try simp only [Exit.inBlock, Exit.then])
      refine bodyPost_ret (plan_results _ _) rfl ?_
      exact hfin.out
end Go.Proofs.YtmlmdlbepppnlaaGreatDoor
namespace Go.Proofs.YtmlmdlbepppnlaaGreatDoor
set_option linter.unusedVariables false
set_option linter.unusedSimpArgs false

namespace Ft
open Dk (Disk)
open Jr (Jn forms form)
def xcs : List (List UInt8) := [[97, 98, 99, 100], [97, 98], [99, 100]]
def xm : Ck.Man := ⟨0, 4, [1, 2]⟩
def xj0 : Jn := ⟨0, [], false⟩
def xj1 : Jn := ⟨0, [[99, 100]], false⟩
def xj2 : Jn := ⟨0, [[99, 100], [97, 98]], false⟩
def xE1 : Disk := (fopen Dk.new 0 xcs xm).1
def xE2 : Disk := (take xE1 xcs xm xj0 1 [99, 100]).1
def xE3 : Disk := (take xE2 xcs xm xj1 0 [97, 98]).1
theorem y1 : fopen Dk.new 0 xcs xm = (xE1, some xj0, 0) := Prod.ext rfl (Prod.ext (Jr.jo_eq (by decide +kernel)) (by decide +kernel))
theorem y2 : take xE1 xcs xm xj0 0 [99, 100] = (xE1, xj0, 28) := by unfold take; rw [if_neg (by decide), if_pos (by decide)]
theorem y3 : take xE1 xcs xm xj0 2 [97, 98] = (xE1, xj0, 3) := by unfold take; rw [if_pos (by decide)]
theorem y4 : take xE1 xcs xm xj0 1 [99, 100] = (xE2, xj1, 0) := Prod.ext rfl (Prod.ext (Jr.jn_eq (by decide +kernel)) (by decide +kernel))
theorem y5 : gone xcs xm xj1 = [0] ∧ ftext xcs xm xj1 = ([], 33) := by decide +kernel
theorem y6 : take xE2 xcs xm xj1 0 [97, 98] = (xE3, xj2, 0) := Prod.ext rfl (Prod.ext (Jr.jn_eq (by decide +kernel)) (by decide +kernel))
theorem y7 : ftext xcs xm xj2 = ([97, 98, 99, 100], 0) := by decide +kernel
theorem y8 : plan [1, 2] [[1, 2], [2]] = ([0, 1], 0) ∧ plan [1, 2] [[1], []] = ([], 33) ∧ miss [1, 2] [1] = [1] := by decide +kernel

/-- A journal in order, on a calm disk. -/
structure Up (D : Disk) (j : Jn) : Prop where
  calm : Jr.Calm D
  file : 0 ≤ j.file ∧ j.file < 16
  ok : j.broken = false
  now : (D.fs j.file).now = forms j.recs
theorem Up.append {D : Disk} {j : Jn} (h : Up D j) {s : List UInt8} (hs : s.length ≤ 1000) (hl : (forms j.recs).length ≤ 1000000) :
    ∃ D', Jr.append D j s = (D', { j with recs := j.recs ++ [s] }, 0) ∧ Up D' { j with recs := j.recs ++ [s] } ∧ ∀ g, g ≠ j.file → D'.fs g = D.fs g := by
  have hf := Jr.form_len s (by omega)
  obtain ⟨w1, w2, w3, w4⟩ := h.calm.write h.file (n := (forms j.recs).length) (s := form s) (by omega)
  refine ⟨(Dk.write D j.file (forms j.recs).length (form s)).1, ?_, ⟨w2, h.file, h.ok, ?_⟩, w4⟩
  · unfold Jr.append
    rw [if_neg (by rw [h.ok]; decide), if_neg (by omega), if_neg (by omega), w1, if_neg (by decide)]
  · show (((Dk.write D j.file (forms j.recs).length (form s)).1).fs j.file).now = forms (j.recs ++ [s])
    rw [w3, h.now, Jr.put_end, Jr.forms_snoc]
end Ft
end Go.Proofs.YtmlmdlbepppnlaaGreatDoor
namespace Go.Proofs.YtmlmdlbepppnlaaGreatDoor
open Go.RowKit

theorem upd_putObj (W : World) (l : Nat) (o : Obj) : nG ≤ l → Upd (fun k => k = l) W (W.putObj l o) := fun hg =>
  ⟨rfl, rfl, rfl, by simp, fun k _ hn => World.putObj_heap_other (by rintro rfl; rcases hn with h | h <;> first | omega | exact h rfl)⟩

/-- The iterator: it yields xs one by one, turning block bt alone between two rounds. -/
def SeqB {α : Type} (P : Program) (gf : Nat) (lb : Array Value) (encs : α → Array Value) (bt : Nat) (S : Nat → Prop) (xs : List α) (w : World) : Prop :=
  ∀ (l : Nat) (J Jx : List α → World → Prop) (W : World), Nw w W →
    (∀ s A B, J s A → Upd (fun k => k = bt) A B → J s B) → (∀ s A B, Jx s A → Upd (fun k => k = bt) A B → Jx s B) →
    (∀ pre x rest W1, xs = pre ++ x :: rest → J pre W1 → YieldAt Fence.wide 0 P l (encs x) W1 fun e W' =>
      (e = .returned (.bool true) ∧ J (pre ++ [x]) W' ∧ ∀ b, S b → W'.heap[b]? = W1.heap[b]?) ∨ (e = .returned (.bool false) ∧ Jx (pre ++ [x]) W')) →
    J [] W →
    Calls P gf (#[.func (.yield l) #[] #[]] ++ lb) W fun e W' => (∃ v, e = .returned v) ∧ (J xs W' ∨ ∃ pre, Jx pre W')

/-- How a round's body may be left: the loop's own blocks lie as they lay, and the iterator's where it goes on. -/
def postB {α : Type} (n : Nat) (S : Nat → Prop) (I : List α → World → Prop) (Ix : Code → List α → World → Prop) (xs : List α) (W : World) : Exit → Act → World → Prop
  | .normal, _, W' => (∀ k o, n ≤ k → W.heap[k]? = some o → o.isCells = false → W'.heap[k]? = some o) ∧ (∀ b, S b → W'.heap[b]? = W.heap[b]?) ∧ I xs W'
  | .ret, _, W' => (∀ k o, n ≤ k → W.heap[k]? = some o → o.isCells = false → W'.heap[k]? = some o) ∧ Ix .ret xs W'
  | .exit id, _, W' => (∀ k o, n ≤ k → W.heap[k]? = some o → o.isCells = false → W'.heap[k]? = some o) ∧ Ix (.exit id) xs W'
  | .goto t, _, W' => (∀ k o, n ≤ k → W.heap[k]? = some o → o.isCells = false → W'.heap[k]? = some o) ∧ Ix (.goto t) xs W'
  | .panic _, _, _ => False
  | .outgrown, _, _ => False

/-- What a caller's word abides: a turn of the iterator's block, or of one that holds no cells and was laid since. -/
def Bears {α : Type} (n bt : Nat) (I : List α → World → Prop) : Prop :=
  ∀ s A B b, I s A → Upd (fun k => k = b) A B → (b = bt ∨ n ≤ b ∧ ∃ o, A.heap[b]? = some o ∧ o.isCells = false) → I s B

set_option maxHeartbeats 1000000 in
theorem wp_rangeFuncB {α : Type} {P : Program} {g : Operand} {ps : Array Tmp} {assign body : Code} {Q : Exit → Act → World → Prop} {a : Act} {w : World}
    {gf : Nat} {lb : Array Value} (hg : a.eval g = .func (.func gf) #[] lb) (eg : ∀ args w, (callFunc gf args).run P w = .ok (.enter gf args) w)
    {encs : α → Array Value} {bt : Nat} {S : Nat → Prop} {xs : List α} (hseq : SeqB P gf lb encs bt S xs w) (hbig : nG ≤ w.heap.size) (hbt : bt < w.heap.size) (hS : ∀ b, S b → b < w.heap.size) (hps : ∀ x, (encs x).size = ps.size)
    (I : List α → World → Prop) (Ix : Code → List α → World → Prop) (hI : Bears w.heap.size bt I) (hIx : ∀ c, Bears w.heap.size bt (Ix c)) (h0 : I [] w) (a₁ : α → Act)
    (hassign : ∀ (l : Nat) (x : α) (W : World) (K : Act → World → Prop), K (a₁ x) W →
      assign.wpIn (Fence.wide.inRound l) 0 P (Exit.then K (fun _ _ _ => False)) { tmps := (ps.zip (encs x)).foldl (fun t (p, v) => t.setIfInBounds p v) a.tmps, defers := [] } W)
    (hbody : ∀ (l : Nat) (pre : List α) (x : α) (rest : List α) (W : World), xs = pre ++ x :: rest → I pre W → body.wpIn (Fence.wide.inRound l) 0 P (postB w.heap.size S I Ix (pre ++ [x]) W) (a₁ x) W)
    (hdone : ∀ (D : Nat) (W : World), w.heap.size ≤ D → I xs W → W.heap[D]? = some (.deferred (some [])) → Q .normal { a with defers := { target := .collected D, args := #[] } :: a.defers } W)
    (hstop : ∀ (D : Nat) (c : Code) (pre : List α) (W : World), w.heap.size ≤ D → Ix c pre W → W.heap[D]? = some (.deferred (some [])) → c.wp P Q { a with defers := { target := .collected D, args := #[] } :: a.defers } W) :
    (Code.rangeFunc g ps assign body).wp P Q a w := by
  refine (wpIn_wide (n := 0)).1 (wpIn_rangeFunc ?_)
  intro fn hfn
  obtain ⟨rec, hrec⟩ : ∃ rec : LoopState → Option Code → Loop, rec = fun st pe => { state := st, pending := pe, fn, tmps := a.tmps, params := ps, assign, body, defers := w.heap.size } := ⟨_, rfl⟩
  obtain ⟨W1, hW1⟩ : ∃ W1, (w.alloc (.deferred (some []))).alloc (.loop (rec .ready none)) = W1 := ⟨_, rfl⟩
  have hL1 : W1.heap[w.heap.size + 1]? = some (.loop (rec .ready none)) := by
    rw [← hW1]; have := World.alloc_heap_new (w.alloc (.deferred (some []))) (.loop (rec .ready none)); rwa [World.size_alloc] at this
  have hK1 : W1.heap[w.heap.size]? = some (.deferred (some [])) := by
    rw [← hW1]; exact (heap_alloc _ _ _ (by simp)).trans (World.alloc_heap_new w _)
  have hu1 : ∀ T : Nat → Prop, Upd T w W1 := fun T => by rw [← hW1]; exact ((Upd.refl T w).alloc _).alloc _
  have hI1 : I [] W1 := hI _ _ _ bt h0 (hu1 _) (Or.inl rfl)
  refine ⟨w.heap.size + 1, [{ target := .collected w.heap.size, args := #[] }], W1, { target := .fn (.func gf) lb, args := #[.func (.yield (w.heap.size + 1)) #[] #[]] }, W1, gf,
    #[.func (.yield (w.heap.size + 1)) #[] #[]] ++ lb, W1, ?_, ?_, fun _ _ => trivial, ?_, fun h => (by cases h), ?_⟩
  · rw [← hW1, hrec]; exact run_enterLoop_outer _ _ _ _ _
  · simp only [resolve, hg]
    simp [go_sem]
  · simp [invoke, go_sem, eg]
  refine callsIn_wide.2 ?_
  have turn : ∀ {c : List α → World → Prop} (_ : Bears w.heap.size bt c) (s : List α) (A : World) (k : Nat) (o o' : Obj), c s A → w.heap.size ≤ k → A.heap[k]? = some o → o.isCells = false → c s (A.putObj k o') :=
    fun {c} hc s A k o o' hs hk ho hn => hc s A _ k hs (upd_putObj A k o' (by omega)) (Or.inr ⟨hk, o, ho, hn⟩)
  refine (hseq (w.heap.size + 1)
    (fun pre W => I pre W ∧ W.heap[w.heap.size + 1]? = some (.loop (rec .ready none)) ∧ W.heap[w.heap.size]? = some (.deferred (some [])))
    (fun pre W => ∃ c, Ix c pre W ∧ W.heap[w.heap.size + 1]? = some (.loop (rec .done (some c))) ∧ W.heap[w.heap.size]? = some (.deferred (some [])))
    W1 (hu1 _)
    (fun s A B hs u => ⟨hI s A B bt hs.1 u (Or.inl rfl), u.keep hs.2.1 (by omega), u.keep hs.2.2 (by omega)⟩)
    (fun s A B hs u => by
      obtain ⟨c, hc, hl, hk⟩ := hs
      exact ⟨c, hIx c s A B bt hc u (Or.inl rfl), u.keep hl (by omega), u.keep hk (by omega)⟩)
    ?_ ⟨hI1, hL1, hK1⟩).mono ?_
  · rintro pre x rest W hxs ⟨hi, hl, hk⟩
    have hlt : w.heap.size + 1 < W.heap.size := (Array.getElem?_eq_some_iff.1 hl).1
    have hy := run_yield (P := P) (args := encs x) hl (by rw [hrec]; exact hps x)
    rw [hrec] at hy
    refine ⟨fn, _, assign, body, hy, roundIn_of_wpIn hfn (hassign _ x W _ ⟨_, run_beginRound hl (by rw [hrec]), ?_⟩)⟩
    have hl2 : (W.putObj (w.heap.size + 1) (.loop { rec .ready none with state := .busy })).heap[w.heap.size + 1]? = some (.loop { rec .ready none with state := .busy }) := World.putObj_heap_same hlt
    have hk2 : (W.putObj (w.heap.size + 1) (.loop { rec .ready none with state := .busy })).heap[w.heap.size]? = some (.deferred (some [])) := (World.putObj_heap_other (by omega)).trans hk
    refine wpIn_mono (hbody _ pre x rest _ hxs (turn hI _ _ _ _ _ hi (by omega) hl rfl)) ?_
    have fin : ∀ (jump : Option Code) (W3 : World), (∀ k o, w.heap.size ≤ k → (W.putObj (w.heap.size + 1) (.loop { rec .ready none with state := .busy })).heap[k]? = some o → o.isCells = false → W3.heap[k]? = some o) →
        (Instr.endRound (w.heap.size + 1) jump).run P W3 = .ok (.bool jump.isNone) (W3.putObj (w.heap.size + 1) (.loop (rec (if jump.isNone then .ready else .done) jump))) ∧
        W3.heap[w.heap.size + 1]? = some (.loop { rec .ready none with state := .busy }) ∧
        (W3.putObj (w.heap.size + 1) (.loop (rec (if jump.isNone then .ready else .done) jump))).heap[w.heap.size + 1]? = some (.loop (rec (if jump.isNone then .ready else .done) jump)) ∧
        (W3.putObj (w.heap.size + 1) (.loop (rec (if jump.isNone then .ready else .done) jump))).heap[w.heap.size]? = some (.deferred (some [])) := fun jump W3 hk3 => by
      have hl3 := hk3 _ _ (by omega) hl2 rfl
      have := run_endRound (P := P) jump hl3
      rw [hrec] at this ⊢
      exact ⟨this, by rw [hrec] at hl3; exact hl3, World.putObj_heap_same (Array.getElem?_eq_some_iff.1 hl3).1, (World.putObj_heap_other (by omega)).trans (hk3 _ _ (Nat.le_refl _) hk2 rfl)⟩
    rintro e a3 W3 hp
    cases e with
    | normal =>
      obtain ⟨hk3, hs3, hi3⟩ := hp
      obtain ⟨hr, hl3, hl4, hk4⟩ := fin none W3 hk3
      refine ⟨_, _, hr, .inl ⟨rfl, ⟨turn hI _ _ _ _ _ hi3 (by omega) hl3 rfl, hl4, hk4⟩, fun b hb => ?_⟩⟩
      have := hS b hb
      exact (World.putObj_heap_other (by omega)).trans ((hs3 b hb).trans (World.putObj_heap_other (by omega)))
    | ret =>
      obtain ⟨hk3, hi3⟩ := hp
      obtain ⟨hr, hl3, hl4, hk4⟩ := fin (some .ret) W3 hk3
      exact ⟨_, _, hr, .inr ⟨rfl, .ret, turn (hIx _) _ _ _ _ _ hi3 (by omega) hl3 rfl, hl4, hk4⟩⟩
    | exit id =>
      obtain ⟨hk3, hi3⟩ := hp
      obtain ⟨hr, hl3, hl4, hk4⟩ := fin (some (.exit id)) W3 hk3
      exact ⟨_, _, hr, .inr ⟨rfl, .exit id, turn (hIx _) _ _ _ _ _ hi3 (by omega) hl3 rfl, hl4, hk4⟩⟩
    | goto t =>
      obtain ⟨hk3, hi3⟩ := hp
      obtain ⟨hr, hl3, hl4, hk4⟩ := fin (some (.goto t)) W3 hk3
      exact ⟨_, _, hr, .inr ⟨rfl, .goto t, turn (hIx _) _ _ _ _ _ hi3 (by omega) hl3 rfl, hl4, hk4⟩⟩
    | panic ch => exact hp.elim
    | outgrown => exact hp.elim
  · rintro e W2 ⟨⟨v, rfl⟩, (⟨hi, hl, hk⟩ | ⟨pre, c, hi, hl, hk⟩)⟩
    · exact ⟨none, _, by have := run_endLoop (P := P) hl (by rw [hrec]; simp); rw [hrec] at this; exact this, hdone _ _ (Nat.le_refl _) (turn hI _ _ _ _ _ hi (by omega) hl rfl) ((World.putObj_heap_other (by omega)).trans hk)⟩
    · exact ⟨some c, _, by have := run_endLoop (P := P) hl (by rw [hrec]; simp); rw [hrec] at this; exact this, (wpIn_wide (n := 0)).2 (hstop _ c pre _ (Nat.le_refl _) (turn (hIx c) _ _ _ _ _ hi (by omega) hl rfl) ((World.putObj_heap_other (by omega)).trans hk))⟩
end Go.Proofs.YtmlmdlbepppnlaaGreatDoor
namespace Go.Proofs.YtmlmdlbepppnlaaGreatDoor
open Go.RowKit Go.Shelf
set_option linter.unusedVariables false
set_option linter.unusedSimpArgs false
attribute [local go_sem] Oper.semAt_some

def lenAt (b : Nat) (w : World) : Nat := match w.cell? ⟨b, 0, none⟩ with
  | some (.string s) => s.data.toList.length
  | _ => 0
theorem lenAt_eq {b : Nat} {w : World} {l : List UInt8} (h : w.cell? ⟨b, 0, none⟩ = some (.string ⟨l.toArray⟩)) : lenAt b w = l.length := by
  unfold lenAt; rw [h]

theorem drop_min {α : Type} (r : List α) (k : Nat) : r.drop (min k r.length) = r.drop k := by
  by_cases h : k ≤ r.length
  · rw [Nat.min_eq_left h]
  · rw [Nat.min_eq_right (by omega), List.drop_eq_nil_of_le (Nat.le_refl _), List.drop_eq_nil_of_le (by omega)]
theorem take_min {α : Type} (r : List α) (k : Nat) : r.take (min k r.length) = r.take k := by
  by_cases h : k ≤ r.length
  · rw [Nat.min_eq_left h]
  · rw [Nat.min_eq_right (by omega), List.take_of_length_le (Nat.le_refl _), List.take_of_length_le (by omega)]

set_option maxHeartbeats 4000000 in
set_option maxRecDepth 100000 in
theorem parts1_seq (bt bs : Nat) (n : Nat) (hn : n ≤ 8) (t : List UInt8) (ht : t.length ≤ 60) (w : World) (hbt : w.heap[bt]? = some (.cells #[.string ⟨t.toArray⟩] tStrU (0, 0)))
    (hbs : w.heap[bs]? = some (.cells #[.int .i64 ((n : Int) + 1)] 3 (0, 0))) (hne : bt ≠ bs) (hg : nG ≤ bt) :
    SeqB Tryz.prog 87 #[.pointer (some ⟨bt, 0, none⟩), .pointer (some ⟨bs, 0, none⟩)] (fun x : List UInt8 => #[.string ⟨x.toArray⟩]) bt (fun b => b = bt ∨ b = bs) (Ck.parts n t) w := by
  intro l J Jx W u hJ hJx hY h0
  refine (callsIn_wide (n := 0)).1 ?_
  have e1 := Nw.keep u hbt
  have e2 := Nw.keep u hbs
  have hn1 : (n : Int) ≤ 8 := by omega
  refine callsIn_of_wp Tryz.func87 rfl trivial ?_ rfl
  simp only [Tryz.ntmps87, List.size_toArray, List.length_cons, List.length_nil, Nat.reduceAdd, Nat.reduceSub, Array.replicate_succ, Array.replicate_zero, List.push_toArray, List.append_toArray, List.nil_append, List.cons_append]
  gi_wp2
  gi_loopw [4] (fun (_ : Value) wr => ∃ (pre : List (List UInt8)) (r : List UInt8), Ck.parts n t = pre ++ Ck.parts n r ∧ r.length ≤ 60 ∧ wr.heap[bt]? = some (.cells #[.string ⟨r.toArray⟩] tStrU (0, 0)) ∧ wr.heap[bs]? = some (.cells #[.int .i64 ((n : Int) + 1)] 3 (0, 0)) ∧ J pre wr)
    (fun (_ : Value) wr => lenAt bt wr)
  case atStart => exact ⟨[], t, rfl, ht, e1, e2, h0⟩
  case round =>
    obtain ⟨pre, r, hpr, hr, b1, b2, hJs⟩ := hrel
    have c1 : wr.cell? ⟨bt, 0, none⟩ = some (.string ⟨r.toArray⟩) := by simp [World.cell?, b1]
    have c2 : wr.cell? ⟨bs, 0, none⟩ = some (.int .i64 ((n : Int) + 1)) := by simp [World.cell?, b2]
    by_cases hz : r = []
    · subst hz
      rw [Ck.parts_nil, List.append_nil] at hpr
      gi_wp2
      go_end0
      exact ⟨⟨_, rfl⟩, .inl (by rw [hpr]; exact hJs)⟩
    · have hne0 : r.isEmpty = false := by cases r <;> simp_all
      have hr1 : (r.length : Int) ≤ 60 := by omega
      have hpos : (0 : Int) < r.length := by have : r.length ≠ 0 := fun e => hz (List.length_eq_zero_iff.1 e); omega
      obtain ⟨fn, tmps, assign, body, hy, hR⟩ := hY pre (r.take (n + 1)) (Ck.parts n (r.drop (n + 1))) wr (by rw [hpr, Ck.parts_cons n hz]) hJs
      have hmn : (min ((n : Int) + 1) (r.length : Int)).toNat = min (n + 1) r.length := by omega
      have hE : (⟨(r.take (n + 1)).toArray⟩ : ByteArray) = (⟨r.toArray⟩ : ByteArray).extract 0 (min ((n : Int) + 1) (r.length : Int)).toNat := by
        rw [hmn]; exact (bs_extract r 0 _).trans (by rw [List.drop_zero, Nat.sub_zero, take_min]) |>.symm
      rw [hE] at hy
      clear hE
      have HM := Lib.hid hmn
      clear hmn

      gi_wp2
      refine ⟨rfl, hR.mono ?_⟩
      rintro e W3 (⟨rfl, hJ3, hk3⟩ | ⟨rfl, hJx3⟩)
      · have d1 := (hk3 bt (Or.inl rfl)).trans b1
        have d2 := (hk3 bs (Or.inr rfl)).trans b2
        have c3 : W3.cell? ⟨bt, 0, none⟩ = some (.string ⟨r.toArray⟩) := by simp [World.cell?, d1]
        have f3 : W3.frozen? ⟨bt, 0, none⟩ = false := by simp [World.frozen?, d1]
        have hX : Hid ((⟨r.toArray⟩ : ByteArray).extract (min ((n : Int) + 1) (r.length : Int)).toNat r.length = ⟨(r.drop (n + 1)).toArray⟩) := by
          show _ = _
          rw [HM.out, bs_extract, drop_min, List.take_of_length_le (by rw [List.length_drop]; omega)]
        have hbb := setCell_block d1 0 (.string ⟨(r.drop (n + 1)).toArray⟩)
        have hbb2 := (heap_setCell W3 ⟨bt, 0, none⟩ (.string ⟨(r.drop (n + 1)).toArray⟩) bs (Ne.symm hne)).trans d2
        have hJ4 := hJ _ _ _ hJ3 ((Upd.refl (fun k => k = bt) W3).set1 hg 0 (.string ⟨(r.drop (n + 1)).toArray⟩))
        have HB := Lib.hid (show (W3.setCell ⟨bt, 0, none⟩ (.string ⟨(r.drop (n + 1)).toArray⟩)).heap[bt]? = some (.cells #[.string ⟨(r.drop (n + 1)).toArray⟩] tStrU (0, 0)) from hbb)
        have HB2 := Lib.hid hbb2
        have HJ4 := Lib.hid hJ4
        have HPR := Lib.hid (show Ck.parts n t = (pre ++ [r.take (n + 1)]) ++ Ck.parts n (r.drop (n + 1)) by rw [hpr, Ck.parts_cons n hz, List.append_assoc]; rfl)
        clear hbb hbb2 hJ4
        gi_wp2
        go_roundw
        case rel => rw [hX.out]; exact ⟨_, r.drop (n + 1), HPR.out, by rw [List.length_drop]; omega, HB.out, HB2.out, HJ4.out⟩
        case measure =>
          rw [hX.out]
          rw [lenAt_eq c1, lenAt_eq (l := r.drop (n + 1)) (by have := HB.out; simp [World.cell?, this]), List.length_drop]
          omega
      · gi_wp2
        refine bodyPost_ret (results_none rfl _ _ _) rfl ?_
        exact ⟨⟨_, rfl⟩, .inr ⟨_, hJx3⟩⟩
end Go.Proofs.YtmlmdlbepppnlaaGreatDoor
namespace Go.Proofs.YtmlmdlbepppnlaaGreatDoor
open Go.RowKit Go.Shelf
set_option linter.unusedVariables false
set_option linter.unusedSimpArgs false
attribute [local go_sem] Oper.semAt_some
attribute [local irreducible] Calls

theorem wpListIn_app {F : Fence} {nF : Nat} {P : Program} {w : World} {ops : Array Oper} {rest : List Oper} {o : Oper} {a : Act} {Q : Exit → Act → World → Prop} (hgd : o.guard = none) (s x : Operand) (t : TypeId)
    (ho : o.op = .call { callee := .builtin .append, args := #[s, x], argTypes := #[t, t] })
    (base : Nat) (e : TypeId) (z : Value) (size bytes : Nat) (ht : P.underlying t = some (.slice e)) (hinfo : (P.info? e).map (fun i => (i.zero, i.size, i.bytes)) = some (some z, size, bytes)) (hzs : z.cells.size = size) (hsz : 0 < size)
    (v : Value) (n : Nat) (xs : List Value) (hs : a.eval s = v) (hown : w.ownsRow base e size v n xs)
    (news : List Value) (hx : a.eval x = .slice (some ⟨w.heap.size, 0, none⟩) 1 1) (hl : news.length = size) (h1 : ∀ u ∈ news, u.oneCell' = true)
    (h63 : n + 1 ≤ maxLen) (hbytes : (n + 1) * bytes ≤ 140737488355328) (hbase : base ≤ w.heap.size)
    (h : ∀ v' w', w'.ownsRow base e size v' (n + 1) (xs ++ news) → Nw w (w.alloc (.cells news.toArray e)) → (w.alloc (.cells news.toArray e)).grownBy w' v.ownBlock → (∀ k, v.ownBlock = some k → base ≤ k ∧ k < w.heap.size) → wpListIn F nF P ops Q rest (a.put o.dst v') w') : wpListIn F nF P ops Q (o :: rest) a (w.alloc (.cells news.toArray e)) := by
  obtain ⟨i0, hi, hz0, hz1, hz2⟩ := info_parts hinfo
  refine wpListIn_append_own _ hgd s x t ho base e i0 z size bytes ht hi hz0 hz1 hz2 hzs hsz v n xs hs (hown.alloc _) ⟨w.heap.size, 0, none⟩ 1 1 news hx (by omega) ?_ h1 h63 hbytes (by simp; omega) fun v' w' h2 h3 _ => h v' w' h2 (nw_alloc _ _) h3 hown.lt
  intro j u hu
  have hb := heap_new w (.cells news.toArray e)
  rw [add_plain, cells_cell hb, Nat.zero_add]
  simpa using hu

set_option maxRecDepth 100000 in
theorem parts_c (t : List UInt8) (n : Int) (w : World) :
    Calls Tryz.prog 62 #[.string ⟨t.toArray⟩, .int .i64 n] w fun e w' =>
      e = .returned (.func (.func 87) #[] #[.pointer (some ⟨w.heap.size, 0, none⟩), .pointer (some ⟨w.heap.size + 1, 0, none⟩)]) ∧ Nw w w' ∧ w.heap.size + 2 ≤ w'.heap.size ∧
      w'.heap[w.heap.size]? = some (.cells #[.string ⟨t.toArray⟩] tStrU (0, 0)) ∧ w'.heap[w.heap.size + 1]? = some (.cells #[.int .i64 n] 3 (0, 0)) := by
  have n1 := (nw_alloc w (.cells #[.string ⟨t.toArray⟩] tStrU)).alloc (.cells #[.int .i64 n] 3)
  have b1 := heap_new w (.cells #[.string ⟨t.toArray⟩] tStrU)
  have b2 := heap_new (w.alloc (.cells #[.string ⟨t.toArray⟩] tStrU)) (.cells #[.int .i64 n] 3)
  rw [World.size_alloc] at b2
  have b3 := (heap_alloc (w.alloc (.cells #[.string ⟨t.toArray⟩] tStrU)) (.cells #[.int .i64 n] 3) w.heap.size (by simp)).trans b1
  go_enter Tryz.func62, Tryz.ntmps62
  go_wp2_with fail
  go_ret
  exact ⟨rfl, n1, by simp, b3, b2⟩

set_option maxRecDepth 100000 in
theorem sized_c (n : Nat) (hn : n ≤ 8) (w : World) : Calls Tryz.prog 59 #[.int .i64 ((n : Int) + 1)] w fun e w' => e = .returned (.bool true) ∧ Nw w w' := by
  have d1 : decide ((1 : Int) ≤ (n : Int) + 1) = true := decide_eq_true (by omega)
  have d2 : decide ((n : Int) + 1 ≤ 4096) = true := decide_eq_true (by omega)
  go_enter Tryz.func59, Tryz.ntmps59
  go_wp2_with fail
  go_ret
  exact ⟨rfl, Upd.refl _ _⟩
abbrev tMan : TypeId := 28
/-- Three stores into boxes that lie one behind the other. -/
abbrev st3 (w : World) (b : Nat) (x y z : Value) : World := ((w.setCell ⟨b, 0, none⟩ x).setCell ⟨b + 1, 0, none⟩ y).setCell ⟨b + 1 + 1, 0, none⟩ z
theorem st3_facts {w : World} {b : Nat} {x9 x10 x11 : Value} {T9 T10 T11 : TypeId} (j9 : w.heap[b]? = some (.cells #[x9] T9 (0, 0))) (j10 : w.heap[b + 1]? = some (.cells #[x10] T10 (0, 0))) (j11 : w.heap[b + 2]? = some (.cells #[x11] T11 (0, 0))) (hg : nG ≤ b) (x y z : Value) :
    (st3 w b x y z).heap[b]? = some (.cells #[x] T9 (0, 0)) ∧ (st3 w b x y z).heap[b + 1]? = some (.cells #[y] T10 (0, 0)) ∧ (st3 w b x y z).heap[b + 2]? = some (.cells #[z] T11 (0, 0)) ∧ (st3 w b x y z).heap.size = w.heap.size ∧
    Upd (fun k => k = b ∨ k = b + 1 ∨ k = b + 2) w (st3 w b x y z) := by
  unfold st3
  refine ⟨?_, ?_, ?_, by simp [World.setCell], ((((Upd.refl _ w).setCell (p := ⟨b, 0, none⟩) (Or.inl (Or.inl rfl)) hg x).setCell (p := ⟨b + 1, 0, none⟩) (Or.inl (Or.inr (Or.inl rfl))) (by show nG ≤ b + 1; omega) y).setCell (p := ⟨b + 1 + 1, 0, none⟩) (Or.inl (Or.inr (Or.inr rfl))) (by show nG ≤ b + 1 + 1; omega) z)⟩
  · rw [heap_setCell _ _ _ _ (by show b ≠ b + 1 + 1; omega), heap_setCell _ _ _ _ (by show b ≠ b + 1; omega)]
    exact setCell_block j9 0 x
  · rw [heap_setCell _ _ _ _ (by show b + 1 ≠ b + 1 + 1; omega)]
    exact setCell_block ((heap_setCell _ _ _ _ (by show b + 1 ≠ b; omega)).trans j10) 0 y
  · exact setCell_block ((heap_setCell _ _ _ _ (by show b + 2 ≠ b + 1; omega)).trans ((heap_setCell _ _ _ _ (by show b + 2 ≠ b; omega)).trans j11)) 0 z

/-- Behind the three stores of a round. -/
structure OfT (w W w6 : World) (n0 b7 b9 : Nat) (ad : List (List UInt8)) (x : List UInt8) (v6 : Value) (p len : Int) (mv : Value) (m : Nat) (xs : List Value) : Prop where
  upd : Upd (fun k => k = b9 ∨ k = b9 + 1 ∨ k = b9 + 2) W (st3 w6 b9 v6 (.int .i64 (prtU ad x)) (.int .i64 0))
  size : (st3 w6 b9 v6 (.int .i64 (prtU ad x)) (.int .i64 0)).heap.size = w6.heap.size
  b0 : (st3 w6 b9 v6 (.int .i64 (prtU ad x)) (.int .i64 0)).heap[b9]? = some (.cells #[v6] 25 (0, 0))
  b1 : (st3 w6 b9 v6 (.int .i64 (prtU ad x)) (.int .i64 0)).heap[b9 + 1]? = some (.cells #[.int .i64 (prtU ad x)] 3 (0, 0))
  b2 : (st3 w6 b9 v6 (.int .i64 (prtU ad x)) (.int .i64 0)).heap[b9 + 2]? = some (.cells #[.int .i64 0] 32 (0, 0))
  b3 : (st3 w6 b9 v6 (.int .i64 (prtU ad x)) (.int .i64 0)).heap[b9 + 3]? = some (.cells #[.int .i64 p, .int .i64 len, mv] tMan (0, 0))
  b7 : (st3 w6 b9 v6 (.int .i64 (prtU ad x)) (.int .i64 0)).heap[b7]? = some (.cells #[.int .i64 0, .int .i64 0, .slice none 0 0] tMan (0, 0))
  own : (st3 w6 b9 v6 (.int .i64 (prtU ad x)) (.int .i64 0)).ownsRow W.heap.size tStrMU 1 v6 (addMU ad x).length ((addMU ad x).map bsMU)
  row : (st3 w6 b9 v6 (.int .i64 (prtU ad x)) (.int .i64 0)).ownsRow n0 3 1 mv m xs
theorem infoIntK : (Tryz.prog.info? 3).map (fun i => (i.zero, i.size, i.bytes)) = some (some (.int .i64 0), 1, 8) := by kernel_rfl
theorem alloc4 (w : World) (A B C D : Obj) : ((((w.alloc A).alloc B).alloc C).alloc D).heap[w.heap.size]? = some A ∧ ((((w.alloc A).alloc B).alloc C).alloc D).heap[w.heap.size + 1]? = some B ∧
    ((((w.alloc A).alloc B).alloc C).alloc D).heap[w.heap.size + 2]? = some C ∧ ((((w.alloc A).alloc B).alloc C).alloc D).heap[w.heap.size + 3]? = some D ∧ Nw w ((((w.alloc A).alloc B).alloc C).alloc D) ∧ ((((w.alloc A).alloc B).alloc C).alloc D).heap.size = w.heap.size + 4 := by
  have a1 := heap_new w A
  have a2 := heap_new (w.alloc A) B
  have a3 := heap_new ((w.alloc A).alloc B) C
  have a4 := heap_new (((w.alloc A).alloc B).alloc C) D
  simp only [World.size_alloc] at a2 a3 a4
  refine ⟨?_, ?_, ?_, a4, (((nw_alloc w A).alloc B).alloc C).alloc D, by simp⟩
  · rw [heap_alloc _ _ _ (by simp only [World.size_alloc]; omega), heap_alloc _ _ _ (by simp only [World.size_alloc]; omega), heap_alloc _ _ _ (by simp only [World.size_alloc]; omega)]; exact a1
  · rw [heap_alloc _ _ _ (by simp only [World.size_alloc]; omega), heap_alloc _ _ _ (by simp only [World.size_alloc]; omega)]; exact a2
  · rw [heap_alloc _ _ _ (by simp only [World.size_alloc]; omega)]; exact a3
/-- chunk.Of between two rounds. -/
def OfI (w : World) (n0 b7 b9 bt : Nat) (cs1 : List (List UInt8)) (p len : Int) (pre : List (List UInt8)) (W : World) : Prop :=
  Nw w W ∧ n0 ≤ W.heap.size ∧ W.heap[b7]? = some (.cells #[.int .i64 0, .int .i64 0, .slice none 0 0] tMan (0, 0)) ∧ W.heap[b9 + 2]? = some (.cells #[.int .i64 0] 32 (0, 0)) ∧
  (∃ lv x, W.heap[b9]? = some (.cells #[lv] 25 (0, 0)) ∧ W.heap[b9 + 1]? = some (.cells #[.int .i64 x] 3 (0, 0)) ∧
    W.ownsRow w.heap.size tStrMU 1 lv (Ck.adds cs1 pre).length ((Ck.adds cs1 pre).map bsMU) ∧ ∀ k, lv.ownBlock = some k → k ≠ bt) ∧
  (∃ mv, W.heap[b9 + 3]? = some (.cells #[.int .i64 p, .int .i64 len, mv] tMan (0, 0)) ∧ W.ownsRow n0 3 1 mv pre.length ((Ck.prts cs1 pre).map fun x => .int .i64 x))
theorem cells_ne {A : World} {b k : Nat} {o : Obj} {c : Array Value} {T : TypeId} {f : Nat × Nat} (hb : A.heap[b]? = some o) (ho : o.isCells = false) (hk : A.heap[k]? = some (.cells c T f)) : k ≠ b := by
  rintro rfl
  rw [hb] at hk
  cases hk
  simp [Obj.isCells] at ho
theorem own_cells {A : World} {B sz m : Nat} {e : TypeId} {v : Value} {xs : List Value} (h : A.ownsRow B e sz v m xs) {k : Nat} (hk : v.ownBlock = some k) : ∃ c f, A.heap[k]? = some (.cells c e f) := by
  obtain ⟨-, c, hc⟩ := own_block h hk
  exact ⟨c, _, hc⟩
theorem OfI.bears {w : World} {n0 b7 b9 bt : Nat} {cs1 : List (List UInt8)} {p len : Int} (h7 : b7 < n0) (h9 : b9 + 3 < n0) (t7 : b7 ≠ bt) (t9 : bt < b9 ∨ b9 + 3 < bt) (hw : w.heap.size ≤ bt) (hbn : bt < n0) (hwn : w.heap.size ≤ n0) :
    Bears n0 bt (OfI w n0 b7 b9 bt cs1 p len) := by
  rintro s A B b ⟨h1, h2, h3, h4, ⟨lv, x, l1, l2, l3, l4⟩, ⟨mv, m1, m2⟩⟩ u hb
  have hbw : w.heap.size ≤ b := by rcases hb with rfl | ⟨hb, -⟩ <;> omega
  have key : ∀ {k : Nat} {c : Array Value} {T : TypeId} {f : Nat × Nat}, A.heap[k]? = some (.cells c T f) → k ≠ bt → k ≠ b := fun {k c T f} hk hkt => by
    rcases hb with rfl | ⟨-, o, ho, hn⟩
    · exact hkt
    · exact cells_ne ho hn hk
  refine ⟨h1.trans' u (fun k hk e => by omega), Nat.le_trans h2 u.size, u.keep h3 (key h3 t7), u.keep h4 (key h4 (by omega)), ⟨lv, x, u.keep l1 (key l1 (by omega)), u.keep l2 (key l2 (by omega)), owns_upd' l3 u (fun k e => ?_), l4⟩, ⟨mv, u.keep m1 (key m1 (by omega)), owns_upd' m2 u (fun k e => ?_)⟩⟩
  · obtain ⟨c, f, hc⟩ := own_cells l3 e
    exact key hc (l4 k e)
  · obtain ⟨c, f, hc⟩ := own_cells m2 e
    have := (m2.lt k e).1
    exact key hc (by omega)
theorem owns_grown {A B : World} {bb sz n : Nat} {e : TypeId} {v : Value} {xs : List Value} {row : Option Nat} (h : A.ownsRow bb e sz v n xs) (g : A.grownBy B row) (hn : ∀ k, v.ownBlock = some k → row ≠ some k) : B.ownsRow bb e sz v n xs := by
  obtain ⟨h1, h2⟩ := h
  refine ⟨h1, ?_⟩
  rcases h2 with h2 | ⟨gb, cap, cur, rfl, hb, hg, r⟩
  · exact Or.inl h2
  · exact Or.inr ⟨gb, cap, cur, rfl, hb, grown_keep g hg (hn gb rfl), r⟩
/-- A round's end. -/
theorem OfI.step {w W w6 w9 : World} {n0 b7 b9 : Nat} {cs1 pre : List (List UInt8)} {x : List UInt8} {v6 mv v' : Value} {p len : Int} {Ix : Code → List (List UInt8) → World → Prop} {a : Act}
    (hT : OfT w W w6 n0 b7 b9 (Ck.adds cs1 pre) x v6 p len mv pre.length ((Ck.prts cs1 pre).map fun x => .int .i64 x)) (i1 : Nw w W) (hw : w.heap.size ≤ b9) (hw7 : w.heap.size ≤ b7) (hg : nG ≤ w.heap.size) (hn0 : n0 ≤ W.heap.size) (h9 : b9 + 5 < n0) (h7 : b7 < b9)
    (hm : W.ownsRow n0 3 1 mv pre.length ((Ck.prts cs1 pre).map fun x => .int .i64 x))
    (o9 : w9.ownsRow n0 3 1 v' (pre.length + 1) (((Ck.prts cs1 pre).map fun x => .int .i64 x) ++ [.int .i64 (prtU (Ck.adds cs1 pre) x)]))
    (g9 : ((st3 w6 b9 v6 (.int .i64 (prtU (Ck.adds cs1 pre) x)) (.int .i64 0)).alloc (.cells [Value.int .i64 (prtU (Ck.adds cs1 pre) x)].toArray 3)).grownBy w9 mv.ownBlock) :
    postB n0 (fun b => b = b9 + 4 ∨ b = b9 + 5) (OfI w n0 b7 b9 (b9 + 4) cs1 p len) Ix (pre ++ [x]) W .normal a (w9.setCell ⟨b9 + 3, 2, none⟩ v') := by
  obtain ⟨t1, t2, t3, t4, t5, t6, t7, t8, t9⟩ := hT
  generalize st3 w6 b9 v6 (.int .i64 (prtU (Ck.adds cs1 pre) x)) (.int .i64 0) = Z at *
  have hmb : ∀ k, mv.ownBlock = some k → n0 ≤ k ∧ k < W.heap.size := fun k e => hm.lt k e
  have nz := nw_alloc Z (.cells [Value.int .i64 (prtU (Ck.adds cs1 pre) x)].toArray 3)
  have keepZ : ∀ {k : Nat} {o : Obj}, Z.heap[k]? = some o → k < n0 → w9.heap[k]? = some o := fun {k o} hk hlt => grown_keep g9 (Nw.keep nz hk) (fun e => by have := (hmb k e).1; omega)
  have keep9 : ∀ {k : Nat} {o : Obj}, Z.heap[k]? = some o → k < n0 → k ≠ b9 + 3 → (w9.setCell ⟨b9 + 3, 2, none⟩ v').heap[k]? = some o := fun {k o} hk hlt hne => (heap_setCell _ _ _ _ hne).trans (keepZ hk hlt)
  have U : Upd (fun k => k = b9 ∨ k = b9 + 1 ∨ k = b9 + 2 ∨ k = b9 + 3 ∨ mv.ownBlock = some k) W (w9.setCell ⟨b9 + 3, 2, none⟩ v') := by
    refine Upd.setCell (Upd.grown ((t1.mono (fun k _ h => ?_)).nw nz) g9 (fun k e => ?_)) (Or.inl ?_) (by show nG ≤ b9 + 3; omega) _
    · rcases h with h | h | h
      · exact Or.inl h
      · exact Or.inr (Or.inl h)
      · exact Or.inr (Or.inr (Or.inl h))
    · exact ⟨Or.inl (Or.inr (Or.inr (Or.inr (Or.inr e)))), by have := (hmb k e).1; omega⟩
    · exact Or.inr (Or.inr (Or.inr (Or.inl rfl)))
  have hvl : v6.ownBlock = none ∨ ∃ k, v6.ownBlock = some k ∧ W.heap.size ≤ k := by
    cases e : v6.ownBlock with
    | none => exact Or.inl rfl
    | some k => exact Or.inr ⟨k, rfl, (t8.lt k e).1⟩
  have o6 : (w9.setCell ⟨b9 + 3, 2, none⟩ v').ownsRow W.heap.size tStrMU 1 v6 (addMU (Ck.adds cs1 pre) x).length ((addMU (Ck.adds cs1 pre) x).map bsMU) := by
    have k1 := owns_upd' t8 nz (fun _ _ e => e)
    have k2 := owns_grown k1 g9 (fun k e e2 => by have := (hmb k e2).2; have := (t8.lt k e).1; omega)
    exact owns_upd' k2 ((Upd.refl (fun k => k = b9 + 3) w9).set1 (by omega) 2 v') (fun k e e2 => by have := (t8.lt k e).1; omega)
  have o10 : (w9.setCell ⟨b9 + 3, 2, none⟩ v').ownsRow n0 3 1 v' (pre.length + 1) (((Ck.prts cs1 pre).map fun x => .int .i64 x) ++ [.int .i64 (prtU (Ck.adds cs1 pre) x)]) :=
    owns_upd' o9 ((Upd.refl (fun k => k = b9 + 3) w9).set1 (by omega) 2 v') (fun k e e2 => by have := (o9.lt k e).1; omega)
  refine ⟨fun k o hk ho hc => U.keep ho (fun s => ?_), fun b hb => U.block b (by omega) (Or.inr (fun s => ?_)), ⟨i1.trans' U (fun k hk s => ?_), Nat.le_trans hn0 U.size, keep9 t7 (by omega) (by omega), keep9 t5 (by omega) (by omega), ⟨v6, _, keep9 t3 (by omega) (by omega), keep9 t4 (by omega) (by omega), ?_, fun k e => ?_⟩, ⟨v', ?_, ?_⟩⟩⟩
  · rcases s with s | s | s | s | s
    · omega
    · omega
    · omega
    · omega
    · obtain ⟨c, f, h2⟩ := own_cells hm s
      rw [h2] at ho; cases ho; simp [Obj.isCells] at hc
  · rcases s with s | s | s | s | s
    · omega
    · omega
    · omega
    · omega
    · have := (hmb b s).1; omega
  · rcases s with s | s | s | s | s
    · omega
    · omega
    · omega
    · omega
    · have := (hmb k s).1; omega
  · rw [Ck.adds_snoc]
    exact owns_base o6 i1.size
  · have := (t8.lt k e).1; omega
  · have h := setCell_block (keepZ t6 (by omega)) 2 v'
    simpa using h
  · rw [List.length_append, Ck.prts_snoc, List.map_append]
    exact o10
theorem of_results (tmps : Array Value) (w : World) (b : Nat) (x y z : Value) (h7 : tmps.getD 7 undef = .pointer (some ⟨b, 0, none⟩)) (hb : w.heap[b]? = some (.cells #[x, y, z] tMan (0, 0))) : (results Tryz.f33 tmps).run Tryz.prog w = .ok (.tuple #[tmps.getD 6 undef, .agg #[x, y, z], tmps.getD 8 undef]) w := by
  have c0 : w.cell? ⟨b, 0, none⟩ = some x := by simp [World.cell?, hb]
  have c1 : w.cell? ⟨b, 1, none⟩ = some y := by simp [World.cell?, hb]
  have c2 : w.cell? ⟨b, 2, none⟩ = some z := by simp [World.cell?, hb]
  have h8 : tmps[7]?.getD undef = .pointer (some ⟨b, 0, none⟩) := by simpa using h7
  simp [results, Tryz.results33, go_sem, h8, c0, c1, c2]
/-- What Of leaves. -/
structure OfD (w : World) (cs : List (List UInt8)) (t : List UInt8) (n : Nat) (v kv : Value) (w' : World) : Prop where
  nw : Nw w w'
  own : w'.ownsRow w.heap.size tStrMU 1 v (Ck.conts cs t n).length ((Ck.conts cs t n).map bsMU)
  row : w'.ownsRow w.heap.size 3 1 kv (Ck.man cs t n).chunks.length ((Ck.man cs t n).chunks.map fun x => .int .i64 x)
theorem of_end {w W : World} {b7 D n0 : Nat} {cs : List (List UInt8)} {t : List UInt8} {n : Nat} {v kv x y z : Value} (hg : nG ≤ w.heap.size) (h7 : b7 = w.heap.size) (hn0 : w.heap.size ≤ n0) (hD : n0 ≤ D) (i1 : Nw w W) (i3 : W.heap[b7]? = some (.cells #[.int .i64 0, .int .i64 0, .slice none 0 0] tMan (0, 0)))
    (l3 : W.ownsRow w.heap.size tStrMU 1 v (Ck.adds (addMU cs t) (Ck.parts n t)).length ((Ck.adds (addMU cs t) (Ck.parts n t)).map bsMU)) (m2 : W.ownsRow n0 3 1 kv (Ck.parts n t).length ((Ck.prts (addMU cs t) (Ck.parts n t)).map fun x => .int .i64 x))
    (hK : W.heap[D]? = some (.deferred (some []))) :
    (((W.setCell ⟨b7, 0, none⟩ x).setCell ⟨b7, 1, none⟩ y).setCell ⟨b7, 2, none⟩ z).drew.heap[D]? = some (.deferred (some [])) ∧
    ((((W.setCell ⟨b7, 0, none⟩ x).setCell ⟨b7, 1, none⟩ y).setCell ⟨b7, 2, none⟩ z).drew.putObj D (.deferred none)).heap[b7]? = some (.cells #[x, y, z] tMan (0, 0)) ∧
    OfD w cs t n v kv ((((W.setCell ⟨b7, 0, none⟩ x).setCell ⟨b7, 1, none⟩ y).setCell ⟨b7, 2, none⟩ z).drew.putObj D (.deferred none)) := by
  have hne : b7 ≠ D := by rintro rfl; rw [i3] at hK; cases hK
  have U1 : Upd (fun k => k = b7) W (((W.setCell ⟨b7, 0, none⟩ x).setCell ⟨b7, 1, none⟩ y).setCell ⟨b7, 2, none⟩ z).drew := (((Upd.refl (fun k => k = b7) W).set1 (by omega) 0 x).set1 (by omega) 1 y).set1 (by omega) 2 z |>.drew
  have hK2 := U1.keep hK (Ne.symm hne)
  have U2 := U1.mono (S' := fun k => k = b7 ∨ k = D) (fun k _ e => Or.inl e)
  have U3 := U2.trans ((upd_putObj _ D (.deferred none) (by omega)).mono (S' := fun k => k = b7 ∨ k = D) (fun k _ e => Or.inr e))
  have hb : (((W.setCell ⟨b7, 0, none⟩ x).setCell ⟨b7, 1, none⟩ y).setCell ⟨b7, 2, none⟩ z).drew.heap[b7]? = some (.cells #[x, y, z] tMan (0, 0)) := by
    have h1 := setCell_block i3 0 x
    have h2 := setCell_block h1 1 y
    have h3 := setCell_block h2 2 z
    have h4 : (((W.setCell ⟨b7, 0, none⟩ x).setCell ⟨b7, 1, none⟩ y).setCell ⟨b7, 2, none⟩ z).heap[b7]? = some (.cells #[x, y, z] tMan (0, 0)) := by simpa using h3
    exact h4
  refine ⟨hK2, (World.putObj_heap_other hne).trans hb, i1.trans' U3 (fun k hk s => ?_), owns_upd' l3 U3 (fun k e s => ?_), ?_⟩
  · rcases s with s | s <;> omega
  · obtain ⟨c, f, hc⟩ := own_cells l3 e
    rcases s with rfl | rfl
    · rw [i3] at hc; injection hc with hc; injection hc with _ hc; exact absurd hc (by decide)
    · rw [hK] at hc; cases hc
  · have e : (Ck.man cs t n).chunks = Ck.prts (addMU cs t) (Ck.parts n t) := rfl
    rw [e, Ck.prts_len]
    refine owns_base (owns_upd' m2 U3 (fun k e s => ?_)) hn0
    obtain ⟨c, f, hc⟩ := own_cells m2 e
    rcases s with rfl | rfl
    · rw [i3] at hc; injection hc with hc; injection hc with _ hc; exact absurd hc (by decide)
    · rw [hK] at hc; cases hc
theorem hold_on2 {p : Prop} (h : ∀ _ : Unit, p) : p := h ()
set_option maxHeartbeats 4000000 in
set_option maxRecDepth 100000 in
theorem of_c (B : Nat) (v : Value) (cs : List (List UInt8)) (t : List UInt8) (n : Nat) (hn8 : n ≤ 8) (w : World) (g : Gl w) (hv : w.ownsRow B tStrMU 1 v cs.length (cs.map bsMU)) (hl : CntOkU cs) (hl2 : cs.length + t.length ≤ 85) (hn : cs.Nodup) (ht : t.length ≤ 60) :
    Calls Tryz.prog 33 #[v, .string ⟨t.toArray⟩, .int .i64 ((n : Int) + 1)] w fun e w' => ∃ v' kv, e = .returned (.tuple #[v', .agg #[.int .i64 (Ck.man cs t n).print, .int .i64 (Ck.man cs t n).size, kv], .int .i64 0]) ∧ OfD w cs t n v' kv w' := by
  have hgb := g.big
  have hsl := Sl.of_owns hv
  have HR := Lib.hid (fun (z : World) (u : Nw w z) => right_w37U _ _ v cs z (g.upd u) (hsl.nw u) hl hn)
  clear hsl
  obtain ⟨a, cap, rfl⟩ := own_slG hv
  refine callsIn_wide.1 (callsIn_of_wp_marks Tryz.func33 rfl trivial (n := 0) ((wpIn_wide (n := 0)).2 ?_))
  simp only [Tryz.ntmps33, List.size_toArray, List.length_cons, List.length_nil, Nat.reduceAdd, Nat.reduceSub, Array.replicate_succ, Array.replicate_zero, List.push_toArray, List.append_toArray, List.nil_append, List.cons_append]
  have hn1 : (n : Int) ≤ 8 := by omega
  have ht1 : (t.length : Int) ≤ 60 := by omega
  have HA := Lib.hid (fun (z : World) (u : Nw w z) => cadd_wU B (.slice a cs.length cap) cs t z (g.upd u) (owns_upd' hv u (fun _ _ e => e)) hl (by omega) hn (by omega))
  clear hv
  go_wp2_with fail
  (with_reducible refine ((sized_c n hn8 _)).mono ?_)
  rintro _ w1 ⟨rfl, u1⟩
  have n0 := nw_alloc w (.cells #[.int .i64 0, .int .i64 0, .slice none 0 0] tMan)
  have HN1 := Lib.hid (n0.trans u1)
  have HB7 := Lib.hid (Nw.keep u1 (heap_new w (.cells #[.int .i64 0, .int .i64 0, .slice none 0 0] tMan)))
  have hr := Lib.hid (HR.out w1 HN1.out)
  clear HR n0 u1
  go_wp2_with fail
  (with_reducible refine (hr.out).mono ?_)
  rintro _ w2 ⟨rfl, u2⟩
  have HN2 := Lib.hid (HN1.out.trans u2)
  have HB72 := Lib.hid (Nw.keep u2 HB7.out)
  have ha := Lib.hid (HA.out w2 HN2.out)
  clear hr HA HB7 HN1 u2
  have dq : decide ((1000 : Int) < ((t.length : Int) + ((n : Int) + 1) - 1) / ((n : Int) + 1)) = false := decide_eq_false (by
    have : ((t.length : Int) + ((n : Int) + 1) - 1) / ((n : Int) + 1) ≤ (t.length : Int) + ((n : Int) + 1) - 1 := Int.ediv_le_self _ (by omega)
    omega)
  go_wp2_with fail
  (with_reducible refine (ha.out).mono ?_)
  rintro _ w3 ⟨v3, rfl, o3, u3⟩
  have HN3 := Lib.hid (HN2.out.trans u3)
  have HB73 := Lib.hid (Nw.keep u3 HB72.out)
  obtain ⟨a3, c3, rfl⟩ := own_slG o3
  have HO3 := Lib.hid o3
  clear o3 ha HB72 u3
  have A4 := Lib.hid (alloc4 w3 (.cells #[.slice a3 (addMU cs t).length c3] 25) (.cells #[.int .i64 (prtU cs t)] 3) (.cells #[.int .i64 0] 32) (.cells #[.int .i64 (prtU cs t), .int .i64 (t.length : Int), .slice none 0 0] tMan))
  go_wp2_with fail
  (with_reducible refine ((parts_c t _ _)).mono ?_)
  rintro _ w5 ⟨rfl, u5, s5, p5, q5⟩
  simp only [World.size_alloc] at s5 p5 q5
  have hz3 : w.heap.size < w3.heap.size := (Array.getElem?_eq_some_iff.1 HB73.out).1
  have hseq := parts1_seq (w3.heap.size + 1 + 1 + 1 + 1) (w3.heap.size + 1 + 1 + 1 + 1 + 1) n hn8 t ht w5 p5 q5 (by omega) (by omega)
  have hO5 : OfI w w5.heap.size w.heap.size w3.heap.size (w3.heap.size + 1 + 1 + 1 + 1) (addMU cs t) (prtU cs t) t.length [] w5 := by
    obtain ⟨a1, a2, a3, a4, a5, a6⟩ := A4.out
    refine ⟨HN3.out.trans (a5.trans u5), Nat.le_refl _, Nw.keep u5 (Nw.keep a5 HB73.out), Nw.keep u5 a3, ⟨_, _, Nw.keep u5 a1, Nw.keep u5 a2, ?_, ?_⟩, ⟨_, Nw.keep u5 a4, World.ownsRow_nil _ _ _ _⟩⟩
    · exact owns_upd' (owns_upd' (owns_base HO3.out HN2.out.size) a5 (fun _ _ e => e)) u5 (fun _ _ e => e)
    · intro k e
      have := (HO3.out.lt k e).2
      omega
  have HI := OfI.bears (w := w) (n0 := w5.heap.size) (b7 := w.heap.size) (b9 := w3.heap.size) (bt := w3.heap.size + 1 + 1 + 1 + 1) (cs1 := addMU cs t) (p := prtU cs t) (len := t.length) (by omega) (by omega) (by omega) (by omega) (by omega) (by omega) (by omega)
  go_wp2_with fail
  apply wp_rangeFuncB (gf := 87) (encs := fun x : List UInt8 => #[.string ⟨x.toArray⟩]) rfl (enters_of Tryz.func87 (by kernel_rfl) rfl) hseq (by omega) (by omega) (by omega) (fun _ => rfl) (OfI w w5.heap.size w.heap.size w3.heap.size (w3.heap.size + 1 + 1 + 1 + 1) (addMU cs t) (prtU cs t) t.length) (fun _ _ _ => False) HI (fun _ _ _ _ _ h _ _ => h) hO5
  case hassign =>
    intro l x W K hK
    gi_wp2
    exact hK
  case hbody =>
    rintro l pre x rest W hxs ⟨i1, i2, i3, i4, ⟨lv, x9, l1, l2, l3, l4⟩, ⟨mv, m1, m2⟩⟩
    obtain ⟨la, lc, rfl⟩ := own_slG l3
    obtain ⟨ma, mc, rfl⟩ := own_slG m2
    have hpl2 : pre.length + 1 ≤ t.length := by
      have := Ck.parts_len n t.length t (Nat.le_refl _)
      rw [hxs, List.length_append, List.length_cons] at this
      omega
    have hpl : pre.length + 1 ≤ 60 := by
      have := Ck.parts_len n t.length t (Nat.le_refl _)
      rw [hxs, List.length_append, List.length_cons] at this
      omega
    have hsz := Ck.parts_sz n t.length t (Nat.le_refl _)
    rw [hxs] at hsz
    have hal := Ck.adds_len pre (addMU cs t)
    have hal2 := Ck.add_len cs t
    have hx := Lib.hid (cadd_wU w.heap.size _ (Ck.adds (addMU cs t) pre) x W (g.upd i1) l3 ⟨by omega, fun s hs => by
        rcases Ck.adds_mem _ hs with hs | hs
        · rcases Ck.add_mem hs with hs | rfl
          · exact hl.s s hs
          · omega
        · have := (hsz s (by simp [hs])).1; omega⟩ (by omega) (Ck.adds_nodup _ (Ck.add_nodup hn t)) (by have := (hsz x (by simp)).1; omega))
    have c9 : W.cell? ⟨w3.heap.size, 0, none⟩ = some (.slice la (Ck.adds (addMU cs t) pre).length lc) := by simp [World.cell?, l1]
    have c11 : W.cell? ⟨w3.heap.size + 1 + 1, 0, none⟩ = some (.int .i64 0) := by simp [World.cell?, i4]
    have hy : Hid (Calls Tryz.prog 61 #[.slice la (Ck.adds (addMU cs t) pre).length lc, .string ⟨x.toArray⟩] W fun e w6 => ∃ a6 c6, e = .returned (.tuple #[.slice a6 (addMU (Ck.adds (addMU cs t) pre) x).length c6, .int .i64 (prtU (Ck.adds (addMU cs t) pre) x), .int .i64 0]) ∧
        Hid (w6.ownsRow W.heap.size tStrMU 1 (.slice a6 (addMU (Ck.adds (addMU cs t) pre) x).length c6) (addMU (Ck.adds (addMU cs t) pre) x).length ((addMU (Ck.adds (addMU cs t) pre) x).map bsMU) ∧ Nw W w6) ∧
        w6.frozen? ⟨w3.heap.size, 0, none⟩ = false ∧ w6.frozen? ⟨w3.heap.size + 1, 0, none⟩ = false ∧ w6.frozen? ⟨w3.heap.size + 1 + 1, 0, none⟩ = false ∧ w6.frozen? ⟨w3.heap.size + 1 + 1 + 1, 2, none⟩ = false ∧
        w6.cell? ⟨w3.heap.size, 0, none⟩ = some (.slice la (Ck.adds (addMU cs t) pre).length lc) ∧ w6.cell? ⟨w3.heap.size + 1, 0, none⟩ = some (.int .i64 x9) ∧ w6.cell? ⟨w3.heap.size + 1 + 1, 0, none⟩ = some (.int .i64 0) ∧ w6.cell? ⟨w3.heap.size + 1 + 1 + 1, 2, none⟩ = some (.slice ma pre.length mc) ∧
        Hid (OfT w W w6 w5.heap.size w.heap.size w3.heap.size (Ck.adds (addMU cs t) pre) x (.slice a6 (addMU (Ck.adds (addMU cs t) pre) x).length c6) (prtU cs t) t.length (.slice ma pre.length mc) pre.length ((Ck.prts (addMU cs t) pre).map fun x => .int .i64 x))) := by
      refine hx.out.mono ?_
      rintro _ w6 ⟨v6, rfl, o6, u6⟩
      obtain ⟨a6, c6, rfl⟩ := own_slG o6
      have j9 := Nw.keep u6 l1
      have j10 := Nw.keep u6 l2
      have j11 := Nw.keep u6 i4
      have j12 := Nw.keep u6 m1
      refine ⟨a6, c6, rfl, ⟨o6, u6⟩, by simp [World.frozen?, j9], by simp [World.frozen?, j10], by simp [World.frozen?, j11], by simp [World.frozen?, j12], by simp [World.cell?, j9], by simp [World.cell?, j10], by simp [World.cell?, j11], by simp [World.cell?, j12], ?_⟩
      have F := st3_facts j9 j10 j11 (by omega) (.slice a6 (addMU (Ck.adds (addMU cs t) pre) x).length c6) (.int .i64 (prtU (Ck.adds (addMU cs t) pre) x)) (.int .i64 0)
      have hb12 : w6.heap[w3.heap.size + 3]? = some (.cells #[.int .i64 (prtU cs t), .int .i64 (t.length : Int), .slice ma pre.length mc] tMan (0, 0)) := j12
      have j7 := Nw.keep u6 i3
      have hge : w3.heap.size + 6 ≤ w5.heap.size := by omega
      obtain ⟨F0, F1, F2, FS, FU⟩ := F
      have hWW : w5.heap.size ≤ W.heap.size := i2
      refine ⟨(Nw.upd _ u6).trans FU, FS, F0, F1, F2, FU.keep hb12 (by omega), FU.keep j7 (by omega), owns_upd' o6 FU (fun k e => ?_), owns_upd' (owns_upd' m2 u6 (fun _ _ e => e)) FU (fun k e => ?_)⟩
      · have := (o6.lt k e).1; omega
      · have := (m2.lt k e).1; omega
    clear hx
    gi_wp2_with (first | (refine ⟨trivial, rfl, ?_⟩; refine (CallsIn.inRound l (callsIn_wide.2 hy.out)).mono ?_; rintro _ w6 ⟨a6, c6, rfl, h6, f9, f10, f11, f12, d9, d10, d11, d12, hT⟩) | (gi_at_builtin; refine hold_on2 ?_))
    intro _
    refine wpListIn_app rfl _ _ 26 rfl w5.heap.size 3 _ 1 8 Tryz.underlying26 infoIntK rfl (by decide) _ _ _ rfl hT.out.row [Value.int .i64 (prtU (Ck.adds (addMU cs t) pre) x)] ?cx rfl ?c1 ?c2 ?c3 ?c4 ?_
    case cx => rw [hT.out.size]; rfl
    case c1 => intro u hu; rw [List.mem_singleton.1 hu]; rfl
    case c2 => unfold maxLen; omega
    case c3 => omega
    case c4 => rw [hT.out.size]; have := h6.out.2.size; omega
    intro v' w9 o9 n9 g9 _
    obtain ⟨a9, c9, rfl⟩ := own_slG o9
    have hP := Lib.hid (fun (aa : Act) => OfI.step (Ix := fun _ _ _ => False) (a := aa) hT.out i1 (by omega) (by omega) hgb i2 (by omega) (by omega) m2 o9 g9)
    have hb3 := grown_keep g9 (Nw.keep n9 hT.out.b3) (fun e => by have := (m2.lt _ e).1; omega)
    have q1 : w9.cell? ⟨w3.heap.size + 1 + 1 + 1, 2, none⟩ = some (.slice ma pre.length mc) := by
      show w9.cell? ⟨w3.heap.size + 3, 2, none⟩ = _
      rw [cells_cell hb3]; rfl
    have q2 : w9.frozen? ⟨w3.heap.size + 1 + 1 + 1, 2, none⟩ = false := cells_frozen hb3 2
    clear hb3 o9 n9 g9 hT
    gi_wp2
    exact hP.out _
  case hdone =>
    rintro D W hD ⟨i1, i2, i3, i4, ⟨lv, x9, l1, l2, l3, l4⟩, ⟨mv, m1, m2⟩⟩ hK
    obtain ⟨la, lc, rfl⟩ := own_slG l3
    obtain ⟨ma, mc, rfl⟩ := own_slG m2
    have c9 : W.cell? ⟨w3.heap.size, 0, none⟩ = some (.slice la (Ck.adds (addMU cs t) (Ck.parts n t)).length lc) := by simp [World.cell?, l1]
    have c11 : W.cell? ⟨w3.heap.size + 1 + 1, 0, none⟩ = some (.int .i64 0) := by simp [World.cell?, i4]
    have c12 : W.cell? ⟨w3.heap.size + 1 + 1 + 1, 0, none⟩ = some (.int .i64 (prtU cs t)) := by show W.cell? ⟨w3.heap.size + 3, 0, none⟩ = _; simp [World.cell?, m1]
    have c13 : W.cell? ⟨w3.heap.size + 1 + 1 + 1, 1, none⟩ = some (.int .i64 t.length) := by show W.cell? ⟨w3.heap.size + 3, 1, none⟩ = _; simp [World.cell?, m1]
    have c14 : W.cell? ⟨w3.heap.size + 1 + 1 + 1, 2, none⟩ = some (.slice ma (Ck.parts n t).length mc) := by show W.cell? ⟨w3.heap.size + 3, 2, none⟩ = _; simp [World.cell?, m1]
    have f0 : W.frozen? ⟨w.heap.size, 0, none⟩ = false := cells_frozen i3 0
    have f1 : W.frozen? ⟨w.heap.size, 1, none⟩ = false := cells_frozen i3 1
    have f2 : W.frozen? ⟨w.heap.size, 2, none⟩ = false := cells_frozen i3 2
    have k0 : W.cell? ⟨w.heap.size, 0, none⟩ = some (.int .i64 0) := by simp [World.cell?, i3]
    have k1 : W.cell? ⟨w.heap.size, 1, none⟩ = some (.int .i64 0) := by simp [World.cell?, i3]
    have k2 : W.cell? ⟨w.heap.size, 2, none⟩ = some (.slice none 0 0) := by simp [World.cell?, i3]
    have hsk : ∀ b i, b ≠ w.heap.size → (((W.setCell ⟨w.heap.size, 0, none⟩ (.int .i64 (prtU cs t))).setCell ⟨w.heap.size, 1, none⟩ (.int .i64 t.length)).setCell ⟨w.heap.size, 2, none⟩ (.slice ma (Ck.parts n t).length mc)).drew.cell? ⟨b, i, none⟩ = W.cell? ⟨b, i, none⟩ := fun b i hb => by
      refine World.cell?_of_block ?_
      show (((W.setCell ⟨w.heap.size, 0, none⟩ (.int .i64 (prtU cs t))).setCell ⟨w.heap.size, 1, none⟩ (.int .i64 t.length)).setCell ⟨w.heap.size, 2, none⟩ (.slice ma (Ck.parts n t).length mc)).heap[b]? = W.heap[b]?
      rw [heap_setCell _ _ _ _ hb, heap_setCell _ _ _ _ hb, heap_setCell _ _ _ _ hb]
    have HSK := Lib.hid (And.intro ((hsk w3.heap.size 0 (by omega)).trans c9) (And.intro ((hsk (w3.heap.size + 1 + 1 + 1) 0 (by omega)).trans c12) (And.intro ((hsk (w3.heap.size + 1 + 1 + 1) 1 (by omega)).trans c13) ((hsk (w3.heap.size + 1 + 1 + 1) 2 (by omega)).trans c14))))
    clear hsk
    have HX := Lib.hid (And.intro i1 (And.intro i3 (And.intro l3 (And.intro m2 hK))))
    clear i1 i3 i4 l1 l2 l3 m1 m2 hK HI hO5 hseq A4 HO3
    go_wp2_with fail
    go_region_held3 (fun z => z.cell? ⟨w3.heap.size, 0, none⟩ = some (.slice la (Ck.adds (addMU cs t) (Ck.parts n t)).length lc) ∧ z.cell? ⟨w3.heap.size + 1 + 1 + 1, 0, none⟩ = some (.int .i64 (prtU cs t)) ∧ z.cell? ⟨w3.heap.size + 1 + 1 + 1, 1, none⟩ = some (.int .i64 t.length) ∧ z.cell? ⟨w3.heap.size + 1 + 1 + 1, 2, none⟩ = some (.slice ma (Ck.parts n t).length mc)) (first | exact HSK.out | go_keep) (fail)
    go_wp2_with fail
    obtain ⟨z1, z2, z3⟩ := of_end (x := .int .i64 (prtU cs t)) (y := .int .i64 t.length) (z := .slice ma (Ck.parts n t).length mc) hgb rfl (by omega) hD HX.out.1 HX.out.2.1 HX.out.2.2.1 HX.out.2.2.2.1 HX.out.2.2.2.2
    refine ⟨by simp, .inl ⟨_, _, rfl, run_takeDeferred z1, ?_⟩⟩
    exact ⟨_, of_results _ _ _ _ _ _ rfl z2, _, _, rfl, z3⟩
  case hstop =>
    rintro D c pre W _ h _
    exact h.elim
end Go.Proofs.YtmlmdlbepppnlaaGreatDoor
namespace Go.Proofs.YtmlmdlbepppnlaaGreatDoor
open Go.RowKit
set_option linter.unusedVariables false
set_option linter.unusedSimpArgs false
attribute [local irreducible] Calls

set_option maxHeartbeats 1000000 in
set_option maxRecDepth 100000 in
theorem ints_c (lo hi lo2 hi2 : Nat) (v1 v2 : Value) (a b : List Int) (w : World) (h1 : Sl lo hi w v1 (a.map intD)) (h2 : Sl lo2 hi2 w v2 (b.map intD)) (ha : a.length ≤ 1000000000) (hb : b.length ≤ 1000000000) :
    Calls Tryz.prog 11 #[v1, v2] w fun e w' => e = .returned (.bool (decide (a = b))) ∧ Nw w w' := by
  obtain ⟨a1, c1, rfl, -, hc1⟩ := int_cells h1
  obtain ⟨a2, c2, rfl, -, hc2⟩ := int_cells h2
  have HC1 := Lib.hid hc1
  have HC2 := Lib.hid hc2
  have ha1 : (a.length : Int) ≤ 1000000000 := by omega
  have hb1 : (b.length : Int) ≤ 1000000000 := by omega
  clear h1 h2 hc1 hc2
  by_cases hlen : a.length = b.length
  · have hl1 : (a.length == b.length) = true := by simp [hlen]
    have hl2 : (a.length != b.length) = false := by simp [hlen]
    have HLen := Lib.hid hlen
    clear hlen
    go_enter Tryz.func11, Tryz.ntmps11
    go_wp2_with fail
    go_loopw [5] (fun iv wr => ∃ k : Nat, k ≤ a.length ∧ iv = .int .i64 (k : Int) ∧ Hid (∀ i (h : i < a.length) (h' : i < b.length), i < k → a[i] = b[i]) ∧ Hid (Nw w wr)) (fun iv _ => a.length - (intOf iv).toNat)
    case atStart => exact ⟨0, Nat.zero_le _, rfl, fun i _ _ h => by omega, Upd.refl _ _⟩
    case round =>
      obtain ⟨k, hk, rfl, HA, U⟩ := hrel
      by_cases hlt : k < a.length
      · have hlt2 : k < b.length := by have := HLen.out; omega
        rcases HC1.out with hnil | ⟨b1, o1, rfl, _, _, hcell1⟩
        · simp [hnil] at hlt
        rcases HC2.out with hnil | ⟨b2, o2, rfl, _, _, hcell2⟩
        · simp [hnil] at hlt2
        have k1 : ∀ i : Later wr, i.1.cell? ⟨b1, o1 + k, none⟩ = some (.int .i64 a[k]) := fun i => later_cell i (nw_cell U.out (hcell1 k hlt))
        have k2 : ∀ i : Later wr, i.1.cell? ⟨b2, o2 + k, none⟩ = some (.int .i64 b[k]) := fun i => later_cell i (nw_cell U.out (hcell2 k hlt2))
        have hlt3 : (k : Int) < a.length := by omega
        have hlt4 : (k : Int) < b.length := by omega
        have hno : Hid (a[k] ≠ b[k] → a ≠ b) := fun h e => h (by subst e; rfl)
        have hys : Hid (a[k] = b[k] → ∀ i (h : i < a.length) (h' : i < b.length), i < k + 1 → a[i] = b[i]) := fun e i h h' hi => by
          by_cases e2 : i = k
          · subst e2; exact e
          · exact HA.out i h h' (by omega)
        clear hcell1 hcell2
        generalize a[k] = x at *
        generalize b[k] = y at *
        by_cases hxy : x = y
        · have hz := Lib.hid (hys.out hxy)
          have e1 : (x == y) = true := by simp [hxy]
          have e2 : (x != y) = false := by simp [hxy]
          clear hno hys hxy
          go_wp2_with fail
          refine wp_region_nw (by kernel_rfl) (by kernel_rfl) ?_
          repeat (go_big_quiet_step ((fail)))
          refine wpQuiet_nil ?_
          intro w5 u5
          replace u5 := later_out u5
          go_wp2_with fail
          go_roundw
          case rel => exact ⟨k + 1, by omega, by go_num, hz, U.out.trans u5⟩
          case measure => simp [intOf]; omega
        · have hz : Hid (decide (a = b) = false) := decide_eq_false (hno.out hxy)
          have e1 : (x == y) = false := by simp [hxy]
          have e2 : (x != y) = true := by simp [hxy]
          clear hno hys hxy
          go_wp2_with fail
          refine wp_region_nw (by kernel_rfl) (by kernel_rfl) ?_
          repeat (go_big_quiet_step ((fail)))
          refine wpQuiet_nil ?_
          intro w5 u5
          replace u5 := later_out u5
          go_wp2_with fail
          go_ret
          exact ⟨by rw [hz.out]; rfl, U.out.trans u5⟩
      · obtain rfl : k = a.length := by omega
        have hz : Hid (decide (a = b) = true) := decide_eq_true (List.ext_getElem HLen.out (fun i h h' => HA.out i h h' h))
        go_wp2_with fail
        go_ret
        exact ⟨by rw [hz.out]; rfl, U.out⟩
  · have hl1 : (a.length == b.length) = false := by simp [hlen]
    have hl2 : (a.length != b.length) = true := by simp [hlen]
    have hz : Hid (decide (a = b) = false) := decide_eq_false (fun e => hlen (by rw [e]))
    clear hlen
    go_enter Tryz.func11, Tryz.ntmps11
    go_wp2_with fail
    go_ret
    exact ⟨by rw [hz.out]; rfl, Upd.refl _ _⟩
/-! ### cut -/
def otherB : List UInt8 := [111, 116, 104, 101, 114]
theorem owns_lit (w : World) (T : TypeId) (xs : List Value) (h : xs.length ≤ 1000) : (w.alloc (.cells xs.toArray T)).ownsRow w.heap.size T 1 (.slice (some ⟨w.heap.size, 0, none⟩) xs.length xs.length) xs.length xs :=
  ⟨by simp, Or.inr ⟨w.heap.size, xs.length, xs.toArray, rfl, Nat.le_refl _, heap_new w _, Nat.le_refl _, by unfold maxLen; omega, by simp, by simp⟩⟩
theorem cut_results (tmps : Array Value) (w : World) (b : Nat) (x y z : Value) (h5 : tmps.getD 5 undef = .pointer (some ⟨b, 0, none⟩)) (hb : w.heap[b]? = some (.cells #[x, y, z] tMan (0, 0))) : (results Tryz.f5 tmps).run Tryz.prog w = .ok (.tuple #[tmps.getD 4 undef, .agg #[x, y, z], tmps.getD 6 undef]) w := by
  have c0 : w.cell? ⟨b, 0, none⟩ = some x := by simp [World.cell?, hb]
  have c1 : w.cell? ⟨b, 1, none⟩ = some y := by simp [World.cell?, hb]
  have c2 : w.cell? ⟨b, 2, none⟩ = some z := by simp [World.cell?, hb]
  have h8 : tmps[5]?.getD undef = .pointer (some ⟨b, 0, none⟩) := by simpa using h5
  simp [results, Tryz.results5, go_sem, h8, c0, c1, c2]
set_option maxHeartbeats 2000000 in
set_option maxRecDepth 100000 in
theorem cut_c (t : List UInt8) (ht : t.length ≤ 60) (s : Nat) (hs : s < 256) (w : World) (g : Gl w) :
    Calls Tryz.prog 5 #[.string ⟨t.toArray⟩, .int .u8 s] w fun e w' => ∃ v kv, e = .returned (.tuple #[v, .agg #[.int .i64 (Ck.man [otherB] t (s % 9)).print, .int .i64 (Ck.man [otherB] t (s % 9)).size, kv], .bool true]) ∧ OfD w [otherB] t (s % 9) v kv w' := by
  have hgb := g.big
  have n1 := nw_alloc w (.cells #[.int .i64 0, .int .i64 0, .slice none 0 0] tMan)
  have b1 := heap_new w (.cells #[.int .i64 0, .int .i64 0, .slice none 0 0] tMan)
  have o2 := owns_lit (w.alloc (.cells #[.int .i64 0, .int .i64 0, .slice none 0 0] tMan)) tStrMU ([otherB].map bsMU) (by decide)
  have n2 := nw_alloc (w.alloc (.cells #[.int .i64 0, .int .i64 0, .slice none 0 0] tMan)) (.cells ([otherB].map bsMU).toArray tStrMU)
  have h9 : s % 9 ≤ 8 := by omega
  have hO := of_c _ _ [otherB] t (s % 9) h9 _ (g.upd (n1.trans n2)) o2 ⟨by decide, by decide⟩ (by show 1 + _ ≤ 85; omega) (by decide) ht
  have he : (((s % 9 : Nat) : Int) + 1) = 1 + ((s : Int) % 9) := by omega
  rw [he] at hO
  rw [World.size_alloc] at hO
  have HO : Hid (Calls Tryz.prog 33 #[.slice (some ⟨w.heap.size + 1, 0, none⟩) 1 1, .string ⟨t.toArray⟩, .int .i64 (1 + (s : Int) % 9)] ((w.alloc (.cells #[.int .i64 0, .int .i64 0, .slice none 0 0] tMan)).alloc (.cells #[.string ⟨#[111, 116, 104, 101, 114]⟩] 9)) _) := hO
  have HN := Lib.hid (n1.trans n2)
  have HB := Lib.hid (n2.keep b1)
  have hs1 : (s : Int) ≤ 255 := by omega
  clear n1 b1 o2 n2 hO he
  go_enter Tryz.func5, Tryz.ntmps5
  go_wp2_with fail
  (with_reducible refine (HO.out).mono ?_)
  rintro _ w2 ⟨v, kv, rfl, hd⟩
  have b2 := hd.nw.keep HB.out
  have hz2 := lt_of_block b2
  generalize hY1 : (Ck.man [otherB] t (s % 9)).print = mp at *
  generalize hY2 : (Ck.man [otherB] t (s % 9)).size = mz at *
  have HY1 := Lib.hid hY1
  have HY2 := Lib.hid hY2
  clear hY1 hY2
  have NT := HN.out.trans hd.nw
  have hkv := own_slG hd.row
  have hvv := own_slG hd.own
  have f0 := cells_frozen b2 0
  have f1 := cells_frozen b2 1
  have f2 := cells_frozen b2 2
  have k0 := cells_cell b2 0
  have k1 := cells_cell b2 1
  have k2 := cells_cell b2 2
  simp only [List.getElem?_toArray, List.getElem?_cons_succ, List.getElem?_cons_zero] at k0 k1 k2
  have UZ : Upd (fun k => k = w.heap.size) w2 (((w2.setCell ⟨w.heap.size, 0, none⟩ (.int .i64 mp)).setCell ⟨w.heap.size, 1, none⟩ (.int .i64 mz)).setCell ⟨w.heap.size, 2, none⟩ kv) :=
    (((Upd.refl (fun k => k = w.heap.size) _).set1 hgb 0 (.int .i64 mp)).set1 hgb 1 (.int .i64 mz)).set1 hgb 2 kv
  have bz : (((w2.setCell ⟨w.heap.size, 0, none⟩ (.int .i64 mp)).setCell ⟨w.heap.size, 1, none⟩ (.int .i64 mz)).setCell ⟨w.heap.size, 2, none⟩ kv).heap[w.heap.size]? = some (.cells #[.int .i64 mp, .int .i64 mz, kv] tMan (0, 0)) := by
    have h1 := setCell_block b2 0 (.int .i64 mp)
    have h2 := setCell_block h1 1 (.int .i64 mz)
    have h3 := setCell_block h2 2 kv
    simpa using h3
  have hsz : (((w2.setCell ⟨w.heap.size, 0, none⟩ (.int .i64 mp)).setCell ⟨w.heap.size, 1, none⟩ (.int .i64 mz)).setCell ⟨w.heap.size, 2, none⟩ kv).heap.size = w2.heap.size := by simp [World.setCell]
  have bn := heap_new (((w2.setCell ⟨w.heap.size, 0, none⟩ (.int .i64 mp)).setCell ⟨w.heap.size, 1, none⟩ (.int .i64 mz)).setCell ⟨w.heap.size, 2, none⟩ kv) (.cells #[.int .i64 mp, .int .i64 mz, kv] tMan)
  rw [hsz] at bn
  have bn2 := Nw.keep ((Upd.refl (fun _ => False) _).drew) bn
  have na := (nw_alloc (((w2.setCell ⟨w.heap.size, 0, none⟩ (.int .i64 mp)).setCell ⟨w.heap.size, 1, none⟩ (.int .i64 mz)).setCell ⟨w.heap.size, 2, none⟩ kv) (.cells #[.int .i64 mp, .int .i64 mz, kv] tMan)).drew
  have bz2 := Nw.keep na bz
  have HSK : Hid (_ ∧ _ ∧ _) := ⟨(cells_cell bn2 0), (cells_cell bn2 1), (cells_cell bn2 2)⟩
  have HD : Hid (OfD w [otherB] t (s % 9) v kv ((((w2.setCell ⟨w.heap.size, 0, none⟩ (.int .i64 mp)).setCell ⟨w.heap.size, 1, none⟩ (.int .i64 mz)).setCell ⟨w.heap.size, 2, none⟩ kv).alloc (.cells #[.int .i64 mp, .int .i64 mz, kv] tMan)).drew) := by
    have hle : w.heap.size ≤ ((w.alloc (.cells #[.int .i64 0, .int .i64 0, .slice none 0 0] tMan)).alloc (.cells ([otherB].map bsMU).toArray tStrMU)).heap.size := by simp; omega
    refine ⟨(NT.trans' UZ (fun k hk e => by omega)).trans na, owns_base (owns_upd' (owns_upd' hd.own UZ (fun k e e2 => ?_)) na (fun _ _ e => e)) hle, owns_base (owns_upd' (owns_upd' hd.row UZ (fun k e e2 => ?_)) na (fun _ _ e => e)) hle⟩
    · have := (hd.own.lt k e).1; simp at this; omega
    · have := (hd.row.lt k e).1; simp at this; omega
  obtain ⟨a1, cc1, rfl⟩ := hvv
  obtain ⟨a2, cc2, rfl⟩ := hkv
  have HBZ := Lib.hid bz2
  clear hd b2 na bn NT UZ bz bn2 HO bz2 hsz
  go_wp2_with fail
  go_region_held3 (fun y => y.cell? ⟨w2.heap.size, 0, none⟩ = some (.int .i64 mp) ∧ y.cell? ⟨w2.heap.size, 1, none⟩ = some (.int .i64 mz) ∧ y.cell? ⟨w2.heap.size, 2, none⟩ = some (.slice a2 (Ck.man [otherB] t (s % 9)).chunks.length cc2)) (first | exact HSK.out | go_keep) (fail)
  go_wp2_with fail
  (try simp only [Exit.inBlock, Exit.then])
  refine bodyPost_ret (cut_results _ _ _ _ _ _ rfl HBZ.out) rfl ?_
  exact ⟨_, _, by rw [HY1.out, HY2.out]; rfl, HD.out⟩
end Go.Proofs.YtmlmdlbepppnlaaGreatDoor
namespace Go.Proofs.YtmlmdlbepppnlaaGreatDoor
open Go.RowKit
set_option linter.unusedVariables false
set_option linter.unusedSimpArgs false
attribute [local irreducible] Calls

set_option maxRecDepth 100000 in
theorem rtext_c (lo hi : Nat) (v : Value) (l : List (List UInt8)) (n : Int) (w : World) (hv : Sl lo hi w v (l.map bsMU)) (hl : l.length ≤ 90) :
    Calls Tryz.prog 47 #[v, .int .i64 n] w fun e w' => e = .returned (.tuple #[.string ⟨(textAtU l n).toArray⟩, .bool (hasAtU l n)]) ∧ Nw w w' := by
  obtain ⟨a, cap, rfl, hc⟩ := strs_cellsU hv
  have HC := Lib.hid hc
  have hl1 : (l.length : Int) ≤ 90 := by omega
  clear hv hc hl
  by_cases h0 : n < 0
  · have d0 : decide (n < 0) = true := decide_eq_true h0
    have h1 : Hid (textAtU l n = [] ∧ hasAtU l n = false) := by
      refine ⟨?_, ?_⟩
      · unfold textAtU; rw [if_neg (by omega)]
      · unfold hasAtU; rw [decide_eq_false (by omega)]; rfl
    rw [h1.out.1, h1.out.2]
    clear h1 h0
    go_enter Tryz.func47, Tryz.ntmps47
    go_wp2_with fail
    go_ret2
    exact ⟨rfl, Upd.refl _ _⟩
  · obtain ⟨k, rfl⟩ : ∃ k : Nat, n = (k : Int) := ⟨n.toNat, by omega⟩
    have d0 : decide ((k : Int) < 0) = false := decide_eq_false h0
    by_cases h1 : k < l.length
    · have d1 : decide ((l.length : Int) ≤ (k : Int)) = false := decide_eq_false (by omega)
      rcases HC.out with hnil | ⟨b, off, rfl, hcell⟩
      · simp [hnil] at h1
      have c0 := hcell k h1
      have h2 : Hid (textAtU l (k : Int) = l[k] ∧ hasAtU l (k : Int) = true) := by
        refine ⟨?_, ?_⟩
        · unfold textAtU; rw [if_pos (by omega)]; simp [h1]
        · unfold hasAtU; simp [h1]
      rw [h2.out.1, h2.out.2]
      clear h2 hcell h0
      generalize l[k] = x at *
      have hk1 : (k : Int) < l.length := by omega
      go_enter Tryz.func47, Tryz.ntmps47
      go_wp2_with fail
      go_ret2
      exact ⟨rfl, Upd.refl _ _⟩
    · have d1 : decide ((l.length : Int) ≤ (k : Int)) = true := decide_eq_true (by omega)
      have h2 : Hid (textAtU l (k : Int) = [] ∧ hasAtU l (k : Int) = false) := by
        refine ⟨?_, ?_⟩
        · unfold textAtU; rw [if_pos (by omega)]; simp [List.getElem?_eq_none (Nat.le_of_not_lt h1)]
        · unfold hasAtU; simp; omega
      rw [h2.out.1, h2.out.2]
      clear h2 h0
      go_enter Tryz.func47, Tryz.ntmps47
      go_wp2_with fail
      go_ret2
      exact ⟨rfl, Upd.refl _ _⟩
/-- The text that is taken at an index. -/
def ownT (cs : List (List UInt8)) (mc : List Int) (i : Int) (odd : List UInt8) : List UInt8 := if odd ≠ [] ∨ i < 0 ∨ (mc.length : Int) ≤ i then odd else textAtU cs (mc.getD i.toNat 0)
set_option maxHeartbeats 1000000 in
set_option maxRecDepth 100000 in
theorem own_c (lo hi lo2 hi2 : Nat) (v : Value) (cs : List (List UInt8)) (p z : Int) (cv : Value) (l : List Int) (i : Int) (hi64 : I64 i) (t : List UInt8) (w : World) (hv : Sl lo hi w v (cs.map bsMU)) (hl : cs.length ≤ 90) (hc : Sl lo2 hi2 w cv (l.map intD)) (hl2 : l.length ≤ 1000000) :
    Calls Tryz.prog 16 #[v, .agg #[.int .i64 p, .int .i64 z, cv], .int .i64 i, .string ⟨t.toArray⟩] w fun e w' => e = .returned (.string ⟨(ownT cs l i t).toArray⟩) ∧ Nw w w' := by
  obtain ⟨a, cap, rfl, -, hcc⟩ := int_cells hc
  have n1 := nw_alloc w (.cells #[.int .i64 p, .int .i64 z, .slice a l.length cap] tManU)
  have HCC := Lib.hid (int_cells (hc.nw n1))
  have HT := Lib.hid (fun n : Int => rtext_c lo hi v cs n _ (hv.nw n1) hl)
  obtain ⟨a1, c1, rfl, -⟩ := strs_cellsU hv
  have hl3 : (l.length : Int) ≤ 1000000 := by omega
  have HU := Lib.hid n1
  clear hv hc hcc n1
  unfold I64 at hi64
  obtain ⟨hi1, hi2'⟩ := hi64
  by_cases ht : t = []
  · subst ht
    by_cases h0 : i < 0
    · have d0 : decide (i < 0) = true := decide_eq_true h0
      have hr : Hid (ownT cs l i [] = []) := by show _ = _; unfold ownT; rw [if_pos (Or.inr (Or.inl h0))]
      clear h0
      go_enter Tryz.func16, Tryz.ntmps16
      go_wp2_with fail
      go_ret
      exact ⟨by rw [hr.out]; rfl, HU.out⟩
    have d0 : decide (i < 0) = false := decide_eq_false h0
    by_cases h1 : (l.length : Int) ≤ i
    · have d1 : decide ((l.length : Int) ≤ i) = true := decide_eq_true h1
      have hr : Hid (ownT cs l i [] = []) := by show _ = _; unfold ownT; rw [if_pos (Or.inr (Or.inr h1))]
      clear h1 h0
      go_enter Tryz.func16, Tryz.ntmps16
      go_wp2_with fail
      go_ret
      exact ⟨by rw [hr.out]; rfl, HU.out⟩
    have d1 : decide ((l.length : Int) ≤ i) = false := decide_eq_false h1
    obtain ⟨k, rfl⟩ : ∃ k : Nat, i = k := ⟨i.toNat, by omega⟩
    have hk : k < l.length := by omega
    have hr : Hid (ownT cs l k [] = textAtU cs l[k]) := by
      show _ = _
      unfold ownT
      rw [if_neg (by rintro (h | h | h); exact h rfl; exact h0 h; exact h1 h)]
      simp [hk]
    rcases HCC.out with ⟨_, _, e, _, hnil | ⟨b, off, e2, _, _, hcell⟩⟩
    · simp [hnil] at hk
    injection e with e3 e4 e5
    subst e3 e5
    subst e2
    have c0 := hcell k hk
    have hk1 : (k : Int) < l.length := by omega
    have HT1 := Lib.hid (HT.out l[k])
    clear hcell h0 h1 HCC HT
    generalize l[k] = n at *
    go_enter Tryz.func16, Tryz.ntmps16
    go_wp2_with fail
    (with_reducible refine (HT1.out).mono ?_)
    rintro _ w2 ⟨rfl, u2⟩
    have HU2 := Lib.hid (HU.out.trans u2)
    clear u2 HT1
    go_wp2_with fail
    go_ret
    exact ⟨by rw [hr.out]; rfl, HU2.out⟩
  · have e1 : t.isEmpty = false := by cases t <;> simp_all
    have hr : Hid (ownT cs l i t = t) := by show _ = _; unfold ownT; rw [if_pos (Or.inl ht)]
    clear ht
    go_enter Tryz.func16, Tryz.ntmps16
    go_wp2_with fail
    go_ret
    exact ⟨by rw [hr.out]; rfl, HU.out⟩
end Go.Proofs.YtmlmdlbepppnlaaGreatDoor
namespace Go.Proofs.YtmlmdlbepppnlaaGreatDoor
open Go.RowKit
set_option linter.unusedVariables false
set_option linter.unusedSimpArgs false
attribute [local irreducible] Calls

set_option maxRecDepth 100000 in
theorem rhas_c (lo hi : Nat) (v : Value) (l : List Int) (t : Int) (w : World) (hv : Sl lo hi w v (l.map intD)) (hl : l.length ≤ 20000000) :
    Calls Tryz.prog 35 #[v, .int .i64 t] w fun e w' => e = .returned (.bool (decide (t ∈ l))) ∧ Nw w w' := by
  obtain ⟨a, cap, rfl, -, hc⟩ := int_cells hv
  have HC := Lib.hid hc
  have hl1 : (l.length : Int) ≤ 20000000 := by omega
  clear hv hc
  go_enter Tryz.func35, Tryz.ntmps35
  go_wp2_with fail
  go_loopw [5] (fun i wr => ∃ n : Nat, n ≤ l.length ∧ i = .int .i64 (n : Int) ∧ Hid (∀ j (h : j < l.length), j < n → l[j] ≠ t) ∧ w = wr) (fun i _ => l.length - (intOf i).toNat)
  case atStart => exact ⟨0, Nat.zero_le _, rfl, fun j _ h => absurd h (Nat.not_lt_zero _), rfl⟩
  case round =>
    obtain ⟨n, hn, rfl, hall, rfl⟩ := hrel
    by_cases hlt : n < l.length
    · have hlt1 : (n : Int) < l.length := by omega
      rcases HC.out with hnil | ⟨b, off, rfl, _, _, hcell⟩
      · simp [hnil] at hlt
      have c0 := hcell n hlt
      have hnext : l[n] ≠ t → Hid (∀ j (h : j < l.length), j < n + 1 → l[j] ≠ t) := fun e j h hj => by
        by_cases ej : j = n
        · subst ej; exact e
        · exact hall.out j h (by omega)
      have hstop : l[n] = t → Hid (decide (t ∈ l) = true) := fun e => decide_eq_true (e ▸ List.getElem_mem hlt)
      clear hcell
      generalize l[n] = x at *
      by_cases he : x = t
      · have hr := hstop he
        clear hstop hnext
        subst he
        go_wp2_with fail
        go_ret
        rw [hr.out]
        exact ⟨rfl, Upd.refl _ _⟩
      · have hz := hnext he
        have htt : (x == t) = false := by simp; exact he
        clear hstop hnext he
        go_wp2_with fail
        go_roundw
        case rel => exact ⟨n + 1, by omega, by go_num, hz.out, trivial⟩
        case measure => simp [intOf]; omega
    · obtain rfl : n = l.length := by omega
      have hr : Hid (decide (t ∈ l) = false) := decide_eq_false (fun h => by
        obtain ⟨j, hj, e⟩ := List.mem_iff_getElem.1 h
        exact hall.out j hj hj e)
      go_wp2_with fail
      go_ret
      rw [hr.out]
      exact ⟨rfl, Upd.refl _ _⟩
set_option maxRecDepth 100000 in
theorem rprint_c (lo hi : Nat) (v : Value) (cs : List (List UInt8)) (t : List UInt8) (w : World) (hv : Sl lo hi w v (cs.map bsMU)) (hl : cs.length ≤ 90) :
    Calls Tryz.prog 46 #[v, .string ⟨t.toArray⟩] w fun e w' => e = .returned (.int .i64 (idxI (fun x => decide (x = t)) cs)) ∧ Nw w w' := by
  obtain ⟨a, cap, rfl, hc⟩ := strs_cellsU hv
  have HC := Lib.hid hc
  have hl1 : (cs.length : Int) ≤ 90 := by omega
  clear hv hc hl
  go_enter Tryz.func46, Tryz.ntmps46
  go_wp2_with fail
  go_loopw [5] (fun i wr => ∃ n : Nat, n ≤ cs.length ∧ i = .int .i64 (n : Int) ∧ Hid (∀ j (h : j < cs.length), j < n → (decide (cs[j] = t)) = false) ∧ w = wr) (fun i _ => cs.length - (intOf i).toNat)
  case atStart => exact ⟨0, Nat.zero_le _, rfl, fun j _ h => absurd h (Nat.not_lt_zero _), rfl⟩
  case round =>
    obtain ⟨n, hn, rfl, hall, rfl⟩ := hrel
    by_cases hlt : n < cs.length
    · have hlt1 : (n : Int) < cs.length := by omega
      rcases HC.out with hnil | ⟨b, off, rfl, hcell⟩
      · simp [hnil] at hlt
      have c0 := hcell n hlt
      have hnext : cs[n] ≠ t → Hid (∀ j (h : j < cs.length), j < n + 1 → (decide (cs[j] = t)) = false) := fun e j h hj => by
        by_cases ej : j = n
        · subst ej; exact decide_eq_false e
        · exact hall.out j h (by omega)
      have hstop : cs[n] = t → Hid (idxI (fun x => decide (x = t)) cs = n) := fun e => idx_hit hlt (decide_eq_true e) hall.out
      clear hcell
      generalize cs[n] = x at *
      by_cases he : x = t
      · have hr := hstop he
        clear hstop hnext
        subst he
        go_wp2_with fail
        go_ret
        rw [hr.out]
        exact ⟨rfl, Upd.refl _ _⟩
      · have hz := hnext he
        have htt : (x == t) = false := by simp; exact he
        clear hstop hnext he
        go_wp2_with fail
        go_roundw
        case rel => exact ⟨n + 1, by omega, by go_num, hz.out, trivial⟩
        case measure => simp [intOf]; omega
    · obtain rfl : n = cs.length := by omega
      have hr : Hid (idxI (fun x => decide (x = t)) cs = -1) := idx_miss (fun j h => hall.out j h h)
      go_wp2_with fail
      go_ret
      rw [hr.out]
      exact ⟨rfl, Upd.refl _ _⟩
set_option maxRecDepth 100000 in
theorem rcheck_c (lo hi lo2 hi2 : Nat) (v : Value) (cs : List (List UInt8)) (p z : Int) (cv : Value) (l : List Int) (i : Int) (hi64 : I64 i) (t : List UInt8) (w : World) (hv : Sl lo hi w v (cs.map bsMU)) (hl : cs.length ≤ 90) (hc : Sl lo2 hi2 w cv (l.map intD)) (hl2 : l.length ≤ 1000000) :
    Calls Tryz.prog 50 #[v, .agg #[.int .i64 p, .int .i64 z, cv], .int .i64 i, .string ⟨t.toArray⟩] w fun e w' => e = .returned (.bool (Ft.checkM cs l i t)) ∧ Nw w w' := by
  obtain ⟨a, cap, rfl, -, hcc⟩ := int_cells hc
  have HC := Lib.hid (hc.nw (nw_alloc w (.cells #[.int .i64 p, .int .i64 z, .slice a l.length cap] tManU)))
  have HCC := Lib.hid (int_cells HC.out)
  have n1 := nw_alloc w (.cells #[.int .i64 p, .int .i64 z, .slice a l.length cap] tManU)
  have HT := Lib.hid (fun n : Int => rtext_c lo hi v cs n _ (hv.nw n1) hl)
  obtain ⟨a1, c1, rfl, -⟩ := strs_cellsU hv
  have hl3 : (l.length : Int) ≤ 1000000 := by omega
  have HU := Lib.hid n1
  clear hv hc hcc n1
  unfold I64 at hi64
  obtain ⟨hi1, hi2'⟩ := hi64
  by_cases h0 : i < 0
  · have d0 : decide (i < 0) = true := decide_eq_true h0
    have hr : Hid (Ft.checkM cs l i t = false) := by
      show _ = _
      unfold Ft.checkM; rw [decide_eq_false (show ¬ 0 ≤ i by omega)]; rfl
    clear h0
    go_enter Tryz.func50, Tryz.ntmps50
    go_wp2_with fail
    go_ret
    exact ⟨by rw [hr.out]; rfl, HU.out⟩
  have d0 : decide (i < 0) = false := decide_eq_false h0
  by_cases h1 : (l.length : Int) ≤ i
  · have d1 : decide ((l.length : Int) ≤ i) = true := decide_eq_true h1
    have hr : Hid (Ft.checkM cs l i t = false) := by
      show _ = _
      unfold Ft.checkM; rw [decide_eq_false (show ¬ i < l.length by omega)]; simp
    clear h1 h0
    go_enter Tryz.func50, Tryz.ntmps50
    go_wp2_with fail
    go_ret
    exact ⟨by rw [hr.out]; rfl, HU.out⟩
  have d1 : decide ((l.length : Int) ≤ i) = false := decide_eq_false h1
  obtain ⟨k, rfl⟩ : ∃ k : Nat, i = k := ⟨i.toNat, by omega⟩
  have hk : k < l.length := by omega
  have hr : Hid (Ft.checkM cs l k t = (hasAtU cs l[k] && decide (textAtU cs l[k] = t))) := by
    show _ = _
    unfold Ft.checkM
    rw [decide_eq_true (show (0 : Int) ≤ (k : Int) by omega), decide_eq_true (show (k : Int) < l.length by omega)]
    simp [hk]
  rcases HCC.out with ⟨_, _, e, _, hnil | ⟨b, off, e2, _, _, hcell⟩⟩
  · simp [hnil] at hk
  injection e with e3 e4 e5
  subst e3 e5
  subst e2
  have c0 := hcell k hk
  have hk1 : (k : Int) < l.length := by omega
  have HT1 := Lib.hid (HT.out l[k])
  clear hcell h0 h1 HCC HC HT
  generalize l[k] = n at *
  have htt : (textAtU cs n == t) = decide (textAtU cs n = t) := by rw [Bool.eq_iff_iff]; simp
  go_enter Tryz.func50, Tryz.ntmps50
  go_wp2_with fail
  (with_reducible refine (HT1.out).mono ?_)
  rintro _ w2 ⟨rfl, u2⟩
  have HU2 := Lib.hid (HU.out.trans u2)
  clear u2 HT1
  cases hh : hasAtU cs n with
  | false =>
    rw [hh] at hr
    have hr2 : Hid (Ft.checkM cs l k t = false) := hr.out
    clear hr hh
    go_wp2_with fail
    go_ret
    exact ⟨by rw [hr2.out]; rfl, HU2.out⟩
  | true =>
    rw [hh] at hr
    have hr2 : Hid (Ft.checkM cs l k t = decide (textAtU cs n = t)) := hr.out
    clear hr hh
    go_wp2_with fail
    go_ret
    exact ⟨by rw [hr2.out, ← htt]; rfl, HU2.out⟩
end Go.Proofs.YtmlmdlbepppnlaaGreatDoor
namespace Go.Proofs.YtmlmdlbepppnlaaGreatDoor
open Go.RowKit
set_option linter.unusedVariables false
set_option linter.unusedSimpArgs false
attribute [local irreducible] Calls

theorem mem_take_succ {b : List Int} {k : Nat} (h : k < b.length) (x : Int) : decide (x ∈ b.take (k + 1)) = (decide (x ∈ b.take k) || decide (x = b[k])) := by
  rw [List.take_succ_eq_append_getElem h, Bool.eq_iff_iff, decide_eq_true_iff, Bool.or_eq_true, decide_eq_true_iff, decide_eq_true_iff, List.mem_append, List.mem_singleton]
end Go.Proofs.YtmlmdlbepppnlaaGreatDoor
namespace Go.Proofs.YtmlmdlbepppnlaaGreatDoor
open Go.RowKit
set_option linter.unusedVariables false
set_option linter.unusedSimpArgs false
attribute [local irreducible] Calls

set_option maxHeartbeats 2000000 in
set_option maxRecDepth 100000 in
theorem rmissing_c (lo hi lo2 hi2 : Nat) (p z : Int) (cv : Value) (l : List Int) (hv : Value) (have_ : List Int) (w : World) (g : Gl w) (hc : Sl lo hi w cv (l.map intD)) (hh : Sl lo2 hi2 w hv (have_.map intD)) (hl : l.length ≤ 1000000) (hl2 : have_.length ≤ 20000000) :
    Calls Tryz.prog 56 #[.agg #[.int .i64 p, .int .i64 z, cv], hv] w fun e w' => ∃ v', e = .returned v' ∧ w'.ownsRow w.heap.size 3 1 v' (Ft.miss l have_).length ((Ft.miss l have_).map intD) ∧ Nw w w' := by
  have hgb := g.big
  obtain ⟨a, cap, rfl, -, -⟩ := int_cells hc
  have n1 := nw_alloc w (.cells #[.int .i64 p, .int .i64 z, .slice a l.length cap] tManU)
  have b1 := heap_new w (.cells #[.int .i64 p, .int .i64 z, .slice a l.length cap] tManU)
  obtain ⟨W, hW⟩ : ∃ W, W = w.alloc (.cells #[.int .i64 p, .int .i64 z, .slice a l.length cap] tManU) := ⟨_, rfl⟩
  rw [← hW] at n1 b1
  have m2 : W.cell? ⟨w.heap.size, 2, none⟩ = some (.slice a l.length cap) := by rw [cells_cell b1]; rfl
  have HM := Lib.hid m2
  have HC := Lib.hid (int_cells (hc.nw n1))
  have HH := Lib.hid (int_cells (hh.nw n1))
  obtain ⟨ah, caph, rfl, -, -⟩ := int_cells hh
  have hl3 : (l.length : Int) ≤ 1000000 := by omega
  have hl4 : (have_.length : Int) ≤ 20000000 := by omega
  have HU := Lib.hid n1
  have hz1 : W.heap.size = w.heap.size + 1 := by rw [hW]; simp
  have HS := Lib.hid hz1
  clear hc hh n1 b1 m2 hz1
  go_enter Tryz.func56, Tryz.ntmps56
  go_upto_region 1 with fail
  rw [← hW]
  clear hW
  go_wp2_with fail
  go_loopw [5, 6] (fun vo iv wr => ∃ n : Nat, n ≤ l.length ∧ iv = .int .i64 (n : Int) ∧ Hid (wr.ownsRow (w.heap.size + 1) 3 1 vo (Ft.miss (l.take n) have_).length ((Ft.miss (l.take n) have_).map intD)) ∧ Hid (Nw W wr)) (fun vo iv _ => l.length - (intOf iv).toNat)
  case atStart => exact ⟨0, Nat.zero_le _, rfl, World.ownsRow_nil _ _ _ _, Upd.refl _ _⟩
  case round =>
    obtain ⟨n, hn, rfl, HO, U⟩ := hrel
    obtain ⟨ao, capo, rfl⟩ := own_slG HO.out
    have mm := nw_cell U.out HM.out
    by_cases hlt : n < l.length
    · rcases HC.out with ⟨_, _, e, _, hnil | ⟨b, off, e2, _, _, hcell⟩⟩
      · simp [hnil] at hlt
      injection e with e3 e4 e5
      subst e3 e5
      subst e2
      have HX := Lib.hid (nw_cell U.out (hcell n hlt))
      have hlt1 : (n : Int) < l.length := by omega
      have HT := Lib.hid (miss_take (hv := have_) hlt)
      have hml := Ft.miss_len (l.take n) have_
      rw [List.length_take] at hml
      have hml2 : (Ft.miss (l.take n) have_).length ≤ 1000000 := by omega
      clear hcell hml
      generalize l[n] = x at *
      obtain ⟨wo, hwo⟩ : ∃ y, y = wr := ⟨_, rfl⟩
      subst hwo
      go_wp2_with fail
      go_loopw [7, 8] (fun fv kv wr => ∃ (k : Nat) (f : Bool), k ≤ have_.length ∧ kv = .int .i64 (k : Int) ∧ fv = .bool f ∧ Hid (f = decide (x ∈ have_.take k)) ∧ Hid (Nw wo wr)) (fun fv kv _ => have_.length - (intOf kv).toNat)
      case atStart => exact ⟨0, false, Nat.zero_le _, rfl, rfl, by show _ = _; simp, Upd.refl _ _⟩
      case round =>
        obtain ⟨k, f, hk, rfl, rfl, HF, UI⟩ := hrel
        by_cases hkl : k < have_.length
        · rcases HH.out with ⟨_, _, e, _, hnil | ⟨b2, o2, e2, _, _, hcell2⟩⟩
          · simp [hnil] at hkl
          injection e with e3 e4 e5
          subst e3 e5
          subst e2
          have hkl1 : (k : Int) < have_.length := by omega
          have c1 := nw_cell (U.out.trans UI.out) (hcell2 k hkl)
          have k0 : ∀ j : Later wr, j.1.cell? ⟨b, off + n, none⟩ = some (.int .i64 x) := fun j => later_cell j (nw_cell UI.out HX.out)
          have k1 : ∀ j : Later wr, j.1.cell? ⟨b2, o2 + k, none⟩ = some (.int .i64 have_[k]) := fun j => later_cell j c1
          have k2 : ∀ j : Later wr, j.1.cell? ⟨w.heap.size, 2, none⟩ = some (.slice (some ⟨b, off, none⟩) l.length cap) := fun j => later_cell j (nw_cell UI.out mm)
          have hst := mem_take_succ hkl x
          rw [← HF.out] at hst
          have HST := Lib.hid hst
          clear hcell2 hst HF c1
          generalize have_[k] = y at *
          cases f with
          | true =>
            have hf2 : Hid (true = decide (x ∈ have_.take (k + 1))) := by show _ = _; rw [HST.out]; rfl
            clear HST
            go_wp2_with fail
            refine wp_region_nw (by kernel_rfl) (by kernel_rfl) ?_
            repeat (go_big_quiet_step ((fail)))
            refine wpQuiet_nil ?_
            intro w5 u5
            replace u5 := later_out u5
            go_wp2_with fail
            go_roundw
            case rel => exact ⟨k + 1, true, by omega, by go_num, rfl, hf2, UI.out.trans u5⟩
            case measure => simp [intOf]; omega
          | false =>
            have hxy : (y == x) = decide (x = y) := by rw [Bool.eq_iff_iff]; simp; exact eq_comm
            have hf2 : Hid ((y == x) = decide (x ∈ have_.take (k + 1))) := by show _ = _; rw [HST.out, hxy]; rfl
            clear HST hxy
            go_wp2_with fail
            refine wp_region_nw (by kernel_rfl) (by kernel_rfl) ?_
            repeat (go_big_quiet_step ((fail)))
            refine wpQuiet_nil ?_
            intro w5 u5
            replace u5 := later_out u5
            go_wp2_with fail
            go_roundw
            case rel => exact ⟨k + 1, (y == x), by omega, by go_num, rfl, hf2, UI.out.trans u5⟩
            case measure => simp [intOf]; omega
        · obtain rfl : k = have_.length := by omega
          have hf := HF.out
          rw [List.take_length] at hf
          clear HF
          have HO2 := Lib.hid (owns_upd' HO.out UI.out (fun _ _ e => e))
          have hU2 := Lib.hid (U.out.trans UI.out)
          cases f with
          | true =>
            have hm := of_decide_eq_true hf.symm
            have hfin : Hid (wr.ownsRow (w.heap.size + 1) 3 1 (.slice ao (Ft.miss (l.take n) have_).length capo) (Ft.miss (l.take (n + 1)) have_).length ((Ft.miss (l.take (n + 1)) have_).map intD)) := by
              show wr.ownsRow _ _ _ _ _ _
              rw [HT.out, if_pos hm, List.append_nil]; exact HO2.out
            clear hf HT hm
            go_wp2_with fail
            go_roundw
            case rel => exact ⟨n + 1, by omega, by go_num, hfin, hU2⟩
            case measure => simp [intOf]; omega
          | false =>
            have hm := of_decide_eq_false hf.symm
            have HT2 : Hid (Ft.miss (l.take (n + 1)) have_ = Ft.miss (l.take n) have_ ++ [(n : Int)]) := by
              have := HT.out
              rw [if_neg hm] at this
              exact this
            have hsz : w.heap.size + 1 ≤ wr.heap.size := by have := hU2.out.size; rw [HS.out] at this; exact this
            clear hf HT hm
            go_wp2_with (at_builtin; refine wpList_appL rfl _ _ 26 rfl (w.heap.size + 1) 3 _ 1 8 Tryz.underlying26 infoIntU rfl (by decide) _ _ _ rfl HO2.out [.int .i64 (n : Int)] rfl rfl ?c1 ?c2 ?c3 hsz (by omega) ?_)
            case c1 => intro u hu; rw [List.mem_singleton.1 hu]; rfl
            case c2 => unfold maxLen; omega
            case c3 => omega
            intro v' w9 hown9 u9 hob
            obtain ⟨a9, cap9, rfl⟩ := own_slG hown9
            have hfin : Hid (w9.ownsRow (w.heap.size + 1) 3 1 (.slice a9 ((Ft.miss (l.take n) have_).length + 1) cap9) (Ft.miss (l.take (n + 1)) have_).length ((Ft.miss (l.take (n + 1)) have_).map intD)) := by
              show w9.ownsRow _ _ _ _ _ _
              rw [HT2.out, List.length_append, List.length_singleton, List.map_append]
              exact hown9
            have hU := Lib.hid (hU2.out.trans' u9 (fun j hj e => by
              have h1 := (HO2.out.lt j e).1
              have := HS.out; omega))
            clear hown9 u9 hob
            go_wp2_with fail
            go_roundw
            case rel => exact ⟨n + 1, by omega, by go_num, hfin, hU⟩
            case measure => simp [intOf]; omega
    · obtain rfl : n = l.length := by omega
      simp only [List.take_length] at HO ⊢
      go_wp2_with fail
      go_ret
      exact ⟨_, rfl, owns_base HO.out (by omega), HU.out.trans U.out⟩
end Go.Proofs.YtmlmdlbepppnlaaGreatDoor
namespace Go.Proofs.YtmlmdlbepppnlaaGreatDoor
open Go.RowKit
set_option linter.unusedVariables false
set_option linter.unusedSimpArgs false
attribute [local irreducible] Calls

theorem flat_succ {C : List (Value × List Int)} {k : Nat} (h : k < C.length) (x : Int) : decide (x ∈ ((C.take (k + 1)).map (·.2)).flatten) = (decide (x ∈ ((C.take k).map (·.2)).flatten) || decide (x ∈ C[k].2)) := by
  rw [List.take_succ_eq_append_getElem h, List.map_append, List.flatten_append, Bool.eq_iff_iff, decide_eq_true_iff, Bool.or_eq_true, decide_eq_true_iff, decide_eq_true_iff, List.mem_append]
  simp
set_option maxHeartbeats 2000000 in
set_option maxRecDepth 100000 in
theorem rshort_c (lo hi : Nat) (p z : Int) (cv : Value) (l : List Int) (hv : Value) (C : List (Value × List Int)) (w : World) (g : Gl w) (hc : Sl lo hi w cv (l.map intD)) (hh : RowsI w hv C) (hl : l.length ≤ 1000000) (hl2 : C.length ≤ 1000000) (hl5 : ∀ c ∈ C, c.2.length ≤ 1000000) :
    Calls Tryz.prog 13 #[.agg #[.int .i64 p, .int .i64 z, cv], hv] w fun e w' => ∃ v', e = .returned v' ∧ w'.ownsRow w.heap.size 3 1 v' (Ft.miss l (C.map (·.2)).flatten).length ((Ft.miss l (C.map (·.2)).flatten).map intD) ∧ Nw w w' := by
  have hgb := g.big
  obtain ⟨a, cap, rfl, -, -⟩ := int_cells hc
  have n1 := nw_alloc w (.cells #[.int .i64 p, .int .i64 z, .slice a l.length cap] tManU)
  have b1 := heap_new w (.cells #[.int .i64 p, .int .i64 z, .slice a l.length cap] tManU)
  obtain ⟨W, hW⟩ : ∃ W, W = w.alloc (.cells #[.int .i64 p, .int .i64 z, .slice a l.length cap] tManU) := ⟨_, rfl⟩
  rw [← hW] at n1 b1
  have m2 : W.cell? ⟨w.heap.size, 2, none⟩ = some (.slice a l.length cap) := by rw [cells_cell b1]; rfl
  have HM := Lib.hid m2
  have HC := Lib.hid (int_cells (hc.nw n1))
  have HH := Lib.hid (hh.nw n1).cells
  have HE := Lib.hid (hh.nw n1).each
  obtain ⟨ah, caph, rfl, -, -⟩ := hh.cells
  have hl3 : (l.length : Int) ≤ 1000000 := by omega
  have hl4 : (C.length : Int) ≤ 1000000 := by omega
  have HU := Lib.hid n1
  have hz1 : W.heap.size = w.heap.size + 1 := by rw [hW]; simp
  have HS := Lib.hid hz1
  clear hc hh n1 b1 m2 hz1
  go_enter Tryz.func13, Tryz.ntmps13
  go_upto_region 1 with fail
  rw [← hW]
  clear hW
  go_wp2_with fail
  go_loopw [5, 6] (fun vo iv wr => ∃ n : Nat, n ≤ l.length ∧ iv = .int .i64 (n : Int) ∧ Hid (wr.ownsRow (w.heap.size + 1) 3 1 vo (Ft.miss (l.take n) (C.map (·.2)).flatten).length ((Ft.miss (l.take n) (C.map (·.2)).flatten).map intD)) ∧ Hid (Nw W wr)) (fun vo iv _ => l.length - (intOf iv).toNat)
  case atStart => exact ⟨0, Nat.zero_le _, rfl, World.ownsRow_nil _ _ _ _, Upd.refl _ _⟩
  case round =>
    obtain ⟨n, hn, rfl, HO, U⟩ := hrel
    obtain ⟨ao, capo, rfl⟩ := own_slG HO.out
    have mm := nw_cell U.out HM.out
    by_cases hlt : n < l.length
    · rcases HC.out with ⟨_, _, e, _, hnil | ⟨b, off, e2, _, _, hcell⟩⟩
      · simp [hnil] at hlt
      injection e with e3 e4 e5
      subst e3 e5
      subst e2
      have HX := Lib.hid (nw_cell U.out (hcell n hlt))
      have hlt1 : (n : Int) < l.length := by omega
      have HT := Lib.hid (miss_take (hv := (C.map (·.2)).flatten) hlt)
      have hml := Ft.miss_len (l.take n) (C.map (·.2)).flatten
      rw [List.length_take] at hml
      have hml2 : (Ft.miss (l.take n) (C.map (·.2)).flatten).length ≤ 1000000 := by omega
      clear hcell hml
      generalize l[n] = x at *
      obtain ⟨wo, hwo⟩ : ∃ y, y = wr := ⟨_, rfl⟩
      subst hwo
      go_wp2_with fail
      go_loopw [7, 8] (fun fv kv wr => ∃ (k : Nat) (f : Bool), k ≤ C.length ∧ kv = .int .i64 (k : Int) ∧ fv = .bool f ∧ Hid (f = decide (x ∈ ((C.take k).map (·.2)).flatten)) ∧ Hid (Nw wo wr)) (fun fv kv _ => C.length - (intOf kv).toNat)
      case atStart => exact ⟨0, false, Nat.zero_le _, rfl, rfl, by show _ = _; simp, Upd.refl _ _⟩
      case round =>
        obtain ⟨k, f, hk, rfl, rfl, HF, UI⟩ := hrel
        by_cases hkl : k < C.length
        · rcases HH.out with ⟨_, _, e, _, hnil | ⟨b2, o2, e2, _, hcell2⟩⟩
          · simp [hnil] at hkl
          injection e with e3 e4 e5
          subst e3 e5
          subst e2
          have hkl1 : (k : Int) < C.length := by omega
          have c1 := nw_cell (U.out.trans UI.out) (hcell2 k hkl)
          have k0 : ∀ j : Later wr, j.1.cell? ⟨b, off + n, none⟩ = some (.int .i64 x) := fun j => later_cell j (nw_cell UI.out HX.out)
          obtain ⟨lo3, hi3, hs3⟩ := HE.out C[k] (List.getElem_mem hkl)
          have hl6 := hl5 C[k] (List.getElem_mem hkl)
          obtain ⟨ar, cr, hvr, -, -⟩ := int_cells hs3
          rw [hvr] at c1
          have k1 : ∀ j : Later wr, j.1.cell? ⟨b2, o2 + k, none⟩ = some (.slice ar C[k].2.length cr) := fun j => later_cell j c1
          have k2 : ∀ j : Later wr, j.1.cell? ⟨w.heap.size, 2, none⟩ = some (.slice (some ⟨b, off, none⟩) l.length cap) := fun j => later_cell j (nw_cell UI.out mm)
          have hst := flat_succ hkl x
          rw [← HF.out] at hst
          have HST := Lib.hid hst
          have HHas := Lib.hid (fun (y : World) (u : Nw wr y) => rhas_c _ _ _ C[k].2 x y (hs3.nw ((U.out.trans UI.out).trans u)) (Nat.le_trans hl6 (by decide)))
          rw [hvr] at HHas
          clear hcell2 hst HF hs3 hl6 hvr
          cases f with
          | true =>
            have hf2 : Hid (true = decide (x ∈ ((C.take (k + 1)).map (·.2)).flatten)) := by show _ = _; rw [HST.out]; rfl
            clear HST HHas c1
            generalize C[k].2.length = ln at *
            go_wp2_with fail
            refine wp_region_nw (by kernel_rfl) (by kernel_rfl) ?_
            repeat (go_big_quiet_step ((fail)))
            refine wpQuiet_nil ?_
            intro w5 u5
            replace u5 := later_out u5
            go_wp2_with fail
            go_roundw
            case rel => exact ⟨k + 1, true, by omega, by go_num, rfl, hf2, UI.out.trans u5⟩
            case measure => simp [intOf]; omega
          | false =>
            have hf2 : Hid (decide (x ∈ C[k].2) = decide (x ∈ ((C.take (k + 1)).map (·.2)).flatten)) := by show _ = _; rw [HST.out]; rfl
            clear HST c1
            generalize decide (x ∈ C[k].2) = fq at *
            generalize C[k].2.length = ln at *
            go_wp2_with fail
            refine wp_region_nw (by kernel_rfl) (by kernel_rfl) ?_
            repeat (go_big_quiet_step ((go_at_call 35; exact later_call (HHas.out _ (Later.nw _)))))
            refine wpQuiet_nil ?_
            intro w5 u5
            replace u5 := later_out u5
            go_wp2_with fail
            go_roundw
            case rel => exact ⟨k + 1, fq, by omega, by go_num, rfl, hf2, UI.out.trans u5⟩
            case measure => simp [intOf]; omega
        · obtain rfl : k = C.length := by omega
          have hf := HF.out
          rw [List.take_length] at hf
          clear HF
          have HO2 := Lib.hid (owns_upd' HO.out UI.out (fun _ _ e => e))
          have hU2 := Lib.hid (U.out.trans UI.out)
          cases f with
          | true =>
            have hm := of_decide_eq_true hf.symm
            have hfin : Hid (wr.ownsRow (w.heap.size + 1) 3 1 (.slice ao (Ft.miss (l.take n) (C.map (·.2)).flatten).length capo) (Ft.miss (l.take (n + 1)) (C.map (·.2)).flatten).length ((Ft.miss (l.take (n + 1)) (C.map (·.2)).flatten).map intD)) := by
              show wr.ownsRow _ _ _ _ _ _
              rw [HT.out, if_pos hm, List.append_nil]; exact HO2.out
            clear hf HT hm
            go_wp2_with fail
            go_roundw
            case rel => exact ⟨n + 1, by omega, by go_num, hfin, hU2⟩
            case measure => simp [intOf]; omega
          | false =>
            have hm := of_decide_eq_false hf.symm
            have HT2 : Hid (Ft.miss (l.take (n + 1)) (C.map (·.2)).flatten = Ft.miss (l.take n) (C.map (·.2)).flatten ++ [(n : Int)]) := by
              have := HT.out
              rw [if_neg hm] at this
              exact this
            have hsz : w.heap.size + 1 ≤ wr.heap.size := by have := hU2.out.size; rw [HS.out] at this; exact this
            clear hf HT hm
            go_wp2_with (at_builtin; refine wpList_appL rfl _ _ 26 rfl (w.heap.size + 1) 3 _ 1 8 Tryz.underlying26 infoIntU rfl (by decide) _ _ _ rfl HO2.out [.int .i64 (n : Int)] rfl rfl ?c1 ?c2 ?c3 hsz (by omega) ?_)
            case c1 => first | (intro u hu; rw [List.mem_singleton.1 hu]; rfl) | rfl
            case c2 => unfold maxLen; omega
            case c3 => omega
            intro v' w9 hown9 u9 hob
            obtain ⟨a9, cap9, rfl⟩ := own_slG hown9
            have hfin : Hid (w9.ownsRow (w.heap.size + 1) 3 1 (.slice a9 ((Ft.miss (l.take n) (C.map (·.2)).flatten).length + 1) cap9) (Ft.miss (l.take (n + 1)) (C.map (·.2)).flatten).length ((Ft.miss (l.take (n + 1)) (C.map (·.2)).flatten).map intD)) := by
              show w9.ownsRow _ _ _ _ _ _
              rw [HT2.out, List.length_append, List.length_singleton, List.map_append]
              exact hown9
            have hU := Lib.hid (hU2.out.trans' u9 (fun j hj e => by
              have h1 := (HO2.out.lt j e).1
              have := HS.out; omega))
            clear hown9 u9 hob
            go_wp2_with fail
            go_roundw
            case rel => exact ⟨n + 1, by omega, by go_num, hfin, hU⟩
            case measure => simp [intOf]; omega
    · obtain rfl : n = l.length := by omega
      simp only [List.take_length] at HO ⊢
      go_wp2_with fail
      go_ret
      exact ⟨_, rfl, owns_base HO.out (by omega), HU.out.trans U.out⟩
end Go.Proofs.YtmlmdlbepppnlaaGreatDoor
namespace Go.Proofs.YtmlmdlbepppnlaaGreatDoor
open Go.RowKit
set_option linter.unusedVariables false
set_option linter.unusedSimpArgs false
attribute [local irreducible] Calls

theorem rplan_results (tmps : Array Value) (w : World) : (results Tryz.f8 tmps).run Tryz.prog w = .ok (.tuple #[tmps.getD 4 undef, tmps.getD 5 undef]) w := by
  simp [results, Tryz.results8, go_sem]
set_option maxHeartbeats 4000000 in
set_option maxRecDepth 100000 in
theorem rplan_c (lo hi : Nat) (p z : Int) (cv : Value) (l : List Int) (v : Value) (C : List (Value × List Int)) (w : World) (g : Gl w) (hc : Sl lo hi w cv (l.map intD)) (hl : l.length ≤ 1000000) (h : RowsI w v C) (hC : C.length ≤ 1000000) (hT : totL C ≤ 1000000) (hE : ∀ c ∈ C, c.2.length ≤ 1000000) :
    Calls Tryz.prog 8 #[.agg #[.int .i64 p, .int .i64 z, cv], v] w (PlanD w l (C.map (·.2))) := by
  have hgb := g.big
  obtain ⟨a, cap, rfl, -, -⟩ := int_cells hc
  have n1 := nw_alloc w (.cells #[.int .i64 p, .int .i64 z, .slice a l.length cap] tManU)
  have b1 := heap_new w (.cells #[.int .i64 p, .int .i64 z, .slice a l.length cap] tManU)
  have HC := Lib.hid (int_cells (hc.nw n1))
  have HE := Lib.hid (fun c hc => And.intro (h.each c hc) (hE c hc))
  have HS := Lib.hid (rshort_c lo hi p z _ l v C _ (g.upd n1) (hc.nw n1) (h.nw n1) hl hC hE)
  have HCC := Lib.hid h.cells
  obtain ⟨av, cv2, rfl, -, -⟩ := h.cells
  have hl1 : (l.length : Int) ≤ 1000000 := by omega
  have hC1 : (C.length : Int) ≤ 1000000 := by omega
  have HU := Lib.hid n1
  have HB := Lib.hid (fun (y : World) (u : Nw (w.alloc (.cells #[.int .i64 p, .int .i64 z, .slice a l.length cap] tManU)) y) => (show y.cell? ⟨w.heap.size, 2, none⟩ = some (.slice a l.length cap) from by rw [cells_cell (Nw.keep u b1)]; rfl))
  have hll : (C.map (·.2)).length = C.length := List.length_map _
  have Hll := Lib.hid hll
  clear hc h n1 b1 hE hll
  by_cases hf : 20 < C.length ∨ 1000 < l.length
  · have hfin := Lib.hid (fun (y : World) (u : Nw w y) => plan_full (ls := C.map (·.2)) (by rw [Hll.out]; exact hf) u)
    by_cases h20 : 20 < C.length
    · have d1 : decide ((20 : Int) < C.length) = true := decide_eq_true (by omega)
      clear hf h20
      go_enter Tryz.func8, Tryz.ntmps8
      go_wp2_with fail
      (try simp only [Exit.inBlock, Exit.then])
      refine bodyPost_ret (rplan_results _ _) rfl ?_
      exact hfin.out _ HU.out
    · have d1 : decide ((20 : Int) < C.length) = false := decide_eq_false (by omega)
      have d2 : decide ((1000 : Int) < l.length) = true := decide_eq_true (by omega)
      clear hf h20
      go_enter Tryz.func8, Tryz.ntmps8
      go_wp2_with fail
      (try simp only [Exit.inBlock, Exit.then])
      refine bodyPost_ret (rplan_results _ _) rfl ?_
      exact hfin.out _ HU.out
  have d1 : decide ((20 : Int) < C.length) = false := decide_eq_false (by omega)
  have d2 : decide ((1000 : Int) < l.length) = false := decide_eq_false (by omega)
  have hC2 : (C.length : Int) ≤ 20 := by omega
  have hl2 : (l.length : Int) ≤ 1000 := by omega
  have Hf : Hid (¬ (20 < (C.map (·.2)).length ∨ 1000 < l.length)) := by rw [Hll.out]; exact hf
  clear hf
  by_cases hm : 0 < (Ft.miss l (C.map (·.2)).flatten).length
  · have hfin := Lib.hid (fun (y : World) (u : Nw w y) => plan_miss (l := l) (ls := C.map (·.2)) Hf.out hm u)
    have d3 : decide (0 < (Ft.miss l (C.map (·.2)).flatten).length) = true := decide_eq_true hm
    generalize (Ft.miss l (C.map (·.2)).flatten).length = ml at *
    clear hm
    go_enter Tryz.func8, Tryz.ntmps8
    go_wp2_with fail
    (with_reducible refine (HS.out).mono ?_)
    rintro _ w2 ⟨v2, rfl, o2, u2⟩
    obtain ⟨a2, c2, rfl⟩ := own_slG o2
    have HU2 := Lib.hid (HU.out.trans u2)
    clear o2 u2 HS
    go_wp2_with fail
    (try simp only [Exit.inBlock, Exit.then])
    refine bodyPost_ret (rplan_results _ _) rfl ?_
    exact hfin.out _ HU2.out
  have d3 : decide (0 < (Ft.miss l (C.map (·.2)).flatten).length) = false := decide_eq_false hm
  have HPO := Lib.hid (fun (w' : World) (v : Value) (b : Nat) (hb : w.heap.size ≤ b) (o : w'.ownsRow b 3 1 v l.length ((Ft.runP (C.map (·.2)) l).2.map intD)) (u : Nw w w') => plan_ok (ls := C.map (·.2)) Hf.out hm hb o u)
  have hnil : Ft.miss l (C.map (·.2)).flatten = [] := List.length_eq_zero_iff.1 (by omega)
  have Hin := Lib.hid (Ft.miss_nil_iff.1 hnil)
  have hml0 : (Ft.miss l (C.map (·.2)).flatten).length = 0 := by omega
  clear hm hnil
  generalize (Ft.miss l (C.map (·.2)).flatten).length = ml at *
  go_enter Tryz.func8, Tryz.ntmps8
  go_wp2_with fail
  (with_reducible refine (HS.out).mono ?_)
  rintro _ w2 ⟨v2, rfl, o2, u2⟩
  obtain ⟨a2, c2, rfl⟩ := own_slG o2
  have HU2 := Lib.hid (HU.out.trans u2)
  have U2 := Lib.hid u2
  have k2 := HB.out w2 u2
  clear o2 u2 HS
  go_wp2_with (at_make; refine wpList_makeE rfl _ _ 26 3 _ 8 rfl Tryz.underlying26 infoIntU C.length rfl rfl ?m1 ?m2 ?_)
  case m1 => omega
  case m2 => omega
  intro w3 kb3 u3
  rw [madeI] at kb3
  have k3 : w3.cell? ⟨w.heap.size, 2, none⟩ = some (.slice a l.length cap) := HB.out w3 (U2.out.trans u3)
  have HU3 := Lib.hid (HU2.out.trans u3)
  have U3 := Lib.hid (U2.out.trans u3)
  have hz2 : w.heap.size + 1 ≤ w2.heap.size := by have := U2.out.size; simpa using this
  have hz3 : w2.heap.size < w3.heap.size := lt_of_block kb3
  have HL3 : Hid (w3.heap[w2.heap.size]? = some (.cells (((Ft.runP (C.map (·.2)) (l.take 0)).1.map intD).toArray) 3 (0, 0))) := by
    show _ = _
    have e : (Ft.runP (C.map (·.2)) (l.take 0)).1 = List.replicate C.length 0 := by unfold Ft.runP; rw [Hll.out]; rfl
    rw [e]; exact kb3
  clear kb3 u3 k2
  generalize hlb : w2.heap.size = lb at *
  go_wp2_with fail
  go_loopw [7, 8] (fun vo iv wr => ∃ n : Nat, n ≤ l.length ∧ iv = .int .i64 (n : Int) ∧ Hid (wr.ownsRow w3.heap.size 3 1 vo n ((Ft.runP (C.map (·.2)) (l.take n)).2.map intD)) ∧ Hid (wr.heap[lb]? = some (.cells (((Ft.runP (C.map (·.2)) (l.take n)).1.map intD).toArray) 3 (0, 0))) ∧ Hid (Nw (w.alloc (.cells #[.int .i64 p, .int .i64 z, .slice a l.length cap] tManU)) wr) ∧ Hid (w3.heap.size ≤ wr.heap.size)) (fun _ iv _ => l.length - (intOf iv).toNat)
  case atStart => exact ⟨0, Nat.zero_le _, rfl, World.ownsRow_nil _ _ _ _, HL3, U3, Nat.le_refl _⟩
  case round =>
    obtain ⟨n, hn, rfl, HO, HL, U, HZ⟩ := hrel
    obtain ⟨ao, co, rfl⟩ := own_slG HO.out
    have mm := HB.out wr U.out
    by_cases hlt : n < l.length
    · rcases HC.out with ⟨_, _, e, _, hnil | ⟨b9, off, e2, _, _, hcell⟩⟩
      · simp [hnil] at hlt
      injection e with e3 e4 e5
      subst e3 e5
      subst e2
      have c0 : wr.cell? ⟨b9, off + n, none⟩ = some (.int .i64 l[n]) := later_cell ⟨wr, U.out⟩ (hcell n hlt)
      have hlt1 : (n : Int) < l.length := by omega
      have hrun := Ft.runP_snoc (C.map (·.2)) (l.take n) l[n]
      rw [← List.take_succ_eq_append_getElem hlt] at hrun
      have hbd := Ft.runP_bd (C.map (·.2)) (l.take n)
      have hln := (Ft.runP_len (C.map (·.2)) (l.take n)).1
      rw [Hll.out] at hln
      obtain ⟨i0, hi0, hp0⟩ := Ft.mem_flat (Hin.out l[n] (List.getElem_mem hlt))
      have hhit := Ft.best_hit (load := (Ft.runP (C.map (·.2)) (l.take n)).1) (C.map (·.2)).length ⟨i0, hi0, hp0⟩
      have hlo := Ft.best_lo l[n] (Ft.runP (C.map (·.2)) (l.take n)).1 (C.map (·.2))
      have HR := Lib.hid hrun
      have HH := Lib.hid hhit
      have HLo := Lib.hid hlo
      have HBd := Lib.hid hbd
      have Hln := Lib.hid hln
      clear hcell hrun hhit hlo hbd hln hp0 hi0
      generalize hLd : (Ft.runP (C.map (·.2)) (l.take n)).1 = Ld at *
      generalize l[n] = x at *
      have HLd := Lib.hid hLd
      clear hLd
      obtain ⟨wo, hwo⟩ : ∃ y, y = wr := ⟨_, rfl⟩
      subst hwo
      go_wp2_with fail
      go_loopw [9, 10] (fun bv iv wr => ∃ k : Nat, k ≤ C.length ∧ iv = .int .i64 (k : Int) ∧ bv = .int .i64 (Ft.best x Ld (C.map (·.2)) k) ∧ Hid (Nw wo wr)) (fun _ iv _ => C.length - (intOf iv).toNat)
      case atStart => exact ⟨0, Nat.zero_le _, rfl, rfl, Upd.refl _ _⟩
      case round =>
        obtain ⟨k, hk, rfl, rfl, UI⟩ := hrel
        by_cases hkl : k < C.length
        · rcases HCC.out with ⟨_, _, e, _, hnil | ⟨bv, ov, e2, _, hcell⟩⟩
          · simp [hnil] at hkl
          injection e with e3 e4 e5
          subst e3 e5
          subst e2
          have hkl1 : (k : Int) < C.length := by omega
          obtain ⟨⟨lo2, hi2, hs⟩, hEk⟩ := HE.out C[k] (List.getElem_mem hkl)
          have NW := Nw.trans HU.out (U.out.trans UI.out)
          have e0 : wr.cell? ⟨bv, ov + k, none⟩ = some C[k].1 := later_cell ⟨wr, NW⟩ (hcell k hkl)
          have HK := Lib.hid (fun (y : World) (u : Nw wr y) => rhas_c lo2 hi2 C[k].1 C[k].2 x y ((hs.nw NW).nw u) (Nat.le_trans hEk (by decide)))
          obtain ⟨ak, ck, hvk, -, -⟩ := int_cells hs
          have hkk : C[k].2.length ≤ 1000000 := hEk
          rw [hvk] at e0 HK
          have e0' : ∀ j : Later wr, j.1.cell? ⟨bv, ov + k, none⟩ = some (.slice ak C[k].2.length ck) := fun j => later_cell j e0
          have HN := Lib.hid (best_next (p := x) (L := Ld) hkl)
          have hb1 := HLo.out k
          have m1 := load_cell (Nw.keep UI.out HL.out) (k := k) (by rw [Hln.out]; exact hkl)
          clear hcell hs hvk NW hEk
          have HN2 : Hid (Ft.best x Ld (C.map (·.2)) (k + 1) = if (Ft.best x Ld (C.map (·.2)) k < 0 ∨ Ld.getD k 0 < Ld.getD (Ft.best x Ld (C.map (·.2)) k).toNat 0) ∧ decide (x ∈ C[k].2) = true then (k : Int) else Ft.best x Ld (C.map (·.2)) k) := by
            show _ = _
            rw [HN.out]
            simp only [decide_eq_true_eq]
          clear HN
          generalize C[k].2.length = Lk at *
          generalize decide (x ∈ C[k].2) = q at *
          have mB : Hid (∀ bb : Nat, bb < k → wr.cell? ⟨lb, bb, none⟩ = some (.int .i64 (Ld.getD bb 0))) := fun bb hbb => load_cell (Nw.keep UI.out HL.out) (k := bb) (by rw [Hln.out]; omega)
          generalize Ft.best x Ld (C.map (·.2)) k = b at *
          have q0 : ∀ i : Later wr, i.1.cell? ⟨b9, off + n, none⟩ = some (.int .i64 x) := fun i => later_cell i (nw_cell UI.out c0)
          have q2 : ∀ i : Later wr, i.1.cell? ⟨w.heap.size, 2, none⟩ = some (.slice (some ⟨b9, off, none⟩) l.length cap) := fun i => later_cell i (nw_cell UI.out mm)
          have m1' : ∀ i : Later wr, i.1.cell? ⟨lb, k, none⟩ = some (.int .i64 (Ld.getD k 0)) := fun i => later_cell i m1
          by_cases hb0 : b < 0
          · have d0 : decide (b < 0) = true := decide_eq_true hb0
            cases q with
            | true =>
              have hfin : Hid (Ft.best x Ld (C.map (·.2)) (k + 1) = (k : Int)) := by show _ = _; rw [HN2.out, if_pos ⟨Or.inl hb0, rfl⟩]
              clear HN2 hb0 mB
              go_wp2_with fail
              refine wp_region_nw (by kernel_rfl) (by kernel_rfl) ?_
              repeat (go_big_quiet_step ((go_at_call 35; exact later_call (HK.out _ (Later.nw _)))))
              refine wpQuiet_nil ?_
              intro w5 u5
              replace u5 := later_out u5
              go_wp2_with fail
              go_roundw
              case rel => exact ⟨k + 1, by omega, by go_num, by rw [hfin.out], UI.out.trans u5⟩
              case measure => simp [intOf]; omega
            | false =>
              have hfin : Hid (Ft.best x Ld (C.map (·.2)) (k + 1) = b) := by show _ = _; rw [HN2.out, if_neg (fun h => by cases h.2)]
              clear HN2 hb0 mB
              go_wp2_with fail
              refine wp_region_nw (by kernel_rfl) (by kernel_rfl) ?_
              repeat (go_big_quiet_step ((go_at_call 35; exact later_call (HK.out _ (Later.nw _)))))
              refine wpQuiet_nil ?_
              intro w5 u5
              replace u5 := later_out u5
              go_wp2_with fail
              go_roundw
              case rel => exact ⟨k + 1, by omega, by go_num, by rw [hfin.out], UI.out.trans u5⟩
              case measure => simp [intOf]; omega
          · have d0 : decide (b < 0) = false := decide_eq_false hb0
            obtain ⟨bb, rfl⟩ : ∃ bb : Nat, b = bb := ⟨b.toNat, by omega⟩
            have hbk : bb < k := by omega
            have m2 := mB.out bb hbk
            have m2' : ∀ i : Later wr, i.1.cell? ⟨lb, bb, none⟩ = some (.int .i64 (Ld.getD bb 0)) := fun i => later_cell i m2
            rw [Int.toNat_natCast] at HN2
            have hbC : (bb : Int) < C.length := by omega
            generalize Ld.getD bb 0 = y2 at *
            generalize Ld.getD k 0 = y1 at *
            by_cases hy : y1 < y2
            · have d1 : decide (y1 < y2) = true := decide_eq_true hy
              cases q with
              | true =>
                have hfin : Hid (Ft.best x Ld (C.map (·.2)) (k + 1) = (k : Int)) := by show _ = _; rw [HN2.out, if_pos ⟨Or.inr hy, rfl⟩]
                clear HN2 hb0 mB hy
                go_wp2_with fail
                refine wp_region_nw (by kernel_rfl) (by kernel_rfl) ?_
                repeat (go_big_quiet_step ((go_at_call 35; exact later_call (HK.out _ (Later.nw _)))))
                refine wpQuiet_nil ?_
                intro w5 u5
                replace u5 := later_out u5
                go_wp2_with fail
                go_roundw
                case rel => exact ⟨k + 1, by omega, by go_num, by rw [hfin.out], UI.out.trans u5⟩
                case measure => simp [intOf]; omega
              | false =>
                have hfin : Hid (Ft.best x Ld (C.map (·.2)) (k + 1) = (bb : Int)) := by show _ = _; rw [HN2.out, if_neg (fun h => by cases h.2)]
                clear HN2 hb0 mB hy
                go_wp2_with fail
                refine wp_region_nw (by kernel_rfl) (by kernel_rfl) ?_
                repeat (go_big_quiet_step ((go_at_call 35; exact later_call (HK.out _ (Later.nw _)))))
                refine wpQuiet_nil ?_
                intro w5 u5
                replace u5 := later_out u5
                go_wp2_with fail
                go_roundw
                case rel => exact ⟨k + 1, by omega, by go_num, by rw [hfin.out], UI.out.trans u5⟩
                case measure => simp [intOf]; omega
            · have d1 : decide (y1 < y2) = false := decide_eq_false hy
              have hfin : Hid (Ft.best x Ld (C.map (·.2)) (k + 1) = (bb : Int)) := by show _ = _; rw [HN2.out, if_neg (fun h => by rcases h.1 with h | h <;> omega)]
              clear HN2 hb0 mB hy
              cases q with
              | true =>
                go_wp2_with fail
                refine wp_region_nw (by kernel_rfl) (by kernel_rfl) ?_
                repeat (go_big_quiet_step ((go_at_call 35; exact later_call (HK.out _ (Later.nw _)))))
                refine wpQuiet_nil ?_
                intro w5 u5
                replace u5 := later_out u5
                go_wp2_with fail
                go_roundw
                case rel => exact ⟨k + 1, by omega, by go_num, by rw [hfin.out], UI.out.trans u5⟩
                case measure => simp [intOf]; omega
              | false =>
                go_wp2_with fail
                refine wp_region_nw (by kernel_rfl) (by kernel_rfl) ?_
                repeat (go_big_quiet_step ((go_at_call 35; exact later_call (HK.out _ (Later.nw _)))))
                refine wpQuiet_nil ?_
                intro w5 u5
                replace u5 := later_out u5
                go_wp2_with fail
                go_roundw
                case rel => exact ⟨k + 1, by omega, by go_num, by rw [hfin.out], UI.out.trans u5⟩
                case measure => simp [intOf]; omega
        · obtain rfl : k = C.length := by omega
          have hb := HH.out
          rw [Hll.out] at hb
          obtain ⟨bb, hbb⟩ : ∃ bb : Nat, Ft.best x Ld (C.map (·.2)) C.length = bb := ⟨_, (Int.toNat_of_nonneg hb.1).symm⟩
          have hbC : bb < C.length := by have := (HLo.out C.length).2; omega
          have hstep : Ft.runP (C.map (·.2)) (l.take (n + 1)) = (Ld.set bb (Ld.getD bb 0 + 1), (Ft.runP (C.map (·.2)) (l.take n)).2 ++ [(bb : Int)]) := by
            rw [HR.out, ← HLd.out]
            exact step_eq (by rw [HLd.out, Hll.out]; exact hbb)
          have hyb : 0 ≤ Ld.getD bb 0 ∧ Ld.getD bb 0 ≤ 1000 := by
            have hlt2 : bb < Ld.length := by rw [Hln.out]; exact hbC
            have := HBd.out (Ld.getD bb 0) (by rw [List.getD_eq_getElem?_getD, List.getElem?_eq_getElem hlt2]; exact List.getElem_mem hlt2)
            rw [List.length_take] at this
            omega
          have kb := Nw.keep UI.out HL.out
          have m2 := load_cell kb (k := bb) (by rw [Hln.out]; exact hbC)
          have f2 : wr.frozen? ⟨lb, bb, none⟩ = false := cells_frozen kb bb
          have kb2 := load_set kb bb (Ld.getD bb 0 + 1)
          have hz4 : w3.heap.size ≤ wr.heap.size := Nat.le_trans HZ.out UI.out.size
          have UW : Upd (fun k => k = lb) wr (wr.setCell ⟨lb, bb, none⟩ (.int .i64 (Ld.getD bb 0 + 1))) := (Upd.refl _ _).set1 (by omega) _ _
          have HO2 := Lib.hid (owns_upd' (owns_upd' HO.out UI.out (fun _ _ e => e)) UW (fun k hk e => by have := (HO.out.lt k hk).1; omega))
          have hz5 : w3.heap.size ≤ (wr.setCell ⟨lb, bb, none⟩ (.int .i64 (Ld.getD bb 0 + 1))).heap.size := Nat.le_trans hz4 UW.size
          have e1 := congrArg Prod.fst hstep
          have e2 := congrArg Prod.snd hstep
          have HS1 := Lib.hid e1
          have HS2 := Lib.hid e2
          have HKB := Lib.hid kb2
          have UW2 := Lib.hid UW
          have hbC1 : (bb : Int) < C.length := by omega
          clear hstep e1 e2 kb kb2 UW HR HH hb
          obtain ⟨hy1, hy2⟩ := hyb
          generalize Ld.getD bb 0 = y at *
          rw [hbb]
          have Hbb := Lib.hid hbb
          clear hbb
          go_wp2_with (at_builtin; refine hold_on ?_)
          intro _
          refine (wpList_appL rfl _ _ 26 rfl w3.heap.size 3 _ 1 8 Tryz.underlying26 infoIntU rfl (by decide) _ _ _ rfl HO2.out [.int .i64 (bb : Int)] (by show Value.slice _ _ _ = Value.slice _ _ _; simp) rfl ?c1 ?c2 ?c3 hz5 (by omega) ?_)
          case c1 => intro u hu; rw [List.mem_singleton.1 hu]; rfl
          case c2 => unfold maxLen; omega
          case c3 => omega
          intro v' w9 o9 u9 hob
          obtain ⟨a9, c9, rfl⟩ := own_slG o9
          have hfin : Hid (w9.ownsRow w3.heap.size 3 1 (.slice a9 (n + 1) c9) (n + 1) ((Ft.runP (C.map (·.2)) (l.take (n + 1))).2.map intD)) := by
            show w9.ownsRow _ _ _ _ _ _
            rw [HS2.out, List.map_append]
            exact o9
          have hfin2 : Hid (w9.heap[lb]? = some (.cells ((Ft.runP (C.map (·.2)) (l.take (n + 1))).1.map intD).toArray 3 (0, 0))) := by
            show _ = _
            rw [HS1.out]
            exact u9.keep HKB.out (fun e => by have := (HO2.out.lt _ e).1; omega)
          have hU2 := Lib.hid (((U.out.trans UI.out).trans' UW2.out (fun k hk e => by simp at hk; omega)).trans' u9 (fun k hk e => by have := (HO2.out.lt k e).1; simp at hk; omega))
          have hz9 : Hid (w3.heap.size ≤ w9.heap.size) := Nat.le_trans hz5 u9.size
          clear o9 u9 hob
          go_wp2_with fail
          go_roundw
          case rel => exact ⟨n + 1, by omega, by go_num, hfin, hfin2, hU2, hz9⟩
          case measure => simp [intOf]; omega
    · obtain rfl : n = l.length := by omega
      simp only [List.take_length] at HO ⊢
      have hfin := Lib.hid (HPO.out _ _ _ (by omega) HO.out (HU.out.trans U.out))
      go_wp2_with fail
      (try simp only [Exit.inBlock, Exit.then])
      refine bodyPost_ret (rplan_results _ _) rfl ?_
      exact hfin.out
end Go.Proofs.YtmlmdlbepppnlaaGreatDoor
namespace Go.Proofs.YtmlmdlbepppnlaaGreatDoor
open Go.RowKit
set_option linter.unusedVariables false
set_option linter.unusedSimpArgs false
attribute [local irreducible] Calls

theorem idx_self {cs : List (List UInt8)} (hn : cs.Nodup) {n : Nat} (h : n < cs.length) : idxI (fun x => decide (x = cs[n])) cs = n :=
  idx_hit h (decide_eq_true rfl) (fun j hj hjn => decide_eq_false (fun e => by
    have := (List.getElem_inj hn (h₀ := hj) (h₁ := h)).1 e
    omega))
set_option maxRecDepth 100000 in
theorem rbytes_c (lo hi : Nat) (v : Value) (cs : List (List UInt8)) (w : World) (hv : Sl lo hi w v (cs.map bsMU)) (hl : CntOkU cs) :
    Calls Tryz.prog 96 #[v] w fun e w' => (∃ q : Int, e = .returned (.int .i64 q) ∧ q ≤ 9000) ∧ Nw w w' := by
  obtain ⟨a, cap, rfl, hc⟩ := strs_cellsU hv
  have HC := Lib.hid hc
  have HL := Lib.hid hl
  have hl1 : (cs.length : Int) ≤ 90 := by have := hl.n; omega
  clear hv hc hl
  go_enter Tryz.func96, Tryz.ntmps96
  go_wp2_with fail
  go_loopw [3, 4] (fun qv i wr => ∃ (n : Nat) (q : Int), n ≤ cs.length ∧ i = .int .i64 (n : Int) ∧ qv = .int .i64 q ∧ Hid (0 ≤ q ∧ q ≤ 100 * n) ∧ w = wr) (fun _ i _ => cs.length - (intOf i).toNat)
  case atStart => exact ⟨0, 0, Nat.zero_le _, rfl, rfl, ⟨by decide, by decide⟩, rfl⟩
  case round =>
    obtain ⟨n, q, hn, rfl, rfl, HQ, rfl⟩ := hrel
    by_cases hlt : n < cs.length
    · have hlt1 : (n : Int) < cs.length := by omega
      rcases HC.out with hnil | ⟨b, off, rfl, hcell⟩
      · simp [hnil] at hlt
      have c0 := hcell n hlt
      have hx := HL.out.s _ (List.getElem_mem hlt)
      clear hcell
      generalize cs[n] = x at *
      have hx1 : (x.length : Int) ≤ 100 := by omega
      have hq1 : (0 : Int) ≤ q := HQ.out.1
      have hq2 : q ≤ 9000 := by have := HQ.out.2; omega
      have HZ : Hid (0 ≤ q + (x.length : Int) ∧ q + (x.length : Int) ≤ 100 * ((n + 1 : Nat) : Int)) := ⟨by omega, by have := HQ.out.2; omega⟩
      clear hx
      go_wp2_with fail
      go_roundw
      case rel => exact ⟨n + 1, q + x.length, by omega, by go_num, rfl, HZ.out, trivial⟩
      case measure => simp [intOf]; omega
    · obtain rfl : n = cs.length := by omega
      have HZ := Lib.hid (show q ≤ 9000 by have := HQ.out.2; omega)
      go_wp2_with fail
      go_ret
      exact ⟨⟨q, rfl, HZ.out⟩, Upd.refl _ _⟩
set_option maxRecDepth 100000 in
theorem rright04_c (lo hi : Nat) (v : Value) (cs : List (List UInt8)) (w : World) (hv : Sl lo hi w v (cs.map bsMU)) (hl : CntOkU cs) (hn : cs.Nodup) :
    Calls Tryz.prog 72 #[v] w fun e w' => e = .returned (.bool true) ∧ Nw w w' := by
  have HV := Lib.hid hv
  have HB := Lib.hid (fun (y : World) (u : Nw w y) => rbytes_c lo hi v cs y (hv.nw u) hl)
  have HP := Lib.hid (fun (y : World) (t : List UInt8) (u : Nw w y) => rprint_c lo hi v cs t y (hv.nw u) hl.n)
  obtain ⟨a, cap, rfl, hc⟩ := strs_cellsU hv
  have HC := Lib.hid hc
  have HN := Lib.hid hn
  have hl1 : (cs.length : Int) ≤ 90 := by have := hl.n; omega
  clear hv hc hl hn
  go_enter Tryz.func72, Tryz.ntmps72
  go_wp2_with fail
  go_loopw [3] (fun i wr => ∃ n : Nat, n ≤ cs.length ∧ i = .int .i64 (n : Int) ∧ Hid (Nw w wr)) (fun i _ => cs.length - (intOf i).toNat)
  case atStart => exact ⟨0, Nat.zero_le _, rfl, Upd.refl _ _⟩
  case round =>
    obtain ⟨n, hn, rfl, U⟩ := hrel
    by_cases hlt : n < cs.length
    · have hlt1 : (n : Int) < cs.length := by omega
      rcases HC.out with hnil | ⟨b, off, rfl, hcell⟩
      · simp [hnil] at hlt
      have c0 := nw_cell U.out (hcell n hlt)
      have hp := HP.out wr cs[n] U.out
      rw [idx_self HN.out hlt] at hp
      have HP1 := Lib.hid hp
      clear hcell hp
      generalize cs[n] = x at *
      go_wp2_with fail
      (with_reducible refine (HP1.out).mono ?_)
      rintro _ w2 ⟨rfl, u2⟩
      have U2 := Lib.hid (U.out.trans u2)
      clear u2 HP1 c0
      go_wp2_with fail
      go_roundw
      case rel => exact ⟨n + 1, by omega, by go_num, U2.out⟩
      case measure => simp [intOf]; omega
    · obtain rfl : n = cs.length := by omega
      have HB1 := Lib.hid (HB.out wr U.out)
      go_wp2_with fail
      (with_reducible refine (HB1.out).mono ?_)
      rintro _ w2 ⟨⟨q, rfl, hq⟩, u2⟩
      have U2 := Lib.hid (U.out.trans u2)
      have hq2 : decide (q ≤ 1048576) = true := decide_eq_true (by omega)
      clear hq u2 HB1
      go_wp2_with fail
      go_ret
      exact ⟨rfl, U2.out⟩
end Go.Proofs.YtmlmdlbepppnlaaGreatDoor
namespace Go.Proofs.YtmlmdlbepppnlaaGreatDoor
open Go.RowKit
set_option linter.unusedVariables false
set_option linter.unusedSimpArgs false
attribute [local irreducible] Calls

theorem pre_cut {T S : List UInt8} {k : Nat} (h : S.isPrefixOf (T.drop k) = true) : k + S.length ≤ T.length ∨ S = [] := by
  have hp := List.isPrefixOf_iff_prefix.1 h
  have := hp.length_le
  rw [List.length_drop] at this
  by_cases h0 : S = []
  · exact Or.inr h0
  · have := List.length_pos_iff.2 h0; exact Or.inl (by omega)
theorem pre_ext {T S : List UInt8} {k : Nat} (h : S.isPrefixOf (T.drop k) = true) : (ByteArray.mk T.toArray).extract k (k + S.length) = ⟨S.toArray⟩ := by
  have hp := List.isPrefixOf_iff_prefix.1 h
  rw [← bs_eta ((ByteArray.mk T.toArray).extract k (k + S.length)), bs_extract_list]
  congr 2
  rw [show k + S.length - k = S.length by omega]
  exact (List.prefix_iff_eq_take.1 hp).symm
set_option maxHeartbeats 4000000 in
set_option maxRecDepth 100000 in
theorem rright36_c (lo hi lo2 hi2 : Nat) (v : Value) (cs : List (List UInt8)) (p z : Int) (cv : Value) (l : List Int) (w : World) (g : Gl w) (hv : Sl lo hi w v (cs.map bsMU)) (hl : CntOkU cs) (hn : cs.Nodup) (hc : Sl lo2 hi2 w cv (l.map intD)) (hR : Ft.rightM cs ⟨p, z, l⟩ = true) :
    Calls Tryz.prog 44 #[v, .agg #[.int .i64 p, .int .i64 z, cv]] w fun e w' => e = .returned (.bool true) ∧ Nw w w' := by
  unfold Ft.rightM at hR
  simp only [Bool.and_eq_true, decide_eq_true_eq] at hR
  obtain ⟨⟨⟨hR1, rfl⟩, hR3⟩, hR4⟩ := hR
  obtain ⟨a, cap, rfl, -, -⟩ := int_cells hc
  have htx : ∀ p, (textAtU cs p).length ≤ 100 := fun p => by
    unfold textAtU
    split
    · rw [List.getD_eq_getElem?_getD]
      cases he : cs[p.toNat]? with
      | none => simp
      | some x => exact hl.s x (List.mem_of_getElem? he)
    · simp
  have n1 := nw_alloc w (.cells #[.int .i64 p, .int .i64 (textAtU cs p).length, .slice a l.length cap] tManU)
  have bx := heap_new w (.cells #[.int .i64 p, .int .i64 (textAtU cs p).length, .slice a l.length cap] tManU)
  obtain ⟨W, hW⟩ : ∃ W, W = w.alloc (.cells #[.int .i64 p, .int .i64 (textAtU cs p).length, .slice a l.length cap] tManU) := ⟨_, rfl⟩
  rw [← hW] at n1 bx
  have HC := Lib.hid (int_cells (hc.nw n1))
  have HT := Lib.hid (fun (n : Int) (wr : World) (u : Nw W wr) => rtext_c lo hi v cs n wr (hv.nw (n1.trans u)) hl.n)
  have HR := Lib.hid (fun (wr : World) (u : Nw W wr) => rright04_c lo hi v cs wr (hv.nw (n1.trans u)) hl hn)
  obtain ⟨a1, c1, rfl, -⟩ := strs_cellsU hv
  have hl3 : (l.length : Int) ≤ 1000 := by omega
  have HU := Lib.hid n1
  have k0 : W.cell? ⟨w.heap.size, 0, none⟩ = some (.int .i64 p) := by rw [cells_cell bx]; rfl
  have k1 : W.cell? ⟨w.heap.size, 1, none⟩ = some (.int .i64 (textAtU cs p).length) := by rw [cells_cell bx]; rfl
  have k2 : W.cell? ⟨w.heap.size, 2, none⟩ = some (.slice a l.length cap) := by rw [cells_cell bx]; rfl
  have HK := Lib.hid (And.intro k0 (And.intro k1 k2))
  have HT1 := Lib.hid (HT.out p W (Upd.refl _ _))
  rw [hR1] at HT1
  have HTX := Lib.hid htx
  have htp := htx p
  clear bx hc hv n1 htx hR1 hR3
  go_enter Tryz.func44, Tryz.ntmps44
  go_upto_region 1 with fail
  rw [← hW]
  clear hW
  generalize textAtU cs p = T at *
  have HE := Lib.hid hR4
  have hT1 : (T.length : Int) ≤ 100 := by omega
  clear hR4 htp
  go_wp2_with fail
  (with_reducible refine (HT1.out).mono ?_)
  rintro _ w2 ⟨rfl, u2⟩
  have U2 := Lib.hid u2
  have HR1 := Lib.hid (HR.out w2 u2)
  clear u2 HT1 HR k0 k1 k2
  go_wp2_with fail
  (with_reducible refine (HR1.out).mono ?_)
  rintro _ w3 ⟨rfl, u3⟩
  have U3 := Lib.hid (U2.out.trans u3)
  have k1 := nw_cell U3.out HK.out.2.1
  have k2 := nw_cell U3.out HK.out.2.2
  have hl4 : decide ((1000 : Int) < l.length) = false := decide_eq_false (by omega)
  clear u3 HR1
  go_wp2_with fail
  go_loopw [8, 9] (fun av iv wr => ∃ n k : Nat, n ≤ l.length ∧ iv = .int .i64 (n : Int) ∧ av = .int .i64 (k : Int) ∧ k ≤ T.length ∧ Hid (Ft.eats cs (l.drop n) (T.drop k) = true) ∧ Hid (Nw W wr)) (fun _ iv _ => l.length - (intOf iv).toNat)
  case atStart => exact ⟨0, 0, Nat.zero_le _, rfl, rfl, Nat.zero_le _, HE.out, U3.out⟩
  case round =>
    obtain ⟨n, k, hn, rfl, rfl, hk, HEt, U⟩ := hrel
    have q2 := nw_cell U.out HK.out.2.2
    by_cases hlt : n < l.length
    · rcases HC.out with ⟨_, _, e, _, hnil | ⟨b, off, e2, _, _, hcell⟩⟩
      · simp [hnil] at hlt
      injection e with e3 e4 e5
      subst e3 e5
      subst e2
      have c0 := nw_cell U.out (hcell n hlt)
      have hlt1 : (n : Int) < l.length := by omega
      have hst := HEt.out
      rw [eats_step cs l n hlt] at hst
      simp only [Bool.and_eq_true, Bool.not_eq_true', decide_eq_true_eq] at hst
      obtain ⟨⟨⟨⟨s1, s2⟩, s3⟩, s4⟩, s5⟩ := hst
      have HT2 := Lib.hid (HT.out l[n] wr U.out)
      rw [s1] at HT2
      have htq := HTX.out l[n]
      clear hcell s1
      generalize l[n] = x at *
      generalize textAtU cs x = Sx at *
      have hne : Sx ≠ [] := by intro e; rw [e] at s2; simp at s2
      have hkS : k + Sx.length ≤ T.length := (pre_cut s4).resolve_right hne
      have hex := pre_ext s4
      have HN : Hid (Ft.eats cs (l.drop (n + 1)) (T.drop (k + Sx.length)) = true) := by show _ = _; rw [List.drop_drop] at s5; exact s5
      have hsl2 : ∀ z : World, (Instr.slice 9 (.string ⟨T.toArray⟩) (some (.int .i64 k)) (some (.int .i64 ((k : Int) + Sx.length))) none).run Tryz.prog z = .ok (.string ⟨Sx.toArray⟩) z := fun z => by
        have := run_slice_string (P := Tryz.prog) z 9 ⟨T.toArray⟩ .i64 .i64 (k : Int) ((k : Int) + Sx.length) Tryz.underlying9 (by omega) (by omega) (by rw [bs_size, bs_list]; omega)
        rw [show ((k : Int) + Sx.length).toNat = k + Sx.length by omega, Int.toNat_natCast, hex] at this
        exact this
      have hS1 : (Sx.length : Int) ≤ 100 := by omega
      have hk1 : (k : Int) + Sx.length ≤ T.length := by omega
      have hk0 : (k : Int) ≤ 100 := by omega
      have hd2 : decide ((4096 : Int) < Sx.length) = false := decide_eq_false (by omega)
      have hd3 : decide ((T.length : Int) < (k : Int) + Sx.length) = false := decide_eq_false (by omega)
      clear s3 s4 s5 htq hne HE hex
      go_wp2_with fail
      (with_reducible refine (HT2.out).mono ?_)
      rintro _ w5 ⟨rfl, u5⟩
      have U5 := Lib.hid (U.out.trans u5)
      clear u5 HT2 c0 q2
      go_wp2_with fail
      go_roundw
      case rel => exact ⟨n + 1, k + Sx.length, by omega, by go_num, by go_num, hkS, HN.out, U5.out⟩
      case measure => simp [intOf]; omega
    · obtain rfl : n = l.length := by omega
      have hfin : k = T.length := by
        have := HEt.out
        rw [List.drop_length] at this
        unfold Ft.eats at this
        have h2 := List.isEmpty_iff.1 this
        have h3 := congrArg List.length h2
        rw [List.length_drop, List.length_nil] at h3
        omega
      subst hfin
      go_wp2_with fail
      go_ret
      exact ⟨rfl, HU.out.trans U.out⟩
end Go.Proofs.YtmlmdlbepppnlaaGreatDoor
namespace Go.Proofs.YtmlmdlbepppnlaaGreatDoor
open Go.RowKit
set_option linter.unusedVariables false
set_option linter.unusedSimpArgs false
attribute [local irreducible] Calls

abbrev tRDisk : TypeId := 70
abbrev tRSec : TypeId := 101
abbrev tRFile : TypeId := 103
def rfL (p : Int × Dk.Fil) : List Value := [.int .i64 p.1, .string ⟨p.2.now.toArray⟩, .string ⟨p.2.last.toArray⟩]
def flatR (l : List (Int × Dk.Fil)) : List Value := (l.map rfL).flatten
theorem flatR_snoc (l : List (Int × Dk.Fil)) (p : Int × Dk.Fil) : flatR (l ++ [p]) = flatR l ++ rfL p := by simp [flatR]
/-- The files of the list are those that fs says. -/
structure SaysR (l : List (Int × Dk.Fil)) (fs : Int → Dk.Fil) : Prop where
  nd : (l.map (·.1)).Nodup
  each : ∀ p ∈ l, (0 ≤ p.1 ∧ p.1 < 16) ∧ fs p.1 = p.2
  none : ∀ f, (∀ p ∈ l, p.1 ≠ f) → fs f = Dk.noFil
theorem SaysR.new : SaysR [] (fun _ => Dk.noFil) := ⟨List.nodup_nil, (fun p hp => by cases hp), fun _ _ => rfl⟩
theorem SaysR.len {l : List (Int × Dk.Fil)} {fs : Int → Dk.Fil} (h : SaysR l fs) : l.length ≤ 16 := by
  have := Dk.nodup_le 16 (l.map fun p => p.1.toNat) (by
    have h1 := h.nd
    rw [List.nodup_iff_pairwise_ne, List.pairwise_map] at h1 ⊢
    refine h1.imp_of_mem fun {a b} ha hb hab e => hab ?_
    have := (h.each a ha).1
    have := (h.each b hb).1
    omega) (fun x hx => by
      obtain ⟨p, hp, rfl⟩ := List.mem_map.1 hx
      have := (h.each p hp).1
      omega)
  rwa [List.length_map] at this
def putR (l : List (Int × Dk.Fil)) (f : Int) (x : Dk.Fil) : List (Int × Dk.Fil) := l.filter (fun p => !(p.1 == f)) ++ [(f, x)]
theorem SaysR.put {l : List (Int × Dk.Fil)} {fs : Int → Dk.Fil} (h : SaysR l fs) {f : Int} (hf : 0 ≤ f ∧ f < 16) (x : Dk.Fil) : SaysR (putR l f x) (Dk.setF fs f x) := by
  have hm : ∀ p, p ∈ putR l f x ↔ (p ∈ l ∧ p.1 ≠ f) ∨ p = (f, x) := fun p => by simp [putR]
  refine ⟨?_, fun p hp => ?_, fun g hg => ?_⟩
  · unfold putR
    rw [List.map_append, List.nodup_append]
    refine ⟨List.Nodup.sublist ((List.filter_sublist).map _) h.nd, by simp, fun a ha b hb e => ?_⟩
    obtain ⟨p, hp, rfl⟩ := List.mem_map.1 ha
    simp at hp hb
    exact hp.2 (by omega)
  · rcases (hm p).1 hp with ⟨h1, h2⟩ | rfl
    · exact ⟨(h.each p h1).1, by rw [Dk.setF_ne _ _ h2]; exact (h.each p h1).2⟩
    · exact ⟨hf, by rw [Dk.setF_self]⟩
  · have hne : g ≠ f := fun e => hg (f, x) ((hm _).2 (Or.inr rfl)) e.symm
    rw [Dk.setF_ne _ _ hne]
    refine h.none g (fun p hp e => ?_)
    by_cases hpf : p.1 = f
    · exact hne (by omega)
    · exact hg p ((hm p).2 (Or.inl ⟨hp, hpf⟩)) e
/-- Where the reference's disk lies. -/
structure RdR where
  rb : Nat
  fv : Value
  qv : Value
  kv : Value
def RdR.foot (r : RdR) (k : Nat) : Prop := k = r.rb ∨ r.fv.ownBlock = some k ∨ r.qv.ownBlock = some k ∨ r.kv.ownBlock = some k
def rdC (r : RdR) (D : Dk.Disk) : Array Value := #[r.fv, r.qv, .int .i64 D.lost, .bool D.down, .int .i64 D.armed, r.kv]
def FilesR (B : Nat) (w : World) (v : Value) (fs : Int → Dk.Fil) : Prop := ∃ l, w.ownsRow B tRFile 3 v l.length (flatR l) ∧ SaysR l fs
/-- In the blocks from B on lies the reference's disk r, in the state D. -/
structure RDAt (B : Nat) (w : World) (r : RdR) (D : Dk.Disk) : Prop where
  hb : nG ≤ B
  rb : B ≤ r.rb
  blk : w.heap[r.rb]? = some (.cells (rdC r D) tRDisk (0, 0))
  files : FilesR B w r.fv D.fs
  queue : w.ownsRow B tRSec 2 r.qv D.q.length (flatQ D.q)
  keep : w.ownsRow B tIntD 1 r.kv D.keep.length (D.keep.map intD)
  ok : Dk.Ok D
  kI : ∀ x ∈ D.keep, I64 x
section
variable {B : Nat} {w w' : World} {r : RdR} {D D' : Dk.Disk}
theorem RDAt.foot_lt (h : RDAt B w r D) {k : Nat} (hk : r.foot k) : B ≤ k ∧ k < w.heap.size := by
  rcases hk with rfl | hk | hk | hk
  · exact ⟨h.rb, lt_of_block h.blk⟩
  · obtain ⟨l, h1, _⟩ := h.files
    exact h1.lt k hk
  · exact h.queue.lt k hk
  · exact h.keep.lt k hk
theorem FilesR.upd {S : Nat → Prop} {v : Value} {fs : Int → Dk.Fil} (h : FilesR B w v fs) (u : Upd S w w') (hs : ∀ k, v.ownBlock = some k → ¬ S k) : FilesR B w' v fs := by
  obtain ⟨l, h1, h2⟩ := h
  exact ⟨l, owns_updD h1 u hs, h2⟩
theorem RDAt.upd {S : Nat → Prop} (h : RDAt B w r D) (u : Upd S w w') (hs : ∀ k, r.foot k → ¬ S k) : RDAt B w' r D :=
  ⟨h.hb, h.rb, u.keep h.blk (hs _ (Or.inl rfl)), h.files.upd u (fun k hk => hs k (Or.inr (Or.inl hk))), owns_updD h.queue u (fun k hk => hs k (Or.inr (Or.inr (Or.inl hk)))),
    owns_updD h.keep u (fun k hk => hs k (Or.inr (Or.inr (Or.inr hk)))), h.ok, h.kI⟩
theorem RDAt.nw (h : RDAt B w r D) (u : Nw w w') : RDAt B w' r D := h.upd u (fun _ _ s => s)
theorem RDAt.cells (h : RDAt B w r D) :
    w.cell? ⟨r.rb, 0, none⟩ = some r.fv ∧ w.cell? ⟨r.rb, 1, none⟩ = some r.qv ∧ w.cell? ⟨r.rb, 2, none⟩ = some (.int .i64 D.lost) ∧ w.cell? ⟨r.rb, 3, none⟩ = some (.bool D.down) ∧
    w.cell? ⟨r.rb, 4, none⟩ = some (.int .i64 D.armed) ∧ w.cell? ⟨r.rb, 5, none⟩ = some r.kv := by
  refine ⟨?_, ?_, ?_, ?_, ?_, ?_⟩ <;> (rw [cells_cell h.blk]; rfl)
theorem RDAt.frozen (h : RDAt B w r D) (i : Nat) : w.frozen? ⟨r.rb, i, none⟩ = false := cells_frozen h.blk i
theorem own_typ {T T' : TypeId} {sz sz' : Nat} {v v' : Value} {n n' : Nat} {xs xs' : List Value} (h : w.ownsRow B T sz v n xs) (h' : w.ownsRow B T' sz' v' n' xs') (hT : T ≠ T') {k : Nat} (hk : v.ownBlock = some k) : v'.ownBlock ≠ some k := fun e => by
  obtain ⟨_, cs, e1⟩ := own_blockD h hk
  obtain ⟨_, cs', e2⟩ := own_blockD h' e
  rw [e1] at e2
  injection e2 with e2
  injection e2 with _ e2
  exact hT e2
theorem own_blk {T T' : TypeId} {sz : Nat} {v : Value} {n : Nat} {xs : List Value} {b : Nat} {cs : Array Value} (h : w.ownsRow B T sz v n xs) (h' : w.heap[b]? = some (.cells cs T' (0, 0))) (hT : T ≠ T') : v.ownBlock ≠ some b := fun e => by
  obtain ⟨_, cs', e2⟩ := own_blockD h e
  rw [h'] at e2
  injection e2 with e2
  injection e2 with _ e2
  exact hT e2.symm
/-- What a call leaves of it. -/
def RDTo (B : Nat) (r : RdR) (D' : Dk.Disk) (w w' : World) : Prop :=
  ∃ r', RDAt B w' r' D' ∧ r'.rb = r.rb ∧ Upd r.foot w w' ∧ ∀ j, r'.foot j → r.foot j ∨ w.heap.size ≤ j
theorem RDTo.of_nw (h : RDAt B w r D) (u : Nw w w') : RDTo B r D w w' := ⟨r, h.nw u, rfl, Nw.upd _ u, fun j hj => Or.inl hj⟩
theorem RDTo.nw {w2 : World} (h : RDTo B r D' w w') (u : Nw w' w2) : RDTo B r D' w w2 := by
  obtain ⟨r', h1, h2, h3, h4⟩ := h
  exact ⟨r', h1.nw u, h2, h3.nw u, h4⟩
theorem RDTo.after {w0 : World} (u : Nw w0 w) (h : RDTo B r D' w w') : RDTo B r D' w0 w' := by
  obtain ⟨r', h1, h2, h3, h4⟩ := h
  exact ⟨r', h1, h2, Nw.trans u h3, fun j hj => (h4 j hj).imp id (fun e => by have := u.size; omega)⟩
theorem RDTo.then_ {w2 : World} {r1 : RdR} {D1 : Dk.Disk} (h0 : RDAt B w r D) (h1 : RDAt B w' r1 D1) (e : r1.rb = r.rb) (u1 : Upd r.foot w w') (f1 : ∀ j, r1.foot j → r.foot j ∨ w.heap.size ≤ j) (h2 : RDTo B r1 D' w' w2) : RDTo B r D' w w2 := by
  obtain ⟨r', k1, k2, k3, k4⟩ := h2
  have hz := u1.size
  refine ⟨r', k1, k2.trans e, u1.trans' k3 (fun k hk s => (f1 k s).resolve_right (by omega)), fun j hj => ?_⟩
  rcases k4 j hj with a | a
  · exact f1 j a
  · exact Or.inr (by omega)
end
theorem rfL_cells {lo hi : Nat} {w : World} {v : Value} {X : List (Int × Dk.Fil)} (h : SlS 3 lo hi w v (X.map rfL)) :
    ∃ a cap, v = .slice a X.length cap ∧ X.length ≤ maxLen ∧ (X = [] ∨ ∃ b off, a = some ⟨b, off, none⟩ ∧ b < hi ∧ b < w.heap.size ∧ ∀ i (h : i < X.length), w.cell? ⟨b, off + i * 3, none⟩ = some (.int .i64 X[i].1) ∧ w.cell? ⟨b, off + i * 3 + 1, none⟩ = some (.string ⟨X[i].2.now.toArray⟩) ∧ w.cell? ⟨b, off + i * 3 + 2, none⟩ = some (.string ⟨X[i].2.last.toArray⟩)) := by
  obtain ⟨a, cap, rfl, hm, h⟩ := h.open_
  rw [List.length_map] at hm
  refine ⟨a, cap, by rw [List.length_map], hm, ?_⟩
  rcases h with h | ⟨b, off, rfl, _, hb1, hb, hc⟩
  · exact Or.inl (List.map_eq_nil_iff.1 h)
  · refine Or.inr ⟨b, off, rfl, hb1, hb, fun i hi => ?_⟩
    have h2 := (hc i (by simpa using hi)).2
    simp only [List.getElem_map] at h2
    exact ⟨by rw [← Nat.add_zero (off + i * 3), h2 0 (by simp [rfL])]; rfl, by rw [h2 1 (by simp [rfL])]; rfl, by rw [h2 2 (by simp [rfL])]; rfl⟩
theorem rf_sls {B : Nat} {w : World} {v : Value} {L : List (Int × Dk.Fil)} (h : w.ownsRow B tRFile 3 v L.length (flatR L)) : SlS 3 B w.heap.size w v (L.map rfL) :=
  SlS.of_owns h (by simp) (by omega) (fun y hy => by
    obtain ⟨z, _, rfl⟩ := List.mem_map.1 hy
    rfl)
theorem rs_sls {B : Nat} {w : World} {v : Value} {L : List (Int × Int)} (h : w.ownsRow B tRSec 2 v L.length (flatQ L)) : SlS 2 B w.heap.size w v (L.map secL) :=
  SlS.of_owns h (by simp) (by omega) (fun y hy => by
    obtain ⟨z, _, rfl⟩ := List.mem_map.1 hy
    rfl)
section
variable {B : Nat} {w : World} {r : RdR} {D : Dk.Disk}
theorem get_results {w : World} {bp : Nat} {tmps : Array Value} {v0 v1 v2 : Value} {T : TypeId} {fz : Nat × Nat} (h : w.heap[bp]? = some (.cells #[v0, v1, v2] T fz)) (ht : tmps.getD 4 undef = .pointer (some ⟨bp, 0, none⟩)) :
    (results Tryz.f83 tmps).run Tryz.prog w = .ok (.agg #[v0, v1, v2]) w := by
  have c0 : w.cell? ⟨bp, 0, none⟩ = some v0 := by rw [cells_cell h]; rfl
  have c1 : w.cell? ⟨bp, 1, none⟩ = some v1 := by rw [cells_cell h]; rfl
  have c2 : w.cell? ⟨bp, 2, none⟩ = some v2 := by rw [cells_cell h]; rfl
  clear h
  have ht2 : tmps[4]?.getD undef = .pointer (some ⟨bp, 0, none⟩) := by simpa using ht
  clear ht
  simp [results, Tryz.results83, go_sem, ht2, c0, c1, c2]
set_option maxRecDepth 100000 in
theorem get_r (h : RDAt B w r D) (f : Int) :
    Calls Tryz.prog 83 #[.pointer (some ⟨r.rb, 0, none⟩), .int .i64 f] w fun e w' => e = .returned (.agg #[.int .i64 f, .string ⟨(D.fs f).now.toArray⟩, .string ⟨(D.fs f).last.toArray⟩]) ∧ Nw w w' := by
  have n1 := nw_alloc w (.cells #[.int .i64 0, .string ⟨#[]⟩, .string ⟨#[]⟩] tRFile)
  have k1 := heap_new w (.cells #[.int .i64 0, .string ⟨#[]⟩, .string ⟨#[]⟩] tRFile)
  have h1' := h.nw n1
  obtain ⟨l, h1, h2⟩ := h1'.files
  obtain ⟨c0, _⟩ := h1'.cells
  obtain ⟨a, cap, hv, _, hc⟩ := rfL_cells (rf_sls h1)
  have hl := h2.len
  have hl1 : (l.length : Int) ≤ 16 := by omega
  have hl0 : (0 : Int) ≤ l.length := by omega
  rw [hv] at c0
  have Hc := Lib.hid hc
  have H2 := Lib.hid h2
  have hI0 : Hid (∀ j (h : j < l.length), j < 0 → l[j].1 ≠ f) := fun j h hj => by omega
  clear h h1 h2 hc hv hl h1' k1 n1
  go_enter Tryz.func83, Tryz.ntmps83
  go_wp2_with fail
  go_loop [5] (fun iv => ∃ n : Nat, n ≤ l.length ∧ iv = .int .i64 n ∧ Hid (∀ j (h : j < l.length), j < n → l[j].1 ≠ f)) (fun iv => l.length - (intOf iv).toNat)
  case atStart => exact ⟨0, Nat.zero_le _, rfl, hI0.out⟩
  case round =>
    obtain ⟨n, hn, rfl, hno⟩ := hrel
    by_cases hlt : n < l.length
    · rcases Hc.out with hnil | ⟨b, off, rfl, _, _, hcell⟩
      · rw [hnil] at hlt; simp at hlt
      obtain ⟨d0, d1, d2⟩ := hcell n hlt
      have hfirst : Hid (l[n].1 = f → D.fs f = l[n].2) := fun e => by
        have := (H2.out.each l[n] (List.getElem_mem hlt)).2
        rw [e] at this
        exact this
      have hnext : Hid (l[n].1 ≠ f → ∀ j (h : j < l.length), j < n + 1 → l[j].1 ≠ f) := fun e j h hj => by
        by_cases ej : j = n
        · subst ej; exact e
        · exact hno.out j h (by omega)
      clear hcell
      generalize l[n] = x at *
      obtain ⟨xf, xn, xl⟩ := x
      dsimp only at d0 d1 d2
      by_cases hk : xf = f
      · have hkb : (xf == f) = true := beq_iff_eq.2 hk
        have hr := Lib.hid (hfirst.out hk)
        clear hnext hfirst
        subst hk
        go_wp2_with fail
        (try simp only [Exit.inBlock, Exit.then])
        refine bodyPost_ret (get_results (heap_new w _) rfl) rfl ⟨by rw [hr.out], nw_alloc w _⟩
      · have hkb : (xf == f) = false := beq_eq_false_iff_ne.2 hk
        have hr := Lib.hid (hnext.out hk)
        clear hfirst hnext hk
        go_wp2_with fail
        go_round
        case rel => exact ⟨n + 1, by omega, by go_num, hr⟩
        case measure => simp [intOf]; omega
    · have hr : Hid (D.fs f = Dk.noFil) := H2.out.none f (fun p hp e => by
        obtain ⟨j, hj, rfl⟩ := List.mem_iff_getElem.1 hp
        exact hno.out j hj (by omega) e)
      go_wp2_with fail
      (try simp only [Exit.inBlock, Exit.then])
      refine bodyPost_ret (get_results (heap_new w _) rfl) rfl ⟨by rw [hr.out]; rfl, nw_alloc w _⟩
set_option maxRecDepth 100000 in
theorem may_r (h : RDAt B w r D) (f : Int) :
    Calls Tryz.prog 98 #[.pointer (some ⟨r.rb, 0, none⟩), .int .i64 f] w fun e w' => e = .returned (.int .i64 (Dk.may D f)) ∧ w = w' := by
  obtain ⟨_, _, _, c3, _⟩ := h.cells
  cases hd : D.down with
  | true =>
    have hr : Hid (Dk.may D f = 8) := by show _ = _; unfold Dk.may; rw [hd]; rfl
    rw [hd] at c3
    clear h hd
    go_enter Tryz.func98, Tryz.ntmps98
    go_wp2_with fail
    go_ret
    exact ⟨by rw [hr.out] <;> rfl, rfl⟩
  | false =>
    rw [hd] at c3
    by_cases h1 : f < 0
    · have hr : Hid (Dk.may D f = 1) := by show _ = _; unfold Dk.may; rw [hd, if_neg (by decide), if_pos (Or.inl h1)]
      clear h hd
      go_enter Tryz.func98, Tryz.ntmps98
      go_wp2_with fail
      go_ret
      exact ⟨by rw [hr.out] <;> rfl, rfl⟩
    by_cases h2 : 15 < f
    · have hr : Hid (Dk.may D f = 1) := by show _ = _; unfold Dk.may; rw [hd, if_neg (by decide), if_pos (Or.inr (by omega))]
      clear h hd
      go_enter Tryz.func98, Tryz.ntmps98
      go_wp2_with fail
      go_ret
      exact ⟨by rw [hr.out] <;> rfl, rfl⟩
    · have hr : Hid (Dk.may D f = 0) := by show _ = _; unfold Dk.may; rw [hd, if_neg (by decide), if_neg (by omega)]
      clear h hd
      go_enter Tryz.func98, Tryz.ntmps98
      go_wp2_with fail
      go_ret
      exact ⟨by rw [hr.out] <;> rfl, rfl⟩
theorem rfield1 (f : Int) (x : Dk.Fil) (w : World) : (Instr.field tRFile (.agg #[.int .i64 f, .string ⟨x.now.toArray⟩, .string ⟨x.last.toArray⟩]) 1).run Tryz.prog w = .ok (.string ⟨x.now.toArray⟩) w := by kernel_rfl
set_option maxRecDepth 100000 in
theorem size_r (h : RDAt B w r D) (f : Int) :
    Calls Tryz.prog 75 #[.pointer (some ⟨r.rb, 0, none⟩), .int .i64 f] w fun e w' => e = .returned (.int .i64 (Dk.size D f)) ∧ Nw w w' := by
  have hg := Lib.hid (get_r h f)
  have hl := (h.ok.now f)
  have hl1 : ((D.fs f).now.length : Int) ≤ 16777216 := by omega
  have hr : Hid (Dk.size D f = (D.fs f).now.length) := rfl
  have hf1 := rfield1 f (D.fs f)
  have Hf := Lib.hid hf1
  clear h hl hf1
  generalize (D.fs f).now = N at *
  generalize (D.fs f).last = M at *
  rw [hr.out]
  clear hr
  go_enter Tryz.func75, Tryz.ntmps75
  go_wp2_with fail
  (with_reducible refine (hg.out).mono ?_)
  rintro _ w1 ⟨rfl, u1⟩
  go_wp2_with (with_reducible refine wpList_fieldL (o := ⟨some 8, _, _, _, _, _⟩) rfl _ tRFile 1 rfl _ _ (Hf.out _) (by with_unfolding_all rfl) ?_)
  go_ret
  exact ⟨rfl, u1⟩
theorem fits_r (i : Int) (hi : I64 i) (s : List UInt8) (hs : s.length ≤ 1000000000) (w : World) :
    Calls Tryz.prog 110 #[.int .i64 i, .string ⟨s.toArray⟩] w fun e w' => e = .returned (.bool (decide (Dk.wErr i s.length = 0))) ∧ w = w' := by
  by_cases h1 : i < 0
  · have hr : Hid (decide (Dk.wErr i s.length = 0) = false) := by show _ = _; unfold Dk.wErr; rw [if_pos h1]; rfl
    go_enter Tryz.func110, Tryz.ntmps110
    go_wp2_with fail
    go_ret
    exact ⟨by rw [hr.out] <;> rfl, rfl⟩
  have h1' : 0 ≤ i := by omega
  by_cases h2 : 16777216 < i
  · have hr : Hid (decide (Dk.wErr i s.length = 0) = false) := by show _ = _; unfold Dk.wErr; rw [if_neg h1, if_pos (Or.inl h2)]; rfl
    go_enter Tryz.func110, Tryz.ntmps110
    go_wp2_with fail
    go_ret
    exact ⟨by rw [hr.out] <;> rfl, rfl⟩
  have h2' : i ≤ 16777216 := by omega
  have hsl : (s.length : Int) ≤ 1000000000 := by omega
  by_cases h3 : i + s.length ≤ 16777216
  · have hr : Hid (decide (Dk.wErr i s.length = 0) = true) := by show _ = _; unfold Dk.wErr; rw [if_neg h1, if_neg (by omega)]; rfl
    clear h1 h2
    go_enter Tryz.func110, Tryz.ntmps110
    go_wp2_with fail
    go_ret
    exact ⟨by rw [hr.out] <;> rfl, rfl⟩
  · have hr : Hid (decide (Dk.wErr i s.length = 0) = false) := by show _ = _; unfold Dk.wErr; rw [if_neg h1, if_pos (Or.inr (by omega))]; rfl
    clear h1 h2
    go_enter Tryz.func110, Tryz.ntmps110
    go_wp2_with fail
    go_ret
    exact ⟨by rw [hr.out] <;> rfl, rfl⟩
set_option maxHeartbeats 1000000 in
set_option maxRecDepth 100000 in
theorem pending_r (h : RDAt B w r D) (f n : Int) :
    Calls Tryz.prog 127 #[.pointer (some ⟨r.rb, 0, none⟩), .int .i64 f, .int .i64 n] w fun e w' => e = .returned (.bool (decide ((f, n) ∈ D.q))) ∧ w = w' := by
  obtain ⟨_, c1, _⟩ := h.cells
  obtain ⟨a, cap, hv, _, hc⟩ := secD_cells (rs_sls h.queue)
  have hl := h.ok.q_len
  have hl1 : (D.q.length : Int) ≤ 4194304 := by omega
  have hl0 : (0 : Int) ≤ D.q.length := by omega
  rw [hv] at c1
  have Hc := Lib.hid hc
  generalize D.q = q at *
  have hI0 : Hid (∀ j (h : j < q.length), j < 0 → q[j] ≠ (f, n)) := fun j h hj => by omega
  clear h hc hv hl
  go_enter Tryz.func127, Tryz.ntmps127
  go_wp2_with fail
  go_loop [7] (fun iv => ∃ m : Nat, m ≤ q.length ∧ iv = .int .i64 m ∧ Hid (∀ j (h : j < q.length), j < m → q[j] ≠ (f, n))) (fun iv => q.length - (intOf iv).toNat)
  case atStart => exact ⟨0, Nat.zero_le _, rfl, hI0.out⟩
  case round =>
    obtain ⟨m, hm, rfl, hno⟩ := hrel
    by_cases hlt : m < q.length
    · rcases Hc.out with hnil | ⟨b, off, rfl, _, _, hcell⟩
      · rw [hnil] at hlt; simp at hlt
      obtain ⟨d0, d1⟩ := hcell m hlt
      have hfirst : Hid (q[m] = (f, n) → decide ((f, n) ∈ q) = true) := fun e => decide_eq_true (e ▸ List.getElem_mem hlt)
      have hnext : Hid (q[m] ≠ (f, n) → ∀ j (h : j < q.length), j < m + 1 → q[j] ≠ (f, n)) := fun e j h hj => by
        by_cases ej : j = m
        · subst ej; exact e
        · exact hno.out j h (by omega)
      clear hcell
      generalize q[m] = x at *
      obtain ⟨xf, xn⟩ := x
      dsimp only at d0 d1
      by_cases hk : xf = f
      · have hkb : (xf == f) = true := beq_iff_eq.2 hk
        by_cases hk2 : xn = n
        · have hkb2 : (xn == n) = true := beq_iff_eq.2 hk2
          have hr := Lib.hid (hfirst.out (by rw [hk, hk2]))
          clear hnext hfirst
          subst hk hk2
          go_wp2_with fail
          go_ret
          exact ⟨by rw [hr.out] <;> rfl, rfl⟩
        · have hkb2 : (xn == n) = false := beq_eq_false_iff_ne.2 hk2
          have hr := Lib.hid (hnext.out (fun e => hk2 (Prod.mk.inj e).2))
          clear hfirst hnext hk hk2
          go_wp2_with fail
          go_round
          case rel => exact ⟨m + 1, by omega, by go_num, hr⟩
          case measure => simp [intOf]; omega
      · have hkb : (xf == f) = false := beq_eq_false_iff_ne.2 hk
        have hr := Lib.hid (hnext.out (fun e => hk (Prod.mk.inj e).1))
        clear hfirst hnext hk
        go_wp2_with fail
        go_round
        case rel => exact ⟨m + 1, by omega, by go_num, hr⟩
        case measure => simp [intOf]; omega
    · have hr : Hid (decide ((f, n) ∈ q) = false) := by
        refine decide_eq_false fun hp => ?_
        obtain ⟨j, hj, e⟩ := List.mem_iff_getElem.1 hp
        exact hno.out j hj (by omega) e
      go_wp2_with fail
      go_ret
      exact ⟨by rw [hr.out] <;> rfl, rfl⟩
end
end Go.Proofs.YtmlmdlbepppnlaaGreatDoor
namespace Go.Proofs.YtmlmdlbepppnlaaGreatDoor
open Go.RowKit
set_option linter.unusedVariables false
set_option linter.unusedSimpArgs false
attribute [local irreducible] Calls

abbrev tByte : TypeId := 5
/-- The bytes x at the beginning of a block of cap cells that can be written. -/
def ByC (z : World) (b cap : Nat) (x : List UInt8) : Prop :=
  ∃ (cs : Array Value) (fz : Nat × Nat), z.heap[b]? = some (.cells cs tByte fz) ∧ cs.size = cap ∧ x.length ≤ cap ∧ (∀ i, i < cap → ¬ (fz.1 ≤ i ∧ i < fz.2)) ∧ ∀ i (h : i < x.length), cs[i]? = some (.int .u8 (x[i].toNat : Int))
section
variable {w w' : World} {b cap : Nat} {x : List UInt8}
theorem ByC.upd {S : Nat → Prop} (h : ByC w b cap x) (u : Upd S w w') (hs : ¬ S b) : ByC w' b cap x := by
  obtain ⟨cs, m, h1, h2⟩ := h
  exact ⟨cs, m, u.keep h1 hs, h2⟩
theorem ByC.le (h : ByC w b cap x) : x.length ≤ cap := by obtain ⟨cs, m, _, _, h, _⟩ := h; exact h
theorem ByC.lt (h : ByC w b cap x) : b < w.heap.size := by obtain ⟨cs, m, h1, _⟩ := h; exact lt_of_block h1
theorem ByC.cell (h : ByC w b cap x) (i : Nat) (hi : i < x.length) : w.cell? ⟨b, i, none⟩ = some (.int .u8 (x[i].toNat : Int)) := by
  obtain ⟨cs, m, h1, h2, h3, h4, h5⟩ := h
  rw [cells_cell h1, h5 i hi]
theorem ByC.there (h : ByC w b cap x) (i : Nat) (hi : i < cap) : (w.cell? ⟨b, i, none⟩).isSome = true := by
  obtain ⟨cs, m, h1, h2, h3, h4, h5⟩ := h
  rw [cells_cell h1]
  simp [h2, hi]
theorem ByC.free (h : ByC w b cap x) (i : Nat) (hi : i < cap) : w.frozen? ⟨b, i, none⟩ = false := by
  obtain ⟨cs, m, h1, h2, h3, h4, h5⟩ := h
  have := h4 i hi
  simp [World.frozen?, h1]
  omega
theorem ByC.set (h : ByC w b cap x) (hg : nG ≤ b) (i : Nat) (c : UInt8) : ByC (w.setCell ⟨b, i, none⟩ (.int .u8 (c.toNat : Int))) b cap (x.set i c) ∧ Upd (fun k => k = b) w (w.setCell ⟨b, i, none⟩ (.int .u8 (c.toNat : Int))) := by
  obtain ⟨cs, m, h1, h2, h3, h4, h5⟩ := h
  refine ⟨⟨_, m, setCell_block h1 i _, by simp [h2], by rw [List.length_set]; exact h3, h4, fun k hk => ?_⟩, Upd.set1 (Upd.refl _ _) hg i _⟩
  rw [List.length_set] at hk
  rw [Array.getElem?_setIfInBounds]
  by_cases e : i = k
  · subst e
    rw [if_pos rfl, if_pos (by omega)]
    simp
  · rw [if_neg e, h5 k hk]
    simp [List.getElem_set, e]
theorem ByC.snoc (h : ByC w b cap x) (hg : nG ≤ b) (hr : x.length < cap) (c : UInt8) : ByC (w.setCell ⟨b, x.length, none⟩ (.int .u8 (c.toNat : Int))) b cap (x ++ [c]) ∧ Upd (fun k => k = b) w (w.setCell ⟨b, x.length, none⟩ (.int .u8 (c.toNat : Int))) := by
  obtain ⟨cs, m, h1, h2, h3, h4, h5⟩ := h
  refine ⟨⟨_, m, setCell_block h1 x.length _, by simp [h2], by rw [List.length_append]; simp; omega, h4, fun k hk => ?_⟩, Upd.set1 (Upd.refl _ _) hg _ _⟩
  rw [List.length_append] at hk
  simp at hk
  rw [Array.getElem?_setIfInBounds]
  by_cases e : x.length = k
  · subst e
    rw [if_pos rfl, if_pos (by omega)]
    simp
  · rw [if_neg e, h5 k (by omega), List.getElem_append_left (by omega)]
end
theorem byC_of {s : List UInt8} (w : World) : ∃ cap z, (convert 9 126 (.string ⟨s.toArray⟩)).run Tryz.prog w = .ok (.slice (some ⟨w.heap.size, 0, none⟩) s.length cap) z ∧ ByC z w.heap.size cap s ∧ Nw w z := by
  have hsz : (⟨s.toArray⟩ : ByteArray).size = s.length := by simp [ByteArray.size]
  have hrun := Lib.run_convert_string_bytes (P := Tryz.prog) w 9 126 5 ⟨s.toArray⟩ Tryz.underlying9 Tryz.underlying126 Tryz.underlying5
  rw [hsz] at hrun
  have hc : s.length ≤ grownCap w s.length 0 tByte := grownCap_ge w s.length 0 tByte
  have hs : (Lib.bytesCells w tByte ⟨s.toArray⟩).size = grownCap w s.length 0 tByte := by
    simp [Lib.bytesCells]
    rw [hsz]
    omega
  refine ⟨_, _, hrun, ⟨_, _, Lib.bytesWorld_at_new w 5 ⟨s.toArray⟩, hs, hc, fun i hi => ?_, fun i hi => ?_⟩, ?_⟩
  · have hi' : i < grownCap w s.length 0 tByte := hi
    dsimp only
    rw [hs]; omega
  · simp [Lib.bytesCells, Array.getElem?_append, hi]
  · exact ⟨rfl, rfl, rfl, by rw [Lib.bytesWorld_size]; omega, fun k hk _ => Lib.bytesWorld_at_old w _ _ k hk⟩
theorem byC_string {w : World} {b cap : Nat} {x : List UInt8} (h : ByC w b cap x) : (convert 126 9 (.slice (some ⟨b, 0, none⟩) x.length cap)).run Tryz.prog w = .ok (.string ⟨x.toArray⟩) w :=
  run_convert_bytes_back (P := Tryz.prog) w 126 9 5 ⟨b, 0, none⟩ cap x Tryz.underlying126 Tryz.underlying5 Tryz.underlying9 (fun j hj => by
    rw [add_plain, Nat.zero_add, h.cell j hj])
/-- 'b = append(b, c)'. -/
theorem wpList_appB {w : World} {ops : Array Oper} {rest : List Oper} {o : Oper} {a : Act} {Q : Exit → Act → World → Prop} (hgd : o.guard = none) (s y : Operand)
    (ho : o.op = .call { callee := .builtin .append, args := #[s, y], argTypes := #[126, 126] })
    (b cap : Nat) (x : List UInt8) (hs : a.eval s = .slice (some ⟨b, 0, none⟩) x.length cap) (h : ByC w b cap x) (hg : nG ≤ b) (c : UInt8) (H : Nat) (hy : a.eval y = .slice (some ⟨H, 0, none⟩) 1 1) (hH : w.heap[H]? = some (.cells #[.int .u8 (c.toNat : Int)] tByte (0, 0)))
    (hx : x.length ≤ 100000000)
    (hK : ∀ b' cap' w', ByC w' b' cap' (x ++ [c]) → Upd (fun k => k = b) w w' → (b' = b ∨ w.heap.size ≤ b') → wpList Tryz.prog ops Q rest (a.put o.dst (.slice (some ⟨b', 0, none⟩) (x.length + 1) cap')) w') : wpList Tryz.prog ops Q (o :: rest) a w := by
  obtain ⟨i0, hi, hz0, hz1, hz2⟩ := info_parts infoByte
  have hnews : ∀ (j : Nat) (u : Value), ([Value.int .u8 (c.toNat : Int)] : List Value)[j]? = some u → w.cell? ((⟨H, 0, none⟩ : Addr).add j) = some u := fun j u hu => by
    rw [add_plain, cells_cell hH, Nat.zero_add]
    simpa using hu
  refine wpList_plain hgd fun K hKK => ?_
  unfold Oper.wp execOp
  by_cases hr : x.length + 1 ≤ cap
  · have hrun := run_append_room_cells (P := Tryz.prog) w 126 o.type 5 i0 Tryz.underlying126 hi b 0 x.length cap ⟨H, 0, none⟩ 1 1 [.int .u8 (c.toNat : Int)] (by rw [hz1]; rfl) hnews (by intro u hu; rw [List.mem_singleton.1 hu]; rfl) hr
      (fun j hj => by
        have : j = 0 := by simpa using hj
        subst this
        exact h.there _ (by rw [hz1]; omega)) (fun j hj => by
        have : j = 0 := by simpa using hj
        subst this
        exact h.free _ (by rw [hz1]; omega))
    rw [hz1, Nat.zero_add, Nat.mul_one] at hrun
    obtain ⟨h1, h2⟩ := h.snoc hg (by omega) c
    simp only [ho, resolve, invoke, builtin, Sem.run_bind, Sem.run_pure, Result.andThen_ok, List.map_toArray, List.map_cons, List.map_nil, hs, hy, hrun]
    exact hKK _ _ (hK b cap _ h1 h2 (Or.inl rfl))
  · obtain ⟨v', w', hrun, hown, hgr⟩ := run_append_arg_grows (P := Tryz.prog) w 126 o.type 5 i0 (.int .u8 0) 1 1 Tryz.underlying126 hi hz0 hz1 hz2 rfl (by decide) ⟨b, 0, none⟩ x.length cap (Lib.byteCells x) (by simp [Lib.byteCells])
      (fun j u hu => by
        have hj : j < x.length := by have := (List.getElem?_eq_some_iff.1 hu).1; simpa [Lib.byteCells] using this
        rw [byteCells_get x j hj] at hu
        rw [add_plain, Nat.zero_add, h.cell j hj, hu]) ⟨H, 0, none⟩ 1 1 [.int .u8 (c.toNat : Int)] rfl hnews (by omega) (by unfold maxLen; omega) (by omega)
    simp only [ho, resolve, invoke, builtin, Sem.run_bind, Sem.run_pure, Result.andThen_ok, List.map_toArray, List.map_cons, List.map_nil, hs, hy, hrun]
    obtain ⟨hl, hcase⟩ := hown
    rcases hcase with ⟨_, e⟩ | ⟨g, cap', cur, rfl, hb, hgc, hn, hm, hsz, htk⟩
    · omega
    · refine hKK _ _ (hK g cap' w' ⟨cur, (0, 0), hgc, by rw [hsz, Nat.mul_one], by rw [List.length_append]; exact hn, (fun i hi e => by omega), fun i hi => ?_⟩ ((Upd.refl _ _).grown hgr fun k hk => by cases hk) (Or.inr hb))
      have e1 : cur.toList.take (x.length + 1) = Lib.byteCells (x ++ [c]) := by
        rw [Nat.mul_one] at htk
        rw [htk, byteCells_append]; rfl
      have e2 := congrArg (fun l : List Value => l[i]?) e1
      rw [List.length_append] at hi
      simp at hi
      rw [List.getElem?_take, if_pos (by omega), byteCells_get (x ++ [c]) i (by simp; omega)] at e2
      simpa using e2
/-- While zeroes are appended. -/
def PtA (w : World) (s : List UInt8) (m : Nat) (v : Value) (n : Nat) (z : World) : Prop :=
  ∃ b cap, v = .slice (some ⟨b, 0, none⟩) n cap ∧ ByC z b cap (s ++ List.replicate (n - s.length) 0) ∧ s.length ≤ n ∧ n ≤ max s.length m ∧ Nw w z ∧ w.heap.size ≤ b
/-- While bytes are written. -/
def PtB (w : World) (x t : List UInt8) (i b cap j : Nat) (z : World) : Prop := ByC z b cap (x.take i ++ t.take j ++ x.drop (i + j)) ∧ Nw w z
theorem set_step {x t : List UInt8} {i j : Nat} (hx : i + t.length ≤ x.length) (hj : j < t.length) : (x.take i ++ t.take j ++ x.drop (i + j)).set (i + j) t[j] = x.take i ++ t.take (j + 1) ++ x.drop (i + (j + 1)) := by
  have hl : (x.take i ++ t.take j).length = i + j := by rw [List.length_append, List.length_take, List.length_take]; omega
  rw [List.set_append_right _ _ (by omega), hl, Nat.sub_self, List.drop_eq_getElem_cons (show i + j < x.length by omega), List.set_cons_zero, List.take_succ_eq_append_getElem hj, show i + (j + 1) = i + j + 1 by omega]
  simp only [List.append_assoc, List.cons_append, List.nil_append]
def lenOfSl : Value → Nat
  | .slice _ n _ => n
  | _ => 0
set_option maxHeartbeats 2000000 in
set_option maxRecDepth 100000 in
theorem Put_r (s t : List UInt8) (i : Nat) (w : World) (g : Gl w) (hs : s.length ≤ 16777216) (hi : i + t.length ≤ 16777216) :
    Calls Tryz.prog 84 #[.string ⟨s.toArray⟩, .int .i64 i, .string ⟨t.toArray⟩] w fun e w' => e = .returned (.string ⟨(Dk.put s i t).toArray⟩) ∧ Nw w w' := by
  have hgb := g.big
  by_cases ht : t = []
  · subst ht
    have hr : Hid (Dk.put s i [] = s) := by show _ = _; unfold Dk.put; rw [if_pos rfl]
    go_enter Tryz.func84, Tryz.ntmps84
    go_wp2_with fail
    go_ret
    exact ⟨by rw [hr.out]; rfl, Upd.refl _ _⟩
  have hte : t.isEmpty = false := by cases t with | nil => exact absurd rfl ht | cons _ _ => rfl
  have hte2 : (t == ([] : List UInt8)) = false := by cases t with | nil => exact absurd rfl ht | cons _ _ => rfl
  have Ht : Hid (t ≠ []) := ht
  obtain ⟨m, hm⟩ : ∃ m, m = i + t.length := ⟨_, rfl⟩
  have hmi : (i : Int) + t.length = (m : Int) := by omega
  have hm1 : m ≤ 16777216 := by omega
  have hm2 : (m : Int) ≤ 16777216 := by omega
  have hs2 : (s.length : Int) ≤ 16777216 := by omega
  obtain ⟨cap, z, hcv, hby, uz⟩ := byC_of (s := s) w
  have hI0 : Hid (PtA w s m (.slice (some ⟨w.heap.size, 0, none⟩) s.length cap) s.length z) := ⟨_, _, rfl, by rw [Nat.sub_self, List.replicate_zero, List.append_nil]; exact hby, Nat.le_refl _, by omega, uz, Nat.le_refl _⟩
  have HM := Lib.hid hm
  have HS := Lib.hid (And.intro hs hi)
  clear ht hby uz hm hs hi
  go_enter Tryz.func84, Tryz.ntmps84
  go_wp2_with fail
  go_loopw [7] (fun v wr => ∃ n : Nat, Hid (PtA w s m v n wr)) (fun v _ => max s.length m - lenOfSl v)
  case atStart => exact ⟨_, hI0.out⟩
  case round =>
    obtain ⟨n, HI⟩ := hrel
    obtain ⟨b, cap1, rfl, P1, P2, P3, P4, P5⟩ := HI.out
    have HP := Lib.hid (And.intro P1 (And.intro P2 (And.intro P3 (And.intro P4 P5))))
    obtain ⟨x, hx⟩ : ∃ x, x = s ++ List.replicate (n - s.length) 0 := ⟨_, rfl⟩
    obtain rfl : n = x.length := by rw [hx, List.length_append, List.length_replicate]; omega
    rw [← hx] at HP
    have hn1 : (x.length : Int) ≤ 16777216 := by have := HS.out.1; omega
    have HX := Lib.hid hx
    clear P1 P2 P3 P4 P5 HI hx
    by_cases hlt : x.length < m
    · have hlt1 : (x.length : Int) < m := by omega
      have hgw : nG ≤ wr.heap.size := (g.upd HP.out.2.2.2.1).big
      go_wp2_with (at_builtin; refine wpList_appB rfl _ _ rfl b cap1 x rfl (HP.out.1.upd (nw_alloc wr (.cells #[.int .u8 0] tByte)) id) (by have := HP.out.2.2.2.2; omega) 0 wr.heap.size rfl (heap_new wr _) (by omega) ?_)
      intro b2 cap2 w2 hb2 u2 ho2
      have hsz : wr.heap.size ≤ (wr.alloc (.cells #[.int .u8 0] tByte)).heap.size := (nw_alloc wr _).size
      have hz : Hid (PtA w s m (.slice (some ⟨b2, 0, none⟩) (x.length + 1) cap2) (x.length + 1) w2) := by
        refine ⟨b2, cap2, rfl, ?_, by have := HP.out.2.1; omega, by have := HP.out.2.1; omega, ((HP.out.2.2.2.1.trans (nw_alloc wr _)).trans' u2 (fun k hk e => by have := HP.out.2.2.2.2; omega)), ?_⟩
        · have := HX.out
          have hl := congrArg List.length this
          rw [List.length_append, List.length_replicate] at hl
          rw [show x.length + 1 - s.length = (x.length - s.length) + 1 by omega, List.replicate_succ', ← List.append_assoc, ← this]
          exact hb2
        · have := HP.out.2.2.2.2
          have := HP.out.2.2.2.1.size
          rcases ho2 with e | e <;> omega
      clear hb2 u2 ho2
      go_wp2_with fail
      go_roundw
      case rel => exact ⟨_, hz.out⟩
      case measure => simp [lenOfSl]; omega
    · have hge1 : ¬ (x.length : Int) < m := by omega
      rename World => w3
      have hJ0 : Hid (PtB w x t i b cap1 0 w3) := ⟨by rw [List.take_zero, List.append_nil, Nat.add_zero, List.take_append_drop]; exact HP.out.1, HP.out.2.2.2.1⟩
      have ht1 : (t.length : Int) ≤ 16777216 := by omega
      have hfill := Dk.put_fill s t i x.length Ht.out (by have := HP.out.2.2.1; have := HP.out.2.1; have := HM.out; omega)
      rw [← HX.out] at hfill
      have Hf := Lib.hid hfill
      have hxm : Hid (i + t.length ≤ x.length) := by show _ ≤ _; have := HM.out; omega
      have hbg : nG ≤ b := by have := HP.out.2.2.2.2; omega
      clear hfill
      go_wp2_with fail
      go_loopw [8] (fun iv wr => ∃ j : Nat, j ≤ t.length ∧ iv = .int .i64 j ∧ Hid (PtB w x t i b cap1 j wr)) (fun iv _ => t.length - (intOf iv).toNat)
      case atStart => exact ⟨0, Nat.zero_le _, rfl, hJ0.out⟩
      case round =>
        obtain ⟨j, hj, rfl, HJ⟩ := hrel
        by_cases hjt : j < t.length
        · have hjt1 : (j : Int) < t.length := by omega
          have hlen : (x.take i ++ t.take j ++ x.drop (i + j)).length = x.length := by
            have := hxm.out
            simp only [List.length_append, List.length_take, List.length_drop]; omega
          obtain ⟨cv, xc⟩ : ∃ cv, wr.cell? ⟨b, i + j, none⟩ = some cv := ⟨_, HJ.out.1.cell (i + j) (by have := hxm.out; omega)⟩
          have xf := HJ.out.1.free (i + j) (by have := HJ.out.1.le; have := hxm.out; omega)
          have hst := HJ.out.1.set hbg (i + j) t[j]
          rw [set_step hxm.out hjt] at hst
          have hz : Hid (PtB w x t i b cap1 (j + 1) (wr.setCell ⟨b, i + j, none⟩ (.int .u8 (t[j].toNat : Int)))) := ⟨hst.1, HJ.out.2.trans' hst.2 (fun k hk e => by have := HP.out.2.2.2.2; omega)⟩
          have hij : (i : Int) + j < x.length := by have := hxm.out; omega
          clear hst hlen
          go_wp2_with fail
          go_roundw
          case rel => exact ⟨j + 1, by omega, by go_num, hz.out⟩
          case measure => simp [intOf]; omega
        · obtain rfl : j = t.length := by omega
          have hlen : (x.take i ++ t.take t.length ++ x.drop (i + t.length)).length = x.length := by
            have := hxm.out
            simp only [List.length_append, List.length_take, List.length_drop]; omega
          have hcv2 := byC_string HJ.out.1
          rw [hlen, List.take_length, Hf.out] at hcv2
          have hfin := Lib.hid HJ.out.2
          clear hlen HJ
          go_wp2_with fail
          go_ret
          exact ⟨rfl, hfin.out⟩
end Go.Proofs.YtmlmdlbepppnlaaGreatDoor
namespace Go.Proofs.YtmlmdlbepppnlaaGreatDoor
open Go.RowKit
set_option linter.unusedVariables false
set_option linter.unusedSimpArgs false
attribute [local irreducible] Calls

theorem infoRFile : (Tryz.prog.info? tRFile).map (fun i => (i.zero, i.size, i.bytes)) = some (some (.agg #[.int .i64 0, .string ⟨#[]⟩, .string ⟨#[]⟩]), 3, 40) := by kernel_rfl
theorem rfL_one (p : Int × Dk.Fil) : ∀ u ∈ rfL p, u.oneCell' = true := by
  intro u hu
  simp only [rfL, List.mem_cons, List.not_mem_nil, or_false] at hu
  rcases hu with rfl | rfl | rfl <;> rfl
section
variable {B : Nat} {w w1 : World} {r : RdR} {D D' : Dk.Disk}
/-- What a call leaves that replaces the list of files alone. -/
def RDS (B : Nat) (r : RdR) (D' : Dk.Disk) (w w' : World) : Prop :=
  ∃ fv', RDAt B w' ⟨r.rb, fv', r.qv, r.kv⟩ D' ∧ Upd (fun k => k = r.rb) w w' ∧ ∀ k, fv'.ownBlock = some k → r.fv.ownBlock = some k ∨ w.heap.size ≤ k
theorem RDS.to (h : RDS B r D' w w1) : RDTo B r D' w w1 := by
  obtain ⟨fv', h1, h2, h3⟩ := h
  refine ⟨_, h1, rfl, h2.mono (fun k _ e => Or.inl e), ?_⟩
  rintro j (e | e | e | e)
  · exact Or.inl (Or.inl e)
  · exact (h3 j e).imp (fun e => Or.inr (Or.inl e)) id
  · exact Or.inl (Or.inr (Or.inr (Or.inl e)))
  · exact Or.inl (Or.inr (Or.inr (Or.inr e)))
theorem RDS.after {w0 : World} (u : Nw w0 w) (h : RDS B r D' w w1) : RDS B r D' w0 w1 := by
  obtain ⟨fv', h1, h2, h3⟩ := h
  exact ⟨fv', h1, Nw.trans u h2, fun k hk => (h3 k hk).imp id (fun e => by have := u.size; omega)⟩
/-- A new list of files is put into the disk's block. -/
theorem files_done {v' : Value} {B0 : Nat} {l' : List (Int × Dk.Fil)} (h : RDAt B w r D) (u : Nw w w1) (hB0 : w.heap.size ≤ B0) (hown : w1.ownsRow B0 tRFile 3 v' l'.length (flatR l')) (hB : B ≤ w.heap.size) (hs : SaysR l' D'.fs)
    (e1 : D'.q = D.q) (e2 : D'.lost = D.lost) (e3 : D'.down = D.down) (e4 : D'.armed = D.armed) (e5 : D'.keep = D.keep) (hk : Dk.Ok D') : RDS B r D' w (w1.setCell ⟨r.rb, 0, none⟩ v') := by
  have h1 := h.nw u
  have hg : nG ≤ r.rb := Nat.le_trans h.hb h.rb
  have us : Upd (fun k => k = r.rb) w1 (w1.setCell ⟨r.rb, 0, none⟩ v') := Upd.set1 (Upd.refl _ _) hg 0 _
  have hrw := (h.foot_lt (Or.inl rfl)).2
  refine ⟨v', ⟨h.hb, h.rb, ?_, ?_, ?_, ?_, hk, by rw [e5]; exact h.kI⟩, Nw.trans u us, fun j e => Or.inr (Nat.le_trans hB0 (hown.lt j e).1)⟩
  · have := setCell_block h1.blk 0 v'
    unfold rdC at this ⊢
    rw [e2, e3, e4]
    exact this
  · exact ⟨l', owns_base (owns_updD hown us (fun k hk e => by have := (hown.lt k hk).1; omega)) (Nat.le_trans hB hB0), hs⟩
  · rw [e1]
    exact owns_updD h1.queue us (fun k hk e => own_blk h1.queue h1.blk (by decide) (by rw [← e]; exact hk))
  · rw [e5]
    exact owns_updD h1.keep us (fun k hk e => own_blk h1.keep h1.blk (by decide) (by rw [← e]; exact hk))
/-- While the other files are copied. -/
def SetI (w : World) (l : List (Int × Dk.Fil)) (f : Int) (k : Nat) (v : Value) (z : World) : Prop :=
  z.ownsRow (w.heap.size + 1) tRFile 3 v ((l.take k).filter (fun p => !(p.1 == f))).length (flatR ((l.take k).filter (fun p => !(p.1 == f)))) ∧ Nw w z
set_option maxHeartbeats 2000000 in
set_option maxRecDepth 100000 in
theorem set_r (h : RDAt B w r D) (g : Gl w) (hB : B ≤ w.heap.size) {f : Int} (hf : 0 ≤ f ∧ f < 16) (x : Dk.Fil) (hk : Dk.Ok { D with fs := Dk.setF D.fs f x }) :
    Calls Tryz.prog 85 #[.pointer (some ⟨r.rb, 0, none⟩), .agg #[.int .i64 f, .string ⟨x.now.toArray⟩, .string ⟨x.last.toArray⟩]] w fun e w' => e = .returned (.tuple #[]) ∧ RDS B r { D with fs := Dk.setF D.fs f x } w w' := by
  have hgb := g.big
  obtain ⟨l, hl, hsl⟩ := h.files
  have hl16 := hsl.len
  obtain ⟨a, cap, hv, _, _⟩ := rfL_cells (rf_sls hl)
  have hl1 : (l.length : Int) ≤ 16 := by omega
  have n1 := nw_alloc w (.cells #[.int .i64 f, .string ⟨x.now.toArray⟩, .string ⟨x.last.toArray⟩] tRFile)
  have k1 := heap_new w (.cells #[.int .i64 f, .string ⟨x.now.toArray⟩, .string ⟨x.last.toArray⟩] tRFile)
  have hI0 : Hid (SetI w l f 0 (.slice none 0 0) (w.alloc (.cells #[.int .i64 f, .string ⟨x.now.toArray⟩, .string ⟨x.last.toArray⟩] tRFile))) := ⟨World.ownsRow_nil _ _ _ _, n1⟩
  have H := Lib.hid (And.intro h (And.intro hl (And.intro hsl (And.intro hB hk))))
  have K1 : Hid (∀ z, Nw (w.alloc (.cells #[.int .i64 f, .string ⟨x.now.toArray⟩, .string ⟨x.last.toArray⟩] tRFile)) z → z.heap[w.heap.size]? = some (.cells #[.int .i64 f, .string ⟨x.now.toArray⟩, .string ⟨x.last.toArray⟩] tRFile (0, 0))) := fun z u => u.keep k1
  have hbx := Lib.hid k1
  have Hv := Lib.hid hv
  clear h hl hsl hB hk n1 k1 hv hl16
  go_enter Tryz.func85, Tryz.ntmps85
  go_wp2_with fail
  go_loopw [4, 5] (fun v iv wr => ∃ k : Nat, k ≤ l.length ∧ iv = .int .i64 k ∧ Hid (SetI w l f k v wr ∧ wr.heap[w.heap.size]? = some (.cells #[.int .i64 f, .string ⟨x.now.toArray⟩, .string ⟨x.last.toArray⟩] tRFile (0, 0)))) (fun _ iv _ => l.length - (intOf iv).toNat)
  case atStart => exact ⟨0, Nat.zero_le _, rfl, hI0.out, hbx.out⟩
  case round =>
    obtain ⟨k, hk, rfl, HI⟩ := hrel
    obtain ⟨av, cv, rfl⟩ := own_slD HI.out.1.1
    have h' := H.out.1.nw HI.out.1.2
    obtain ⟨c0, _⟩ := h'.cells
    have f0 := h'.frozen 0
    rw [Hv.out] at c0
    obtain ⟨a', cap', ev, _, hcell⟩ := rfL_cells (rf_sls (owns_updD H.out.2.1 HI.out.1.2 (fun _ _ e => e)))
    rw [Hv.out] at ev
    simp only [Value.slice.injEq, true_and] at ev
    obtain ⟨rfl, rfl⟩ := ev
    clear h'
    by_cases hlt : k < l.length
    · rcases hcell with hnil | ⟨b, off, rfl, _, _, hc⟩
      · rw [hnil] at hlt; simp at hlt
      obtain ⟨d0, d1, d2⟩ := hc k hlt
      have htk : l.take (k + 1) = l.take k ++ [l[k]] := List.take_succ_eq_append_getElem hlt
      have Htk := Lib.hid htk
      have hfl : ((l.take k).filter (fun p => !(p.1 == f))).length ≤ 16 := Nat.le_trans (List.length_filter_le _ _) (by rw [List.length_take]; omega)
      have Hfl := Lib.hid hfl
      have y0 := fun i : Later wr => later_cell i d0
      have yc := fun i : Later wr => later_cell i c0
      have yb := fun i : Later wr => (show i.1.cell? ⟨w.heap.size, 0, none⟩ = some (.int .i64 f) by rw [cells_cell (i.nw.keep HI.out.2)]; rfl)
      clear hc htk hfl
      generalize l[k] = y at *
      obtain ⟨yf, yn, yl⟩ := y
      dsimp only at d0 d1 d2 y0
      by_cases hyf : yf = f
      · have hz : Hid (∀ z, Nw wr z → SetI w l f (k + 1) (.slice av ((l.take k).filter (fun p => !(p.1 == f))).length cv) z) := fun z u => by
          unfold SetI
          rw [Htk.out, List.filter_append]
          have : List.filter (fun p : Int × Dk.Fil => !(p.1 == f)) [(yf, ⟨yn, yl⟩)] = [] := by simp [hyf]
          rw [this, List.append_nil]
          exact ⟨owns_updD HI.out.1.1 u (fun _ _ e => e), HI.out.1.2.trans u⟩
        have hb : (yf != f) = false := by simp [hyf]
        have hb2 : (yf == f) = true := by simp [hyf]
        clear hyf
        go_wp2_with fail
        refine wp_region_nw (by kernel_rfl) (by kernel_rfl) ?_
        repeat (go_big_quiet_step ((fail)))
        refine wpQuiet_nil ?_
        intro wq uq
        replace uq := later_out uq
        have hz2 := Lib.hid (And.intro (hz.out wq uq) (uq.keep HI.out.2))
        clear hz uq
        go_wp2_with fail
        go_roundw
        case rel => exact ⟨k + 1, by omega, by go_num, hz2.out⟩
        case measure => simp [intOf]; omega
      · have hz : Hid (∀ v' z', z'.ownsRow (w.heap.size + 1) tRFile 3 v' (((l.take k).filter (fun p => !(p.1 == f))).length + 1) (flatR ((l.take k).filter (fun p => !(p.1 == f))) ++ rfL (yf, ⟨yn, yl⟩)) → Nw w z' → SetI w l f (k + 1) v' z') := fun v' z' h1 h2 => by
          unfold SetI
          rw [Htk.out, List.filter_append]
          have : List.filter (fun p : Int × Dk.Fil => !(p.1 == f)) [(yf, ⟨yn, yl⟩)] = [(yf, ⟨yn, yl⟩)] := by simp [hyf]
          rw [this, List.length_append, flatR_snoc]
          exact ⟨h1, h2⟩
        have hb : (yf != f) = true := by simp [hyf]
        have hb2 : (yf == f) = false := by simp [hyf]
        clear hyf
        go_wp2_with fail
        refine wp_region_nw (by kernel_rfl) (by kernel_rfl) ?_
        repeat (go_big_quiet_step ((fail)))
        refine wpQuiet_nil ?_
        intro wq uq
        replace uq := later_out uq
        have c0q := (⟨wq, uq⟩ : Later wr)
        have e0 := yc ⟨wq, uq⟩
        have e1 := y0 ⟨wq, uq⟩
        have e2 := later_cell (⟨wq, uq⟩ : Later wr) d1
        have e3 := later_cell (⟨wq, uq⟩ : Later wr) d2
        dsimp only at e0 e1 e2 e3
        have Hq := Lib.hid (And.intro (owns_updD HI.out.1.1 uq (fun _ _ e => e)) (And.intro (HI.out.1.2.trans uq) (uq.keep HI.out.2)))
        have hWq : w.heap.size + 1 ≤ wq.heap.size := lt_of_block Hq.out.2.2
        have hgb1 : nG ≤ w.heap.size + 1 := by omega
        clear uq y0 yc yb c0q c0 d0 d1 d2
        go_wp2_with (at_builtin; refine wpList_appL rfl _ _ 67 rfl (w.heap.size + 1) tRFile _ 3 40 Tryz.underlying67 infoRFile rfl (by decide) _ _ _ rfl Hq.out.1 (rfL (yf, ⟨yn, yl⟩)) rfl rfl (rfL_one _) ?c2 ?c3 hWq hgb1 ?_)
        case c2 => have := Hfl.out; unfold maxLen; omega
        case c3 => have := Hfl.out; omega
        intro v' w6 o6 u6 hob
        have hz2 : Hid (SetI w l f (k + 1) v' w6 ∧ w6.heap[w.heap.size]? = some (.cells #[.int .i64 f, .string ⟨x.now.toArray⟩, .string ⟨x.last.toArray⟩] tRFile (0, 0))) :=
          ⟨hz.out v' w6 o6 (Hq.out.2.1.trans' u6 (fun j hj e => by have := (Hq.out.1.lt j e).1; omega)), u6.keep Hq.out.2.2 (fun e => by have := (Hq.out.1.lt _ e).1; omega)⟩
        clear hz o6 u6 hob
        go_wp2_with fail
        go_roundw
        case rel => exact ⟨k + 1, by omega, by go_num, hz2.out⟩
        case measure => simp [intOf]; omega
    · obtain rfl : k = l.length := by omega
      have hgw : nG ≤ w.heap.size + 1 := by omega
      obtain ⟨q0, q1, q2⟩ : wr.cell? ⟨w.heap.size, 0, none⟩ = some (.int .i64 f) ∧ wr.cell? ⟨w.heap.size, 1, none⟩ = some (.string ⟨x.now.toArray⟩) ∧ wr.cell? ⟨w.heap.size, 2, none⟩ = some (.string ⟨x.last.toArray⟩) := by
        refine ⟨?_, ?_, ?_⟩ <;> (rw [cells_cell HI.out.2]; rfl)
      have hWr : w.heap.size + 1 ≤ wr.heap.size := lt_of_block HI.out.2
      have hfl : ((l.take l.length).filter (fun p => !(p.1 == f))).length ≤ 16 := Nat.le_trans (List.length_filter_le _ _) (by rw [List.length_take]; omega)
      have Hfl := Lib.hid hfl
      have hrbg : nG ≤ r.rb := Nat.le_trans H.out.1.hb H.out.1.rb
      clear hcell hfl
      go_wp2_with (at_builtin; refine wpList_appL rfl _ _ 67 rfl (w.heap.size + 1) tRFile _ 3 40 Tryz.underlying67 infoRFile rfl (by decide) _ _ _ rfl HI.out.1.1 (rfL (f, x)) rfl rfl (rfL_one _) ?c2 ?c3 hWr hgw ?_)
      case c2 => have := Hfl.out; unfold maxLen; omega
      case c3 => have := Hfl.out; omega
      intro v' w6 o6 u6 hob
      obtain ⟨a6, c6, rfl⟩ := own_slD o6
      have hI1 := HI.out.1.1
      rw [List.take_length] at hI1
      have U6 : Nw w w6 := HI.out.1.2.trans' u6 (fun j hj e => by have := (hI1.lt j e).1; omega)
      have c06 := (H.out.1.nw U6).cells.1
      have f06 := (H.out.1.nw U6).frozen 0
      have hdone := files_done (D' := { D with fs := Dk.setF D.fs f x }) (l' := putR l f x) H.out.1 U6 (Nat.le_succ _) (by unfold putR; rw [flatR_snoc, List.length_append]; exact o6) H.out.2.2.2.1 (H.out.2.2.1.put hf x) rfl rfl rfl rfl rfl H.out.2.2.2.2
      have Hd := Lib.hid hdone
      clear hdone o6 u6 hob U6 HI q0 q1 q2 hI1
      go_wp2_with fail
      go_end0
      exact ⟨rfl, Hd.out⟩
/-- A sector is noted. -/
theorem note_done_r {ws : World} {v' : Value} {p : Int × Int} {T : Nat → Prop} (h : RDAt B w r D) (us : Upd (fun k => r.qv.ownBlock = some k) w ws) (hown : ws.ownsRow B tRSec 2 v' (D.q.length + 1) (flatQ D.q ++ secL p)) (hob : ∀ k, v'.ownBlock = some k → r.qv.ownBlock = some k ∨ w.heap.size ≤ k)
    (hk : Dk.Ok { D with q := D.q ++ [p] }) : RDTo B r { D with q := D.q ++ [p] } w (ws.setCell ⟨r.rb, 1, none⟩ v') := by
  have hg : nG ≤ r.rb := Nat.le_trans h.hb h.rb
  have e2 : Upd (fun k => k = r.rb) ws (ws.setCell ⟨r.rb, 1, none⟩ v') := Upd.set1 (Upd.refl _ _) hg 1 _
  have hrq : r.qv.ownBlock ≠ some r.rb := own_blk h.queue h.blk (by decide)
  obtain ⟨lf, hlf, hsf⟩ := h.files
  have hrf : r.fv.ownBlock ≠ some r.rb := own_blk hlf h.blk (by decide)
  have hrk : r.kv.ownBlock ≠ some r.rb := own_blk h.keep h.blk (by decide)
  have hvr : v'.ownBlock ≠ some r.rb := fun e => by
    rcases hob _ e with e | e
    · exact hrq e
    · have := (h.foot_lt (Or.inl rfl)).2; omega
  refine ⟨⟨r.rb, r.fv, v', r.kv⟩, ⟨h.hb, h.rb, ?_, ?_, ?_, ?_, hk, h.kI⟩, rfl, ?_, ?_⟩
  · exact setCell_block (us.keep h.blk hrq) 1 v'
  · exact ⟨lf, owns_updD (owns_updD hlf us (fun k hk e => own_typ hlf h.queue (by decide) hk e)) e2 (fun k hk e => hrf (by rw [← e]; exact hk)), hsf⟩
  · have := owns_updD hown e2 (fun k hk e => hvr (by rw [← e]; exact hk))
    dsimp only
    rw [List.length_append, flatQ_snoc]
    exact this
  · exact owns_updD (owns_updD h.keep us (fun k hk e => own_typ h.keep h.queue (by decide) hk e)) e2 (fun k hk e => hrk (by rw [← e]; exact hk))
  · exact (us.mono (fun k _ e => Or.inr (Or.inr (Or.inl e)))).trans' e2 (fun k _ e => Or.inl e)
  · rintro j (e | e | e | e)
    · exact Or.inl (Or.inl e)
    · exact Or.inl (Or.inr (Or.inl e))
    · exact (hob j e).imp (fun e => Or.inr (Or.inr (Or.inl e))) id
    · exact Or.inl (Or.inr (Or.inr (Or.inr e)))
theorem infoRSec : (Tryz.prog.info? tRSec).map (fun i => (i.zero, i.size, i.bytes)) = some (some (.agg #[.int .i64 0, .int .i64 0]), 2, 16) := by kernel_rfl
set_option maxHeartbeats 4000000 in
set_option maxRecDepth 100000 in
theorem add_r (h : RDAt B w r D) (g : Gl w) (hB : B ≤ w.heap.size) {f : Int} (hf : 0 ≤ f ∧ f < 16) {i : Nat} (s : List UInt8) (hi : i + s.length ≤ 16777216) :
    Calls Tryz.prog 111 #[.pointer (some ⟨r.rb, 0, none⟩), .int .i64 f, .int .i64 i, .string ⟨s.toArray⟩] w fun e w' => e = .returned (.tuple #[]) ∧ RDTo B r (Dk.add D f i s) w w' := by
  have hgb := g.big
  by_cases hs : s = []
  · subst hs
    have hr : Hid (RDTo B r (Dk.add D f i []) w w) := RDTo.of_nw h (Upd.refl _ _)
    clear h
    go_enter Tryz.func111, Tryz.ntmps111
    go_wp2_with fail
    (try simp only [Exit.inBlock, Exit.then])
    refine bodyPost_ret (results_none rfl _ _ _) rfl ?_
    exact ⟨rfl, hr.out⟩
  have hse : s.isEmpty = false := by cases s with | nil => exact absurd rfl hs | cons _ _ => rfl
  have hse2 : (s == ([] : List UInt8)) = false := by cases s with | nil => exact absurd rfl hs | cons _ _ => rfl
  have hsl := List.length_pos_iff.2 hs
  have HK := Lib.hid (fun k => Dk.addK_ok h.ok (f := f) hs hf hi k)
  have Hall := Lib.hid (Dk.addK_all (D := D) (f := f) (i := i) hs)
  have hg1 := Lib.hid (get_r h f)
  have H := Lib.hid (And.intro h (And.intro hB hi))
  have hnl : Hid ((D.fs f).now.length ≤ 16777216) := h.ok.now f
  obtain ⟨fi, hfe⟩ : ∃ x, x = D.fs f := ⟨_, rfl⟩
  have Hfe := Lib.hid hfe
  rw [← hfe] at hg1 hnl
  obtain ⟨N, M⟩ := fi
  dsimp only at hg1 hnl
  obtain ⟨m, hm⟩ : ∃ m, m = (Dk.secs i s.length).length := ⟨_, rfl⟩
  have hml := hm
  rw [Dk.secs_len] at hml
  have hme : ((i : Int) + s.length - 1) / 64 = (((i + s.length - 1) / 64 : Nat) : Int) := by omega
  have hms : Hid (i / 64 + m = (i + s.length - 1) / 64 + 1) := by show _ = _; rw [hml]; omega
  have hm3 : (i + s.length - 1) / 64 ≤ 262144 := by omega
  obtain ⟨la, hla⟩ : ∃ la, la = (i + s.length - 1) / 64 := ⟨_, rfl⟩
  rw [← hla] at hme hms hm3
  have hla3 : (la : Int) ≤ 262144 := by omega
  have hi6 : (i : Int) / 64 = ((i / 64 : Nat) : Int) := by omega
  obtain ⟨fa, hfa⟩ : ∃ fa, fa = i / 64 := ⟨_, rfl⟩
  rw [← hfa] at hi6 hms
  have hfa3 : (fa : Int) ≤ 262144 := by omega
  have Hfa := Lib.hid hfa
  have Hm := Lib.hid hm
  have hbi : (i : Int) + s.length ≤ 16777216 := by omega
  have hb1 : (1 : Int) ≤ s.length := by omega
  clear h hs hm hml hla hfe hfa hi hsl
  go_enter Tryz.func111, Tryz.ntmps111
  go_wp2_with fail
  (with_reducible refine (hg1.out).mono ?_)
  rintro _ w1 ⟨rfl, u1⟩
  have n2 := nw_alloc w1 (.cells #[.int .i64 f, .string ⟨N.toArray⟩, .string ⟨M.toArray⟩] tRFile)
  have k2 := heap_new w1 (.cells #[.int .i64 f, .string ⟨N.toArray⟩, .string ⟨M.toArray⟩] tRFile)
  have K2 := Lib.hid (And.intro n2 k2)
  have U1 := Lib.hid u1
  have hgl1 := g.upd u1
  have hP := Lib.hid (Put_r N s i _ (hgl1.upd n2) hnl.out H.out.2.2)
  clear n2 k2 u1 hg1
  go_wp2_with fail
  (with_reducible refine (hP.out).mono ?_)
  rintro _ w3 ⟨rfl, u3⟩
  have B3 := u3.keep K2.out.2
  obtain ⟨b30, b31, b32⟩ : w3.cell? ⟨w1.heap.size, 0, none⟩ = some (.int .i64 f) ∧ w3.cell? ⟨w1.heap.size, 1, none⟩ = some (.string ⟨N.toArray⟩) ∧ w3.cell? ⟨w1.heap.size, 2, none⟩ = some (.string ⟨M.toArray⟩) := by
    refine ⟨?_, ?_, ?_⟩ <;> (rw [cells_cell B3]; rfl)
  have b3f := cells_frozen B3 1
  have hG3 := hgl1.upd (K2.out.1.trans u3)
  have hgw1 : nG ≤ w1.heap.size := hgl1.big
  obtain ⟨w4, hw4⟩ : ∃ z, z = w3.setCell ⟨w1.heap.size, 1, none⟩ (.string ⟨(Dk.put N i s).toArray⟩) := ⟨_, rfl⟩
  have u4 : Nw w w4 := ((U1.out.trans K2.out.1).trans u3).trans' (by rw [hw4]; exact Upd.set1 (Upd.refl _ _) hgw1 1 _) (fun k hk e => by have := U1.out.size; omega)
  have hk0 : Dk.Ok { D with fs := Dk.setF D.fs f ⟨Dk.put N i s, M⟩ } := by
    have := HK.out 0
    unfold Dk.addK at this
    rw [← Hfe.out] at this
    exact this
  have hset := set_r (H.out.1.nw u4) (g.upd u4) (Nat.le_trans H.out.2.1 u4.size) hf ⟨Dk.put N i s, M⟩ hk0
  have he0 : ({ D with fs := Dk.setF D.fs f ⟨Dk.put N i s, M⟩ } : Dk.Disk) = Dk.addK D f i s 0 := by
    unfold Dk.addK
    rw [← Hfe.out]
    rfl
  rw [he0, hw4] at hset
  have Hset := Lib.hid hset
  have U4 := Lib.hid u4
  rw [hw4] at U4
  clear hset he0 hk0 u4 hw4 u3 B3 hP K2
  go_wp2_with fail
  (with_reducible refine (Hset.out).mono ?_)
  rintro _ w5 ⟨rfl, h5⟩
  have hI0 : Hid (RDTo B r (Dk.addK D f i s 0) w w5) := RDTo.after U4.out h5.to
  clear Hset h5 U4 b30 b31 b32 b3f
  go_wp2_with fail
  go_loopw [9] (fun iv wr => ∃ k n : Nat, Hid (n = fa + k) ∧ k ≤ m ∧ iv = .int .i64 (n : Nat) ∧ Hid (RDTo B r (Dk.addK D f i s k) w wr)) (fun iv _ => la + 1 - (intOf iv).toNat)
  case atStart => exact ⟨0, fa, rfl, Nat.zero_le _, rfl, hI0.out⟩
  case round =>
    obtain ⟨k, n, Hn, hk, rfl, HI⟩ := hrel
    obtain ⟨⟨rb1, fv, qv, kv⟩, h1, h2, h3, h4⟩ := HI.out
    dsimp only at h2
    subst h2
    obtain ⟨aq, cq, hqv⟩ := own_slD h1.queue
    dsimp only at hqv
    subst hqv
    obtain ⟨_, c1, _⟩ := h1.cells
    dsimp only at c1
    have hBw := Nat.le_trans H.out.2.1 h3.size
    have hgB := h1.hb
    have hq4 := h1.ok.q_len
    have HH := Lib.hid (And.intro h1 (And.intro h3 h4))
    have hp := pending_r h1 f (n : Int)
    dsimp only at hp
    have Hq4 := Lib.hid hq4
    clear h1 h3 h4 hq4
    by_cases hlt : k < m
    · have hn1 : (n : Int) ≤ la := by have := hms.out; have := Hn.out; omega
      have hsucc := Dk.addK_succ (D := D) (f := f) (i := i) (s := s) (k := k) (by rw [← Hm.out]; exact hlt)
      rw [← Hfa.out, ← Hn.out] at hsucc
      cases hin : decide ((f, (n : Int)) ∈ (Dk.addK D f i s k).q) with
      | true =>
        rw [hin] at hp
        rw [Dk.addS_in (of_decide_eq_true hin)] at hsucc
        have Hp := Lib.hid hp
        have hz : Hid (RDTo B r (Dk.addK D f i s (k + 1)) w wr) := by
          show RDTo _ _ _ _ _
          rw [hsucc]; exact HI.out
        clear hp hin hsucc
        generalize Dk.addK D f i s k = Dk1 at *
        go_wp2_with fail
        (with_reducible refine (Hp.out).mono ?_)
        rintro _ _ ⟨rfl, rfl⟩
        go_wp2_with fail
        go_roundw
        case rel => exact ⟨k + 1, n + 1, (by show _ = _; have := Hn.out; omega), by omega, by go_num, hz.out⟩
        case measure => simp [intOf]; omega
      | false =>
        rw [hin] at hp
        rw [Dk.addS_out (of_decide_eq_false hin)] at hsucc
        have Hp := Lib.hid hp
        have hk1 := HK.out (k + 1)
        rw [hsucc] at hk1
        have Hs := Lib.hid (And.intro hsucc hk1)
        clear hp hin hsucc hk1
        generalize hE : Dk.addK D f i s (k + 1) = Dk2 at *
        have HE := Lib.hid hE
        clear hE
        generalize Dk.addK D f i s k = Dk1 at *
        go_wp2_with fail
        (with_reducible refine (Hp.out).mono ?_)
        rintro _ _ ⟨rfl, rfl⟩
        go_wp2_with (at_builtin; refine wpList_appL rfl _ _ 68 rfl B tRSec _ 2 16 Tryz.underlying68 infoRSec rfl (by decide) _ _ _ rfl HH.out.1.queue (secL (f, (n : Int))) rfl rfl ?c1 ?c2 ?c3 hBw hgB ?_)
        case c1 =>
          intro u hu
          simp only [secL, List.mem_cons, List.not_mem_nil, or_false] at hu
          rcases hu with rfl | rfl <;> rfl
        case c2 => have := Hq4.out; unfold maxLen; omega
        case c3 => have := Hq4.out; omega
        intro v' w6 o6 u6 hob
        obtain ⟨a6, c6, rfl⟩ := own_slD o6
        have b6 := u6.keep HH.out.1.blk (own_blk HH.out.1.queue HH.out.1.blk (by decide))
        have f16 := cells_frozen b6 1
        have c16 : w6.cell? ⟨r.rb, 1, none⟩ = some (.slice aq Dk1.q.length cq) := by rw [cells_cell b6]; rfl
        have hd := note_done_r (T := fun _ => True) HH.out.1 u6 o6 hob Hs.out.2
        have hz : Hid (RDTo B r Dk2 w (w6.setCell ⟨r.rb, 1, none⟩ (.slice a6 (Dk1.q.length + 1) c6))) := by
          show RDTo _ _ _ _ _
          rw [Hs.out.1]
          exact RDTo.then_ H.out.1 HH.out.1 rfl HH.out.2.1 HH.out.2.2 hd
        clear hd b6 o6 u6 hob
        go_wp2_with fail
        go_roundw
        case rel => exact ⟨k + 1, n + 1, (by show _ = _; have := Hn.out; omega), by omega, by go_num, (by show RDTo _ _ _ _ _; rw [HE.out]; exact hz.out)⟩
        case measure => simp [intOf]; omega
    · obtain rfl : k = m := by omega
      have hn1 : ¬ (n : Int) ≤ la := by have := hms.out; have := Hn.out; omega
      have hz : Hid (RDTo B r (Dk.add D f i s) w wr) := by
        show RDTo _ _ _ _ _
        rw [← Hall.out, ← Hm.out]; exact HI.out
      clear hp
      go_wp2_with fail
      go_end0
      exact ⟨rfl, hz.out⟩
end
end Go.Proofs.YtmlmdlbepppnlaaGreatDoor
