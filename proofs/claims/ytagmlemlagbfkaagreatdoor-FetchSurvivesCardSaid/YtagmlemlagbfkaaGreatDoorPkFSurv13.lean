/- fetch.Plan. -/
import Derived.Test.YtagmlemlagbfkaaGreatDoorPkFSurv10
namespace Go.Proofs.YtagmlemlagbfkaaGreatDoor
open Go.RowKit
set_option linter.unusedVariables false
set_option linter.unusedSimpArgs false
attribute [local irreducible] Calls

theorem madeI (n : Nat) : madeCells #[Value.int .i64 0] n = ((List.replicate n (0 : Int)).map intD).toArray := by
  apply Array.ext'
  apply List.ext_getElem?
  intro i
  simp only [madeCells, Array.toList_map, Array.toList_range, List.getElem?_map]
  by_cases h : i < n
  · simp [h, intD, Nat.mod_one]
  · simp [h]
theorem load_cell {w : World} {b : Nat} {L : List Int} (h : w.heap[b]? = some (.cells (L.map intD).toArray 3 (0, 0))) {k : Nat} (hk : k < L.length) : w.cell? ⟨b, k, none⟩ = some (.int .i64 (L.getD k 0)) := by
  rw [cells_cell h]
  simp [intD, hk]
theorem load_set {w : World} {b : Nat} {L : List Int} (h : w.heap[b]? = some (.cells (L.map intD).toArray 3 (0, 0))) (k : Nat) (x : Int) : (w.setCell ⟨b, k, none⟩ (.int .i64 x)).heap[b]? = some (.cells ((L.set k x).map intD).toArray 3 (0, 0)) := by
  rw [setCell_block h]
  congr 2
  apply Array.ext'
  simp [List.map_set, intD]
theorem plan_results (tmps : Array Value) (w : World) : (results Tryz.f37 tmps).run Tryz.prog w = .ok (.tuple #[tmps.getD 4 undef, tmps.getD 5 undef]) w := by
  simp [results, Tryz.results37, go_sem]
/-- What Plan returns. -/
def PlanD (w : World) (l : List Int) (ls : List (List Int)) (e : Ending) (w' : World) : Prop :=
  ∃ v', e = .returned (.tuple #[v', .int .i64 (Ft.plan l ls).2]) ∧ w'.ownsRow w.heap.size 3 1 v' (Ft.plan l ls).1.length ((Ft.plan l ls).1.map intD) ∧ Nw w w'
theorem plan_full {w w' : World} {l : List Int} {ls : List (List Int)} (h : 20 < ls.length ∨ 1000 < l.length) (u : Nw w w') : PlanD w l ls (.returned (.tuple #[.slice none 0 0, .int .i64 6])) w' := by
  have e : Ft.plan l ls = ([], 6) := by unfold Ft.plan; rw [if_pos h]
  exact ⟨.slice none 0 0, by rw [e], by rw [e]; exact World.ownsRow_nil _ _ _ _, u⟩
theorem plan_miss {w w' : World} {l : List Int} {ls : List (List Int)} (h : ¬ (20 < ls.length ∨ 1000 < l.length)) (hm : 0 < (Ft.miss l ls.flatten).length) (u : Nw w w') : PlanD w l ls (.returned (.tuple #[.slice none 0 0, .int .i64 33])) w' := by
  have e : Ft.plan l ls = ([], 33) := by unfold Ft.plan; rw [if_neg h, if_pos hm]
  exact ⟨.slice none 0 0, by rw [e], by rw [e]; exact World.ownsRow_nil _ _ _ _, u⟩
theorem plan_ok {w w' : World} {l : List Int} {ls : List (List Int)} (h : ¬ (20 < ls.length ∨ 1000 < l.length)) (hm : ¬ 0 < (Ft.miss l ls.flatten).length) {v : Value} {b : Nat} (hb : w.heap.size ≤ b) (o : w'.ownsRow b 3 1 v l.length ((Ft.runP ls l).2.map intD)) (u : Nw w w') : PlanD w l ls (.returned (.tuple #[v, .int .i64 0])) w' := by
  have e : Ft.plan l ls = ((Ft.runP ls l).2, 0) := by unfold Ft.plan; rw [if_neg h, if_neg hm]
  exact ⟨v, by rw [e], by rw [e, (Ft.runP_len ls l).2]; exact owns_base o hb, u⟩
theorem step_eq {ls : List (List Int)} {s : List Int × List Int} {p : Int} {bb : Nat} (h : Ft.best p s.1 ls ls.length = bb) : Ft.stepP ls s p = (s.1.set bb (s.1.getD bb 0 + 1), s.2 ++ [(bb : Int)]) := by
  unfold Ft.stepP; simp only [h, Int.toNat_natCast]
/-- The place of a mirror, after k rounds. -/
theorem best_next {C : List (Value × List Int)} {p : Int} {L : List Int} {k : Nat} (hk : k < C.length) :
    Ft.best p L (C.map (·.2)) (k + 1) = if (Ft.best p L (C.map (·.2)) k < 0 ∨ L.getD k 0 < L.getD (Ft.best p L (C.map (·.2)) k).toNat 0) ∧ p ∈ C[k].2 then (k : Int) else Ft.best p L (C.map (·.2)) k := by
  rw [Ft.best_succ]
  have : (C.map (·.2)).getD k [] = C[k].2 := by simp [hk]
  rw [this]
set_option maxHeartbeats 4000000 in
set_option maxRecDepth 100000 in
theorem plan_c (lo hi : Nat) (p z : Int) (cv : Value) (l : List Int) (v : Value) (C : List (Value × List Int)) (w : World) (g : Gl w) (hc : Sl lo hi w cv (l.map intD)) (hl : l.length ≤ 1000000) (h : RowsI w v C) (hC : C.length ≤ 1000000) (hT : totL C ≤ 1000000) (hE : ∀ c ∈ C, c.2.length ≤ 1000000) :
    Calls Tryz.prog 37 #[.agg #[.int .i64 p, .int .i64 z, cv], v] w (PlanD w l (C.map (·.2))) := by
  have hgb := g.big
  obtain ⟨a, cap, rfl, -, -⟩ := int_cells hc
  have n1 := nw_alloc w (.cells #[.int .i64 p, .int .i64 z, .slice a l.length cap] tManU)
  have b1 := heap_new w (.cells #[.int .i64 p, .int .i64 z, .slice a l.length cap] tManU)
  have HC := Lib.hid (int_cells (hc.nw n1))
  have HE := Lib.hid (fun c hc => And.intro (h.each c hc) (hE c hc))
  have HS := Lib.hid (short_c lo hi p z _ l v C _ (g.upd n1) (hc.nw n1) hl (h.nw n1) hC hT)
  have HCC := Lib.hid h.cells
  obtain ⟨av, cv2, rfl, -, -⟩ := h.cells
  have hl1 : (l.length : Int) ≤ 1000000 := by omega
  have hC1 : (C.length : Int) ≤ 1000000 := by omega
  have HU := Lib.hid n1
  have HB := Lib.hid (fun (y : World) (u : Nw (w.alloc (.cells #[.int .i64 p, .int .i64 z, .slice a l.length cap] tManU)) y) => (show y.cell? ⟨w.heap.size, 2, none⟩ = some (.slice a l.length cap) from by rw [cells_cell (Nw.keep u b1)]; rfl))
  have hll : (C.map (·.2)).length = C.length := List.length_map _
  have Hll := Lib.hid hll
  clear hc h n1 b1 hE hll
  by_cases hf : 20 < C.length ∨ 1000 < l.length
  · have hfin := Lib.hid (fun (y : World) (u : Nw w y) => plan_full (ls := C.map (·.2)) (by rw [Hll.out]; exact hf) u)
    by_cases h20 : 20 < C.length
    · have d1 : decide ((20 : Int) < C.length) = true := decide_eq_true (by omega)
      clear hf h20
      go_enter Tryz.func37, Tryz.ntmps37
      go_wp2_with fail
      (try simp only [Exit.inBlock, Exit.then])
      refine bodyPost_ret (plan_results _ _) rfl ?_
      exact hfin.out _ HU.out
    · have d1 : decide ((20 : Int) < C.length) = false := decide_eq_false (by omega)
      have d2 : decide ((1000 : Int) < l.length) = true := decide_eq_true (by omega)
      clear hf h20
      go_enter Tryz.func37, Tryz.ntmps37
      go_wp2_with fail
      (try simp only [Exit.inBlock, Exit.then])
      refine bodyPost_ret (plan_results _ _) rfl ?_
      exact hfin.out _ HU.out
  have d1 : decide ((20 : Int) < C.length) = false := decide_eq_false (by omega)
  have d2 : decide ((1000 : Int) < l.length) = false := decide_eq_false (by omega)
  have hC2 : (C.length : Int) ≤ 20 := by omega
  have hl2 : (l.length : Int) ≤ 1000 := by omega
  have Hf : Hid (¬ (20 < (C.map (·.2)).length ∨ 1000 < l.length)) := by rw [Hll.out]; exact hf
  clear hf
  by_cases hm : 0 < (Ft.miss l (C.map (·.2)).flatten).length
  · have hfin := Lib.hid (fun (y : World) (u : Nw w y) => plan_miss (l := l) (ls := C.map (·.2)) Hf.out hm u)
    have d3 : decide (0 < (Ft.miss l (C.map (·.2)).flatten).length) = true := decide_eq_true hm
    generalize (Ft.miss l (C.map (·.2)).flatten).length = ml at *
    clear hm
    go_enter Tryz.func37, Tryz.ntmps37
    go_wp2_with fail
    (with_reducible refine (HS.out).mono ?_)
    rintro _ w2 ⟨v2, rfl, o2, u2⟩
    obtain ⟨a2, c2, rfl⟩ := own_slG o2
    have HU2 := Lib.hid (HU.out.trans u2)
    clear o2 u2 HS
    go_wp2_with fail
    (try simp only [Exit.inBlock, Exit.then])
    refine bodyPost_ret (plan_results _ _) rfl ?_
    exact hfin.out _ HU2.out
  have d3 : decide (0 < (Ft.miss l (C.map (·.2)).flatten).length) = false := decide_eq_false hm
  have HPO := Lib.hid (fun (w' : World) (v : Value) (b : Nat) (hb : w.heap.size ≤ b) (o : w'.ownsRow b 3 1 v l.length ((Ft.runP (C.map (·.2)) l).2.map intD)) (u : Nw w w') => plan_ok (ls := C.map (·.2)) Hf.out hm hb o u)
  have hnil : Ft.miss l (C.map (·.2)).flatten = [] := List.length_eq_zero_iff.1 (by omega)
  have Hin := Lib.hid (Ft.miss_nil_iff.1 hnil)
  have hml0 : (Ft.miss l (C.map (·.2)).flatten).length = 0 := by omega
  clear hm hnil
  generalize (Ft.miss l (C.map (·.2)).flatten).length = ml at *
  go_enter Tryz.func37, Tryz.ntmps37
  go_wp2_with fail
  (with_reducible refine (HS.out).mono ?_)
  rintro _ w2 ⟨v2, rfl, o2, u2⟩
  obtain ⟨a2, c2, rfl⟩ := own_slG o2
  have HU2 := Lib.hid (HU.out.trans u2)
  have U2 := Lib.hid u2
  have k2 := HB.out w2 u2
  clear o2 u2 HS
  go_wp2_with (at_make; refine wpList_makeE rfl _ _ 22 3 _ 8 rfl Tryz.underlying22 infoIntU C.length rfl rfl ?m1 ?m2 ?_)
  case m1 => omega
  case m2 => omega
  intro w3 kb3 u3
  rw [madeI] at kb3
  have k3 : w3.cell? ⟨w.heap.size, 2, none⟩ = some (.slice a l.length cap) := HB.out w3 (U2.out.trans u3)
  have HU3 := Lib.hid (HU2.out.trans u3)
  have U3 := Lib.hid (U2.out.trans u3)
  have hz2 : w.heap.size + 1 ≤ w2.heap.size := by have := U2.out.size; simpa using this
  have hz3 : w2.heap.size < w3.heap.size := lt_of_block kb3
  have HL3 : Hid (w3.heap[w2.heap.size]? = some (.cells (((Ft.runP (C.map (·.2)) (l.take 0)).1.map intD).toArray) 3 (0, 0))) := by
    show _ = _
    have e : (Ft.runP (C.map (·.2)) (l.take 0)).1 = List.replicate C.length 0 := by unfold Ft.runP; rw [Hll.out]; rfl
    rw [e]; exact kb3
  clear kb3 u3 k2
  generalize hlb : w2.heap.size = lb at *
  go_wp2_with fail
  go_loopw [7, 35] (fun vo iv wr => ∃ n : Nat, n ≤ l.length ∧ iv = .int .i64 (n : Int) ∧ Hid (wr.ownsRow w3.heap.size 3 1 vo n ((Ft.runP (C.map (·.2)) (l.take n)).2.map intD)) ∧ Hid (wr.heap[lb]? = some (.cells (((Ft.runP (C.map (·.2)) (l.take n)).1.map intD).toArray) 3 (0, 0))) ∧ Hid (Nw (w.alloc (.cells #[.int .i64 p, .int .i64 z, .slice a l.length cap] tManU)) wr) ∧ Hid (w3.heap.size ≤ wr.heap.size)) (fun _ iv _ => l.length - (intOf iv).toNat)
  case atStart => exact ⟨0, Nat.zero_le _, rfl, World.ownsRow_nil _ _ _ _, HL3, U3, Nat.le_refl _⟩
  case round =>
    obtain ⟨n, hn, rfl, HO, HL, U, HZ⟩ := hrel
    obtain ⟨ao, co, rfl⟩ := own_slG HO.out
    by_cases hlt : n < l.length
    · rcases HC.out with ⟨_, _, e, _, hnil | ⟨b, off, e2, _, _, hcell⟩⟩
      · simp [hnil] at hlt
      injection e with e3 e4 e5
      subst e3 e5
      subst e2
      have c0 : wr.cell? ⟨b, off + n, none⟩ = some (.int .i64 l[n]) := later_cell ⟨wr, U.out⟩ (hcell n hlt)
      have hlt1 : (n : Int) < l.length := by omega
      have hrun := Ft.runP_snoc (C.map (·.2)) (l.take n) l[n]
      rw [← List.take_succ_eq_append_getElem hlt] at hrun
      have hbd := Ft.runP_bd (C.map (·.2)) (l.take n)
      have hln := (Ft.runP_len (C.map (·.2)) (l.take n)).1
      rw [Hll.out] at hln
      obtain ⟨i0, hi0, hp0⟩ := Ft.mem_flat (Hin.out l[n] (List.getElem_mem hlt))
      have hhit := Ft.best_hit (load := (Ft.runP (C.map (·.2)) (l.take n)).1) (C.map (·.2)).length ⟨i0, hi0, hp0⟩
      have hlo := Ft.best_lo l[n] (Ft.runP (C.map (·.2)) (l.take n)).1 (C.map (·.2))
      have HR := Lib.hid hrun
      have HH := Lib.hid hhit
      have HLo := Lib.hid hlo
      have HBd := Lib.hid hbd
      have Hln := Lib.hid hln
      clear hcell hrun hhit hlo hbd hln hp0 hi0
      generalize hLd : (Ft.runP (C.map (·.2)) (l.take n)).1 = Ld at *
      generalize l[n] = x at *
      have HLd := Lib.hid hLd
      clear hLd
      obtain ⟨wo, hwo⟩ : ∃ y, y = wr := ⟨_, rfl⟩
      subst hwo
      go_wp2_with fail
      go_loopw [10, 41] (fun bv iv wr => ∃ k : Nat, k ≤ C.length ∧ iv = .int .i64 (k : Int) ∧ bv = .int .i64 (Ft.best x Ld (C.map (·.2)) k) ∧ Hid (Nw wo wr)) (fun _ iv _ => C.length - (intOf iv).toNat)
      case atStart => exact ⟨0, Nat.zero_le _, rfl, rfl, Upd.refl _ _⟩
      case round =>
        obtain ⟨k, hk, rfl, rfl, UI⟩ := hrel
        by_cases hkl : k < C.length
        · rcases HCC.out with ⟨_, _, e, _, hnil | ⟨bv, ov, e2, _, hcell⟩⟩
          · simp [hnil] at hkl
          injection e with e3 e4 e5
          subst e3 e5
          subst e2
          have hkl1 : (k : Int) < C.length := by omega
          obtain ⟨⟨lo2, hi2, hs⟩, hEk⟩ := HE.out C[k] (List.getElem_mem hkl)
          have NW := Nw.trans HU.out (U.out.trans UI.out)
          have e0 : wr.cell? ⟨bv, ov + k, none⟩ = some C[k].1 := later_cell ⟨wr, NW⟩ (hcell k hkl)
          have HK := Lib.hid (fun (y : World) (u : Nw wr y) => contains_iN lo2 hi2 C[k].1 C[k].2 x y ((hs.nw NW).nw u) hEk)
          obtain ⟨ak, ck, hvk, -, -⟩ := int_cells hs
          have hkk : C[k].2.length ≤ 1000000 := hEk
          rw [hvk] at e0 HK
          have HN := Lib.hid (best_next (p := x) (L := Ld) hkl)
          have hb1 := HLo.out k
          have m1 := load_cell (Nw.keep UI.out HL.out) (k := k) (by rw [Hln.out]; exact hkl)
          clear hcell hs hvk NW hEk
          have HN2 : Hid (Ft.best x Ld (C.map (·.2)) (k + 1) = if (Ft.best x Ld (C.map (·.2)) k < 0 ∨ Ld.getD k 0 < Ld.getD (Ft.best x Ld (C.map (·.2)) k).toNat 0) ∧ decide (x ∈ C[k].2) = true then (k : Int) else Ft.best x Ld (C.map (·.2)) k) := by
            show _ = _
            rw [HN.out]
            simp only [decide_eq_true_eq]
          clear HN
          generalize C[k].2.length = Lk at *
          generalize decide (x ∈ C[k].2) = q at *
          have mB : Hid (∀ bb : Nat, bb < k → wr.cell? ⟨lb, bb, none⟩ = some (.int .i64 (Ld.getD bb 0))) := fun bb hbb => load_cell (Nw.keep UI.out HL.out) (k := bb) (by rw [Hln.out]; omega)
          generalize Ft.best x Ld (C.map (·.2)) k = b at *
          have m1' : ∀ i : Later wr, i.1.cell? ⟨lb, k, none⟩ = some (.int .i64 (Ld.getD k 0)) := fun i => later_cell i m1
          by_cases hb0 : b < 0
          · have d0 : decide (b < 0) = true := decide_eq_true hb0
            cases q with
            | true =>
              have hfin : Hid (Ft.best x Ld (C.map (·.2)) (k + 1) = (k : Int)) := by show _ = _; rw [HN2.out, if_pos ⟨Or.inl hb0, rfl⟩]
              clear HN2 hb0 mB
              go_wp2_with fail
              refine wp_region_nw (by kernel_rfl) (by kernel_rfl) ?_
              repeat (go_big_quiet_step ((go_at_call 103; exact later_call (HK.out _ (Later.nw _)))))
              refine wpQuiet_nil ?_
              intro w5 u5
              replace u5 := later_out u5
              go_wp2_with fail
              go_roundw
              case rel => exact ⟨k + 1, by omega, by go_num, by rw [hfin.out], UI.out.trans u5⟩
              case measure => simp [intOf]; omega
            | false =>
              have hfin : Hid (Ft.best x Ld (C.map (·.2)) (k + 1) = b) := by show _ = _; rw [HN2.out, if_neg (fun h => by cases h.2)]
              clear HN2 hb0 mB
              go_wp2_with fail
              refine wp_region_nw (by kernel_rfl) (by kernel_rfl) ?_
              repeat (go_big_quiet_step ((go_at_call 103; exact later_call (HK.out _ (Later.nw _)))))
              refine wpQuiet_nil ?_
              intro w5 u5
              replace u5 := later_out u5
              go_wp2_with fail
              go_roundw
              case rel => exact ⟨k + 1, by omega, by go_num, by rw [hfin.out], UI.out.trans u5⟩
              case measure => simp [intOf]; omega
          · have d0 : decide (b < 0) = false := decide_eq_false hb0
            obtain ⟨bb, rfl⟩ : ∃ bb : Nat, b = bb := ⟨b.toNat, by omega⟩
            have hbk : bb < k := by omega
            have m2 := mB.out bb hbk
            have m2' : ∀ i : Later wr, i.1.cell? ⟨lb, bb, none⟩ = some (.int .i64 (Ld.getD bb 0)) := fun i => later_cell i m2
            rw [Int.toNat_natCast] at HN2
            have hbC : (bb : Int) < C.length := by omega
            generalize Ld.getD bb 0 = y2 at *
            generalize Ld.getD k 0 = y1 at *
            by_cases hy : y1 < y2
            · have d1 : decide (y1 < y2) = true := decide_eq_true hy
              cases q with
              | true =>
                have hfin : Hid (Ft.best x Ld (C.map (·.2)) (k + 1) = (k : Int)) := by show _ = _; rw [HN2.out, if_pos ⟨Or.inr hy, rfl⟩]
                clear HN2 hb0 mB hy
                go_wp2_with fail
                refine wp_region_nw (by kernel_rfl) (by kernel_rfl) ?_
                repeat (go_big_quiet_step ((go_at_call 103; exact later_call (HK.out _ (Later.nw _)))))
                refine wpQuiet_nil ?_
                intro w5 u5
                replace u5 := later_out u5
                go_wp2_with fail
                go_roundw
                case rel => exact ⟨k + 1, by omega, by go_num, by rw [hfin.out], UI.out.trans u5⟩
                case measure => simp [intOf]; omega
              | false =>
                have hfin : Hid (Ft.best x Ld (C.map (·.2)) (k + 1) = (bb : Int)) := by show _ = _; rw [HN2.out, if_neg (fun h => by cases h.2)]
                clear HN2 hb0 mB hy
                go_wp2_with fail
                refine wp_region_nw (by kernel_rfl) (by kernel_rfl) ?_
                repeat (go_big_quiet_step ((go_at_call 103; exact later_call (HK.out _ (Later.nw _)))))
                refine wpQuiet_nil ?_
                intro w5 u5
                replace u5 := later_out u5
                go_wp2_with fail
                go_roundw
                case rel => exact ⟨k + 1, by omega, by go_num, by rw [hfin.out], UI.out.trans u5⟩
                case measure => simp [intOf]; omega
            · have d1 : decide (y1 < y2) = false := decide_eq_false hy
              have hfin : Hid (Ft.best x Ld (C.map (·.2)) (k + 1) = (bb : Int)) := by show _ = _; rw [HN2.out, if_neg (fun h => by rcases h.1 with h | h <;> omega)]
              clear HN2 hb0 mB hy HK
              go_wp2_with fail
              refine wp_region_nw (by kernel_rfl) (by kernel_rfl) ?_
              repeat (go_big_quiet_step ((fail)))
              refine wpQuiet_nil ?_
              intro w5 u5
              replace u5 := later_out u5
              go_wp2_with fail
              go_roundw
              case rel => exact ⟨k + 1, by omega, by go_num, by rw [hfin.out], UI.out.trans u5⟩
              case measure => simp [intOf]; omega
        · obtain rfl : k = C.length := by omega
          have hb := HH.out
          rw [Hll.out] at hb
          obtain ⟨bb, hbb⟩ : ∃ bb : Nat, Ft.best x Ld (C.map (·.2)) C.length = bb := ⟨_, (Int.toNat_of_nonneg hb.1).symm⟩
          have hbC : bb < C.length := by have := (HLo.out C.length).2; omega
          have hstep : Ft.runP (C.map (·.2)) (l.take (n + 1)) = (Ld.set bb (Ld.getD bb 0 + 1), (Ft.runP (C.map (·.2)) (l.take n)).2 ++ [(bb : Int)]) := by
            rw [HR.out, ← HLd.out]
            exact step_eq (by rw [HLd.out, Hll.out]; exact hbb)
          have hyb : 0 ≤ Ld.getD bb 0 ∧ Ld.getD bb 0 ≤ 1000 := by
            have hlt2 : bb < Ld.length := by rw [Hln.out]; exact hbC
            have := HBd.out (Ld.getD bb 0) (by rw [List.getD_eq_getElem?_getD, List.getElem?_eq_getElem hlt2]; exact List.getElem_mem hlt2)
            rw [List.length_take] at this
            omega
          have kb := Nw.keep UI.out HL.out
          have m2 := load_cell kb (k := bb) (by rw [Hln.out]; exact hbC)
          have f2 : wr.frozen? ⟨lb, bb, none⟩ = false := cells_frozen kb bb
          have kb2 := load_set kb bb (Ld.getD bb 0 + 1)
          have hz4 : w3.heap.size ≤ wr.heap.size := Nat.le_trans HZ.out UI.out.size
          have UW : Upd (fun k => k = lb) wr (wr.setCell ⟨lb, bb, none⟩ (.int .i64 (Ld.getD bb 0 + 1))) := (Upd.refl _ _).set1 (by omega) _ _
          have HO2 := Lib.hid (owns_upd' (owns_upd' HO.out UI.out (fun _ _ e => e)) UW (fun k hk e => by have := (HO.out.lt k hk).1; omega))
          have hz5 : w3.heap.size ≤ (wr.setCell ⟨lb, bb, none⟩ (.int .i64 (Ld.getD bb 0 + 1))).heap.size := Nat.le_trans hz4 UW.size
          have e1 := congrArg Prod.fst hstep
          have e2 := congrArg Prod.snd hstep
          have HS1 := Lib.hid e1
          have HS2 := Lib.hid e2
          have HKB := Lib.hid kb2
          have UW2 := Lib.hid UW
          have hbC1 : (bb : Int) < C.length := by omega
          clear hstep e1 e2 kb kb2 UW HR HH hb
          obtain ⟨hy1, hy2⟩ := hyb
          generalize Ld.getD bb 0 = y at *
          rw [hbb]
          have Hbb := Lib.hid hbb
          clear hbb
          go_wp2_with (at_builtin; refine hold_on ?_)
          intro _
          refine (wpList_appL rfl _ _ 22 rfl w3.heap.size 3 _ 1 8 Tryz.underlying22 infoIntU rfl (by decide) _ _ _ rfl HO2.out [.int .i64 (bb : Int)] (by show Value.slice _ _ _ = Value.slice _ _ _; simp) rfl ?c1 ?c2 ?c3 hz5 (by omega) ?_)
          case c1 => intro u hu; rw [List.mem_singleton.1 hu]; rfl
          case c2 => unfold maxLen; omega
          case c3 => omega
          intro v' w9 o9 u9 hob
          obtain ⟨a9, c9, rfl⟩ := own_slG o9
          have hfin : Hid (w9.ownsRow w3.heap.size 3 1 (.slice a9 (n + 1) c9) (n + 1) ((Ft.runP (C.map (·.2)) (l.take (n + 1))).2.map intD)) := by
            show w9.ownsRow _ _ _ _ _ _
            rw [HS2.out, List.map_append]
            exact o9
          have hfin2 : Hid (w9.heap[lb]? = some (.cells ((Ft.runP (C.map (·.2)) (l.take (n + 1))).1.map intD).toArray 3 (0, 0))) := by
            show _ = _
            rw [HS1.out]
            exact u9.keep HKB.out (fun e => by have := (HO2.out.lt _ e).1; omega)
          have hU2 := Lib.hid (((U.out.trans UI.out).trans' UW2.out (fun k hk e => by simp at hk; omega)).trans' u9 (fun k hk e => by have := (HO2.out.lt k e).1; simp at hk; omega))
          have hz9 : Hid (w3.heap.size ≤ w9.heap.size) := Nat.le_trans hz5 u9.size
          clear o9 u9 hob
          go_wp2_with fail
          go_roundw
          case rel => exact ⟨n + 1, by omega, by go_num, hfin, hfin2, hU2, hz9⟩
          case measure => simp [intOf]; omega
    · obtain rfl : n = l.length := by omega
      simp only [List.take_length] at HO ⊢
      have hfin := Lib.hid (HPO.out _ _ _ (by omega) HO.out (HU.out.trans U.out))
      go_wp2_with fail
      (try simp only [Exit.inBlock, Exit.then])
      refine bodyPost_ret (plan_results _ _) rfl ?_
      exact hfin.out
end Go.Proofs.YtagmlemlagbfkaaGreatDoor
