/- slices.Grow of nil, slices.Concat at []int; fetch.Short. -/
import Derived.Test.YtagmlemlagbfkaaDoorPkFFair11
import Derived.Lib.AppendZerosOnto
namespace Go.Proofs.YtagmlemlagbfkaaDoor
open Go.RowKit
set_option linter.unusedVariables false
set_option linter.unusedSimpArgs false
attribute [local irreducible] Calls

set_option maxHeartbeats 1000000 in
set_option maxRecDepth 100000 in
theorem grow_i (n : Nat) (hn : n ≤ 1000000) (w : World) (g : Gl w) :
    Calls Tryd.prog 46 #[.slice none 0 0, .int .i64 n] w fun e w' => ∃ v', e = .returned v' ∧ w'.ownsRow w.heap.size 3 1 v' 0 [] ∧ Nw w w' := by
  by_cases h0 : n = 0
  · subst h0
    go_enter Tryd.func46, Tryd.ntmps46
    go_wp2_with fail
    go_ret
    exact ⟨_, rfl, World.ownsRow_nil _ _ _ _, Upd.refl _ _⟩
  · obtain ⟨i0, hi, hz0, hz1, hz2⟩ := info_parts infoIntU
    have hold : (Builtin.firstCells i0.size 0 (.slice none 0 0)).run Tryd.prog w.drew = .ok ([] : List Value).toArray w.drew := run_firstCells_none _ i0.size 0 0 0
    have hrz := fun ty => Lib.run_append_grow_zeros w 24 3 ty 3 i0 _ .i64 .i64 Tryd.underlying24 Tryd.underlying3 hi hz0 none 0 0 [] hold n (by omega) (by omega) (by omega) (by omega) (by rw [hz2]; omega) (by
      rw [hz2]
      have : Builtin.nextslicecap (0 + n) 0 ≤ 0 + n := by unfold Builtin.nextslicecap; rw [if_pos (by omega)]; exact Nat.le_refl _
      omega)
    have hG1 := grownCap_ge w (0 + n) 0 3
    have hG2 := grownCap_le_maxLen w (0 + n) 0 3 (by unfold maxLen; omega)
    rw [Nat.zero_add] at hG1 hG2
    simp only [Nat.zero_add] at hrz
    generalize grownCap w n 0 3 = G at *
    have hG63 : G ≤ 9223372036854775807 := by unfold maxLen at hG2; exact hG2
    have hn1 : (n : Int) ≤ 1000000 := by omega
    have hn2 : (1 : Int) ≤ n := by omega
    have hfin : Hid ((w.alloc (.cells (Builtin.zeroCells #[Value.int IntKind.i64 0] n ++ Builtin.zeroCells #[Value.int IntKind.i64 0] (G - n)) 3)).drew.ownsRow w.heap.size 3 1 (.slice (some ⟨w.heap.size, 0, none⟩) 0 G) 0 [] ∧ Nw w (w.alloc (.cells (Builtin.zeroCells #[Value.int IntKind.i64 0] n ++ Builtin.zeroCells #[Value.int IntKind.i64 0] (G - n)) 3)).drew) := by
      refine ⟨⟨rfl, Or.inr ⟨w.heap.size, G, _, rfl, Nat.le_refl _, heap_new w _, Nat.zero_le _, hG2, ?_, by simp⟩⟩, ((Upd.refl _ w).alloc _).drew⟩
      simp [Builtin.zeroCells]; omega
    clear hold hG2 hi hz0 hz1 hz2
    go_enter Tryd.func46, Tryd.ntmps46
    go_wp2_with (at_builtin; refine Lib.wpList_append_run _ rfl _ _ _ _ rfl _ _ rfl rfl _ _ (hrz _) ?_)
    go_ret
    exact ⟨_, rfl, hfin.out⟩
/-! ### Lists of lists of numbers in memory -/
/-- The slices of C's numbers, beside a slice of them. -/
structure RowsI (w : World) (v : Value) (C : List (Value × List Int)) : Prop where
  sl : ∃ lo hi, Sl lo hi w v (C.map (·.1))
  each : ∀ c ∈ C, ∃ lo hi, Sl lo hi w c.1 (c.2.map intD)
theorem RowsI.nw {w w' : World} {v : Value} {C : List (Value × List Int)} (h : RowsI w v C) (u : Nw w w') : RowsI w' v C := by
  obtain ⟨lo, hi, hs⟩ := h.sl
  refine ⟨⟨lo, hi, hs.nw u⟩, fun c hc => ?_⟩
  obtain ⟨lo2, hi2, h2⟩ := h.each c hc
  exact ⟨lo2, hi2, h2.nw u⟩
theorem RowsI.cells {w : World} {v : Value} {C : List (Value × List Int)} (h : RowsI w v C) :
    ∃ a cap, v = .slice a C.length cap ∧ C.length ≤ maxLen ∧ (C = [] ∨ ∃ b off, a = some ⟨b, off, none⟩ ∧ b < w.heap.size ∧ ∀ i (h : i < C.length), w.cell? ⟨b, off + i, none⟩ = some C[i].1) := by
  obtain ⟨lo, hi, hs⟩ := h.sl
  obtain ⟨a, cap, rfl, hm, hc⟩ := hs.open_
  rw [List.length_map] at hm
  refine ⟨a, cap, by rw [List.length_map], hm, ?_⟩
  rcases hc with ⟨_, _, hnil⟩ | ⟨b, off, rfl, _, _, hb, hc⟩
  · exact Or.inl (List.map_eq_nil_iff.1 hnil)
  · exact Or.inr ⟨b, off, rfl, hb, fun i hi => by rw [hc i (by rw [List.length_map]; exact hi), List.getElem?_map, List.getElem?_eq_getElem hi]; rfl⟩
def totL (C : List (Value × List Int)) : Nat := ((C.map (·.2)).flatten).length
theorem tot_take {C : List (Value × List Int)} {n : Nat} (h : n < C.length) : totL (C.take (n + 1)) = totL (C.take n) + C[n].2.length := by
  unfold totL
  rw [List.take_succ_eq_append_getElem h, List.map_append, List.flatten_append, List.length_append]
  simp
theorem flat_take {C : List (Value × List Int)} {n : Nat} (h : n < C.length) : ((C.take (n + 1)).map (·.2)).flatten = ((C.take n).map (·.2)).flatten ++ C[n].2 := by
  rw [List.take_succ_eq_append_getElem h, List.map_append, List.flatten_append]
  simp
def ivL (l : List Int) : List Value := l.map intD
theorem ivL_len (l : List Int) : (ivL l).length = l.length := List.length_map _
theorem ivL_one (l : List Int) : ∀ u ∈ ivL l, u.oneCell' = true := by
  intro u hu
  obtain ⟨x, _, rfl⟩ := List.mem_map.1 hu
  rfl
def catN (C : List (Value × List Int)) (n : Nat) : List Value := (((C.take n).map (·.2)).flatten).map intD
theorem catN_succ {C : List (Value × List Int)} {n : Nat} (h : n < C.length) : catN C (n + 1) = catN C n ++ ivL C[n].2 := by unfold catN ivL; rw [flat_take h, List.map_append]
theorem catN_all (C : List (Value × List Int)) : catN C C.length = ((C.map (·.2)).flatten).map intD := by unfold catN; rw [List.take_length]
theorem tot_le {C : List (Value × List Int)} (n : Nat) : totL (C.take n) ≤ totL C := by
  unfold totL
  conv => rhs; rw [← List.take_append_drop n C]
  rw [List.map_append, List.flatten_append, List.length_append]
  omega
set_option maxHeartbeats 2000000 in
set_option maxRecDepth 100000 in
theorem concat_i (v : Value) (C : List (Value × List Int)) (w : World) (g : Gl w) (h : RowsI w v C) (hC : C.length ≤ 1000000) (hT : totL C ≤ 1000000) :
    Calls Tryd.prog 33 #[v] w fun e w' => ∃ v', e = .returned v' ∧ w'.ownsRow w.heap.size 3 1 v' (totL C) (((C.map (·.2)).flatten).map intD) ∧ Nw w w' := by
  have hgb := g.big
  have HE := Lib.hid h.each
  obtain ⟨a, cap, rfl, -, hc⟩ := h.cells
  have HC := Lib.hid hc
  have hC1 : (C.length : Int) ≤ 1000000 := by omega
  have HT := Lib.hid hT
  have HG := Lib.hid (grow_i (totL C) hT w g)
  clear h hc hT
  go_enter Tryd.func33, Tryd.ntmps33
  go_wp2_with fail
  go_loopw [3, 11] (fun sv iv wr => ∃ n : Nat, n ≤ C.length ∧ iv = .int .i64 (n : Int) ∧ sv = .int .i64 (totL (C.take n) : Nat) ∧ w = wr) (fun _ iv _ => C.length - (intOf iv).toNat)
  case atStart => exact ⟨0, Nat.zero_le _, rfl, rfl, rfl⟩
  case round =>
    obtain ⟨n, hn, rfl, rfl, rfl⟩ := hrel
    by_cases hlt : n < C.length
    · rcases HC.out with hnil | ⟨b, off, rfl, hb, hcell⟩
      · simp [hnil] at hlt
      have c0 := hcell n hlt
      obtain ⟨lo, hi, hs⟩ := HE.out C[n] (List.getElem_mem hlt)
      obtain ⟨an, cn, hvn, -, -⟩ := int_cells hs
      rw [hvn] at c0
      have hlt1 : (n : Int) < C.length := by omega
      have h1 := tot_take hlt
      have h2 := tot_le (C := C) (n + 1)
      have h3 := HT.out
      have h4 : ((totL (C.take n) : Nat) : Int) ≤ 1000000 := by omega
      have h5 : ((C[n].2.length : Nat) : Int) ≤ 1000000 := by omega
      have H1 := Lib.hid h1
      clear hcell hs hvn h1 h2 h3
      generalize totL (C.take n) = T0 at *
      generalize C[n].2.length = L at *
      go_wp2_with fail
      go_roundw
      case rel => exact ⟨n + 1, by omega, by go_num, by rw [H1.out]; go_num, by first | rfl | trivial⟩
      case measure => simp [intOf]; omega
    · obtain rfl : n = C.length := by omega
      go_wp2_with fail
      (with_reducible refine (HG.out).mono ?_)
      rintro _ w1 ⟨v1, rfl, o1, u1⟩
      have hs1 : w.heap.size ≤ w1.heap.size := u1.size
      have HO1 := Lib.hid o1
      have U1 := Lib.hid u1
      obtain ⟨a1, c1, rfl⟩ := own_slG o1
      clear o1 u1 HG
      go_wp2_with fail
      go_loopw [6, 27] (fun vo iv wr => ∃ n : Nat, n ≤ C.length ∧ iv = .int .i64 (n : Int) ∧ Hid (wr.ownsRow w.heap.size 3 1 vo (totL (C.take n)) (catN C n)) ∧ Hid (Nw w wr)) (fun _ iv _ => C.length - (intOf iv).toNat)
      case atStart => exact ⟨0, Nat.zero_le _, rfl, HO1.out, U1.out⟩
      case round =>
        obtain ⟨n, hn, rfl, HO, U⟩ := hrel
        obtain ⟨ao, co, rfl⟩ := own_slG HO.out
        by_cases hlt : n < C.length
        · rcases HC.out with hnil | ⟨b, off, rfl, hb, hcell⟩
          · simp [hnil] at hlt
          have c0 := later_cell ⟨wr, U.out⟩ (hcell n hlt)
          obtain ⟨lo, hi, hs⟩ := HE.out C[n] (List.getElem_mem hlt)
          have hs2 : Sl lo hi wr C[n].1 (ivL C[n].2) := hs.nw U.out
          obtain ⟨an, cn, hvn, -, -⟩ := int_cells hs
          rw [hvn] at c0 hs2
          have HS := Lib.hid hs2
          have hlt1 : (n : Int) < C.length := by omega
          have h1 := tot_take hlt
          have h2 := tot_le (C := C) (n + 1)
          have h3 := HT.out
          have h6 := catN_succ hlt
          have hz := U.out.size
          have H1 := Lib.hid h1
          have H6 := Lib.hid h6
          have hln := ivL_len C[n].2
          have Hln := Lib.hid hln
          clear hcell hs hvn h6 hs2 hln
          go_wp2_with (at_builtin; refine wpList_catA rfl _ _ 24 rfl w.heap.size lo hi 3 _ 8 Tryd.underlying24 infoIntU rfl _ _ _ _ _ rfl HO.out rfl HS.out ?c1 ?c2 ?c3 hz ?_)
          case c1 => exact ivL_one _
          case c2 => rw [Hln.out]; unfold maxLen; omega
          case c3 => rw [Hln.out]; omega
          intro v' w2 hown hgrow hob
          obtain ⟨a2, c2, rfl⟩ := own_slG hown
          have hlen : totL (C.take n) + (ivL C[n].2).length = totL (C.take (n + 1)) := by rw [Hln.out, H1.out]
          have hfin : Hid (w2.ownsRow w.heap.size 3 1 (.slice a2 (totL (C.take n) + (ivL C[n].2).length) c2) (totL (C.take (n + 1))) (catN C (n + 1))) := by
            show w2.ownsRow _ _ _ _ _ _
            rw [H6.out, ← hlen]
            exact hown
          have hU := Lib.hid (U.out.trans' (S' := fun k => (Value.slice ao (totL (C.take n)) co).ownBlock = some k) (Upd.grown (Upd.refl _ _) hgrow (fun k hk => ⟨Or.inl hk, by have := (hob k hk).1; omega⟩)) (fun j hj e => by have := (hob j e).1; omega))
          clear hown hgrow hob h1 h2 h3 hlen
          go_wp2_with fail
          go_roundw
          case rel => exact ⟨n + 1, by omega, by go_num, hfin, hU⟩
          case measure => simp [intOf]; omega
        · obtain rfl : n = C.length := by omega
          simp only [List.take_length] at HO ⊢
          have HO2 : Hid (wr.ownsRow w.heap.size 3 1 (.slice ao (totL C) co) (totL C) (((C.map (·.2)).flatten).map intD)) := by
            have := HO.out
            rw [catN_all] at this
            exact this
          clear HO
          go_wp2_with fail
          go_ret
          exact ⟨_, rfl, HO2.out, U.out⟩
set_option maxHeartbeats 1000000 in
set_option maxRecDepth 100000 in
theorem short_c (lo hi : Nat) (p z : Int) (cv : Value) (l : List Int) (v : Value) (C : List (Value × List Int)) (w : World) (g : Gl w) (hc : Sl lo hi w cv (l.map intD)) (hl : l.length ≤ 1000000) (h : RowsI w v C) (hC : C.length ≤ 1000000) (hT : totL C ≤ 1000000) :
    Calls Tryd.prog 17 #[.agg #[.int .i64 p, .int .i64 z, cv], v] w fun e w' => ∃ v', e = .returned v' ∧ w'.ownsRow w.heap.size 3 1 v' (Ft.miss l (C.map (·.2)).flatten).length ((Ft.miss l (C.map (·.2)).flatten).map intD) ∧ Nw w w' := by
  have hgb := g.big
  obtain ⟨a, cap, rfl, -, -⟩ := int_cells hc
  have n1 := nw_alloc w (.cells #[.int .i64 p, .int .i64 z, .slice a l.length cap] tManU)
  have b1 := heap_new w (.cells #[.int .i64 p, .int .i64 z, .slice a l.length cap] tManU)
  have n1d := n1.drew
  have cl : ∀ y, Nw (w.alloc (.cells #[.int .i64 p, .int .i64 z, .slice a l.length cap] tManU)) y → y.cell? ⟨w.heap.size, 0, none⟩ = some (.int .i64 p) ∧ y.cell? ⟨w.heap.size, 1, none⟩ = some (.int .i64 z) ∧ y.cell? ⟨w.heap.size, 2, none⟩ = some (.slice a l.length cap) := fun y u => ⟨by rw [cells_cell (Nw.keep u b1)]; rfl, by rw [cells_cell (Nw.keep u b1)]; rfl, by rw [cells_cell (Nw.keep u b1)]; rfl⟩
  have cd := cl _ (Upd.refl _ _).drew
  have hF : Calls Tryd.prog 33 #[v] (w.alloc (.cells #[.int .i64 p, .int .i64 z, .slice a l.length cap] tManU)).drew fun e y => ∃ a2 c2, e = .returned (.slice a2 (totL C) c2) ∧ (y.cell? ⟨w.heap.size, 0, none⟩ = some (.int .i64 p) ∧ y.cell? ⟨w.heap.size, 1, none⟩ = some (.int .i64 z) ∧ y.cell? ⟨w.heap.size, 2, none⟩ = some (.slice a l.length cap)) ∧
      Hid (Calls Tryd.prog 27 #[.agg #[.int .i64 p, .int .i64 z, .slice a l.length cap], .slice a2 (totL C) c2] y fun e y2 => ∃ v', e = .returned v' ∧ (y2.cell? ⟨w.heap.size, 0, none⟩ = some (.int .i64 p) ∧ y2.cell? ⟨w.heap.size, 1, none⟩ = some (.int .i64 z) ∧ y2.cell? ⟨w.heap.size, 2, none⟩ = some (.slice a l.length cap)) ∧
        Hid (y2.ownsRow w.heap.size 3 1 v' (Ft.miss l (C.map (·.2)).flatten).length ((Ft.miss l (C.map (·.2)).flatten).map intD) ∧ Nw w y2)) := by
    refine (concat_i v C _ (g.upd n1d) (h.nw n1d) hC hT).mono ?_
    rintro e y ⟨v2, rfl, o2, u2⟩
    obtain ⟨a2, c2, rfl⟩ := own_slG o2
    refine ⟨a2, c2, rfl, cl y ((Upd.refl _ _).drew.trans u2), (missing_c lo hi _ _ p z _ l _ _ y (g.upd (n1d.trans u2)) (hc.nw (n1d.trans u2)) (Sl.of_owns o2) hl (by unfold totL at hT; exact hT)).mono ?_⟩
    rintro e y2 ⟨v3, rfl, o3, u3⟩
    exact ⟨v3, rfl, cl y2 (((Upd.refl _ _).drew.trans u2).trans u3), owns_base o3 (n1d.trans u2).size, (n1d.trans u2).trans u3⟩
  have HF := Lib.hid hF
  obtain ⟨av, cv2, rfl, -, -⟩ := h.cells
  obtain ⟨c0, c1, c2⟩ := cd
  clear hc h n1 b1 cl hF n1d
  go_enter Tryd.func17, Tryd.ntmps17
  go_wp2_with fail
  go_region_held3 (fun y => y.cell? ⟨w.heap.size, 0, none⟩ = some (.int .i64 p) ∧ y.cell? ⟨w.heap.size, 1, none⟩ = some (.int .i64 z) ∧ y.cell? ⟨w.heap.size, 2, none⟩ = some (.slice a l.length cap)) (first | exact ⟨c0, c1, c2⟩ | assumption) (first | (go_at_call 33; (with_reducible refine HF.out.mono ?_); rintro _ y1 ⟨a3, c3, rfl, cy1, HM⟩) | (go_at_call 27; (with_reducible refine HM.out.mono ?_); rintro _ y2 ⟨v3, rfl, cy2, HO3⟩))
  clear HF c0 c1 c2 cy1 cy2
  obtain ⟨a4, c4, rfl⟩ := own_slG HO3.out.1
  go_wp2_with fail
  go_ret
  exact ⟨_, rfl, HO3.out⟩
end Go.Proofs.YtagmlemlagbfkaaDoor
