/- The contract of attest's sorted: slices.Sort, then slices.Compact, of a slice of numbers that the call has built: the numbers ascending, each once. -/
import Derived.Test.YtpceoogmkbcfmaaGreatDoorLib
import Derived.Test.YtpceoogmkbcfmaaGreatDoorOwns
import Derived.Test.YtpceoogmkbcfmaaGreatDoorAttP
import Derived.Sort.OwnSortedInts
import Derived.Lib.RowBridge
namespace Go.Proofs.YtpceoogmkbcfmaaGreatDoor
open Go.RowKit
set_option linter.unusedVariables false
set_option linter.unusedSimpArgs false
attribute [local irreducible] Calls

theorem compact_steps (d : Array Int) (hd : ∀ i j, i < j → j < d.size → d[i]! ≤ d[j]!) : ∀ m, m ≤ d.size → (Lib.compactUpTo d m).Pairwise (· < ·) ∧ ∀ x, x ∈ Lib.compactUpTo d m ↔ ∃ j, j < m ∧ d[j]! = x := by
  intro m
  induction m with
  | zero => intro _; exact ⟨by simp [Lib.compactUpTo], fun x => by simp [Lib.compactUpTo]⟩
  | succ m ih =>
    intro hm
    obtain ⟨h1, h2⟩ := ih (by omega)
    rw [Lib.compactUpTo_succ]
    by_cases hk : Lib.keeps d m = true
    · rw [if_pos hk]
      refine ⟨List.pairwise_append.2 ⟨h1, by simp, fun a ha b hb => ?_⟩, fun x => ?_⟩
      · obtain ⟨j, hj, rfl⟩ := (h2 a).1 ha
        rw [List.mem_singleton.1 hb]
        have hne : d[m]! ≠ d[m - 1]! := by
          intro e
          rw [Lib.keeps_neg (by omega) e] at hk
          cases hk
        have h3 : d[m - 1]! ≤ d[m]! := hd (m - 1) m (by omega) (by omega)
        have h4 : d[j]! ≤ d[m - 1]! := by
          by_cases e : j = m - 1
          · rw [e]; exact Int.le_refl _
          · exact hd j (m - 1) (by omega) (by omega)
        omega
      · rw [List.mem_append, h2, List.mem_singleton]
        constructor
        · rintro (⟨j, hj, e⟩ | e)
          · exact ⟨j, by omega, e⟩
          · exact ⟨m, by omega, e.symm⟩
        · rintro ⟨j, hj, e⟩
          by_cases ejm : j = m
          · right; rw [← e, ejm]
          · exact Or.inl ⟨j, by omega, e⟩
    · rw [if_neg hk, List.append_nil]
      refine ⟨h1, fun x => ?_⟩
      rw [h2]
      constructor
      · rintro ⟨j, hj, e⟩; exact ⟨j, by omega, e⟩
      · rintro ⟨j, hj, e⟩
        by_cases ejm : j = m
        · subst ejm
          have h0 : 0 < j := by
            by_cases h0 : 0 < j
            · exact h0
            · exfalso
              apply hk
              exact Lib.keeps_lt_one d j (by omega)
          have heq : d[j]! = d[j - 1]! := by
            by_cases he : d[j]! = d[j - 1]!
            · exact he
            · exact absurd (Lib.keeps_pos he) hk
          exact ⟨j - 1, by omega, by rw [← heq]; exact e⟩
        · exact ⟨j, by omega, e⟩
theorem compact_sortU (l : List Int) : Lib.compact (l.mergeSort fun x y => decide (x ≤ y)) = At.sortU l := by
  have hp : (l.mergeSort fun x y => decide (x ≤ y)).Pairwise (fun x y => decide (x ≤ y) = true) := List.pairwise_mergeSort (fun a b c => by simp only [decide_eq_true_eq]; omega) (fun a b => by simp only [Bool.or_eq_true, decide_eq_true_eq]; omega) l
  have hm : ∀ x, x ∈ (l.mergeSort fun x y => decide (x ≤ y)) ↔ x ∈ l := fun x => (List.mergeSort_perm l _).mem_iff
  generalize l.mergeSort (fun x y => decide (x ≤ y)) = s at *
  have hd : ∀ i j, i < j → j < s.toArray.size → s.toArray[i]! ≤ s.toArray[j]! := fun i j hij hj => by
    have hj' : j < s.length := by simpa using hj
    have := (List.pairwise_iff_getElem.1 hp) i j (by omega) hj' hij
    simpa [hj', show i < s.length by omega] using this
  obtain ⟨h1, h2⟩ := compact_steps s.toArray hd s.length (by simp)
  refine At.asc_sortU h1 (fun x => ?_)
  unfold Lib.compact
  rw [h2, ← hm, List.mem_iff_getElem]
  constructor
  · rintro ⟨j, hj, e⟩; exact ⟨j, hj, by simpa [hj] using e⟩
  · rintro ⟨j, hj, e⟩; exact ⟨j, hj, by simpa [hj] using e⟩
theorem sortU_len (l : List Int) : (At.sortU l).length ≤ l.length := by
  rw [← compact_sortU]
  have := Lib.compact_length_le (l.mergeSort fun x y => decide (x ≤ y))
  rw [List.length_mergeSort] at this
  exact this
abbrev tNum : TypeId := 3
abbrev intV (n : Int) : Value := .int .i64 n
theorem upd_grownI {w : World} {g : Nat} (hg : nG ≤ g) {w' : World} (h : w.grownBy w' (some g)) : Upd (fun j => j = g) w w' :=
  (Upd.refl _ w).grown h (fun k hk => ⟨Or.inl (by injection hk with hk; exact hk.symm), by injection hk with hk; omega⟩)
theorem sorted_w (base : Nat) (l : List Int) (v : Value) (w : World) (hb : nG ≤ base) (hl : l.length ≤ 1000000) (h : w.ownsRow base tNum 1 v l.length (l.map intV)) :
    Calls Tryz.prog 37 #[v] w fun e w' => ∃ v', e = .returned v' ∧ w'.ownsRow base tNum 1 v' (At.sortU l).length ((At.sortU l).map intV) ∧ Upd (fun j => v.ownBlock = some j) w w' ∧ ∀ j, v'.ownBlock = some j → v.ownBlock = some j := by
  obtain ⟨h1, h2⟩ := h
  rcases h2 with ⟨rfl, h0⟩ | ⟨gb, cap, cur, rfl, hbg, hcell, hn, hcap, hsz, htk⟩
  · have hnil : l = [] := List.length_eq_zero_iff.1 h0
    subst hnil
    have hs : At.sortU [] = [] := rfl
    go_enter Tryz.func37, Tryz.ntmps37
    go_wp2_with fail
    (with_reducible refine (Tryz.slices_Sort_int_none none 0 w).mono ?_)
    rintro _ w1 ⟨rfl, rfl⟩
    go_wp2_with fail
    (with_reducible refine (Tryz.slices_Compact_int_empty none 0 _).mono ?_)
    rintro _ w2 ⟨rfl, rfl⟩
    go_wp2_with fail
    go_ret
    exact ⟨_, rfl, by rw [hs]; exact World.ownsRow_nil _ _ _ _, Upd.refl _ _, fun j hj => hj⟩
  · by_cases h0 : l.length = 0
    · have hnil : l = [] := List.length_eq_zero_iff.1 h0
      subst hnil
      have hs : At.sortU [] = [] := rfl
      have hfin : w.ownsRow base tNum 1 (.slice (some ⟨gb, 0, none⟩) 0 cap) (At.sortU []).length ((At.sortU []).map intV) := by
        rw [hs]
        exact ⟨by simp, Or.inr ⟨gb, cap, cur, rfl, hbg, hcell, hn, hcap, hsz, by simp⟩⟩
      have Hfin := Lib.hid hfin
      clear hfin hcell htk hs
      go_enter Tryz.func37, Tryz.ntmps37
      go_wp2_with fail
      (with_reducible refine (Tryz.slices_Sort_int_none (some ⟨gb, 0, none⟩) cap w).mono ?_)
      rintro _ w1 ⟨rfl, rfl⟩
      go_wp2_with fail
      (with_reducible refine (Tryz.slices_Compact_int_empty (some ⟨gb, 0, none⟩) cap _).mono ?_)
      rintro _ w2 ⟨rfl, rfl⟩
      go_wp2_with fail
      go_ret
      exact ⟨_, rfl, Hfin.out, Upd.refl _ _, fun j hj => hj⟩
    · rw [Nat.mul_one] at htk hsz
      have hgb : gb < w.heap.size := lt_of_block hcell
      have hH := holds_of_blockI (ss := l) hcell htk
      have Q1 := Lib.hid (Tryz.slices_Sort_int gb 0 cap l w hH hgb (by omega))
      obtain ⟨s, hs⟩ : ∃ s, (l.mergeSort fun x y => decide (x ≤ y)) = s := ⟨_, rfl⟩
      have hsl : s.length = l.length := by rw [← hs, List.length_mergeSort]
      have hcs := compact_sortU l
      rw [hs] at hcs
      have hcl : (Lib.compact s).length ≤ s.length := Lib.compact_length_le s
      have Hs := Lib.hid hs
      have HQ : Hid (∀ (n : Nat) (os : Array Obj), ∃ w1, Go.Sort.grow (Go.Sort.putRow (Value.int .i64) (Go.Sort.ahead w n) gb 0 s.toArray) os = w1 ∧ (∃ cur1, w1.heap[gb]? = some (.cells cur1 tNum (0, 0)) ∧ cur1.size = cap ∧ cur1.toList.take s.length = s.map (Value.int .i64)) ∧ Upd (fun j => j = gb) w w1) := fun n os => by
        refine ⟨_, rfl, ⟨_, heap_sortedI s.toArray hcell, by simp [Go.Sort.putCells, hsz], take_putCellsI cur s (by omega)⟩, upd_grownI (by omega) (grownBy_sortedI s.toArray)⟩
      clear hs hH htk hcell
      go_enter Tryz.func37, Tryz.ntmps37
      go_wp2_with fail
      (with_reducible refine (Q1.out).mono ?_)
      rintro _ w1 ⟨rfl, n, os, hw1⟩
      rw [Hs.out] at hw1
      obtain ⟨_, e1, ⟨cur1, b1, z1, t1⟩, u1⟩ := HQ.out n os
      rw [e1] at hw1
      subst hw1
      have q2 := Tryz.slices_Compact_int gb 0 cap s w1 (holds_of_blockI (ss := s) b1 t1) (by omega) (by omega)
      rw [hsl] at q2
      have Q2 := Lib.hid q2
      have HQ2 : Hid (∀ q : Nat, (Go.Sort.putRow (Value.int .i64) (Go.Sort.ahead w1 q) gb 0 (Lib.compact s ++ List.replicate (l.length - (Lib.compact s).length) 0).toArray).ownsRow base tNum 1 (.slice (some ⟨gb, 0, none⟩) (Lib.compact s).length cap) (At.sortU l).length ((At.sortU l).map intV) ∧ Upd (fun j => j = gb) w1 (Go.Sort.putRow (Value.int .i64) (Go.Sort.ahead w1 q) gb 0 (Lib.compact s ++ List.replicate (l.length - (Lib.compact s).length) 0).toArray)) := fun q => by
        rw [← hsl]
        have hb2 := heap_sortedI (n := q) (os := #[]) (Lib.compact s ++ List.replicate (s.length - (Lib.compact s).length) 0).toArray b1
        have hg2 := grownBy_sortedI (n := q) (os := #[]) (w := w1) (g := gb) (Lib.compact s ++ List.replicate (s.length - (Lib.compact s).length) 0).toArray
        rw [Go.Sort.grow_empty] at hb2 hg2
        refine ⟨⟨by simp, Or.inr ⟨gb, cap, _, by rw [hcs], by omega, hb2, by rw [← hcs]; omega, hcap, by simp [Go.Sort.putCells, z1], ?_⟩⟩, upd_grownI (by omega) hg2⟩
        have ht := take_putCellsI cur1 (Lib.compact s ++ List.replicate (s.length - (Lib.compact s).length) 0) (by rw [List.length_append, List.length_replicate]; omega)
        rw [Nat.mul_one, ← hcs]
        have ht2 := congrArg (List.take (Lib.compact s).length) ht
        rw [List.take_take, List.length_append, Nat.min_eq_left (by omega), List.map_append, List.take_left' (by simp)] at ht2
        exact ht2
      clear b1 t1 z1 q2 hcs
      go_wp2_with fail
      (with_reducible refine (Q2.out).mono ?_)
      rintro _ w2 ⟨rfl, q, rfl⟩
      obtain ⟨o2, u2⟩ := HQ2.out q
      have Ho2 := Lib.hid o2
      have Hu := Lib.hid (u1.trans u2)
      clear o2 u2 u1
      go_wp2_with fail
      go_ret
      refine ⟨_, rfl, Ho2.out, Hu.out.mono (fun j _ e => by show some gb = some j; rw [e]), fun j hj => by simpa [Value.ownBlock] using hj⟩
end Go.Proofs.YtpceoogmkbcfmaaGreatDoor
