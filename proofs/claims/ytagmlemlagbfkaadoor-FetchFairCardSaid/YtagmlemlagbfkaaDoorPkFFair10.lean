/- slices.Contains at []int; chunk.Check, chunk.Missing, chunk.Right. -/
import Derived.Test.YtagmlemlagbfkaaDoorPkFFair2
import Derived.Test.YtagmlemlagbfkaaDoorPkFFair9
namespace Go.Proofs.YtagmlemlagbfkaaDoor
open Go.RowKit
set_option linter.unusedVariables false
set_option linter.unusedSimpArgs false
attribute [local irreducible] Calls

set_option maxRecDepth 100000 in
theorem index_iU (lo0 hi0 : Nat) (v : Value) (l : List Int) (t : Int) (w : World) (hv : Sl lo0 hi0 w v (l.map intD)) (hl : l.length ≤ 1000000) :
    Calls Tryd.prog 34 #[v, .int .i64 t] w fun e w' => e = .returned (.int .i64 (idxI (fun x => decide (x = t)) l)) ∧ w = w' := by
  obtain ⟨a, cap, rfl, -, hc⟩ := int_cells hv
  have HC := Lib.hid hc
  have hl1 : (l.length : Int) ≤ 1000000 := by omega
  clear hv hc
  go_enter Tryd.func34, Tryd.ntmps34
  go_wp2_with fail
  go_loopw [8] (fun i wr => ∃ n : Nat, n ≤ l.length ∧ i = .int .i64 (n : Int) ∧ Hid (∀ j (h : j < l.length), j < n → (decide (l[j] = t)) = false) ∧ w = wr) (fun i _ => l.length - (intOf i).toNat)
  case atStart => exact ⟨0, Nat.zero_le _, rfl, fun j _ h => absurd h (Nat.not_lt_zero _), rfl⟩
  case round =>
    obtain ⟨n, hn, rfl, hall, rfl⟩ := hrel
    by_cases hlt : n < l.length
    · have hlt1 : (n : Int) < l.length := by omega
      rcases HC.out with hnil | ⟨b, off, rfl, _, _, hcell⟩
      · simp [hnil] at hlt
      have c0 := hcell n hlt
      have hnext : l[n] ≠ t → Hid (∀ j (h : j < l.length), j < n + 1 → (decide (l[j] = t)) = false) := fun e j h hj => by
        by_cases ej : j = n
        · subst ej; exact decide_eq_false e
        · exact hall.out j h (by omega)
      have hstop : l[n] = t → Hid (idxI (fun x => decide (x = t)) l = n) := fun e => idx_hit hlt (decide_eq_true e) hall.out
      clear hcell
      generalize l[n] = x at *
      by_cases he : x = t
      · have hr := hstop he
        have htt : (t == x) = true := by simp [he]
        clear hstop hnext
        subst he
        go_wp2_with fail
        go_ret
        rw [hr.out]
        exact ⟨rfl, rfl⟩
      · have hz := hnext he
        have htt : (t == x) = false := by simp; exact fun e => he e.symm
        clear hstop hnext he
        go_wp2_with fail
        go_roundw
        case rel => exact ⟨n + 1, by omega, by go_num, hz, by first | rfl | trivial⟩
        case measure => simp [intOf]; omega
    · obtain rfl : n = l.length := by omega
      have hr : Hid (idxI (fun x => decide (x = t)) l = -1) := idx_miss (fun j h => hall.out j h h)
      clear hall
      go_wp2_with fail
      go_ret
      rw [hr.out]
      exact ⟨rfl, rfl⟩
theorem idx_memI (l : List Int) (t : Int) : decide (0 ≤ idxI (fun x => decide (x = t)) l) = decide (t ∈ l) := by
  rw [idx_any, Bool.eq_iff_iff]; simp
set_option maxRecDepth 100000 in
theorem contains_iU (lo0 hi0 : Nat) (v : Value) (l : List Int) (t : Int) (w : World) (hv : Sl lo0 hi0 w v (l.map intD)) (hl : l.length ≤ 1000000) :
    Calls Tryd.prog 19 #[v, .int .i64 t] w fun e w' => e = .returned (.bool (decide (t ∈ l))) ∧ w = w' := by
  have hi := Lib.hid (index_iU lo0 hi0 v l t w hv hl)
  have hm := Lib.hid (idx_memI l t)
  obtain ⟨a, cap, rfl, -, -⟩ := int_cells hv
  clear hv
  generalize idxI (fun x => decide (x = t)) l = ix at *
  go_enter Tryd.func19, Tryd.ntmps19
  go_wp2_with fail
  (with_reducible refine (hi.out).mono ?_)
  rintro _ _ ⟨rfl, rfl⟩
  go_wp2_with fail
  go_ret
  exact ⟨by rw [← hm.out]; rfl, rfl⟩
theorem contains_iN (lo0 hi0 : Nat) (v : Value) (l : List Int) (t : Int) (w : World) (hv : Sl lo0 hi0 w v (l.map intD)) (hl : l.length ≤ 1000000) :
    Calls Tryd.prog 19 #[v, .int .i64 t] w fun e w' => e = .returned (.bool (decide (t ∈ l))) ∧ Nw w w' :=
  (contains_iU lo0 hi0 v l t w hv hl).mono fun _ _ ⟨h, e⟩ => ⟨h, by rw [← e]; exact Upd.refl _ _⟩
abbrev tManU : TypeId := 26
set_option maxHeartbeats 1000000 in
set_option maxRecDepth 100000 in
theorem check_c (lo hi lo2 hi2 : Nat) (v : Value) (cs : List (List UInt8)) (p z : Int) (cv : Value) (l : List Int) (i : Int) (hi64 : I64 i) (t : List UInt8) (w : World) (hv : Sl lo hi w v (cs.map bsMU)) (hl : cs.length ≤ 90) (hc : Sl lo2 hi2 w cv (l.map intD)) (hl2 : l.length ≤ 1000000) :
    Calls Tryd.prog 11 #[v, .agg #[.int .i64 p, .int .i64 z, cv], .int .i64 i, .string ⟨t.toArray⟩] w fun e w' => e = .returned (.bool (Ft.checkM cs l i t)) ∧ Nw w w' := by
  obtain ⟨a, cap, rfl, -, hcc⟩ := int_cells hc
  have HC := Lib.hid (hc.nw (nw_alloc w (.cells #[.int .i64 p, .int .i64 z, .slice a l.length cap] tManU)))
  have HCC := Lib.hid (int_cells HC.out)
  have n1 := nw_alloc w (.cells #[.int .i64 p, .int .i64 z, .slice a l.length cap] tManU)
  have HT := Lib.hid (fun n : Int => ctext_wU lo hi v cs n _ (hv.nw n1) hl)
  obtain ⟨a1, c1, rfl, -⟩ := strs_cellsU hv
  have hl3 : (l.length : Int) ≤ 1000000 := by omega
  have HU := Lib.hid n1
  clear hv hc hcc n1
  unfold I64 at hi64
  obtain ⟨hi1, hi2'⟩ := hi64
  by_cases h0 : i < 0
  · have d0 : decide (i < 0) = true := decide_eq_true h0
    have hr : Hid (Ft.checkM cs l i t = false) := by
      show _ = _
      unfold Ft.checkM; rw [decide_eq_false (show ¬ 0 ≤ i by omega)]; rfl
    clear h0
    go_enter Tryd.func11, Tryd.ntmps11
    go_wp2_with fail
    go_ret
    exact ⟨by rw [hr.out]; rfl, HU.out⟩
  have d0 : decide (i < 0) = false := decide_eq_false h0
  by_cases h1 : (l.length : Int) ≤ i
  · have d1 : decide ((l.length : Int) ≤ i) = true := decide_eq_true h1
    have hr : Hid (Ft.checkM cs l i t = false) := by
      show _ = _
      unfold Ft.checkM; rw [decide_eq_false (show ¬ i < l.length by omega)]; simp
    clear h1 h0
    go_enter Tryd.func11, Tryd.ntmps11
    go_wp2_with fail
    go_ret
    exact ⟨by rw [hr.out]; rfl, HU.out⟩
  have d1 : decide ((l.length : Int) ≤ i) = false := decide_eq_false h1
  obtain ⟨k, rfl⟩ : ∃ k : Nat, i = k := ⟨i.toNat, by omega⟩
  have hk : k < l.length := by omega
  have hr : Hid (Ft.checkM cs l k t = (hasAtU cs l[k] && decide (textAtU cs l[k] = t))) := by
    show _ = _
    unfold Ft.checkM
    rw [decide_eq_true (show (0 : Int) ≤ (k : Int) by omega), decide_eq_true (show (k : Int) < l.length by omega)]
    simp [hk]
  rcases HCC.out with ⟨_, _, e, _, hnil | ⟨b, off, e2, _, _, hcell⟩⟩
  · simp [hnil] at hk
  injection e with e3 e4 e5
  subst e3 e5
  subst e2
  have c0 := hcell k hk
  have hk1 : (k : Int) < l.length := by omega
  have HT1 := Lib.hid (HT.out l[k])
  clear hcell h0 h1 HCC HC HT
  generalize l[k] = n at *
  have htt : (textAtU cs n == t) = decide (textAtU cs n = t) := by rw [Bool.eq_iff_iff]; simp
  go_enter Tryd.func11, Tryd.ntmps11
  go_wp2_with fail
  (with_reducible refine (HT1.out).mono ?_)
  rintro _ w2 ⟨rfl, u2⟩
  have HU2 := Lib.hid (HU.out.trans u2)
  clear u2 HT1
  cases hh : hasAtU cs n with
  | false =>
    rw [hh] at hr
    have hr2 : Hid (Ft.checkM cs l k t = false) := hr.out
    clear hr hh
    go_wp2_with fail
    go_ret
    exact ⟨by rw [hr2.out]; rfl, HU2.out⟩
  | true =>
    rw [hh] at hr
    have hr2 : Hid (Ft.checkM cs l k t = decide (textAtU cs n = t)) := hr.out
    clear hr hh
    go_wp2_with fail
    go_ret
    exact ⟨by rw [hr2.out, ← htt]; rfl, HU2.out⟩
end Go.Proofs.YtagmlemlagbfkaaDoor
