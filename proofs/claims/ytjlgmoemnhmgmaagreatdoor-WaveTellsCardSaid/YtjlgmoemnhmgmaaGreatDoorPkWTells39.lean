/- Plain: an order of services runs through exactly if each next one may be changed. Plain: the first order that runs through; the plan, and the reference's search for it. The reference's One. The law package's orders. -/
import Derived.Test.YtjlgmoemnhmgmaaGreatDoorPkWTells31
import Derived.Test.YtjlgmoemnhmgmaaGreatDoorPkWTells28
import Derived.Deep.AppendLies
import Derived.Test.YtjlgmoemnhmgmaaGreatDoorPkWTells30
namespace Go.Proofs.YtjlgmoemnhmgmaaGreatDoor
set_option linter.unusedVariables false
set_option linter.unusedSimpArgs false

namespace Wv
/-! ### States by membership -/
/-- Which machines have changed: those of some services, and the first c of s. -/
def stB (f : FL) (A : Nat → Bool) (s c i : Nat) : Bool := A (run f i) || decide ((i : Int) ∈ (machines f s).take c)
def IsSt (f : FL) (d : List Bool) (A : Nat → Bool) (s c : Nat) : Prop := d.length = f.runs.length ∧ ∀ i, i < f.runs.length → ver d i = stB f A s c i
theorem mem_machines {f : FL} {s i : Nat} : (i : Int) ∈ machines f s ↔ i < f.runs.length ∧ run f i = s := by
  unfold machines
  rw [List.mem_map]
  constructor
  · rintro ⟨j, hj, e⟩
    have e : j = i := by omega
    subst e
    have := List.mem_filter.1 hj
    exact ⟨List.mem_range.1 this.1, by simpa using this.2⟩
  · rintro ⟨h1, h2⟩
    exact ⟨i, List.mem_filter.2 ⟨List.mem_range.2 h1, by simpa using h2⟩, rfl⟩
theorem machines_nat {f : FL} {s : Nat} {x : Int} (h : x ∈ machines f s) : ∃ i : Nat, x = i ∧ i < f.runs.length ∧ run f i = s := by
  have h2 := h
  unfold machines at h
  obtain ⟨j, _, rfl⟩ := List.mem_map.1 h
  exact ⟨j, rfl, mem_machines.1 h2⟩
theorem pw_map {l : List Nat} (h : l.Pairwise (· < ·)) : (l.map fun (i : Nat) => (i : Int)).Pairwise (· < ·) := by
  rw [List.pairwise_map]
  exact h.imp (fun {a b} hab => by omega)
theorem machines_asc (f : FL) (s : Nat) : (machines f s).Pairwise (· < ·) := by
  unfold machines
  exact pw_map (List.Pairwise.filter _ List.pairwise_lt_range)
theorem pw_nodup {l : List Int} (h : l.Pairwise (· < ·)) : l.Nodup := h.imp (fun {a b} hab => by omega)
theorem pw_asc {l : List Int} (h : l.Pairwise (· < ·)) : ascI l = true := by
  rw [ascI_iff]
  intro i hi
  exact List.pairwise_iff_getElem.1 h i (i + 1) (by omega) hi (by omega)
theorem ver_set {d : List Bool} {i j : Nat} (h : i < d.length) : ver (d.set i true) j = (ver d j || decide (j = i)) := by
  unfold ver
  rw [List.getD_eq_getElem?_getD, List.getD_eq_getElem?_getD, List.getElem?_set]
  by_cases e : i = j
  · subst e; simp [h]
  · have e2 : ¬ j = i := fun h => e h.symm
    simp [e, e2]
theorem setAll_len (d : List Bool) (ms : List Int) : (setAll d ms).length = d.length := by
  unfold setAll
  induction ms generalizing d with
  | nil => rfl
  | cons m ms ih => rw [List.foldl_cons, ih, List.length_set]
theorem ver_setAll : ∀ {ms : List Int} {d : List Bool} {j : Nat}, (∀ x ∈ ms, 0 ≤ x ∧ x.toNat < d.length) → ver (setAll d ms) j = (ver d j || decide ((j : Int) ∈ ms))
  | [], d, j, h => by unfold setAll; simp
  | m :: ms, d, j, h => by
    have h1 := h m (List.mem_cons_self ..)
    have ih := @ver_setAll ms (d.set m.toNat true) j (fun x hx => by rw [List.length_set]; exact h x (List.mem_cons_of_mem _ hx))
    show ver (setAll (d.set m.toNat true) ms) j = _
    rw [ih, ver_set h1.2, Bool.or_assoc]
    congr 1
    have e : (j = m.toNat) ↔ ((j : Int) = m) := by omega
    simp [List.mem_cons, e]
theorem isSt_none (f : FL) (s : Nat) : IsSt f (none_ f) (fun _ => false) s 0 := by
  refine ⟨by unfold none_; rw [List.length_replicate], fun i hi => ?_⟩
  unfold stB ver none_
  rw [gD (by rw [List.length_replicate]; exact hi)]
  simp
theorem isSt_next {f : FL} {d : List Bool} {A : Nat → Bool} {s c n : Nat} (h : IsSt f d A s c) : IsSt f (setAll d (((machines f s).drop c).take n)) A s (c + n) := by
  refine ⟨by rw [setAll_len]; exact h.1, fun i hi => ?_⟩
  rw [ver_setAll (fun x hx => ?_), h.2 i hi]
  · unfold stB
    rw [List.take_add, Bool.or_assoc]
    congr 1
    simp [List.mem_append]
  · obtain ⟨j, rfl, h1, _⟩ := machines_nat (List.mem_of_mem_drop (List.mem_of_mem_take hx))
    rw [h.1]
    exact ⟨by omega, by omega⟩
theorem isSt_all {f : FL} {d : List Bool} {A : Nat → Bool} {s c : Nat} (hc : (machines f s).length ≤ c) (h : IsSt f d A s c) (s' : Nat) : IsSt f d (fun k => A k || decide (k = s)) s' 0 := by
  refine ⟨h.1, fun i hi => ?_⟩
  rw [h.2 i hi]
  unfold stB
  rw [List.take_of_length_le hc]
  have e : (i : Int) ∈ machines f s ↔ run f i = s := by rw [mem_machines]; exact ⟨fun h => h.2, fun h => ⟨hi, h⟩⟩
  simp [e]
/-- What some, all, none say of a state. -/
theorem pres_st {f : FL} {d : List Bool} {A : Nat → Bool} {s c : Nat} (h : IsSt f d A s c) (hA : A s = false) (k : Nat) (v : Bool) :
    pres f d k v ↔ if k = s then (if v then 0 < c ∧ 0 < (machines f s).length else c < (machines f s).length) else (A k = v ∧ ∃ i, i < f.runs.length ∧ run f i = k) := by
  by_cases hk : k = s
  · subst hk
    rw [if_pos rfl]
    have hv : ∀ i, i < f.runs.length → run f i = k → ver d i = decide ((i : Int) ∈ (machines f k).take c) := fun i hi e => by
      rw [h.2 i hi]; unfold stB; rw [e, hA]; rfl
    cases v with
    | true =>
      rw [if_pos rfl]
      constructor
      · rintro ⟨i, hi, e, hvi⟩
        rw [hv i hi e] at hvi
        have h2 : (i : Int) ∈ (machines f k).take c := of_decide_eq_true hvi
        have h3 := List.length_pos_of_mem h2
        rw [List.length_take] at h3
        omega
      · rintro ⟨h1, h2⟩
        obtain ⟨i, e, hi, hr⟩ := machines_nat (List.getElem_mem h2)
        refine ⟨i, hi, hr, ?_⟩
        rw [hv i hi hr]
        refine decide_eq_true ?_
        rw [← e, List.mem_take_iff_getElem]
        exact ⟨0, by omega, rfl⟩
    | false =>
      rw [if_neg (by simp)]
      constructor
      · rintro ⟨i, hi, e, hvi⟩
        rw [hv i hi e] at hvi
        have h2 : ¬ (i : Int) ∈ (machines f k).take c := of_decide_eq_false hvi
        rcases Nat.lt_or_ge c (machines f k).length with h3 | h3
        · exact h3
        · rw [List.take_of_length_le h3] at h2
          exact absurd (mem_machines.2 ⟨hi, e⟩) h2
      · intro h1
        obtain ⟨i, e, hi, hr⟩ := machines_nat (List.getElem_mem h1)
        refine ⟨i, hi, hr, ?_⟩
        rw [hv i hi hr]
        refine decide_eq_false fun hm => ?_
        rw [← e, List.mem_take_iff_getElem] at hm
        obtain ⟨j, hj, e2⟩ := hm
        have := (List.getElem_inj (pw_nodup (machines_asc f k))).1 e2
        omega
  · rw [if_neg hk]
    have hv : ∀ i, i < f.runs.length → run f i = k → ver d i = A k := fun i hi e => by
      rw [h.2 i hi]; unfold stB; rw [e]
      have : ¬ (i : Int) ∈ (machines f s).take c := fun hm => hk (by rw [← e]; exact (mem_machines.1 (List.mem_of_mem_take hm)).2)
      simp [this]
    constructor
    · rintro ⟨i, hi, e, hvi⟩
      exact ⟨by rw [← hv i hi e]; exact hvi, i, hi, e⟩
    · rintro ⟨h1, i, hi, e⟩
      exact ⟨i, hi, e, by rw [hv i hi e]; exact h1⟩
theorem bad_congr {f : FL} {d d' : List Bool} (h : ∀ k v, pres f d k v ↔ pres f d' k v) : (firstBad f d).isSome = (firstBad f d').isSome := by
  apply Bool.eq_iff_iff.2
  rw [bad_some, bad_some]
  constructor
  · rintro ⟨s, v, s', v', h1, h2, h3⟩
    exact ⟨s, v, s', v', (h _ _).1 h1, (h _ _).1 h2, h3⟩
  · rintro ⟨s, v, s', v', h1, h2, h3⟩
    exact ⟨s, v, s', v', (h _ _).2 h1, (h _ _).2 h2, h3⟩
theorem bad_st {f : FL} {d d' : List Bool} {A : Nat → Bool} {s c c' : Nat} (h : IsSt f d A s c) (h' : IsSt f d' A s c') (hA : A s = false) (h0 : 0 < c ↔ 0 < c') (h1 : c < (machines f s).length ↔ c' < (machines f s).length) : (firstBad f d).isSome = (firstBad f d').isSome :=
  bad_congr fun k v => by
    rw [pres_st h hA, pres_st h' hA]
    by_cases hk : k = s
    · rw [if_pos hk, if_pos hk]
      cases v with
      | true => rw [if_pos rfl, if_pos rfl, h0]
      | false => rw [if_neg (by simp), if_neg (by simp), h1]
    · rw [if_neg hk, if_neg hk]
/-! ### The planner's states -/
theorem range_cut {n i : Nat} (h : i < n) : List.range n = List.range i ++ i :: List.range' (i + 1) (n - i - 1) := by
  rw [List.range_eq_range', List.range_eq_range', show i :: List.range' (i + 1) (n - i - 1) = List.range' i (n - i) by
    rw [show n - i = (n - i - 1) + 1 by omega, List.range'_succ]; simp]
  have := @List.range'_append_1 0 i (n - i)
  rw [Nat.zero_add] at this
  rw [this]; congr 1; omega
theorem sameTo_lt {f : FL} {s i : Nat} (hi : i < f.runs.length) (h : run f i = s) : sameTo f s i < (machines f s).length := by
  unfold sameTo machines
  rw [List.length_map, range_cut hi, List.filter_append, List.length_append, List.filter_cons, if_pos (by simpa using h), List.length_cons]
  have : ((List.range i).filter fun j => decide ((run f j : Int) = (s : Int))) = (List.range i).filter fun j => decide (run f j = s) := by
    apply List.filter_congr
    intro j _
    by_cases e : run f j = s
    · simp [e]
    · have : ¬ (run f j : Int) = (s : Int) := by omega
      simp [e, this]
  rw [this]
  omega
theorem sameTo_at {f : FL} {s : Nat} : ∀ (n : Nat) (k : Nat), k < sameTo f s n → ∃ i, i < n ∧ run f i = s ∧ sameTo f s i = k
  | 0, k, h => by unfold sameTo at h; simp at h
  | n + 1, k, h => by
    rw [sameTo_succ] at h
    by_cases e : (run f n : Int) = (s : Int)
    · rw [if_pos e] at h
      by_cases hk : k < sameTo f s n
      · obtain ⟨i, h1, h2, h3⟩ := sameTo_at n k hk
        exact ⟨i, by omega, h2, h3⟩
      · exact ⟨n, by omega, by omega, by omega⟩
    · rw [if_neg e] at h
      obtain ⟨i, h1, h2, h3⟩ := sameTo_at n k (by omega)
      exact ⟨i, by omega, h2, h3⟩
theorem sameTo_all (f : FL) (s : Nat) : sameTo f s f.runs.length = (machines f s).length := by
  unfold sameTo machines
  rw [List.length_map]
  congr 1
  apply List.filter_congr
  intro j _
  by_cases e : run f j = s
  · simp [e]
  · have : ¬ (run f j : Int) = (s : Int) := by omega
    simp [e, this]
theorem partL_ver {f : FL} {q : Int} {set : Nat} {p : Int} {i : Nat} (hi : i < f.runs.length) : ver (partL f q set p) i = partB f q set p i := by
  rw [partL_eq]
  unfold ver
  rw [gD (by rw [List.length_map, List.length_range]; exact hi), List.getElem_map, List.getElem_range]
/-- All of a set's services, and none of another. -/
theorem part_set {f : FL} {q : Int} {set : Nat} (s : Nat) : IsSt f (partL f q set (-1)) (fun k => set.testBit k) s 0 := by
  refine ⟨by rw [partL_eq, List.length_map, List.length_range], fun i hi => ?_⟩
  rw [partL_ver hi]
  unfold partB stB
  rw [if_neg (by omega), List.take_zero]
  simp
theorem pres_part {f : FL} {q : Int} {set s : Nat} (hq : 1 ≤ q) (hs : set.testBit s = false) {d : List Bool} (h : IsSt f d (fun k => set.testBit k) s q.toNat) (k : Nat) (v : Bool) :
    pres f (partL f q set s) k v ↔ pres f d k v := by
  rw [pres_st h hs]
  by_cases hk : k = s
  · subst hk
    rw [if_pos rfl]
    have hv : ∀ i, i < f.runs.length → run f i = k → ver (partL f q set k) i = decide ((sameTo f k i : Int) < q) := fun i hi e => by
      rw [partL_ver hi]; unfold partB; rw [e, if_pos rfl]
    cases v with
    | true =>
      rw [if_pos rfl]
      constructor
      · rintro ⟨i, hi, e, hvi⟩
        exact ⟨by omega, by have := sameTo_lt hi e; omega⟩
      · rintro ⟨h1, h2⟩
        obtain ⟨i, h3, h4, h5⟩ := sameTo_at f.runs.length 0 (by rw [sameTo_all]; exact h2)
        exact ⟨i, h3, h4, by rw [hv i h3 h4, h5]; exact decide_eq_true (by omega)⟩
    | false =>
      rw [if_neg (by simp)]
      constructor
      · rintro ⟨i, hi, e, hvi⟩
        rw [hv i hi e] at hvi
        have := of_decide_eq_false hvi
        have := sameTo_lt hi e
        omega
      · intro h1
        obtain ⟨i, h3, h4, h5⟩ := sameTo_at f.runs.length q.toNat (by rw [sameTo_all]; exact h1)
        exact ⟨i, h3, h4, by rw [hv i h3 h4, h5]; exact decide_eq_false (by omega)⟩
  · rw [if_neg hk]
    have hv : ∀ i, i < f.runs.length → run f i = k → ver (partL f q set s) i = set.testBit k := fun i hi e => by
      rw [partL_ver hi]; unfold partB; rw [if_neg (by omega), e]
    constructor
    · rintro ⟨i, hi, e, hvi⟩
      exact ⟨by rw [← hv i hi e]; exact hvi, i, hi, e⟩
    · rintro ⟨h1, i, hi, e⟩
      exact ⟨i, hi, e, by rw [hv i hi e]; exact h1⟩
theorem talksP_part {f : FL} {q : Int} {set s : Nat} (hq : 1 ≤ q) (hs : set.testBit s = false) {d : List Bool} (h : IsSt f d (fun k => set.testBit k) s q.toNat) : talksP f q set s = !(firstBad f d).isSome := by
  unfold talksP
  rw [← bad_congr (pres_part hq hs h)]
  cases firstBad f (partL f q set s) <;> rfl
theorem talksP_set {f : FL} {q : Int} {set : Nat} (s : Nat) {d : List Bool} {A : Nat → Bool} (h : IsSt f d A s 0) (hA : ∀ k, A k = set.testBit k) : talksP f q set (-1) = !(firstBad f d).isSome := by
  unfold talksP
  have e : firstBad f (partL f q set (-1)) = firstBad f d := firstBad_congr fun i hi => by
    rw [(part_set s).2 i hi, h.2 i hi]
    unfold stB
    rw [hA]
  rw [e]
  cases firstBad f d <;> rfl
/-! ### The waves of a service -/
theorem chunks_nil {α : Type} (q n : Nat) : chunks q n ([] : List α) = [] := by cases n <;> rfl
theorem chunks_cons {α : Type} {q n : Nat} {l : List α} (h : l ≠ []) : chunks q (n + 1) l = l.take q :: chunks q n (l.drop q) := by
  conv => lhs; unfold chunks
  cases l with
  | nil => exact absurd rfl h
  | cons a l => rfl
theorem chunks_flat {α : Type} {q : Nat} (hq : 0 < q) : ∀ (n : Nat) (l : List α), l.length ≤ n → (chunks q n l).flatten = l
  | 0, l, h => by
    obtain rfl : l = [] := List.eq_nil_of_length_eq_zero (by omega)
    rfl
  | n + 1, l, h => by
    by_cases e : l = []
    · rw [e, chunks_nil]; rfl
    · rw [chunks_cons e, List.flatten_cons, chunks_flat hq n (l.drop q) (by rw [List.length_drop]; omega), List.take_append_drop]
theorem chunks_mem {α : Type} {q : Nat} (hq : 0 < q) : ∀ (n : Nat) (l c : List α), c ∈ chunks q n l → c ≠ [] ∧ c.length ≤ q ∧ c.Sublist l
  | 0, l, c, h => by cases h
  | n + 1, l, c, h => by
    by_cases e : l = []
    · rw [e, chunks_nil] at h; cases h
    · rw [chunks_cons e] at h
      rcases List.mem_cons.1 h with rfl | h
      · refine ⟨fun e2 => ?_, by rw [List.length_take]; omega, List.take_sublist _ _⟩
        have := congrArg List.length e2
        rw [List.length_take] at this
        have h3 : 0 < l.length := List.length_pos_iff.2 e
        simp at this
        rcases this with h4 | h4
        · omega
        · exact e h4
      · obtain ⟨h1, h2, h3⟩ := chunks_mem hq n _ c h
        exact ⟨h1, h2, h3.trans (List.drop_sublist _ _)⟩
theorem oneF_flat {f : FL} {s : Nat} {q : Int} {h : List Int} (hq : 1 ≤ q) : ((oneF f s q h).map (·.ms)).flatten = machines f s := by
  unfold oneF
  rw [List.map_map]
  show ((chunks q.toNat _ _).map id).flatten = _
  rw [List.map_id, chunks_flat (by omega) _ _ (Nat.le_refl _)]
theorem oneF_mem {f : FL} {s : Nat} {q : Int} {h : List Int} (hq : 1 ≤ q) {w : Wave} (hw : w ∈ oneF f s q h) : w.ms ≠ [] ∧ (w.ms.length : Int) ≤ q ∧ w.ms.Sublist (machines f s) ∧ w.after = h.getD s 0 := by
  unfold oneF at hw
  obtain ⟨c, hc, rfl⟩ := List.mem_map.1 hw
  obtain ⟨h1, h2, h3⟩ := chunks_mem (by omega) _ _ c hc
  exact ⟨h1, by show (c.length : Int) ≤ q; omega, h3, rfl⟩
theorem getD_hold {h : List Int} (hh : holdsOk h = true) (s : Nat) : 0 ≤ h.getD s 0 ∧ h.getD s 0 ≤ maxTime := by
  by_cases e : s < h.length
  · rw [gD e]
    have := List.all_eq_true.1 hh _ (List.getElem_mem e)
    simpa using this
  · rw [List.getD_eq_getElem?_getD, List.getElem?_eq_none (by omega)]
    show (0 : Int) ≤ 0 ∧ (0 : Int) ≤ maxTime
    unfold maxTime; omega
theorem waveOk_one {f : FL} {s : Nat} {q : Int} {h : List Int} (hq : 1 ≤ q) (hh : holdsOk h = true) {w : Wave} (hw : w ∈ oneF f s q h) : waveOk f.runs.length w = true := by
  obtain ⟨h1, h2, h3, h4⟩ := oneF_mem hq hw
  unfold waveOk
  have h5 := getD_hold hh s
  rw [h4, decide_eq_true h5.1, decide_eq_true h5.2, pw_asc ((machines_asc f s).sublist h3)]
  have h6 : w.ms.isEmpty = false := by cases e : w.ms with | nil => exact absurd e h1 | cons a l => rfl
  rw [h6]
  have h7 : w.ms.all (inR f.runs.length) = true := List.all_eq_true.2 fun x hx => by
    obtain ⟨i, rfl, hi, _⟩ := machines_nat (h3.subset hx)
    exact inR_iff.2 ⟨by omega, by omega⟩
  rw [h7]; rfl
theorem wavesOf_flat {f : FL} {q : Int} {h : List Int} (hq : 1 ≤ q) (o : List Nat) : ((wavesOf f q h o).map (·.ms)).flatten = (o.map (machines f)).flatten := by
  unfold wavesOf
  induction o with
  | nil => rfl
  | cons s o ih => rw [List.map_cons, List.flatten_cons, List.map_append, List.flatten_append, oneF_flat hq, ih, List.map_cons, List.flatten_cons]
theorem formedW_of {f : FL} {q : Int} {h : List Int} (hq : 1 ≤ q) (hh : holdsOk h = true) {o : List Nat} (ho : o.Nodup) : formedW f (wavesOf f q h o) = true := by
  unfold formedW
  rw [wavesOf_flat hq]
  rw [Bool.and_eq_true]
  refine ⟨List.all_eq_true.2 fun w hw => ?_, decide_eq_true ?_⟩
  · unfold wavesOf at hw
    obtain ⟨l, hl, hw⟩ := List.mem_flatten.1 hw
    obtain ⟨s, _, rfl⟩ := List.mem_map.1 hl
    exact waveOk_one hq hh hw
  · induction o with
    | nil => exact List.nodup_nil
    | cons s o ih =>
      rw [List.map_cons, List.flatten_cons, List.nodup_append]
      refine ⟨pw_nodup (machines_asc f s), ih (List.nodup_cons.1 ho).2, fun x hx y hy e => ?_⟩
      subst e
      obtain ⟨l, hl, hy⟩ := List.mem_flatten.1 hy
      obtain ⟨s', hs', rfl⟩ := List.mem_map.1 hl
      obtain ⟨i, e1, _, e2⟩ := machines_nat hx
      obtain ⟨j, e3, _, e4⟩ := machines_nat hy
      have : i = j := by omega
      subst this
      exact (List.nodup_cons.1 ho).1 (by rw [← e2, e4]; exact hs')
/-! ### One service after the others -/
theorem runL_app {f : FL} {q : Int} {h : List Int} : ∀ {w1 w2 : List Wave} {d : List Bool} {mo m : List Int}, runL f q h w1 d mo = (m, 0) → runL f q h (w1 ++ w2) d mo = runL f q h w2 (stAt d w1 w1.length) m
  | [], w2, d, mo, m, e => by
    unfold runL at e
    injection e with e1 e2
    subst e1
    rfl
  | w :: r, w2, d, mo, m, e => by
    rw [List.cons_append]
    unfold runL at e
    conv => lhs; unfold runL
    split at e
    · injection e with e1 e2; cases e2
    · rename_i h1
      rw [if_neg h1]
      split at e
      · injection e with e1 e2; cases e2
      · rename_i h2
        rw [if_neg h2]
        split at e
        · injection e with e1 e2; cases e2
        · rename_i h3
          rw [if_neg h3, runL_app e]
          congr 1
theorem runL_bad {f : FL} {q : Int} {h : List Int} : ∀ {w1 w2 : List Wave} {d : List Bool} {mo m : List Int}, runL f q h (w1 ++ w2) d mo = (m, 0) → ∃ m', runL f q h w1 d mo = (m', 0)
  | w1, w2, d, mo, m, e => by
    have := runL_take w1.length e (by rw [List.length_append]; omega)
    rw [List.take_left' rfl] at this
    exact ⟨_, this⟩
theorem held_no {f : FL} {h : List Int} {s : Nat} {w : Wave} {mo : List Int} (h1 : w.ms.Sublist (machines f s)) (h2 : w.after = h.getD s 0) : (w.ms.any fun m => held h (run f m.toNat) (nowOf w mo)) = false := by
  rw [List.any_eq_false]
  intro x hx
  obtain ⟨i, rfl, hi, hr⟩ := machines_nat (h1.subset hx)
  have h3 := nowOf_le w mo
  rw [h2] at h3
  unfold held
  rw [show ((i : Int).toNat) = i by omega, hr, decide_eq_false (show ¬ nowOf w mo < h.getD s 0 by omega)]
  simp
/-- The waves of one service, from a state in which the first c of its machines have changed. -/
theorem runL_one {f : FL} {q : Int} {h : List Int} {s : Nat} {A : Nat → Bool} (hq : 1 ≤ q) (hA : A s = false) : ∀ (n c : Nat) (l : List Int), l = (machines f s).drop c → l.length ≤ n → ∀ {d : List Bool}, IsSt f d A s c → ∀ mo,
    (runL f q h ((chunks q.toNat n l).map fun l => (⟨l, h.getD s 0⟩ : Wave)) d mo).2 = 0 ↔ ∀ c', c < c' → c < (machines f s).length → (c' = c + q.toNat ∨ c' = (machines f s).length) → ∀ d', IsSt f d' A s c' → (firstBad f d').isSome = false
  | 0, c, l, e, hl, d, hd, mo => by
    have : ¬ c < (machines f s).length := by rw [e, List.length_drop] at hl; omega
    exact ⟨fun _ c' _ h1 => absurd h1 this, fun _ => rfl⟩
  | n + 1, c, l, e, hl, d, hd, mo => by
    by_cases hc : c < (machines f s).length
    · have hne : l ≠ [] := fun e2 => by
        rw [e2] at e
        have := congrArg List.length e
        rw [List.length_drop] at this
        simp at this
        omega
      rw [chunks_cons hne, List.map_cons]
      unfold runL
      have hsub : (l.take q.toNat).Sublist (machines f s) := (List.take_sublist _ _).trans (by rw [e]; exact List.drop_sublist _ _)
      have h1 : ¬ q < ((⟨l.take q.toNat, h.getD s 0⟩ : Wave).ms.length : Int) := by
        show ¬ q < ((l.take q.toNat).length : Int)
        rw [List.length_take]; omega
      rw [if_neg h1]
      have h2 := held_no (f := f) (h := h) (s := s) (w := ⟨l.take q.toNat, h.getD s 0⟩) (mo := mo) hsub rfl
      rw [if_neg (by rw [h2]; simp)]
      have hd2 : IsSt f (setAll d (l.take q.toNat)) A s (c + q.toNat) := by rw [e]; exact isSt_next hd
      by_cases hb : (firstBad f (setAll d (l.take q.toNat))).isSome = true
      · rw [if_pos hb]
        constructor
        · intro h3; cases h3
        · intro h3
          have := h3 (c + q.toNat) (by omega) hc (Or.inl rfl) _ hd2
          rw [hb] at this; cases this
      · rw [if_neg hb]
        have hb2 : (firstBad f (setAll d (l.take q.toNat))).isSome = false := by simpa using hb
        rw [runL_one hq hA n (c + q.toNat) (l.drop q.toNat) (by rw [e, List.drop_drop]) (by rw [List.length_drop]; omega) hd2]
        constructor
        · intro h3 c' h4 h5 h6 d' h7
          rcases h6 with h6 | h6
          · subst h6
            rw [bad_st h7 hd2 hA Iff.rfl Iff.rfl]; exact hb2
          · by_cases h8 : c + q.toNat < (machines f s).length
            · exact h3 c' (by omega) h8 (Or.inr h6) d' h7
            · rw [bad_st h7 hd2 hA (by omega) (by omega)]; exact hb2
        · intro h3 c' h4 h5 h6 d' h7
          rcases h6 with h6 | h6
          · by_cases h8 : c' < (machines f s).length
            · rw [bad_st h7 hd2 hA (by omega) (by omega)]; exact hb2
            · obtain ⟨d9, h9⟩ : ∃ d9, IsSt f d9 A s (machines f s).length := ⟨(List.range f.runs.length).map (stB f A s (machines f s).length), by rw [List.length_map, List.length_range], fun i hi => by
                unfold ver
                rw [gD (by rw [List.length_map, List.length_range]; exact hi), List.getElem_map, List.getElem_range]⟩
              rw [bad_st h7 h9 hA (by omega) (by omega)]
              exact h3 _ (by omega) hc (Or.inr rfl) d9 h9
          · exact h3 c' (by omega) hc (Or.inr h6) d' h7
    · have hn : l = [] := List.eq_nil_of_length_eq_zero (by rw [e, List.length_drop]; omega)
      rw [hn, chunks_nil]
      exact ⟨fun _ c' _ h1 => absurd h1 hc, fun _ => rfl⟩
theorem st_ex (f : FL) (A : Nat → Bool) (s c : Nat) : ∃ d, IsSt f d A s c := ⟨(List.range f.runs.length).map (stB f A s c), by rw [List.length_map, List.length_range], fun i hi => by
  unfold ver
  rw [gD (by rw [List.length_map, List.length_range]; exact hi), List.getElem_map, List.getElem_range]⟩
/-- The set of an order. -/
def setOf (o : List Nat) : Nat := o.foldl (fun a s => a ||| 1 <<< s) 0
theorem setOf_snoc (o : List Nat) (s : Nat) : setOf (o ++ [s]) = setOf o ||| 1 <<< s := by unfold setOf; rw [List.foldl_append]; rfl
theorem setOf_bit : ∀ (o : List Nat) (k a : Nat), (o.foldl (fun a s => a ||| 1 <<< s) a).testBit k = (a.testBit k || decide (k ∈ o))
  | [], k, a => by simp
  | s :: o, k, a => by
    rw [List.foldl_cons, setOf_bit o k, testBit_with, Bool.or_assoc]
    congr 1
    by_cases h : s = k
    · simp [h]
    · have : ¬ k = s := fun e => h e.symm
      simp [h, this]
theorem setOf_mem (o : List Nat) (k : Nat) : (setOf o).testBit k = decide (k ∈ o) := by unfold setOf; rw [setOf_bit]; simp
theorem isSt_service {f : FL} {q : Int} {h : List Int} (hq : 1 ≤ q) {d : List Bool} {A : Nat → Bool} {s : Nat} (hd : IsSt f d A s 0) : IsSt f (setAll d (machines f s)) A s (machines f s).length := by
  have := isSt_next (n := (machines f s).length) hd
  rw [List.drop_zero, List.take_length, Nat.zero_add] at this
  exact this
theorem setAll_app (d : List Bool) (a b : List Int) : setAll d (a ++ b) = setAll (setAll d a) b := by unfold setAll; rw [List.foldl_append]
theorem stAt_flat (d : List Bool) : ∀ (ws : List Wave), stAt d ws ws.length = setAll d ((ws.map (·.ms)).flatten)
  | [] => by rw [List.length_nil, stAt_zero]; rfl
  | w :: r => by
    unfold stAt
    rw [List.take_length, List.foldl_cons, List.map_cons, List.flatten_cons, setAll_app]
    have := stAt_flat (setAll d w.ms) r
    unfold stAt at this
    rw [List.take_length] at this
    exact this
theorem isSt_order {f : FL} {q : Int} {h : List Int} (hq : 1 ≤ q) (s' : Nat) : ∀ (o : List Nat) {A : Nat → Bool} {d : List Bool}, IsSt f d A s' 0 → (∀ s ∈ o, A s = false) → o.Nodup →
    IsSt f (stAt d (wavesOf f q h o) (wavesOf f q h o).length) (fun k => A k || decide (k ∈ o)) s' 0
  | [], A, d, hd, _, _ => by
    rw [show wavesOf f q h [] = [] from rfl, List.length_nil, stAt_zero]
    simp only [List.not_mem_nil, decide_false, Bool.or_false]
    exact hd
  | s :: o, A, d, hd, hA, ho => by
    have h0 : IsSt f d A s 0 := ⟨hd.1, fun i hi => by rw [hd.2 i hi]; unfold stB; rw [List.take_zero, List.take_zero]⟩
    have h1 := isSt_all (Nat.le_refl _) (isSt_service (q := q) (h := h) hq h0) s'
    rw [stAt_flat, wavesOf_flat hq, List.map_cons, List.flatten_cons, setAll_app]
    have h2 := isSt_order hq (h := h) s' o h1 (fun k hk => by
      rw [hA k (List.mem_cons_of_mem _ hk)]
      have : ¬ k = s := fun e => (List.nodup_cons.1 ho).1 (e ▸ hk)
      simp [this]) (List.nodup_cons.1 ho).2
    rw [stAt_flat, wavesOf_flat hq] at h2
    refine ⟨h2.1, fun i hi => ?_⟩
    rw [h2.2 i hi]
    unfold stB
    simp [List.mem_cons, Bool.or_assoc]
/-- An order runs through. -/
def okO (f : FL) (q : Int) (h : List Int) (o : List Nat) : Bool := decide ((runF f (wavesOf f q h o) q h).2 = 0)
theorem used_iff {f : FL} {s : Nat} : (allBits f).testBit s = true ↔ ∃ i, i < f.runs.length ∧ run f i = s := by
  unfold allBits
  have key : ∀ n a, ((List.range n).foldl (fun a i => a ||| 1 <<< run f i) a).testBit s = (a.testBit s || decide (∃ i, i < n ∧ run f i = s)) := by
    intro n
    induction n with
    | zero => intro a; simp
    | succ n ih =>
      intro a
      rw [List.range_succ, List.foldl_append, List.foldl_cons, List.foldl_nil, testBit_with, ih, Bool.or_assoc]
      congr 1
      apply Bool.eq_iff_iff.2
      rw [Bool.or_eq_true, decide_eq_true_iff, decide_eq_true_iff, decide_eq_true_iff]
      constructor
      · rintro (⟨i, hi, e⟩ | e)
        · exact ⟨i, by omega, e⟩
        · exact ⟨n, by omega, e⟩
      · rintro ⟨i, hi, e⟩
        by_cases h : i = n
        · exact Or.inr (h ▸ e)
        · exact Or.inl ⟨i, by omega, e⟩
  rw [key]
  simp
theorem used_len {f : FL} {s : Nat} (h : (allBits f).testBit s = true) : 0 < (machines f s).length := by
  obtain ⟨i, hi, e⟩ := used_iff.1 h
  exact List.length_pos_of_mem (mem_machines.2 ⟨hi, e⟩)
theorem okO_nil {f : FL} {q : Int} {h : List Int} (hr : right f = true) (hq : 1 ≤ q) : okO f q h [] = talksP f q 0 (-1) := by
  unfold okO runF
  rw [if_pos ⟨hr, hq, rfl⟩]
  unfold runG
  rw [talksP_set (f := f) (q := q) (set := 0) 0 (isSt_none f 0) (by simp)]
  cases firstBad f (none_ f) with
  | none => rfl
  | some p => rfl
theorem pair_eq {α β : Type} {p : α × β} {b : β} (h : p.2 = b) : p = (p.1, b) := by cases p; cases h; rfl
/-- One service more. -/
theorem okO_snoc {f : FL} {q : Int} {h : List Int} (hr : right f = true) (hq : 1 ≤ q) (hh : holdsOk h = true) {o : List Nat} {s : Nat} (ho : (o ++ [s]).Nodup) (hu : (allBits f).testBit s = true) :
    okO f q h (o ++ [s]) = (okO f q h o && mayNext f q (setOf o) s) := by
  have ho1 : o.Nodup := (List.nodup_append.1 ho).1
  have hso : ¬ s ∈ o := fun hm => (List.nodup_append.1 ho).2.2 s hm s (by simp) rfl
  have hF1 := formedW_of (f := f) hq hh ho1
  have hF2 := formedW_of (f := f) hq hh ho
  have hws : wavesOf f q h (o ++ [s]) = wavesOf f q h o ++ oneF f s q h := by unfold wavesOf; rw [List.map_append, List.flatten_append]; simp
  unfold okO runF
  rw [if_pos ⟨hr, hq, hF2⟩, if_pos ⟨hr, hq, hF1⟩, hws]
  unfold runG
  cases hb : (firstBad f (none_ f)).isSome with
  | true => rw [if_pos rfl, if_pos rfl]; rfl
  | false =>
    rw [if_neg (by simp), if_neg (by simp)]
    by_cases h1 : (runL f q h (wavesOf f q h o) (none_ f) []).2 = 0
    · have e1 := pair_eq h1
      rw [runL_app e1, decide_eq_true h1, Bool.true_and]
      have hst := isSt_order (f := f) (q := q) (h := h) hq s o (isSt_none f s) (fun _ _ => rfl) ho1
      have hst' : IsSt f (stAt (none_ f) (wavesOf f q h o) (wavesOf f q h o).length) (fun k => (setOf o).testBit k) s 0 := by
        refine ⟨hst.1, fun i hi => ?_⟩
        rw [hst.2 i hi]
        unfold stB
        simp [setOf_mem]
      have hA : (fun k => (setOf o).testBit k) s = false := by show (setOf o).testBit s = false; rw [setOf_mem]; exact decide_eq_false hso
      have hone := runL_one (f := f) (q := q) (h := h) (s := s) hq hA (machines f s).length 0 (machines f s) (List.drop_zero ..).symm (Nat.le_refl _) hst' (runL f q h (wavesOf f q h o) (none_ f) []).1
      have hpos := used_len hu
      obtain ⟨d1, hd1⟩ := st_ex f (fun k => (setOf o).testBit k) s q.toNat
      obtain ⟨d2, hd2⟩ := st_ex f (fun k => (setOf o).testBit k) s (machines f s).length
      have hA2 : (setOf o).testBit s = false := hA
      have t1 := talksP_part hq hA2 hd1
      have t2 := talksP_set (f := f) (q := q) (set := setOf o ||| 1 <<< s) 0 (isSt_all (Nat.le_refl _) hd2 0) (fun k => by
        rw [testBit_with]
        congr 1
        by_cases e : k = s
        · subst e; simp
        · have : ¬ s = k := fun h => e h.symm
          simp [e, this])
      have hmn : mayNext f q (setOf o) s = (!(firstBad f d1).isSome && !(firstBad f d2).isSome) := by
        unfold mayNext
        rw [hu, hA2, t1, t2]; rfl
      rw [hmn]
      apply Bool.eq_iff_iff.2
      rw [decide_eq_true_iff]
      refine Iff.trans hone ?_
      rw [Bool.and_eq_true, Bool.not_eq_true', Bool.not_eq_true']
      constructor
      · intro h3
        exact ⟨h3 q.toNat (by omega) hpos (Or.inl (by omega)) d1 hd1, h3 _ hpos hpos (Or.inr rfl) d2 hd2⟩
      · rintro ⟨h3, h4⟩ c' h5 h6 h7 d' h8
        rcases h7 with h7 | h7
        · rw [Nat.zero_add] at h7
          subst h7
          rw [bad_st h8 hd1 hA Iff.rfl Iff.rfl]; exact h3
        · subst h7
          rw [bad_st h8 hd2 hA Iff.rfl Iff.rfl]; exact h4
    · rw [decide_eq_false h1, Bool.false_and]
      refine decide_eq_false fun h2 => h1 ?_
      obtain ⟨m', hm'⟩ := runL_bad (pair_eq h2)
      rw [hm']
end Wv
end Go.Proofs.YtjlgmoemnhmgmaaGreatDoor
namespace Go.Proofs.YtjlgmoemnhmgmaaGreatDoor
set_option linter.unusedVariables false
set_option linter.unusedSimpArgs false

namespace Wv
/-- The services that are run and are not yet in an order. -/
def leftO (f : FL) (o : List Nat) : List Nat := (List.range f.old.length).filter fun s => (allBits f).testBit s && !decide (s ∈ o)
theorem left_mem {f : FL} {o : List Nat} {s : Nat} : s ∈ leftO f o ↔ s < f.old.length ∧ (allBits f).testBit s = true ∧ ¬ s ∈ o := by
  unfold leftO
  rw [List.mem_filter, List.mem_range]
  simp
theorem left_nodup (f : FL) (o : List Nat) : (leftO f o).Nodup := List.Pairwise.filter _ List.nodup_range
theorem left_erase {f : FL} {o : List Nat} {i : Nat} (h : i < (leftO f o).length) : (leftO f o).eraseIdx i = leftO f (o ++ [(leftO f o)[i]]) := by
  have h1 := List.erase_eq_eraseIdx_of_idxOf (List.Nodup.idxOf_getElem (left_nodup f o) i h)
  rw [← h1, List.Nodup.erase_eq_filter (left_nodup f o)]
  generalize (leftO f o)[i] = x
  unfold leftO
  rw [List.filter_filter]
  apply List.filter_congr
  intro s _
  by_cases e : s = x
  · subst e; simp
  · by_cases e2 : s ∈ o <;> simp [e, e2]
theorem used_lt {f : FL} (hr : Rg f) {s : Nat} (h : (allBits f).testBit s = true) : s < f.old.length := by
  obtain ⟨i, hi, rfl⟩ := used_iff.1 h
  exact (run_lt hr hi).1
theorem findSome_filter {α β : Type} {p : α → Bool} {g : α → Option β} : ∀ {l : List α}, (∀ x ∈ l, p x = false → g x = none) → (l.filter p).findSome? g = l.findSome? g
  | [], _ => rfl
  | a :: l, h => by
    have ih := findSome_filter (l := l) (fun x hx => h x (List.mem_cons_of_mem _ hx))
    rw [List.filter_cons]
    cases hp : p a with
    | true => rw [if_pos rfl, List.findSome?_cons, List.findSome?_cons, ih]
    | false => rw [if_neg (by simp), List.findSome?_cons, h a (List.mem_cons_self ..) hp, ih]
theorem set_all {f : FL} (hr : Rg f) {o : List Nat} (ho : ∀ s ∈ o, (allBits f).testBit s = true) : setOf o = allBits f ↔ leftO f o = [] := by
  constructor
  · intro e
    cases hl : leftO f o with
    | nil => rfl
    | cons a l =>
      have h1 : a ∈ leftO f o := by rw [hl]; exact List.mem_cons_self ..
      have h2 := left_mem.1 h1
      rw [← e, setOf_mem] at h2
      exact absurd (of_decide_eq_true h2.2.1) h2.2.2
  · intro e
    apply Nat.eq_of_testBit_eq
    intro k
    rw [setOf_mem]
    by_cases hk : k ∈ o
    · rw [decide_eq_true hk, ho k hk]
    · rw [decide_eq_false hk]
      cases hu : (allBits f).testBit k with
      | false => rfl
      | true =>
        have : k ∈ leftO f o := left_mem.2 ⟨used_lt hr hu, hu, hk⟩
        rw [e] at this; cases this
theorem next_left {f : FL} {q : Int} {o : List Nat} {s : Nat} (hs : s < f.old.length) (h : ((allBits f).testBit s && !decide (s ∈ o)) = false) : nextR f q (setOf o) s = none := by
  unfold nextR
  rw [if_neg]
  intro hm
  obtain ⟨h1, h2⟩ := mayNext_parts hm
  rw [setOf_mem] at h2
  rw [h1, h2] at h; cases h
/-- What may be put behind an order. -/
structure OkB (f : FL) (q : Int) (h : List Int) (o : List Nat) : Prop where
  ok : okO f q h o = true
  nd : o.Nodup
  used : ∀ s ∈ o, (allBits f).testBit s = true
theorem OkB.snoc {f : FL} {q : Int} {h : List Int} {o : List Nat} (b : OkB f q h o) (hr : right f = true) (hq : 1 ≤ q) (hh : holdsOk h = true) {s : Nat} (hs : s ∈ leftO f o) :
    (o ++ [s]).Nodup ∧ (∀ x ∈ o ++ [s], (allBits f).testBit x = true) ∧ okO f q h (o ++ [s]) = mayNext f q (setOf o) s := by
  obtain ⟨h1, h2, h3⟩ := left_mem.1 hs
  have hnd : (o ++ [s]).Nodup := by
    rw [List.nodup_append]
    refine ⟨b.nd, by simp, fun x hx y hy e => ?_⟩
    have : y = s := by simpa using hy
    subst this; subst e
    exact h3 hx
  refine ⟨hnd, fun x hx => ?_, ?_⟩
  · rcases List.mem_append.1 hx with h4 | h4
    · exact b.used x h4
    · have : x = s := by simpa using h4
      rw [this]; exact h2
  · rw [okO_snoc hr hq hh hnd h2, b.ok, Bool.true_and]
theorem rest_left {f : FL} (hr : Rg f) {q : Int} {h : List Int} {o : List Nat} (b : OkB f q h o) : restR f q (setOf o) = if leftO f o = [] then some [] else (leftO f o).findSome? (nextR f q (setOf o)) := by
  rw [restR_eq hr]
  by_cases he : leftO f o = []
  · rw [if_pos he, if_pos ((set_all hr b.used).2 he)]
  · rw [if_neg he, if_neg (fun e => he ((set_all hr b.used).1 e))]
    unfold leftO
    rw [findSome_filter (fun x hx hp => next_left (List.mem_range.1 hx) hp)]
    rfl
theorem plan_bad {f : FL} {q : Int} {h : List Int} (hr : right f = true) (hq : 1 ≤ q) (hh : holdsOk h = false) : planF f q h = ([], 1) := by
  unfold planF
  rw [if_neg (fun e => by rw [hh] at e; cases e.2.2)]
/-! ### The reference's search -/
def refP (f : FL) (q : Int) (h : List Int) : Nat → List Nat → Option (List Nat)
  | 0, _ => none
  | n + 1, o => if okO f q h o = false then none else
    match (List.range f.old.length).findSome? (fun s => if ((allBits f).testBit s && !decide (s ∈ o)) = true then refP f q h n (o ++ [s]) else none) with
    | some x => some x
    | none => if leftO f o = [] then some o else none
theorem ref_rest {f : FL} {q : Int} {h : List Int} (hr : right f = true) (hq : 1 ≤ q) (hh : holdsOk h = true) : ∀ (n : Nat) (o : List Nat), (leftO f o).length < n → OkB f q h o →
    refP f q h n o = (restR f q (setOf o)).map (o ++ ·)
  | 0, o, hl, b => by omega
  | n + 1, o, hl, b => by
    unfold refP
    rw [if_neg (by rw [b.ok]; simp), rest_left (rg_of hr) b]
    have h1 : (List.range f.old.length).findSome? (fun s => if ((allBits f).testBit s && !decide (s ∈ o)) = true then refP f q h n (o ++ [s]) else none) = (leftO f o).findSome? fun s => (nextR f q (setOf o) s).map (o ++ ·) := by
      unfold leftO
      rw [findSome_filter (fun x hx hp => by rw [next_left (List.mem_range.1 hx) hp]; rfl)]
      refine findSome_congrW fun s hs => ?_
      by_cases hp : ((allBits f).testBit s && !decide (s ∈ o)) = true
      · rw [if_pos hp]
        have hsl : s ∈ leftO f o := List.mem_filter.2 ⟨hs, hp⟩
        obtain ⟨s1, s2, s3⟩ := b.snoc hr hq hh hsl
        unfold nextR
        by_cases hm : mayNext f q (setOf o) s = true
        · rw [if_pos hm]
          have b2 : OkB f q h (o ++ [s]) := ⟨by rw [s3]; exact hm, s1, s2⟩
          obtain ⟨i, hi, e⟩ := List.mem_iff_getElem.1 hsl
          have hlen : (leftO f (o ++ [s])).length < n := by
            rw [← e, ← left_erase hi, List.length_eraseIdx_of_lt hi]; omega
          rw [ref_rest hr hq hh n (o ++ [s]) hlen b2, setOf_snoc, Option.map_map]
          congr 1
          funext l
          show (o ++ [s]) ++ l = o ++ s :: l
          rw [List.append_assoc]; rfl
        · rw [if_neg hm]
          cases n with
          | zero => rfl
          | succ n =>
            unfold refP
            rw [if_pos (by rw [s3]; simpa using hm)]; rfl
      · rw [if_neg hp, next_left (List.mem_range.1 hs) (by simpa using hp)]; rfl
    rw [h1]
    by_cases e : leftO f o = []
    · rw [e, if_pos rfl]
      show some o = some (o ++ [])
      rw [List.append_nil]
    · rw [if_neg e, if_neg e]
      have h2 : (leftO f o).findSome? (fun s => (nextR f q (setOf o) s).map (o ++ ·)) = ((leftO f o).findSome? (nextR f q (setOf o))).map (o ++ ·) := by
        rw [List.map_findSome?]; rfl
      rw [h2]
      cases (leftO f o).findSome? (nextR f q (setOf o)) with
      | none => rfl
      | some x => rfl
/-- What the reference's Plan answers. -/
theorem ref_plan {f : FL} {q : Int} {h : List Int} (hr : right f = true) (hq : 1 ≤ q) (hh : holdsOk h = true) {n : Nat} (hn : f.old.length < n) : planF f q h = planRes f q h (refP f q h n []) := by
  rw [planF_eq, if_pos ⟨hr, hq, hh⟩, planP_eq]
  congr 1
  by_cases ht : talksP f q 0 (-1) = true
  · rw [if_pos ht]
    have b : OkB f q h [] := ⟨by rw [okO_nil hr hq]; exact ht, List.nodup_nil, fun s hs => by cases hs⟩
    have hl : (leftO f []).length < n := by
      have := List.length_filter_le (fun s => (allBits f).testBit s && !decide (s ∈ ([] : List Nat))) (List.range f.old.length)
      rw [List.length_range] at this
      exact Nat.lt_of_le_of_lt this hn
    rw [ref_rest hr hq hh n [] hl b]
    show restR f q 0 = _
    have e : (fun x : List Nat => [] ++ x) = id := rfl
    rw [e, Option.map_id]; rfl
  · rw [if_neg ht]
    cases n with
    | zero => omega
    | succ n =>
      unfold refP
      rw [if_pos (by rw [okO_nil hr hq]; simpa using ht)]
end Wv
end Go.Proofs.YtjlgmoemnhmgmaaGreatDoor
namespace Go.Proofs.YtjlgmoemnhmgmaaGreatDoor
open Go.RowKit
set_option linter.unusedVariables false
set_option linter.unusedSimpArgs false
attribute [local irreducible] Calls
open Fm (Ty Vl Str)
open Wv (Svc FL)

namespace Wv
theorem chunks_fuel {α : Type} {q : Nat} (hq : 0 < q) : ∀ (n m : Nat) (L : List α), L.length ≤ n → L.length ≤ m → chunks q n L = chunks q m L
  | 0, m, L, h1, h2 => by
    obtain rfl : L = [] := List.eq_nil_of_length_eq_zero (by omega)
    rw [chunks_nil, chunks_nil]
  | n + 1, 0, L, h1, h2 => by
    obtain rfl : L = [] := List.eq_nil_of_length_eq_zero (by omega)
    rw [chunks_nil, chunks_nil]
  | n + 1, m + 1, L, h1, h2 => by
    by_cases e : L = []
    · rw [e, chunks_nil, chunks_nil]
    · rw [chunks_cons e, chunks_cons e, chunks_fuel hq n m (L.drop q) (by rw [List.length_drop]; omega) (by rw [List.length_drop]; omega)]
def chq {α : Type} (q : Nat) (L : List α) : List (List α) := chunks q L.length L
theorem chq_nil {α : Type} (q : Nat) : chq q ([] : List α) = [] := rfl
theorem chq_cons {α : Type} {q : Nat} (hq : 0 < q) {L : List α} (h : L ≠ []) : chq q L = L.take q :: chq q (L.drop q) := by
  unfold chq
  cases hl : L.length with
  | zero => exact absurd (List.eq_nil_of_length_eq_zero hl) h
  | succ n => rw [chunks_cons h, chunks_fuel hq n (L.drop q).length (L.drop q) (by rw [List.length_drop]; omega) (Nat.le_refl _)]
theorem chq_new {α : Type} {q : Nat} (hq : 0 < q) (x : α) : ∀ (n : Nat) (L : List α), L.length ≤ n → L.length % q = 0 → chq q (L ++ [x]) = chq q L ++ [[x]]
  | n, [], _, _ => by
    rw [chq_nil, List.nil_append, chq_cons hq (by simp), List.take_of_length_le (by simp; omega), List.drop_of_length_le (by simp; omega), chq_nil]; rfl
  | 0, a :: L, h, _ => by simp at h
  | n + 1, a :: L, h, hm => by
    have hl : q ≤ (a :: L).length := by
      rcases Nat.lt_or_ge (a :: L).length q with h1 | h1
      · rw [Nat.mod_eq_of_lt h1] at hm; simp at hm
      · exact h1
    rw [chq_cons hq (by simp), chq_cons (L := a :: L) hq (by simp), List.take_append_of_le_length hl, List.drop_append_of_le_length hl, chq_new hq x n _ (by rw [List.length_drop]; omega) (by
      rw [List.length_drop, ← Nat.mod_eq_sub_mod hl]; exact hm)]
    rfl
theorem chq_more {α : Type} {q : Nat} (hq : 0 < q) (x : α) : ∀ (n : Nat) (L : List α), L.length ≤ n → ¬ L.length % q = 0 → ∃ init l, chq q L = init ++ [l] ∧ chq q (L ++ [x]) = init ++ [l ++ [x]]
  | n, [], _, hm => by simp at hm
  | 0, a :: L, h, _ => by simp at h
  | n + 1, a :: L, h, hm => by
    rcases Nat.lt_or_ge (a :: L).length q with h1 | h1
    · refine ⟨[], a :: L, ?_, ?_⟩
      · rw [chq_cons hq (by simp), List.take_of_length_le (by omega), List.drop_of_length_le (by omega), chq_nil]; rfl
      · rw [chq_cons hq (by simp), List.take_of_length_le (by rw [List.length_append]; simp at h1 ⊢; omega), List.drop_of_length_le (by rw [List.length_append]; simp at h1 ⊢; omega), chq_nil]; rfl
    · obtain ⟨init, l, e1, e2⟩ := chq_more hq x n ((a :: L).drop q) (by rw [List.length_drop]; omega) (by rw [List.length_drop, ← Nat.mod_eq_sub_mod h1]; exact hm)
      refine ⟨(a :: L).take q :: init, l, ?_, ?_⟩
      · rw [chq_cons hq (by simp), e1]; rfl
      · rw [chq_cons hq (by simp), List.take_append_of_le_length h1, List.drop_append_of_le_length h1, e2]; rfl
def oneTo (f : FL) (s : Nat) (q : Nat) (a : Int) (i : Nat) : List Wave := (chq q (machTo f s i)).map fun l => ⟨l, a⟩
theorem chq_len {α : Type} (q : Nat) : ∀ (n : Nat) (L : List α), (chunks q n L).length ≤ n
  | 0, L => Nat.le_refl _
  | n + 1, L => by
    unfold chunks
    split
    · exact Nat.zero_le _
    · rw [List.length_cons]; have := chq_len q n (L.drop q); omega
theorem oneTo_len (f : FL) (s q : Nat) (a : Int) (i : Nat) : (oneTo f s q a i).length ≤ i := by
  unfold oneTo
  rw [List.length_map]
  exact Nat.le_trans (chq_len q _ _) (machTo_len f s i)
theorem oneTo_all (f : FL) (s : Nat) (q : Int) (h : List Int) : oneTo f s q.toNat (h.getD s 0) f.runs.length = oneF f s q h := rfl
theorem oneTo_skip {f : FL} {s : Nat} {q : Nat} {a : Int} {i : Nat} (h : ¬ run f i = s) : oneTo f s q a (i + 1) = oneTo f s q a i ∧ machTo f s (i + 1) = machTo f s i := by
  have e := machTo_succ f s i
  rw [if_neg h, List.append_nil] at e
  exact ⟨by unfold oneTo; rw [e], e⟩
theorem oneTo_new {f : FL} {s : Nat} {q : Nat} (hq : 0 < q) {a : Int} {i : Nat} (h : run f i = s) (hm : (machTo f s i).length % q = 0) : oneTo f s q a (i + 1) = oneTo f s q a i ++ [⟨[(i : Int)], a⟩] := by
  unfold oneTo
  rw [machTo_succ, if_pos h, chq_new hq _ _ _ (Nat.le_refl _) hm, List.map_append]; rfl
theorem oneTo_more {f : FL} {s : Nat} {q : Nat} (hq : 0 < q) {a : Int} {i : Nat} (h : run f i = s) (hm : ¬ (machTo f s i).length % q = 0) : ∃ init l, oneTo f s q a i = init ++ [⟨l, a⟩] ∧ oneTo f s q a (i + 1) = init ++ [⟨l ++ [(i : Int)], a⟩] ∧ l.length ≤ i := by
  obtain ⟨init, l, e1, e2⟩ := chq_more hq (i : Int) _ (machTo f s i) (Nat.le_refl _) hm
  refine ⟨init.map fun l => ⟨l, a⟩, l, ?_, ?_, ?_⟩
  · unfold oneTo; rw [e1, List.map_append]; rfl
  · unfold oneTo; rw [machTo_succ, if_pos h, e2, List.map_append]; rfl
  · have hm : l ∈ chq q (machTo f s i) := by rw [e1]; simp
    exact Nat.le_trans (chunks_mem hq _ _ _ hm).2.2.length_le (machTo_len f s i)
theorem machTo_one {f : FL} {s i : Nat} (h : run f i = s) : (machTo f s (i + 1)).length = (machTo f s i).length + 1 := by
  rw [machTo_succ, if_pos h, List.length_append]; rfl
end Wv
/-- The waves so far: the last one's machines lie in a block of their own, behind those of the others. -/
def cwV (c : CW) : Value := .slice c.1 c.2.2.ms.length c.2.1
structure OneS (B : Nat) (w : World) (v : Value) (C : List CW) : Prop where
  row : w.ownsRow B tWv 2 v C.length (C.map wvc).flatten
  last : C = [] ∨ ∃ C0 l N, C = C0 ++ [l] ∧ (∀ c ∈ C0, c.own B w ∧ ∀ k, (cwV c).ownBlock = some k → k < N) ∧ l.own N w ∧ B ≤ N ∧ N ≤ w.heap.size
theorem OneS.done {B : Nat} {w : World} {v : Value} {C : List CW} (h : OneS B w v C) {ws : List Wv.Wave} (e : C.map (·.2.2) = ws) : WvO B w v ws := by
  refine ⟨C, e, h.row, fun c hc => ?_⟩
  rcases h.last with rfl | ⟨C0, l, N, rfl, h1, h2, h3, _⟩
  · cases hc
  · rcases List.mem_append.1 hc with hc | hc
    · exact (h1 c hc).1
    · rw [List.mem_singleton.1 hc]
      exact ⟨owns_base h2.1 h3, h2.2⟩
theorem OneS.all {B : Nat} {w : World} {v : Value} {C : List CW} (h : OneS B w v C) : ∀ c ∈ C, c.own B w := fun c hc => by
  obtain ⟨C', e1, _, _⟩ := h.done rfl
  rcases h.last with rfl | ⟨C0, l, N, rfl, h1, h2, h3, _⟩
  · cases hc
  · rcases List.mem_append.1 hc with hc | hc
    · exact (h1 c hc).1
    · rw [List.mem_singleton.1 hc]
      exact ⟨owns_base h2.1 h3, h2.2⟩
theorem cw_upd {B : Nat} {S : Nat → Prop} {w w' : World} {c : CW} (h : c.own B w) (u : Upd S w w') (hs : ∀ k, (cwV c).ownBlock = some k → ¬ S k) : c.own B w' := ⟨owns_upd' h.1 u hs, h.2⟩
/-- A wave more, without machines. -/
theorem OneS.new {B : Nat} {w w1 w9 : World} {v v' : Value} {C : List CW} {a : Int} (h : OneS B w v C) (u1 : Nw w w1) (u9 : Upd (fun k => v.ownBlock = some k) w1 w9)
    (hr : w9.ownsRow B tWv 2 v' (C.length + 1) ((C.map wvc).flatten ++ [.slice none 0 0, .int .i64 a])) (hB : B ≤ w.heap.size) : OneS B w9 v' (C ++ [(none, 0, ⟨[], a⟩)]) := by
  have hrow1 := owns_upd' h.row u1 (fun _ _ e => e)
  refine ⟨?_, Or.inr ⟨C, _, w1.heap.size, rfl, fun c hc => ?_, ⟨World.ownsRow_nil _ _ _ _, Nat.zero_le _⟩, Nat.le_trans hB u1.size, u9.size⟩⟩
  · rw [List.length_append, List.map_append, List.flatten_append]
    exact hr
  · have h1 := cw_upd (h.all c hc) u1 (fun _ _ e => e)
    refine ⟨cw_upd h1 u9 (fun k hk e => ?_), fun k hk => ?_⟩
    · obtain ⟨_, c1, q1⟩ := own_block h1.1 hk
      obtain ⟨_, c2, q2⟩ := own_block hrow1 e
      rw [q1] at q2
      injection q2 with q2
      injection q2 with _ q2
      exact absurd q2 (by decide)
    · obtain ⟨_, c1, q1⟩ := own_block h1.1 hk
      exact (Array.getElem?_eq_some_iff.1 q1).1
/-- A machine more in the last wave: the row of the machines has grown, and is stored. -/
theorem OneS.more {B g cap N : Nat} {w w1 w9 : World} {C0 : List CW} {l : CW} {v' : Value} {x : Int} (hC : OneS B w (.slice (some ⟨g, 0, none⟩) (C0.length + 1) cap) (C0 ++ [l]))
    (h0 : ∀ c ∈ C0, c.own B w ∧ ∀ k, (cwV c).ownBlock = some k → k < N) (hl : l.own N w) (hBN : B ≤ N) (hN : N ≤ w.heap.size) (u1 : Nw w w1) (u9 : Upd (fun k => (cwV l).ownBlock = some k) w1 w9)
    (hr : w9.ownsRow N 3 1 v' (l.2.2.ms.length + 1) (l.2.2.ms.map (Value.int .i64) ++ [.int .i64 x])) (hnG : nG ≤ B) (h9 : l.2.2.ms.length + 1 ≤ 100000) :
    ∃ l' : CW, l'.2.2 = ⟨l.2.2.ms ++ [x], l.2.2.after⟩ ∧ cwV l' = v' ∧ OneS B (w9.setCell ⟨g, C0.length * 2, none⟩ v') (.slice (some ⟨g, 0, none⟩) (C0.length + 1) cap) (C0 ++ [l']) ∧ Upd (fun k => k = g ∨ (cwV l).ownBlock = some k) w1 (w9.setCell ⟨g, C0.length * 2, none⟩ v') := by
  have hrow := hC.row
  rw [List.length_append] at hrow
  have hlen0 : ∀ C : List CW, (C.map wvc).flatten.length = C.length * 2 := fun C => by
    induction C with
    | nil => rfl
    | cons c C ih => rw [List.map_cons, List.flatten_cons, List.length_append, ih, List.length_cons]; show 2 + _ = _; omega
  have hrow1 := owns_upd' hrow u1 (fun _ _ e => e)
  have hl1 := cw_upd hl u1 (fun _ _ e => e)
  have hg9 : ¬ (cwV l).ownBlock = some g := fun e => by
    obtain ⟨_, c1, q1⟩ := own_block hl1.1 e
    obtain ⟨_, c2, q2⟩ := own_block hrow1 (k := g) rfl
    rw [q1] at q2
    injection q2 with q2
    injection q2 with _ q2
    exact absurd q2 (by decide)
  have hrow9 : w9.ownsRow B tWv 2 (.slice (some ⟨g, 0, none⟩) (C0.length + 1) cap) (C0.length + 1) ((C0 ++ [l]).map wvc).flatten := owns_upd' hrow1 u9 (fun k hk e => by
    obtain rfl : g = k := by simpa [Value.ownBlock] using hk
    exact hg9 e)
  obtain ⟨a', c', rfl⟩ := own_slW hr
  have hst := (hrow9.stored (C0.length * 2) (.slice a' (l.2.2.ms.length + 1) c')).1
  have u10 : Upd (fun k => k = g) w9 (w9.setCell ⟨g, C0.length * 2, none⟩ (.slice a' (l.2.2.ms.length + 1) c')) := Upd.set1 (Upd.refl _ _) (Nat.le_trans hnG (own_block hrow (k := g) rfl).1) _ _
  have hval : ((C0 ++ [l]).map wvc).flatten.set (C0.length * 2) (.slice a' (l.2.2.ms.length + 1) c') = ((C0 ++ [((a', c', ⟨l.2.2.ms ++ [x], l.2.2.after⟩) : CW)]).map wvc).flatten := by
    rw [List.map_append, List.flatten_append, List.map_append, List.flatten_append, List.set_append_right _ _ (by rw [hlen0]; exact Nat.le_refl _), hlen0, Nat.sub_self]
    congr 1
    show [_, _] = [Value.slice a' (l.2.2.ms ++ [x]).length c', _]
    rw [List.length_append]; rfl
  rw [hval] at hst
  refine ⟨(a', c', ⟨l.2.2.ms ++ [x], l.2.2.after⟩), rfl, by unfold cwV; rw [List.length_append]; rfl, ⟨?_, Or.inr ⟨C0, _, N, rfl, fun c hc => ?_, ⟨?_, ?_⟩, hBN, ?_⟩⟩, ?_⟩
  · rw [List.length_append]; exact hst
  · obtain ⟨h1, h2⟩ := h0 c hc
    have h3 := cw_upd h1 u1 (fun _ _ e => e)
    have h4 := cw_upd h3 u9 (fun k hk e => by
      obtain ⟨h5, _⟩ := own_block hl1.1 e
      have := h2 k hk
      omega)
    refine ⟨cw_upd h4 u10 (fun k hk e => ?_), h2⟩
    subst e
    obtain ⟨_, c1, q1⟩ := own_block h4.1 hk
    obtain ⟨_, c2, q2⟩ := own_block hrow9 (k := k) rfl
    rw [q1] at q2
    injection q2 with q2
    injection q2 with _ q2
    exact absurd q2 (by decide)
  · have hr2 : w9.ownsRow N 3 1 (.slice a' (l.2.2.ms ++ [x]).length c') (l.2.2.ms ++ [x]).length ((l.2.2.ms ++ [x]).map (Value.int .i64)) := by
      rw [List.length_append, List.map_append]; exact hr
    refine owns_upd' hr2 u10 (fun k hk e => ?_)
    subst e
    obtain ⟨_, c1, q1⟩ := own_block hr2 hk
    obtain ⟨_, c2, q2⟩ := own_block hrow9 (k := k) rfl
    rw [q1] at q2
    injection q2 with q2
    injection q2 with _ q2
    exact absurd q2 (by decide)
  · show (l.2.2.ms ++ [x]).length ≤ 100000
    rw [List.length_append]; exact h9
  · exact Nat.le_trans hN (Nat.le_trans u1.size (Nat.le_trans u9.size u10.size))
  · exact (u9.mono (fun k _ e => Or.inr e)).trans (u10.mono (fun k _ e => Or.inl e))
theorem ownb_eq {g n cap k : Nat} (h : (Value.slice (some ⟨g, 0, none⟩) n cap).ownBlock = some k) : k = g := by
  have h2 : g = k := by simpa [Value.ownBlock] using h
  exact h2.symm
theorem cwl_len : ∀ C : List CW, (C.map wvc).flatten.length = C.length * 2
  | [] => rfl
  | c :: C => by rw [List.map_cons, List.flatten_cons, List.length_append, cwl_len C, List.length_cons]; show 2 + _ = _; omega
set_option maxHeartbeats 16000000 in
set_option maxRecDepth 100000 in
theorem One_c (oa na ra ha : Option Addr) (oc nc rc hc : Nat) (f : FL) (s : Nat) (quota : Int) (holds : List Int) (w : World) (hgb : nG ≤ w.heap.size) (h : FlAt w oa na ra oc nc f) (hr : Wv.Rg f) (hs : s < 8)
    (hq : 1 ≤ quota) (hq2 : quota ≤ 9223372036854775807) (hhc : IC w ha holds) (hhl : holds.length ≤ 100000) :
    Calls Tryz.prog 22 #[.agg (flV oa na ra oc nc rc f), .int .i64 (s : Int), .int .i64 quota, .slice ha holds.length hc] w fun e w' => ∃ v', e = .returned v' ∧ Hid (WvO w.heap.size w' v' (Wv.oneF f s quota holds) ∧ Nw w w') := by
  unfold flV
  have n1 := nw_alloc w (.cells #[.slice oa f.old.length oc, .slice na f.new.length nc, .slice ra f.runs.length rc] tFl)
  have b1 := heap_new w (.cells #[.slice oa f.old.length oc, .slice na f.new.length nc, .slice ra f.runs.length rc] tFl)
  obtain ⟨W, hW⟩ : ∃ z, z = w.alloc (.cells #[.slice oa f.old.length oc, .slice na f.new.length nc, .slice ra f.runs.length rc] tFl) := ⟨_, rfl⟩
  rw [← hW] at n1 b1
  have HW := Lib.hid hW
  have HN := Lib.hid n1
  have HX : Hid (∀ y, Nw W y → y.cell? ⟨w.heap.size, 2, none⟩ = some (.slice ra f.runs.length rc)) := fun y u => by rw [cells_cell (Nw.keep u b1)]; rfl
  have HRU : Hid (∀ y (k : Nat), Nw W y → k < f.runs.length → ∃ rb ro, ra = some ⟨rb, ro, none⟩ ∧ y.cell? ⟨rb, ro + k, none⟩ = some (.int .i64 (Wv.run f k : Int)) ∧ Wv.run f k < 8) := fun y k u hk => by
    rcases h.runs with hnil | ⟨rb, ro, rfl, hrb, hrcell⟩
    · rw [hnil] at hk; simp at hk
    · refine ⟨rb, ro, rfl, ?_, by have := (run_lt hr hk).1; have := hr.old8; omega⟩
      have := nw_cellF (n1.trans u) (hrcell k hk)
      rw [(run_lt hr hk).2] at this
      exact this
  have HHO : Hid (∀ y, Nw W y → s < holds.length → ∃ hb ho, ha = some ⟨hb, ho, none⟩ ∧ y.cell? ⟨hb, ho + s, none⟩ = some (.int .i64 (holds.getD s 0))) := fun y u hl => by
    rcases hhc with hnil | ⟨hb, ho, rfl, hb2, hcell⟩
    · rw [hnil] at hl; simp at hl
    · exact ⟨hb, ho, rfl, by rw [nw_cellF (n1.trans u) (hcell s hl), getD_of hl]⟩
  have HHN : Hid (¬ s < holds.length → holds.getD s 0 = 0) := fun hl => getD_no hl
  have HGB : Hid (nG ≤ W.heap.size ∧ w.heap.size ≤ W.heap.size) := ⟨Nat.le_trans hgb n1.size, n1.size⟩
  have hfew := hr.few
  have HALL := Lib.hid (Wv.oneTo_all f s quota holds)
  have hqn : 0 < quota.toNat := by omega
  have hqe : (quota.toNat : Int) = quota := Int.toNat_of_nonneg (by omega)
  obtain ⟨rn, hrn⟩ : ∃ r, r = f.runs.length := ⟨_, rfl⟩
  rw [← hrn] at HX HRU hfew HALL
  have hrn1 : (rn : Int) ≤ 400 := by omega
  have hs9 : (s : Int) < 8 := by omega
  have hs0 : decide ((s : Int) < 0) = false := decide_eq_false (by omega)
  have hhl1 : (holds.length : Int) ≤ 100000 := by omega
  generalize holds.getD s 0 = after at *
  have HS0 : Hid (OneS W.heap.size W (.slice none 0 0) []) := ⟨World.ownsRow_nil _ _ _ _, Or.inl rfl⟩
  clear n1 b1 hW h hr hhc hgb
  go_enter Tryz.func22, Tryz.ntmps22
  go_upto_region 1 with fail
  rw [← HW.out, ← hrn]
  clear HW hrn
  go_wp2_with fail
  go_loopw [9, 10, 11] (fun ov mv iv wr => ∃ i : Nat, ∃ C : List CW, ∃ mm : Nat, i ≤ rn ∧ iv = .int .i64 (i : Int) ∧ mv = .int .i64 (mm : Int) ∧ Hid (mm = (Wv.machTo f s i).length) ∧ Hid (C.map (·.2.2) = Wv.oneTo f s quota.toNat after i) ∧ Hid (OneS W.heap.size wr ov C) ∧ Hid (Nw W wr)) (fun ov mv iv _ => rn - (intOf iv).toNat)
  case atStart => exact ⟨0, [], 0, Nat.zero_le _, rfl, rfl, rfl, rfl, HS0.out, Upd.refl _ _⟩
  case round =>
    obtain ⟨i, C, mm, hi, rfl, rfl, HMM, HC, HS, HU⟩ := hrel
    obtain ⟨wn, hwn⟩ : ∃ y, y = wr := ⟨_, rfl⟩
    subst hwn
    have x2 := HX.out wn HU.out
    by_cases hlt : i < rn
    · have hlt1 : (i : Int) < rn := by omega
      have hi9 : (i : Int) ≤ 400 := by omega
      have hi0 : decide ((i : Int) < 0) = false := decide_eq_false (by omega)
      obtain ⟨rb, ro, rfl, hrc, hr8⟩ := HRU.out wn i HU.out hlt
      have hmi : mm ≤ i := by rw [HMM.out]; exact Wv.machTo_len f s i
      have hm9 : (mm : Int) ≤ 400 := by omega
      by_cases hrun : Wv.run f i = s
      rotate_left
      · have hne : ((Wv.run f i : Int) != (s : Int)) = true := by simp; omega
        obtain ⟨e1, e2⟩ := Wv.oneTo_skip (q := quota.toNat) (a := after) hrun
        have HM2 : Hid (mm = (Wv.machTo f s (i + 1)).length) := by show _ = _; rw [e2]; exact HMM.out
        have HC2 : Hid (C.map (·.2.2) = Wv.oneTo f s quota.toNat after (i + 1)) := by show _ = _; rw [e1]; exact HC.out
        clear e1 e2
        generalize Wv.run f i = ru at *
        go_wp2_with fail
        go_roundw
        case rel => exact ⟨i + 1, C, mm, by omega, by go_num, rfl, HM2, HC2, HS, HU⟩
        case measure => simp [intOf]; omega
      · have hne : ((Wv.run f i : Int) != (s : Int)) = false := by simp [hrun]
        have HM2 : Hid (mm + 1 = (Wv.machTo f s (i + 1)).length) := by show _ = _; rw [Wv.machTo_one hrun, HMM.out]
        obtain ⟨rm, hrm⟩ : ∃ k : Nat, k = mm % quota.toNat := ⟨_, rfl⟩
        have hrem : (mm : Int).tmod quota = (rm : Int) := by
          rw [Int.tmod_eq_emod_of_nonneg (by omega), hrm, ← hqe, Int.natCast_emod]; rfl
        by_cases hm0 : rm = 0
        · subst hm0
          have HNEW := Lib.hid (Wv.oneTo_new hqn (a := after) hrun (by rw [← HMM.out, ← hrm]))
          clear hrm
          generalize Wv.run f i = ru at *
          have HCL : Hid (C.length ≤ 400) := by
            show _ ≤ _
            have h5 := congrArg List.length HC.out
            rw [List.length_map] at h5
            rw [h5]
            exact Nat.le_trans (Wv.oneTo_len f s quota.toNat after i) (by omega)
          by_cases hsl : s < holds.length
          · obtain ⟨hb, ho, rfl, hcl⟩ := HHO.out wn HU.out hsl
            have hsl1 : (s : Int) < holds.length := by omega
            have hcl2 : ∀ o, (wn.alloc o).cell? ⟨hb, ho + s, none⟩ = some (.int .i64 after) := fun o => nw_cellF (nw_alloc wn o) hcl
            have nB := nw_alloc wn (.cells #[.slice none 0 0, .int .i64 after] tWv)
            have bB := heap_new wn (.cells #[.slice none 0 0, .int .i64 after] tWv)
            obtain ⟨wB, hwB⟩ : ∃ y, y = wn.alloc (.cells #[.slice none 0 0, .int .i64 after] tWv) := ⟨_, rfl⟩
            rw [← hwB] at nB bB
            have b0 : wB.cell? ⟨wn.heap.size, 0, none⟩ = some (.slice none 0 0) := by rw [cells_cell bB]; rfl
            have b1 : wB.cell? ⟨wn.heap.size, 1, none⟩ = some (.int .i64 after) := by rw [cells_cell bB]; rfl
            have HWB := Lib.hid hwB
            have HNB := Lib.hid nB
            have hrowB := owns_upd' HS.out.row nB (fun _ _ e => e)
            have HUB := Lib.hid (HU.out.trans nB)
            clear nB bB hwB
            go_upto_region 11 with fail
            rw [← HWB.out]
            clear HWB
            have hz : W.heap.size ≤ wB.heap.size := HUB.out.size
            have hg1 : nG ≤ W.heap.size := HGB.out.1
            have hC9 : C.length ≤ 400 := HCL.out
            go_wp2_with (at_builtin; refine wpList_appL rfl _ _ 27 rfl W.heap.size tWv _ 2 32 Tryz.underlying27 infoWvW rfl (by decide) _ _ _ rfl hrowB [.slice none 0 0, .int .i64 after] rfl rfl ?c1 ?c2 ?c3 hz hg1 ?_)
            case c1 => first | exact ⟨rfl, rfl⟩ | (intro u hu; simp only [List.mem_cons, List.mem_nil_iff, or_false] at hu; rcases hu with rfl | rfl <;> rfl)
            case c2 => unfold maxLen; omega
            case c3 => omega
            intro v8 w8 hown8 u8 hob8
            have hS8 := OneS.new HS.out HNB.out u8 hown8 HU.out.size
            have HU8 : Hid (Nw W w8) := HUB.out.trans' u8 (fun k hk e => by
              show False
              have := (own_block hrowB e).1
              omega)
            rcases hS8.last with h9 | ⟨C0, l, N, e8, h0, hl, hBN, hNN⟩
            · simp at h9
            obtain ⟨hc0, hle⟩ : C0 = C ∧ l = (none, 0, ⟨[], after⟩) := by
              have := List.append_inj' e8 rfl
              exact ⟨this.1.symm, (List.singleton_inj.1 this.2).symm⟩
            subst hc0
            have hS9 : OneS W.heap.size w8 v8 (C0 ++ [l]) := by rw [hle]; exact hS8
            obtain ⟨g, cap, hv8, hgB, hgl⟩ := hS9.row.form (by rw [List.length_append]; simp)
            rw [show (C0 ++ [l]).length = C0.length + 1 by rw [List.length_append]; rfl] at hv8
            subst hv8
            have HOS := Lib.hid hS9
            have H0 := Lib.hid h0
            have HL := Lib.hid hl
            have HBN := Lib.hid hBN
            have HNN := Lib.hid hNN
            have HLN : Hid (l.2.2.ms.length ≤ 400) := by rw [hle]; exact Nat.zero_le _
            have HK4 : Hid (C0.length ≤ 400) := HCL.out
            have HFIN : Hid (∀ l' : CW, l'.2.2 = ⟨l.2.2.ms ++ [(i : Int)], l.2.2.after⟩ → (C0 ++ [l']).map (·.2.2) = Wv.oneTo f s quota.toNat after (i + 1)) := fun l' e => by
              rw [List.map_append, HC.out, HNEW.out]
              show _ ++ [l'.2.2] = _
              rw [e, hle]; rfl
            clear hS8 hS9 hle e8 h0 hl hBN hNN hown8 u8 hob8 hrowB b0 b1 hgB hgl
            -- the last wave gets the machine: world w8 (Nw W w8: HU8); HOS H0 HL HBN HNN HFIN
            have hrow2 : (w8).ownsRow W.heap.size tWv 2 (.slice (some ⟨g, 0, none⟩) (C0.length + 1) cap) (C0.length + 1) ((C0 ++ [l]).map wvc).flatten := by have := HOS.out.row; rw [show (C0 ++ [l]).length = C0.length + 1 by rw [List.length_append]; rfl] at this; exact this
            have hcell : (w8).cell? ⟨g, C0.length * 2, none⟩ = some (.slice l.1 l.2.2.ms.length l.2.1) := by
              rw [hrow2.cellAt _ (by omega), List.map_append, List.flatten_append, List.getElem?_append_right (by rw [cwl_len]; exact Nat.le_refl _), cwl_len, Nat.sub_self]; rfl
            have HRW := Lib.hid hrow2
            have hlr : (w8).ownsRow N 3 1 (.slice l.1 l.2.2.ms.length l.2.1) l.2.2.ms.length (l.2.2.ms.map (Value.int .i64)) := HL.out.1
            have hlb : ∀ k, (Value.slice l.1 l.2.2.ms.length l.2.1).ownBlock = some k → ¬ k = g := fun k hk e => by
              subst e
              obtain ⟨_, c1, q1⟩ := own_block HL.out.1 hk
              obtain ⟨_, c2, q2⟩ := own_block HRW.out (k := k) rfl
              rw [q1] at q2
              injection q2 with q2
              injection q2 with _ q2
              exact absurd q2 (by decide)
            have HLB := Lib.hid hlb
            have hl9 : l.2.2.ms.length ≤ 400 := HLN.out
            have hz := HNN.out
            have hg1 : nG ≤ N := Nat.le_trans HGB.out.1 HBN.out
            have hk9 : (C0.length : Int) ≤ 400 := by have := HK4.out; omega
            have hk0 : decide ((C0.length : Int) < 0) = false := decide_eq_false (by omega)
            clear hrow2 hlb
            go_wp2_with (at_builtin; refine wpList_appL rfl _ _ 23 rfl N 3 _ 1 8 Tryz.underlying23 infoIntW rfl (by decide) _ _ _ rfl hlr [.int .i64 (i : Int)] rfl rfl ?c1 ?c2 ?c3 hz hg1 ?_)
            case c1 => intro u hu; rw [List.mem_singleton.1 hu]; rfl
            case c2 => unfold maxLen; omega
            case c3 => omega
            intro v9 w9 hown9 u9 hob
            obtain ⟨va9, vc9, rfl⟩ := own_slW hown9
            obtain ⟨l', e1, e2, hS9, hU9⟩ := OneS.more (x := (i : Int)) HOS.out H0.out HL.out HBN.out HNN.out (Upd.refl _ _) u9 hown9 HGB.out.1 (by omega)
            have hrow9 := owns_upd' HRW.out u9 (fun k hk e => HLB.out k e (ownb_eq hk))
            obtain ⟨x9, c9⟩ : ∃ x, w9.cell? ⟨g, C0.length * 2, none⟩ = some x := ⟨_, by rw [hrow9.cellAt _ (by omega)]; exact List.getElem?_eq_getElem (by rw [cwl_len, List.length_append, List.length_singleton]; omega)⟩
            have f9 : w9.frozen? ⟨g, C0.length * 2, none⟩ = false := hrow9.frozenAt _
            have HF9 := Lib.hid (HFIN.out l' e1)
            have HS9 := Lib.hid hS9
            have HU9 : Hid (Nw W (w9.setCell ⟨g, C0.length * 2, none⟩ (.slice va9 (l.2.2.ms.length + 1) vc9))) := (HU8).trans' hU9 (fun k hk e => by
              show False
              rcases e with e | e
              · have := (own_block HRW.out (k := g) rfl).1; omega
              · have := (own_block HL.out.1 e).1; have := HBN.out; omega)
            clear hcell hown9 u9 hob hS9 hU9 hrow9 e1 e2
            go_wp2_with fail
            go_roundw
            case rel => exact ⟨i + 1, C0 ++ [l'], mm + 1, by omega, by go_num, by go_num, HM2, HF9, HS9, HU9⟩
            case measure => simp [intOf]; omega
          · have h0 := HHN.out hsl
            have hsl1 : ¬ (s : Int) < holds.length := by omega
            subst h0
            have nB := nw_alloc wn (.cells #[.slice none 0 0, .int .i64 (0 : Int)] tWv)
            have bB := heap_new wn (.cells #[.slice none 0 0, .int .i64 (0 : Int)] tWv)
            obtain ⟨wB, hwB⟩ : ∃ y, y = wn.alloc (.cells #[.slice none 0 0, .int .i64 (0 : Int)] tWv) := ⟨_, rfl⟩
            rw [← hwB] at nB bB
            have b0 : wB.cell? ⟨wn.heap.size, 0, none⟩ = some (.slice none 0 0) := by rw [cells_cell bB]; rfl
            have b1 : wB.cell? ⟨wn.heap.size, 1, none⟩ = some (.int .i64 (0 : Int)) := by rw [cells_cell bB]; rfl
            have HWB := Lib.hid hwB
            have HNB := Lib.hid nB
            have hrowB := owns_upd' HS.out.row nB (fun _ _ e => e)
            have HUB := Lib.hid (HU.out.trans nB)
            clear nB bB hwB
            go_upto_region 11 with fail
            rw [← HWB.out]
            clear HWB
            have hz : W.heap.size ≤ wB.heap.size := HUB.out.size
            have hg1 : nG ≤ W.heap.size := HGB.out.1
            have hC9 : C.length ≤ 400 := HCL.out
            go_wp2_with (at_builtin; refine wpList_appL rfl _ _ 27 rfl W.heap.size tWv _ 2 32 Tryz.underlying27 infoWvW rfl (by decide) _ _ _ rfl hrowB [.slice none 0 0, .int .i64 (0 : Int)] rfl rfl ?c1 ?c2 ?c3 hz hg1 ?_)
            case c1 => first | exact ⟨rfl, rfl⟩ | (intro u hu; simp only [List.mem_cons, List.mem_nil_iff, or_false] at hu; rcases hu with rfl | rfl <;> rfl)
            case c2 => unfold maxLen; omega
            case c3 => omega
            intro v8 w8 hown8 u8 hob8
            have hS8 := OneS.new HS.out HNB.out u8 hown8 HU.out.size
            have HU8 : Hid (Nw W w8) := HUB.out.trans' u8 (fun k hk e => by
              show False
              have := (own_block hrowB e).1
              omega)
            rcases hS8.last with h9 | ⟨C0, l, N, e8, h0, hl, hBN, hNN⟩
            · simp at h9
            obtain ⟨hc0, hle⟩ : C0 = C ∧ l = (none, 0, ⟨[], (0 : Int)⟩) := by
              have := List.append_inj' e8 rfl
              exact ⟨this.1.symm, (List.singleton_inj.1 this.2).symm⟩
            subst hc0
            have hS9 : OneS W.heap.size w8 v8 (C0 ++ [l]) := by rw [hle]; exact hS8
            obtain ⟨g, cap, hv8, hgB, hgl⟩ := hS9.row.form (by rw [List.length_append]; simp)
            rw [show (C0 ++ [l]).length = C0.length + 1 by rw [List.length_append]; rfl] at hv8
            subst hv8
            have HOS := Lib.hid hS9
            have H0 := Lib.hid h0
            have HL := Lib.hid hl
            have HBN := Lib.hid hBN
            have HNN := Lib.hid hNN
            have HLN : Hid (l.2.2.ms.length ≤ 400) := by rw [hle]; exact Nat.zero_le _
            have HK4 : Hid (C0.length ≤ 400) := HCL.out
            have HFIN : Hid (∀ l' : CW, l'.2.2 = ⟨l.2.2.ms ++ [(i : Int)], l.2.2.after⟩ → (C0 ++ [l']).map (·.2.2) = Wv.oneTo f s quota.toNat (0 : Int) (i + 1)) := fun l' e => by
              rw [List.map_append, HC.out, HNEW.out]
              show _ ++ [l'.2.2] = _
              rw [e, hle]; rfl
            clear hS8 hS9 hle e8 h0 hl hBN hNN hown8 u8 hob8 hrowB b0 b1 hgB hgl
            -- the last wave gets the machine: world w8 (Nw W w8: HU8); HOS H0 HL HBN HNN HFIN
            have hrow2 : (w8).ownsRow W.heap.size tWv 2 (.slice (some ⟨g, 0, none⟩) (C0.length + 1) cap) (C0.length + 1) ((C0 ++ [l]).map wvc).flatten := by have := HOS.out.row; rw [show (C0 ++ [l]).length = C0.length + 1 by rw [List.length_append]; rfl] at this; exact this
            have hcell : (w8).cell? ⟨g, C0.length * 2, none⟩ = some (.slice l.1 l.2.2.ms.length l.2.1) := by
              rw [hrow2.cellAt _ (by omega), List.map_append, List.flatten_append, List.getElem?_append_right (by rw [cwl_len]; exact Nat.le_refl _), cwl_len, Nat.sub_self]; rfl
            have HRW := Lib.hid hrow2
            have hlr : (w8).ownsRow N 3 1 (.slice l.1 l.2.2.ms.length l.2.1) l.2.2.ms.length (l.2.2.ms.map (Value.int .i64)) := HL.out.1
            have hlb : ∀ k, (Value.slice l.1 l.2.2.ms.length l.2.1).ownBlock = some k → ¬ k = g := fun k hk e => by
              subst e
              obtain ⟨_, c1, q1⟩ := own_block HL.out.1 hk
              obtain ⟨_, c2, q2⟩ := own_block HRW.out (k := k) rfl
              rw [q1] at q2
              injection q2 with q2
              injection q2 with _ q2
              exact absurd q2 (by decide)
            have HLB := Lib.hid hlb
            have hl9 : l.2.2.ms.length ≤ 400 := HLN.out
            have hz := HNN.out
            have hg1 : nG ≤ N := Nat.le_trans HGB.out.1 HBN.out
            have hk9 : (C0.length : Int) ≤ 400 := by have := HK4.out; omega
            have hk0 : decide ((C0.length : Int) < 0) = false := decide_eq_false (by omega)
            clear hrow2 hlb
            go_wp2_with (at_builtin; refine wpList_appL rfl _ _ 23 rfl N 3 _ 1 8 Tryz.underlying23 infoIntW rfl (by decide) _ _ _ rfl hlr [.int .i64 (i : Int)] rfl rfl ?c1 ?c2 ?c3 hz hg1 ?_)
            case c1 => intro u hu; rw [List.mem_singleton.1 hu]; rfl
            case c2 => unfold maxLen; omega
            case c3 => omega
            intro v9 w9 hown9 u9 hob
            obtain ⟨va9, vc9, rfl⟩ := own_slW hown9
            obtain ⟨l', e1, e2, hS9, hU9⟩ := OneS.more (x := (i : Int)) HOS.out H0.out HL.out HBN.out HNN.out (Upd.refl _ _) u9 hown9 HGB.out.1 (by omega)
            have hrow9 := owns_upd' HRW.out u9 (fun k hk e => HLB.out k e (ownb_eq hk))
            obtain ⟨x9, c9⟩ : ∃ x, w9.cell? ⟨g, C0.length * 2, none⟩ = some x := ⟨_, by rw [hrow9.cellAt _ (by omega)]; exact List.getElem?_eq_getElem (by rw [cwl_len, List.length_append, List.length_singleton]; omega)⟩
            have f9 : w9.frozen? ⟨g, C0.length * 2, none⟩ = false := hrow9.frozenAt _
            have HF9 := Lib.hid (HFIN.out l' e1)
            have HS9 := Lib.hid hS9
            have HU9 : Hid (Nw W (w9.setCell ⟨g, C0.length * 2, none⟩ (.slice va9 (l.2.2.ms.length + 1) vc9))) := (HU8).trans' hU9 (fun k hk e => by
              show False
              rcases e with e | e
              · have := (own_block HRW.out (k := g) rfl).1; omega
              · have := (own_block HL.out.1 e).1; have := HBN.out; omega)
            clear hcell hown9 u9 hob hS9 hU9 hrow9 e1 e2
            go_wp2_with fail
            go_roundw
            case rel => exact ⟨i + 1, C0 ++ [l'], mm + 1, by omega, by go_num, by go_num, HM2, HF9, HS9, HU9⟩
            case measure => simp [intOf]; omega
        · have hrb : ((rm : Int) == 0) = false := by simp; omega
          obtain ⟨init, lm, f1, f2, f3⟩ := Wv.oneTo_more hqn (a := after) hrun (by rw [← HMM.out, ← hrm]; exact hm0)
          clear hrm
          generalize Wv.run f i = ru at *
          have HCL : Hid (C.length ≤ 400) := by
            show _ ≤ _
            have h5 := congrArg List.length HC.out
            rw [List.length_map] at h5
            rw [h5]
            exact Nat.le_trans (Wv.oneTo_len f s quota.toNat after i) (by omega)
          have hC0 := HC.out
          rw [f1] at hC0
          rcases HS.out.last with h9 | ⟨C0, l, N, e8, h0, hl, hBN, hNN⟩
          · rw [h9] at hC0; simp at hC0
          subst e8
          rw [List.map_append] at hC0
          obtain ⟨g1, g2⟩ := List.append_inj' hC0 rfl
          have g3 : l.2.2 = ⟨lm, after⟩ := List.singleton_inj.1 g2
          obtain ⟨g, cap, hv8, hgB, hgl⟩ := HS.out.row.form (by rw [List.length_append]; simp)
          rw [show (C0 ++ [l]).length = C0.length + 1 by rw [List.length_append]; rfl] at hv8
          subst hv8
          have HOS := HS
          have H0 := Lib.hid h0
          have HL := Lib.hid hl
          have HBN := Lib.hid hBN
          have HNN := Lib.hid hNN
          have HLN : Hid (l.2.2.ms.length ≤ 400) := by show _ ≤ _; rw [g3]; show lm.length ≤ _; omega
          have HK4 : Hid (C0.length ≤ 400) := by have := HCL.out; rw [List.length_append] at this; show _ ≤ _; omega
          have HFIN : Hid (∀ l' : CW, l'.2.2 = ⟨l.2.2.ms ++ [(i : Int)], l.2.2.after⟩ → (C0 ++ [l']).map (·.2.2) = Wv.oneTo f s quota.toNat after (i + 1)) := fun l' e => by
            rw [List.map_append, g1, f2]
            show _ ++ [l'.2.2] = _
            rw [e, g3]
          clear h0 hl hBN hNN hgB hgl f1 f2 f3 g1 g2 g3 hC0
          have HUN := HU
          -- the last wave gets the machine: world wn (Nw W wn: HUN.out); HOS H0 HL HBN HNN HFIN
          have hrow2 : (wn).ownsRow W.heap.size tWv 2 (.slice (some ⟨g, 0, none⟩) (C0.length + 1) cap) (C0.length + 1) ((C0 ++ [l]).map wvc).flatten := by have := HOS.out.row; rw [show (C0 ++ [l]).length = C0.length + 1 by rw [List.length_append]; rfl] at this; exact this
          have hcell : (wn).cell? ⟨g, C0.length * 2, none⟩ = some (.slice l.1 l.2.2.ms.length l.2.1) := by
            rw [hrow2.cellAt _ (by omega), List.map_append, List.flatten_append, List.getElem?_append_right (by rw [cwl_len]; exact Nat.le_refl _), cwl_len, Nat.sub_self]; rfl
          have HRW := Lib.hid hrow2
          have hlr : (wn).ownsRow N 3 1 (.slice l.1 l.2.2.ms.length l.2.1) l.2.2.ms.length (l.2.2.ms.map (Value.int .i64)) := HL.out.1
          have hlb : ∀ k, (Value.slice l.1 l.2.2.ms.length l.2.1).ownBlock = some k → ¬ k = g := fun k hk e => by
            subst e
            obtain ⟨_, c1, q1⟩ := own_block HL.out.1 hk
            obtain ⟨_, c2, q2⟩ := own_block HRW.out (k := k) rfl
            rw [q1] at q2
            injection q2 with q2
            injection q2 with _ q2
            exact absurd q2 (by decide)
          have HLB := Lib.hid hlb
          have hl9 : l.2.2.ms.length ≤ 400 := HLN.out
          have hz := HNN.out
          have hg1 : nG ≤ N := Nat.le_trans HGB.out.1 HBN.out
          have hk9 : (C0.length : Int) ≤ 400 := by have := HK4.out; omega
          have hk0 : decide ((C0.length : Int) < 0) = false := decide_eq_false (by omega)
          clear hrow2 hlb
          go_wp2_with (at_builtin; refine wpList_appL rfl _ _ 23 rfl N 3 _ 1 8 Tryz.underlying23 infoIntW rfl (by decide) _ _ _ rfl hlr [.int .i64 (i : Int)] rfl rfl ?c1 ?c2 ?c3 hz hg1 ?_)
          case c1 => intro u hu; rw [List.mem_singleton.1 hu]; rfl
          case c2 => unfold maxLen; omega
          case c3 => omega
          intro v9 w9 hown9 u9 hob
          obtain ⟨va9, vc9, rfl⟩ := own_slW hown9
          obtain ⟨l', e1, e2, hS9, hU9⟩ := OneS.more (x := (i : Int)) HOS.out H0.out HL.out HBN.out HNN.out (Upd.refl _ _) u9 hown9 HGB.out.1 (by omega)
          have hrow9 := owns_upd' HRW.out u9 (fun k hk e => HLB.out k e (ownb_eq hk))
          obtain ⟨x9, c9⟩ : ∃ x, w9.cell? ⟨g, C0.length * 2, none⟩ = some x := ⟨_, by rw [hrow9.cellAt _ (by omega)]; exact List.getElem?_eq_getElem (by rw [cwl_len, List.length_append, List.length_singleton]; omega)⟩
          have f9 : w9.frozen? ⟨g, C0.length * 2, none⟩ = false := hrow9.frozenAt _
          have HF9 := Lib.hid (HFIN.out l' e1)
          have HS9 := Lib.hid hS9
          have HU9 : Hid (Nw W (w9.setCell ⟨g, C0.length * 2, none⟩ (.slice va9 (l.2.2.ms.length + 1) vc9))) := (HUN.out).trans' hU9 (fun k hk e => by
            show False
            rcases e with e | e
            · have := (own_block HRW.out (k := g) rfl).1; omega
            · have := (own_block HL.out.1 e).1; have := HBN.out; omega)
          clear hcell hown9 u9 hob hS9 hU9 hrow9 e1 e2
          go_wp2_with fail
          go_roundw
          case rel => exact ⟨i + 1, C0 ++ [l'], mm + 1, by omega, by go_num, by go_num, HM2, HF9, HS9, HU9⟩
          case measure => simp [intOf]; omega
    · obtain rfl : i = rn := by omega
      have hlt1 : ¬ ((i : Nat) : Int) < i := by omega
      have HF : Hid (WvO W.heap.size wn u9 (Wv.oneF f s quota holds)) := by
        show WvO _ _ _ _
        rw [← HALL.out, ← HC.out]
        exact HS.out.done rfl
      go_wp2_with fail
      go_ret
      exact ⟨_, rfl, HF.out.base HGB.out.2, HN.out.trans HU.out⟩
end Go.Proofs.YtjlgmoemnhmgmaaGreatDoor
namespace Go.Proofs.YtjlgmoemnhmgmaaGreatDoor
open Go.RowKit
set_option linter.unusedVariables false
set_option linter.unusedSimpArgs false
attribute [local irreducible] Calls
open Fm (Ty Vl Str)
open Wv (Svc FL)

namespace Wv
end Wv
/-! ### Lists of orders in memory -/
abbrev RC := Option Addr × Nat × List Nat
def iN (n : Nat) : Value := .int .i64 (n : Int)
def rcv (r : RC) : Value := .slice r.1 r.2.2.length r.2.1
def RC.own (B : Nat) (w : World) (r : RC) : Prop := w.ownsRow B 3 1 (rcv r) r.2.2.length (r.2.2.map iN)
def OrdO (B : Nat) (w : World) (v : Value) (L : List (List Nat)) : Prop :=
  ∃ C : List RC, C.map (·.2.2) = L ∧ w.ownsRow B 23 1 v C.length (C.map rcv) ∧ ∀ c ∈ C, c.own B w
theorem rc_upd {B : Nat} {S : Nat → Prop} {w w' : World} {c : RC} (h : c.own B w) (u : Upd S w w') (hs : ∀ k, (rcv c).ownBlock = some k → ¬ S k) : c.own B w' := owns_upd' h u hs
theorem OrdO.nw {B : Nat} {w w' : World} {v : Value} {L : List (List Nat)} (h : OrdO B w v L) (u : Nw w w') : OrdO B w' v L := by
  obtain ⟨C, e, h1, h2⟩ := h
  exact ⟨C, e, owns_upd' h1 u (fun _ _ e => e), fun c hc => rc_upd (h2 c hc) u (fun _ _ e => e)⟩
theorem OrdO.nil (B : Nat) (w : World) : OrdO B w (.slice none 0 0) [] := ⟨[], rfl, World.ownsRow_nil _ _ _ _, fun c hc => by cases hc⟩
theorem OrdO.base {B B' : Nat} {w : World} {v : Value} {L : List (List Nat)} (h : OrdO B w v L) (hb : B' ≤ B) : OrdO B' w v L := by
  obtain ⟨C, e, h1, h2⟩ := h
  exact ⟨C, e, owns_base h1 hb, fun c hc => owns_base (h2 c hc) hb⟩
theorem OrdO.sl {B : Nat} {w : World} {v : Value} {L : List (List Nat)} (h : OrdO B w v L) : ∃ a cap, v = .slice a L.length cap := by
  obtain ⟨C, e, h1, h2⟩ := h
  obtain ⟨a, cap, rfl⟩ := own_slW h1
  exact ⟨a, cap, by rw [← e, List.length_map]⟩
theorem own_nats_ic {B n : Nat} {w : World} {a : Option Addr} {l : List Nat} {c : Nat} (hn : n = l.length) (h : w.ownsRow B 3 1 (.slice a n c) n (l.map iN)) : IC w a (l.map fun (n : Nat) => (n : Int)) := by
  refine ic_of_own (B := B) (c := c) ?_
  rw [List.length_map, List.map_map]
  subst hn
  exact h
/-- The k-th order. -/
theorem OrdO.at_ {B : Nat} {w : World} {a : Option Addr} {n cap : Nat} {L : List (List Nat)} (h : OrdO B w (.slice a n cap) L) {k : Nat} (hk : k < L.length) :
    ∃ b ra rc, a = some ⟨b, 0, none⟩ ∧ w.cell? ⟨b, k, none⟩ = some (.slice ra (L[k]).length rc) ∧ IC w ra ((L[k]).map fun (n : Nat) => (n : Int)) := by
  obtain ⟨C, rfl, h1, h2⟩ := h
  rw [List.length_map] at hk
  obtain ⟨g, cap', e, hgB, hgl⟩ := h1.form (by omega)
  injection e with e1 e2 e3
  subst e1 e2 e3
  refine ⟨g, C[k].1, C[k].2.1, rfl, ?_, ?_⟩
  · rw [h1.cellAt k (by omega), List.getElem?_map, List.getElem?_eq_getElem hk, List.getElem_map]; rfl
  · rw [List.getElem_map]
    exact own_nats_ic rfl (h2 _ (List.getElem_mem hk))
/-- What another list of orders does not touch. -/
theorem OrdO.other {B B' n : Nat} {w w' : World} {v v' : Value} {L : List (List Nat)} {xs : List Value} (h : OrdO B w v L) (h1 : w.ownsRow B' 23 1 v' n xs) (u : Upd (fun k => v'.ownBlock = some k) w w') (hne : ∀ k, v'.ownBlock = some k → v.ownBlock ≠ some k) : OrdO B w' v L := by
  obtain ⟨C, e, h2, h3⟩ := h
  refine ⟨C, e, owns_upd' h2 u (fun k hk e => hne k e hk), fun c hc => rc_upd (h3 c hc) u (fun k hk e => ?_)⟩
  obtain ⟨_, c1, q1⟩ := own_block (h3 c hc) hk
  obtain ⟨_, c2, q2⟩ := own_block h1 e
  rw [q1] at q2
  injection q2 with q2
  injection q2 with _ q2
  exact absurd q2 (by decide)
/-- An order more. -/
theorem OrdO.snoc {B : Nat} {w1 w9 : World} {v v' : Value} {C : List RC} {a : Option Addr} {c : Nat} {p : List Nat} (h1 : w1.ownsRow B 23 1 v C.length (C.map rcv)) (h2 : ∀ c ∈ C, c.own B w1) (hp : RC.own B w1 (a, c, p)) (u9 : Upd (fun k => v.ownBlock = some k) w1 w9)
    (hr : w9.ownsRow B 23 1 v' (C.length + 1) (C.map rcv ++ [.slice a p.length c])) : OrdO B w9 v' (C.map (·.2.2) ++ [p]) := by
  have hne : ∀ c : RC, c.own B w1 → ∀ k, (rcv c).ownBlock = some k → ¬ v.ownBlock = some k := fun c hc k hk e => by
    obtain ⟨_, c1, q1⟩ := own_block hc hk
    obtain ⟨_, c2, q2⟩ := own_block h1 e
    rw [q1] at q2
    injection q2 with q2
    injection q2 with _ q2
    exact absurd q2 (by decide)
  refine ⟨C ++ [(a, c, p)], by rw [List.map_append]; rfl, by rw [List.length_append, List.map_append]; exact hr, fun x hx => ?_⟩
  rcases List.mem_append.1 hx with hx | hx
  · exact rc_upd (h2 x hx) u9 (hne x (h2 x hx))
  · rw [List.mem_singleton.1 hx]
    exact rc_upd hp u9 (hne _ hp)
theorem own_cap {B n cap : Nat} {w : World} {a : Option Addr} {sz : Nat} {e : TypeId} {xs : List Value} (h : w.ownsRow B e sz (.slice a n cap) n xs) : n ≤ cap ∧ cap ≤ maxLen := by
  rcases h.2 with ⟨e1, e2⟩ | ⟨gb, c, cur, e1, hb, hg, h4, h5, h6, h7⟩
  · injection e1 with e3 e4 e5
    subst e5
    exact ⟨by omega, Nat.zero_le _⟩
  · injection e1 with e3 e4 e5
    subst e5
    exact ⟨h4, h5⟩
end Go.Proofs.YtjlgmoemnhmgmaaGreatDoor
