/- The reference's rest and Plan. -/
import Derived.Test.YtjlgmoemnhmgmaaGreatDoorPkWTells38
import Derived.Test.YtjlgmoemnhmgmaaGreatDoorPkWTells39
import Derived.Test.YtjlgmoemnhmgmaaGreatDoorPkWTells40
namespace Go.Proofs.YtjlgmoemnhmgmaaGreatDoor
open Go.RowKit
set_option linter.unusedVariables false
set_option linter.unusedSimpArgs false
attribute [local irreducible] Calls
open Fm (Ty Vl Str)
open Wv (Svc FL)

theorem restr_results (tmps : Array Value) (w : World) : (results Tryz.f41 tmps).run Tryz.prog w = .ok (.tuple #[tmps.getD 10 undef, tmps.getD 11 undef]) w := by
  simp [results, Tryz.results41, go_sem]
theorem planr_results (tmps : Array Value) (w : World) : (results Tryz.f15 tmps).run Tryz.prog w = .ok (.tuple #[tmps.getD 6 undef, tmps.getD 7 undef]) w := by
  simp [results, Tryz.results15, go_sem]
/-- The waves that lie somewhere, one by one. -/
theorem WvC.list {w : World} {a : Option Addr} {l : List Wv.Wave} (h : WvC w a l) : ∃ C : List CW, C.map (·.2.2) = l ∧ (∀ c ∈ C, IC w c.1 c.2.2.ms ∧ c.2.2.ms.length ≤ maxLen) ∧ (C.length = 0 ∨ ∃ ad, a = some ad ∧ ∀ j u, (C.map wvc).flatten[j]? = some u → w.cell? (ad.add j) = some u) := by
  rcases h with rfl | ⟨b, off, rfl, hb, hc⟩
  · exact ⟨[], rfl, (fun c hc => by cases hc), Or.inl rfl⟩
  · have h2 : ∀ i (h : i < l.length), ∃ c : CW, c.2.2 = l[i] ∧ (IC w c.1 c.2.2.ms ∧ c.2.2.ms.length ≤ maxLen) ∧ w.cell? ⟨b, off + i * 2, none⟩ = some (.slice c.1 c.2.2.ms.length c.2.1) ∧ w.cell? ⟨b, off + i * 2 + 1, none⟩ = some (.int .i64 c.2.2.after) := fun i hi => by
      obtain ⟨ma, mc, h1, h2, h3, h4⟩ := hc i hi
      exact ⟨(ma, mc, l[i]), rfl, ⟨h3, h4⟩, h1, h2⟩
    let F : Nat → CW := fun i => if hi : i < l.length then Classical.choose (h2 i hi) else (none, 0, ⟨[], 0⟩)
    have hF : ∀ i (h : i < l.length), (F i).2.2 = l[i] ∧ (IC w (F i).1 (F i).2.2.ms ∧ (F i).2.2.ms.length ≤ maxLen) ∧ w.cell? ⟨b, off + i * 2, none⟩ = some (.slice (F i).1 (F i).2.2.ms.length (F i).2.1) ∧ w.cell? ⟨b, off + i * 2 + 1, none⟩ = some (.int .i64 (F i).2.2.after) := fun i hi => by
      show (if hi : i < l.length then _ else _ : CW).2.2 = _ ∧ _
      simp only [F, hi, dite_true]
      exact Classical.choose_spec (h2 i hi)
    refine ⟨(List.range l.length).map F, ?_, fun c hc => ?_, Or.inr ⟨⟨b, off, none⟩, rfl, fun j u hu => ?_⟩⟩
    · apply List.ext_getElem
      · simp
      · intro i h3 h4
        simp only [List.getElem_map, List.getElem_range]
        exact (hF i h4).1
    · obtain ⟨i, hi, rfl⟩ := List.mem_map.1 hc
      exact (hF i (List.mem_range.1 hi)).2.1
    · have hlen : j < l.length * 2 := by
        have := (List.getElem?_eq_some_iff.1 hu).1
        rw [cwl_len] at this
        simpa using this
      have hi : j / 2 < l.length := by omega
      have hj : j % 2 < 2 := by omega
      have e : j = j / 2 * 2 + j % 2 := by omega
      rw [e, flat_at _ (j / 2) (j % 2) (fun x hx => by obtain ⟨c, _, rfl⟩ := List.mem_map.1 hx; rfl) hj (by simpa using hi)] at hu
      simp only [List.getElem_map, List.getElem_range] at hu
      obtain ⟨_, _, k0, k1⟩ := hF (j / 2) hi
      rw [add_plain]
      have e2 : off + j = off + j / 2 * 2 + j % 2 := by omega
      rw [e2]
      generalize j % 2 = r at *
      unfold wvc at hu
      have hr : r = 0 ∨ r = 1 := by omega
      rcases hr with rfl | rfl
      · rw [Nat.add_zero, k0]; simpa using hu
      · rw [k1]; simpa using hu
theorem wvC_of_own {B n cap : Nat} {w : World} {a : Option Addr} {C : List CW} (hn : n = C.length) (h : w.ownsRow B tWv 2 (.slice a n cap) n (C.map wvc).flatten) (hC : ∀ c ∈ C, IC w c.1 c.2.2.ms ∧ c.2.2.ms.length ≤ maxLen) : WvC w a (C.map (·.2.2)) := by
  rcases Nat.eq_zero_or_pos n with h0 | h0
  · have : C = [] := List.eq_nil_of_length_eq_zero (by omega)
    subst this
    exact Or.inl rfl
  · obtain ⟨g, c, e1, _, hg⟩ := h.form h0
    injection e1 with e2 e3 e4
    subst e2 e4
    refine Or.inr ⟨g, 0, rfl, hg, fun i hi => ?_⟩
    rw [List.length_map] at hi
    have hlen : ∀ x ∈ C.map wvc, x.length = 2 := fun x hx => by obtain ⟨c, _, rfl⟩ := List.mem_map.1 hx; rfl
    have c0 := h.cellAt (i * 2 + 0) (by omega)
    have c1 := h.cellAt (i * 2 + 1) (by omega)
    rw [flat_at _ i 0 hlen (by omega) (by simpa using hi)] at c0
    rw [flat_at _ i 1 hlen (by omega) (by simpa using hi)] at c1
    simp only [List.getElem_map] at c0 c1 ⊢
    refine ⟨C[i].1, C[i].2.1, ?_, ?_, hC _ (List.getElem_mem hi)⟩
    · rw [Nat.zero_add]; exact c0
    · rw [Nat.zero_add]; exact c1
def restRes (f : FL) (q : Int) (h : List Int) (r : Option (List Nat)) : List Wv.Wave × Bool := match r with
  | none => ([], false)
  | some x => (Wv.wavesOf f q h x, true)
def RestR (w : World) (r : List Wv.Wave × Bool) (e : Ending) (w' : World) : Prop := ∃ a c, e = .returned (.tuple #[.slice a r.1.length c, .bool r.2]) ∧ Hid (WvC w' a r.1 ∧ Nw w w')
namespace Wv
def stepR (f : FL) (q : Int) (h : List Int) (n : Nat) (o : List Nat) (s : Nat) : Option (List Nat) := if ((allBits f).testBit s && !decide (s ∈ o)) = true then refP f q h n (o ++ [s]) else none
def noneTo (f : FL) (o : List Nat) (n : Nat) : Bool := !((List.range n).any fun s => (allBits f).testBit s && !decide (s ∈ o))
theorem noneTo_succ (f : FL) (o : List Nat) (n : Nat) : noneTo f o (n + 1) = (noneTo f o n && !((allBits f).testBit n && !decide (n ∈ o))) := by
  unfold noneTo
  rw [List.range_succ, List.any_append]; simp
theorem noneTo_all (f : FL) (o : List Nat) : noneTo f o f.old.length = true ↔ leftO f o = [] := by
  unfold noneTo leftO
  rw [Bool.not_eq_true', List.any_eq_false, List.filter_eq_nil_iff]
theorem refP_bad {f : FL} {q : Int} {h : List Int} {n : Nat} {o : List Nat} (e : okO f q h o = false) : refP f q h (n + 1) o = none := by
  unfold refP; rw [if_pos e]
theorem refP_hit {f : FL} {q : Int} {h : List Int} {n s : Nat} {o x : List Nat} (e : okO f q h o = true) (hs : s < f.old.length) (hno : ∀ j, j < s → stepR f q h n o j = none) (hx : stepR f q h n o s = some x) : refP f q h (n + 1) o = some x := by
  unfold refP
  rw [if_neg (by rw [e]; simp)]
  have := findSome_range (g := stepR f q h n o) hs hx hno
  unfold stepR at this
  rw [this]
theorem refP_end {f : FL} {q : Int} {h : List Int} {n : Nat} {o : List Nat} (e : okO f q h o = true) (hno : ∀ j, j < f.old.length → stepR f q h n o j = none) : refP f q h (n + 1) o = if noneTo f o f.old.length = true then some o else none := by
  unfold refP
  rw [if_neg (by rw [e]; simp)]
  have : (List.range f.old.length).findSome? (stepR f q h n o) = none := List.findSome?_eq_none_iff.2 fun j hj => hno j (List.mem_range.1 hj)
  unfold stepR at this
  rw [this]
  by_cases hl : leftO f o = []
  · rw [if_pos hl, if_pos ((noneTo_all f o).2 hl)]
  · rw [if_neg hl, if_neg (fun h => hl ((noneTo_all f o).1 h))]
theorem wavesOf_le (f : FL) (q : Int) (h : List Int) (o : List Nat) : (wavesOf f q h o).length ≤ o.length * f.runs.length := by
  unfold wavesOf
  induction o with
  | nil => simp
  | cons s o ih =>
    rw [List.map_cons, List.flatten_cons, List.length_append, List.length_cons, Nat.succ_mul]
    have := oneF_len f s q h
    omega
theorem wavesOf_snoc (f : FL) (q : Int) (h : List Int) (o : List Nat) (s : Nat) : wavesOf f q h (o ++ [s]) = wavesOf f q h o ++ oneF f s q h := by
  unfold wavesOf
  rw [List.map_append, List.flatten_append]; simp
theorem wavesOf_ms {f : FL} {q : Int} {h : List Int} (hq : 1 ≤ q) {o : List Nat} {x : Wave} (hx : x ∈ wavesOf f q h o) : x.ms.length ≤ f.runs.length := by
  unfold wavesOf at hx
  obtain ⟨l, hl, hx⟩ := List.mem_flatten.1 hx
  obtain ⟨s, _, rfl⟩ := List.mem_map.1 hl
  have := (oneF_mem hq hx).2.2.1.length_le
  exact Nat.le_trans this (machTo_len f s f.runs.length)
end Wv
end Go.Proofs.YtjlgmoemnhmgmaaGreatDoor
