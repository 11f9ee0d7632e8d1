/- Acts of chapter 37 among a statement's arguments: their cells; the contracts of Few, Pick, Line. -/
import Derived.Test.YtagmlemlagbfkaaGreatDoorPkMTells14
import Derived.Test.YtagmlemlagbfkaaGreatDoorPkMTells12
import Derived.Test.YtagmlemlagbfkaaGreatDoorPkMTells0
import Derived.WalkMore
import Derived.Deep.CutBlock
namespace Go.Proofs.YtagmlemlagbfkaaGreatDoor
open Go.ChangeShapes Go.WideShapes Go.ChangeAt Go.RowKit Go.Joins
set_option linter.unusedVariables false
set_option linter.unusedSimpArgs false
attribute [local irreducible] Calls

def actL (a : Mi.PAct) : List Value := [.int .i64 a.do_, .int .i64 a.mirror, .int .i64 a.kind, .int .i64 a.n, .string ⟨a.name.toArray⟩, .string ⟨a.text.toArray⟩]
structure ActWf (a : Mi.PAct) : Prop where
  d : I64 a.do_
  m : I64 a.mirror
  k : I64 a.kind
  n : I64 a.n
  s : a.name.length ≤ 9223372036854775807
  t : a.text.length ≤ 9223372036854775807
theorem list_of_relA {α : Type} {f : α → List Value} {Q : α → Prop} : ∀ (xs : List (List Value)), (∀ c ∈ xs, ∃ y, c = f y ∧ Q y) → ∃ l : List α, xs = l.map f ∧ ∀ y ∈ l, Q y := by
  intro xs
  induction xs with
  | nil => exact fun _ => ⟨[], rfl, fun y hy => by cases hy⟩
  | cons c xs ih =>
    intro h
    obtain ⟨l, h1, h2⟩ := ih (fun c hc => h c (List.mem_cons_of_mem _ hc))
    obtain ⟨y, h3, h4⟩ := h c (List.mem_cons_self ..)
    exact ⟨y :: l, by rw [h1, h3]; rfl, fun z hz => by rcases List.mem_cons.1 hz with rfl | hz; exact h4; exact h2 z hz⟩
section
variable {H : Type} {enc : TypeId × Value → H} {w : World} {base : Nat} {sp : Nat → Bool} {held : Bool} {n : Nat} {x : DataW H × List MemPlace}
set_option maxRecDepth 100000 in
theorem trod_act {cs : List Value} (h : DataW.trod enc Tryz.prog w base sp held n 41 cs = some x) : ∃ y : Mi.PAct, cs = actL y ∧ ActWf y := by
  obtain ⟨xs, m, _, rfl, hl, hlen, hf⟩ := DataW.trod_struct Tryz.underlying41 h
  have hc : Tryz.prog.cellsOf 41 = 6 := by kernel_rfl
  rw [hc] at hl
  match cs, hl with
  | [c0, c1, c2, c3, c4, c5], _ =>
    match xs, hlen with
    | [y0, y1, y2, y3, y4, y5], _ =>
      have k0 : DataW.trod enc Tryz.prog w base sp held m 3 [c0] = some y0 := hf 0 _ rfl
      have k1 : DataW.trod enc Tryz.prog w base sp held m 3 [c1] = some y1 := hf 1 _ rfl
      have k2 : DataW.trod enc Tryz.prog w base sp held m 3 [c2] = some y2 := hf 2 _ rfl
      have k3 : DataW.trod enc Tryz.prog w base sp held m 3 [c3] = some y3 := hf 3 _ rfl
      have k4 : DataW.trod enc Tryz.prog w base sp held m 9 [c4] = some y4 := hf 4 _ rfl
      have k5 : DataW.trod enc Tryz.prog w base sp held m 9 [c5] = some y5 := hf 5 _ rfl
      obtain ⟨z0, e0, w0⟩ := trod_int_cell Tryz.underlying3 k0
      obtain ⟨z1, e1, w1⟩ := trod_int_cell Tryz.underlying3 k1
      obtain ⟨z2, e2, w2⟩ := trod_int_cell Tryz.underlying3 k2
      obtain ⟨z3, e3, w3⟩ := trod_int_cell Tryz.underlying3 k3
      obtain ⟨z4, e4, w4⟩ := trod_str_cell Tryz.underlying9 k4
      obtain ⟨z5, e5, w5⟩ := trod_str_cell Tryz.underlying9 k5
      simp only [List.cons.injEq, and_true] at e0 e1 e2 e3 e4 e5
      subst e0 e1 e2 e3 e4 e5
      exact ⟨⟨z0, z1, z2, z3, z4, z5⟩, rfl, i64_of_wf w0, i64_of_wf w1, i64_of_wf w2, i64_of_wf w3, w4, w5⟩
set_option maxRecDepth 100000 in
theorem trod_acts {cs : List Value} (h : DataW.trod enc Tryz.prog w base sp held n 23 cs = some x) : ∃ (v : Value) (l : List Mi.PAct), cs = [v] ∧ SlS 6 0 w.heap.size w v (l.map actL) ∧ ∀ o ∈ l, ActWf o := by
  obtain ⟨v, xs, h1, h2, h3⟩ := trod_slice_cells Tryz.underlying23 (sz := 6) (by kernel_rfl) (by omega) h
  obtain ⟨l, rfl, h5⟩ := list_of_relA (f := actL) (Q := ActWf) xs (fun c hc => by
    obtain ⟨m, y, hy⟩ := h3 c hc
    exact trod_act hy)
  exact ⟨v, l, h1, h2, h5⟩
end
def ActCells (w : World) (b off : Nat) (i : Nat) (x : Mi.PAct) : Prop :=
  w.cell? ⟨b, off + i * 6, none⟩ = some (.int .i64 x.do_) ∧ w.cell? ⟨b, off + i * 6 + 1, none⟩ = some (.int .i64 x.mirror) ∧ w.cell? ⟨b, off + i * 6 + 2, none⟩ = some (.int .i64 x.kind) ∧ w.cell? ⟨b, off + i * 6 + 3, none⟩ = some (.int .i64 x.n) ∧ w.cell? ⟨b, off + i * 6 + 4, none⟩ = some (.string ⟨x.name.toArray⟩) ∧ w.cell? ⟨b, off + i * 6 + 5, none⟩ = some (.string ⟨x.text.toArray⟩)
theorem act_cells {lo hi : Nat} {w : World} {v : Value} {X : List Mi.PAct} (h : SlS 6 lo hi w v (X.map actL)) :
    ∃ a cap, v = .slice a X.length cap ∧ X.length ≤ maxLen ∧ (X = [] ∨ ∃ b off, a = some ⟨b, off, none⟩ ∧ ∀ i (h : i < X.length), ActCells w b off i X[i]) := by
  obtain ⟨a, cap, rfl, hm, h⟩ := h.open_
  rw [List.length_map] at hm
  refine ⟨a, cap, by rw [List.length_map], hm, ?_⟩
  rcases h with h | ⟨b, off, rfl, _, hb1, hb, hc⟩
  · exact Or.inl (List.map_eq_nil_iff.1 h)
  · refine Or.inr ⟨b, off, rfl, fun i hi => ?_⟩
    have h2 := (hc i (by simpa using hi)).2
    simp only [List.getElem_map] at h2
    exact ⟨by rw [← Nat.add_zero (off + i * 6), h2 0 (by omega)]; rfl, by rw [h2 1 (by omega)]; rfl, by rw [h2 2 (by omega)]; rfl, by rw [h2 3 (by omega)]; rfl, by rw [h2 4 (by omega)]; rfl, by rw [h2 5 (by omega)]; rfl⟩
theorem ActCells.nw {w w' : World} {b off i : Nat} {x : Mi.PAct} (h : ActCells w b off i x) (u : Nw w w') : ActCells w' b off i x :=
  ⟨later_cell ⟨w', u⟩ h.1, later_cell ⟨w', u⟩ h.2.1, later_cell ⟨w', u⟩ h.2.2.1, later_cell ⟨w', u⟩ h.2.2.2.1, later_cell ⟨w', u⟩ h.2.2.2.2.1, later_cell ⟨w', u⟩ h.2.2.2.2.2⟩
/-! ### Few -/
def Few37 (l : List Mi.PAct) (k : Nat) (w : World) (e : Ending) (w' : World) : Prop := ∃ b, e = .returned (.bool b) ∧ (b = true → (l.length ≤ 30 ∧ k ≤ 5) ∧ ∀ x ∈ l, Mi.ActOk x) ∧ Nw w w'
set_option maxHeartbeats 2000000 in
set_option maxRecDepth 100000 in
theorem few37_w (lo hi : Nat) (v : Value) (l : List Mi.PAct) (am : Option Addr) (k cm : Nat) (hk : k ≤ maxLen) (w : World) (hv : SlS 6 lo hi w v (l.map actL)) (ho : ∀ o ∈ l, ActWf o) :
    Calls Tryz.prog 10 #[v, .int .i64 30, .slice am k cm] w (Few37 l k w) := by
  obtain ⟨a, cap, rfl, hm, ha⟩ := act_cells hv
  unfold maxLen at hm hk
  have Ha := Lib.hid ha; clear ha
  have Ho := Lib.hid ho; clear ho
  have hm1 : (l.length : Int) ≤ 9223372036854775807 := by omega
  have hk1 : (k : Int) ≤ 9223372036854775807 := by omega
  clear hm hk
  go_enter Tryz.func10, Tryz.ntmps10
  go_wp2_with fail
  go_loopw [7] (fun iv wr => ∃ j : Nat, j ≤ l.length ∧ j ≤ 31 ∧ iv = .int .i64 (j : Int) ∧ Hid (∀ i (h : i < l.length), i < j → Mi.ActOk l[i]) ∧ Hid (Nw w wr)) (fun iv _ => l.length - (intOf iv).toNat)
  case atStart => exact ⟨0, Nat.zero_le _, Nat.zero_le _, rfl, (fun j _ h => by omega), Upd.refl _ _⟩
  case round =>
    obtain ⟨j, hj, hj31, rfl, hall, u⟩ := hrel
    by_cases hlt : j < l.length
    · by_cases h31 : j < 31
      · have hlt1 : (j : Int) < l.length := by omega
        have h31b : (j : Int) ≤ 30 := by omega
        rcases Ha.out with hnil | ⟨b, off, rfl, hcell⟩
        · simp [hnil] at hlt
        · obtain ⟨c0, -, -, c3, c4, c5⟩ := (hcell j hlt).nw u.out
          have hok := Ho.out l[j] (List.getElem_mem hlt)
          have hok1 : (l[j].name.length : Int) ≤ 9223372036854775807 := by have := hok.s; omega
          have hok2 : (l[j].text.length : Int) ≤ 9223372036854775807 := by have := hok.t; omega
          have hnext : Mi.ActOk l[j] → Hid (∀ i (h : i < l.length), i < j + 1 → Mi.ActOk l[i]) := fun h100 i h hi => by
            by_cases e : i = j
            · subst e; exact h100
            · exact hall.out i h (by omega)
          have HNX := Lib.hid hnext
          clear hcell hok hnext hall
          generalize l[j] = x at *
          by_cases hx : (x.name.length : Int) ≤ 100
          rotate_left
          · go_wp2_with fail
            go_ret
            exact ⟨false, rfl, (fun h => by cases h), u.out⟩
          by_cases hx2 : (x.text.length : Int) ≤ 100
          rotate_left
          · go_wp2_with fail
            go_ret
            exact ⟨false, rfl, (fun h => by cases h), u.out⟩
          by_cases h2 : x.do_ = 2
          rotate_left
          · have hn := HNX.out ⟨by omega, by omega, fun e => absurd e h2⟩
            have hb2 : (x.do_ == 2) = false := by simp [h2]
            clear h2 HNX
            go_wp2_with fail
            go_roundw
            case rel => exact ⟨j + 1, by omega, by omega, by go_num, hn, u⟩
            case measure => simp [intOf]; omega
          have hb2 : (x.do_ == 2) = true := by simp [h2]
          by_cases h3 : x.n < 0
          · have d3 : decide (x.n < 0) = true := decide_eq_true h3
            clear h2 HNX h3
            go_wp2_with fail
            go_ret
            exact ⟨false, rfl, (fun h => by cases h), u.out⟩
          have d3 : decide (x.n < 0) = false := decide_eq_false h3
          by_cases h4 : 1000000 < x.n
          · have d4 : decide (1000000 < x.n) = true := decide_eq_true h4
            clear h2 HNX h3 h4
            go_wp2_with fail
            go_ret
            exact ⟨false, rfl, (fun h => by cases h), u.out⟩
          have d4 : decide (1000000 < x.n) = false := decide_eq_false h4
          have hn := HNX.out ⟨by omega, by omega, fun e => ⟨by omega, by omega⟩⟩
          clear h2 HNX h3 h4
          go_wp2_with fail
          go_roundw
          case rel => exact ⟨j + 1, by omega, by omega, by go_num, hn, u⟩
          case measure => simp [intOf]; omega
      · obtain rfl : j = 31 := by omega
        have hb : Hid (¬ l.length ≤ 30) := by show ¬ _; omega
        have hb3 : ¬ ((l.length : Int) ≤ 30) := by omega
        go_wp2_with fail
        go_ret
        exact ⟨false, rfl, (fun h => by cases h), u.out⟩
    · obtain rfl : j = l.length := by omega
      have hfin : Hid (∀ o ∈ l, Mi.ActOk o) := fun o hoo => by
        obtain ⟨i, hi, rfl⟩ := List.mem_iff_getElem.1 hoo
        exact hall.out i hi hi
      clear hall
      by_cases h30 : (l.length : Int) ≤ 30
      · by_cases h5 : (k : Int) ≤ 5
        · have hb : Hid (l.length ≤ 30 ∧ k ≤ 5) := ⟨by omega, by omega⟩
          go_wp2_with fail
          go_ret
          exact ⟨true, rfl, (fun h => ⟨hb.out, hfin.out⟩), u.out⟩
        · go_wp2_with fail
          go_ret
          exact ⟨false, rfl, (fun h => by cases h), u.out⟩
      · go_wp2_with fail
        go_ret
        exact ⟨false, rfl, (fun h => by cases h), u.out⟩
/-! ### Pick -/
theorem pick_w (i : Int) (hi : I64 i) (n : Nat) (hn : 0 < n ∧ n ≤ 5) (w : World) : Calls Tryz.prog 20 #[.int .i64 i, .int .i64 (n : Int)] w fun e w' => e = .returned (.int .i64 (Mi.pick i n : Nat)) ∧ Nw w w' := by
  have h1 := Int.natAbs_tmod i (n : Int)
  have h2 : i.natAbs % (n : Int).natAbs < (n : Int).natAbs := Nat.mod_lt _ (by omega)
  have hp := Mi.pick_lt i hn.1
  have hq : Hid (((Mi.pick i n : Nat) : Int) = (i.tmod n + n).tmod n) := by
    show _ = _
    unfold Mi.pick
    have := Int.tmod_nonneg (n : Int) (show 0 ≤ i.tmod n + n by omega)
    omega
  have hb : -5 < i.tmod n ∧ i.tmod n < 5 := by omega
  obtain ⟨hn1, hn2⟩ := hn
  have hn3 : ¬ (n : Int) = 0 := by omega
  have hn4 : (n : Int) ≤ 5 := by omega
  clear h1 h2 hp
  go_enter Tryz.func20, Tryz.ntmps20
  go_wp2_with fail
  go_ret
  rw [hq.out]
  exact ⟨rfl, Upd.refl _ _⟩
/-! ### Line -/
abbrev aO (a : Mi.PAct) : Obj := .cells #[.int .i64 a.do_, .int .i64 a.mirror, .int .i64 a.kind, .int .i64 a.n, .string ⟨a.name.toArray⟩, .string ⟨a.text.toArray⟩] 41
set_option maxRecDepth 100000 in
theorem line_w (a : Mi.PAct) (ha : Mi.ActOk a) (w : World) (g : Gl w) : Calls Tryz.prog 22 #[.agg #[.int .i64 a.do_, .int .i64 a.mirror, .int .i64 a.kind, .int .i64 a.n, .string ⟨a.name.toArray⟩, .string ⟨a.text.toArray⟩]] w fun e w' => e = .returned (.string ⟨(Mi.line a).toArray⟩) ∧ (Mi.line a).length ≤ 300 ∧ Nw w w' := by
  have n1 := nw_alloc w (aO a)
  have k1 := heap_new w (aO a)
  obtain ⟨w1, hw1⟩ : ∃ w1, w.alloc (aO a) = w1 := ⟨_, rfl⟩
  have HW1 : Hid (w.alloc (.cells #[.int .i64 a.do_, .int .i64 a.mirror, .int .i64 a.kind, .int .i64 a.n, .string ⟨a.name.toArray⟩, .string ⟨a.text.toArray⟩] 41) = w1) := hw1
  rw [hw1] at n1 k1
  obtain ⟨b, hb⟩ : ∃ b, w.heap.size = b := ⟨_, rfl⟩
  rw [hb] at k1
  have HN := Lib.hid n1
  have h1 := ha.name
  have h2 := ha.text
  have TF := Lib.hid (fun (z : World) => Text_q ⟨a.name.toArray⟩ a.name (bs_list _) z (by omega))
  have c4 : ∀ t : Later w1, t.1.cell? ⟨b, 4, none⟩ = some (.string ⟨a.name.toArray⟩) := fun t => by rw [cells_cell (Nw.keep t.nw k1)]; rfl
  have c5 : ∀ t : Later w1, t.1.cell? ⟨b, 5, none⟩ = some (.string ⟨a.text.toArray⟩) := fun t => by rw [cells_cell (Nw.keep t.nw k1)]; rfl
  have hl : Hid (Mi.line a = Wire.textE a.name ++ a.text) := by show _ = _; rfl
  have hE : (Wire.textE a.name).length ≤ 200 := by
    have : ∀ n : Nat, n ≤ 100 → (Lib.itoa (n : Int)).length ≤ 20 := by decide +kernel
    unfold Wire.textE
    have := this a.name.length h1
    simp
    omega
  have HL2 : Hid ((Mi.line a).length ≤ 300) := by
    show _ ≤ _
    rw [hl.out, List.length_append]; omega
  have hE1 : ((Wire.textE a.name).length : Int) ≤ 200 := by omega
  have hE2 : (a.text.length : Int) ≤ 100 := by omega
  generalize Wire.textE a.name = E at *
  generalize a.name = nm at *
  generalize a.text = tx at *
  clear n1 k1 hw1 h1 h2 hE
  go_enter Tryz.func22, Tryz.ntmps22
  go_upto_region 1 with fail
  rw [HW1.out]
  (try rw [hb])
  refine wp_region_nw (by kernel_rfl) (by kernel_rfl) ?_
  repeat (go_big_quiet_step (((go_at_call 80; exact later_call (TF.out _)))))
  refine wpQuiet_nil ?_
  intro w6 u6
  replace u6 := later_out u6
  have HU : Hid (Nw w w6) := HN.out.trans u6
  clear u6 c4 c5 TF
  go_wp2_with fail
  go_ret
  refine ⟨?_, HL2.out, HU.out⟩
  rw [hl.out, ← bs_append]
  rfl
end Go.Proofs.YtagmlemlagbfkaaGreatDoor
