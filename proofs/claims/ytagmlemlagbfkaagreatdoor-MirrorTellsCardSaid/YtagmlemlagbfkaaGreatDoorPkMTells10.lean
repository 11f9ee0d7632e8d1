/- The contracts of what the view asks of the library: slices.IndexFunc and ContainsFunc over claims, Index and Contains over signatures, Clone; and of Claims. A region that draws its order and both reads cells and, later, writes them: a load may be taken first though one of the region's last operations writes its cell, if that operation waits for the load. The condition on the world is asked only until that operation has come up. -/
import Derived.Test.YtagmlemlagbfkaaGreatDoorPkMTells7
import Derived.Test.YtagmlemlagbfkaaGreatDoorPkMTells8
import Derived.Test.YtagmlemlagbfkaaGreatDoorPkMTells0
import Derived.OrdersHeld
import Derived.StillTail
import Derived.Deep.AppendLies
namespace Go.Proofs.YtagmlemlagbfkaaGreatDoor
open Go.RowKit
set_option linter.unusedVariables false
set_option linter.unusedSimpArgs false
attribute [local irreducible] Calls

theorem cell4' {w : World} {b : Nat} {a0 a1 a2 a3 : Value} {T : TypeId} (h : w.heap[b]? = some (.cells #[a0, a1, a2, a3] T (0, 0))) :
    w.cell? ⟨b, 0, none⟩ = some a0 ∧ w.cell? ⟨b, 1, none⟩ = some a1 ∧ w.cell? ⟨b, 2, none⟩ = some a2 ∧ w.cell? ⟨b, 3, none⟩ = some a3 := by
  refine ⟨?_, ?_, ?_, ?_⟩ <;> (rw [cells_cell h]; rfl)
def clmO (c : Cl.Clm) : Obj := .cells #[.int .i64 c.kind, .int .i64 c.n, .int .i64 c.time, .string ⟨c.text.toArray⟩] tC
theorem pred_a (x c : Cl.Clm) (ix : I64C x) (ic : I64C c) (b : Nat) (w : World) (g : Gl w) (hb : w.heap[b]? = some (clmO c)) :
    Calls Tryz.prog 76 #[.agg #[.int .i64 x.kind, .int .i64 x.n, .int .i64 x.time, .string ⟨x.text.toArray⟩], .pointer (some ⟨b, 0, none⟩)] w fun e w' => e = .returned (.bool (Cl.contra x c)) ∧ Nw w w' := by
  unfold clmO at hb
  have n1 := nw_alloc w (.cells #[.int .i64 x.kind, .int .i64 x.n, .int .i64 x.time, .string ⟨x.text.toArray⟩] tC)
  have k1 := heap_new w (.cells #[.int .i64 x.kind, .int .i64 x.n, .int .i64 x.time, .string ⟨x.text.toArray⟩] tC)
  obtain ⟨_, _, _, _⟩ := cell4' (n1.keep hb)
  obtain ⟨_, _, _, _⟩ := cell4' k1
  have q := contra_c x c ⟨x.text.toArray⟩ ⟨c.text.toArray⟩ (bs_list _) (bs_list _) ix ic _ (g.upd n1)
  have Q := Lib.hid q
  clear k1 q
  go_enter Tryz.func76, Tryz.ntmps76
  go_wp2_with fail
  (with_reducible refine (Q.out).mono ?_)
  rintro _ w2 ⟨rfl, u2⟩
  go_wp2_with fail
  go_ret
  exact ⟨rfl, n1.trans u2⟩
theorem pred_l (x c : Cl.Clm) (ix : I64C x) (ic : I64C c) (b : Nat) (w : World) (g : Gl w) (hb : w.heap[b]? = some (clmO c)) :
    Calls Tryz.prog 144 #[.agg #[.int .i64 x.kind, .int .i64 x.n, .int .i64 x.time, .string ⟨x.text.toArray⟩], .pointer (some ⟨b, 0, none⟩)] w fun e w' => e = .returned (.bool (Cl.contra x c)) ∧ Nw w w' := by
  unfold clmO at hb
  have n1 := nw_alloc w (.cells #[.int .i64 x.kind, .int .i64 x.n, .int .i64 x.time, .string ⟨x.text.toArray⟩] tC)
  have k1 := heap_new w (.cells #[.int .i64 x.kind, .int .i64 x.n, .int .i64 x.time, .string ⟨x.text.toArray⟩] tC)
  obtain ⟨_, _, _, _⟩ := cell4' (n1.keep hb)
  obtain ⟨_, _, _, _⟩ := cell4' k1
  have q := contra_c x c ⟨x.text.toArray⟩ ⟨c.text.toArray⟩ (bs_list _) (bs_list _) ix ic _ (g.upd n1)
  have Q := Lib.hid q
  clear k1 q
  go_enter Tryz.func144, Tryz.ntmps144
  go_wp2_with fail
  (with_reducible refine (Q.out).mono ?_)
  rintro _ w2 ⟨rfl, u2⟩
  go_wp2_with fail
  go_ret
  exact ⟨rfl, n1.trans u2⟩
theorem clm_cells {lo hi : Nat} {w : World} {v : Value} {X : List Cl.Clm} (h : SlS 4 lo hi w v (X.map cml)) :
    ∃ a cap, v = .slice a X.length cap ∧ X.length ≤ maxLen ∧ (X = [] ∨ ∃ b off, a = some ⟨b, off, none⟩ ∧ b < hi ∧ b < w.heap.size ∧ ∀ i (h : i < X.length),
      w.cell? ⟨b, off + i * 4, none⟩ = some (.int .i64 X[i].kind) ∧ w.cell? ⟨b, off + i * 4 + 1, none⟩ = some (.int .i64 X[i].n) ∧ w.cell? ⟨b, off + i * 4 + 2, none⟩ = some (.int .i64 X[i].time) ∧ w.cell? ⟨b, off + i * 4 + 3, none⟩ = some (.string ⟨X[i].text.toArray⟩)) := by
  obtain ⟨a, cap, rfl, hm, h⟩ := h.open_
  rw [List.length_map] at hm
  refine ⟨a, cap, by rw [List.length_map], hm, ?_⟩
  rcases h with h | ⟨b, off, rfl, _, hb1, hb, hc⟩
  · exact Or.inl (List.map_eq_nil_iff.1 h)
  · refine Or.inr ⟨b, off, rfl, hb1, hb, fun i hi => ?_⟩
    have h2 := (hc i (by simpa using hi)).2
    simp only [List.getElem_map] at h2
    exact ⟨by rw [← Nat.add_zero (off + i * 4), h2 0 (by omega)]; rfl, by rw [h2 1 (by omega)]; rfl, by rw [h2 2 (by omega)]; rfl, by rw [h2 3 (by omega)]; rfl⟩
theorem sgn_cells {lo hi : Nat} {w : World} {v : Value} {X : List Bk.Sgn} (h : SlS 3 lo hi w v (X.map sgl)) :
    ∃ a cap, v = .slice a X.length cap ∧ X.length ≤ maxLen ∧ (X = [] ∨ ∃ b off, a = some ⟨b, off, none⟩ ∧ b < hi ∧ b < w.heap.size ∧ ∀ i (h : i < X.length),
      w.cell? ⟨b, off + i * 3, none⟩ = some (.int .i64 X[i].key) ∧ w.cell? ⟨b, off + i * 3 + 1, none⟩ = some (.string ⟨X[i].text.toArray⟩) ∧ w.cell? ⟨b, off + i * 3 + 2, none⟩ = some (.int .i64 X[i].mark)) := by
  obtain ⟨a, cap, rfl, hm, h⟩ := h.open_
  rw [List.length_map] at hm
  refine ⟨a, cap, by rw [List.length_map], hm, ?_⟩
  rcases h with h | ⟨b, off, rfl, _, hb1, hb, hc⟩
  · exact Or.inl (List.map_eq_nil_iff.1 h)
  · refine Or.inr ⟨b, off, rfl, hb1, hb, fun i hi => ?_⟩
    have h2 := (hc i (by simpa using hi)).2
    simp only [List.getElem_map] at h2
    exact ⟨by rw [← Nat.add_zero (off + i * 3), h2 0 (by omega)]; rfl, by rw [h2 1 (by omega)]; rfl, by rw [h2 2 (by omega)]; rfl⟩
theorem clm_sls {B : Nat} {w : World} {v : Value} {L : List Bk.Sgn} (h : w.ownsRow B tC 4 v L.length (flatM L)) : SlS 4 B w.heap.size w v ((L.map Vw.claimOf).map cml) :=
  SlS.of_owns (by rw [List.map_map]; exact h) (by simp) (by omega) (fun y hy => by
    obtain ⟨z, _, rfl⟩ := List.mem_map.1 hy
    rfl)
theorem sgn_sls {B : Nat} {w : World} {v : Value} {L : List Bk.Sgn} (h : w.ownsRow B tSigned 3 v L.length (flatS L)) : SlS 3 B w.heap.size w v (L.map sgl) :=
  SlS.of_owns h (by simp) (by omega) (fun y hy => by
    obtain ⟨z, _, rfl⟩ := List.mem_map.1 hy
    rfl)
/-- The place of the first one of which p holds, or -1. -/
def idxI {α : Type} (p : α → Bool) (X : List α) : Int := match X.findIdx? p with
  | some i => i
  | none => -1
theorem idx_hit {α : Type} {p : α → Bool} {X : List α} {n : Nat} (hn : n < X.length) (hp : p X[n] = true) (hno : ∀ j (h : j < X.length), j < n → p X[j] = false) : idxI p X = n := by
  have : X.findIdx? p = some n := by
    rw [List.findIdx?_eq_some_iff_getElem]
    exact ⟨hn, hp, fun j hj => by rw [hno j (by omega) hj]; simp⟩
  unfold idxI; rw [this]
theorem idx_miss {α : Type} {p : α → Bool} {X : List α} (hno : ∀ j (h : j < X.length), p X[j] = false) : idxI p X = -1 := by
  have : X.findIdx? p = none := by
    rw [List.findIdx?_eq_none_iff]
    intro x hx
    obtain ⟨j, hj, rfl⟩ := List.mem_iff_getElem.1 hx
    exact hno j hj
  unfold idxI; rw [this]
theorem idx_any {α : Type} (p : α → Bool) (X : List α) : decide (0 ≤ idxI p X) = X.any p := by
  unfold idxI
  cases h : X.findIdx? p with
  | none =>
    have := List.findIdx?_eq_none_iff.1 h
    rw [Bool.eq_iff_iff]
    simp only [decide_eq_true_eq, List.any_eq_true]
    constructor
    · intro h; omega
    · rintro ⟨x, hx, hp⟩; rw [this x hx] at hp; cases hp
  | some i =>
    obtain ⟨hi, hp, _⟩ := List.findIdx?_eq_some_iff_getElem.1 h
    rw [Bool.eq_iff_iff]
    simp only [decide_eq_true_eq, List.any_eq_true]
    exact ⟨fun _ => ⟨X[i], List.getElem_mem hi, hp⟩, fun _ => by omega⟩
set_option maxHeartbeats 1000000 in
theorem indexFunc_v (gf : Nat) (cb : Nat) (eg : ∀ args w, (callFunc gf args).run Tryz.prog w = .ok (.enter gf args) w) (p : Cl.Clm → Bool) (lo hi : Nat) (v : Value) (X : List Cl.Clm) (w : World) (hv : SlS 4 lo hi w v (X.map cml)) (hX : X.length ≤ 1000000)
    (hp : ∀ W x, Nw w W → x ∈ X → Calls Tryz.prog gf #[.agg #[.int .i64 x.kind, .int .i64 x.n, .int .i64 x.time, .string ⟨x.text.toArray⟩], .pointer (some ⟨cb, 0, none⟩)] W fun e w' => e = .returned (.bool (p x)) ∧ Nw W w') :
    Calls Tryz.prog 132 #[v, .func (.func gf) #[] #[.pointer (some ⟨cb, 0, none⟩)]] w fun e w' => e = .returned (.int .i64 (idxI p X)) ∧ Nw w w' := by
  obtain ⟨a, cap, rfl, hm, ha⟩ := clm_cells hv
  have Ha := Lib.hid ha; clear ha
  have Hp := Lib.hid hp; clear hp hv
  unfold maxLen at hm
  go_enter Tryz.func132, Tryz.ntmps132
  go_wp2_with fail
  go_loopw [8] (fun i wr => ∃ n : Nat, n ≤ X.length ∧ i = .int .i64 n ∧ Hid (∀ j (h : j < X.length), j < n → p X[j] = false) ∧ Nw w wr) (fun i _ => X.length - (intOf i).toNat)
  case atStart => exact ⟨0, Nat.zero_le _, rfl, fun j _ h => absurd h (Nat.not_lt_zero _), Upd.refl _ _⟩
  case round =>
    obtain ⟨n, hn, rfl, hall, u⟩ := hrel
    by_cases hlt : n < X.length
    · rcases Ha.out with hnil | ⟨b, o, rfl, _, hb, hc⟩
      · simp [hnil] at hlt
      obtain ⟨p0, p1, p2, p3⟩ := hc n hlt
      have d0 := ((Nw.below u).cell (p := ⟨b, o + n * 4, none⟩) hb).trans p0
      have d1 := ((Nw.below u).cell (p := ⟨b, o + n * 4 + 1, none⟩) hb).trans p1
      have d2 := ((Nw.below u).cell (p := ⟨b, o + n * 4 + 2, none⟩) hb).trans p2
      have d3 := ((Nw.below u).cell (p := ⟨b, o + n * 4 + 3, none⟩) hb).trans p3
      clear hc p0 p1 p2 p3
      have hcall := Hp.out wr X[n] u (List.getElem_mem hlt)
      have hnext : p X[n] = false → Hid (∀ j (h : j < X.length), j < n + 1 → p X[j] = false) := fun e j h hj => by
        by_cases ej : j = n
        · subst ej; exact e
        · exact hall.out j h (by omega)
      have hstop : p X[n] = true → Hid (idxI p X = n) := fun e => idx_hit hlt e hall.out
      generalize p X[n] = q at *
      generalize X[n] = x at *
      have Hcall := Lib.hid hcall; clear hcall
      cases q with
      | true =>
        have hr := hstop rfl
        clear hstop hnext
        go_wp2_with (go_at_fn gf; (with_reducible refine Hcall.out.mono ?_); rintro _ w2 ⟨rfl, u2⟩)
        go_ret
        exact ⟨ret_int hr.out.symm, u.trans u2⟩
      | false =>
        have hr := hnext rfl
        clear hstop hnext
        go_wp2_with (go_at_fn gf; (with_reducible refine Hcall.out.mono ?_); rintro _ w2 ⟨rfl, u2⟩)
        go_roundw
        case rel => exact ⟨n + 1, by omega, by go_num, hr, u.trans u2⟩
        case measure => simp [intOf]; omega
    · have hr : Hid (idxI p X = -1) := idx_miss (fun j h => hall.out j h (by omega))
      go_wp2_with fail
      go_ret
      exact ⟨ret_int hr.out.symm, u⟩
theorem containsFunc_v (gf : Nat) (cb : Nat) (eg : ∀ args w, (callFunc gf args).run Tryz.prog w = .ok (.enter gf args) w) (p : Cl.Clm → Bool) (lo hi : Nat) (v : Value) (X : List Cl.Clm) (w : World) (hv : SlS 4 lo hi w v (X.map cml)) (hX : X.length ≤ 1000000)
    (hp : ∀ W x, Nw w W → x ∈ X → Calls Tryz.prog gf #[.agg #[.int .i64 x.kind, .int .i64 x.n, .int .i64 x.time, .string ⟨x.text.toArray⟩], .pointer (some ⟨cb, 0, none⟩)] W fun e w' => e = .returned (.bool (p x)) ∧ Nw W w') :
    Calls Tryz.prog 75 #[v, .func (.func gf) #[] #[.pointer (some ⟨cb, 0, none⟩)]] w fun e w' => e = .returned (.bool (X.any p)) ∧ Nw w w' := by
  obtain ⟨a, cap, hv', _⟩ := clm_cells hv
  subst hv'
  have q := indexFunc_v gf cb eg p lo hi _ X w hv hX hp
  have Q := Lib.hid q
  have hr := Lib.hid (idx_any p X)
  clear q hv hp
  generalize idxI p X = m at *
  go_enter Tryz.func75, Tryz.ntmps75
  go_wp2_with fail
  (with_reducible refine (Q.out).mono ?_)
  rintro _ w2 ⟨rfl, u2⟩
  go_wp2_with fail
  all_goals go_ret
  all_goals exact ⟨ret_bool (by first | (rw [← hr.out]; done) | (rw [← hr.out]; simp_all)), u2⟩
theorem sgn_far (x y : Bk.Sgn) (h : x ≠ y) : (x.key == y.key) = false ∨ (x.key == y.key) = true ∧ (x.text == y.text) = false ∨ (x.key == y.key) = true ∧ (x.text == y.text) = true ∧ (x.mark == y.mark) = false := by
  by_cases h1 : x.key = y.key
  · by_cases h2 : x.text = y.text
    · refine Or.inr (Or.inr ⟨beq_iff_eq.2 h1, beq_iff_eq.2 h2, beq_eq_false_iff_ne.2 fun h3 => h ?_⟩)
      cases x; cases y; simp_all
    · exact Or.inr (Or.inl ⟨beq_iff_eq.2 h1, beq_eq_false_iff_ne.2 h2⟩)
  · exact Or.inl (beq_eq_false_iff_ne.2 h1)
set_option maxHeartbeats 1000000 in
theorem index_v (lo hi : Nat) (v : Value) (X : List Bk.Sgn) (s : Bk.Sgn) (w : World) (hv : SlS 3 lo hi w v (X.map sgl)) (hX : X.length ≤ 1000000) :
    Calls Tryz.prog 135 #[v, .agg #[.int .i64 s.key, .string ⟨s.text.toArray⟩, .int .i64 s.mark]] w fun e w' => e = .returned (.int .i64 (idxI (fun x => decide (x = s)) X)) ∧ Nw w w' := by
  obtain ⟨a, cap, rfl, hm, ha⟩ := sgn_cells hv
  have Ha := Lib.hid ha; clear ha hv
  unfold maxLen at hm
  have n1 := nw_alloc w (.cells #[.int .i64 s.key, .string ⟨s.text.toArray⟩, .int .i64 s.mark] tSigned)
  have k1 := heap_new w (.cells #[.int .i64 s.key, .string ⟨s.text.toArray⟩, .int .i64 s.mark] tSigned)
  generalize hW : w.alloc (.cells #[.int .i64 s.key, .string ⟨s.text.toArray⟩, .int .i64 s.mark] tSigned) = W at *
  have HW := Lib.hid hW
  have K1 := Lib.hid k1
  clear hW k1
  go_enter Tryz.func135, Tryz.ntmps135
  go_wp2_with fail
  rw [HW.out]
  go_loopw [8] (fun i wr => ∃ n : Nat, n ≤ X.length ∧ i = .int .i64 n ∧ Hid (∀ j (h : j < X.length), j < n → (decide (X[j] = s)) = false) ∧ Nw W wr) (fun i _ => X.length - (intOf i).toNat)
  case atStart => exact ⟨0, Nat.zero_le _, rfl, fun j _ h => absurd h (Nat.not_lt_zero _), Upd.refl _ _⟩
  case round =>
    obtain ⟨n, hn, rfl, hall, u'⟩ := hrel
    obtain ⟨_, _, _⟩ := cell3 (u'.keep K1.out)
    have u := n1.trans u'
    by_cases hlt : n < X.length
    · rcases Ha.out with hnil | ⟨b, o, rfl, _, hb, hc⟩
      · simp [hnil] at hlt
      obtain ⟨p0, p1, p2⟩ := hc n hlt
      have d0 := ((Nw.below u).cell (p := ⟨b, o + n * 3, none⟩) hb).trans p0
      have d1 := ((Nw.below u).cell (p := ⟨b, o + n * 3 + 1, none⟩) hb).trans p1
      have d2 := ((Nw.below u).cell (p := ⟨b, o + n * 3 + 2, none⟩) hb).trans p2
      clear hc p0 p1 p2
      have hnext : X[n] ≠ s → Hid (∀ j (h : j < X.length), j < n + 1 → (decide (X[j] = s)) = false) := fun e j h hj => by
        by_cases ej : j = n
        · subst ej; exact decide_eq_false e
        · exact hall.out j h (by omega)
      have hstop : X[n] = s → Hid (idxI (fun x => decide (x = s)) X = n) := fun e => idx_hit hlt (decide_eq_true e) hall.out
      generalize X[n] = x at *
      by_cases he : s = x
      · subst he
        have hr := hstop rfl
        clear hstop hnext
        go_wp2_with fail
        go_quiet (fail)
        obtain ⟨w1, ew, u1⟩ := nw_drewN wr nq
        rw [ew]; clear ew
        go_wp2_with fail
        go_ret
        exact ⟨ret_int hr.out.symm, u.trans u1⟩
      · have hr := hnext (fun e => he e.symm)
        have hf := sgn_far s x he
        clear hnext hstop he
        rcases hf with hf | ⟨hf, hf2⟩ | ⟨hf, hf2, hf3⟩
        all_goals
          go_wp2_with fail
          go_quiet (fail)
          obtain ⟨w1, ew, u1⟩ := nw_drewN wr nq
          rw [ew]; clear ew
          go_wp2_with fail
          go_roundw
          case rel => exact ⟨n + 1, by omega, by go_num, hr, u'.trans u1⟩
          case measure => simp [intOf]; omega
    · have hr : Hid (idxI (fun x => decide (x = s)) X = -1) := idx_miss (fun j h => hall.out j h (by omega))
      go_wp2_with fail
      go_ret
      exact ⟨ret_int hr.out.symm, u⟩
theorem contains_v (lo hi : Nat) (v : Value) (X : List Bk.Sgn) (s : Bk.Sgn) (w : World) (hv : SlS 3 lo hi w v (X.map sgl)) (hX : X.length ≤ 1000000) :
    Calls Tryz.prog 78 #[v, .agg #[.int .i64 s.key, .string ⟨s.text.toArray⟩, .int .i64 s.mark]] w fun e w' => e = .returned (.bool (decide (s ∈ X))) ∧ Nw w w' := by
  have n1 := nw_alloc w (.cells #[.int .i64 s.key, .string ⟨s.text.toArray⟩, .int .i64 s.mark] tSigned)
  have k1 := heap_new w (.cells #[.int .i64 s.key, .string ⟨s.text.toArray⟩, .int .i64 s.mark] tSigned)
  obtain ⟨a, cap, hv', _⟩ := sgn_cells hv
  subst hv'
  have Q := Lib.hid (index_v lo hi _ X s _ (hv.nw n1) hX)
  have hr : Hid (decide (0 ≤ idxI (fun x => decide (x = s)) X) = decide (s ∈ X)) := by
    show _ = _
    rw [idx_any, Bool.eq_iff_iff]
    simp
  obtain ⟨_, _, _⟩ := cell3 k1
  clear k1 hv
  generalize idxI (fun x => decide (x = s)) X = m at *
  go_enter Tryz.func78, Tryz.ntmps78
  go_wp2_with fail
  (with_reducible refine (Q.out).mono ?_)
  rintro _ w2 ⟨rfl, u2⟩
  go_wp2_with fail
  all_goals go_ret
  all_goals exact ⟨ret_bool (by first | (rw [← hr.out]; done) | (rw [← hr.out]; simp_all)), n1.trans u2⟩
end Go.Proofs.YtagmlemlagbfkaaGreatDoor
namespace Go.Proofs.YtagmlemlagbfkaaGreatDoor
open Go.RowKit
set_option linter.unusedVariables false
set_option linter.unusedSimpArgs false

section
variable {P : Program} {ops : Array Oper} {Q : Exit → Act → World → Prop} {md : Region.Mode} {S : World → Prop} {k : Nat}

/-- What has come up has come up behind all that it waits for. -/
def Closed (md : Region.Mode) (ops : Array Oper) (listed : Array Bool) : Prop := ∀ j oj, ops[j]? = some oj → listed.getD j false = true → ∀ e ∈ oj.after, Region.binds md e = true → listed.getD e.on false = true
def closedB (md : Region.Mode) (ops : Array Oper) (listed : Array Bool) : Bool :=
  (List.range ops.size).all fun j => !listed.getD j false || (match ops[j]? with | some oj => oj.after.all fun e => !Region.binds md e || listed.getD e.on false | none => true)
theorem closed_of {listed : Array Bool} (h : closedB md ops listed = true) : Closed md ops listed := by
  intro j oj hj hl e he hb
  unfold closedB at h
  rw [List.all_eq_true] at h
  have h1 := h j (List.mem_range.2 (Array.getElem?_eq_some_iff.1 hj).1)
  rw [hl, hj] at h1
  simp only [Bool.not_true, Bool.false_or] at h1
  have h2 := Array.all_eq_true'.1 h1 e he
  rw [hb] at h2
  simpa using h2
theorem Closed.set {i : Nat} {listed : Array Bool} (inv : Closed md ops listed) (hi : i ∈ Region.ready md ops listed) : Closed md ops (listed.setIfInBounds i true) := by
  obtain ⟨_, oi, hoi, hall⟩ := mem_ready.1 hi
  intro j oj hj hl e he hb
  by_cases hij : i = j
  · subst hij
    have : oj = oi := Option.some.inj (hj.symm.trans hoi)
    subst this
    exact getD_set_true (hall e he hb)
  · rw [getD_set_ne false hij] at hl
    exact getD_set_true (inv j oj hj hl e he hb)
/-- Number k waits for number i, by way of others. -/
def leads (md : Region.Mode) (ops : Array Oper) : Nat → List Nat → Nat → Bool
  | k, [], i => Region.waitsFor md ops k i
  | k, j :: p, i => Region.waitsFor md ops k j && leads md ops j p i
theorem leads_spec {listed : Array Bool} (hc : Closed md ops listed) {i : Nat} : ∀ (p : List Nat) (k : Nat), leads md ops k p i = true → listed.getD k false = true → listed.getD i false = true
  | [], k, h, hk => by
    obtain ⟨oj, hoj, e, he, hb, hon⟩ := Region.waitsFor_spec h
    have := hc k oj hoj hk e he hb
    rwa [hon] at this
  | j :: p, k, h, hk => by
    unfold leads at h
    rw [Bool.and_eq_true] at h
    obtain ⟨oj, hoj, e, he, hb, hon⟩ := Region.waitsFor_spec h.1
    have := hc k oj hoj hk e he hb
    rw [hon] at this
    exact leads_spec hc p j h.2 this
/-- Whatever order is picked from here on, and S holds behind every operation till number k has come up. -/
def wpAnyG (P : Program) (md : Region.Mode) (ops : Array Oper) (Q : Exit → Act → World → Prop) (S : World → Prop) (k : Nat) : Nat → Array Bool → Act → World → Prop
  | 0, listed, a, w => Region.ready md ops listed = [] ∧ Q .normal a w
  | fuel + 1, listed, a, w =>
    (Region.ready md ops listed = [] → Q .normal a w) ∧
    ∀ i ∈ Region.ready md ops listed, wpOp P ops Q i (fun a' w' => ((listed.setIfInBounds i true).getD k false = false → S w') ∧ wpAnyG P md ops Q S k fuel (listed.setIfInBounds i true) a' w') a w
theorem wpAny_of_G : ∀ (fuel : Nat) (listed : Array Bool) (a : Act) (w : World), wpAnyG P md ops Q S k fuel listed a w → wpAny P md ops Q fuel listed a w
  | 0, _, _, _, h => h
  | fuel + 1, _, _, _, h => ⟨h.1, fun i hi => wpOp_mono (fun a' w' h' => wpAny_of_G fuel _ a' w' h'.2) (h.2 i hi)⟩
theorem wpAnyG_first {S' : World → Prop} {i : Nat} {oi : Oper} {v : Value} (hi : ops[i]? = some oi) (hik : i ≠ k) (hsel : ∀ (j : Nat) (o : Oper) cs b, ops[j]? = some o → o.op ≠ .select cs b)
    (hQ : ∀ c a w, Q (.panic c) (a.put oi.dst v) w → Q (.panic c) a w) (hT : ∀ listed w, Closed md ops listed → listed.getD i true = false → (listed.getD k false = false → S w) → S' w) :
    ∀ (fuel : Nat) (listed : Array Bool) (a : Act) (w : World),
      (∀ j oj, ops[j]? = some oj → j ≠ i → listed.getD j true = false → (∀ e ∈ oj.after, Region.binds md e = true → e.on ≠ i) → oi.apart ops oj = true) →
      Closed md ops listed → i ∈ Region.ready md ops listed → YieldsIf P ops S' oi v a → (listed.getD k false = false → S w) →
      wpAnyG P md ops Q S k fuel (listed.setIfInBounds i true) (a.put oi.dst v) w → wpAnyG P md ops Q S k (fuel + 1) listed a w := by
  intro fuel
  induction fuel with
  | zero =>
    intro listed a w _ hc hr hy hS H
    refine ⟨fun h => (by rw [h] at hr; cases hr), fun j hj => ?_⟩
    by_cases hji : j = i
    · subst hji
      exact hy.wpOp hi (hT _ _ hc (mem_ready.1 hr).1 hS) ⟨fun h => hS (by rwa [getD_set_ne false hik] at h), H⟩
    · have := ready_mono hj hji
      rw [H.1] at this
      cases this
  | succ fuel ih =>
    intro listed a w hfree hc hr hy hS H
    refine ⟨fun h => (by rw [h] at hr; cases hr), fun j hj => ?_⟩
    by_cases hji : j = i
    · subst hji
      exact hy.wpOp hi (hT _ _ hc (mem_ready.1 hr).1 hS) ⟨fun h => hS (by rwa [getD_set_ne false hik] at h), H⟩
    · have h1 := H.2 j (ready_mono hj hji)
      obtain ⟨hjun, oj, hoj, hall⟩ := mem_ready.1 hj
      have hiun := (mem_ready.1 hr).1
      have hnot : ∀ e ∈ oj.after, Region.binds md e = true → e.on ≠ i := fun e he hb heq => by
        have h1 := hall e he hb
        rw [heq, getD_both hiun] at h1
        cases h1
      have h2 := wpOp_putIf hoj (hfree j oj hoj hji hjun hnot) (fun cs b => hsel i oi cs b hi) (fun cs b => hsel j oj cs b hoj) hQ hy h1
      have hfree' : ∀ k ok, ops[k]? = some ok → k ≠ i → (listed.setIfInBounds j true).getD k true = false →
          (∀ e ∈ ok.after, Region.binds md e = true → e.on ≠ i) → oi.apart ops ok = true := fun k ok hk hki hun hno => by
        refine hfree k ok hk hki ?_ hno
        by_cases hjk : j = k
        · subst hjk; exact hjun
        · rw [getD_set_ne true hjk] at hun; exact hun
      refine wpOp_mono (fun a' w' h3 => ?_) h2
      have hS' : (listed.setIfInBounds j true).getD k false = false → S w' := fun h => h3.2.1 (by
        rw [Array.setIfInBounds_comm _ _ (Ne.symm hji), getD_set_ne false hik]
        exact h)
      refine ⟨hS', ih (listed.setIfInBounds j true) a' w' hfree' (hc.set hj) (ready_mono hr (Ne.symm hji)) h3.1 hS' ?_⟩
      rw [Array.setIfInBounds_comm _ _ hji]
      exact h3.2.2
/-- Take number i first: it yields in whatever world. -/
theorem wpAnyG_pure {i : Nat} {oi : Oper} {v : Value} {fuel : Nat} {listed : Array Bool} {a : Act} {w : World} (hi : ops[i]? = some oi) (hik : (i == k) = false)
    (hs : Region.noSelect ops = true) (hf : Region.free md ops listed i = true) (hr : (Region.ready md ops listed).contains i = true) (hc : closedB md ops listed = true)
    (hQ : ∀ c a w, Q (.panic c) (a.put oi.dst v) w → Q (.panic c) a w) (hw : Region.wanted oi (yielded ops a.tmps) = true) (hy : ∀ w, (execOp a.eval oi).run P w = .ok (.value v) w) (hS : listed.getD k false = false → S w)
    (h : wpAnyG P md ops Q S k fuel (listed.setIfInBounds i true) (a.put oi.dst v) w) : wpAnyG P md ops Q S k (fuel + 1) listed a w :=
  wpAnyG_first (S' := fun _ => True) hi (by simpa using hik) (Region.noSelect_spec hs) hQ (fun _ _ _ _ _ => trivial) fuel listed a w (Region.free_spec hi hf) (closed_of hc) (by simpa using hr) (Or.inl ⟨hw, fun w _ => hy w⟩) hS h
/-- Take number i first: it yields in the worlds of S, and number k waits for it. -/
theorem wpAnyG_load {i : Nat} {oi : Oper} {v : Value} {fuel : Nat} {listed : Array Bool} {a : Act} {w : World} (p : List Nat) (hi : ops[i]? = some oi) (hik : (i == k) = false) (hp : leads md ops k p i = true)
    (hs : Region.noSelect ops = true) (hf : Region.free md ops listed i = true) (hr : (Region.ready md ops listed).contains i = true) (hc : closedB md ops listed = true)
    (hQ : ∀ c a w, Q (.panic c) (a.put oi.dst v) w → Q (.panic c) a w) (hw : Region.wanted oi (yielded ops a.tmps) = true) (hy : ∀ w, S w → (execOp a.eval oi).run P w = .ok (.value v) w) (hS : listed.getD k false = false → S w)
    (h : wpAnyG P md ops Q S k fuel (listed.setIfInBounds i true) (a.put oi.dst v) w) : wpAnyG P md ops Q S k (fuel + 1) listed a w :=
  wpAnyG_first (S' := S) hi (by simpa using hik) (Region.noSelect_spec hs) hQ (fun l w hcl hun hSw => hSw (by
    cases hb : l.getD k false with
    | false => rfl
    | true =>
      have := leads_spec hcl p k hp hb
      rw [getD_both hun] at this
      cases this)) fuel listed a w (Region.free_spec hi hf) (closed_of hc) (by simpa using hr) (Or.inl ⟨hw, hy⟩) hS h
/-- The beginning. -/
theorem wp_region_G {id : Nat} {a : Act} {w : World} (S : World → Prop) (k : Nat) (hm : P.follows .mixedOrders = true) (h : wpAnyG P .any ops Q S k ops.size (Array.replicate ops.size false) a w.drew) : (Code.region id ops true).wp P Q a w :=
  wp_region_any hm (wpAny_of_G _ _ _ _ h)
/-- Whichever comes up next. -/
def AllG (P : Program) (md : Region.Mode) (ops : Array Oper) (Q : Exit → Act → World → Prop) (S : World → Prop) (k : Nat) (fuel : Nat) (listed : Array Bool) (a : Act) (w : World) (rs : List Nat) : Prop :=
  ∀ i ∈ rs, wpOp P ops Q i (fun a' w' => ((listed.setIfInBounds i true).getD k false = false → S w') ∧ wpAnyG P md ops Q S k fuel (listed.setIfInBounds i true) a' w') a w
theorem AllG.nil {fuel : Nat} {listed : Array Bool} {a : Act} {w : World} : AllG P md ops Q S k fuel listed a w [] := fun _ h => by cases h
theorem AllG.cons {fuel : Nat} {listed : Array Bool} {a : Act} {w : World} {i : Nat} {o : Oper} {rs : List Nat} (ho : ops[i]? = some o)
    (h : ∀ K' : Act → World → Prop, Hid (∀ a w, ((listed.setIfInBounds i true).getD k false = false → S w) → wpAnyG P md ops Q S k fuel (listed.setIfInBounds i true) a w → K' a w) → if Region.wanted o (yielded ops a.tmps) = true then Oper.wp P o a w K' Q else K' (a.put o.dst undef) w)
    (hs : AllG P md ops Q S k fuel listed a w rs) : AllG P md ops Q S k fuel listed a w (i :: rs) := fun j hj => by
  rcases List.mem_cons.1 hj with rfl | hj
  · exact wpOp_step ho (fun K' hK => h K' (fun a w hS hW => hK a w ⟨hS, hW⟩))
  · exact hs j hj
theorem wpAnyG_ready {fuel : Nat} {listed : Array Bool} {a : Act} {w : World} (rs : List Nat) (hr : Region.ready md ops listed = rs) (hne : rs ≠ [])
    (h : AllG P md ops Q S k fuel listed a w rs) : wpAnyG P md ops Q S k (fuel + 1) listed a w := ⟨fun h0 => absurd (hr ▸ h0) hne, hr ▸ h⟩
theorem wpAnyG_done {listed : Array Bool} {a : Act} {w : World} (hr : Region.ready md ops listed = []) (h : Q .normal a w) :
    ∀ fuel, wpAnyG P md ops Q S k fuel listed a w
  | 0 => ⟨hr, h⟩
  | _ + 1 => ⟨fun _ => h, by rw [hr]; simp⟩
end
end Go.Proofs.YtagmlemlagbfkaaGreatDoor
