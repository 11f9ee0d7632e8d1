/- slices.DeleteFunc at sectors that the disk owns; maps.DeleteFunc at the set of pending sectors; the disk's settle. -/
import Derived.Test.YtagmlemlagbfkaaGreatDoorPkFSurv5
import Derived.Lib.SliceRun
import Derived.BigRegion
namespace Go.Proofs.YtagmlemlagbfkaaGreatDoor
open Go.RowKit
set_option linter.unusedVariables false
set_option linter.unusedSimpArgs false
attribute [local irreducible] Calls

theorem secD_cells {lo hi : Nat} {w : World} {v : Value} {X : List (Int × Int)} (h : SlS 2 lo hi w v (X.map secL)) :
    ∃ a cap, v = .slice a X.length cap ∧ X.length ≤ maxLen ∧ (X = [] ∨ ∃ b off, a = some ⟨b, off, none⟩ ∧ b < hi ∧ b < w.heap.size ∧ ∀ i (h : i < X.length), w.cell? ⟨b, off + i * 2, none⟩ = some (.int .i64 X[i].1) ∧ w.cell? ⟨b, off + i * 2 + 1, none⟩ = some (.int .i64 X[i].2)) := by
  obtain ⟨a, cap, rfl, hm, h⟩ := h.open_
  rw [List.length_map] at hm
  refine ⟨a, cap, by rw [List.length_map], hm, ?_⟩
  rcases h with h | ⟨b, off, rfl, _, hb1, hb, hc⟩
  · exact Or.inl (List.map_eq_nil_iff.1 h)
  · refine Or.inr ⟨b, off, rfl, hb1, hb, fun i hi => ?_⟩
    have h2 := (hc i (by simpa using hi)).2
    simp only [List.getElem_map] at h2
    exact ⟨by rw [← Nat.add_zero (off + i * 2), h2 0 (by simp [secL])]; rfl, by rw [h2 1 (by simp [secL])]; rfl⟩
theorem sec_sls {B : Nat} {w : World} {v : Value} {L : List (Int × Int)} (h : w.ownsRow B tSec 2 v L.length (flatQ L)) : SlS 2 B w.heap.size w v (L.map secL) :=
  SlS.of_owns h (by simp) (by omega) (fun y hy => by
    obtain ⟨z, _, rfl⟩ := List.mem_map.1 hy
    rfl)
theorem own_slD {B sz : Nat} {e : TypeId} {w : World} {v : Value} {n : Nat} {xs : List Value} (h : w.ownsRow B e sz v n xs) : ∃ a cap, v = .slice a n cap := by
  rcases h.2 with ⟨h1, h2⟩ | ⟨g, cap, cur, h1, _⟩
  · exact ⟨none, 0, by rw [h1, h2]⟩
  · exact ⟨_, _, h1⟩
theorem cell2D {w : World} {b : Nat} {a0 a1 : Value} {T : TypeId} (h : w.heap[b]? = some (.cells #[a0, a1] T (0, 0))) :
    w.cell? ⟨b, 0, none⟩ = some a0 ∧ w.cell? ⟨b, 1, none⟩ = some a1 := by
  refine ⟨?_, ?_⟩ <;> (rw [cells_cell h]; rfl)
/-- The place of the first one that meets p; -1: none does. -/
def idxA {α : Type} (p : α → Bool) (X : List α) : Int := match X.findIdx? p with
  | some i => i
  | none => -1
theorem idxA_hit {α : Type} {p : α → Bool} {X : List α} {n : Nat} (hn : n < X.length) (hp : p X[n] = true) (hno : ∀ j (h : j < X.length), j < n → p X[j] = false) : idxA p X = n := by
  unfold idxA
  rw [List.findIdx?_eq_some_iff_getElem.2 ⟨hn, hp, fun j hj => by rw [hno j (by omega) hj]; simp⟩]
theorem idxA_miss {α : Type} {p : α → Bool} {X : List α} (hno : ∀ j (h : j < X.length), p X[j] = false) : idxA p X = -1 := by
  unfold idxA
  rw [List.findIdx?_eq_none_iff.2 (fun x hx => by
    obtain ⟨j, hj, rfl⟩ := List.mem_iff_getElem.1 hx
    exact hno j hj)]
set_option maxHeartbeats 1000000 in
set_option maxRecDepth 100000 in
theorem indexD (gf : Nat) (c1 : Nat) (eg : ∀ args w, (callFunc gf args).run Tryz.prog w = .ok (.enter gf args) w) (p : Int × Int → Bool) (lo hi : Nat) (v : Value) (X : List (Int × Int)) (w : World) (hv : SlS 2 lo hi w v (X.map secL)) (hX : X.length ≤ 5000000)
    (hp : ∀ W x, Nw w W → x ∈ X → Calls Tryz.prog gf #[.agg #[.int .i64 x.1, .int .i64 x.2], .pointer (some ⟨c1, 0, none⟩)] W fun e w' => e = .returned (.bool (p x)) ∧ Nw W w') :
    Calls Tryz.prog 231 #[v, .func (.func gf) #[] #[.pointer (some ⟨c1, 0, none⟩)]] w fun e w' => e = .returned (.int .i64 (idxA p X)) ∧ Nw w w' := by
  obtain ⟨a, cap, rfl, hm, ha⟩ := secD_cells hv
  have Ha := Lib.hid ha; clear ha
  have Hp := Lib.hid hp; clear hp hv
  unfold maxLen at hm
  go_enter Tryz.func231, Tryz.ntmps231
  go_wp2_with fail
  go_loopw [8] (fun i wr => ∃ n : Nat, n ≤ X.length ∧ i = .int .i64 n ∧ Hid (∀ j (h : j < X.length), j < n → p X[j] = false) ∧ Nw w wr) (fun i _ => X.length - (intOf i).toNat)
  case atStart => exact ⟨0, Nat.zero_le _, rfl, fun j _ h => absurd h (Nat.not_lt_zero _), Upd.refl _ _⟩
  case round =>
    obtain ⟨n, hn, rfl, hall, u⟩ := hrel
    by_cases hlt : n < X.length
    · rcases Ha.out with hnil | ⟨b, o, rfl, _, hb, hc⟩
      · simp [hnil] at hlt
      obtain ⟨p0, p1⟩ := hc n hlt
      have d0 := ((Nw.below u).cell (p := ⟨b, o + n * 2, none⟩) hb).trans p0
      have d1 := ((Nw.below u).cell (p := ⟨b, o + n * 2 + 1, none⟩) hb).trans p1
      clear hc p0 p1
      have hcall := Hp.out wr X[n] u (List.getElem_mem hlt)
      have hnext : p X[n] = false → Hid (∀ j (h : j < X.length), j < n + 1 → p X[j] = false) := fun e j h hj => by
        by_cases ej : j = n
        · subst ej; exact e
        · exact hall.out j h (by omega)
      have hstop : p X[n] = true → Hid (idxA p X = n) := fun e => idxA_hit hlt e hall.out
      generalize p X[n] = q at *
      generalize X[n] = x at *
      obtain ⟨xk, xt⟩ := x
      dsimp only at *
      have Hcall := Lib.hid hcall; clear hcall
      cases q with
      | true =>
        have hr := hstop rfl
        clear hstop hnext
        go_wp2_with (go_at_fn gf; (with_reducible refine Hcall.out.mono ?_); rintro _ w2 ⟨rfl, u2⟩)
        go_ret
        exact ⟨ret_int hr.out.symm, u.trans u2⟩
      | false =>
        have hr := hnext rfl
        clear hstop hnext
        go_wp2_with (go_at_fn gf; (with_reducible refine Hcall.out.mono ?_); rintro _ w2 ⟨rfl, u2⟩)
        go_roundw
        case rel => exact ⟨n + 1, by omega, by go_num, hr, u.trans u2⟩
        case measure => simp [intOf]; omega
    · have hr : Hid (idxA p X = -1) := idxA_miss (fun j h => hall.out j h (by omega))
      go_wp2_with fail
      go_ret
      exact ⟨ret_int hr.out.symm, u⟩
/-- A block's cells, element by element. -/
def RowC (sz : Nat) (cur : Array Value) (Z : List (List Value)) : Prop := ∀ a (h : a < Z.length) r, r < sz → cur[a * sz + r]? = Z[a][r]?
theorem flat_len {α : Type} {sz : Nat} : ∀ (Z : List (List α)), (∀ x ∈ Z, x.length = sz) → Z.flatten.length = Z.length * sz := by
  intro Z
  induction Z with
  | nil => intro _; simp
  | cons x Z ih =>
    intro h
    rw [List.flatten_cons, List.length_append, ih (fun y hy => h y (List.mem_cons_of_mem _ hy)), h x (List.mem_cons_self ..), List.length_cons, Nat.succ_mul, Nat.add_comm]
theorem rowC_of {sz : Nat} {cur : Array Value} {Z : List (List Value)} (hx : ∀ x ∈ Z, x.length = sz) (ht : cur.toList.take (Z.length * sz) = Z.flatten) : RowC sz cur Z := fun a h r hr => by
  rw [← flat_at Z a r hx hr h, ← ht, List.getElem?_take, if_pos]
  · simp
  · have : (a + 1) * sz ≤ Z.length * sz := Nat.mul_le_mul_right _ h
    rw [Nat.succ_mul] at this; omega
theorem rowC_take {sz : Nat} {cur : Array Value} {Z : List (List Value)} (hz : 0 < sz) (hx : ∀ x ∈ Z, x.length = sz) (h : RowC sz cur Z) : cur.toList.take (Z.length * sz) = Z.flatten := by
  refine List.ext_getElem? (fun m => ?_)
  by_cases hm : m < Z.length * sz
  · have hd : m / sz < Z.length := (Nat.div_lt_iff_lt_mul hz).2 hm
    have hr := Nat.mod_lt m hz
    have he : m / sz * sz + m % sz = m := by rw [Nat.mul_comm]; exact Nat.div_add_mod m sz
    have h1 := h (m / sz) hd (m % sz) hr
    have h2 := flat_at Z (m / sz) (m % sz) hx hr hd
    rw [he] at h1 h2
    rw [h2, ← h1, List.getElem?_take, if_pos hm]; simp
  · rw [List.getElem?_eq_none (by rw [List.length_take]; omega), List.getElem?_eq_none (by rw [flat_len Z hx]; omega)]
theorem setCells_low {b : Nat} {T : TypeId} {fz : Nat × Nat} : ∀ (vs : List Value) (o : Nat) (w : World) (cur : Array Value), w.heap[b]? = some (.cells cur T fz) →
    ∃ cur', (w.setCells b o vs).heap[b]? = some (.cells cur' T fz) ∧ cur'.size = cur.size ∧ ∀ m, m < o → cur'[m]? = cur[m]? := by
  intro vs
  induction vs with
  | nil => intro o w cur h; exact ⟨cur, h, rfl, fun _ _ => rfl⟩
  | cons v vs ih =>
    intro o w cur h
    obtain ⟨c', h1, h2, h3⟩ := ih (o + 1) (w.setCell ⟨b, o, none⟩ v) _ (setCell_block h o v)
    refine ⟨c', h1, by rw [h2]; simp, fun m hm => ?_⟩
    rw [h3 m (by omega), Array.getElem?_setIfInBounds_ne (by omega)]
theorem Upd.setCells1 {b : Nat} {a : World} (hg : nG ≤ b) : ∀ (vs : List Value) (o : Nat) {w : World}, Upd (fun x => x = b) a w → Upd (fun x => x = b) a (w.setCells b o vs)
  | [], _, _, h => h
  | v :: vs, o, _, h => Upd.setCells1 hg vs (o + 1) (h.set1 hg o v)
theorem rowC_set2 {cur : Array Value} {Z : List (List Value)} {i : Nat} {v0 v1 : Value} (h : RowC 2 cur Z) (hi : i < Z.length) (hs : Z.length * 2 ≤ cur.size) :
    RowC 2 ((cur.setIfInBounds (i * 2) v0).setIfInBounds (i * 2 + 1) v1) (Z.set i [v0, v1]) := fun a ha r hr => by
  rw [List.length_set] at ha
  have h4 : r = 0 ∨ r = 1 := by omega
  by_cases e : a = i
  · subst e
    rw [List.getElem_set_self]
    rcases h4 with rfl | rfl
    · rw [Array.getElem?_setIfInBounds_ne (by omega), Nat.add_zero, Array.getElem?_setIfInBounds_self_of_lt (by omega)]; rfl
    · rw [Array.getElem?_setIfInBounds_self_of_lt (by simp; omega)]; rfl
  · rw [List.getElem_set_ne (Ne.symm e), ← h a ha r hr]
    rw [Array.getElem?_setIfInBounds_ne (by omega), Array.getElem?_setIfInBounds_ne (by omega)]
/-- The first j sectors have been looked at, i of them kept, at the head of the row. -/
structure DelQ (gb cap : Nat) (np : Int × Int → Bool) (X : List (Int × Int)) (i j : Nat) (z : World) : Prop where
  row : ∃ (Z : List (Int × Int)) (cur : Array Value), Z.length = X.length ∧ z.heap[gb]? = some (.cells cur tSec (0, 0)) ∧ cur.size = cap * 2 ∧ RowC 2 cur (Z.map secL) ∧ Z.take i = (X.take j).filter np ∧ Z.drop j = X.drop j
theorem DelQ.nw {gb cap : Nat} {np : Int × Int → Bool} {X : List (Int × Int)} {i j : Nat} {z z' : World} (h : DelQ gb cap np X i j z) (u : Nw z z') : DelQ gb cap np X i j z' := by
  obtain ⟨Z, cur, h1, h2, h3⟩ := h.row
  exact ⟨Z, cur, h1, Nw.keep u h2, h3⟩
theorem DelQ.at {gb cap : Nat} {np : Int × Int → Bool} {X : List (Int × Int)} {i j : Nat} {z : World} (h : DelQ gb cap np X i j z) (hj : j < X.length) :
    z.cell? ⟨gb, 0 + j * 2, none⟩ = some (.int .i64 X[j].1) ∧ z.cell? ⟨gb, 0 + j * 2 + 1, none⟩ = some (.int .i64 X[j].2) := by
  obtain ⟨Z, cur, h1, h2, h3, h4, h5, h6⟩ := h.row
  have hz : Z[j]'(by omega) = X[j] := by
    have e := congrArg (fun l => l[0]?) h6
    simp only [List.getElem?_drop, Nat.add_zero] at e
    rw [List.getElem?_eq_getElem (by omega), List.getElem?_eq_getElem hj] at e
    exact Option.some.inj e
  have h7 := h4 j (by rw [List.length_map]; omega)
  rw [List.getElem_map, hz] at h7
  rw [Nat.zero_add]
  refine ⟨?_, ?_⟩
  · rw [cells_cell h2]; exact h7 0 (by omega)
  · rw [cells_cell h2]; exact h7 1 (by omega)
theorem DelQ.some {gb cap : Nat} {np : Int × Int → Bool} {X : List (Int × Int)} {i j : Nat} {z : World} (h : DelQ gb cap np X i j z) {a : Nat} (ha : a < X.length) :
    ∃ y : Int × Int, z.cell? ⟨gb, 0 + a * 2, none⟩ = Option.some (.int .i64 y.1) ∧ z.cell? ⟨gb, 0 + a * 2 + 1, none⟩ = Option.some (.int .i64 y.2) := by
  obtain ⟨Z, cur, h1, h2, h3, h4, h5, h6⟩ := h.row
  have h7 := h4 a (by rw [List.length_map]; omega)
  rw [List.getElem_map] at h7
  rw [Nat.zero_add]
  refine ⟨Z[a]'(by omega), ?_, ?_⟩
  · rw [cells_cell h2]; exact h7 0 (by omega)
  · rw [cells_cell h2]; exact h7 1 (by omega)
theorem DelQ.frozen {gb cap : Nat} {np : Int × Int → Bool} {X : List (Int × Int)} {i j : Nat} {z : World} (h : DelQ gb cap np X i j z) (m : Nat) : z.frozen? ⟨gb, m, none⟩ = false := by
  obtain ⟨Z, cur, h1, h2, _⟩ := h.row
  exact cells_frozen h2 m
theorem DelQ.skip {gb cap : Nat} {np : Int × Int → Bool} {X : List (Int × Int)} {i j : Nat} {z : World} (h : DelQ gb cap np X i j z) (hj : j < X.length) (hn : np X[j] = false) : DelQ gb cap np X i (j + 1) z := by
  obtain ⟨Z, cur, h1, h2, h3, h4, h5, h6⟩ := h.row
  refine ⟨Z, cur, h1, h2, h3, h4, ?_, ?_⟩
  · rw [h5, List.take_succ_eq_append_getElem hj, List.filter_append, List.filter_cons, hn]; simp
  · rw [← List.drop_drop, ← List.drop_drop, h6]
theorem DelQ.keep {gb cap : Nat} {np : Int × Int → Bool} {X : List (Int × Int)} {i j : Nat} {z : World} (h : DelQ gb cap np X i j z) (hj : j < X.length) (hij : i < j) (hc : X.length ≤ cap) {x : Int × Int} (hx : X[j] = x) (hn : np X[j] = true) :
    DelQ gb cap np X (i + 1) (j + 1) ((z.setCell ⟨gb, 0 + i * 2, none⟩ (.int .i64 x.1)).setCell ⟨gb, 0 + i * 2 + 1, none⟩ (.int .i64 x.2)) := by
  obtain ⟨Z, cur, h1, h2, h3, h4, h5, h6⟩ := h.row
  rw [Nat.zero_add]
  refine ⟨Z.set i x, _, by rw [List.length_set]; exact h1, setCell_block (setCell_block h2 _ _) _ _, by simp [h3], ?_, ?_, ?_⟩
  · rw [List.map_set]
    exact rowC_set2 h4 (by rw [List.length_map]; omega) (by rw [List.length_map, h3]; omega)
  · rw [List.take_succ_eq_append_getElem (by rw [List.length_set]; omega), List.getElem_set_self, List.take_set_of_le (Nat.le_refl i), h5, List.take_succ_eq_append_getElem hj, List.filter_append, List.filter_cons, hn, hx]; simp
  · rw [List.drop_set_of_lt (by omega), ← List.drop_drop, ← List.drop_drop, h6]
theorem zeroSec : ∀ w, (zeroValue tSec).run Tryz.prog w = .ok (.agg #[.int .i64 0, .int .i64 0]) w := fun w => by kernel_rfl
theorem zeroSecs_len (n : Nat) : (Builtin.zeroCells (Value.agg #[.int .i64 0, .int .i64 0]).cells n).toList.length = n * 2 := by
  simp [Builtin.zeroCells, Value.cells]
theorem zeroSecs_one (n : Nat) : ∀ u ∈ (Builtin.zeroCells (Value.agg #[.int .i64 0, .int .i64 0]).cells n).toList, u.oneCell' = true := by
  intro u hu
  have hu := Array.mem_toList_iff.1 hu
  simp only [Builtin.zeroCells, Array.mem_map, Value.cells] at hu
  obtain ⟨a, _, rfl⟩ := hu
  have h4 : a % 2 = 0 ∨ a % 2 = 1 := by omega
  rcases h4 with e | e <;> (simp [e]; rfl)
theorem run_clear_secs (w : World) (ty : TypeId) (b o n c : Nat) (hn : 0 < n) (hc : ∀ j, j < n * 2 → (w.cell? ⟨b, o + j, none⟩).isSome = true) (hf : ∀ j, j < n * 2 → w.frozen? ⟨b, o + j, none⟩ = false) :
    (Builtin.clear_ #[180] ty #[.slice (some ⟨b, o, none⟩) n c]).run Tryz.prog w = .ok (.tuple #[]) (w.setCells b o (Builtin.zeroCells (Value.agg #[.int .i64 0, .int .i64 0]).cells n).toList) := by
  have hst := run_storeCells_cells (P := Tryz.prog) b o (Builtin.zeroCells (Value.agg #[.int .i64 0, .int .i64 0]).cells n).toList 0 w (by rw [zeroSecs_len]; simpa using hc) (by rw [zeroSecs_len]; simpa using hf) (zeroSecs_one n)
  simp only [Nat.add_zero] at hst
  obtain ⟨m, rfl⟩ : ∃ m, n = m + 1 := ⟨n - 1, by omega⟩
  simp [Builtin.clear_, run_underlying Tryz.underlying180, zeroSec, hst]
set_option maxHeartbeats 4000000 in
set_option maxRecDepth 100000 in
theorem delSecs (gf c1 : Nat) (eg : ∀ args w, (callFunc gf args).run Tryz.prog w = .ok (.enter gf args) w) (p : Int × Int → Bool) (base : Nat) (v : Value) (X : List (Int × Int)) (w : World) (hb : nG ≤ base) (hX : X.length ≤ 5000000) (ho : w.ownsRow base tSec 2 v X.length (flatQ X))
    (hp : ∀ W x, Upd (fun j => v.ownBlock = some j) w W → x ∈ X → Calls Tryz.prog gf #[.agg #[.int .i64 x.1, .int .i64 x.2], .pointer (some ⟨c1, 0, none⟩)] W fun e w' => e = .returned (.bool (p x)) ∧ Nw W w') :
    Calls Tryz.prog 218 #[v, .func (.func gf) #[] #[.pointer (some ⟨c1, 0, none⟩)]] w fun e w' => ∃ v', e = .returned v' ∧ w'.ownsRow base tSec 2 v' (X.filter fun x => !p x).length (flatQ (X.filter fun x => !p x)) ∧ Upd (fun j => v.ownBlock = some j) w w' ∧ ∀ k, v'.ownBlock = some k → v.ownBlock = some k := by
  have qi := indexD gf c1 eg p _ _ v X w (sec_sls ho) hX (fun W x uz hx => hp W x (Nw.upd _ uz) hx)
  have hidx : idxA p X = -1 ∧ (∀ j (h : j < X.length), p X[j] = false) ∨ ∃ (k : Nat) (hk : k < X.length), idxA p X = k ∧ p X[k] = true ∧ ∀ j (h : j < X.length), j < k → p X[j] = false := by
    unfold idxA
    cases h : X.findIdx? p with
    | none =>
      have := List.findIdx?_eq_none_iff.1 h
      exact Or.inl ⟨rfl, fun j hj => this _ (List.getElem_mem hj)⟩
    | some i =>
      obtain ⟨hi, hpi, hno⟩ := List.findIdx?_eq_some_iff_getElem.1 h
      exact Or.inr ⟨i, hi, rfl, hpi, fun j hj hji => by have := hno j hji; simpa using this⟩
  rcases hidx with ⟨e1, hall⟩ | ⟨k0, hk0, e1, hpk, hno⟩
  · rw [e1] at qi
    have hfil : X.filter (fun x => !p x) = X := List.filter_eq_self.2 (fun x hx => by
      obtain ⟨j, hj, rfl⟩ := List.mem_iff_getElem.1 hx
      rw [hall j hj]; rfl)
    rw [hfil]
    have Ho := Lib.hid ho
    obtain ⟨av, cv, rfl⟩ := own_slD ho
    have QI := Lib.hid qi
    clear qi e1 hall hfil ho hp
    go_enter Tryz.func218, Tryz.ntmps218
    go_wp2_with fail
    (with_reducible refine (QI.out).mono ?_)
    rintro _ w1 ⟨rfl, u1⟩
    go_wp2_with fail
    go_ret
    exact ⟨_, rfl, owns_updD Ho.out u1 (fun _ _ e => e), Nw.upd _ u1, fun k e => e⟩
  · rw [e1] at qi
    obtain ⟨hl0, ho2⟩ := ho
    rcases ho2 with ⟨rfl, h0⟩ | ⟨gb, cap, cur, rfl, hbg, hcell, hn, hcap, hsz, htk⟩
    · omega
    have hd0 : DelQ gb cap (fun x => !p x) X k0 (k0 + 1) w := by
      refine ⟨X, cur, rfl, hcell, hsz, rowC_of (fun y hy => ?_) (by rw [List.length_map]; exact htk), ?_, rfl⟩
      · obtain ⟨z, _, rfl⟩ := List.mem_map.1 hy; rfl
      · rw [List.take_succ_eq_append_getElem hk0, List.filter_append, List.filter_cons, hpk]
        have : (X.take k0).filter (fun x => !p x) = X.take k0 := List.filter_eq_self.2 (fun x hx => by
          obtain ⟨j, hj, rfl⟩ := List.mem_iff_getElem.1 hx
          rw [List.length_take] at hj
          rw [List.getElem_take, hno j (by omega) (by omega)]; rfl)
        rw [this]; simp
    have HD0 := Lib.hid hd0
    have HP := Lib.hid hp
    have hgb : gb < w.heap.size := lt_of_block hcell
    have hG : nG ≤ gb := Nat.le_trans hb hbg
    have hne1 : ((k0 : Int) == -1) = false := beq_eq_false_iff_ne.2 (by omega)
    unfold maxLen at hcap
    have QI := Lib.hid qi
    have HB := Lib.hid hbg
    obtain ⟨o, ho⟩ : ∃ o : Nat, 0 = o := ⟨_, rfl⟩
    have HO := Lib.hid ho
    rw [show (⟨gb, 0, none⟩ : Addr) = ⟨gb, o, none⟩ from by rw [ho]] at QI ⊢
    clear qi e1 hpk hno hd0 hp hcell htk hsz ho hbg
    go_enter Tryz.func218, Tryz.ntmps218
    go_wp2_with fail
    (with_reducible refine (QI.out).mono ?_)
    rintro _ w1 ⟨rfl, u1⟩
    have hd1 := HD0.out.nw u1
    have HD1 := Lib.hid hd1
    have hu1 : Hid (Upd (fun j => j = gb) w w1) := Nw.upd _ u1
    clear hd1 u1 HD0
    go_wp2_with fail
    go_loopw [5, 6] (fun iv jv wr => ∃ i j : Nat, iv = .int .i64 i ∧ jv = .int .i64 j ∧ i < j ∧ j ≤ X.length ∧ Hid (DelQ gb cap (fun x => !p x) X i j wr) ∧ Hid (Upd (fun j => j = gb) w wr)) (fun iv jv _ => X.length - (intOf jv).toNat)
    case atStart => exact ⟨k0, k0 + 1, rfl, by go_num, by omega, by omega, HD1.out, hu1.out⟩
    case round =>
      obtain ⟨i, j, rfl, rfl, hij, hj, HD, hu⟩ := hrel
      by_cases hlt : j < X.length
      · obtain ⟨p0, p1⟩ := HD.out.at hlt
        rw [HO.out] at p0 p1
        have hcall := fun W (uW : Nw wr W) => HP.out W X[j] (hu.out.nw uW |>.mono (fun k _ e => by rw [e]; rfl)) (List.getElem_mem hlt)
        have hskip : p X[j] = true → ∀ z, Nw wr z → Hid (DelQ gb cap (fun x => !p x) X i (j + 1) z) := fun e z uz => (HD.out.nw uz).skip hlt (by rw [e]; rfl)
        have hkeep := fun (x : Int × Int) (hx : X[j] = x) (hq : p x = false) (z : World) (uz : Nw wr z) => (HD.out.nw uz).keep hlt hij hn hx (by rw [hx, hq]; rfl)
        have hold := fun (z : World) (uz : Nw wr z) => (HD.out.nw uz).some (a := i) (by omega)
        have hfrz := fun (z : World) (uz : Nw wr z) => (HD.out.nw uz).frozen
        rw [HO.out] at hkeep hold
        generalize X[j] = x at *
        obtain ⟨xk, xt⟩ := x
        dsimp only at *
        have n1 := nw_alloc wr (.cells #[.int .i64 xk, .int .i64 xt] tSec)
        have k1 := heap_new wr (.cells #[.int .i64 xk, .int .i64 xt] tSec)
        obtain ⟨_, _⟩ := cell2D k1
        have HC := Lib.hid (hcall _ n1)
        have HKp := Lib.hid (hkeep _ rfl)
        have HSk := Lib.hid hskip
        have HOl := Lib.hid hold
        have HFr := Lib.hid hfrz
        have K1 := Lib.hid k1
        clear hcall hkeep hold hfrz hskip k1
        generalize p ((xk, xt) : Int × Int) = q at *
        cases q with
        | true =>
          clear HKp HOl HFr
          go_wp2_with (go_at_fn gf; ((with_reducible refine HC.out.mono ?_); rintro _ w2 ⟨rfl, u2⟩; obtain ⟨_, _⟩ := cell2D (Nw.keep u2 K1.out)))
          have U2 := n1.trans u2
          have hr := HSk.out trivial w2 U2
          have hU : Hid (Upd (fun j => j = gb) w w2) := hu.out.nw U2
          clear HSk
          go_roundw
          case rel => exact ⟨i, j + 1, rfl, by go_num, by omega, by omega, hr, hU⟩
          case measure => simp [intOf]; omega
        | false =>
          clear HSk
          go_wp2_with (go_at_fn gf; ((with_reducible refine HC.out.mono ?_); rintro _ w2 ⟨rfl, u2⟩; obtain ⟨_, _⟩ := cell2D (Nw.keep u2 K1.out); obtain ⟨y, y0, y1⟩ := HOl.out w2 (n1.trans u2); have f0 := HFr.out w2 (n1.trans u2) (o + i * 2); have f1 := HFr.out w2 (n1.trans u2) (o + i * 2 + 1)))
          have U2 := n1.trans u2
          have hr : Hid _ := HKp.out trivial w2 U2
          have hU : Hid _ := (((hu.out.nw U2).set1 hG (o + i * 2) (.int .i64 xk)).set1 hG (o + i * 2 + 1) (.int .i64 xt))
          clear HKp HOl HFr
          go_roundw
          case rel => exact ⟨i + 1, j + 1, by go_num, by go_num, by omega, by omega, hr, hU⟩
          case measure => simp [intOf]; omega
      · obtain rfl : j = X.length := by omega
        have hrow : ∀ w9, (∃ L, w9 = wr.setCells gb (o + i * 2) L) → w9.ownsRow base tSec 2 (.slice (some ⟨gb, o, none⟩) i cap) (X.filter fun x => !p x).length (flatQ (X.filter fun x => !p x)) ∧ Upd (fun j => j = gb) w w9 := by
          rintro w9 ⟨L, rfl⟩
          obtain ⟨Z, cur2, h1, h2, h3, h4, h5, h6⟩ := HD.out.row
          obtain ⟨cur3, b1, b2, b3⟩ := setCells_low L (o + i * 2) wr cur2 h2
          rw [List.take_length] at h5
          have hli : i = (X.filter fun x => !p x).length := by rw [← h5, List.length_take]; omega
          have hv2 : ∀ y ∈ (X.filter fun x => !p x).map secL, y.length = 2 := fun y hy => by
            obtain ⟨z, _, rfl⟩ := List.mem_map.1 hy; rfl
          refine ⟨⟨by unfold flatQ; rw [flat_len _ hv2, List.length_map], Or.inr ⟨gb, cap, cur3, by rw [← hli, HO.out], HB.out, b1, by omega, by unfold maxLen; omega, by omega, ?_⟩⟩, Upd.setCells1 hG L _ hu.out⟩
          · have hrc : RowC 2 cur3 ((X.filter fun x => !p x).map secL) := fun a ha r hr => by
              rw [List.length_map] at ha
              rw [b3 _ (by rw [← HO.out]; omega), h4 a (by rw [List.length_map]; omega) r hr, List.getElem_map, List.getElem_map]
              congr 2
              simp only [← h5, List.getElem_take]
            have := rowC_take (by omega) hv2 hrc
            rw [List.length_map] at this
            exact this
        have hcl : ∀ ty, (Builtin.clear_ #[180] ty #[.slice (some ⟨gb, o + i * 2, none⟩) (X.length - i) (cap - i)]).run Tryz.prog wr = .ok (.tuple #[]) (wr.setCells gb (o + i * 2) (Builtin.zeroCells (Value.agg #[.int .i64 0, .int .i64 0]).cells (X.length - i)).toList) := fun ty => by
          obtain ⟨Z, cur2, h1, h2, h3, h4, h5, h6⟩ := HD.out.row
          refine run_clear_secs wr ty gb (o + i * 2) (X.length - i) (cap - i) (by omega) (fun j hj => ?_) (fun j _ => cells_frozen h2 _)
          rw [cells_cell h2, Array.getElem?_eq_getElem (by rw [h3, ← HO.out]; omega)]; rfl
        generalize (Builtin.zeroCells (Value.agg #[.int .i64 0, .int .i64 0]).cells (X.length - i)).toList = L at *
        have hfin := hrow _ ⟨L, rfl⟩
        have Hfin := Lib.hid hfin
        clear hfin hrow
        have hij2 : (i : Int) ≤ X.length := by omega
        have hic : (i : Int) ≤ cap := by omega
        go_wp2_with fail
        go_ret
        exact ⟨_, rfl, Hfin.out.1, Hfin.out.2.mono (fun k _ e => by rw [e]; rfl), fun k e => e⟩
end Go.Proofs.YtagmlemlagbfkaaGreatDoor
