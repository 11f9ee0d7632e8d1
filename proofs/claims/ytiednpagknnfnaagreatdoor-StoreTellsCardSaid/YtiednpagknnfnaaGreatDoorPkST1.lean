/- slices.DeleteFunc at sectors that the disk owns; maps.DeleteFunc at the set of pending sectors; the and so on. -/
import Derived.Test.YtiednpagknnfnaaGreatDoorPkST0
import Derived.Lib.SliceRun
import Derived.BigRegion
import Derived.StillTailTactics
import Derived.Lib.OwnBridge
import Derived.Deep.CutBlock
import Derived.Deep.CutRange
import Derived.Deep.AppendLies
import Derived.WideKeyEntry
set_option linter.unusedVariables false
set_option linter.unusedSimpArgs false
namespace Go.Proofs.YtiednpagknnfnaaGreatDoor
open Go.RowKit
attribute [local irreducible] Calls
theorem secD_cells {lo hi : Nat} {w : World} {v : Value} {X : List (Int × Int)} (h : SlS 2 lo hi w v (X.map secL)) :
    ∃ a cap, v = .slice a X.length cap ∧ X.length ≤ maxLen ∧ (X = [] ∨ ∃ b off, a = some ⟨b, off, none⟩ ∧ b < hi ∧ b < w.heap.size ∧ ∀ i (h : i < X.length), w.cell? ⟨b, off + i * 2, none⟩ = some (.int .i64 X[i].1) ∧ w.cell? ⟨b, off + i * 2 + 1, none⟩ = some (.int .i64 X[i].2)) := by
  obtain ⟨a, cap, rfl, hm, h⟩ := h.open_
  rw [List.length_map] at hm
  refine ⟨a, cap, by rw [List.length_map], hm, ?_⟩
  rcases h with h | ⟨b, off, rfl, _, hb1, hb, hc⟩
  · exact Or.inl (List.map_eq_nil_iff.1 h)
  · refine Or.inr ⟨b, off, rfl, hb1, hb, fun i hi => ?_⟩
    have h2 := (hc i (by simpa using hi)).2
    simp only [List.getElem_map] at h2
    exact ⟨by rw [← Nat.add_zero (off + i * 2), h2 0 (by simp [secL])]; rfl, by rw [h2 1 (by simp [secL])]; rfl⟩
theorem sec_sls {B : Nat} {w : World} {v : Value} {L : List (Int × Int)} (h : w.ownsRow B tSec 2 v L.length (flatQ L)) : SlS 2 B w.heap.size w v (L.map secL) :=
  SlS.of_owns h (by simp) (by omega) (fun y hy => by
    obtain ⟨z, _, rfl⟩ := List.mem_map.1 hy
    rfl)
theorem own_slD {B sz : Nat} {e : TypeId} {w : World} {v : Value} {n : Nat} {xs : List Value} (h : w.ownsRow B e sz v n xs) : ∃ a cap, v = .slice a n cap := by
  rcases h.2 with ⟨h1, h2⟩ | ⟨g, cap, cur, h1, _⟩
  · exact ⟨none, 0, by rw [h1, h2]⟩
  · exact ⟨_, _, h1⟩
theorem cell2D {w : World} {b : Nat} {a0 a1 : Value} {T : TypeId} (h : w.heap[b]? = some (.cells #[a0, a1] T (0, 0))) :
    w.cell? ⟨b, 0, none⟩ = some a0 ∧ w.cell? ⟨b, 1, none⟩ = some a1 := by
  refine ⟨?_, ?_⟩ <;> (rw [cells_cell h]; rfl)
def idxA {α : Type} (p : α → Bool) (X : List α) : Int := match X.findIdx? p with
  | some i => i
  | none => -1
theorem idxA_hit {α : Type} {p : α → Bool} {X : List α} {n : Nat} (hn : n < X.length) (hp : p X[n] = true) (hno : ∀ j (h : j < X.length), j < n → p X[j] = false) : idxA p X = n := by
  unfold idxA
  rw [List.findIdx?_eq_some_iff_getElem.2 ⟨hn, hp, fun j hj => by rw [hno j (by omega) hj]; simp⟩]
theorem idxA_miss {α : Type} {p : α → Bool} {X : List α} (hno : ∀ j (h : j < X.length), p X[j] = false) : idxA p X = -1 := by
  unfold idxA
  rw [List.findIdx?_eq_none_iff.2 (fun x hx => by
    obtain ⟨j, hj, rfl⟩ := List.mem_iff_getElem.1 hx
    exact hno j hj)]
set_option maxHeartbeats 1000000 in
set_option maxRecDepth 100000 in
theorem indexD (gf : Nat) (c1 : Nat) (eg : ∀ args w, (callFunc gf args).run Tryz.prog w = .ok (.enter gf args) w) (p : Int × Int → Bool) (lo hi : Nat) (v : Value) (X : List (Int × Int)) (w : World) (hv : SlS 2 lo hi w v (X.map secL)) (hX : X.length ≤ 5000000)
    (hp : ∀ W x, Nw w W → x ∈ X → Calls Tryz.prog gf #[.agg #[.int .i64 x.1, .int .i64 x.2], .pointer (some ⟨c1, 0, none⟩)] W fun e w' => e = .returned (.bool (p x)) ∧ Nw W w') :
    Calls Tryz.prog 161 #[v, .func (.func gf) #[] #[.pointer (some ⟨c1, 0, none⟩)]] w fun e w' => e = .returned (.int .i64 (idxA p X)) ∧ Nw w w' := by
  obtain ⟨a, cap, rfl, hm, ha⟩ := secD_cells hv
  have Ha := Lib.hid ha; clear ha
  have Hp := Lib.hid hp; clear hp hv
  unfold maxLen at hm
  go_enter Tryz.func161, Tryz.ntmps161
  go_wp2_with fail
  go_loopw [8] (fun i wr => ∃ n : Nat, n ≤ X.length ∧ i = .int .i64 n ∧ Hid (∀ j (h : j < X.length), j < n → p X[j] = false) ∧ Nw w wr) (fun i _ => X.length - (intOf i).toNat)
  case atStart => exact ⟨0, Nat.zero_le _, rfl, fun j _ h => absurd h (Nat.not_lt_zero _), Upd.refl _ _⟩
  case round =>
    obtain ⟨n, hn, rfl, hall, u⟩ := hrel
    by_cases hlt : n < X.length
    · rcases Ha.out with hnil | ⟨b, o, rfl, _, hb, hc⟩
      · simp [hnil] at hlt
      obtain ⟨p0, p1⟩ := hc n hlt
      have d0 := ((Nw.below u).cell (p := ⟨b, o + n * 2, none⟩) hb).trans p0
      have d1 := ((Nw.below u).cell (p := ⟨b, o + n * 2 + 1, none⟩) hb).trans p1
      clear hc p0 p1
      have hcall := Hp.out wr X[n] u (List.getElem_mem hlt)
      have hnext : p X[n] = false → Hid (∀ j (h : j < X.length), j < n + 1 → p X[j] = false) := fun e j h hj => by
        by_cases ej : j = n
        · subst ej; exact e
        · exact hall.out j h (by omega)
      have hstop : p X[n] = true → Hid (idxA p X = n) := fun e => idxA_hit hlt e hall.out
      generalize p X[n] = q at *
      generalize X[n] = x at *
      obtain ⟨xk, xt⟩ := x
      dsimp only at *
      have Hcall := Lib.hid hcall; clear hcall
      cases q with
      | true =>
        have hr := hstop rfl
        clear hstop hnext
        go_wp2_with (go_at_fn gf; (with_reducible refine Hcall.out.mono ?_); rintro _ w2 ⟨rfl, u2⟩)
        go_ret
        exact ⟨ret_int hr.out.symm, u.trans u2⟩
      | false =>
        have hr := hnext rfl
        clear hstop hnext
        go_wp2_with (go_at_fn gf; (with_reducible refine Hcall.out.mono ?_); rintro _ w2 ⟨rfl, u2⟩)
        go_roundw
        case rel => exact ⟨n + 1, by omega, by go_num, hr, u.trans u2⟩
        case measure => simp [intOf]; omega
    · have hr : Hid (idxA p X = -1) := idxA_miss (fun j h => hall.out j h (by omega))
      go_wp2_with fail
      go_ret
      exact ⟨ret_int hr.out.symm, u⟩
def RowC (sz : Nat) (cur : Array Value) (Z : List (List Value)) : Prop := ∀ a (h : a < Z.length) r, r < sz → cur[a * sz + r]? = Z[a][r]?
theorem flat_len {α : Type} {sz : Nat} : ∀ (Z : List (List α)), (∀ x ∈ Z, x.length = sz) → Z.flatten.length = Z.length * sz := by
  intro Z
  induction Z with
  | nil => intro _; simp
  | cons x Z ih =>
    intro h
    rw [List.flatten_cons, List.length_append, ih (fun y hy => h y (List.mem_cons_of_mem _ hy)), h x (List.mem_cons_self ..), List.length_cons, Nat.succ_mul, Nat.add_comm]
theorem rowC_of {sz : Nat} {cur : Array Value} {Z : List (List Value)} (hx : ∀ x ∈ Z, x.length = sz) (ht : cur.toList.take (Z.length * sz) = Z.flatten) : RowC sz cur Z := fun a h r hr => by
  rw [← flat_at Z a r hx hr h, ← ht, List.getElem?_take, if_pos]
  · simp
  · have : (a + 1) * sz ≤ Z.length * sz := Nat.mul_le_mul_right _ h
    rw [Nat.succ_mul] at this; omega
theorem rowC_take {sz : Nat} {cur : Array Value} {Z : List (List Value)} (hz : 0 < sz) (hx : ∀ x ∈ Z, x.length = sz) (h : RowC sz cur Z) : cur.toList.take (Z.length * sz) = Z.flatten := by
  refine List.ext_getElem? (fun m => ?_)
  by_cases hm : m < Z.length * sz
  · have hd : m / sz < Z.length := (Nat.div_lt_iff_lt_mul hz).2 hm
    have hr := Nat.mod_lt m hz
    have he : m / sz * sz + m % sz = m := by rw [Nat.mul_comm]; exact Nat.div_add_mod m sz
    have h1 := h (m / sz) hd (m % sz) hr
    have h2 := flat_at Z (m / sz) (m % sz) hx hr hd
    rw [he] at h1 h2
    rw [h2, ← h1, List.getElem?_take, if_pos hm]; simp
  · rw [List.getElem?_eq_none (by rw [List.length_take]; omega), List.getElem?_eq_none (by rw [flat_len Z hx]; omega)]
theorem setCells_low {b : Nat} {T : TypeId} {fz : Nat × Nat} : ∀ (vs : List Value) (o : Nat) (w : World) (cur : Array Value), w.heap[b]? = some (.cells cur T fz) →
    ∃ cur', (w.setCells b o vs).heap[b]? = some (.cells cur' T fz) ∧ cur'.size = cur.size ∧ ∀ m, m < o → cur'[m]? = cur[m]? := by
  intro vs
  induction vs with
  | nil => intro o w cur h; exact ⟨cur, h, rfl, fun _ _ => rfl⟩
  | cons v vs ih =>
    intro o w cur h
    obtain ⟨c', h1, h2, h3⟩ := ih (o + 1) (w.setCell ⟨b, o, none⟩ v) _ (setCell_block h o v)
    refine ⟨c', h1, by rw [h2]; simp, fun m hm => ?_⟩
    rw [h3 m (by omega), Array.getElem?_setIfInBounds_ne (by omega)]
theorem Upd.setCells1 {b : Nat} {a : World} (hg : nG ≤ b) : ∀ (vs : List Value) (o : Nat) {w : World}, Upd (fun x => x = b) a w → Upd (fun x => x = b) a (w.setCells b o vs)
  | [], _, _, h => h
  | v :: vs, o, _, h => Upd.setCells1 hg vs (o + 1) (h.set1 hg o v)
theorem rowC_set2 {cur : Array Value} {Z : List (List Value)} {i : Nat} {v0 v1 : Value} (h : RowC 2 cur Z) (hi : i < Z.length) (hs : Z.length * 2 ≤ cur.size) :
    RowC 2 ((cur.setIfInBounds (i * 2) v0).setIfInBounds (i * 2 + 1) v1) (Z.set i [v0, v1]) := fun a ha r hr => by
  rw [List.length_set] at ha
  have h4 : r = 0 ∨ r = 1 := by omega
  by_cases e : a = i
  · subst e
    rw [List.getElem_set_self]
    rcases h4 with rfl | rfl
    · rw [Array.getElem?_setIfInBounds_ne (by omega), Nat.add_zero, Array.getElem?_setIfInBounds_self_of_lt (by omega)]; rfl
    · rw [Array.getElem?_setIfInBounds_self_of_lt (by simp; omega)]; rfl
  · rw [List.getElem_set_ne (Ne.symm e), ← h a ha r hr]
    rw [Array.getElem?_setIfInBounds_ne (by omega), Array.getElem?_setIfInBounds_ne (by omega)]
structure DelQ (gb cap : Nat) (np : Int × Int → Bool) (X : List (Int × Int)) (i j : Nat) (z : World) : Prop where
  row : ∃ (Z : List (Int × Int)) (cur : Array Value), Z.length = X.length ∧ z.heap[gb]? = some (.cells cur tSec (0, 0)) ∧ cur.size = cap * 2 ∧ RowC 2 cur (Z.map secL) ∧ Z.take i = (X.take j).filter np ∧ Z.drop j = X.drop j
theorem DelQ.nw {gb cap : Nat} {np : Int × Int → Bool} {X : List (Int × Int)} {i j : Nat} {z z' : World} (h : DelQ gb cap np X i j z) (u : Nw z z') : DelQ gb cap np X i j z' := by
  obtain ⟨Z, cur, h1, h2, h3⟩ := h.row
  exact ⟨Z, cur, h1, Nw.keep u h2, h3⟩
theorem DelQ.at {gb cap : Nat} {np : Int × Int → Bool} {X : List (Int × Int)} {i j : Nat} {z : World} (h : DelQ gb cap np X i j z) (hj : j < X.length) :
    z.cell? ⟨gb, 0 + j * 2, none⟩ = some (.int .i64 X[j].1) ∧ z.cell? ⟨gb, 0 + j * 2 + 1, none⟩ = some (.int .i64 X[j].2) := by
  obtain ⟨Z, cur, h1, h2, h3, h4, h5, h6⟩ := h.row
  have hz : Z[j]'(by omega) = X[j] := by
    have e := congrArg (fun l => l[0]?) h6
    simp only [List.getElem?_drop, Nat.add_zero] at e
    rw [List.getElem?_eq_getElem (by omega), List.getElem?_eq_getElem hj] at e
    exact Option.some.inj e
  have h7 := h4 j (by rw [List.length_map]; omega)
  rw [List.getElem_map, hz] at h7
  rw [Nat.zero_add]
  refine ⟨?_, ?_⟩
  · rw [cells_cell h2]; exact h7 0 (by omega)
  · rw [cells_cell h2]; exact h7 1 (by omega)
theorem DelQ.some {gb cap : Nat} {np : Int × Int → Bool} {X : List (Int × Int)} {i j : Nat} {z : World} (h : DelQ gb cap np X i j z) {a : Nat} (ha : a < X.length) :
    ∃ y : Int × Int, z.cell? ⟨gb, 0 + a * 2, none⟩ = Option.some (.int .i64 y.1) ∧ z.cell? ⟨gb, 0 + a * 2 + 1, none⟩ = Option.some (.int .i64 y.2) := by
  obtain ⟨Z, cur, h1, h2, h3, h4, h5, h6⟩ := h.row
  have h7 := h4 a (by rw [List.length_map]; omega)
  rw [List.getElem_map] at h7
  rw [Nat.zero_add]
  refine ⟨Z[a]'(by omega), ?_, ?_⟩
  · rw [cells_cell h2]; exact h7 0 (by omega)
  · rw [cells_cell h2]; exact h7 1 (by omega)
theorem DelQ.frozen {gb cap : Nat} {np : Int × Int → Bool} {X : List (Int × Int)} {i j : Nat} {z : World} (h : DelQ gb cap np X i j z) (m : Nat) : z.frozen? ⟨gb, m, none⟩ = false := by
  obtain ⟨Z, cur, h1, h2, _⟩ := h.row
  exact cells_frozen h2 m
theorem DelQ.skip {gb cap : Nat} {np : Int × Int → Bool} {X : List (Int × Int)} {i j : Nat} {z : World} (h : DelQ gb cap np X i j z) (hj : j < X.length) (hn : np X[j] = false) : DelQ gb cap np X i (j + 1) z := by
  obtain ⟨Z, cur, h1, h2, h3, h4, h5, h6⟩ := h.row
  refine ⟨Z, cur, h1, h2, h3, h4, ?_, ?_⟩
  · rw [h5, List.take_succ_eq_append_getElem hj, List.filter_append, List.filter_cons, hn]; simp
  · rw [← List.drop_drop, ← List.drop_drop, h6]
theorem DelQ.keep {gb cap : Nat} {np : Int × Int → Bool} {X : List (Int × Int)} {i j : Nat} {z : World} (h : DelQ gb cap np X i j z) (hj : j < X.length) (hij : i < j) (hc : X.length ≤ cap) {x : Int × Int} (hx : X[j] = x) (hn : np X[j] = true) :
    DelQ gb cap np X (i + 1) (j + 1) ((z.setCell ⟨gb, 0 + i * 2, none⟩ (.int .i64 x.1)).setCell ⟨gb, 0 + i * 2 + 1, none⟩ (.int .i64 x.2)) := by
  obtain ⟨Z, cur, h1, h2, h3, h4, h5, h6⟩ := h.row
  rw [Nat.zero_add]
  refine ⟨Z.set i x, _, by rw [List.length_set]; exact h1, setCell_block (setCell_block h2 _ _) _ _, by simp [h3], ?_, ?_, ?_⟩
  · rw [List.map_set]
    exact rowC_set2 h4 (by rw [List.length_map]; omega) (by rw [List.length_map, h3]; omega)
  · rw [List.take_succ_eq_append_getElem (by rw [List.length_set]; omega), List.getElem_set_self, List.take_set_of_le (Nat.le_refl i), h5, List.take_succ_eq_append_getElem hj, List.filter_append, List.filter_cons, hn, hx]; simp
  · rw [List.drop_set_of_lt (by omega), ← List.drop_drop, ← List.drop_drop, h6]
theorem zeroSec : ∀ w, (zeroValue tSec).run Tryz.prog w = .ok (.agg #[.int .i64 0, .int .i64 0]) w := fun w => by kernel_rfl
theorem zeroSecs_len (n : Nat) : (Builtin.zeroCells (Value.agg #[.int .i64 0, .int .i64 0]).cells n).toList.length = n * 2 := by
  simp [Builtin.zeroCells, Value.cells]
theorem zeroSecs_one (n : Nat) : ∀ u ∈ (Builtin.zeroCells (Value.agg #[.int .i64 0, .int .i64 0]).cells n).toList, u.oneCell' = true := by
  intro u hu
  have hu := Array.mem_toList_iff.1 hu
  simp only [Builtin.zeroCells, Array.mem_map, Value.cells] at hu
  obtain ⟨a, _, rfl⟩ := hu
  have h4 : a % 2 = 0 ∨ a % 2 = 1 := by omega
  rcases h4 with e | e <;> (simp [e]; rfl)
theorem run_clear_secs (w : World) (ty : TypeId) (b o n c : Nat) (hn : 0 < n) (hc : ∀ j, j < n * 2 → (w.cell? ⟨b, o + j, none⟩).isSome = true) (hf : ∀ j, j < n * 2 → w.frozen? ⟨b, o + j, none⟩ = false) :
    (Builtin.clear_ #[73] ty #[.slice (some ⟨b, o, none⟩) n c]).run Tryz.prog w = .ok (.tuple #[]) (w.setCells b o (Builtin.zeroCells (Value.agg #[.int .i64 0, .int .i64 0]).cells n).toList) := by
  have hst := run_storeCells_cells (P := Tryz.prog) b o (Builtin.zeroCells (Value.agg #[.int .i64 0, .int .i64 0]).cells n).toList 0 w (by rw [zeroSecs_len]; simpa using hc) (by rw [zeroSecs_len]; simpa using hf) (zeroSecs_one n)
  simp only [Nat.add_zero] at hst
  obtain ⟨m, rfl⟩ : ∃ m, n = m + 1 := ⟨n - 1, by omega⟩
  simp [Builtin.clear_, run_underlying Tryz.underlying73, zeroSec, hst]
set_option maxHeartbeats 4000000 in
set_option maxRecDepth 100000 in
theorem delSecs (gf c1 : Nat) (eg : ∀ args w, (callFunc gf args).run Tryz.prog w = .ok (.enter gf args) w) (p : Int × Int → Bool) (base : Nat) (v : Value) (X : List (Int × Int)) (w : World) (hb : nG ≤ base) (hX : X.length ≤ 5000000) (ho : w.ownsRow base tSec 2 v X.length (flatQ X))
    (hp : ∀ W x, Upd (fun j => v.ownBlock = some j) w W → x ∈ X → Calls Tryz.prog gf #[.agg #[.int .i64 x.1, .int .i64 x.2], .pointer (some ⟨c1, 0, none⟩)] W fun e w' => e = .returned (.bool (p x)) ∧ Nw W w') :
    Calls Tryz.prog 128 #[v, .func (.func gf) #[] #[.pointer (some ⟨c1, 0, none⟩)]] w fun e w' => ∃ v', e = .returned v' ∧ w'.ownsRow base tSec 2 v' (X.filter fun x => !p x).length (flatQ (X.filter fun x => !p x)) ∧ Upd (fun j => v.ownBlock = some j) w w' ∧ ∀ k, v'.ownBlock = some k → v.ownBlock = some k := by
  have qi := indexD gf c1 eg p _ _ v X w (sec_sls ho) hX (fun W x uz hx => hp W x (Nw.upd _ uz) hx)
  have hidx : idxA p X = -1 ∧ (∀ j (h : j < X.length), p X[j] = false) ∨ ∃ (k : Nat) (hk : k < X.length), idxA p X = k ∧ p X[k] = true ∧ ∀ j (h : j < X.length), j < k → p X[j] = false := by
    unfold idxA
    cases h : X.findIdx? p with
    | none =>
      have := List.findIdx?_eq_none_iff.1 h
      exact Or.inl ⟨rfl, fun j hj => this _ (List.getElem_mem hj)⟩
    | some i =>
      obtain ⟨hi, hpi, hno⟩ := List.findIdx?_eq_some_iff_getElem.1 h
      exact Or.inr ⟨i, hi, rfl, hpi, fun j hj hji => by have := hno j hji; simpa using this⟩
  rcases hidx with ⟨e1, hall⟩ | ⟨k0, hk0, e1, hpk, hno⟩
  · rw [e1] at qi
    have hfil : X.filter (fun x => !p x) = X := List.filter_eq_self.2 (fun x hx => by
      obtain ⟨j, hj, rfl⟩ := List.mem_iff_getElem.1 hx
      rw [hall j hj]; rfl)
    rw [hfil]
    have Ho := Lib.hid ho
    obtain ⟨av, cv, rfl⟩ := own_slD ho
    have QI := Lib.hid qi
    clear qi e1 hall hfil ho hp
    go_enter Tryz.func128, Tryz.ntmps128
    go_wp2_with fail
    (with_reducible refine (QI.out).mono ?_)
    rintro _ w1 ⟨rfl, u1⟩
    go_wp2_with fail
    go_ret
    exact ⟨_, rfl, owns_updD Ho.out u1 (fun _ _ e => e), Nw.upd _ u1, fun k e => e⟩
  · rw [e1] at qi
    obtain ⟨hl0, ho2⟩ := ho
    rcases ho2 with ⟨rfl, h0⟩ | ⟨gb, cap, cur, rfl, hbg, hcell, hn, hcap, hsz, htk⟩
    · omega
    have hd0 : DelQ gb cap (fun x => !p x) X k0 (k0 + 1) w := by
      refine ⟨X, cur, rfl, hcell, hsz, rowC_of (fun y hy => ?_) (by rw [List.length_map]; exact htk), ?_, rfl⟩
      · obtain ⟨z, _, rfl⟩ := List.mem_map.1 hy; rfl
      · rw [List.take_succ_eq_append_getElem hk0, List.filter_append, List.filter_cons, hpk]
        have : (X.take k0).filter (fun x => !p x) = X.take k0 := List.filter_eq_self.2 (fun x hx => by
          obtain ⟨j, hj, rfl⟩ := List.mem_iff_getElem.1 hx
          rw [List.length_take] at hj
          rw [List.getElem_take, hno j (by omega) (by omega)]; rfl)
        rw [this]; simp
    have HD0 := Lib.hid hd0
    have HP := Lib.hid hp
    have hgb : gb < w.heap.size := lt_of_block hcell
    have hG : nG ≤ gb := Nat.le_trans hb hbg
    have hne1 : ((k0 : Int) == -1) = false := beq_eq_false_iff_ne.2 (by omega)
    unfold maxLen at hcap
    have QI := Lib.hid qi
    have HB := Lib.hid hbg
    obtain ⟨o, ho⟩ : ∃ o : Nat, 0 = o := ⟨_, rfl⟩
    have HO := Lib.hid ho
    rw [show (⟨gb, 0, none⟩ : Addr) = ⟨gb, o, none⟩ from by rw [ho]] at QI ⊢
    clear qi e1 hpk hno hd0 hp hcell htk hsz ho hbg
    go_enter Tryz.func128, Tryz.ntmps128
    go_wp2_with fail
    (with_reducible refine (QI.out).mono ?_)
    rintro _ w1 ⟨rfl, u1⟩
    have hd1 := HD0.out.nw u1
    have HD1 := Lib.hid hd1
    have hu1 : Hid (Upd (fun j => j = gb) w w1) := Nw.upd _ u1
    clear hd1 u1 HD0
    go_wp2_with fail
    go_loopw [5, 6] (fun iv jv wr => ∃ i j : Nat, iv = .int .i64 i ∧ jv = .int .i64 j ∧ i < j ∧ j ≤ X.length ∧ Hid (DelQ gb cap (fun x => !p x) X i j wr) ∧ Hid (Upd (fun j => j = gb) w wr)) (fun iv jv _ => X.length - (intOf jv).toNat)
    case atStart => exact ⟨k0, k0 + 1, rfl, by go_num, by omega, by omega, HD1.out, hu1.out⟩
    case round =>
      obtain ⟨i, j, rfl, rfl, hij, hj, HD, hu⟩ := hrel
      by_cases hlt : j < X.length
      · obtain ⟨p0, p1⟩ := HD.out.at hlt
        rw [HO.out] at p0 p1
        have hcall := fun W (uW : Nw wr W) => HP.out W X[j] (hu.out.nw uW |>.mono (fun k _ e => by rw [e]; rfl)) (List.getElem_mem hlt)
        have hskip : p X[j] = true → ∀ z, Nw wr z → Hid (DelQ gb cap (fun x => !p x) X i (j + 1) z) := fun e z uz => (HD.out.nw uz).skip hlt (by rw [e]; rfl)
        have hkeep := fun (x : Int × Int) (hx : X[j] = x) (hq : p x = false) (z : World) (uz : Nw wr z) => (HD.out.nw uz).keep hlt hij hn hx (by rw [hx, hq]; rfl)
        have hold := fun (z : World) (uz : Nw wr z) => (HD.out.nw uz).some (a := i) (by omega)
        have hfrz := fun (z : World) (uz : Nw wr z) => (HD.out.nw uz).frozen
        rw [HO.out] at hkeep hold
        generalize X[j] = x at *
        obtain ⟨xk, xt⟩ := x
        dsimp only at *
        have n1 := nw_alloc wr (.cells #[.int .i64 xk, .int .i64 xt] tSec)
        have k1 := heap_new wr (.cells #[.int .i64 xk, .int .i64 xt] tSec)
        obtain ⟨_, _⟩ := cell2D k1
        have HC := Lib.hid (hcall _ n1)
        have HKp := Lib.hid (hkeep _ rfl)
        have HSk := Lib.hid hskip
        have HOl := Lib.hid hold
        have HFr := Lib.hid hfrz
        have K1 := Lib.hid k1
        clear hcall hkeep hold hfrz hskip k1
        generalize p ((xk, xt) : Int × Int) = q at *
        cases q with
        | true =>
          clear HKp HOl HFr
          go_wp2_with (go_at_fn gf; ((with_reducible refine HC.out.mono ?_); rintro _ w2 ⟨rfl, u2⟩; obtain ⟨_, _⟩ := cell2D (Nw.keep u2 K1.out)))
          have U2 := n1.trans u2
          have hr := HSk.out trivial w2 U2
          have hU : Hid (Upd (fun j => j = gb) w w2) := hu.out.nw U2
          clear HSk
          go_roundw
          case rel => exact ⟨i, j + 1, rfl, by go_num, by omega, by omega, hr, hU⟩
          case measure => simp [intOf]; omega
        | false =>
          clear HSk
          go_wp2_with (go_at_fn gf; ((with_reducible refine HC.out.mono ?_); rintro _ w2 ⟨rfl, u2⟩; obtain ⟨_, _⟩ := cell2D (Nw.keep u2 K1.out); obtain ⟨y, y0, y1⟩ := HOl.out w2 (n1.trans u2); have f0 := HFr.out w2 (n1.trans u2) (o + i * 2); have f1 := HFr.out w2 (n1.trans u2) (o + i * 2 + 1)))
          have U2 := n1.trans u2
          have hr : Hid _ := HKp.out trivial w2 U2
          have hU : Hid _ := (((hu.out.nw U2).set1 hG (o + i * 2) (.int .i64 xk)).set1 hG (o + i * 2 + 1) (.int .i64 xt))
          clear HKp HOl HFr
          go_roundw
          case rel => exact ⟨i + 1, j + 1, by go_num, by go_num, by omega, by omega, hr, hU⟩
          case measure => simp [intOf]; omega
      · obtain rfl : j = X.length := by omega
        have hrow : ∀ w9, (∃ L, w9 = wr.setCells gb (o + i * 2) L) → w9.ownsRow base tSec 2 (.slice (some ⟨gb, o, none⟩) i cap) (X.filter fun x => !p x).length (flatQ (X.filter fun x => !p x)) ∧ Upd (fun j => j = gb) w w9 := by
          rintro w9 ⟨L, rfl⟩
          obtain ⟨Z, cur2, h1, h2, h3, h4, h5, h6⟩ := HD.out.row
          obtain ⟨cur3, b1, b2, b3⟩ := setCells_low L (o + i * 2) wr cur2 h2
          rw [List.take_length] at h5
          have hli : i = (X.filter fun x => !p x).length := by rw [← h5, List.length_take]; omega
          have hv2 : ∀ y ∈ (X.filter fun x => !p x).map secL, y.length = 2 := fun y hy => by
            obtain ⟨z, _, rfl⟩ := List.mem_map.1 hy; rfl
          refine ⟨⟨by unfold flatQ; rw [flat_len _ hv2, List.length_map], Or.inr ⟨gb, cap, cur3, by rw [← hli, HO.out], HB.out, b1, by omega, by unfold maxLen; omega, by omega, ?_⟩⟩, Upd.setCells1 hG L _ hu.out⟩
          · have hrc : RowC 2 cur3 ((X.filter fun x => !p x).map secL) := fun a ha r hr => by
              rw [List.length_map] at ha
              rw [b3 _ (by rw [← HO.out]; omega), h4 a (by rw [List.length_map]; omega) r hr, List.getElem_map, List.getElem_map]
              congr 2
              simp only [← h5, List.getElem_take]
            have := rowC_take (by omega) hv2 hrc
            rw [List.length_map] at this
            exact this
        have hcl : ∀ ty, (Builtin.clear_ #[73] ty #[.slice (some ⟨gb, o + i * 2, none⟩) (X.length - i) (cap - i)]).run Tryz.prog wr = .ok (.tuple #[]) (wr.setCells gb (o + i * 2) (Builtin.zeroCells (Value.agg #[.int .i64 0, .int .i64 0]).cells (X.length - i)).toList) := fun ty => by
          obtain ⟨Z, cur2, h1, h2, h3, h4, h5, h6⟩ := HD.out.row
          refine run_clear_secs wr ty gb (o + i * 2) (X.length - i) (cap - i) (by omega) (fun j hj => ?_) (fun j _ => cells_frozen h2 _)
          rw [cells_cell h2, Array.getElem?_eq_getElem (by rw [h3, ← HO.out]; omega)]; rfl
        generalize (Builtin.zeroCells (Value.agg #[.int .i64 0, .int .i64 0]).cells (X.length - i)).toList = L at *
        have hfin := hrow _ ⟨L, rfl⟩
        have Hfin := Lib.hid hfin
        clear hfin hrow
        have hij2 : (i : Int) ≤ X.length := by omega
        have hic : (i : Int) ≤ cap := by omega
        go_wp2_with fail
        go_ret
        exact ⟨_, rfl, Hfin.out.1, Hfin.out.2.mono (fun k _ e => by rw [e]; rfl), fun k e => e⟩
theorem call_set1 : ∀ args w, (callFunc 129 args).run Tryz.prog w = .ok (.enter 129 args) w := enters_of Tryz.func129 (by kernel_rfl) rfl
theorem set1P (x : Int × Int) (f : Int) (b1 : Nat) (w : World) (h1 : w.heap[b1]? = some (.cells #[.int .i64 f] tIntD (0, 0))) :
    Calls Tryz.prog 129 #[.agg #[.int .i64 x.1, .int .i64 x.2], .pointer (some ⟨b1, 0, none⟩)] w fun e w' => e = .returned (.bool (decide (x.1 = f))) ∧ Nw w w' := by
  have n1 := nw_alloc w (.cells #[.int .i64 x.1, .int .i64 x.2] tSec)
  have c1 : w.cell? ⟨b1, 0, none⟩ = some (.int .i64 f) := by rw [cells_cell h1]; rfl
  have c1' := later_cell ⟨_, n1⟩ c1
  obtain ⟨xk, xt⟩ := x
  dsimp only at *
  by_cases hk : xk = f
  · have dk : (xk == f) = true := beq_iff_eq.2 hk
    have hr : Hid (decide (xk = f) = true) := by show _ = _; simp [hk]
    clear hk h1
    go_enter Tryz.func129, Tryz.ntmps129
    go_wp2_with fail
    go_ret
    exact ⟨ret_bool hr.out.symm, n1⟩
  · have dk : (xk == f) = false := beq_eq_false_iff_ne.2 hk
    have hr : Hid (decide (xk = f) = false) := by show _ = _; simp [hk]
    clear hk h1
    go_enter Tryz.func129, Tryz.ntmps129
    go_wp2_with fail
    go_ret
    exact ⟨ret_bool hr.out.symm, n1⟩
theorem set2P (x : Int × Int) (v : Bool) (f : Int) (b1 : Nat) (w : World) (h1 : w.heap[b1]? = some (.cells #[.int .i64 f] tIntD (0, 0))) :
    Calls Tryz.prog 131 #[.agg #[.int .i64 x.1, .int .i64 x.2], .bool v, .pointer (some ⟨b1, 0, none⟩)] w fun e w' => e = .returned (.bool (decide (x.1 = f))) ∧ Nw w w' := by
  have n1 := nw_alloc w (.cells #[.int .i64 x.1, .int .i64 x.2] tSec)
  have c1 : w.cell? ⟨b1, 0, none⟩ = some (.int .i64 f) := by rw [cells_cell h1]; rfl
  have c1' := later_cell ⟨_, n1⟩ c1
  obtain ⟨xk, xt⟩ := x
  dsimp only at *
  by_cases hk : xk = f
  · have dk : (xk == f) = true := beq_iff_eq.2 hk
    have hr : Hid (decide (xk = f) = true) := by show _ = _; simp [hk]
    clear hk h1
    go_enter Tryz.func131, Tryz.ntmps131
    go_wp2_with fail
    go_ret
    exact ⟨ret_bool hr.out.symm, n1⟩
  · have dk : (xk == f) = false := beq_eq_false_iff_ne.2 hk
    have hr : Hid (decide (xk = f) = false) := by show _ = _; simp [hk]
    clear hk h1
    go_enter Tryz.func131, Tryz.ntmps131
    go_wp2_with fail
    go_ret
    exact ⟨ret_bool hr.out.symm, n1⟩
theorem wpList_dropL {P : Program} {w w' : World} {ops : Array Oper} {rest : List Oper} {o : Oper} {a : Act} {Q : Exit → Act → World → Prop} (hg : o.guard = none) (hd : o.dst = none) (m x : Operand) (t k : TypeId) (hop : o.op = .call { callee := .builtin .delete, args := #[m, x], argTypes := #[t, k] })
    (vm key : Value) (hm : a.eval m = vm) (hx : a.eval x = key) (hrun : (Builtin.delete_ #[t, k] o.type #[vm, key]).run P w = .ok (.tuple #[]) w') (h : wpList P ops Q rest a w') : wpList P ops Q (o :: rest) a w := by
  refine wpList_plain hg fun K hK => ?_
  unfold Oper.wp
  simp [execOp, hop, resolve, invoke, builtin, hm, hx, hrun, Result.andThen]
  refine hK _ _ ?_
  rw [hd]
  exact h
structure DelS (w : World) (sm rr : Nat) (q : List (Int × Int)) (f : Int) (z : World) : Prop where
  rng : ∃ l done, RangeS Tryz.prog tSec z sm rr l done ∧ (∀ p ∈ l, p ∈ q.map secE) ∧ (∀ p ∈ q, p.1 ≠ f → secE p ∈ l) ∧ ∀ p ∈ q, p.1 = f → done (secV p) → secE p ∉ l
  upd : Upd (fun k => k = sm) w z
theorem secE_inj {p q : Int × Int} (h : secE p = secE q) : p = q := secV_inj (Prod.mk.inj h).1
set_option maxHeartbeats 2000000 in
set_option maxRecDepth 100000 in
theorem delSet (c1 sm : Nat) (q : List (Int × Int)) (f : Int) (w : World) (hgb : nG ≤ w.heap.size) (h : SetL w sm q) (hG : nG ≤ sm) (hbox : w.heap[c1]? = some (.cells #[.int .i64 f] tIntD (0, 0))) (hne : c1 ≠ sm) (hq : ∀ p ∈ q, I64 p.1 ∧ I64 p.2) (hnd : q.Nodup) :
    Calls Tryz.prog 130 #[.map (some sm), .func (.func 131) #[] #[.pointer (some ⟨c1, 0, none⟩)]] w fun e w' => e = .returned (.tuple #[]) ∧ SetL w' sm (q.filter fun p => !decide (p.1 = f)) ∧ Upd (fun k => k = sm) w w' := by
  have hlt := h.lt
  have Hbox := Lib.hid hbox
  have Hq := Lib.hid hq
  have Hnd := Lib.hid hnd
  have H := Lib.hid h
  clear hbox hq hnd h
  go_enter Tryz.func130, Tryz.ntmps130
  go_wp2_with (at_range; refine wpList_rangeS rfl _ 72 4 rfl Tryz.underlying72 rfl H.out ?_)
  intro w1 hrg n1
  have HD : Hid (DelS w sm w.heap.size q f w1) := ⟨⟨_, _, hrg, fun p hp => hp, fun p hp _ => List.mem_map.2 ⟨p, hp, rfl⟩, fun p _ _ e => e.elim⟩, Nw.upd _ n1⟩
  clear hrg n1
  go_wp2_with fail
  go_loopw [4] (fun _ wr => Hid (DelS w sm w.heap.size q f wr)) (fun _ wr => wr.rangeLeft sm w.heap.size)
  case atStart => exact HD.out
  case round =>
    have HD := Lib.hid hrel.out
    obtain ⟨⟨l, done, hrg, hs1, hs2, hs3⟩, hu⟩ := hrel.out
    have hrg' := hrg
    clear hrel
    go_wp2_with (at_next; refine wpList_nextS rfl _ rfl rfl hrg' ?_ ?_ ?_)
    · exact hgb
    · intro hall
      have hset : Hid (SetL wr sm (q.filter fun p => !decide (p.1 = f))) := by
        refine MapL.of_mem hrg.map (List.pairwise_map.2 ((Hnd.out.filter _).imp (fun hne e => hne (secE_inj e)))) (fun p => ?_)
        constructor
        · intro hp
          obtain ⟨x, hx, rfl⟩ := List.mem_map.1 hp
          obtain ⟨hx1, hx2⟩ := List.mem_filter.1 hx
          exact hs2 x hx1 (by simpa using hx2)
        · intro hp
          obtain ⟨x, hx, rfl⟩ := List.mem_map.1 (hs1 p hp)
          refine List.mem_map.2 ⟨x, List.mem_filter.2 ⟨hx, by rw [decide_eq_false (fun e => hs3 x hx e (hall _ _ hp) hp)]; rfl⟩, rfl⟩
      have HU := Lib.hid hu
      clear hall hs1 hs2 hs3 hrg hrg' hu
      go_wp2_with fail
      go_end0
      exact ⟨rfl, hset.out, HU.out⟩
    · intro ka va w6 hpm hrg6 u6 hlt6 hen
      obtain ⟨x, hx, e⟩ := List.mem_map.1 (hs1 _ hpm)
      obtain ⟨hx1, hx2⟩ := Hq.out x hx
      obtain ⟨e1, e2⟩ := Prod.mk.inj e
      subst e1 e2
      have n7 := nw_alloc w6 (.cells #[.int .i64 x.1, .int .i64 x.2] tSec)
      have k7 := heap_new w6 (.cells #[.int .i64 x.1, .int .i64 x.2] tSec)
      have U6 : Upd (fun k => k = sm) w w6 := hu.trans' u6 (fun j hj e => by omega)
      have hb7 := Nw.keep n7 (U6.keep Hbox.out hne)
      have hnext : ∀ w8, Nw (w6.alloc (.cells #[.int .i64 x.1, .int .i64 x.2] tSec)) w8 → RangeS Tryz.prog tSec w8 sm w.heap.size l (fun y => done y ∨ y = secV x) ∧ w8.rangeLeft sm w.heap.size = w6.rangeLeft sm w.heap.size ∧ Upd (fun k => k = sm) w w8 := fun w8 u8 => by
        obtain ⟨a1, a2⟩ := hrg6.upd n7 id id
        obtain ⟨b1, b2⟩ := a1.upd u8 id id
        exact ⟨b1, b2.trans a2, (U6.nw n7).nw u8⟩
      have hgo : x.1 ≠ f → ∀ w8, Nw (w6.alloc (.cells #[.int .i64 x.1, .int .i64 x.2] tSec)) w8 → Hid (DelS w sm w.heap.size q f w8) ∧ w8.rangeLeft sm w.heap.size < wr.rangeLeft sm w.heap.size := fun hf w8 u8 => by
        obtain ⟨b1, b2, b3⟩ := hnext w8 u8
        refine ⟨⟨⟨l, _, b1, hs1, hs2, fun p hp e hd => ?_⟩, b3⟩, by omega⟩
        rcases hd with hd | hd
        · exact hs3 p hp e hd
        · exact absurd e (by rw [secV_inj hd]; exact hf)
      have hdel : x.1 = f → ∀ w8, Nw (w6.alloc (.cells #[.int .i64 x.1, .int .i64 x.2] tSec)) w8 → ∃ w9, (Builtin.delete_ #[72, tSec] 0 #[.map (some sm), .agg #[.int .i64 x.1, .int .i64 x.2]]).run Tryz.prog w8 = .ok (.tuple #[]) w9 ∧ Hid (DelS w sm w.heap.size q f w9) ∧ w9.rangeLeft sm w.heap.size < wr.rangeLeft sm w.heap.size := fun hf w8 u8 => by
        obtain ⟨b1, b2, b3⟩ := hnext w8 u8
        obtain ⟨kl, hkl⟩ := sec_key hx1 hx2
        obtain ⟨w9, l', hrun, hr9, hm9, u9, hl9⟩ := b1.drop (ty := 0) secKeyed Tryz.underlying72 hG hkl
        refine ⟨w9, hrun, ⟨⟨l', _, hr9, fun p hp => hs1 p ((hm9 p).1 hp).1, fun p hp hpf => (hm9 _).2 ⟨hs2 p hp hpf, fun e => hpf (by rw [secV_inj e]; exact hf)⟩, fun p hp e hd hin => ?_⟩, b3.trans u9⟩, by omega⟩
        obtain ⟨h1, h2⟩ := (hm9 _).1 hin
        rcases hd with hd | hd
        · exact hs3 p hp e hd h1
        · exact h2 hd
      have hc := set2P x true f c1 _ hb7
      obtain ⟨xf, xn⟩ := x
      dsimp only [secV] at *
      have K7 := Lib.hid k7
      have Hc := Lib.hid hc
      have Hgo := Lib.hid hgo
      have Hdel := Lib.hid hdel
      clear hnext hgo hdel hc k7 hb7 hrg hrg' hs1 hs2 hs3 hu hrg6 hpm e
      by_cases hf : xf = f
      · have hd := Lib.hid (Hdel.out hf)
        have hdc : decide (xf = f) = true := decide_eq_true hf
        rw [hdc] at Hc
        clear Hgo Hdel hf hdc
        go_wp2_with (first | (go_at_call 131; ((with_reducible refine Hc.out.mono ?_); rintro _ w8 ⟨rfl, u8⟩; obtain ⟨_, _⟩ := cell2D (Nw.keep u8 K7.out); obtain ⟨w9, hrun, hD9, hl9⟩ := hd.out w8 u8)) | (at_delete; refine wpList_dropL rfl rfl _ _ 72 tSec rfl _ _ rfl rfl hrun ?_))
        go_roundw
        case rel => exact hD9
        case measure => exact hl9
      · have hd := Lib.hid (Hgo.out hf)
        have hdc : decide (xf = f) = false := decide_eq_false hf
        rw [hdc] at Hc
        clear Hgo Hdel hf hdc
        go_wp2_with (go_at_call 131; ((with_reducible refine Hc.out.mono ?_); rintro _ w8 ⟨rfl, u8⟩; obtain ⟨hD9, hl9⟩ := hd.out w8 u8))
        go_roundw
        case rel => exact hD9
        case measure => exact hl9
theorem DiskAt.laterD {B : Nat} {w : World} {r : DiskR} {D : Dk.Disk} (h : DiskAt B w r D) : (∀ i : Later w, i.1.cell? ⟨r.db, 0, none⟩ = some (.map (some r.fm))) ∧ (∀ i : Later w, i.1.cell? ⟨r.db, 1, none⟩ = some r.qv) ∧ (∀ i : Later w, i.1.cell? ⟨r.db, 2, none⟩ = some (.map (some r.sm))) :=
  ⟨fun i => (h.nw i.nw).cells.1, fun i => (h.nw i.nw).cells.2.1, fun i => (h.nw i.nw).cells.2.2.1⟩
theorem settle_done {B db fm sm : Nat} {qv kv v' : Value} {W w3 w4 w5 w7 : World} {D : Dk.Disk} {f : Int} {s : List UInt8} (h1 : DiskAt B W ⟨db, fm, sm, qv, kv⟩ D) (hs : s.length ≤ 16777216) (u3 : Nw W w3) (u4 : Upd (fun k => k = fm) w3 w4) (hf4 : FilesL w4 fm (Dk.setF D.fs f ⟨s, s⟩))
    (o5 : w5.ownsRow B tSec 2 v' (D.q.filter fun p => !decide (p.1 = f)).length (flatQ (D.q.filter fun p => !decide (p.1 = f)))) (u5 : Upd (fun k => qv.ownBlock = some k) w4 w5) (ho5 : ∀ k, v'.ownBlock = some k → qv.ownBlock = some k)
    (u7 : Upd (fun k => k = sm) (w5.setCell ⟨db, 1, none⟩ v') w7) (s7 : SetL w7 sm (D.q.filter fun p => !decide (p.1 = f))) : DiskTo B ⟨db, fm, sm, qv, kv⟩ (Dk.settle D f s) W w7 := by
  obtain ⟨a1, a2, a3, a4, a5, a6, a7, a8, a9⟩ := h1.apart
  dsimp only at a1 a2 a3 a4 a5 a6 a7 a8 a9
  have hne := h1.ne
  have hdb := h1.db
  have hhb := h1.hb
  dsimp only at hne hdb
  have u6 : Upd (fun k => k = db) w5 (w5.setCell ⟨db, 1, none⟩ v') := Upd.set1 (Upd.refl _ _) (by omega) 1 v'
  have b5 := u5.keep (u4.keep (u3.keep h1.blk) a1) a3
  refine ⟨⟨db, fm, sm, v', kv⟩, ⟨h1.hb, h1.db, h1.fm, h1.sm, h1.ne, ?_, ?_, s7, ?_, ?_, Dk.settle_ok h1.ok f hs, h1.kI⟩, rfl, ?_, ?_⟩
  · have := setCell_block b5 1 v'
    exact u7.keep this a2
  · exact ((hf4.upd u5 a4).upd u6 (fun e => a1 e.symm)).upd u7 hne
  · refine owns_updD (owns_updD o5 u6 (fun k hk e => ?_)) u7 (fun k hk e => ?_)
    · subst e; exact a3 (ho5 _ hk)
    · subst e; exact a5 (ho5 _ hk)
  · refine owns_updD (owns_updD (owns_updD (owns_updD (owns_updD h1.keep u3 (fun _ _ e => e)) u4 (fun k hk e => ?_)) u5 (fun k hk e => ?_)) u6 (fun k hk e => ?_)) u7 (fun k hk e => ?_)
    · subst e; exact a7 hk
    · exact a9 k e hk
    · subst e; exact a6 hk
    · subst e; exact a8 hk
  · exact ((((Nw.upd _ u3).trans' u4 (fun k _ e => Or.inr (Or.inl e))).trans' u5 (fun k _ e => Or.inr (Or.inr (Or.inr (Or.inl e))))).trans' u6 (fun k _ e => Or.inl e)).trans' u7 (fun k _ e => Or.inr (Or.inr (Or.inl e)))
  · rintro j (e | e | e | e | e)
    · exact Or.inl (Or.inl e)
    · exact Or.inl (Or.inr (Or.inl e))
    · exact Or.inl (Or.inr (Or.inr (Or.inl e)))
    · exact Or.inl (Or.inr (Or.inr (Or.inr (Or.inl (ho5 _ e)))))
    · exact Or.inl (Or.inr (Or.inr (Or.inr (Or.inr e))))
theorem q_I64 {D : Dk.Disk} (h : Dk.Ok D) : ∀ p ∈ D.q, I64 p.1 ∧ I64 p.2 := fun p hp => by
  have := h.q p hp
  unfold I64
  omega
set_option maxHeartbeats 2000000 in
set_option maxRecDepth 100000 in
theorem settle_c {B : Nat} {w : World} {r : DiskR} {D : Dk.Disk} (h : DiskAt B w r D) (g : Gl w) {f : Int} (hf : I64 f) (s : List UInt8) (hs : s.length ≤ 16777216) (hB : B ≤ w.heap.size) :
    Calls Tryz.prog 92 #[.pointer (some ⟨r.db, 0, none⟩), .int .i64 f, .string ⟨s.toArray⟩] w fun e w' => e = .returned (.tuple #[]) ∧ DiskTo B r (Dk.settle D f s) w w' := by
  have hgb := g.big
  have n1 := nw_alloc w (.cells #[.int .i64 f] tIntD)
  have k1 := heap_new w (.cells #[.int .i64 f] tIntD)
  have s1 : (w.alloc (.cells #[.int .i64 f] tIntD)).heap.size = w.heap.size + 1 := by simp
  have h1 := h.nw n1
  have hlt : ∀ j, r.foot j → j < w.heap.size := fun j hj => (h.foot_lt hj).2
  obtain ⟨l0, l1, l2⟩ := h1.laterD
  have lb : ∀ i : Later (w.alloc (.cells #[.int .i64 f] tIntD)), i.1.cell? ⟨w.heap.size, 0, none⟩ = some (.int .i64 f) := fun i => by rw [cells_cell (i.nw.keep k1)]; rfl
  have H1 := Lib.hid h1
  have K1 := Lib.hid k1
  have Hlt := Lib.hid hlt
  have hqI := q_I64 H1.out.ok
  have hql := H1.out.ok.q_len
  have hnd := H1.out.ok.nd
  obtain ⟨db, fm, sm, qv, kv⟩ := r
  obtain ⟨aq, cq, hqv⟩ := own_slD H1.out.queue
  dsimp only at hqv
  subst hqv
  dsimp only at *
  have HqI := Lib.hid hqI
  have Hql := Lib.hid hql
  have Hnd := Lib.hid hnd
  have Hs := Lib.hid hs
  clear h h1 k1 hlt hqI hql hnd hs
  go_enter Tryz.func92, Tryz.ntmps92
  go_wp2_with fail
  refine wp_region_nw_tail 8 (by kernel_rfl) (by kernel_rfl) ?_
  simp only [List.take_succ_cons, List.take_zero, List.drop_succ_cons, List.drop_zero]
  repeat (go_big_quiet_step ((fail)))
  refine wpQuiet_nil ?_
  intro w3 u3
  replace u3 := later_out u3
  have h3 := H1.out.nw u3
  obtain ⟨w4, hst, hf4, u4⟩ := h3.files.put (by have := h3.fm; have := h3.hb; dsimp only at *; omega) hf ⟨s, s⟩
  obtain ⟨a1, a2, a3, a4, a5, a6, a7, a8, a9⟩ := h3.apart
  dsimp only [filV] at hst a1 a2 a3 a4 a5 a6 a7 a8 a9 hf4 u4
  have k4 := u4.keep (u3.keep K1.out) (fun e => by have := Hlt.out fm (Or.inr (Or.inl rfl)); omega)
  have b4 := u4.keep h3.blk a1
  have q4 := owns_updD h3.queue u4 (fun k hk e => by subst e; exact a4 hk)
  have s4 := h3.set.upd u4 (fun e => h3.ne e.symm)
  have d4 := delSecs 129 w.heap.size call_set1 (fun x => decide (x.1 = f)) B _ D.q w4 h3.hb (by have := Hql.out; omega) q4 (fun W x u hx => set1P x f w.heap.size W (u.keep k4 (fun e => by have := Hlt.out w.heap.size (Or.inr (Or.inr (Or.inr (Or.inl e)))); omega)))
  have x1 : w4.cell? ⟨db, 1, none⟩ = some (.slice aq D.q.length cq) := by rw [cells_cell b4]; rfl
  have D4 := Lib.hid d4
  have Hst := Lib.hid hst
  have Hf4 := Lib.hid hf4
  have B4 := Lib.hid b4
  have K4 := Lib.hid k4
  have S4 := Lib.hid s4
  have Ha := Lib.hid (And.intro a3 (And.intro a5 h3.ne))
  have Hsm := Lib.hid h3.sm
  have Hhb := Lib.hid h3.hb
  have Hlt2 : Hid (db < w.heap.size) := Hlt.out db (Or.inl rfl)
  have hgd : Hid (nG ≤ db) := Nat.le_trans h3.hb h3.db
  clear d4 hst hf4 b4 k4 q4 s4 a1 a2 a3 a4 a5 a6 a7 a8 a9 h3 l0 l1 l2 lb
  go_wp2_with (at_mapUpdate; refine wpList_storeL rfl _ _ _ tFiles rfl _ _ _ rfl rfl rfl Hst.out ?_)
  go_wp2_with fail
  (with_reducible refine (D4.out).mono ?_)
  rintro _ w5 ⟨v', rfl, o5, u5, ho5⟩
  have b5 := u5.keep B4.out Ha.out.1
  have k5 := u5.keep K4.out (fun e => by have := Hlt.out w.heap.size (Or.inr (Or.inr (Or.inr (Or.inl e)))); omega)
  have y1 : w5.cell? ⟨db, 1, none⟩ = some (.slice aq D.q.length cq) := by rw [cells_cell b5]; rfl
  have y2 : w5.cell? ⟨db, 2, none⟩ = some (.map (some sm)) := by rw [cells_cell b5]; rfl
  have f1 := cells_frozen b5 1
  have u6 : Upd (fun k => k = db) w5 (w5.setCell ⟨db, 1, none⟩ v') := Upd.set1 (Upd.refl _ _) hgd.out 1 v'
  have s6 := (S4.out.upd u5 Ha.out.2.1).upd u6 (fun e => by have := DiskAt.apart H1.out; exact this.2.1 e.symm)
  have k6 := u6.keep k5 (fun e => by have := Hlt2.out; omega)
  have d7 := delSet w.heap.size sm D.q f (w5.setCell ⟨db, 1, none⟩ v') (Nat.le_trans hgb (Nat.le_trans n1.size (Nat.le_trans u3.size (Nat.le_trans u4.size (Nat.le_trans u5.size (by simp [World.setCell])))))) s6 (Nat.le_trans Hhb.out Hsm.out) k6 (fun e => by have := Hlt.out sm (Or.inr (Or.inr (Or.inl rfl))); omega) HqI.out Hnd.out
  have D7 := Lib.hid d7
  have O5 := Lib.hid o5
  obtain ⟨av, cv, rfl⟩ := own_slD o5
  clear d7 k6 s6 u6 b5 k5 D4 o5
  go_wp2_with fail
  (with_reducible refine (D7.out).mono ?_)
  rintro _ w7 ⟨rfl, s7, u7⟩
  go_wp2_with fail
  go_end0
  exact ⟨rfl, DiskTo.after n1 (settle_done H1.out Hs.out u3 u4 Hf4.out O5.out u5 ho5 u7 s7)⟩
end Go.Proofs.YtiednpagknnfnaaGreatDoor
namespace Go.Proofs.YtiednpagknnfnaaGreatDoor
open Go.RowKit Go.Maps Go.Sort Go.Shelf
attribute [local irreducible] Calls CallsIn
abbrev tMu : TypeId := 150
def trueE (n : Int) : Value × Value := (.int .i64 n, .bool true)
structure UsM (w : World) (b : Nat) (p : Int → Bool) : Prop where
  ex : ∃ l, MapL Tryz.prog tIntS w b l ∧ (∀ e ∈ l, ∃ n, e = trueE n ∧ p n = true) ∧ ∀ n, p n = true → trueE n ∈ l
theorem UsM.look {w : World} {b : Nat} {p : Int → Bool} (h : UsM w b p) {n : Int} (hn : I64 n) : (Instr.lookup tMu (.map (some b)) (.int .i64 n) false).run Tryz.prog w = .ok (.bool (p n)) w := by
  obtain ⟨l, h1, h2, h3⟩ := h.ex
  have hz : (zeroValue 4).run Tryz.prog w = .ok (.bool false) w := by kernel_rfl
  rcases h1.look intKeyD Tryz.underlying150 hz (int_keyD hn) with ⟨v, hm, hrun⟩ | ⟨hno, hrun⟩
  · obtain ⟨m, e, hp⟩ := h2 _ hm
    obtain ⟨e1, e2⟩ := Prod.mk.inj e
    simp only [Value.int.injEq, true_and] at e1
    subst e1 e2
    rw [hrun, hp]; rfl
  · cases hp : p n with
    | false => rw [hrun]; rfl
    | true => exact absurd rfl (hno _ (h3 n hp))
theorem UsM.same {w w' : World} {b : Nat} {p : Int → Bool} (h : UsM w b p) (e : w'.heap[b]? = w.heap[b]?) : UsM w' b p := by
  obtain ⟨l, ⟨es, clock, h1, h2⟩, h3⟩ := h.ex
  exact ⟨l, ⟨es, clock, e.trans h1, h2⟩, h3⟩
set_option maxHeartbeats 2000000 in
set_option maxRecDepth 100000 in
theorem spare1_c {W : World} {c b : Nat} {p : Int → Bool} (h : UsM W b p) (hc : W.cell? ⟨c, 0, none⟩ = some (.map (some b))) {n : Int} (hn : I64 n) :
    Calls Tryz.prog 87 #[.int .i64 n, .pointer (some ⟨c, 0, none⟩)] W fun e w' => e = .returned (.bool (p n)) ∧ w' = W := by
  have HL := Lib.hid (h.look hn)
  clear h
  generalize p n = q at HL ⊢
  go_enter Tryz.func87, Tryz.ntmps87
  go_wp2_with (at_lookup; refine wpList_lookL rfl _ _ tMu false rfl _ _ _ rfl rfl HL.out ?_)
  go_ret
  exact ⟨rfl, rfl⟩
abbrev I64T := { n : Int // I64 n }
instance : Inhabited I64T := ⟨⟨0, by unfold I64; omega⟩⟩
def encI : I64T → Value := fun x => .int .i64 x.1
theorem heap_sortWorld {w : World} {blk off n k : Nat} {dk : Array I64T} {os : Array Obj} (hk : k < w.heap.size) (hne : k ≠ blk) : (sortWorld encI w blk off n dk os).heap[k]? = w.heap[k]? := by
  unfold sortWorld
  rw [Sort.heap_grow_old _ os (by rw [size_putRow]; exact hk)]
  simp only [putRow, mapBlock, Sort.ahead, Array.getElem?_modify]
  rw [if_neg (fun e => hne e.symm)]
theorem cell_of_heap {w w' : World} {b : Nat} (h : w'.heap[b]? = w.heap[b]?) (i : Nat) : w'.cell? ⟨b, i, none⟩ = w.cell? ⟨b, i, none⟩ := World.cell?_of_block h
section
variable {w : World} {c b : Nat} {p : Int → Bool}
theorem predAt (h : UsM w b p) (hc : w.cell? ⟨c, 0, none⟩ = some (.map (some b))) (hb : b < w.heap.size) (hcl : c < w.heap.size) :
    PredAt Tryz.prog 87 #[.pointer (some ⟨c, 0, none⟩)] encI (fun x => p x.1) w := fun W x hW =>
  (spare1_c (h.same (hW.block b hb)) ((cell_of_heap (hW.block c hcl) 0).trans hc) x.2).mono fun e w' ⟨h1, h2⟩ => ⟨h1, 0, h2⟩
theorem predOver (h : UsM w b p) (hc : w.cell? ⟨c, 0, none⟩ = some (.map (some b))) (hb : b < w.heap.size) (hcl : c < w.heap.size) {blk off size : Nat} (h1 : b ≠ blk) (h2 : c ≠ blk) :
    PredOver Tryz.prog 87 #[.pointer (some ⟨c, 0, none⟩)] encI (fun x => p x.1) blk off size w := fun n os dk x _ =>
  (spare1_c (h.same (heap_sortWorld hb h1)) ((cell_of_heap (heap_sortWorld hcl h2) 0).trans hc) x.2).mono fun e w' ⟨h1, h2⟩ => ⟨h1, 0, h2⟩
set_option maxHeartbeats 2000000 in
set_option maxRecDepth 100000 in
theorem index_nil_c (g : Nat) (lb : Array Value) (w : World) : Calls Tryz.prog 124 #[.slice none 0 0, .func (.func g) #[] lb] w fun e w' => e = .returned (.int .i64 (-1)) ∧ w' = w := by
  go_enter Tryz.func124, Tryz.ntmps124
  go_wp2_with fail
  refine wp_loop_rounds 1 ?_
  rw [rounds_succ]
  go_wp2_with fail
  go_ret
  exact ⟨rfl, rfl⟩
set_option maxHeartbeats 2000000 in
set_option maxRecDepth 100000 in
theorem delete_nil_c (g : Nat) (lb : Array Value) (w : World) : Calls Tryz.prog 86 #[.slice none 0 0, .func (.func g) #[] lb] w fun e w' => e = .returned (.slice none 0 0) ∧ w' = w := by
  go_enter Tryz.func86, Tryz.ntmps86
  go_wp2_with fail
  (with_reducible refine (index_nil_c _ _ _).mono ?_)
  rintro _ _ ⟨rfl, rfl⟩
  go_wp2_with fail
  go_ret
  exact ⟨rfl, rfl⟩
end
theorem delete_c {w : World} {c b Bo : Nat} {p : Int → Bool} (h : UsM w b p) (hc : w.cell? ⟨c, 0, none⟩ = some (.map (some b))) (hb : b < Bo) (hcl : c < Bo) (hBo : nG ≤ Bo) (hB2 : Bo ≤ w.heap.size) {v : Value} {L : List Int} (hI : ∀ n ∈ L, I64 n) (hL : L.length ≤ 1000) (ho : w.ownsRow Bo tIntS 1 v L.length (L.map intD)) :
    Calls Tryz.prog 86 #[v, .func (.func 87) #[] #[.pointer (some ⟨c, 0, none⟩)]] w fun e w' => ∃ v', e = .returned v' ∧ w'.ownsRow Bo tIntS 1 v' (L.filter fun n => !p n).length ((L.filter fun n => !p n).map intD) ∧ Upd (fun k => Bo ≤ k) w w' := by
  obtain ⟨L', hL1, hL2⟩ : ∃ L' : List I64T, L'.map (·.1) = L ∧ L'.map encI = L.map intD := by
    refine ⟨L.pmap (fun n h => ⟨n, h⟩) hI, ?_, ?_⟩
    · rw [List.map_pmap]; simp
    · rw [List.map_pmap]
      show L.pmap (fun n _ => intD n) _ = _
      rw [List.pmap_eq_map]
  have hlen : L'.length = L.length := by rw [← hL1, List.length_map]
  have hfil : (L.filter fun n => !p n) = (L'.filter fun x => !p x.1).map (·.1) := by rw [← hL1, List.filter_map]; rfl
  have hfm : (L.filter fun n => !p n).map intD = (L'.filter fun x => !p x.1).map encI := by rw [hfil, List.map_map]; rfl
  rcases ho.2 with ⟨rfl, hn⟩ | ⟨g, cap, cur, rfl, hbg, hg, hnc, hcm, hcs, htk⟩
  · obtain rfl : L = [] := List.length_eq_zero_iff.1 hn
    exact (delete_nil_c _ _ w).mono fun e w' ⟨h1, h2⟩ => ⟨_, h1, by rw [h2]; exact World.ownsRow_nil _ _ _ _, by rw [h2]; exact Upd.refl _ _⟩
  · have ho' := ho
    rw [← hL2, ← hlen] at ho'
    have hH : Holds encI w g 0 L'.toArray := by
      obtain ⟨g', cap', e1, _, _, _, _, _, hH⟩ := Lib.holds_of_ownsRow ho' (by simp)
      cases e1
      exact hH
    have hlf := List.length_filter_le (fun x : I64T => !p x.1) L'
    have hfl : (L.filter fun n => !p n).length = (L'.filter fun x => !p x.1).length := by rw [hfil, List.length_map]
    have hz : ∀ w, (zeroValue (Tryz.delI_ren.t 23)).run Tryz.prog w = .ok (encI ⟨0, by unfold I64; omega⟩) w := fun w => by kernel_rfl
    have hcon := AnyE.slices_DeleteFunc Tryz.delI encI (fun _ => rfl) (fun x => p x.1) 87 #[.pointer (some ⟨c, 0, none⟩)] (enters_of Tryz.func87 (by kernel_rfl) rfl) ⟨0, by unfold I64; omega⟩ hz g 0 cap L'.toArray w
      (predAt h hc (by omega) (by omega)) (predOver h hc (by omega) (by omega) (by omega) (by omega)) hH (by simp; omega) (by simp; omega)
    rw [← hlen]
    have hcon' : Calls Tryz.prog 86 #[.slice (some ⟨g, 0, none⟩) L'.length cap, .func (.func 87) #[] #[.pointer (some ⟨c, 0, none⟩)]] w _ := hcon
    refine hcon'.mono fun e w' ⟨h1, q, h2⟩ => ⟨_, h1, ?_, ?_⟩
    · rw [hfl, hfm, h2]
      have := Lib.ownsRow_putRow (q := q) (k := (L'.filter fun x => !p x.1).length) (ys := (L'.filter fun x => !p x.1) ++ List.replicate (L'.toArray.size - (L'.filter fun x => !p x.1).length) ⟨0, by unfold I64; omega⟩) ho' (by simp; omega) hlf
      rw [List.take_left' rfl] at this
      exact this
    · rw [h2]
      refine ⟨rfl, rfl, rfl, by simp [putRow, mapBlock, Sort.ahead], fun k hk hn => ?_⟩
      simp only [putRow, mapBlock, Sort.ahead, Array.getElem?_modify]
      rw [if_neg (fun e => by subst e; rcases hn with hn | hn <;> omega)]
end Go.Proofs.YtiednpagknnfnaaGreatDoor
namespace Go.Proofs.YtiednpagknnfnaaGreatDoor
open Go.RowKit
attribute [local irreducible] Calls CallsIn
def spI (S : Sg.Sta) : List Int := (Sg.spare S).map fun i : Nat => (i : Int)
theorem spI_eq (S : Sg.Sta) : (numI S).filter (fun n => !Sg.used S n) = spI S := by
  unfold numI spI Sg.spare
  rw [List.filter_map]
  rfl
theorem cells5 {w : World} {g n : Nat} {cap B : Nat} {l : List Sg.It} (h : w.ownsRow B tPl 5 (.slice (some ⟨g, 0, none⟩) n cap) n (itL l)) (i : Nat) (hi : i < l.length) :
    w.cell? ⟨g, i * 5, none⟩ = some (bsV l[i].nm) ∧ w.cell? ⟨g, i * 5 + 1, none⟩ = some (.int .i64 l[i].a) ∧ w.cell? ⟨g, i * 5 + 2, none⟩ = some (.int .i64 l[i].b) ∧ w.cell? ⟨g, i * 5 + 3, none⟩ = some (.int .i64 l[i].c) ∧ w.cell? ⟨g, i * 5 + 4, none⟩ = some (.int .i64 l[i].pr) := by
  have hc : ∀ j, j < 5 → w.cell? ⟨g, i * 5 + j, none⟩ = (itC l[i])[j]? := fun j hj => by
    have h1 := flat_at (l.map itC) i j (fun x hx => by obtain ⟨y, _, rfl⟩ := List.mem_map.1 hx; rfl) hj (by simpa using hi)
    rw [List.getElem_map] at h1
    have hj2 : j < (itC l[i]).length := hj
    rw [List.getElem?_eq_getElem hj2] at h1 ⊢
    have := h.cells (g := g) rfl (i * 5 + j) _ h1
    rw [add_plain, Nat.zero_add] at this
    exact this
  exact ⟨hc 0 (by omega), hc 1 (by omega), hc 2 (by omega), hc 3 (by omega), hc 4 (by omega)⟩
def UsP (w : World) (b : Nat) (S : Sg.Sta) (D : Int → Prop) : Prop := ∃ l, MapL Tryz.prog tIntS w b l ∧ (∀ e ∈ l, ∃ n, e = trueE n ∧ Sg.used S n = true) ∧ ∀ n, D n → trueE n ∈ l
section
variable {w w' : World} {b : Nat} {S : Sg.Sta} {D D' : Int → Prop} {U : Nat → Prop}
theorem UsP.upd (h : UsP w b S D) (u : Upd U w w') (hs : ¬ U b) : UsP w' b S D := by
  obtain ⟨l, h1, h2⟩ := h
  exact ⟨l, h1.upd u hs, h2⟩
theorem UsP.mono (h : UsP w b S D) (hd : ∀ n, D' n → D n) : UsP w b S D' := by
  obtain ⟨l, h1, h2, h3⟩ := h
  exact ⟨l, h1, h2, fun n hn => h3 n (hd n hn)⟩
theorem UsP.put (h : UsP w b S D) (hg : nG ≤ b) {n : Int} (hn : I64 n) (hu : Sg.used S n = true) :
    ∃ w', (Instr.mapUpdate tMu (.map (some b)) (.int .i64 n) (.bool true)).run Tryz.prog w = .ok () w' ∧ UsP w' b S (fun m => D m ∨ m = n) ∧ Upd (· = b) w w' := by
  obtain ⟨l, h1, h2, h3⟩ := h
  obtain ⟨w', l', hrun, hm, hmem, u⟩ := h1.put intKeyD Tryz.underlying150 hg (int_keyD hn) (.bool true)
  refine ⟨w', hrun, ⟨l', hm, fun e he => ?_, fun m hm => ?_⟩, u⟩
  · rcases (hmem e).1 he with ⟨h, _⟩ | h
    · exact h2 e h
    · exact ⟨n, h, hu⟩
  · rw [hmem]
    by_cases e : m = n
    · exact Or.inr (by rw [e]; rfl)
    · rcases hm with hm | hm
      · refine Or.inl ⟨h3 m hm, fun e1 => e ?_⟩
        simp only [trueE, Value.int.injEq, true_and] at e1
        exact e1
      · exact absurd hm e
end
structure SpI (z : World) (x : SgR) (S : Sg.Sta) (C : List (Sg.Pf × Value)) (wr : World) : Prop where
  rng : ∃ done, RangeS Tryz.prog tStrS wr x.mP (z.heap.size + 2) (pE C) done ∧ UsP wr z.heap.size S (fun n => ∃ q ∈ C, done (bsV q.1.nm) ∧ ∃ y ∈ q.1.its, y.pr = n)
  box : wr.heap[z.heap.size + 1]? = some (.cells #[.map (some z.heap.size)] tMu (0, 0))
  upd : Nw z wr
theorem there_i64 {B : Nat} {z : World} {x : SgR} {S : Sg.Sta} (h : SgAt B z x S) {n : Int} (hn : Sg.there S n = true) : 0 ≤ n ∧ n < 1000 := by
  unfold Sg.there at hn
  simp only [Bool.and_eq_true, decide_eq_true_eq] at hn
  have := Sg.thereN_lt hn.2
  have hb := h.big
  unfold Sg.big at hb
  omega
set_option maxHeartbeats 4000000 in
set_option maxRecDepth 100000 in
theorem spare_c {B : Nat} {z : World} {x : SgR} {S : Sg.Sta} (h : SgAt B z x S) : Calls Tryz.prog 55 #[.pointer (some ⟨x.sb, 0, none⟩)] z fun e z' => ∃ v, e = .returned v ∧ z'.ownsRow z.heap.size tIntS 1 v (spI S).length ((spI S).map intD) ∧ Nw z z' := by
  have H := Lib.hid h
  have hgb : nG ≤ z.heap.size := by have := h.gl; have := h.lt x.sb (Or.inl rfl); omega
  have hsb := (h.lt x.sb (Or.inl rfl)).2
  have hmP := (h.lt x.mP (by right; right; right; left; rfl)).2
  obtain ⟨C, h6, h7, h8⟩ := h.mp
  have n1 := nw_alloc z (.map #[] 0)
  have n2 := nw_alloc (z.alloc (.map #[] 0)) (.cells #[.map (some z.heap.size)] tMu)
  have m1 : MapL Tryz.prog tIntS ((z.alloc (.map #[] 0)).alloc (.cells #[.map (some z.heap.size)] tMu)) z.heap.size [] := (MapL.made _ _ z).nw n2
  have b1 := heap_new (z.alloc (.map #[] 0)) (.cells #[.map (some z.heap.size)] tMu)
  rw [World.size_alloc] at b1
  generalize hW : (z.alloc (.map #[] 0)).alloc (.cells #[.map (some z.heap.size)] tMu) = W at m1 b1 n2
  have hWs : W.heap.size = z.heap.size + 2 := by rw [← hW, World.size_alloc, World.size_alloc]
  have n12 := n1.trans n2
  obtain ⟨c0, c1, c2, c3, c4⟩ := (h.nw n12).cells
  have hmm := @run_makeMap Tryz.prog
  have H7 := Lib.hid (h7.nw n12)
  have H8 := Lib.hid h8
  have H6 := Lib.hid h6
  have HN := Lib.hid n12
  have HM := Lib.hid m1
  have HB := Lib.hid b1
  have HW := Lib.hid hW
  have HWs := Lib.hid hWs
  clear h h6 h7 h8 n1 n2 n12 m1 b1 hW hWs
  go_enter Tryz.func55, Tryz.ntmps55
  go_upto_region 2 with fail
  rw [HW.out]
  clear HW
  go_wp2_with (at_range; refine wpList_rangeS rfl _ 85 47 rfl Tryz.underlying85 rfl H7.out ?_)
  intro w1 hrg n1
  rw [HWs.out] at hrg ⊢
  have HC : Hid (SpI z x S C w1) := ⟨⟨_, hrg, ⟨[], HM.out.nw n1, (fun e he => by cases he), fun n ⟨q, _, hd, _⟩ => hd.elim⟩⟩, n1.keep HB.out, HN.out.trans n1⟩
  clear hrg n1
  go_wp2_with fail
  go_loopw [14] (fun _ wr => Hid (SpI z x S C wr)) (fun _ wr => wr.rangeLeft x.mP (z.heap.size + 2))
  case atStart => exact HC.out
  case round =>
    obtain ⟨⟨done, hrg, hus⟩, hbox, hu⟩ := hrel.out
    have hrg' := hrg
    have hgb2 : nG ≤ z.heap.size + 2 := by omega
    clear hrel
    go_wp2_with (at_next; refine wpList_nextS rfl _ rfl rfl hrg' ?_ ?_ ?_)
    · exact hgb2
    · intro hall
      have hM : UsM wr z.heap.size (fun n => Sg.used S n) := by
        obtain ⟨l, h1, h2, h3⟩ := hus
        refine ⟨l, h1, h2, fun n hn => h3 n ?_⟩
        unfold Sg.used Sg.usedL at hn
        obtain ⟨p, hp, hn2⟩ := List.any_eq_true.1 hn
        rw [H6.out] at hp
        obtain ⟨q, hq, rfl⟩ := List.mem_map.1 hp
        obtain ⟨y, hy, hn3⟩ := List.any_eq_true.1 hn2
        exact ⟨q, hq, hall (bsV q.1.nm) (pfV q.1.nm q.2) (List.mem_map.2 ⟨q, hq, rfl⟩), y, hy, of_decide_eq_true hn3⟩
      have hwr := hu.size
      have hs3 : z.heap.size + 3 ≤ wr.heap.size := by have := hrg.lt.2.1; omega
      have Hnum := Lib.hid (sNumbers_c (H.out.nw hu))
      have HM2 := Lib.hid hM
      have HBx := Lib.hid hbox
      have HU := Lib.hid hu
      have HS3 := Lib.hid hs3
      clear hall hrg hrg' hus hbox hu hM hwr hs3 hgb2
      go_wp2_with fail
      (with_reducible refine (Hnum.out).mono ?_)
      rintro _ w4 ⟨v4, rfl, ho4, u4⟩
      have hs4 := u4.size
      have hc4 : w4.cell? ⟨z.heap.size + 1, 0, none⟩ = some (.map (some z.heap.size)) := by rw [cells_cell (u4.keep HBx.out)]; rfl
      have Hdel := Lib.hid (delete_c (Bo := wr.heap.size) (p := fun n => Sg.used S n) (HM2.out.same (u4.block _ (by have := HS3.out; omega) (Or.inr id))) hc4 (by have := HS3.out; omega) (by have := HS3.out; omega) (by have := HS3.out; omega) hs4 (L := numI S) (fun n hn => by
        obtain ⟨i, hi, rfl⟩ := List.mem_map.1 hn
        have := Sg.thereN_lt (mem_numbers.1 hi)
        have hb := H.out.big
        unfold Sg.big at hb
        unfold I64; omega) (by unfold numI; rw [List.length_map]; have := numbers_len S; have hb := H.out.big; unfold Sg.big at hb; omega) ho4)
      have HU4 := Lib.hid (HU.out.trans u4)
      clear ho4 u4
      go_wp2_with fail
      (with_reducible refine (Hdel.out).mono ?_)
      rintro _ w5 ⟨v5, rfl, ho5, u5⟩
      rw [spI_eq] at ho5
      go_wp2_with fail
      go_ret
      have := HS3.out
      exact ⟨_, rfl, ownsRow_base_a ho5 (by omega), HU4.out.trans' u5 (fun k hk e => by omega)⟩
    · intro ka va w6 hpm hrg6 u6 hlt6 hen
      obtain ⟨q, hq, e⟩ := List.mem_map.1 hpm
      obtain ⟨e1, e2⟩ := Prod.mk.inj e
      subst e1 e2
      have hit := H8.out q hq
      have hqp : q.1 ∈ S.pf := by rw [H6.out]; exact List.mem_map.2 ⟨q, hq, rfl⟩
      have hprs : ∀ y ∈ q.1.its, I64 y.pr ∧ Sg.used S y.pr = true := fun y hy => ⟨by have := there_i64 H.out (H.out.g.items q.1 hqp y hy); unfold I64; omega, Sg.used_of hqp hy⟩
      have hlen : q.1.its.length ≤ 60 := by
        have := H.out.g.right q.1 hqp
        unfold Sg.rightP at this
        simp only [Bool.and_eq_true, decide_eq_true_eq] at this
        exact this.1.2
      have hdone : ∀ m, (∃ q' ∈ C, (done (bsV q'.1.nm) ∨ bsV q'.1.nm = bsV q.1.nm) ∧ ∃ y ∈ q'.1.its, y.pr = m) → (∃ q' ∈ C, done (bsV q'.1.nm) ∧ ∃ y ∈ q'.1.its, y.pr = m) ∨ ∃ k, ∃ h : k < q.1.its.length, q.1.its[k].pr = m := by
        rintro m ⟨q', hq', hd | hd, y, hy, hm⟩
        · exact Or.inl ⟨q', hq', hd, y, hy, hm⟩
        · have := asc_uniq H.out.g.asc (by rw [H6.out]; exact List.mem_map.2 ⟨q', hq', rfl⟩) hqp (bsV_inj hd)
          rw [this] at hy
          obtain ⟨k, hk, e⟩ := List.getElem_of_mem hy
          exact Or.inr ⟨k, hk, by rw [e]; exact hm⟩
      obtain ⟨⟨nm, its⟩, iv⟩ := q
      dsimp only at *
      obtain ⟨iva, ivc, rfl⟩ := own_slS hit.1
      have U6 : Nw z w6 := hu.trans' u6 (fun j hj e => by omega)
      have hus6 := hus.upd u6 (show ¬ z.heap.size = z.heap.size + 2 by omega)
      have hb6 := u6.keep hbox (show ¬ z.heap.size + 1 = z.heap.size + 2 by omega)
      have hs6 : z.heap.size + 3 ≤ w6.heap.size := by have := hrg6.lt.2.1; omega
      unfold pfV bsV at hen
      have n7 := nw_alloc w6 (.cells #[.string ⟨nm.toArray⟩, .slice iva its.length ivc] 47)
      have k7 := heap_new w6 (.cells #[.string ⟨nm.toArray⟩, .slice iva its.length ivc] 47)
      obtain ⟨hr7, hl7⟩ := hrg6.upd n7 id id
      have hu7 := hus6.upd n7 id
      have hb7 := n7.keep hb6
      have U7 := U6.trans n7
      have hi7 := hit.upd U7 (fun _ _ s => s)
      generalize hW7 : w6.alloc (.cells #[.string ⟨nm.toArray⟩, .slice iva its.length ivc] 47) = w7 at n7 k7 hr7 hl7 hu7 hb7 U7 hi7
      have hs7 : w7.heap.size = w6.heap.size + 1 := by rw [← hW7, World.size_alloc]
      have HW7 := Lib.hid hW7
      have HR7 := Lib.hid hr7
      have HL7 := Lib.hid (show w7.rangeLeft x.mP (z.heap.size + 2) < wr.rangeLeft x.mP (z.heap.size + 2) by omega)
      have HU7 := Lib.hid hu7
      have HB7 := Lib.hid hb7
      have HK7 := Lib.hid k7
      have HN7 := Lib.hid U7
      have HI7 := Lib.hid hi7
      have HP := Lib.hid hprs
      have HLn := Lib.hid hlen
      have HD := Lib.hid hdone
      have HS := Lib.hid (And.intro hs6 hs7)
      clear hrg hrg' hus hbox hu hpm hrg6 u6 hlt6 e hqp hprs hlen hdone U6 hus6 hb6 n7 k7 hr7 hl7 hu7 hb7 U7 hi7 hW7 hit hgb2 hs6 hs7 hq
      unfold pfV bsV
      go_upto_block 2 with fail
      rw [HW7.out]
      clear HW7 hen
      have HJ : Hid (∀ (i : Nat) (wy : World), (UsP wy z.heap.size S (fun m => (∃ q' ∈ C, done (bsV q'.1.nm) ∧ ∃ y ∈ q'.1.its, y.pr = m) ∨ ∃ k, ∃ h : k < its.length, k < i ∧ its[k].pr = m)) → Upd (fun k => k = z.heap.size) w7 wy → its.length ≤ i → SpI z x S C wy ∧ wy.rangeLeft x.mP (z.heap.size + 2) < wr.rangeLeft x.mP (z.heap.size + 2)) := by
        intro i wy hu1 hu2 hi
        obtain ⟨hr8, hl8⟩ := HR7.out.upd hu2 (by omega) (by omega)
        refine ⟨⟨⟨_, hr8, hu1.mono (fun m hm => ?_)⟩, hu2.keep HB7.out (by omega), HN7.out.trans' hu2 (fun k hk e => by omega)⟩, by rw [hl8]; exact HL7.out⟩
        rcases HD.out m hm with h | ⟨k, hk, e⟩
        · exact Or.inl h
        · exact Or.inr ⟨k, hk, by omega, e⟩
      have HI0 : Hid (UsP w7 z.heap.size S (fun m => (∃ q' ∈ C, done (bsV q'.1.nm) ∧ ∃ y ∈ q'.1.its, y.pr = m) ∨ ∃ k, ∃ h : k < its.length, k < 0 ∧ its[k].pr = m)) := HU7.out.mono (fun m hm => by
        rcases hm with h | ⟨k, hk, h, _⟩
        · exact h
        · omega)
      clear HR7 HL7 HU7 HD
      go_wp2_with fail
      go_loopw [21] (fun iv wy => ∃ i : Nat, i ≤ its.length ∧ iv = .int .i64 (i : Int) ∧ Hid (UsP wy z.heap.size S (fun m => (∃ q' ∈ C, done (bsV q'.1.nm) ∧ ∃ y ∈ q'.1.its, y.pr = m) ∨ ∃ k, ∃ h : k < its.length, k < i ∧ its[k].pr = m) ∧ Upd (fun k => k = z.heap.size) w7 wy)) (fun iv _ => its.length - (intOf iv).toNat)
      case atStart => exact ⟨0, Nat.zero_le _, rfl, ⟨HI0.out, Upd.refl _ _⟩⟩
      case round =>
        obtain ⟨i, hi, rfl, hy⟩ := hrel
        by_cases hlt : i < its.length
        · have hown := HI7.out
          rcases hown.1.2 with ⟨e, hn⟩ | ⟨g, cap, cur, e, _⟩
          · omega
          cases e
          have hown8 := hown.upd hy.out.2 (fun k hk e => by have := (H.out.lt k (by right; right; right; right; exact hk)).2; omega)
          obtain ⟨d0, d1, d2, d3, d4⟩ := cells5 hown8.1 i hlt
          have n8 := nw_alloc wr (.cells #[.string ⟨its[i].nm.toArray⟩, .int .i64 its[i].a, .int .i64 its[i].b, .int .i64 its[i].c, .int .i64 its[i].pr] tPl)
          obtain ⟨hp1, hp2⟩ := HP.out its[i] (List.getElem_mem hlt)
          obtain ⟨w9, hrun, hu9, u9⟩ := (hy.out.1.upd n8 id).put hgb hp1 hp2
          have HF := Lib.hid (show ∃ j : Nat, j ≤ its.length ∧ ((i : Int) + 1 = (j : Int)) ∧ j = i + 1 ∧ Hid (UsP w9 z.heap.size S (fun m => (∃ q' ∈ C, done (bsV q'.1.nm) ∧ ∃ y ∈ q'.1.its, y.pr = m) ∨ ∃ k, ∃ h : k < its.length, k < j ∧ its[k].pr = m) ∧ Upd (fun k => k = z.heap.size) w7 w9) by
            refine ⟨i + 1, by omega, by omega, rfl, hu9.mono (fun m hm => ?_), (hy.out.2.nw n8).trans u9⟩
            rcases hm with h | ⟨k, hk, hki, e⟩
            · exact Or.inl (Or.inl h)
            · rcases Nat.lt_or_ge k i with h | h
              · exact Or.inl (Or.inr ⟨k, hk, h, e⟩)
              · obtain rfl : k = i := by omega
                exact Or.inr e.symm)
          have hb4 : ∀ o, (wr.alloc o).cell? ⟨z.heap.size + 1, 0, none⟩ = some (.map (some z.heap.size)) := fun o => by rw [cells_cell ((nw_alloc wr o).keep (hy.out.2.keep HB7.out (by omega)))]; rfl
          have hb3 : wr.cell? ⟨z.heap.size + 1, 0, none⟩ = some (.map (some z.heap.size)) := by rw [cells_cell (hy.out.2.keep HB7.out (by omega))]; rfl
          have hilt := Lib.hid hlt
          unfold bsV at d0
          have hi1 : (i : Int) < 1000 := by have := HLn.out; omega
          generalize its[i] = it at *
          obtain ⟨inm, ia, ib, ic, ipr⟩ := it
          dsimp only at *
          have HRun := Lib.hid hrun
          clear hy hown hown8 n8 hp1 hp2 hu9 u9 HJ hrun HI7
          go_wp2_with (at_mapUpdate; refine wpList_storeL rfl _ _ _ tMu rfl _ _ _ rfl rfl rfl HRun.out ?_)
          obtain ⟨j, hj1, hj2, hj3, hj4⟩ := HF.out
          go_roundw
          case rel => exact ⟨j, hj1, by rw [← hj2], hj4⟩
          case measure =>
            have := hilt.out
            simp only [intOf]
            omega
        · have hE := Lib.hid (HJ.out i _ hy.out.1 hy.out.2 (by omega))
          clear hi HJ
          go_wp2_with fail
          go_roundw
          case rel => exact hE.out.1
          case measure => exact hE.out.2
end Go.Proofs.YtiednpagknnfnaaGreatDoor
namespace Go.Proofs.YtiednpagknnfnaaGreatDoor
open Go.RowKit Go.MapKept
open Go.Maps (Keyed)
attribute [local irreducible] Calls
theorem step_appD {P : Program} {w : World} {ops : Array Oper} {o : Oper} {a : Act} {K : Act → World → Prop} {Q : Exit → Act → World → Prop} {E : Prop} (hgd : o.guard = none) (s x : Operand) (t : TypeId)
    (ho : o.op = .call { callee := .builtin .append, args := #[s, x], argTypes := #[t, t] })
    (base : Nat) (e : TypeId) (z : Value) (size bytes : Nat) (ht : P.underlying t = some (.slice e)) (hinfo : (P.info? e).map (fun i => (i.zero, i.size, i.bytes)) = some (some z, size, bytes)) (hzs : z.cells.size = size) (hsz : 0 < size)
    (v : Value) (n : Nat) (xs : List Value) (hs : a.eval s = v) (W0 : World) (T : Nat → Prop) (hown : W0.ownsRow base e size v n xs) (u : Upd T W0 w) (hT : ∀ k, v.ownBlock = some k → ¬ T k)
    (nb : Nat) (news : List Value) (hx : a.eval x = .slice (some ⟨nb, 0, none⟩) 1 1) (hb : w.heap[nb]? = some (.cells news.toArray e (0, 0))) (hl : news.length = size) (h1 : ∀ u ∈ news, u.oneCell' = true)
    (h63 : n + 1 ≤ maxLen) (hbytes : (n + 1) * bytes ≤ 140737488355328) (hbase : base ≤ W0.heap.size) (hnG : nG ≤ base)
    (h : ∀ g cap w', w'.ownsRow base e size (.slice (some ⟨g, 0, none⟩) (n + 1) cap) (n + 1) (xs ++ news) → Upd (fun k => v.ownBlock = some k) w w' → (v.ownBlock = some g ∨ W0.heap.size ≤ g) → K (a.put o.dst (.slice (some ⟨g, 0, none⟩) (n + 1) cap)) w') :
    if Region.wanted o (yielded ops a.tmps) = true then Oper.wp P o a w K Q else E := by
  obtain ⟨i0, hi, hz0, hz1, hz2⟩ := info_parts hinfo
  have hsz2 := u.size
  refine step_append_lies _ hgd s x t ho base e i0 z size bytes ht hi hz0 hz1 hz2 hzs hsz v n xs hs (owns_updD hown u hT) ⟨nb, 0, none⟩ 1 1 news hx (by omega) ?_ h1 (by omega) h63 hbytes (by omega) w.heap.size rfl fun g cap w' h2 h3 h4 h5 => ?_
  · intro j u hu
    rw [add_plain, cells_cell hb, Nat.zero_add]
    simpa using hu
  · refine h g cap w' h2 ((Upd.refl _ w).grown h3 fun k hk => ⟨Or.inl hk, ?_⟩) (h4.imp id (fun e => by omega))
    have := (hown.lt k hk).1
    omega
theorem SetL.entry {w : World} {b : Nat} {q : List (Int × Int)} (h : SetL w b q) (hg : nG ≤ b) {p : Int × Int} (h1 : I64 p.1) (h2 : I64 p.2) (hn : p ∉ q) :
    ∃ (st : Nat) (w1 w2 : World), (Instr.mapEntry tSet (.map (some b)) (secV p)).run Tryz.prog w = .ok (.tuple #[.bool false, .int .i64 st]) w1 ∧ (Instr.entryStore tSet (.map (some b)) (.int .i64 st) (.bool true)).run Tryz.prog w1 = .ok () w2 ∧ SetL w2 b (q ++ [p]) ∧ Upd (· = b) w w2 ∧ Upd (· = b) w w1 := by
  obtain ⟨es, clock, hb, hpm, hk, hs⟩ := h
  obtain ⟨kl, hkl⟩ := sec_key h1 h2
  have hz : ∀ w, (zeroValue 4).run Tryz.prog w = .ok (.bool false) w := fun w => by kernel_rfl
  have ht := Tryz.underlying72
  have hno : ∀ x ∈ es.toList, x.key ≠ secV p := fun x hx e => by
    obtain ⟨y, hy, e2⟩ := List.mem_map.1 (hpm.mem_iff.1 (List.mem_map.2 ⟨x, hx, rfl⟩))
    have := (Prod.mk.inj e2).1
    exact hn (secV_inj (this.trans e) ▸ hy)
  have hlt := lt_of_block hb
  rcases secKeyed.find w hkl es.toList (fun x hx => hk (x.key, x.val) (hpm.mem_iff.1 (List.mem_map.2 ⟨x, hx, rfl⟩))) with ⟨q1, q2⟩ | ⟨j, e0, q1, q2, q3⟩
  · have hst := (stamped_iff es clock).1 hs
    have hb1 : ({ w with heap := w.heap.setIfInBounds b (.map (es.push ⟨secV p, .bool false, clock⟩) (clock + 1)) } : World).heap[b]? = some (.map (es.push ⟨secV p, .bool false, clock⟩) (clock + 1)) := by simp [Array.getElem?_setIfInBounds, hlt]
    refine ⟨clock, { w with heap := w.heap.setIfInBounds b (.map (es.push ⟨secV p, .bool false, clock⟩) (clock + 1)) }, { w with heap := (w.heap.setIfInBounds b (.map (es.push ⟨secV p, .bool false, clock⟩) (clock + 1))).setIfInBounds b (.map (es.push ⟨secV p, .bool true, clock⟩) (clock + 1)) }, ?_, ?_, ?_, ?_, Upd.setBlock hg _⟩
    · simp [Instr.mapEntry, run_underlying ht, MapKept.run_getObj_map hb, secKeyed.check w false hkl, q1, hz, MapKept.run_setObj_map _ hb, Result.andThen, goInt]
    · have hidx : (es.push ⟨secV p, .bool false, clock⟩).findIdx? (fun e => ((e.born : Nat) : Int) == ((clock : Nat) : Int)) = some es.size := by
        rw [Go.WideElems.findIdx_arr]
        exact Go.WideElems.findIdx_born (l := (es.push ⟨secV p, .bool false, clock⟩).toList) (j := es.size) (e0 := ⟨secV p, .bool false, clock⟩) (by
          simp only [Array.toList_push, List.map_append, List.map_cons, List.map_nil]
          refine List.nodup_append.2 ⟨hst.2.1, by simp, fun a ha c hc e1 => ?_⟩
          simp only [List.mem_singleton] at hc
          obtain ⟨x, hx, rfl⟩ := List.mem_map.1 ha
          have := hst.1 x hx
          omega) (by simp)
      have hmod : (es.push ⟨secV p, .bool false, clock⟩).modify es.size (fun e => { e with val := .bool true }) = es.push ⟨secV p, .bool true, clock⟩ := by
        apply Array.ext'
        rw [Array.toList_modify, Array.toList_push, Array.toList_push, ← Array.length_toList, Go.WideElems.modify_last]
      simp [Instr.entryStore, MapKept.run_getObj_map hb1, asInt, asIntOf, hidx, hmod, MapKept.run_setObj_map _ hb1, Result.andThen]
    · refine ⟨es.push ⟨secV p, .bool true, clock⟩, clock + 1, by simp [Array.getElem?_setIfInBounds, hlt], ?_, ?_, stamped_push hs q2⟩
      · rw [List.map_append]
        have := hpm.append_right [(secV p, Value.bool true)]
        simpa [secE] using this
      · intro x hx
        rw [List.map_append] at hx
        rcases List.mem_append.1 hx with hx | hx
        · exact hk x hx
        · rw [List.mem_singleton.1 hx]; exact ⟨kl, hkl⟩
    · exact (Upd.setBlock hg _).trans (Upd.setBlock (w := { w with heap := w.heap.setIfInBounds b (.map (es.push ⟨secV p, .bool false, clock⟩) (clock + 1)) }) hg _)
  · exact absurd q3 (hno e0 (List.mem_of_getElem? q2))
theorem step_mapEntry {P : Program} {w w' : World} {ops : Array Oper} {o : Oper} {a : Act} {K : Act → World → Prop} {Q : Exit → Act → World → Prop} {E : Prop} (hgd : o.guard = none) (t : TypeId) (m x : Operand) (hop : o.op = Op.mapEntry t m x)
    (vm key v : Value) (hm : a.eval m = vm) (hx : a.eval x = key) (hrun : (Instr.mapEntry t vm key).run P w = .ok v w') (h : K (a.put o.dst v) w') : if Region.wanted o (yielded ops a.tmps) = true then Oper.wp P o a w K Q else E := by
  rw [if_pos (by simp [Region.wanted, hgd])]
  unfold Oper.wp
  simp [execOp, hop, hm, hx, hrun, Result.andThen]
  exact h
theorem step_entryStore {P : Program} {w w' : World} {ops : Array Oper} {o : Oper} {a : Act} {K : Act → World → Prop} {Q : Exit → Act → World → Prop} {E : Prop} (hgd : o.guard = none) (t : TypeId) (m x y : Operand) (hop : o.op = Op.entryStore t m x y)
    (vm st v : Value) (hm : a.eval m = vm) (hx : a.eval x = st) (hy : a.eval y = v) (hrun : (Instr.entryStore t vm st v).run P w = .ok () w') (h : K (a.put o.dst undef) w') : if Region.wanted o (yielded ops a.tmps) = true then Oper.wp P o a w K Q else E := by
  rw [if_pos (by simp [Region.wanted, hgd])]
  unfold Oper.wp
  simp [execOp, hop, hm, hx, hy, hrun, Result.andThen]
  exact h
theorem infoSec : (Tryz.prog.info? tSec).map (fun i => (i.zero, i.size, i.bytes)) = some (some (.agg #[.int .i64 0, .int .i64 0]), 2, 16) := by kernel_rfl
theorem note_done {B db fm sm : Nat} {qv kv v' : Value} {W ws w7 : World} {E : Dk.Disk} {p : Int × Int} (h : DiskAt B W ⟨db, fm, sm, qv, kv⟩ E) (hown : ws.ownsRow B tSec 2 v' (E.q.length + 1) (flatQ E.q ++ secL p)) (uS : Upd (fun k => qv.ownBlock = some k) W ws) (oS : ∀ k, v'.ownBlock = some k → qv.ownBlock = some k ∨ W.heap.size ≤ k)
    (u7 : Upd (fun k => k = sm) (ws.setCell ⟨db, 1, none⟩ v') w7) (s7 : SetL w7 sm (E.q ++ [p])) (hk : Dk.Ok { E with q := E.q ++ [p] }) : DiskTo B ⟨db, fm, sm, qv, kv⟩ { E with q := E.q ++ [p] } W w7 := by
  obtain ⟨a1, a2, a3, a4, a5, a6, a7, a8, a9⟩ := h.apart
  dsimp only at a1 a2 a3 a4 a5 a6 a7 a8 a9
  have hne := h.ne
  have hdb := h.db
  have hhb := h.hb
  have hlt : ∀ j, DiskR.foot ⟨db, fm, sm, qv, kv⟩ j → j < W.heap.size := fun j hj => (h.foot_lt hj).2
  dsimp only at hne hdb
  have u6 : Upd (fun k => k = db) ws (ws.setCell ⟨db, 1, none⟩ v') := Upd.set1 (Upd.refl _ _) (by omega) 1 v'
  have b5 := uS.keep h.blk a3
  have hno : ∀ k, v'.ownBlock = some k → k ≠ db ∧ k ≠ sm := fun k hk2 => by
    rcases oS k hk2 with e | e
    · exact ⟨fun e2 => a3 (e2 ▸ e), fun e2 => a5 (e2 ▸ e)⟩
    · have h1 := hlt db (Or.inl rfl)
      have h2 := hlt sm (Or.inr (Or.inr (Or.inl rfl)))
      exact ⟨by omega, by omega⟩
  refine ⟨⟨db, fm, sm, v', kv⟩, ⟨h.hb, h.db, h.fm, h.sm, h.ne, ?_, ?_, s7, ?_, ?_, hk, h.kI⟩, rfl, ?_, ?_⟩
  · have := setCell_block b5 1 v'
    exact u7.keep this a2
  · exact ((h.files.upd uS a4).upd u6 (fun e => a1 e.symm)).upd u7 hne
  · dsimp only
    rw [List.length_append, List.length_singleton, flatQ_snoc]
    exact owns_updD (owns_updD hown u6 (fun k hk2 e => (hno k hk2).1 e)) u7 (fun k hk2 e => (hno k hk2).2 e)
  · refine owns_updD (owns_updD (owns_updD h.keep uS (fun k hk2 e => ?_)) u6 (fun k hk2 e => ?_)) u7 (fun k hk2 e => ?_)
    · exact a9 k e hk2
    · subst e; exact a6 hk2
    · subst e; exact a8 hk2
  · exact ((uS.mono (fun k _ e => Or.inr (Or.inr (Or.inr (Or.inl e))))).trans' u6 (fun k _ e => Or.inl e)).trans' u7 (fun k _ e => Or.inr (Or.inr (Or.inl e)))
  · rintro j (e | e | e | e | e)
    · exact Or.inl (Or.inl e)
    · exact Or.inl (Or.inr (Or.inl e))
    · exact Or.inl (Or.inr (Or.inr (Or.inl e)))
    · exact (oS _ e).imp (fun e => Or.inr (Or.inr (Or.inr (Or.inl e)))) id
    · exact Or.inl (Or.inr (Or.inr (Or.inr (Or.inr e))))
theorem DiskTo.then_ {B : Nat} {w w1 w2 : World} {r r' : DiskR} {D D1 D2 : Dk.Disk} (h0 : DiskAt B w r D) (h1 : DiskAt B w1 r' D1) (hdb : r'.db = r.db) (u1 : Upd r.foot w w1) (f1 : ∀ j, r'.foot j → r.foot j ∨ w.heap.size ≤ j) (h2 : DiskTo B r' D2 w1 w2) : DiskTo B r D2 w w2 := by
  obtain ⟨r2, k1, k2, k3, k4⟩ := h2
  have hlt := u1.size
  refine ⟨r2, k1, k2.trans hdb, u1.trans' k3 (fun k hk e => (f1 k e).elim id (fun e2 => by omega)), fun j hj => ?_⟩
  rcases k4 j hj with e | e
  · exact f1 j e
  · exact Or.inr (by omega)
theorem DiskAt.putF {B : Nat} {w w' : World} {r : DiskR} {D D' : Dk.Disk} (h : DiskAt B w r D) (u : Upd (fun k => k = r.fm) w w') (hf : FilesL w' r.fm D'.fs) (e2 : D'.q = D.q) (e3 : D'.keep = D.keep) (e4 : D'.lost = D.lost) (e5 : D'.down = D.down) (e6 : D'.armed = D.armed) (hk : Dk.Ok D') : DiskAt B w' r D' := by
  obtain ⟨a1, a2, a3, a4, a5, a6, a7, a8, a9⟩ := h.apart
  refine ⟨h.hb, h.db, h.fm, h.sm, h.ne, ?_, hf, ?_, ?_, ?_, hk, by rw [e3]; exact h.kI⟩
  · have := u.keep h.blk a1
    unfold diskC at this ⊢
    rw [e4, e5, e6]; exact this
  · rw [e2]; exact h.set.upd u (fun e => h.ne e.symm)
  · rw [e2]; exact owns_updD h.queue u (fun k hk2 e => by subst e; exact a4 hk2)
  · rw [e3]; exact owns_updD h.keep u (fun k hk2 e => by subst e; exact a7 hk2)
set_option maxHeartbeats 4000000 in
set_option maxRecDepth 100000 in
theorem write0_c {B : Nat} {w : World} {r : DiskR} {D : Dk.Disk} (h : DiskAt B w r D) (g : Gl w) (hB : B ≤ w.heap.size) {f i : Int} (hf : I64 f) (hi : I64 i) (s : List UInt8) (hs : s.length ≤ 1000000000) :
    Calls Tryz.prog 146 #[.pointer (some ⟨r.db, 0, none⟩), .int .i64 f, .int .i64 i, .string ⟨s.toArray⟩] w fun e w' => e = .returned (.int .i64 (Dk.write0 D f i s).2) ∧ DiskTo B r (Dk.write0 D f i s).1 w w' := by
  have hgb := g.big
  have hm := Lib.hid (may_c h f)
  have hsz : (s.length : Int) ≤ 1000000000 := by omega
  have hs0 : (0 : Int) ≤ s.length := by omega
  have H := Lib.hid h
  by_cases hm0 : Dk.may D f = 0
  rotate_left
  · have hr : Hid (Dk.write0 D f i s = (D, Dk.may D f)) := by show _ = _; unfold Dk.write0; rw [if_pos hm0]
    have d0 : (Dk.may D f == 0) = false := beq_eq_false_iff_ne.2 hm0
    have d1 : (Dk.may D f != 0) = true := by simp [hm0]
    clear hm0 h hs hi hf
    go_enter Tryz.func146, Tryz.ntmps146
    go_wp2_with fail
    (with_reducible refine (hm.out).mono ?_)
    rintro _ _ ⟨rfl, rfl⟩
    go_wp2_with fail
    go_ret
    exact ⟨by rw [hr.out]; rfl, by rw [hr.out]; exact DiskTo.refl H.out⟩
  have hfile := (Dk.may_file hm0).2
  have hr0 : Dk.write0 D f i s = if Dk.wErr i s.length ≠ 0 then (D, Dk.wErr i s.length) else (Dk.add D f i.toNat s, 0) := by unfold Dk.write0; rw [if_neg (by omega)]
  rw [hm0] at hm
  clear hm0
  by_cases h1 : i < 0
  · have hr : Hid (Dk.write0 D f i s = (D, 1)) := by
      have : Dk.wErr i s.length = 1 := by unfold Dk.wErr; rw [if_pos h1]
      show _ = _; rw [hr0, this, if_pos (by decide)]
    clear h hs hi hf hr0 hfile
    go_enter Tryz.func146, Tryz.ntmps146
    go_wp2_with fail
    (with_reducible refine (hm.out).mono ?_)
    rintro _ _ ⟨rfl, rfl⟩
    go_wp2_with fail
    go_ret
    exact ⟨by rw [hr.out]; rfl, by rw [hr.out]; exact DiskTo.refl H.out⟩
  by_cases h2 : 16777216 < i
  · have hr : Hid (Dk.write0 D f i s = (D, 6)) := by
      have : Dk.wErr i s.length = 6 := by unfold Dk.wErr; rw [if_neg h1, if_pos (Or.inl h2)]
      show _ = _; rw [hr0, this, if_pos (by decide)]
    clear h hs hi hf hr0 hfile
    go_enter Tryz.func146, Tryz.ntmps146
    go_wp2_with fail
    (with_reducible refine (hm.out).mono ?_)
    rintro _ _ ⟨rfl, rfl⟩
    go_wp2_with fail
    go_ret
    exact ⟨by rw [hr.out]; rfl, by rw [hr.out]; exact DiskTo.refl H.out⟩
  have hi2 : i ≤ 16777216 := by omega
  have hi0 : 0 ≤ i := by omega
  by_cases h3 : 16777216 - i < s.length
  · have hr : Hid (Dk.write0 D f i s = (D, 6)) := by
      have : Dk.wErr i s.length = 6 := by unfold Dk.wErr; rw [if_neg h1, if_pos (Or.inr h3)]
      show _ = _; rw [hr0, this, if_pos (by decide)]
    clear h hs hi hf hr0 h1 h2 hfile
    go_enter Tryz.func146, Tryz.ntmps146
    go_wp2_with fail
    (with_reducible refine (hm.out).mono ?_)
    rintro _ _ ⟨rfl, rfl⟩
    go_wp2_with fail
    go_ret
    exact ⟨by rw [hr.out]; rfl, by rw [hr.out]; exact DiskTo.refl H.out⟩
  have hr1 : Dk.write0 D f i s = (Dk.add D f i.toNat s, 0) := by
    have : Dk.wErr i s.length = 0 := by unfold Dk.wErr; rw [if_neg h1, if_neg (by omega)]
    rw [hr0, this, if_neg (by decide)]
  by_cases h4 : s = []
  · have hr : Hid (Dk.write0 D f i s = (D, 0)) := by show _ = _; rw [hr1]; unfold Dk.add; rw [if_pos h4]
    subst h4
    clear h hs hi hf hr0 hr1 h1 h2 hfile
    go_enter Tryz.func146, Tryz.ntmps146
    go_wp2_with fail
    (with_reducible refine (hm.out).mono ?_)
    rintro _ _ ⟨rfl, rfl⟩
    go_wp2_with fail
    go_ret
    exact ⟨by rw [hr.out]; rfl, by rw [hr.out]; exact DiskTo.refl H.out⟩
  obtain ⟨i, rfl⟩ : ∃ m : Nat, i = m := ⟨i.toNat, by omega⟩
  have hin : i + s.length ≤ 16777216 := by omega
  have hpos : 0 < s.length := List.length_pos_iff.2 h4
  have hr : Hid (Dk.write0 D f i s = (Dk.add D f i s, 0)) := by show _ = _; rw [hr1]; rfl
  have hall : Hid (Dk.addK D f i s (Dk.secs i s.length).length = Dk.add D f i s) := Dk.addK_all h4
  have hOk : Hid (∀ k, Dk.Ok (Dk.addK D f i s k)) := fun k => Dk.addK_ok h.ok h4 hfile hin k
  have hsucc : Hid (∀ k, k < (Dk.secs i s.length).length → Dk.addK D f i s (k + 1) = _) := fun k hk => Dk.addK_succ hk
  have hK : Hid ((Dk.secs i s.length).length = (i + s.length - 1) / 64 + 1 - i / 64) := Dk.secs_len i s.length
  have hte : s.isEmpty = false := by cases s with | nil => exact absurd rfl h4 | cons _ _ => rfl
  have hte2 : (s == ([] : List UInt8)) = false := by cases s with | nil => exact absurd rfl h4 | cons _ _ => rfl
  obtain ⟨c0, _, _, _, _, _, _⟩ := h.cells
  have hl := h.files.look hf
  have hnow := h.ok.now f
  unfold filV at hl
  have hfs : Hid (∀ k, (Dk.addK D f i s k).fs = Dk.setF D.fs f ⟨Dk.put (D.fs f).now i s, (D.fs f).last⟩) := fun k => rfl
  generalize (D.fs f).now = N at *
  generalize (D.fs f).last = L at *
  have Hl := Lib.hid hl
  have n1 := nw_alloc w (.cells #[.string ⟨N.toArray⟩, .string ⟨L.toArray⟩] tFile)
  have k1 := heap_new w (.cells #[.string ⟨N.toArray⟩, .string ⟨L.toArray⟩] tFile)
  have hp := put_c N s i (w.alloc (.cells #[.string ⟨N.toArray⟩, .string ⟨L.toArray⟩] tFile)) (g.upd n1) hnow hin
  have Hp := Lib.hid hp
  have K1 := Lib.hid k1
  obtain ⟨_, _⟩ := cell2D k1
  have Hin := Lib.hid hin
  have b1 : (i : Int) + s.length ≤ 16777216 := by omega
  have b2 : (1 : Int) ≤ s.length := by omega
  have Hpos := Lib.hid hpos
  have Hfile := Lib.hid hfile
  have Hs := Lib.hid hs
  clear hl hnow hp k1 hin hpos hfile hs h4 hr0 hr1 h1 h2 h3 hs0 h
  go_enter Tryz.func146, Tryz.ntmps146
  go_wp2_with fail
  (with_reducible refine (hm.out).mono ?_)
  rintro _ _ ⟨rfl, rfl⟩
  go_wp2_with (at_lookup; refine wpList_lookL rfl _ _ tFiles false rfl _ _ _ rfl rfl Hl.out ?_)
  (with_reducible refine (Hp.out).mono ?_)
  rintro _ w2 ⟨rfl, u2⟩
  generalize Dk.put N i s = P at *
  have k2 := Nw.keep u2 K1.out
  obtain ⟨_, _⟩ := cell2D k2
  have f0 := cells_frozen k2 0
  have h2 := (H.out.nw n1).nw u2
  have hxb : ¬ r.foot w.heap.size := fun e => by have := (H.out.foot_lt e).2; omega
  have x3 : Upd (fun k => k = w.heap.size) w2 (w2.setCell ⟨w.heap.size, 0, none⟩ (.string ⟨P.toArray⟩)) := Upd.set1 (Upd.refl _ _) hgb 0 _
  have h3 := h2.upd x3 (fun k hk e => by subst e; exact hxb hk)
  have k3 : (w2.setCell ⟨w.heap.size, 0, none⟩ (.string ⟨P.toArray⟩)).heap[w.heap.size]? = some (.cells #[.string ⟨P.toArray⟩, .string ⟨L.toArray⟩] tFile (0, 0)) := setCell_block k2 0 _
  have l0 := h3.laterD.1
  have lb : ∀ j : Later (w2.setCell ⟨w.heap.size, 0, none⟩ (.string ⟨P.toArray⟩)), j.1.cell? ⟨w.heap.size, 0, none⟩ = some (.string ⟨P.toArray⟩) ∧ j.1.cell? ⟨w.heap.size, 1, none⟩ = some (.string ⟨L.toArray⟩) := fun j => cell2D (j.nw.keep k3)
  have lb0 := fun j => (lb j).1
  have lb1 := fun j => (lb j).2
  have U3 : Hid (Nw w (w2.setCell ⟨w.heap.size, 0, none⟩ (.string ⟨P.toArray⟩))) := (n1.trans u2).trans' x3 (fun k hk e => by omega)
  have H3 := Lib.hid h3
  clear h2 h3 k3 lb x3 Hp
  go_wp2_with fail
  refine wp_region_nw_tail 6 (by kernel_rfl) (by kernel_rfl) ?_
  simp only [List.take_succ_cons, List.take_zero, List.drop_succ_cons, List.drop_zero]
  repeat (go_big_quiet_step ((fail)))
  refine wpQuiet_nil ?_
  intro w4 u4
  replace u4 := later_out u4
  have h4 := H3.out.nw u4
  obtain ⟨w5, hst, hf5, u5⟩ := h4.files.put (Nat.le_trans h4.hb h4.fm) hf ⟨P, L⟩
  rw [← hfs.out 0] at hf5
  have U5 : Hid (Upd (fun k => k = r.fm) w w5) := (Nw.trans (U3.out.trans u4) u5)
  have h5 : DiskAt B w5 r (Dk.addK D f i s 0) := h4.putF u5 hf5 rfl rfl rfl rfl rfl (hOk.out 0)
  have HT : Hid (DiskTo B r (Dk.addK D f i s 0) w w5) := ⟨r, h5, rfl, U5.out.mono (fun k _ e => Or.inr (Or.inl e)), fun j hj => Or.inl hj⟩
  dsimp only [filV] at hst
  have Hst := Lib.hid hst
  clear hst hf5 h4 h5 l0 lb0 lb1 U3 H3 Hl c0 f0 k2
  go_wp2_with (at_mapUpdate; refine wpList_storeL rfl _ _ _ tFiles rfl _ _ _ rfl rfl rfl Hst.out ?_)
  go_wp2_with fail
  go_loopw [11] (fun iv wr => ∃ k : Nat, k ≤ (Dk.secs i s.length).length ∧ iv = .int .i64 ((i / 64 + k : Nat) : Int) ∧ Hid (DiskTo B r (Dk.addK D f i s k) w wr)) (fun iv _ => i / 64 + (Dk.secs i s.length).length - (intOf iv).toNat)
  case atStart => exact ⟨0, Nat.zero_le _, by show Value.int _ _ = Value.int _ _; congr 1, HT.out⟩
  case round =>
    obtain ⟨k, hk, rfl, HD⟩ := hrel
    by_cases hlt : k < (Dk.secs i s.length).length
    · have hle : ((i / 64 + k : Nat) : Int) ≤ ((i : Int) + s.length - 1) / 64 := by
        have := hK.out; have := Hpos.out; omega
      have hn18 : i / 64 + k < 262144 := by have := hK.out; have := Hin.out; have := Hpos.out; omega
      have hsc := hsucc.out k hlt
      have hOk1 := hOk.out (k + 1)
      obtain ⟨r', h', hrb, u', hft⟩ := HD.out
      have hI1 : I64 f := hf
      have hI2 : I64 ((i / 64 + k : Nat) : Int) := by unfold I64; omega
      have hqle := h'.ok.q_len
      have hnxt : Dk.Ok { Dk.addK D f i s k with q := Dk.addS (Dk.addK D f i s k).q (f, ((i / 64 + k : Nat) : Int)) } := by rw [← hsc]; exact hOk1
      have hfin : ∀ z, DiskTo B r' { Dk.addK D f i s k with q := Dk.addS (Dk.addK D f i s k).q (f, ((i / 64 + k : Nat) : Int)) } wr z → Hid (DiskTo B r (Dk.addK D f i s (k + 1)) w z) := fun z hz => by
        show DiskTo _ _ _ _ _
        rw [hsc]
        exact DiskTo.then_ H.out h' hrb u' hft hz
      have Hfin := Lib.hid hfin
      have hN : Hid (((i / 64 + k : Nat) : Int) + 1 = ((i / 64 + (k + 1) : Nat) : Int)) := by show _ = _; omega
      generalize hE : Dk.addK D f i s k = E at *
      have hn0 : ((i / 64 + k : Nat) : Int) < 262144 := by omega
      generalize hnn : i / 64 + k = n at *
      have n1 := nw_alloc wr (.cells #[.int .i64 f, .int .i64 n] tSec)
      have k1 := heap_new wr (.cells #[.int .i64 f, .int .i64 n] tSec)
      have h1 := h'.nw n1
      obtain ⟨db, fm, sm, qv, kv⟩ := r'
      obtain ⟨aq, cq, hqv⟩ := own_slD h'.queue
      dsimp only at hqv hrb
      subst hqv hrb
      have l2 := h1.laterD.2.2
      have l1 := h1.laterD.2.1
      have lb : ∀ j : Later (wr.alloc (.cells #[.int .i64 f, .int .i64 n] tSec)), j.1.cell? ⟨wr.heap.size, 0, none⟩ = some (.int .i64 f) ∧ j.1.cell? ⟨wr.heap.size, 1, none⟩ = some (.int .i64 n) := fun j => cell2D (j.nw.keep k1)
      have lb0 := fun j => (lb j).1
      have lb1 := fun j => (lb j).2
      have hlk := fun j : Later (wr.alloc (.cells #[.int .i64 f, .int .i64 n] tSec)) => ((h1.nw j.nw).set).look (p := (f, (n : Int))) hI1 hI2
      dsimp only [secV] at hlk l2 l1
      have H1 := Lib.hid h1
      have hH' := Lib.hid h'
      have K1 := Lib.hid k1
      have Hqle := Lib.hid hqle
      have Hnn := Lib.hid hnn
      cases hin2 : decide ((f, (n : Int)) ∈ E.q) with
      | true =>
        rw [hin2] at hlk
        have hin3 := of_decide_eq_true hin2
        have hz2 : Hid (∀ z, Nw (wr.alloc (.cells #[.int .i64 f, .int .i64 n] tSec)) z → Hid (DiskTo B r (Dk.addK D f i s (k + 1)) w z)) := fun z uz => Hfin.out z (by
          rw [Dk.addS_in hin3]
          exact DiskTo.of_nw hH'.out (n1.trans uz))
        clear hin2 hin3 h1 h' k1 hqle lb hnxt hfin hE hnn hsc hOk1 u' hft HD l1 Hfin
        go_wp2_with fail
        refine wp_region_nw (by kernel_rfl) (by kernel_rfl) ?_
        repeat (go_big_quiet_step ((fail)))
        refine wpQuiet_nil ?_
        intro w6 u6
        replace u6 := later_out u6
        have hz3 := hz2.out _ u6
        go_wp2_with fail
        go_roundw
        case rel => exact ⟨k + 1, by omega, by rw [← hN.out], hz3⟩
        case measure => have := Hnn.out; simp [intOf]; omega
      | false =>
        rw [hin2] at hlk
        have hin3 := of_decide_eq_false hin2
        rw [Dk.addS_out hin3] at Hfin hnxt
        have Hnxt := Lib.hid hnxt
        have Hin3 := Lib.hid hin3
        have hI := Lib.hid (And.intro hI1 hI2)
        clear hin2 hin3 h1 h' k1 hqle lb hnxt hfin hE hnn hsc hOk1 u' hft HD hI1 hI2
        go_wp2_with fail
        refine wp_region_nw (by kernel_rfl) (by kernel_rfl) ?_
        repeat (go_big_quiet_step ((fail)))
        refine wpQuiet_nil ?_
        intro w6 u6
        replace u6 := later_out u6
        have h6 := H1.out.nw u6
        obtain ⟨_, x1, x2, _, _, _, _⟩ := h6.cells
        obtain ⟨y0, y1⟩ := cell2D (Nw.keep u6 K1.out)
        have k6 := Nw.keep u6 K1.out
        dsimp only at x1 x2
        have H6 := Lib.hid h6
        have hgb6 : nG ≤ B := h6.hb
        have hB6 : B ≤ w6.heap.size := by have := h6.db; have := lt_of_block h6.blk; dsimp only at *; omega
        have q6 := Lib.hid h6.queue
        have K6 := Lib.hid k6
        have hpb : (Value.slice aq E.q.length cq).ownBlock ≠ some wr.heap.size := fun e => by
          have := (hH'.out.foot_lt (Or.inr (Or.inr (Or.inr (Or.inl e))))).2; omega
        have HSall : Hid (∀ z, Upd (fun j => (Value.slice aq E.q.length cq).ownBlock = some j) w6 z → (z.cell? ⟨r.db, 1, none⟩ = some (.slice aq E.q.length cq) ∧ True) ∧ (z.cell? ⟨r.db, 2, none⟩ = some (.map (some sm)) ∧ z.cell? ⟨wr.heap.size, 0, none⟩ = some (.int .i64 f) ∧ z.cell? ⟨wr.heap.size, 1, none⟩ = some (.int .i64 n)) ∧ z.frozen? ⟨r.db, 1, none⟩ = false) := fun z uz => by
          have hbz := uz.keep H6.out.blk (DiskAt.apart H6.out).2.2.1
          have hkz := uz.keep K6.out hpb
          obtain ⟨z0, z1⟩ := cell2D hkz
          refine ⟨⟨?_, trivial⟩, ⟨?_, z0, z1⟩, cells_frozen hbz 1⟩
          · rw [cells_cell hbz]; rfl
          · rw [cells_cell hbz]; rfl
        have HSd := HSall.out w6.drew (Upd.refl _ _).drew
        have HSa := fun o => HSall.out (w6.drew.alloc o) ((Upd.refl _ _).drew.alloc o)
        have hs0 : SH 15 (fun z => z.cell? ⟨r.db, 1, none⟩ = some (.slice aq E.q.length cq) ∧ True) (fun z => z.cell? ⟨r.db, 2, none⟩ = some (.map (some sm)) ∧ z.cell? ⟨wr.heap.size, 0, none⟩ = some (.int .i64 f) ∧ z.cell? ⟨wr.heap.size, 1, none⟩ = some (.int .i64 n)) (Array.replicate 19 false) w6.drew := ⟨fun _ => HSd.1, HSd.2.1⟩
        clear h6 k6 l1 l2 lb0 lb1 hlk K1 H1
        go_wp2_with fail
        refine wp_region_H 15 (fun z => z.cell? ⟨r.db, 1, none⟩ = some (.slice aq E.q.length cq) ∧ True) (fun z => z.cell? ⟨r.db, 2, none⟩ = some (.map (some sm)) ∧ z.cell? ⟨wr.heap.size, 0, none⟩ = some (.int .i64 f) ∧ z.cell? ⟨wr.heap.size, 1, none⟩ = some (.int .i64 n)) (by kernel_rfl) ?_
        refine wpAnyH_pure (i := 0) (v := ?_) rfl (by kernel_rfl) (by kernel_rfl) (by kernel_rfl) (by kernel_rfl) (by kernel_rfl) (fun _ _ _ h => h) (by rfl) ?_ (⟨fun _ => HSd.1, HSd.2.1⟩) ?_
        rotate_left 1
        · (intro zz; go_simp; first | done | with_reducible rfl)
        (try simp only [Act.put, List.setIfInBounds_toArray, List.set_cons_zero, List.set_cons_succ])
        refine wpAnyH_pure (i := 1) (v := ?_) rfl (by kernel_rfl) (by kernel_rfl) (by kernel_rfl) (by kernel_rfl) (by kernel_rfl) (fun _ _ _ h => h) (by rfl) ?_ (⟨fun _ => HSd.1, HSd.2.1⟩) ?_
        rotate_left 1
        · (intro zz; go_simp; first | done | with_reducible rfl)
        (try simp only [Act.put, List.setIfInBounds_toArray, List.set_cons_zero, List.set_cons_succ])
        refine wpAnyH_pure (i := 2) (v := ?_) rfl (by kernel_rfl) (by kernel_rfl) (by kernel_rfl) (by kernel_rfl) (by kernel_rfl) (fun _ _ _ h => h) (by rfl) ?_ (⟨fun _ => HSd.1, HSd.2.1⟩) ?_
        rotate_left 1
        · (intro zz; go_simp; first | done | with_reducible rfl)
        (try simp only [Act.put, List.setIfInBounds_toArray, List.set_cons_zero, List.set_cons_succ])
        refine wpAnyH_pure (i := 3) (v := ?_) rfl (by kernel_rfl) (by kernel_rfl) (by kernel_rfl) (by kernel_rfl) (by kernel_rfl) (fun _ _ _ h => h) (by rfl) ?_ (⟨fun _ => HSd.1, HSd.2.1⟩) ?_
        rotate_left 1
        · (intro zz; go_simp; first | done | with_reducible rfl)
        (try simp only [Act.put, List.setIfInBounds_toArray, List.set_cons_zero, List.set_cons_succ])
        refine wpAnyH_load2 (i := 4) (v := ?_) rfl (by kernel_rfl) (by kernel_rfl) (by kernel_rfl) (by kernel_rfl) (by kernel_rfl) (fun _ _ _ h => h) (by rfl) ?_ (⟨fun _ => HSd.1, HSd.2.1⟩) ?_
        rotate_left 1
        · (intro zz hS2; obtain ⟨_, _, _⟩ := hS2; go_simp; first | done | with_reducible rfl)
        (try simp only [Act.put, List.setIfInBounds_toArray, List.set_cons_zero, List.set_cons_succ])
        refine wpAnyH_load2 (i := 5) (v := ?_) rfl (by kernel_rfl) (by kernel_rfl) (by kernel_rfl) (by kernel_rfl) (by kernel_rfl) (fun _ _ _ h => h) (by rfl) ?_ (⟨fun _ => HSd.1, HSd.2.1⟩) ?_
        rotate_left 1
        · (intro zz hS2; obtain ⟨_, _, _⟩ := hS2; go_simp; first | done | with_reducible rfl)
        (try simp only [Act.put, List.setIfInBounds_toArray, List.set_cons_zero, List.set_cons_succ])
        refine wpAnyH_pure (i := 6) (v := ?_) rfl (by kernel_rfl) (by kernel_rfl) (by kernel_rfl) (by kernel_rfl) (by kernel_rfl) (fun _ _ _ h => h) (by rfl) ?_ (⟨fun _ => HSd.1, HSd.2.1⟩) ?_
        rotate_left 1
        · (intro zz; go_simp; first | done | with_reducible rfl)
        (try simp only [Act.put, List.setIfInBounds_toArray, List.set_cons_zero, List.set_cons_succ])
        refine wpAnyH_pure (i := 7) (v := ?_) rfl (by kernel_rfl) (by kernel_rfl) (by kernel_rfl) (by kernel_rfl) (by kernel_rfl) (fun _ _ _ h => h) (by rfl) ?_ (⟨fun _ => HSd.1, HSd.2.1⟩) ?_
        rotate_left 1
        · (intro zz; go_simp; first | done | with_reducible rfl)
        (try simp only [Act.put, List.setIfInBounds_toArray, List.set_cons_zero, List.set_cons_succ])
        refine wpAnyH_pure (i := 8) (v := ?_) rfl (by kernel_rfl) (by kernel_rfl) (by kernel_rfl) (by kernel_rfl) (by kernel_rfl) (fun _ _ _ h => h) (by rfl) ?_ (⟨fun _ => HSd.1, HSd.2.1⟩) ?_
        rotate_left 1
        · (intro zz; go_simp; first | done | with_reducible rfl)
        (try simp only [Act.put, List.setIfInBounds_toArray, List.set_cons_zero, List.set_cons_succ])
        refine wpAnyH_load1 (i := 9) (v := ?_) [] rfl (by kernel_rfl) (by kernel_rfl) (by kernel_rfl) (by kernel_rfl) (by kernel_rfl) (by kernel_rfl) (fun _ _ _ h => h) (by rfl) ?_ (⟨fun _ => HSd.1, HSd.2.1⟩) ?_
        rotate_left 1
        · (intro zz hS1 hS2; obtain ⟨_, _⟩ := hS1; obtain ⟨_, _, _⟩ := hS2; go_simp; first | done | with_reducible rfl)
        (try simp only [Act.put, List.setIfInBounds_toArray, List.set_cons_zero, List.set_cons_succ])
        refine wpAnyH_load2 (i := 10) (v := ?_) rfl (by kernel_rfl) (by kernel_rfl) (by kernel_rfl) (by kernel_rfl) (by kernel_rfl) (fun _ _ _ h => h) (by rfl) ?_ (⟨fun _ => HSd.1, HSd.2.1⟩) ?_
        rotate_left 1
        · (intro zz hS2; obtain ⟨_, _, _⟩ := hS2; go_simp; first | done | with_reducible rfl)
        (try simp only [Act.put, List.setIfInBounds_toArray, List.set_cons_zero, List.set_cons_succ])
        refine wpAnyH_one (i := 11) (by kernel_rfl) rfl (fun K hK => ?_)
        go_simp
        refine hK.out _ _ ⟨fun _ => (HSa _).1, (HSa _).2.1⟩ ?_
        clear hK K
        (try simp only [Act.put, List.setIfInBounds_toArray, List.set_cons_zero, List.set_cons_succ])
        refine wpAnyH_one (i := 12) (by kernel_rfl) rfl (fun K hK => ?_)
        have hq4 : E.q.length + 1 ≤ maxLen := by have := Hqle.out; unfold maxLen; omega
        have hq5 : (E.q.length + 1) * 16 ≤ 140737488355328 := by have := Hqle.out; omega
        refine step_appD rfl _ _ 73 rfl B tSec _ 2 16 Tryz.underlying73 infoSec rfl (by decide) (.slice aq E.q.length cq) E.q.length (flatQ E.q) rfl w6 (fun _ => False) q6.out ((Upd.refl _ _).drew.alloc _) (fun _ _ e => e) _ (secL (f, (n : Int))) rfl (by first | exact heap_new _ _ | exact heap_at (by simp)) rfl (by intro u hu; simp only [secL, List.mem_cons, List.not_mem_nil, or_false] at hu; rcases hu with rfl | rfl <;> rfl) hq4 hq5 hB6 hgb6 ?_
        intro gs cs ws hownS uS oS
        have uW : Upd (fun j => (Value.slice aq E.q.length cq).ownBlock = some j) w6 ws := Upd.trans (((Upd.refl _ _).drew).alloc _) uS
        have hS := HSall.out ws uW
        refine hK.out _ _ ⟨fun _ => hS.1, hS.2.1⟩ ?_
        clear hK K
        (try simp only [Act.put, List.setIfInBounds_toArray, List.set_cons_zero, List.set_cons_succ])
        refine wpAnyH_pure (i := 13) (v := ?_) rfl (by kernel_rfl) (by kernel_rfl) (by kernel_rfl) (by kernel_rfl) (by kernel_rfl) (fun _ _ _ h => h) (by rfl) ?_ (⟨fun _ => hS.1, hS.2.1⟩) ?_
        rotate_left 1
        · (intro zz; go_simp; first | done | with_reducible rfl)
        (try simp only [Act.put, List.setIfInBounds_toArray, List.set_cons_zero, List.set_cons_succ])
        refine wpAnyH_pure (i := 14) (v := ?_) rfl (by kernel_rfl) (by kernel_rfl) (by kernel_rfl) (by kernel_rfl) (by kernel_rfl) (fun _ _ _ h => h) (by rfl) ?_ (⟨fun _ => hS.1, hS.2.1⟩) ?_
        rotate_left 1
        · (intro zz; go_simp; first | done | with_reducible rfl)
        (try simp only [Act.put, List.setIfInBounds_toArray, List.set_cons_zero, List.set_cons_succ])
        have z1 := hS.1.1
        have zf := hS.2.2
        have hdb6 := H6.out.db
        dsimp only at hdb6
        have u15 : Upd (fun j => j = r.db) ws (ws.setCell ⟨r.db, 1, none⟩ (.slice (some ⟨gs, 0, none⟩) (E.q.length + 1) cs)) := Upd.set1 (Upd.refl _ _) (by omega) 1 _
        obtain ⟨a1, a2, a3, a4, a5, a6, a7, a8, a9⟩ := DiskAt.apart H6.out
        dsimp only at a1 a2 a3 a4 a5 a6 a7 a8 a9
        have hb15 := setCell_block (uW.keep H6.out.blk a3) 1 (.slice (some ⟨gs, 0, none⟩) (E.q.length + 1) cs)
        have hpdb : wr.heap.size ≠ r.db := fun e => by have := (hH'.out.foot_lt (Or.inl rfl)).2; dsimp only at this; omega
        have hpsm : wr.heap.size ≠ sm := fun e => by have := (hH'.out.foot_lt (Or.inr (Or.inr (Or.inl rfl)))).2; dsimp only at this; omega
        have hk15 := u15.keep (uW.keep K6.out hpb) hpdb
        have s15 := (H6.out.set.upd uW a5).upd u15 (fun e => a2 e.symm)
        have hgsm : nG ≤ sm := Nat.le_trans hgb6 H6.out.sm
        obtain ⟨st, w16, w18, he, hs, s18, u18, u16⟩ := SetL.entry s15 hgsm hI.out.1 hI.out.2 Hin3.out
        have hc15 : ∀ {z : World} {T : Nat → Prop}, Upd T (ws.setCell ⟨r.db, 1, none⟩ (.slice (some ⟨gs, 0, none⟩) (E.q.length + 1) cs)) z → (∀ j, T j → j = sm) → z.cell? ⟨r.db, 2, none⟩ = some (.map (some sm)) ∧ z.cell? ⟨wr.heap.size, 0, none⟩ = some (.int .i64 f) ∧ z.cell? ⟨wr.heap.size, 1, none⟩ = some (.int .i64 n) := fun {z T} uz hT => by
          have q1 := uz.keep hb15 (fun e => a2 (hT _ e))
          obtain ⟨q2, q3⟩ := cell2D (uz.keep hk15 (fun e => hpsm (hT _ e)))
          exact ⟨by rw [cells_cell q1]; rfl, q2, q3⟩
        have hS15 := hc15 (Upd.refl (fun _ => False) _) (fun _ e => e.elim)
        have hS16 := hc15 u16 (fun _ e => e)
        have hS18 := hc15 u18 (fun _ e => e)
        have hoS : ∀ k, (Value.slice (some ⟨gs, 0, none⟩) (E.q.length + 1) cs).ownBlock = some k → (Value.slice aq E.q.length cq).ownBlock = some k ∨ w6.heap.size ≤ k := fun k e => by
          obtain rfl : gs = k := by simpa [Value.ownBlock] using e
          exact oS
        have hz3 := Hfin.out w18 (DiskTo.after (n1.trans u6) (note_done H6.out hownS uW hoS u18 s18 Hnxt.out))
        have He := Lib.hid he
        have Hs18 := Lib.hid hs
        clear he hs hb15 hk15 s15 hc15 hownS uS oS hoS s18 hS q6 Hin3 Hnxt Hfin
        dsimp only [secV] at *
        refine wpAnyH_one (i := 15) (by kernel_rfl) rfl (fun K hK => ?_)
        go_simp
        refine hK.out _ _ ⟨fun e => absurd (show true = false from e) (by decide), hS15⟩ ?_
        clear hK K
        (try simp only [Act.put, List.setIfInBounds_toArray, List.set_cons_zero, List.set_cons_succ])
        refine wpAnyH_one (i := 16) (by kernel_rfl) rfl (fun K hK => ?_)
        refine step_mapEntry rfl tSet _ _ rfl _ _ _ rfl rfl He.out ?_
        refine hK.out _ _ ⟨fun e => absurd (show true = false from e) (by decide), hS16⟩ ?_
        clear hK K
        (try simp only [Act.put, List.setIfInBounds_toArray, List.set_cons_zero, List.set_cons_succ])
        refine wpAnyH_pure (i := 17) (v := ?_) rfl (by kernel_rfl) (by kernel_rfl) (by kernel_rfl) (by kernel_rfl) (by kernel_rfl) (fun _ _ _ h => h) (by rfl) ?_ (⟨fun e => absurd (show true = false from e) (by decide), hS16⟩) ?_
        rotate_left 1
        · (intro zz; go_simp; first | done | with_reducible rfl)
        (try simp only [Act.put, List.setIfInBounds_toArray, List.set_cons_zero, List.set_cons_succ])
        refine wpAnyH_one (i := 18) (by kernel_rfl) rfl (fun K hK => ?_)
        refine step_entryStore rfl tSet _ _ _ rfl _ _ _ rfl rfl rfl Hs18.out ?_
        refine hK.out _ _ ⟨fun e => absurd (show true = false from e) (by decide), hS18⟩ ?_
        clear hK K
        (try simp only [Act.put, List.setIfInBounds_toArray, List.set_cons_zero, List.set_cons_succ])
        refine wpAnyH_done (by kernel_rfl) ?_ _
        go_wp2_with fail
        go_roundw
        case rel => exact ⟨k + 1, by omega, by rw [← hN.out], hz3⟩
        case measure => have := Hnn.out; simp [intOf]; omega
    · obtain rfl : k = (Dk.secs i s.length).length := by omega
      have hle : ¬ ((i / 64 + (Dk.secs i s.length).length : Nat) : Int) ≤ ((i : Int) + s.length - 1) / 64 := by
        have := hK.out; have := Hpos.out; omega
      have hz3 := HD.out
      rw [hall.out] at hz3
      have Hz3 := Lib.hid hz3
      clear hz3
      go_wp2_with fail
      go_ret
      exact ⟨by rw [hr.out]; rfl, by rw [hr.out]; exact Hz3.out⟩
end Go.Proofs.YtiednpagknnfnaaGreatDoor
namespace Go.Proofs.YtiednpagknnfnaaGreatDoor
open Go.RowKit Go.MapKept
open Go.Maps (Keyed)
attribute [local irreducible] Calls CallsIn
theorem MapL.entry {P : Program} {t k e : TypeId} {w : World} {b : Nat} {l : List (Value × Value)} (h : MapL P k w b l) (K : Keyed P k) (ht : P.underlying t = some (.map k e)) (hg : nG ≤ b) {key zv : Value} {kl : Lit} (hkey : keyOf P k key = some kl) (hz : ∀ w, (zeroValue e).run P w = .ok zv w) (hno : ∀ p ∈ l, p.1 ≠ key) (val : Value) :
    ∃ (st : Nat) (w1 w2 : World), (Instr.mapEntry t (.map (some b)) key).run P w = .ok (.tuple #[zv, .int .i64 st]) w1 ∧ (Instr.entryStore t (.map (some b)) (.int .i64 st) val).run P w1 = .ok () w2 ∧ MapL P k w2 b (l ++ [(key, val)]) ∧ Upd (· = b) w w2 ∧ Upd (· = b) w w1 := by
  obtain ⟨es, clock, hb, hpm, hk, hs⟩ := h
  have hno : ∀ x ∈ es.toList, x.key ≠ key := fun x hx => hno (x.key, x.val) (hpm.mem_iff.1 (List.mem_map.2 ⟨x, hx, rfl⟩))
  have hlt := lt_of_block hb
  rcases K.find w hkey es.toList (fun x hx => hk (x.key, x.val) (hpm.mem_iff.1 (List.mem_map.2 ⟨x, hx, rfl⟩))) with ⟨q1, q2⟩ | ⟨j, e0, q1, q2, q3⟩
  · have hst := (stamped_iff es clock).1 hs
    have hb1 : ({ w with heap := w.heap.setIfInBounds b (.map (es.push ⟨key, zv, clock⟩) (clock + 1)) } : World).heap[b]? = some (.map (es.push ⟨key, zv, clock⟩) (clock + 1)) := by simp [Array.getElem?_setIfInBounds, hlt]
    refine ⟨clock, { w with heap := w.heap.setIfInBounds b (.map (es.push ⟨key, zv, clock⟩) (clock + 1)) }, { w with heap := (w.heap.setIfInBounds b (.map (es.push ⟨key, zv, clock⟩) (clock + 1))).setIfInBounds b (.map (es.push ⟨key, val, clock⟩) (clock + 1)) }, ?_, ?_, ?_, ?_, Upd.setBlock hg _⟩
    · simp [Instr.mapEntry, run_underlying ht, MapKept.run_getObj_map hb, K.check w false hkey, q1, hz, MapKept.run_setObj_map _ hb, Result.andThen, goInt]
    · have hidx : (es.push ⟨key, zv, clock⟩).findIdx? (fun e => ((e.born : Nat) : Int) == ((clock : Nat) : Int)) = some es.size := by
        rw [Go.WideElems.findIdx_arr]
        exact Go.WideElems.findIdx_born (l := (es.push ⟨key, zv, clock⟩).toList) (j := es.size) (e0 := ⟨key, zv, clock⟩) (by
          simp only [Array.toList_push, List.map_append, List.map_cons, List.map_nil]
          refine List.nodup_append.2 ⟨hst.2.1, by simp, fun a ha c hc e1 => ?_⟩
          simp only [List.mem_singleton] at hc
          obtain ⟨x, hx, rfl⟩ := List.mem_map.1 ha
          have := hst.1 x hx
          omega) (by simp)
      have hmod : (es.push ⟨key, zv, clock⟩).modify es.size (fun e => { e with val := val }) = es.push ⟨key, val, clock⟩ := by
        apply Array.ext'
        rw [Array.toList_modify, Array.toList_push, Array.toList_push, ← Array.length_toList, Go.WideElems.modify_last]
      simp [Instr.entryStore, MapKept.run_getObj_map hb1, asInt, asIntOf, hidx, hmod, MapKept.run_setObj_map _ hb1, Result.andThen]
    · refine ⟨es.push ⟨key, val, clock⟩, clock + 1, by simp [Array.getElem?_setIfInBounds, hlt], ?_, ?_, stamped_push hs q2⟩
      · have := hpm.append_right [(key, val)]
        simpa using this
      · intro x hx
        rcases List.mem_append.1 hx with hx | hx
        · exact hk x hx
        · rw [List.mem_singleton.1 hx]; exact ⟨kl, hkey⟩
    · exact (Upd.setBlock hg _).trans (Upd.setBlock (w := { w with heap := w.heap.setIfInBounds b (.map (es.push ⟨key, zv, clock⟩) (clock + 1)) }) hg _)
  · exact absurd q3 (hno e0 (List.mem_of_getElem? q2))
theorem op_tail (c : UInt8) (t : List UInt8) (z : World) : (Instr.slice 9 (.string ⟨(c :: t).toArray⟩) (some (.int .i64 1)) none none).run Tryz.prog z = .ok (.string ⟨t.toArray⟩) z := by
  have := run_slice_string_l (P := Tryz.prog) z 9 ⟨(c :: t).toArray⟩ Tryz.underlying9 .i64 1 (by omega) (by rw [bs_size, bs_list]; simp; omega)
  rw [this]
  refine congrArg (fun y => Result.ok (Value.string y) z) ?_
  have e : ((⟨(c :: t).toArray⟩ : ByteArray).extract (Int.toNat 1) (⟨(c :: t).toArray⟩ : ByteArray).size).data.toList = t := by
    rw [bs_extract, bs_size, bs_list]
    show (t.take _) = t
    exact List.take_of_length_le (by simp)
  rw [← bs_eta ((⟨(c :: t).toArray⟩ : ByteArray).extract _ _), e]
theorem op_head (c : UInt8) (t : List UInt8) (z : World) : (Instr.index 9 (.string ⟨(c :: t).toArray⟩) (.int .i64 0)).run Tryz.prog z = .ok (.int .u8 c.toNat) z := by
  have h0 : (0 : Int) ≤ 0 ∧ (0 : Int) < (⟨(c :: t).toArray⟩ : ByteArray).size := by rw [bs_size, bs_list]; simp
  have h := run_index_string (P := Tryz.prog) (w := z) 9 ⟨(c :: t).toArray⟩ .i64 0 Tryz.underlying9
  rw [dif_pos h0] at h
  exact h
theorem op_some (c : UInt8) (t : List UInt8) : (⟨(c :: t).toArray⟩ : ByteArray).toList.isEmpty = false := by
  rw [ByteArray.toList_eq]
  rfl
theorem numbers_put (S : Sg.Sta) (t : List UInt8) : Sg.numbers (Sg.after S (.put t)) = Sg.numbers S ++ [S.th.length] := by
  unfold Sg.numbers
  have hl : (Sg.after S (.put t)).th.length = S.th.length + 1 := by simp [Sg.after]
  rw [hl, List.range_succ, List.filter_append]
  congr 1
  · refine List.filter_congr fun i hi => ?_
    have := List.mem_range.1 hi
    rw [Sg.there_put, decide_eq_false (by omega), Bool.or_false]
  · simp [Sg.there_put]
theorem tE_put {S : Sg.Sta} (g : Sg.G S) (t : List UInt8) : tE (Sg.after S (.put t)) = tE S ++ [(.int .i64 (S.th.length : Nat), bsV t)] := by
  unfold tE
  rw [numbers_put, List.map_append]
  congr 1
  · refine List.map_congr_left fun i hi => ?_
    have := Sg.thereN_lt (mem_numbers.1 hi)
    rw [Sg.text_put g.len, if_neg (by omega)]
  · simp [Sg.text_put g.len]
theorem nE_put {S : Sg.Sta} (g : Sg.G S) (t : List UInt8) : nE (Sg.after S (.put t)) = nE S ++ [(bsV t, .int .i64 (S.th.length : Nat))] := by
  unfold nE
  rw [numbers_put, List.map_append]
  congr 1
  · refine List.map_congr_left fun i hi => ?_
    have := Sg.thereN_lt (mem_numbers.1 hi)
    rw [Sg.text_put g.len, if_neg (by omega)]
  · simp [Sg.text_put g.len]
theorem put_mem {B : Nat} {z : World} {x : SgR} {S : Sg.Sta} (h : SgAt B z x S) {t : List UInt8} (ha : Sg.find S t = none) (hl : t.length ≤ 20000) (hb : Sg.big S + 1 ≤ 1000) :
    ∃ (st1 st2 : Nat) (w1 w2 w3 w4 : World), (Instr.mapEntry 83 (.map (some x.mT)) (.int .i64 (S.th.length : Nat))).run Tryz.prog z = .ok (.tuple #[bsV [], .int .i64 st1]) w1 ∧
      (Instr.entryStore 83 (.map (some x.mT)) (.int .i64 st1) (bsV t)).run Tryz.prog w1 = .ok () w2 ∧
      (Instr.mapEntry 84 (.map (some x.mN)) (bsV t)).run Tryz.prog w2 = .ok (.tuple #[.int .i64 0, .int .i64 st2]) w3 ∧
      (Instr.entryStore 84 (.map (some x.mN)) (.int .i64 st2) (.int .i64 (S.th.length : Nat))).run Tryz.prog w3 = .ok () w4 ∧
      w4.heap[x.sb]? = z.heap[x.sb]? ∧ SgAt B (w4.setCell ⟨x.sb, 1, none⟩ (.int .i64 ((S.th.length + 1 : Nat) : Int))) x (Sg.after S (.put t)) ∧ Upd x.foot z (w4.setCell ⟨x.sb, 1, none⟩ (.int .i64 ((S.th.length + 1 : Nat) : Int))) := by
  have hbb := hb
  unfold Sg.big at hb
  have hT := h.lt x.mT (Or.inr (Or.inl rfl))
  have hN := h.lt x.mN (Or.inr (Or.inr (Or.inl rfl)))
  have hS := h.lt x.sb (Or.inl rfl)
  have hG := h.gl
  obtain ⟨a1, a2, a3, a4, a5, a6, a7⟩ := h.ap
  have hzs : ∀ w, (zeroValue 9).run Tryz.prog w = .ok (bsV []) w := fun w => by kernel_rfl
  have hzi : ∀ w, (zeroValue 3).run Tryz.prog w = .ok (.int .i64 0) w := fun w => by kernel_rfl
  obtain ⟨st1, w1, w2, e1, e2, m2, u2, u1⟩ := h.mt.entry intKeyD Tryz.underlying83 (by omega) (int_keyD (n := (S.th.length : Nat)) (by unfold I64; omega)) hzs (fun p hp e => by
    obtain ⟨i, hi, rfl⟩ := List.mem_map.1 hp
    have h1 := Sg.thereN_lt (mem_numbers.1 hi)
    have := intN_inj e
    omega) (bsV t)
  have m2n := h.mn.upd u2 (fun e => a4 e.symm)
  obtain ⟨st2, w3, w4, e3, e4, m4, u4, u3⟩ := m2n.entry strKeyedS Tryz.underlying84 (by omega) (str_keyS (s := t) (by omega)) hzi (fun p hp e => by
    obtain ⟨i, hi, rfl⟩ := List.mem_map.1 hp
    exact Sg.find_none ha (mem_numbers.1 hi) (bsV_inj e)) (.int .i64 (S.th.length : Nat))
  have hg5 : nG ≤ x.sb := by omega
  have u5 := Upd.set1 (Upd.refl _ w4) hg5 1 (.int .i64 ((S.th.length + 1 : Nat) : Int))
  have hblk := u4.keep (u2.keep h.blk a1) a2
  have hb5 := setCell_block hblk 1 (.int .i64 ((S.th.length + 1 : Nat) : Int))
  have uall : Upd x.foot z (w4.setCell ⟨x.sb, 1, none⟩ (.int .i64 ((S.th.length + 1 : Nat) : Int))) := by
    refine Upd.trans (Upd.trans (u2.mono (fun k _ e => ?_)) (u4.mono (fun k _ e => ?_))) (u5.mono (fun k _ e => ?_))
    · exact Or.inr (Or.inl e)
    · exact Or.inr (Or.inr (Or.inl e))
    · exact Or.inl e
  obtain ⟨C, h6, h7, h8⟩ := h.mp
  refine ⟨st1, st2, w1, w2, w3, w4, e1, e2, e3, e4, hblk.trans h.blk.symm, ⟨h.g.after ha, ?_, ?_, ?_, ?_, ?_, ⟨C, h6, ?_, fun q hq => ?_⟩, fun k hk => ⟨(h.lt k hk).1, Nat.lt_of_lt_of_le (h.lt k hk).2 uall.size⟩, h.gl, h.ap⟩, uall⟩
  · have := Sg.big_after S (.put t); omega
  · intro s hs
    rcases List.mem_append.1 hs with hs | hs
    · exact h.tl s hs
    · rw [List.mem_singleton.1 hs]; exact hl
  · have e : (Sg.after S (.put t)).th.length = S.th.length + 1 := by simp [Sg.after]
    rw [e]
    exact hb5
  · rw [tE_put h.g]
    exact (m2.upd u4 a4).upd u5 (fun e => a1 e.symm)
  · rw [nE_put h.g]
    exact m4.upd u5 (fun e => a2 e.symm)
  · exact ((h7.upd u2 (fun e => a5 e.symm)).upd u4 (fun e => a6 e.symm)).upd u5 (fun e => a3 e.symm)
  · exact (((h8 q hq).upd u2 (fun k hk => (a7 k hk).2.1)).upd u4 (fun k hk => (a7 k hk).2.2.1)).upd u5 (fun k hk => (a7 k hk).1)
set_option maxHeartbeats 4000000 in
set_option maxRecDepth 100000 in
theorem apply_put {B : Nat} {z : World} {x : SgR} {S : Sg.Sta} (h : SgAt B z x S) {t : List UInt8} (ha : Sg.find S t = none) (hl : t.length ≤ 20000) (hb : Sg.big S + 1 ≤ 1000) :
    Calls Tryz.prog 33 #[.pointer (some ⟨x.sb, 0, none⟩), .string ⟨(112 :: t).toArray⟩] z fun e z' => e = .returned (.tuple #[]) ∧ SgAt B z' x (Sg.after S (.put t)) ∧ Upd x.foot z z' := by
  have htail := op_tail 112 t
  have hhead := op_head 112 t
  have hsome := op_some 112 t
  generalize (⟨(112 :: t).toArray⟩ : ByteArray) = op at *
  obtain ⟨wd, hwd, nd⟩ := nw_drew z
  have H := Lib.hid (h.nw nd)
  obtain ⟨c0, c1, c2, c3, c4⟩ := (h.nw nd).cells
  obtain ⟨st1, st2, w1, w2, w3, w4, e1, e2, e3, e4, hblk, hsg, hup⟩ := put_mem (h.nw nd) ha hl hb
  unfold bsV at e2 e3
  rw [show ((S.th.length + 1 : Nat) : Int) = (S.th.length : Int) + 1 from by omega] at hsg hup
  have E1 := Lib.hid e1
  have E2 := Lib.hid e2
  have E3 := Lib.hid e3
  have E4 := Lib.hid e4
  have HSg := Lib.hid hsg
  have HUp := Lib.hid (Upd.trans (Nw.upd _ nd) hup)
  have HBk := Lib.hid (hblk.trans (h.nw nd).blk)
  have hn1 : (S.th.length : Int) < 1000 := by unfold Sg.big at hb; omega
  clear h ha hl hb nd e1 e2 e3 e4 hsg hup hblk H
  go_enter Tryz.func33, Tryz.ntmps33
  go_upto_region 4 with fail
  refine wp_region_G (fun y => y.cell? ⟨x.sb, 1, none⟩ = some (.int .i64 (S.th.length : Nat)) ∧ y.cell? ⟨x.sb, 2, none⟩ = some (.map (some x.mT)) ∧ y.cell? ⟨x.sb, 3, none⟩ = some (.map (some x.mN)) ∧ True ∧ True ∧ True) 18 (by kernel_rfl) ?_
  rw [hwd]
  clear hwd
  have HS0 := Lib.hid (show wd.cell? ⟨x.sb, 1, none⟩ = some (.int .i64 (S.th.length : Nat)) ∧ wd.cell? ⟨x.sb, 2, none⟩ = some (.map (some x.mT)) ∧ wd.cell? ⟨x.sb, 3, none⟩ = some (.map (some x.mN)) ∧ True ∧ True ∧ True from ⟨c1, c2, c3, trivial, trivial, trivial⟩)
  clear c0 c1 c2 c3 c4
  refine wpAnyG_pure (i := 0) (v := ?_) rfl (by kernel_rfl) (by kernel_rfl) (by kernel_rfl) (by kernel_rfl) (by kernel_rfl) (fun _ _ _ h => h) (by rfl) ?_ (fun _ => HS0.out) ?_
  rotate_left 1
  · (intro zz; go_simp; first | done | with_reducible rfl)
  (try simp only [Act.put, List.setIfInBounds_toArray, List.set_cons_zero, List.set_cons_succ])
  refine wpAnyG_pure (i := 1) (v := ?_) rfl (by kernel_rfl) (by kernel_rfl) (by kernel_rfl) (by kernel_rfl) (by kernel_rfl) (fun _ _ _ h => h) (by rfl) ?_ (fun _ => HS0.out) ?_
  rotate_left 1
  · (intro zz; go_simp; first | done | with_reducible rfl)
  (try simp only [Act.put, List.setIfInBounds_toArray, List.set_cons_zero, List.set_cons_succ])
  refine wpAnyG_pure (i := 2) (v := ?_) rfl (by kernel_rfl) (by kernel_rfl) (by kernel_rfl) (by kernel_rfl) (by kernel_rfl) (fun _ _ _ h => h) (by rfl) ?_ (fun _ => HS0.out) ?_
  rotate_left 1
  · (intro zz; go_simp; first | done | with_reducible rfl)
  (try simp only [Act.put, List.setIfInBounds_toArray, List.set_cons_zero, List.set_cons_succ])
  refine wpAnyG_pure (i := 4) (v := ?_) rfl (by kernel_rfl) (by kernel_rfl) (by kernel_rfl) (by kernel_rfl) (by kernel_rfl) (fun _ _ _ h => h) (by rfl) ?_ (fun _ => HS0.out) ?_
  rotate_left 1
  · (intro zz; go_simp; first | done | with_reducible rfl)
  (try simp only [Act.put, List.setIfInBounds_toArray, List.set_cons_zero, List.set_cons_succ])
  refine wpAnyG_pure (i := 5) (v := ?_) rfl (by kernel_rfl) (by kernel_rfl) (by kernel_rfl) (by kernel_rfl) (by kernel_rfl) (fun _ _ _ h => h) (by rfl) ?_ (fun _ => HS0.out) ?_
  rotate_left 1
  · (intro zz; go_simp; first | done | with_reducible rfl)
  (try simp only [Act.put, List.setIfInBounds_toArray, List.set_cons_zero, List.set_cons_succ])
  refine wpAnyG_pure (i := 6) (v := ?_) rfl (by kernel_rfl) (by kernel_rfl) (by kernel_rfl) (by kernel_rfl) (by kernel_rfl) (fun _ _ _ h => h) (by rfl) ?_ (fun _ => HS0.out) ?_
  rotate_left 1
  · (intro zz; go_simp; first | done | with_reducible rfl)
  (try simp only [Act.put, List.setIfInBounds_toArray, List.set_cons_zero, List.set_cons_succ])
  refine wpAnyG_pure (i := 8) (v := ?_) rfl (by kernel_rfl) (by kernel_rfl) (by kernel_rfl) (by kernel_rfl) (by kernel_rfl) (fun _ _ _ h => h) (by rfl) ?_ (fun _ => HS0.out) ?_
  rotate_left 1
  · (intro zz; go_simp; first | done | with_reducible rfl)
  (try simp only [Act.put, List.setIfInBounds_toArray, List.set_cons_zero, List.set_cons_succ])
  refine wpAnyG_pure (i := 9) (v := ?_) rfl (by kernel_rfl) (by kernel_rfl) (by kernel_rfl) (by kernel_rfl) (by kernel_rfl) (fun _ _ _ h => h) (by rfl) ?_ (fun _ => HS0.out) ?_
  rotate_left 1
  · (intro zz; go_simp; first | done | with_reducible rfl)
  (try simp only [Act.put, List.setIfInBounds_toArray, List.set_cons_zero, List.set_cons_succ])
  refine wpAnyG_pure (i := 10) (v := ?_) rfl (by kernel_rfl) (by kernel_rfl) (by kernel_rfl) (by kernel_rfl) (by kernel_rfl) (fun _ _ _ h => h) (by rfl) ?_ (fun _ => HS0.out) ?_
  rotate_left 1
  · (intro zz; go_simp; first | done | with_reducible rfl)
  (try simp only [Act.put, List.setIfInBounds_toArray, List.set_cons_zero, List.set_cons_succ])
  refine wpAnyG_pure (i := 12) (v := ?_) rfl (by kernel_rfl) (by kernel_rfl) (by kernel_rfl) (by kernel_rfl) (by kernel_rfl) (fun _ _ _ h => h) (by rfl) ?_ (fun _ => HS0.out) ?_
  rotate_left 1
  · (intro zz; go_simp; first | done | with_reducible rfl)
  (try simp only [Act.put, List.setIfInBounds_toArray, List.set_cons_zero, List.set_cons_succ])
  refine wpAnyG_pure (i := 13) (v := ?_) rfl (by kernel_rfl) (by kernel_rfl) (by kernel_rfl) (by kernel_rfl) (by kernel_rfl) (fun _ _ _ h => h) (by rfl) ?_ (fun _ => HS0.out) ?_
  rotate_left 1
  · (intro zz; go_simp; first | done | with_reducible rfl)
  (try simp only [Act.put, List.setIfInBounds_toArray, List.set_cons_zero, List.set_cons_succ])
  refine wpAnyG_pure (i := 14) (v := ?_) rfl (by kernel_rfl) (by kernel_rfl) (by kernel_rfl) (by kernel_rfl) (by kernel_rfl) (fun _ _ _ h => h) (by rfl) ?_ (fun _ => HS0.out) ?_
  rotate_left 1
  · (intro zz; go_simp; first | done | with_reducible rfl)
  (try simp only [Act.put, List.setIfInBounds_toArray, List.set_cons_zero, List.set_cons_succ])
  refine wpAnyG_pure (i := 15) (v := ?_) rfl (by kernel_rfl) (by kernel_rfl) (by kernel_rfl) (by kernel_rfl) (by kernel_rfl) (fun _ _ _ h => h) (by rfl) ?_ (fun _ => HS0.out) ?_
  rotate_left 1
  · (intro zz; go_simp; first | done | with_reducible rfl)
  (try simp only [Act.put, List.setIfInBounds_toArray, List.set_cons_zero, List.set_cons_succ])
  refine wpAnyG_pure (i := 16) (v := ?_) rfl (by kernel_rfl) (by kernel_rfl) (by kernel_rfl) (by kernel_rfl) (by kernel_rfl) (fun _ _ _ h => h) (by rfl) ?_ (fun _ => HS0.out) ?_
  rotate_left 1
  · (intro zz; go_simp; first | done | with_reducible rfl)
  (try simp only [Act.put, List.setIfInBounds_toArray, List.set_cons_zero, List.set_cons_succ])
  refine wpAnyG_load (i := 3) (v := ?_) [] rfl (by kernel_rfl) (by kernel_rfl) (by kernel_rfl) (by kernel_rfl) (by kernel_rfl) (by kernel_rfl) (fun _ _ _ h => h) (by rfl) ?_ (fun _ => HS0.out) ?_
  rotate_left 1
  · (intro zz hS; obtain ⟨_, _, _, _, _, _, _⟩ := hS; go_simp; first | done | with_reducible rfl)
  (try simp only [Act.put, List.setIfInBounds_toArray, List.set_cons_zero, List.set_cons_succ])
  refine wpAnyG_load (i := 7) (v := ?_) [] rfl (by kernel_rfl) (by kernel_rfl) (by kernel_rfl) (by kernel_rfl) (by kernel_rfl) (by kernel_rfl) (fun _ _ _ h => h) (by rfl) ?_ (fun _ => HS0.out) ?_
  rotate_left 1
  · (intro zz hS; obtain ⟨_, _, _, _, _, _, _⟩ := hS; go_simp; first | done | with_reducible rfl)
  (try simp only [Act.put, List.setIfInBounds_toArray, List.set_cons_zero, List.set_cons_succ])
  refine wpAnyG_load (i := 11) (v := ?_) [] rfl (by kernel_rfl) (by kernel_rfl) (by kernel_rfl) (by kernel_rfl) (by kernel_rfl) (by kernel_rfl) (fun _ _ _ h => h) (by rfl) ?_ (fun _ => HS0.out) ?_
  rotate_left 1
  · (intro zz hS; obtain ⟨_, _, _, _, _, _, _⟩ := hS; go_simp; first | done | with_reducible rfl)
  (try simp only [Act.put, List.setIfInBounds_toArray, List.set_cons_zero, List.set_cons_succ])
  refine wpAnyG_load (i := 17) (v := ?_) [] rfl (by kernel_rfl) (by kernel_rfl) (by kernel_rfl) (by kernel_rfl) (by kernel_rfl) (by kernel_rfl) (fun _ _ _ h => h) (by rfl) ?_ (fun _ => HS0.out) ?_
  rotate_left 1
  · (intro zz hS; obtain ⟨_, _, _, _, _, _, _⟩ := hS; go_simp; first | done | with_reducible rfl)
  (try simp only [Act.put, List.setIfInBounds_toArray, List.set_cons_zero, List.set_cons_succ])
  refine wpAnyG_ready [18] (by kernel_rfl) (by simp) ?_
  refine AllG.cons rfl (fun K hK => ?_) AllG.nil
  have e1 := E1.out
  go_simp
  clear e1
  refine hK.out _ _ (fun e => absurd (show true = false from e) (by decide)) ?_
  clear hK K
  (try simp only [Act.put, List.setIfInBounds_toArray, List.set_cons_zero, List.set_cons_succ])
  refine wpAnyG_pure (i := 19) (v := ?_) rfl (by kernel_rfl) (by kernel_rfl) (by kernel_rfl) (by kernel_rfl) (by kernel_rfl) (fun _ _ _ h => h) (by rfl) ?_ (fun e => absurd (show true = false from e) (by decide)) ?_
  rotate_left 1
  · (intro zz; go_simp; first | done | with_reducible rfl)
  (try simp only [Act.put, List.setIfInBounds_toArray, List.set_cons_zero, List.set_cons_succ])
  refine wpAnyG_ready [20] (by kernel_rfl) (by simp) ?_
  refine AllG.cons rfl (fun K hK => ?_) AllG.nil
  have e2 := E2.out
  go_simp
  clear e2
  refine hK.out _ _ (fun e => absurd (show true = false from e) (by decide)) ?_
  clear hK K
  (try simp only [Act.put, List.setIfInBounds_toArray, List.set_cons_zero, List.set_cons_succ])
  refine wpAnyG_ready [21] (by kernel_rfl) (by simp) ?_
  refine AllG.cons rfl (fun K hK => ?_) AllG.nil
  have e3 := E3.out
  go_simp
  clear e3
  refine hK.out _ _ (fun e => absurd (show true = false from e) (by decide)) ?_
  clear hK K
  (try simp only [Act.put, List.setIfInBounds_toArray, List.set_cons_zero, List.set_cons_succ])
  refine wpAnyG_pure (i := 22) (v := ?_) rfl (by kernel_rfl) (by kernel_rfl) (by kernel_rfl) (by kernel_rfl) (by kernel_rfl) (fun _ _ _ h => h) (by rfl) ?_ (fun e => absurd (show true = false from e) (by decide)) ?_
  rotate_left 1
  · (intro zz; go_simp; first | done | with_reducible rfl)
  (try simp only [Act.put, List.setIfInBounds_toArray, List.set_cons_zero, List.set_cons_succ])
  refine wpAnyG_ready [23] (by kernel_rfl) (by simp) ?_
  refine AllG.cons rfl (fun K hK => ?_) AllG.nil
  have e4 := E4.out
  go_simp
  clear e4
  refine hK.out _ _ (fun e => absurd (show true = false from e) (by decide)) ?_
  clear hK K
  (try simp only [Act.put, List.setIfInBounds_toArray, List.set_cons_zero, List.set_cons_succ])
  refine wpAnyG_done (by kernel_rfl) ?_ _
  have c1 : w4.cell? ⟨x.sb, 1, none⟩ = some (.int .i64 (S.th.length : Nat)) := by rw [cells_cell HBk.out]; rfl
  have f1 := cells_frozen HBk.out 1
  go_wp2_with fail
  go_end0
  exact ⟨rfl, HSg.out, HUp.out⟩
theorem pE_nodup {C : List (Sg.Pf × Value)} (h : (C.map (·.1)).Pairwise fun a b => Fm.lt a.nm b.nm = true) : (pE C).Nodup := by
  refine List.pairwise_map.2 ((List.pairwise_map.1 h).imp fun {a b} hlt e => ?_)
  have := bsV_inj (Prod.mk.inj e).1
  rw [this, Fm.lt_irr] at hlt
  cases hlt
def withoutC (C : List (Sg.Pf × Value)) (n : List UInt8) : List (Sg.Pf × Value) := C.filter fun q => !decide (q.1.nm = n)
theorem withoutC_map (C : List (Sg.Pf × Value)) (n : List UInt8) : (withoutC C n).map (·.1) = Sg.without (C.map (·.1)) n := by
  unfold withoutC Sg.without
  rw [List.filter_map]
  rfl
theorem mem_withoutC {C : List (Sg.Pf × Value)} {n : List UInt8} {q : Sg.Pf × Value} : q ∈ withoutC C n ↔ q ∈ C ∧ q.1.nm ≠ n := by
  unfold withoutC; rw [List.mem_filter]; simp
theorem mem_pE_without {C : List (Sg.Pf × Value)} {n : List UInt8} {p : Value × Value} : p ∈ pE (withoutC C n) ↔ p ∈ pE C ∧ p.1 ≠ bsV n := by
  constructor
  · intro h
    obtain ⟨q, hq, rfl⟩ := List.mem_map.1 h
    obtain ⟨h1, h2⟩ := mem_withoutC.1 hq
    exact ⟨List.mem_map.2 ⟨q, h1, rfl⟩, fun e => h2 (bsV_inj e)⟩
  · rintro ⟨h, h2⟩
    obtain ⟨q, hq, rfl⟩ := List.mem_map.1 h
    exact List.mem_map.2 ⟨q, mem_withoutC.2 ⟨hq, fun e => h2 (by rw [← e])⟩, rfl⟩
theorem drop_mem {B : Nat} {z : World} {x : SgR} {S : Sg.Sta} (h : SgAt B z x S) {n : List UInt8} (hn : n.length ≤ 20000) :
    ∃ w', (Builtin.delete_ #[85, tStrS] 0 #[.map (some x.mP), .string ⟨n.toArray⟩]).run Tryz.prog z = .ok (.tuple #[]) w' ∧ SgAt B w' x (Sg.after S (.drop n)) ∧ Upd x.foot z w' := by
  have hP := h.lt x.mP (by right; right; right; left; rfl)
  have hG := h.gl
  obtain ⟨a1, a2, a3, a4, a5, a6, a7⟩ := h.ap
  obtain ⟨C, h6, h7, h8⟩ := h.mp
  obtain ⟨w', l', hrun, hm, hmem, u⟩ := h7.del (ty := 0) strKeyedS Tryz.underlying85 (by omega) (str_keyS (s := n) (by omega))
  have ufoot : Upd x.foot z w' := u.mono (fun k _ e => by right; right; right; left; exact e)
  have hb := h.big
  have hw : (Sg.after S (.drop n)).pf = (withoutC C n).map (·.1) := by rw [withoutC_map, ← h6]; rfl
  refine ⟨w', hrun, ⟨h.g.after (o := .drop n) trivial, ?_, h.tl, u.keep h.blk a3, h.mt.upd u a5, h.mn.upd u a6, ⟨withoutC C n, hw, ?_, fun q hq => (h8 q (mem_withoutC.1 hq).1).upd u (fun k hk => (a7 k hk).2.2.2)⟩, fun k hk => ⟨(h.lt k hk).1, Nat.lt_of_lt_of_le (h.lt k hk).2 u.size⟩, h.gl, h.ap⟩, ufoot⟩
  · have := List.length_filter_le (fun q : Sg.Pf => !decide (q.nm = n)) S.pf
    unfold Sg.big at hb ⊢
    simp only [Sg.after, Sg.without]
    omega
  · refine hm.of_mem (pE_nodup ?_) (fun p => ?_)
    · rw [← hw]; exact (h.g.after (o := .drop n) trivial).asc
    · rw [mem_pE_without, hmem]
set_option maxHeartbeats 4000000 in
set_option maxRecDepth 100000 in
theorem apply_drop {B : Nat} {z : World} {x : SgR} {S : Sg.Sta} (h : SgAt B z x S) {n : List UInt8} (hn : n.length ≤ 20000) :
    Calls Tryz.prog 33 #[.pointer (some ⟨x.sb, 0, none⟩), .string ⟨(100 :: n).toArray⟩] z fun e z' => e = .returned (.tuple #[]) ∧ SgAt B z' x (Sg.after S (.drop n)) ∧ Upd x.foot z z' := by
  have htail := op_tail 100 n
  have hhead := op_head 100 n
  have hsome := op_some 100 n
  generalize (⟨(100 :: n).toArray⟩ : ByteArray) = op at *
  obtain ⟨c0, c1, c2, c3, c4⟩ := h.cells
  obtain ⟨w', hrun, hsg, hup⟩ := drop_mem h hn
  have HR := Lib.hid hrun
  have HSg := Lib.hid hsg
  have HUp := Lib.hid hup
  clear h hrun hsg hup hn
  go_enter Tryz.func33, Tryz.ntmps33
  go_wp2_with (at_delete; refine wpList_dropL rfl rfl _ _ 85 tStrS rfl _ _ rfl rfl HR.out ?_)
  go_end0
  exact ⟨rfl, HSg.out, HUp.out⟩
end Go.Proofs.YtiednpagknnfnaaGreatDoor
namespace Go.Proofs.YtiednpagknnfnaaGreatDoor
open Go.RowKit Go.MapKept
attribute [local irreducible] Calls CallsIn
def tEf (S : Sg.Sta) (f : Nat → Bool) : List (Value × Value) := ((Sg.numbers S).filter f).map fun i => (.int .i64 (i : Nat), bsV (Sg.textN S i))
def nEf (S : Sg.Sta) (f : Nat → Bool) : List (Value × Value) := ((Sg.numbers S).filter f).map fun i => (bsV (Sg.textN S i), .int .i64 (i : Nat))
theorem tEf_nodup (S : Sg.Sta) (f : Nat → Bool) : (tEf S f).Nodup := List.pairwise_map.2 (((numbers_nodup S).filter f).imp fun hne e => hne (intN_inj (Prod.mk.inj e).1))
theorem nEf_nodup (S : Sg.Sta) (f : Nat → Bool) : (nEf S f).Nodup := List.pairwise_map.2 (((numbers_nodup S).filter f).imp fun hne e => hne (intN_inj (Prod.mk.inj e).2))
theorem mem_tEf {S : Sg.Sta} {f : Nat → Bool} {p : Value × Value} : p ∈ tEf S f ↔ ∃ i, Sg.thereN S i = true ∧ f i = true ∧ p = (.int .i64 (i : Nat), bsV (Sg.textN S i)) := by
  unfold tEf
  rw [List.mem_map]
  constructor
  · rintro ⟨i, hi, rfl⟩
    obtain ⟨h1, h2⟩ := List.mem_filter.1 hi
    exact ⟨i, mem_numbers.1 h1, h2, rfl⟩
  · rintro ⟨i, h1, h2, rfl⟩
    exact ⟨i, List.mem_filter.2 ⟨mem_numbers.2 h1, h2⟩, rfl⟩
theorem mem_nEf {S : Sg.Sta} {f : Nat → Bool} {p : Value × Value} : p ∈ nEf S f ↔ ∃ i, Sg.thereN S i = true ∧ f i = true ∧ p = (bsV (Sg.textN S i), .int .i64 (i : Nat)) := by
  unfold nEf
  rw [List.mem_map]
  constructor
  · rintro ⟨i, hi, rfl⟩
    obtain ⟨h1, h2⟩ := List.mem_filter.1 hi
    exact ⟨i, mem_numbers.1 h1, h2, rfl⟩
  · rintro ⟨i, h1, h2, rfl⟩
    exact ⟨i, List.mem_filter.2 ⟨mem_numbers.2 h1, h2⟩, rfl⟩
def goneK (S : Sg.Sta) (k : Nat) (i : Nat) : Bool := !decide (i ∈ (Sg.spare S).take k)
theorem numbers_sweep (S : Sg.Sta) : Sg.numbers (Sg.after S .sweep) = (Sg.numbers S).filter (goneK S (Sg.spare S).length) := by
  have hl : (Sg.after S .sweep).th.length = S.th.length := by simp [Sg.after]
  unfold Sg.numbers
  rw [hl, List.filter_filter]
  refine List.filter_congr fun i hi => ?_
  rw [Sg.there_sweep]
  unfold goneK
  rw [List.take_length]
  cases ht : Sg.thereN S i with
  | false => simp
  | true =>
    cases hu : Sg.used S i with
    | true => simp [Sg.spare, hu]
    | false => simp [Sg.spare, hu, mem_numbers, ht]
theorem spare_mem {S : Sg.Sta} {i : Nat} (h : i ∈ Sg.spare S) : Sg.thereN S i = true := mem_numbers.1 (List.mem_filter.1 h).1
theorem goneK_succ {S : Sg.Sta} {k : Nat} (hk : k < (Sg.spare S).length) (i : Nat) : goneK S (k + 1) i = (goneK S k i && !decide (i = (Sg.spare S)[k])) := by
  unfold goneK
  rw [List.take_succ_eq_append_getElem hk, Bool.eq_iff_iff]
  simp only [Bool.not_eq_true', decide_eq_false_iff_not, Bool.and_eq_true, List.mem_append, List.mem_singleton, not_or]
theorem goneK_self {S : Sg.Sta} {k : Nat} (hk : k < (Sg.spare S).length) : goneK S k (Sg.spare S)[k] = true := by
  unfold goneK
  have hn : (Sg.spare S).Nodup := (numbers_nodup S).filter _
  have : (Sg.spare S)[k] ∉ (Sg.spare S).take k := fun h => by
    obtain ⟨j, hj, e⟩ := List.getElem_of_mem h
    rw [List.length_take] at hj
    rw [List.getElem_take] at e
    have := (List.getElem_inj hn).1 e
    omega
  simp [this]
structure SwK (z w : World) (x : SgR) (S : Sg.Sta) (k : Nat) : Prop where
  mt : MapL Tryz.prog tIntS w x.mT (tEf S (goneK S k))
  mn : MapL Tryz.prog tStrS w x.mN (nEf S (goneK S k))
  upd : Upd (fun k => k = x.mT ∨ k = x.mN) z w
theorem SwK.start {B : Nat} {z : World} {x : SgR} {S : Sg.Sta} (h : SgAt B z x S) : SwK z z x S 0 := by
  have e : (Sg.numbers S).filter (goneK S 0) = Sg.numbers S := List.filter_eq_self.2 fun i _ => by simp [goneK]
  exact ⟨by unfold tEf; rw [e]; exact h.mt, by unfold nEf; rw [e]; exact h.mn, Upd.refl _ _⟩
theorem SwK.look {B : Nat} {z w : World} {x : SgR} {S : Sg.Sta} {k : Nat} (h0 : SgAt B z x S) (h : SwK z w x S k) (hk : k < (Sg.spare S).length) :
    (Instr.lookup 83 (.map (some x.mT)) (.int .i64 ((Sg.spare S)[k] : Nat)) false).run Tryz.prog w = .ok (.string ⟨(Sg.textN S (Sg.spare S)[k]).toArray⟩) w := by
  have hz : (zeroValue 9).run Tryz.prog w = .ok (bsV []) w := by kernel_rfl
  have hb := h0.big
  have ht := spare_mem (List.getElem_mem hk)
  have hlt := Sg.thereN_lt ht
  unfold Sg.big at hb
  rcases h.mt.look intKeyD Tryz.underlying83 hz (int_keyD (n := ((Sg.spare S)[k] : Nat)) (by unfold I64; omega)) with ⟨v, hm, hrun⟩ | ⟨hno, hrun⟩
  · obtain ⟨j, _, _, e⟩ := mem_tEf.1 hm
    have e1 := intN_inj (Prod.mk.inj e).1
    have e2 := (Prod.mk.inj e).2
    rw [hrun, e2, ← e1]
    rfl
  · exact absurd rfl (hno _ (mem_tEf.2 ⟨(Sg.spare S)[k], ht, goneK_self hk, rfl⟩))
theorem SwK.step {B : Nat} {z w : World} {x : SgR} {S : Sg.Sta} {k : Nat} (h0 : SgAt B z x S) (h : SwK z w x S k) (hk : k < (Sg.spare S).length) :
    ∃ w1 w2, (Builtin.delete_ #[84, tStrS] 0 #[.map (some x.mN), .string ⟨(Sg.textN S (Sg.spare S)[k]).toArray⟩]).run Tryz.prog w = .ok (.tuple #[]) w1 ∧
      (Builtin.delete_ #[83, tIntS] 0 #[.map (some x.mT), .int .i64 ((Sg.spare S)[k] : Nat)]).run Tryz.prog w1 = .ok (.tuple #[]) w2 ∧ Upd (fun k => k = x.mT ∨ k = x.mN) w w1 ∧ SwK z w2 x S (k + 1) := by
  have hT := h0.lt x.mT (Or.inr (Or.inl rfl))
  have hN := h0.lt x.mN (Or.inr (Or.inr (Or.inl rfl)))
  have hG := h0.gl
  obtain ⟨a1, a2, a3, a4, a5, a6, a7⟩ := h0.ap
  have hb := h0.big
  have ht := spare_mem (List.getElem_mem hk)
  have hlt := Sg.thereN_lt ht
  unfold Sg.big at hb
  obtain ⟨w1, l1, r1, m1, c1, u1⟩ := h.mn.del (ty := 0) strKeyedS Tryz.underlying84 (by omega) (str_keyS (s := Sg.textN S (Sg.spare S)[k]) (by have := text_len h0 (Sg.spare S)[k]; omega))
  obtain ⟨w2, l2, r2, m2, c2, u2⟩ := (h.mt.upd u1 a4).del (ty := 0) intKeyD Tryz.underlying83 (by omega) (int_keyD (n := ((Sg.spare S)[k] : Nat)) (by unfold I64; omega))
  refine ⟨w1, w2, r1, r2, u1.mono (fun k _ e => Or.inr e), ⟨m2.of_mem (tEf_nodup _ _) (fun p => ?_), (m1.upd u2 (fun e => a4 e.symm)).of_mem (nEf_nodup _ _) (fun p => ?_), (h.upd.trans (u1.mono (fun k _ e => Or.inr e))).trans (u2.mono (fun k _ e => Or.inl e))⟩⟩
  · rw [c2, mem_tEf, mem_tEf]
    constructor
    · rintro ⟨i, h1, h2, rfl⟩
      rw [goneK_succ hk, Bool.and_eq_true] at h2
      refine ⟨⟨i, h1, h2.1, rfl⟩, fun e => ?_⟩
      have := intN_inj e
      simp [this] at h2
    · rintro ⟨⟨i, h1, h2, rfl⟩, hne⟩
      refine ⟨i, h1, ?_, rfl⟩
      rw [goneK_succ hk, h2, decide_eq_false (fun e => hne (by rw [e]))]
      rfl
  · rw [c1, mem_nEf, mem_nEf]
    constructor
    · rintro ⟨i, h1, h2, rfl⟩
      rw [goneK_succ hk, Bool.and_eq_true] at h2
      refine ⟨⟨i, h1, h2.1, rfl⟩, fun e => ?_⟩
      have := h0.g.dist _ _ h1 ht (bsV_inj e)
      simp [this] at h2
    · rintro ⟨⟨i, h1, h2, rfl⟩, hne⟩
      refine ⟨i, h1, ?_, rfl⟩
      rw [goneK_succ hk, h2, decide_eq_false (fun e => hne (by rw [e]))]
      rfl
theorem SwK.done_ {B : Nat} {z w : World} {x : SgR} {S : Sg.Sta} (h0 : SgAt B z x S) (h : SwK z w x S (Sg.spare S).length) : SgAt B w x (Sg.after S .sweep) ∧ Upd x.foot z w := by
  obtain ⟨a1, a2, a3, a4, a5, a6, a7⟩ := h0.ap
  obtain ⟨C, h6, h7, h8⟩ := h0.mp
  have hl : (Sg.after S .sweep).th.length = S.th.length := by simp [Sg.after]
  have hb := h0.big
  have huf : Upd x.foot z w := h.upd.mono (fun k _ e => by
    rcases e with e | e
    · exact Or.inr (Or.inl e)
    · exact Or.inr (Or.inr (Or.inl e)))
  have htx : ∀ i, Sg.textN (Sg.after S .sweep) i = Sg.textN S i := fun i => rfl
  refine ⟨⟨h0.g.after (o := .sweep) trivial, ?_, h0.tl, ?_, ?_, ?_, ⟨C, h6, h7.upd h.upd (fun e => ?_), fun q hq => (h8 q hq).upd h.upd (fun k hk e => ?_)⟩, fun k hk => ⟨(h0.lt k hk).1, Nat.lt_of_lt_of_le (h0.lt k hk).2 h.upd.size⟩, h0.gl, h0.ap⟩, huf⟩
  · unfold Sg.big at hb ⊢
    rw [hl]; exact hb
  · rw [hl]
    exact h.upd.keep h0.blk (fun e => e.elim a1 a2)
  · have := h.mt
    unfold tEf at this
    unfold tE
    rw [numbers_sweep]
    exact this
  · have := h.mn
    unfold nEf at this
    unfold nE
    rw [numbers_sweep]
    exact this
  · rcases e with e | e
    · exact a5 e.symm
    · exact a6 e.symm
  · rcases e with e | e
    · exact (a7 k hk).2.1 e
    · exact (a7 k hk).2.2.1 e
set_option maxHeartbeats 4000000 in
set_option maxRecDepth 100000 in
theorem apply_sweep {B : Nat} {z : World} {x : SgR} {S : Sg.Sta} (h : SgAt B z x S) :
    Calls Tryz.prog 33 #[.pointer (some ⟨x.sb, 0, none⟩), .string ⟨(119 :: []).toArray⟩] z fun e z' => e = .returned (.tuple #[]) ∧ SgAt B z' x (Sg.after S .sweep) ∧ Upd x.foot z z' := by
  have htail := op_tail 119 []
  have hhead := op_head 119 []
  have hsome := op_some 119 []
  generalize (⟨(119 :: []).toArray⟩ : ByteArray) = op at *
  obtain ⟨c0, c1, c2, c3, c4⟩ := h.cells
  have H := Lib.hid h
  have HC := Lib.hid (spare_c h)
  have hsb : x.sb < z.heap.size := (h.lt x.sb (Or.inl rfl)).2
  clear h
  go_enter Tryz.func33, Tryz.ntmps33
  go_upto_region 12 with fail
  go_wp2_with fail
  (with_reducible refine (HC.out).mono ?_)
  rintro _ w1 ⟨v1, rfl, ho, u1⟩
  clear HC
  obtain ⟨a1, k1, rfl⟩ := own_slS ho
  have H1 := Lib.hid (H.out.nw u1)
  have HU1 := Lib.hid u1
  have HO := Lib.hid ho
  have hspl : (spI S).length = (Sg.spare S).length := by unfold spI; rw [List.length_map]
  have HK0 := Lib.hid (SwK.start H1.out)
  have HL := Lib.hid hspl
  have hsp1 : (spI S).length ≤ 1000 := by
    rw [hspl]
    have h1 := List.length_filter_le (fun i : Nat => !Sg.used S i) (Sg.numbers S)
    have h2 := numbers_len S
    have h3 := H.out.big
    unfold Sg.spare
    unfold Sg.big at h3
    omega
  clear hspl ho u1
  go_wp2_with fail
  go_loopw [68] (fun iv wr => ∃ k : Nat, k ≤ (spI S).length ∧ iv = .int .i64 (k : Int) ∧ Hid (SwK w1 wr x S k)) (fun iv _ => (spI S).length - (intOf iv).toNat)
  case atStart => exact ⟨0, Nat.zero_le _, rfl, HK0⟩
  case round =>
    obtain ⟨k, hk, rfl, hw⟩ := hrel
    by_cases hlt : k < (spI S).length
    · have hlt2 : k < (Sg.spare S).length := by rw [← HL.out]; exact hlt
      rcases HO.out.2 with ⟨e, hn⟩ | ⟨g, cap, cur, e, hbg, _⟩
      · omega
      cases e
      have hfoot := H1.out.lt
      have hown := owns_upd' HO.out hw.out.upd (fun k hk e => by
        have hkg : g = k := by simpa [Value.ownBlock] using hk
        rcases e with e | e
        · have := (H.out.lt x.mT (Or.inr (Or.inl rfl))).2; omega
        · have := (H.out.lt x.mN (Or.inr (Or.inr (Or.inl rfl)))).2; omega)
      have hcell := hown.cells (g := g) rfl k (.int .i64 ((Sg.spare S)[k] : Nat)) (by
        unfold spI
        rw [List.map_map, List.getElem?_map, List.getElem?_eq_getElem hlt2]
        rfl)
      rw [add_plain, Nat.zero_add] at hcell
      have hblk := hw.out.upd.keep H1.out.blk (fun e => by
        obtain ⟨b1, b2, _⟩ := H1.out.ap
        exact e.elim b1 b2)
      obtain ⟨wd, hwd, nd⟩ := nw_drew wr
      have hwk : SwK w1 wd x S k := ⟨hw.out.mt.nw nd, hw.out.mn.nw nd, hw.out.upd.nw nd⟩
      have hlook := hwk.look H1.out hlt2
      obtain ⟨w2, w3, hr2, hr3, hu2, hw3⟩ := hwk.step H1.out hlt2
      have hbd := nd.keep hblk
      have hb2 := hu2.keep hbd (fun e => by
        obtain ⟨b1, b2, _⟩ := H1.out.ap
        exact e.elim b1 b2)
      have HF := Lib.hid (show ∃ j : Nat, j ≤ (spI S).length ∧ ((k : Int) + 1 = (j : Int)) ∧ j = k + 1 ∧ Hid (SwK w1 w3 x S j) from ⟨k + 1, by omega, by omega, rfl, hw3⟩)
      have HS0 := Lib.hid (show wd.cell? ⟨x.sb, 2, none⟩ = some (.map (some x.mT)) ∧ wd.cell? ⟨x.sb, 3, none⟩ = some (.map (some x.mN)) ∧ True ∧ True ∧ True ∧ True from ⟨by rw [cells_cell hbd]; rfl, by rw [cells_cell hbd]; rfl, trivial, trivial, trivial, trivial⟩)
      have d2 : w2.cell? ⟨x.sb, 2, none⟩ = some (.map (some x.mT)) := by rw [cells_cell hb2]; rfl
      have HLk := Lib.hid hlook
      have HR2 := Lib.hid hr2
      have HR3 := Lib.hid hr3
      have hilt := Lib.hid hlt
      have hi1 : (k : Int) < 1000 := by omega
      generalize (Sg.spare S)[k] = m at *
      clear hw hown hfoot hblk nd hwk hlook hr2 hr3 hu2 hw3 hbd hb2 hlt2 c0 c1 c2 c3 c4
      go_upto_region 15 with fail
      refine wp_region_G (fun y => y.cell? ⟨x.sb, 2, none⟩ = some (.map (some x.mT)) ∧ y.cell? ⟨x.sb, 3, none⟩ = some (.map (some x.mN)) ∧ True ∧ True ∧ True ∧ True) 10 (by kernel_rfl) ?_
      rw [hwd]
      clear hwd
      refine wpAnyG_pure (i := 0) (v := ?_) rfl (by kernel_rfl) (by kernel_rfl) (by kernel_rfl) (by kernel_rfl) (by kernel_rfl) (fun _ _ _ h => h) (by rfl) ?_ (fun _ => HS0.out) ?_
      rotate_left 1
      · (intro zz; go_simp; first | done | with_reducible rfl)
      (try simp only [Act.put, List.setIfInBounds_toArray, List.set_cons_zero, List.set_cons_succ])
      refine wpAnyG_pure (i := 1) (v := ?_) rfl (by kernel_rfl) (by kernel_rfl) (by kernel_rfl) (by kernel_rfl) (by kernel_rfl) (fun _ _ _ h => h) (by rfl) ?_ (fun _ => HS0.out) ?_
      rotate_left 1
      · (intro zz; go_simp; first | done | with_reducible rfl)
      (try simp only [Act.put, List.setIfInBounds_toArray, List.set_cons_zero, List.set_cons_succ])
      refine wpAnyG_pure (i := 2) (v := ?_) rfl (by kernel_rfl) (by kernel_rfl) (by kernel_rfl) (by kernel_rfl) (by kernel_rfl) (fun _ _ _ h => h) (by rfl) ?_ (fun _ => HS0.out) ?_
      rotate_left 1
      · (intro zz; go_simp; first | done | with_reducible rfl)
      (try simp only [Act.put, List.setIfInBounds_toArray, List.set_cons_zero, List.set_cons_succ])
      refine wpAnyG_pure (i := 4) (v := ?_) rfl (by kernel_rfl) (by kernel_rfl) (by kernel_rfl) (by kernel_rfl) (by kernel_rfl) (fun _ _ _ h => h) (by rfl) ?_ (fun _ => HS0.out) ?_
      rotate_left 1
      · (intro zz; go_simp; first | done | with_reducible rfl)
      (try simp only [Act.put, List.setIfInBounds_toArray, List.set_cons_zero, List.set_cons_succ])
      refine wpAnyG_pure (i := 5) (v := ?_) rfl (by kernel_rfl) (by kernel_rfl) (by kernel_rfl) (by kernel_rfl) (by kernel_rfl) (fun _ _ _ h => h) (by rfl) ?_ (fun _ => HS0.out) ?_
      rotate_left 1
      · (intro zz; go_simp; first | done | with_reducible rfl)
      (try simp only [Act.put, List.setIfInBounds_toArray, List.set_cons_zero, List.set_cons_succ])
      refine wpAnyG_pure (i := 6) (v := ?_) rfl (by kernel_rfl) (by kernel_rfl) (by kernel_rfl) (by kernel_rfl) (by kernel_rfl) (fun _ _ _ h => h) (by rfl) ?_ (fun _ => HS0.out) ?_
      rotate_left 1
      · (intro zz; go_simp; first | done | with_reducible rfl)
      (try simp only [Act.put, List.setIfInBounds_toArray, List.set_cons_zero, List.set_cons_succ])
      refine wpAnyG_pure (i := 8) (v := ?_) rfl (by kernel_rfl) (by kernel_rfl) (by kernel_rfl) (by kernel_rfl) (by kernel_rfl) (fun _ _ _ h => h) (by rfl) ?_ (fun _ => HS0.out) ?_
      rotate_left 1
      · (intro zz; go_simp; first | done | with_reducible rfl)
      (try simp only [Act.put, List.setIfInBounds_toArray, List.set_cons_zero, List.set_cons_succ])
      refine wpAnyG_load (i := 3) (v := ?_) [] rfl (by kernel_rfl) (by kernel_rfl) (by kernel_rfl) (by kernel_rfl) (by kernel_rfl) (by kernel_rfl) (fun _ _ _ h => h) (by rfl) ?_ (fun _ => HS0.out) ?_
      rotate_left 1
      · (intro zz hS; obtain ⟨_, _, _, _, _, _, _⟩ := hS; go_simp; first | done | with_reducible rfl)
      (try simp only [Act.put, List.setIfInBounds_toArray, List.set_cons_zero, List.set_cons_succ])
      refine wpAnyG_load (i := 7) (v := ?_) [9] rfl (by kernel_rfl) (by kernel_rfl) (by kernel_rfl) (by kernel_rfl) (by kernel_rfl) (by kernel_rfl) (fun _ _ _ h => h) (by rfl) ?_ (fun _ => HS0.out) ?_
      rotate_left 1
      · (intro zz hS; obtain ⟨_, _, _, _, _, _, _⟩ := hS; go_simp; first | done | with_reducible rfl)
      (try simp only [Act.put, List.setIfInBounds_toArray, List.set_cons_zero, List.set_cons_succ])
      refine wpAnyG_ready [9] (by kernel_rfl) (by simp) ?_
      refine AllG.cons rfl (fun K hK => ?_) AllG.nil
      have hlk := HLk.out
      go_simp
      clear hlk
      refine hK.out _ _ (fun _ => HS0.out) ?_
      clear hK K
      (try simp only [Act.put, List.setIfInBounds_toArray, List.set_cons_zero, List.set_cons_succ])
      refine wpAnyG_ready [10] (by kernel_rfl) (by simp) ?_
      refine AllG.cons rfl (fun K hK => ?_) AllG.nil
      have hr2 := HR2.out
      go_simp
      clear hr2
      refine hK.out _ _ (fun e => absurd (show true = false from e) (by decide)) ?_
      clear hK K
      (try simp only [Act.put, List.setIfInBounds_toArray, List.set_cons_zero, List.set_cons_succ])
      refine wpAnyG_done (by kernel_rfl) ?_ _
      go_wp2_with (at_delete; refine wpList_dropL rfl rfl _ _ 83 tIntS rfl _ _ rfl rfl HR3.out ?_)
      obtain ⟨j, hj1, hj2, hj3, hj4⟩ := HF.out
      go_roundw
      case rel => exact ⟨j, hj1, by rw [← hj2], hj4⟩
      case measure =>
        have := hilt.out
        simp only [intOf]
        omega
    · have hE := Lib.hid (SwK.done_ H1.out (show SwK w1 wr x S (Sg.spare S).length by rw [← HL.out, show (spI S).length = k by omega]; exact hw.out))
      clear hk hw
      go_wp2_with fail
      go_end0
      exact ⟨rfl, hE.out.1, Upd.trans (Nw.upd _ HU1.out) hE.out.2⟩
end Go.Proofs.YtiednpagknnfnaaGreatDoor
namespace Go.Proofs.YtiednpagknnfnaaGreatDoor
open Go.RowKit
attribute [local irreducible] Calls
def Rdr (T : TypeId) (w : World) (b : Nat) (st : Wire.St) : Prop := nG ≤ b ∧ w.heap[b]? = some (.cells #[.string ⟨(st.getD []).toArray⟩, .bool st.isNone] T (0, 0))
abbrev tR : TypeId := 178
theorem Rdr.lt {T : TypeId} {w : World} {b : Nat} {st : Wire.St} (h : Rdr T w b st) : b < w.heap.size := lt_of_block h.2
theorem Rdr.c0 {T : TypeId} {w : World} {b : Nat} {st : Wire.St} (h : Rdr T w b st) : w.cell? ⟨b, 0, none⟩ = some (.string ⟨(st.getD []).toArray⟩) := by rw [cells_cell h.2]; rfl
theorem Rdr.c1 {T : TypeId} {w : World} {b : Nat} {st : Wire.St} (h : Rdr T w b st) : w.cell? ⟨b, 1, none⟩ = some (.bool st.isNone) := by rw [cells_cell h.2]; rfl
theorem Rdr.fz {T : TypeId} {w : World} {b : Nat} {st : Wire.St} (h : Rdr T w b st) (i : Nat) : w.frozen? ⟨b, i, none⟩ = false := cells_frozen h.2 i
theorem Rdr.upd {T : TypeId} {S : Nat → Prop} {w w' : World} {b : Nat} {st : Wire.St} (h : Rdr T w b st) (u : Upd S w w') (hn : ¬ S b) : Rdr T w' b st := ⟨h.1, u.keep h.2 hn⟩
theorem Rdr.nw {T : TypeId} {w w' : World} {b : Nat} {st : Wire.St} (h : Rdr T w b st) (u : Nw w w') : Rdr T w' b st := h.upd u id
theorem Rdr.set0 {T : TypeId} {w : World} {b : Nat} {st : Wire.St} (h : Rdr T w b st) (s : ByteArray) (r : List UInt8) (hs : st.isNone = false) (hr : s.data.toList = r) : Rdr T (w.setCell ⟨b, 0, none⟩ (.string s)) b (some r) := by
  refine ⟨h.1, ?_⟩
  rw [setCell_block h.2, hs, ← bs_eta s, hr]
  rfl
theorem Rdr.setr {T : TypeId} {w : World} {b : Nat} {st : Wire.St} (h : Rdr T w b st) (s : ByteArray) (st' : Wire.St) (hs : st'.isNone = st.isNone) (hr : s.data.toList = st'.getD []) : Rdr T (w.setCell ⟨b, 0, none⟩ (.string s)) b st' := by
  refine ⟨h.1, ?_⟩
  rw [setCell_block h.2, ← hs, ← bs_eta s, hr]
  rfl
theorem Rdr.set_fail {T : TypeId} {w : World} {b : Nat} {st : Wire.St} (h : Rdr T w b st) : Rdr T ((w.setCell ⟨b, 0, none⟩ (.string ⟨#[]⟩)).setCell ⟨b, 1, none⟩ (.bool true)) b none := by
  refine ⟨h.1, ?_⟩
  rw [setCell_block (setCell_block h.2 _ _)]
  rfl
theorem Rdr.set_same {T : TypeId} {w : World} {b : Nat} {st : Wire.St} (h : Rdr T w b st) : Rdr T (w.setCell ⟨b, 0, none⟩ (.string ⟨(st.getD []).toArray⟩)) b st := by
  refine ⟨h.1, ?_⟩
  rw [setCell_block h.2]
  rfl
set_option maxHeartbeats 400000 in
theorem fail_c (b : Nat) (st : Wire.St) (w : World) (h : Rdr tR w b st) :
    Calls Tryz.prog 133 #[.pointer (some ⟨b, 0, none⟩)] w fun e w' => e = .returned (.tuple #[]) ∧ Rdr tR w' b none ∧ Upd (· = b) w w' := by
  have c0 := h.c0
  have c1 := h.c1
  have f0 := h.fz 0
  have f1 := h.fz 1
  go_enter Tryz.func133, Tryz.ntmps133
  go_wp2
  go_end0
  exact ⟨rfl, h.set_fail, ((Upd.refl _ _).set1 h.1 _ _).set1 h.1 _ _⟩
theorem c58 : (58 : Int) = ((58 : UInt8).toNat : Int) := rfl
theorem c59 : (59 : Int) = ((59 : UInt8).toNat : Int) := rfl
theorem c44 : (44 : Int) = ((44 : UInt8).toNat : Int) := rfl
set_option maxHeartbeats 400000 in
theorem number_c (b : Nat) (st : Wire.St) (c : UInt8) (ci least : Int) (hci : ci = c.toNat) (w : World) (g : Gl w) (h : Rdr tR w b st) (hl : (st.getD []).length ≤ 9223372036854775807) :
    Calls Tryz.prog 132 #[.pointer (some ⟨b, 0, none⟩), .int .u8 ci, .int .i64 least] w fun e w' =>
      e = .returned (.int .i64 (Wire.rNumber st c least).1) ∧ Rdr tR w' b (Wire.rNumber st c least).2 ∧ Upd (· = b) w w' := by
  have c0 := h.c0
  have c1 := h.c1
  have f0 := h.fz 0
  have f1 := h.fz 1
  subst hci
  go_enter Tryz.func132, Tryz.ntmps132
  go_wp2
  go_quiet (fail)
  go_wp2_with fail
  obtain ⟨w1, e1, u1⟩ := nw_drewN w nq
  rw [e1]; clear e1
  replace h := h.nw u1
  replace g := g.upd u1
  obtain ⟨hd, ehd⟩ : ∃ hd : ByteArray, ({ data := (Option.getD st []).toArray } : ByteArray).extract 0 (min (↑(Option.getD st []).length) (21 : Int)).toNat = hd := ⟨_, rfl⟩
  have Hd : Hid (hd.data.toList = (st.getD []).take 21) := by rw [← ehd]; show _ = _; rw [bs_extract_list]; simp; omega
  have hds : hd.size = min 21 (st.getD []).length := by rw [bs_size, Hd.out, List.length_take]
  rw [ehd]; clear ehd
  (with_reducible refine (IndexByte_l hd c ((st.getD []).take 21) Hd.out _).mono ?_)
  rintro _ _ ⟨rfl, rfl⟩
  have i0 := Lib.indexByte_ge ((st.getD []).take 21) c
  have i1 := Wire.indexByte_lt ((st.getD []).take 21) c
  generalize hi : Lib.indexByte ((st.getD []).take 21) c = i at *
  have Hi := Lib.hid hi; clear hi
  rw [List.length_take, ← hds] at i1
  have i2 : i ≤ 20 := by omega
  have i3 : i < ((st.getD []).length : Int) := by omega
  have Hds := Lib.hid hds; clear hds
  go_wp2_with fail
  · (with_reducible refine (fail_c b st _ h).mono ?_)
    rintro _ w' ⟨rfl, h', u'⟩
    go_wp2_with fail
    go_ret
    rw [Wire.rNumber_neg (by rw [Hi.out]; assumption)]
    exact ⟨rfl, h', u1.trans u'⟩
  · have hs := Wire.isSome_of_index Hi.out (by assumption)
    have h0i : 0 ≤ i := by assumption
    obtain ⟨hp, ehp⟩ : ∃ hp : ByteArray, hd.extract 0 i.toNat = hp := ⟨_, rfl⟩
    have Hp : Hid (hp.data.toList = (st.getD []).take i.toNat) := by rw [← ehp]; show _ = _; rw [bs_extract_list, Hd.out]; have := Hds.out; simp [List.take_take]; omega
    rw [ehp]
    (with_reducible refine (Atoi_l hp ((st.getD []).take i.toNat) Hp.out _ g (by simp; omega)).mono ?_)
    rintro _ w2 ⟨n, v, rfl, hn, hv, u2⟩
    replace h := h.nw u2
    replace g := g.upd u2
    replace c0 := h.c0
    replace f0 := h.fz 0
    have h1 : i ≤ (hd.size : Int) := by omega
    rcases hv with ⟨rfl, hv⟩ | ⟨⟨tv, pv, rfl⟩, hv⟩
    · by_cases he : Lib.itoa n = (st.getD []).take i.toNat
      · have hb : (Lib.itoa n == hp.toList) = true := by rw [bs_toList, Hp.out, he]; simp
        have Hn := Lib.hid (Wire.rNumber_some (least := least) Hi.out h0i (Wire.numOf_eq hv he))
        have He := Lib.hid he; clear he
        have Hv := Lib.hid hv; clear hv
        by_cases hlt : n < least
        · have hdl : decide (n < least) = true := by simpa using hlt
          go_wp2_with fail
          refine wp_region_nw (by kernel_rfl) (by kernel_rfl) ?_
          repeat (go_big_quiet_step ((go_at_call 122; exact later_call (Itoa_c n _ (g.upd (Later.nw _)) hn))))
          refine wpQuiet_nil ?_
          intro w3 u3
          replace u3 := later_out u3
          replace h := h.nw u3
          go_wp2_with fail
          (with_reducible refine (fail_c b st _ h).mono ?_)
          rintro _ w' ⟨rfl, h', u'⟩
          go_wp2_with fail
          go_ret
          rw [Hn.out, if_pos hlt]
          exact ⟨rfl, h', Nw.trans u1 (Nw.trans u2 (Nw.trans u3 u'))⟩
        · have hdl : decide (n < least) = false := by simpa using hlt
          go_wp2_with fail
          refine wp_region_nw (by kernel_rfl) (by kernel_rfl) ?_
          repeat (go_big_quiet_step ((go_at_call 122; exact later_call (Itoa_c n _ (g.upd (Later.nw _)) hn))))
          refine wpQuiet_nil ?_
          intro w3 u3
          replace u3 := later_out u3
          replace h := h.nw u3
          replace c0 := h.c0
          replace f0 := h.fz 0
          go_wp2_with fail
          go_ret
          rw [Hn.out, if_neg (by omega)]
          exact ⟨rfl, h.set0 _ _ hs (by rw [bs_extract_list, bs_list, List.take_of_length_le (by simp <;> omega)]; congr 1 <;> omega), Nw.trans u1 (Nw.trans u2 (Nw.trans u3 ((Upd.refl _ _).set1 h.1 _ _)))⟩
      · have hb : (Lib.itoa n == hp.toList) = false := by rw [bs_toList, Hp.out]; simpa using he
        have Hn := Lib.hid (Wire.numOf_ne hv he)
        have Hv := Lib.hid hv; clear hv
        have He := Lib.hid he; clear he
        go_wp2_with fail
        refine wp_region_nw (by kernel_rfl) (by kernel_rfl) ?_
        repeat (go_big_quiet_step ((go_at_call 122; exact later_call (Itoa_c n _ (g.upd (Later.nw _)) hn))))
        refine wpQuiet_nil ?_
        intro w3 u3
        replace u3 := later_out u3
        replace h := h.nw u3
        go_wp2_with fail
        (with_reducible refine (fail_c b st _ h).mono ?_)
        rintro _ w' ⟨rfl, h', u'⟩
        go_wp2_with fail
        go_ret
        rw [Wire.rNumber_none Hi.out h0i Hn.out]
        exact ⟨rfl, h', Nw.trans u1 (Nw.trans u2 (Nw.trans u3 u'))⟩
    · go_wp2_with fail
      go_quiet (fail)
      obtain ⟨w3, e3, u3⟩ := nw_drewN w2 nq
      rw [e3]; clear e3
      replace h := h.nw u3
      go_wp2_with fail
      (with_reducible refine (fail_c b st _ h).mono ?_)
      rintro _ w' ⟨rfl, h', u'⟩
      go_wp2_with fail
      go_ret
      rw [Wire.rNumber_none Hi.out (by assumption) (Wire.numOf_none hv)]
      exact ⟨rfl, h', Nw.trans u1 (Nw.trans u2 (Nw.trans u3 u'))⟩
set_option maxHeartbeats 400000 in
theorem close_c (b : Nat) (st : Wire.St) (c : UInt8) (w : World) (h : Rdr tR w b st) :
    Calls Tryz.prog 134 #[.pointer (some ⟨b, 0, none⟩), .string ⟨#[c]⟩] w fun e w' =>
      e = .returned (.tuple #[]) ∧ Rdr tR w' b (Wire.rClose st c) ∧ Upd (· = b) w w' := by
  have c0 := h.c0
  have c1 := h.c1
  have f0 := h.fz 0
  have f1 := h.fz 1
  go_enter Tryz.func134, Tryz.ntmps134
  go_wp2_with fail
  (with_reducible refine (CutPrefix_c _ _ _).mono ?_)
  rintro _ _ ⟨rfl, rfl⟩
  cases hp : Lib.hasPrefix (st.getD []) [c] with
  | false =>
    have ht := Wire.trimPrefix_no hp
    go_wp2_with fail
    (with_reducible refine (fail_c b st _ h.set_same).mono ?_)
    rintro _ w' ⟨rfl, h', u'⟩
    go_wp2_with fail
    go_end0
    rw [Wire.rClose_no hp]
    exact ⟨rfl, h', ((Upd.refl _ _).set1 h.1 _ _).trans u'⟩
  | true =>
    have hr := Wire.rClose_yes hp
    go_wp2_with fail
    go_end0
    rw [hr.2]
    exact ⟨rfl, h.set0 _ _ hr.1 (bs_list _), (Upd.refl _ _).set1 h.1 _ _⟩
end Go.Proofs.YtiednpagknnfnaaGreatDoor
namespace Go.Proofs.YtiednpagknnfnaaGreatDoor
open Go.RowKit
attribute [local irreducible] Calls
theorem Num_r (b : Nat) (st : Wire.St) (w : World) (g : Gl w) (h : Rdr tR w b st) (hl : (st.getD []).length ≤ 9223372036854775807) :
    Calls Tryz.prog 95 #[.pointer (some ⟨b, 0, none⟩)] w fun e w' =>
      e = .returned (.int .i64 (Wire.rNum st).1) ∧ Rdr tR w' b (Wire.rNum st).2 ∧ Upd (· = b) w w' := by
  go_enter Tryz.func95, Tryz.ntmps95
  go_wp2_with fail
  (with_reducible refine (number_c b st 59 59 _ c59 _ g h hl).mono ?_)
  rintro _ w' ⟨rfl, h', u'⟩
  go_wp2_with fail
  go_ret
  exact ⟨rfl, h', u'⟩
set_option maxHeartbeats 400000 in
theorem Text_r (b : Nat) (st : Wire.St) (w : World) (g : Gl w) (h : Rdr tR w b st) (hl : (st.getD []).length ≤ 9223372036854775807) :
    Calls Tryz.prog 94 #[.pointer (some ⟨b, 0, none⟩)] w fun e w' =>
      e = .returned (.string ⟨(Wire.rText st).1.toArray⟩) ∧ Rdr tR w' b (Wire.rText st).2 ∧ Upd (· = b) w w' := by
  have hle := Wire.rNumber_le st 58 0
  have hn0 := Wire.rNumber_least st 58 0 (Int.le_refl 0)
  go_enter Tryz.func94, Tryz.ntmps94
  go_wp2_with fail
  (with_reducible refine (number_c b st 58 58 _ c58 _ g h hl).mono ?_)
  rintro _ w1 ⟨rfl, h1, u1⟩
  cases hq : Wire.rNumber st 58 0 with
  | mk n s1 =>
  rw [hq] at hle hn0 h1
  have Hq := Lib.hid hq; clear hq
  replace hle : (s1.getD []).length ≤ (st.getD []).length := hle
  replace hn0 : 0 ≤ n := hn0
  replace h1 : Rdr tR w1 b s1 := h1
  have c0 := h1.c0
  have c1 := h1.c1
  have f0 := h1.fz 0
  have f1 := h1.fz 1
  by_cases hfar : ((s1.getD []).length : Int) < n
  · go_wp2_with fail
    (with_reducible refine (fail_c b s1 _ h1).mono ?_)
    rintro _ w2 ⟨rfl, h2, u2⟩
    go_wp2_with fail
    go_ret
    have e : Wire.rText st = ([], none) := by
      cases s1 with
      | none => exact Wire.rText_none Hq.out
      | some r => exact Wire.rText_far Hq.out hfar
    rw [e]
    exact ⟨rfl, h2, u1.trans u2⟩
  · have hs1 : s1 = none → n = 0 := fun e => Wire.rNumber_zero (by rw [Hq.out, e])
    have h2 : ∀ s : ByteArray, s.data.toList = (s1.getD []).drop n.toNat → Rdr tR (w1.setCell ⟨b, 0, none⟩ (.string s)) b (s1.map fun r => r.drop n.toNat) := fun s hs => by
      refine h1.setr s _ (by cases s1 <;> rfl) ?_
      rw [hs]
      cases s1 <;> simp
    have Hs1 := Lib.hid hs1; clear hs1
    have H2 := Lib.hid h2; clear h2
    go_wp2_with fail
    (with_reducible refine (close_c b (s1.map fun r => r.drop n.toNat) 44 _ (H2.out _ (by rw [bs_extract_list, bs_list, List.take_of_length_le (by simp)]))).mono ?_)
    rintro _ w3 ⟨rfl, h3, u3⟩
    have d1 := h3.c1
    have hc : Wire.rText st = ((if (Wire.rClose (s1.map fun r => r.drop n.toNat) 44).isNone then [] else (s1.getD []).take n.toNat), Wire.rClose (s1.map fun r => r.drop n.toNat) 44) := by
      cases s1 with
      | none => exact Wire.rText_none Hq.out
      | some r =>
        cases hx : Wire.rClose (some (r.drop n.toNat)) 44 with
        | none => rw [Wire.rText_open Hq.out (by simpa using hfar) hx]; simp [hx]
        | some r' => rw [Wire.rText_ok Hq.out (by simpa using hfar) hx]; simp [hx]
    have Hc := Lib.hid hc; clear hc
    generalize Wire.rClose (s1.map fun r => r.drop n.toNat) 44 = s3 at *
    cases s3 with
    | none =>
      go_wp2_with fail
      go_ret
      rw [Hc.out]
      exact ⟨rfl, h3, u1.trans (((Upd.refl _ _).set1 h1.1 _ _).trans u3)⟩
    | some r3 =>
      go_wp2_with fail
      go_ret
      rw [Hc.out]
      refine ⟨?_, h3, u1.trans (((Upd.refl _ _).set1 h1.1 _ _).trans u3)⟩
      rw [show (Value.string (ByteArray.extract ⟨(s1.getD []).toArray⟩ 0 n.toNat)) = .string ⟨((s1.getD []).take n.toNat).toArray⟩ by rw [bs_extract]; simp]
      rfl
theorem Left_r (T : TypeId) (b : Nat) (st : Wire.St) (w : World) (h : Rdr tR w b st) :
    Calls Tryz.prog 98 #[.pointer (some ⟨b, 0, none⟩)] w fun e w' => e = .returned (.int .i64 ((st.getD []).length : Int)) ∧ w = w' := by
  have c0 := h.c0
  go_enter Tryz.func98, Tryz.ntmps98
  go_wp2
  go_ret
  exact ⟨rfl, rfl⟩
theorem Open_r (s : ByteArray) (l : List UInt8) (hs : s.data.toList = l) (w : World) (g : Gl w) :
    Calls Tryz.prog 93 #[.string s] w fun e w' => ∃ b, e = .returned (.pointer (some ⟨b, 0, none⟩)) ∧ w.heap.size ≤ b ∧ Rdr tR w' b (some l) ∧ Nw w w' := by
  go_enter Tryz.func93, Tryz.ntmps93
  go_wp2
  go_ret
  refine ⟨_, rfl, Nat.le_refl _, ⟨g.big, ?_⟩, (Upd.refl _ _).alloc _⟩
  rw [heap_new, ← bs_eta s, hs]
  rfl
end Go.Proofs.YtiednpagknnfnaaGreatDoor
namespace Go.Proofs.YtiednpagknnfnaaGreatDoor
namespace Fm
theorem textE_len (s : Str) (h : s.length ≤ 1000000) : (Wire.textE s).length ≤ s.length + 22 := by
  unfold Wire.textE
  have := Wire.itoa_le20 (v := s.length) (by omega) (by omega)
  simp only [List.length_append, List.length_cons, List.length_nil]
  omega
theorem flat_len {α : Type} {f : α → Str} {B : Nat} : ∀ {l : List α}, (∀ x ∈ l, (f x).length ≤ B) → (l.map f).flatten.length ≤ l.length * B := by
  intro l
  induction l with
  | nil => intro _; simp
  | cons a l ih =>
    intro h
    have h1 := h a (List.mem_cons_self ..)
    have h2 := ih (fun x hx => h x (List.mem_cons_of_mem _ hx))
    rw [List.map_cons, List.flatten_cons, List.length_append, List.length_cons, Nat.add_mul, Nat.one_mul]
    omega
theorem num_len {n : Int} (h : Wire.Int64 n) : (Wire.numE n).length ≤ 21 := by
  unfold Wire.numE Wire.intE
  have := Wire.itoa_le20 h.1 h.2
  split
  · simp
  · simp; omega
end Fm
end Go.Proofs.YtiednpagknnfnaaGreatDoor
namespace Go.Proofs.YtiednpagknnfnaaGreatDoor
open Go.RowKit
open Sg (itsE itE pfE)
open Wire (textE numE rText rNum)
attribute [local irreducible] Calls CallsIn
abbrev tPf : TypeId := 47
theorem rd_text {b : Nat} {s r : List UInt8} {w : World} (g : Gl w) (h : Rdr tR w b (some (textE s ++ r))) (hs : s.length ≤ 1000000) (hl : (textE s ++ r).length ≤ 1000000000) :
    Calls Tryz.prog 94 #[.pointer (some ⟨b, 0, none⟩)] w fun e w' => e = .returned (.string ⟨s.toArray⟩) ∧ Rdr tR w' b (some r) ∧ Upd (· = b) w w' := by
  have := Text_r b _ w g h (by simp only [Option.getD_some]; omega)
  rwa [Wire.rText_back (s := s) (r := r) (by omega)] at this
theorem rd_num {b : Nat} {n : Int} {r : List UInt8} {w : World} (g : Gl w) (h : Rdr tR w b (some (numE n ++ r))) (hn : I64 n) (h0 : 0 ≤ n) (hl : (numE n ++ r).length ≤ 1000000000) :
    Calls Tryz.prog 95 #[.pointer (some ⟨b, 0, none⟩)] w fun e w' => e = .returned (.int .i64 n) ∧ Rdr tR w' b (some r) ∧ Upd (· = b) w w' := by
  have := Num_r b _ w g h (by simp only [Option.getD_some]; omega)
  rwa [Wire.rNum_back (n := n) (r := r) hn h0] at this
structure ItOk (x : Sg.It) : Prop where
  nm : x.nm.length ≤ 100
  a : 0 ≤ x.a ∧ x.a ≤ 1048576
  b : 0 ≤ x.b ∧ x.b ≤ 1048576
  c : 0 ≤ x.c ∧ x.c ≤ 1048576
  pr : 0 ≤ x.pr ∧ x.pr ≤ 9223372036854775807
theorem itE_len {x : Sg.It} (h : ItOk x) : (itE x).length ≤ 300 := by
  have h1 := Fm.textE_len x.nm (by have := h.nm; omega)
  have h2 := Fm.num_len (n := x.a) (by have := h.a; constructor <;> omega)
  have h3 := Fm.num_len (n := x.b) (by have := h.b; constructor <;> omega)
  have h4 := Fm.num_len (n := x.c) (by have := h.c; constructor <;> omega)
  have h5 := Fm.num_len (n := x.pr) (by have := h.pr; constructor <;> omega)
  have := h.nm
  unfold itE
  simp only [List.length_append]
  omega
theorem itsE_len {l : List Sg.It} (h : ∀ x ∈ l, ItOk x) : (itsE l).length ≤ l.length * 300 := Fm.flat_len fun x hx => itE_len (h x hx)
theorem itsE_cons (x : Sg.It) (l : List Sg.It) : itsE (x :: l) = textE x.nm ++ (numE x.a ++ (numE x.b ++ (numE x.c ++ (numE x.pr ++ itsE l)))) := by
  show itE x ++ itsE l = _
  unfold itE
  simp only [List.append_assoc]
structure DcI (z : World) (b q : Nat) (p : Sg.Pf) (k : Nat) (wr : World) : Prop where
  rdr : Rdr tR wr b (some (itsE (p.its.drop k)))
  box : ∃ v, wr.heap[q]? = some (.cells #[.string ⟨p.nm.toArray⟩, v] tPf (0, 0)) ∧ wr.ownsRow (q + 1) tPl 5 v k (itL (p.its.take k))
  res : wr.heap[z.heap.size]? = some (.cells #[.string ⟨#[]⟩, .slice none 0 0] tPf (0, 0))
  upd : Nw z wr
  ord : z.heap.size < b ∧ b < q ∧ q < wr.heap.size
theorem pf1_results (tmps : Array Value) (w : World) {r : Nat} {s : ByteArray} {nv : Value} {T : TypeId} (hr : tmps.getD 2 undef = .pointer (some ⟨r, 0, none⟩)) (hb : w.heap[r]? = some (.cells #[.string s, nv] T (0, 0))) :
    (results Tryz.f61 tmps).run Tryz.prog w = .ok (.agg #[.string s, nv]) w := by
  have c0 : w.cell? ⟨r, 0, none⟩ = some (.string s) := by rw [cells_cell hb]; rfl
  have c1 : w.cell? ⟨r, 1, none⟩ = some nv := by rw [cells_cell hb]; rfl
  rw [Array.getD_eq_getD_getElem?] at hr
  simp [results, Tryz.results61, go_sem, hr, c0, c1]
set_option maxHeartbeats 4000000 in
set_option maxRecDepth 100000 in
theorem decode_c {p : Sg.Pf} {z : World} (g : Gl z) (hn : p.nm.length ≤ 100) (hl : p.its.length ≤ 60) (hx : ∀ x ∈ p.its, ItOk x) :
    Calls Tryz.prog 61 #[.string ⟨(pfE p).toArray⟩] z fun e z' => ∃ v, e = .returned (.agg #[.string ⟨p.nm.toArray⟩, v]) ∧ ItsAt z.heap.size (fun k => z.heap.size ≤ k) z' v p.its ∧ Nw z z' := by
  have hgb := g.big
  have hE := itsE_len hx
  have hE2 : (itsE p.its).length ≤ 18000 := by omega
  have hT := Fm.textE_len p.nm (by omega)
  have hN := Fm.num_len (n := (p.its.length : Int)) (by constructor <;> omega)
  have hP : (pfE p).length ≤ 20000 := by unfold pfE; simp only [List.length_append]; omega
  have hN2 : (numE (p.its.length : Int) ++ itsE p.its).length ≤ 20000 := by simp only [List.length_append]; omega
  have n1 := nw_alloc z (.cells #[.string ⟨#[]⟩, .slice none 0 0] tPf)
  have b1 := heap_new z (.cells #[.string ⟨#[]⟩, .slice none 0 0] tPf)
  have HO := Lib.hid (Open_r ⟨(pfE p).toArray⟩ (pfE p) (bs_list _) _ (g.upd n1))
  have HG := Lib.hid g
  have HB1 := Lib.hid b1
  have HX := Lib.hid hx
  have HS := Lib.hid (And.intro hP (And.intro hN2 hE2))
  have HL := Lib.hid (And.intro hn hl)
  clear g hx hE hE2 hT hN hP hN2 hn hl b1
  generalize (⟨(pfE p).toArray⟩ : ByteArray) = op at *
  go_enter Tryz.func61, Tryz.ntmps61
  go_wp2_with fail
  (with_reducible refine (HO.out).mono ?_)
  rintro _ w1 ⟨b, rfl, hb, hr1, u1⟩
  clear HO
  rw [World.size_alloc] at hb
  have HR1 := Lib.hid hr1
  have HN1 := Lib.hid (n1.trans u1)
  have HB2 := Lib.hid (u1.keep HB1.out)
  have HT := Lib.hid (rd_text (HG.out.upd HN1.out) (s := p.nm) (r := numE (p.its.length : Int) ++ itsE p.its) hr1 (by have := HL.out.1; omega) (by have := HS.out.1; unfold pfE at this; omega))
  clear n1 u1 hr1 HB1
  go_wp2_with fail
  (with_reducible refine (HT.out).mono ?_)
  rintro _ w2 ⟨rfl, hr2, u2⟩
  clear HT
  have n3 := nw_alloc w2 (.cells #[.string ⟨p.nm.toArray⟩, .slice none 0 0] tPf)
  have b3 := heap_new w2 (.cells #[.string ⟨p.nm.toArray⟩, .slice none 0 0] tPf)
  have hbl := hr2.lt
  have N2 : Nw z w2 := HN1.out.trans' u2 (fun k hk e => by omega)
  have hb2 := u2.keep HB2.out (show ¬ z.heap.size = b by omega)
  have HNm := Lib.hid (rd_num (HG.out.upd (N2.trans n3)) (n := (p.its.length : Int)) (r := itsE p.its) (hr2.nw n3) (by have := HL.out.2; unfold I64; omega) (by omega) (by have := HS.out.2.1; omega))
  have HR2 := Lib.hid hr2
  have HN3 := Lib.hid (N2.trans n3)
  have HB3 := Lib.hid b3
  have HB4 := Lib.hid (n3.keep hb2)
  have hgs : z.heap.size < b ∧ b < w2.heap.size := ⟨by omega, hbl⟩
  generalize hq : w2.heap.size = q at *
  clear n3 b3 N2 hb2 hr2 u2 HB2 HN1 HR1
  go_wp2_with fail
  (with_reducible refine (HNm.out).mono ?_)
  rintro _ w3 ⟨rfl, hr3, u3⟩
  clear HNm
  have hs3 := u3.size
  rw [World.size_alloc, hq] at hs3
  have HD0 := Lib.hid (show DcI z b q p 0 w3 from ⟨hr3, ⟨_, u3.keep HB3.out (by omega), World.ownsRow_nil _ _ _ _⟩, u3.keep HB4.out (by omega), HN3.out.trans' u3 (fun k hk e => by omega), hgs.1, hgs.2, by omega⟩)
  clear hr3 u3 HN3 HB3 HB4 HR2 hs3
  go_wp2_with fail
  go_loopw [5] (fun iv wr => ∃ k : Nat, k ≤ p.its.length ∧ iv = .int .i64 ((p.its.length - k : Nat) : Int) ∧ Hid (DcI z b q p k wr)) (fun iv _ => (intOf iv).toNat)
  case atStart => exact ⟨0, Nat.zero_le _, rfl, HD0⟩
  case round =>
    obtain ⟨k, hk, rfl, hd⟩ := hrel
    obtain ⟨o1, o2, o3⟩ := hd.out.ord
    by_cases hlt : k < p.its.length
    · have hdr : p.its.drop k = p.its[k] :: p.its.drop (k + 1) := List.drop_eq_getElem_cons hlt
      have hrd := hd.out.rdr
      rw [hdr, itsE_cons] at hrd
      have hok := HX.out _ (List.getElem_mem hlt)
      obtain ⟨bv, hbox, hown⟩ := hd.out.box
      have hlen : (textE p.its[k].nm ++ (numE p.its[k].a ++ (numE p.its[k].b ++ (numE p.its[k].c ++ (numE p.its[k].pr ++ itsE (p.its.drop (k + 1))))))).length ≤ 20000 := by
        rw [← itsE_cons, ← hdr]
        have h1 := itsE_len (fun x hx => HX.out x (List.mem_of_mem_drop hx)) (l := p.its.drop k)
        have h2 := HL.out.2
        rw [List.length_drop] at h1
        have : (p.its.length - k) * 300 ≤ 60 * 300 := Nat.mul_le_mul_right _ (by omega)
        omega
      have htk : itL (p.its.take (k + 1)) = itL (p.its.take k) ++ itC p.its[k] := by
        unfold itL
        rw [List.take_succ_eq_append_getElem hlt, List.map_append, List.flatten_append]
        simp
      have hpos : 0 < (textE p.its[k].nm ++ (numE p.its[k].a ++ (numE p.its[k].b ++ (numE p.its[k].c ++ (numE p.its[k].pr ++ itsE (p.its.drop (k + 1))))))).length := by
        unfold textE
        simp only [List.length_append, List.length_cons]
        omega
      generalize p.its[k] = it at *
      generalize hrest : itsE (p.its.drop (k + 1)) = rest at *
      have HRest := Lib.hid hrest
      obtain ⟨inm, ia, ib, ic, ipr⟩ := it
      dsimp only at *
      obtain ⟨lm, hlm, hLf⟩ : ∃ lm : Int, 0 < lm ∧ Calls Tryz.prog 98 #[.pointer (some ⟨b, 0, none⟩)] wr fun e w' => e = .returned (.int .i64 lm) ∧ wr = w' := ⟨_, by simp only [Option.getD_some]; omega, Left_r tR b _ _ hrd⟩
      have HLf := Lib.hid hLf
      have hg0 := HG.out.upd hd.out.upd
      have HT := Lib.hid (rd_text hg0 hrd (by have := hok.nm; dsimp only at this; omega) (by omega))
      have HOk := Lib.hid hok
      have HHd := Lib.hid hd.out
      have HBox := Lib.hid hbox
      have HOwn := Lib.hid hown
      have HTk := Lib.hid htk
      have HLen := Lib.hid hlen
      have HDr := Lib.hid hdr
      have HPos := Lib.hid hpos
      have hk1 : (0 : Int) < ((p.its.length - k : Nat) : Int) := by omega
      have hk2 : ((p.its.length - k : Nat) : Int) < 1000 := by have := HL.out.2; omega
      clear hd hrd hok hbox hown htk hlen hdr hg0 hpos HD0 hLf hrest
      go_upto_region 6 with (first | (go_at_call 98; with_reducible refine HLf.out.mono ?_; rintro _ _ ⟨rfl, rfl⟩))
      clear HLf
      go_wp2_with fail
      (with_reducible refine (HT.out).mono ?_)
      rintro _ w4 ⟨rfl, hr4, u4⟩
      clear HT
      have n5 := nw_alloc w4 (.cells #[.string ⟨inm.toArray⟩, .int .i64 0, .int .i64 0, .int .i64 0, .int .i64 0] tPl)
      have b5 := heap_new w4 (.cells #[.string ⟨inm.toArray⟩, .int .i64 0, .int .i64 0, .int .i64 0, .int .i64 0] tPl)
      have U4 := Lib.hid u4
      have hs4 := u4.size
      have hr5 := hr4.nw n5
      have HSv := Lib.hid (show DcI z b q p k wr → True from fun _ => trivial)
      obtain ⟨w5, hw5⟩ : ∃ y, y = w4.alloc (.cells #[.string ⟨inm.toArray⟩, .int .i64 0, .int .i64 0, .int .i64 0, .int .i64 0] tPl) := ⟨_, rfl⟩
      have hs5 : w5.heap.size = w4.heap.size + 1 := by rw [hw5, World.size_alloc]
      rw [← hw5] at n5 b5 hr5
      have HNa := Lib.hid (rd_num (HG.out.upd ((HHd.out.upd.trans' u4 (S := fun _ => False) (fun k hk e => by omega)).trans n5)) hr5 (by have := HOk.out.a; dsimp only at this; unfold I64; omega) HOk.out.a.1 (by have := HLen.out; simp only [List.length_append] at this ⊢; omega))
      have HW5 := Lib.hid hw5
      have HB5 := Lib.hid b5
      have HN5 := Lib.hid n5
      clear u4 hr4 n5 b5 hr5 hw5
      go_upto_region 7 with fail
      rw [← HW5.out]
      go_wp2_with fail
      (with_reducible refine (HNa.out).mono ?_)
      rintro _ w6 ⟨rfl, hr6, u6'⟩
      clear HNa
      have g5 : Gl w5 := by rw [HW5.out]; exact HG.out.upd ((HHd.out.upd.trans' U4.out (S := fun _ => False) (fun k hk e => by omega)).trans (nw_alloc _ _))
      have hs6 := u6'.size
      have HNb := Lib.hid (rd_num (g5.upd u6') hr6 (by have := HOk.out.b; dsimp only at this; unfold I64; omega) HOk.out.b.1 (by have := HLen.out; simp only [List.length_append] at this ⊢; omega))
      have HU6 := Lib.hid u6'
      have HG5 := Lib.hid g5
      clear hr6 u6' g5
      go_wp2_with fail
      (with_reducible refine (HNb.out).mono ?_)
      rintro _ w7 ⟨rfl, hr7, u7'⟩
      clear HNb
      have U7 := HU6.out.trans u7'
      have hs7 := u7'.size
      have HNc := Lib.hid (rd_num (HG5.out.upd U7) hr7 (by have := HOk.out.c; dsimp only at this; unfold I64; omega) HOk.out.c.1 (by have := HLen.out; simp only [List.length_append] at this ⊢; omega))
      have HU7 := Lib.hid U7
      clear hr7 u7' U7 HU6
      go_wp2_with fail
      (with_reducible refine (HNc.out).mono ?_)
      rintro _ w8 ⟨rfl, hr8, u8'⟩
      clear HNc
      have U8 := HU7.out.trans u8'
      have hs8 := u8'.size
      have hb8 := U8.keep HB5.out (by omega)
      have e0 := cells_frozen hb8 1
      have e1 := cells_frozen hb8 2
      have e2 := cells_frozen hb8 3
      have x0 : w8.cell? ⟨w4.heap.size, 0, none⟩ = some (.string ⟨inm.toArray⟩) := by rw [cells_cell hb8]; rfl
      have x1 : w8.cell? ⟨w4.heap.size, 1, none⟩ = some (.int .i64 0) := by rw [cells_cell hb8]; rfl
      have x2 : w8.cell? ⟨w4.heap.size, 2, none⟩ = some (.int .i64 0) := by rw [cells_cell hb8]; rfl
      have x3 : w8.cell? ⟨w4.heap.size, 3, none⟩ = some (.int .i64 0) := by rw [cells_cell hb8]; rfl
      have HB8 := Lib.hid hb8
      have HU8 := Lib.hid U8
      have HR8 := Lib.hid hr8
      clear hb8 U8 hr8 u8' HU7
      go_upto_region 8 with fail
      have hbx : nG ≤ w4.heap.size := by omega
      have hb9 := setCell_block (setCell_block (setCell_block HB8.out 1 (.int .i64 ia)) 2 (.int .i64 ib)) 3 (.int .i64 ic)
      have u9 := Upd.set1 (Upd.set1 (Upd.set1 (Upd.refl _ w8) hbx 1 (.int .i64 ia)) hbx 2 (.int .i64 ib)) hbx 3 (.int .i64 ic)
      obtain ⟨w9, hw9⟩ : ∃ y, y = ((w8.setCell ⟨w4.heap.size, 1, none⟩ (.int .i64 ia)).setCell ⟨w4.heap.size, 2, none⟩ (.int .i64 ib)).setCell ⟨w4.heap.size, 3, none⟩ (.int .i64 ic) := ⟨_, rfl⟩
      rw [← hw9] at hb9 u9 ⊢
      have hs9 := u9.size
      have U9 : Upd (fun k => k = b ∨ k = w4.heap.size) w5 w9 := (HU8.out.mono (fun k _ e => Or.inl e)).trans (u9.mono (fun k _ e => Or.inr e))
      have U0 : Upd (fun k => k = b) wr w5 := U4.out.nw HN5.out
      have U09 : Upd (fun k => k = b) wr w9 := U0.trans' U9 (fun k hk e => e.elim id (fun e => by omega))
      have HNd := Lib.hid (rd_num (HG.out.upd (HHd.out.upd.trans' U09 (S := fun _ => False) (fun k hk e => by omega))) (HR8.out.upd u9 (by omega)) (by have := HOk.out.pr; dsimp only at this; unfold I64; omega) HOk.out.pr.1 (by have := HLen.out; simp only [List.length_append] at this ⊢; omega))
      have HB9 := Lib.hid hb9
      have HU09 := Lib.hid U09
      clear hb9 u9 hw9 U9 U0 U09 HU8 HB8 HR8 x0 x1 x2 x3 e0 e1 e2
      go_wp2_with fail
      (with_reducible refine (HNd.out).mono ?_)
      rintro _ w10 ⟨rfl, hr10, u10⟩
      clear HNd
      have hs10 := u10.size
      have hb10 := u10.keep HB9.out (by omega)
      have f4 := cells_frozen hb10 4
      have x4 : w10.cell? ⟨w4.heap.size, 4, none⟩ = some (.int .i64 0) := by rw [cells_cell hb10]; rfl
      have hb11 := setCell_block hb10 4 (.int .i64 ipr)
      have u11 := Upd.set1 (Upd.refl _ w10) hbx 4 (.int .i64 ipr)
      have U11 : Upd (fun k => k = b) wr (w10.setCell ⟨w4.heap.size, 4, none⟩ (.int .i64 ipr)) := (HU09.out.trans u10).trans' u11 (fun k hk e => by omega)
      have hr11 := hr10.upd u11 (by omega)
      have HX4 := Lib.hid hb11
      have HU11 := Lib.hid U11
      have HR11 := Lib.hid hr11
      have hs11 := u11.size
      clear hr10 u10 hb10 hb11 u11 U11 hr11 HB9 HU09
      go_upto_region 9 with fail
      clear x4 f4
      obtain ⟨w11, hw11⟩ : ∃ y, y = w10.setCell ⟨w4.heap.size, 4, none⟩ (.int .i64 ipr) := ⟨_, rfl⟩
      rw [← hw11] at HX4 HU11 HR11 hs11 ⊢
      clear hw11
      have y0 : w11.cell? ⟨w4.heap.size, 0, none⟩ = some (.string ⟨inm.toArray⟩) := by rw [cells_cell HX4.out]; rfl
      have y1 : w11.cell? ⟨w4.heap.size, 1, none⟩ = some (.int .i64 ia) := by rw [cells_cell HX4.out]; rfl
      have y2 : w11.cell? ⟨w4.heap.size, 2, none⟩ = some (.int .i64 ib) := by rw [cells_cell HX4.out]; rfl
      have y3 : w11.cell? ⟨w4.heap.size, 3, none⟩ = some (.int .i64 ic) := by rw [cells_cell HX4.out]; rfl
      have y4 : w11.cell? ⟨w4.heap.size, 4, none⟩ = some (.int .i64 ipr) := by rw [cells_cell HX4.out]; rfl
      have hbq := HU11.out.keep HBox.out (by omega)
      have hown := owns_upd' HOwn.out HU11.out (fun k hk e => by have := (HOwn.out.lt k hk).1; omega)
      obtain ⟨ba, bc, rfl⟩ := own_slS hown
      have yq : w11.cell? ⟨q, 1, none⟩ = some (.slice ba k bc) := by rw [cells_cell hbq]; rfl
      have HOw := Lib.hid hown
      have HBq := Lib.hid hbq
      clear hown hbq
      go_wp2_with (at_builtin; refine wpList_appL rfl _ _ 45 rfl (q + 1) tPl _ 5 48 Tryz.underlying45 infoPl rfl (by decide) (.slice ba k bc) k _ rfl HOw.out [.string ⟨inm.toArray⟩, .int .i64 ia, .int .i64 ib, .int .i64 ic, .int .i64 ipr] rfl rfl ?c1 ?c2 ?c3 ?c4 ?c5 ?_)
      case c1 => intro u hu; simp only [List.mem_cons, List.not_mem_nil, or_false] at hu; rcases hu with rfl | rfl | rfl | rfl | rfl <;> rfl
      case c2 => have := HL.out.2; unfold maxLen; omega
      case c3 => have := HL.out.2; omega
      case c4 => omega
      case c5 => omega
      intro v12 w12 hown12 u12 hob
      have hs12 := u12.size
      have hb12 := u12.keep HBq.out (fun e => by have := (HOw.out.lt q e).1; omega)
      have fq := cells_frozen hb12 1
      have yq2 : w12.cell? ⟨q, 1, none⟩ = some (.slice ba k bc) := by rw [cells_cell hb12]; rfl
      have hb13 := setCell_block hb12 1 v12
      have u13 := Upd.set1 (Upd.refl _ w12) (b := q) (by omega) 1 v12
      have hr13 := (HR11.out.upd u12 (fun e => by have := (HOw.out.lt b e).1; omega)).upd u13 (by omega)
      have hown13 := owns_upd' hown12 u13 (fun j hj e => by have := (hown12.lt j hj).1; omega)
      have hU13 : Upd (fun j => z.heap.size < j) wr (w12.setCell ⟨q, 1, none⟩ v12) := ((HU11.out.mono (fun j _ e => by omega)).trans (u12.mono (fun j hj e => by have := (HOw.out.lt j e).1; omega))).trans (u13.mono (fun j _ e => by omega))
      obtain ⟨va, vc, rfl⟩ := own_slS hown12
      have hfin := Lib.hid (show DcI z b q p (k + 1) (w12.setCell ⟨q, 1, none⟩ (.slice va (k + 1) vc)) from ⟨by rw [HRest.out]; exact hr13, ⟨_, hb13, by rw [HTk.out]; exact hown13⟩, hU13.keep HHd.out.res (by omega), HHd.out.upd.trans' hU13 (fun j hj e => by omega), o1, o2, by have := u13.size; omega⟩)
      have hkk : ((p.its.length - k : Nat) : Int) - 1 = ((p.its.length - (k + 1) : Nat) : Int) := by omega
      have HKK := Lib.hid hkk
      clear hb12 hb13 u13 hr13 hown13 hU13 hown12 u12 hob HBq HOw yq y0 y1 y2 y3 y4 HX4 hkk
      go_wp2_with fail
      go_roundw
      case rel => exact ⟨k + 1, hlt, by rw [HKK.out], hfin⟩
      case measure =>
        simp only [intOf]
        omega
    · have hz0 : p.its.length - k = 0 := by omega
      rw [hz0]
      obtain ⟨bv, hbox, hown⟩ := hd.out.box
      obtain rfl : k = p.its.length := by omega
      rw [List.take_length] at hown
      obtain ⟨ba, bc, rfl⟩ := own_slS hown
      have q0 : wr.cell? ⟨q, 0, none⟩ = some (.string ⟨p.nm.toArray⟩) := by rw [cells_cell hbox]; rfl
      have q1 : wr.cell? ⟨q, 1, none⟩ = some (.slice ba p.its.length bc) := by rw [cells_cell hbox]; rfl
      have r0 : wr.cell? ⟨z.heap.size, 0, none⟩ = some (.string ⟨#[]⟩) := by rw [cells_cell hd.out.res]; rfl
      have r1 : wr.cell? ⟨z.heap.size, 1, none⟩ = some (.slice none 0 0) := by rw [cells_cell hd.out.res]; rfl
      have f0 := cells_frozen hd.out.res 0
      have f1 := cells_frozen hd.out.res 1
      have hz1 := setCell_block (setCell_block hd.out.res 0 (.string ⟨p.nm.toArray⟩)) 1 (.slice ba p.its.length bc)
      have hu9 := Upd.set1 (Upd.set1 (Upd.refl _ wr) hgb 0 (.string ⟨p.nm.toArray⟩)) hgb 1 (.slice ba p.its.length bc)
      have HZ1 := Lib.hid hz1
      have HU9 := Lib.hid hu9
      have HDu := Lib.hid hd.out.upd
      have HOw := Lib.hid hown
      clear hd hbox hown hz1 hu9 HD0 hk hlt hz0
      go_wp2_with fail
      refine bodyPost_ret (pf1_results _ _ (by simp) HZ1.out) rfl ⟨_, rfl, ?_, HDu.out.trans' HU9.out (fun k hk e => by omega)⟩
      have h9 := owns_upd' HOw.out HU9.out (fun k hk e => by have := (HOw.out.lt k hk).1; omega)
      exact ⟨ownsRow_base_a h9 (by omega), fun k hk => by have := (HOw.out.lt k hk).1; omega⟩
end Go.Proofs.YtiednpagknnfnaaGreatDoor
namespace Go.Proofs.YtiednpagknnfnaaGreatDoor
open Go.RowKit Go.MapKept
open Sg (pfE)
attribute [local irreducible] Calls CallsIn
def insC (C : List (Sg.Pf × Value)) (q : Sg.Pf × Value) : List (Sg.Pf × Value) := C.takeWhile (fun r => Fm.lt r.1.nm q.1.nm) ++ q :: C.dropWhile (fun r => Fm.lt r.1.nm q.1.nm)
theorem insC_map (C : List (Sg.Pf × Value)) (q : Sg.Pf × Value) : (insC C q).map (·.1) = Sg.ins (C.map (·.1)) q.1 := by
  unfold insC Sg.ins
  rw [List.map_append, List.map_cons, List.takeWhile_map, List.dropWhile_map]
  rfl
theorem mem_insC {C : List (Sg.Pf × Value)} {q r : Sg.Pf × Value} : r ∈ insC C q ↔ r = q ∨ r ∈ C := by
  unfold insC
  rw [List.mem_append, List.mem_cons]
  have e : C = C.takeWhile (fun r => Fm.lt r.1.nm q.1.nm) ++ C.dropWhile (fun r => Fm.lt r.1.nm q.1.nm) := List.takeWhile_append_dropWhile.symm
  constructor
  · rintro (h | h | h)
    · exact Or.inr (by rw [e]; exact List.mem_append_left _ h)
    · exact Or.inl h
    · exact Or.inr (by rw [e]; exact List.mem_append_right _ h)
  · rintro (h | h)
    · exact Or.inr (Or.inl h)
    · rw [e] at h
      rcases List.mem_append.1 h with h | h
      · exact Or.inl h
      · exact Or.inr (Or.inr h)
def SgR.more (x : SgR) (a b : Nat) : SgR := { x with it := fun k => x.it k ∨ (a ≤ k ∧ k < b) }
theorem SgR.more_foot {x : SgR} {a b k : Nat} (h : (x.more a b).foot k) : x.foot k ∨ (a ≤ k ∧ k < b) := by
  rcases h with h | h | h | h | h | h
  · exact Or.inl (Or.inl h)
  · exact Or.inl (Or.inr (Or.inl h))
  · exact Or.inl (Or.inr (Or.inr (Or.inl h)))
  · exact Or.inl (Or.inr (Or.inr (Or.inr (Or.inl h))))
  · exact Or.inl (Or.inr (Or.inr (Or.inr (Or.inr h))))
  · exact Or.inr h
theorem set_mem {B a : Nat} {z : World} {x : SgR} {S : Sg.Sta} (h : SgAt B z x S) {p : Sg.Pf} (ha : Sg.adm S (.set p)) (hb : Sg.big S + 1 ≤ 1000) (hnm : p.nm.length ≤ 100) {v : Value} (hBa : B ≤ a) (hfa : ∀ k, x.foot k → k < a) (hv : ItsAt a (fun k => a ≤ k) z v p.its) :
    ∃ w', (Instr.mapUpdate 85 (.map (some x.mP)) (.string ⟨p.nm.toArray⟩) (.agg #[.string ⟨p.nm.toArray⟩, v])).run Tryz.prog z = .ok () w' ∧ SgAt B w' (x.more a z.heap.size) (Sg.after S (.set p)) ∧ Upd x.foot z w' := by
  have hP := h.lt x.mP (by right; right; right; left; rfl)
  have hG := h.gl
  obtain ⟨a1, a2, a3, a4, a5, a6, a7⟩ := h.ap
  obtain ⟨C, h6, h7, h8⟩ := h.mp
  obtain ⟨w', l', hrun, hm, hmem, u⟩ := h7.put strKeyedS Tryz.underlying85 (by omega) (str_keyS (s := p.nm) (by omega)) (pfV p.nm v)
  have ufoot : Upd x.foot z w' := u.mono (fun k _ e => by right; right; right; left; exact e)
  have hw : (Sg.after S (.set p)).pf = (insC (withoutC C p.nm) (p, v)).map (·.1) := by rw [insC_map, withoutC_map, ← h6]; rfl
  have hg' := h.g.after ha
  have hits : ∀ k, (x.more a z.heap.size).it k → k ≠ x.sb ∧ k ≠ x.mT ∧ k ≠ x.mN ∧ k ≠ x.mP := fun k hk => by
    rcases hk with hk | ⟨h1, h2⟩
    · exact a7 k hk
    · have e1 := hfa x.sb (Or.inl rfl)
      have e2 := hfa x.mT (Or.inr (Or.inl rfl))
      have e3 := hfa x.mN (Or.inr (Or.inr (Or.inl rfl)))
      have e4 := hfa x.mP (Or.inr (Or.inr (Or.inr (Or.inl rfl))))
      refine ⟨?_, ?_, ?_, ?_⟩ <;> omega
  refine ⟨w', hrun, ⟨hg', ?_, h.tl, u.keep h.blk a3, h.mt.upd u a5, h.mn.upd u a6, ⟨insC (withoutC C p.nm) (p, v), hw, ?_, fun q hq => ?_⟩, fun k hk => ?_, h.gl, a1, a2, a3, a4, a5, a6, hits⟩, ufoot⟩
  · have := Sg.big_after S (.set p); omega
  · refine hm.of_mem (pE_nodup ?_) (fun e => ?_)
    · rw [← hw]; exact hg'.asc
    · rw [hmem]
      constructor
      · intro he
        obtain ⟨q, hq, rfl⟩ := List.mem_map.1 he
        rcases mem_insC.1 hq with rfl | hq
        · exact Or.inr rfl
        · exact Or.inl (mem_pE_without.1 (List.mem_map.2 ⟨q, hq, rfl⟩))
      · rintro (he | rfl)
        · obtain ⟨q, hq, rfl⟩ := List.mem_map.1 (mem_pE_without.2 he)
          exact List.mem_map.2 ⟨q, mem_insC.2 (Or.inr hq), rfl⟩
        · exact List.mem_map.2 ⟨(p, v), mem_insC.2 (Or.inl rfl), rfl⟩
  · rcases mem_insC.1 hq with rfl | hq
    · have hv' := hv.upd (S := fun k => k = x.mP) u (fun k hk e => by have := hfa x.mP (by right; right; right; left; rfl); omega)
      exact ⟨ownsRow_base_a hv'.1 hBa, fun k hk => Or.inr ⟨hv.2 k hk, (hv.1.lt k hk).2⟩⟩
    · have := (h8 q (mem_withoutC.1 hq).1).upd u (fun k hk => (a7 k hk).2.2.2)
      exact ⟨this.1, fun k hk => Or.inl (this.2 k hk)⟩
  · have hs := u.size
    rcases SgR.more_foot hk with hk | ⟨h1, h2⟩
    · have := h.lt k hk; omega
    · omega
theorem right_len {p : Sg.Pf} (h : Sg.rightP p = true) : p.nm.length ≤ 20 ∧ p.its.length ≤ 60 ∧ ∀ x ∈ p.its, x.nm.length ≤ 20 ∧ (0 ≤ x.a ∧ x.a ≤ 1048576) ∧ (0 ≤ x.b ∧ x.b ≤ 1048576) ∧ (0 ≤ x.c ∧ x.c ≤ 1048576) ∧ 0 ≤ x.pr := by
  unfold Sg.rightP at h
  simp only [Bool.and_eq_true, decide_eq_true_eq, List.all_eq_true, List.mem_range] at h
  obtain ⟨⟨h1, h2⟩, h3⟩ := h
  unfold Sg.nameR at h1
  simp only [Bool.and_eq_true, decide_eq_true_eq] at h1
  refine ⟨h1.1, h2, fun x hx => ?_⟩
  obtain ⟨i, hi, rfl⟩ := List.getElem_of_mem hx
  have := h3 i hi
  rw [List.getElem?_eq_getElem hi] at this
  simp only [Sg.itR, Sg.nameR, Sg.verR, Sg.part, Bool.and_eq_true, decide_eq_true_eq] at this
  exact ⟨this.1.1.1.1, this.1.1.2.1.1, this.1.1.2.1.2, this.1.1.2.2, this.1.2⟩
set_option maxHeartbeats 4000000 in
set_option maxRecDepth 100000 in
theorem apply_set {B : Nat} {z : World} {x : SgR} {S : Sg.Sta} (g : Gl z) (h : SgAt B z x S) {p : Sg.Pf} (ha : Sg.adm S (.set p)) (hb : Sg.big S + 1 ≤ 1000) :
    Calls Tryz.prog 33 #[.pointer (some ⟨x.sb, 0, none⟩), .string ⟨(115 :: pfE p).toArray⟩] z fun e z' => e = .returned (.tuple #[]) ∧ ∃ c, z.heap.size ≤ c ∧ c ≤ z'.heap.size ∧ SgAt B z' (x.more z.heap.size c) (Sg.after S (.set p)) ∧ Upd x.foot z z' := by
  obtain ⟨r1, r2, r3⟩ := right_len ha.1
  have htail := op_tail 115 (pfE p)
  have hhead := op_head 115 (pfE p)
  have hsome := op_some 115 (pfE p)
  have HD := Lib.hid (decode_c (p := p) g (by omega) r2 (fun y hy => by
    obtain ⟨q1, q2, q3, q4, q5⟩ := r3 y hy
    have := there_i64 h (ha.2 y hy)
    exact ⟨by omega, q2, q3, q4, by omega⟩))
  generalize (⟨(115 :: pfE p).toArray⟩ : ByteArray) = op at *
  generalize (⟨(pfE p).toArray⟩ : ByteArray) = ot at *
  have H := Lib.hid h
  have HA := Lib.hid ha
  have HB := Lib.hid hb
  have HR := Lib.hid r1
  clear h ha hb r1 r2 r3 g
  go_enter Tryz.func33, Tryz.ntmps33
  go_upto_region 7 with fail
  go_wp2_with fail
  (with_reducible refine (HD.out).mono ?_)
  rintro _ w1 ⟨v, rfl, hv, u1⟩
  clear HD
  obtain ⟨va, vc, rfl⟩ := own_slS hv.1
  have n2 := nw_alloc w1 (.cells #[.string ⟨p.nm.toArray⟩, .slice va p.its.length vc] tPf)
  have b2 := heap_new w1 (.cells #[.string ⟨p.nm.toArray⟩, .slice va p.its.length vc] tPf)
  obtain ⟨w2, hw2⟩ : ∃ y, y = w1.alloc (.cells #[.string ⟨p.nm.toArray⟩, .slice va p.its.length vc] tPf) := ⟨_, rfl⟩
  rw [← hw2] at n2 b2
  obtain ⟨wd, hwd, nd⟩ := nw_drew w2
  have hs1 := u1.size
  have hs2 := n2.size
  have hsd := nd.size
  have U := u1.trans (n2.trans nd)
  have hsg := H.out.nw U
  obtain ⟨c0, c1, c2, c3, c4⟩ := hsg.cells
  have hbd := nd.keep b2
  obtain ⟨w3, hrun, hsg3, hu3⟩ := set_mem hsg (a := z.heap.size) HA.out HB.out (by have := HR.out; omega) (by have := (H.out.lt x.sb (Or.inl rfl)); omega) (fun k hk => (H.out.lt k hk).2) (hv.upd (n2.trans nd) (fun _ _ s => s))
  have HS0 := Lib.hid (show wd.cell? ⟨x.sb, 4, none⟩ = some (.map (some x.mP)) ∧ wd.cell? ⟨w1.heap.size, 0, none⟩ = some (.string ⟨p.nm.toArray⟩) ∧ wd.cell? ⟨w1.heap.size, 1, none⟩ = some (.slice va p.its.length vc) ∧ True ∧ True ∧ True from ⟨c4, by rw [cells_cell hbd]; rfl, by rw [cells_cell hbd]; rfl, trivial, trivial, trivial⟩)
  have HRun := Lib.hid hrun
  have HFin := Lib.hid (show ∃ c, z.heap.size ≤ c ∧ c ≤ w3.heap.size ∧ SgAt B w3 (x.more z.heap.size c) (Sg.after S (.set p)) ∧ Upd x.foot z w3 from ⟨wd.heap.size, by omega, hu3.size, hsg3, Upd.trans (Nw.upd _ U) hu3⟩)
  clear hv u1 n2 b2 nd U hsg c0 c1 c2 c3 c4 hbd hrun hsg3 hu3
  have HW2 := Lib.hid hw2
  have HWd := Lib.hid hwd
  clear hw2 hwd
  go_upto_region 8 with fail
  rw [← HW2.out]
  refine wp_region_G (fun y => y.cell? ⟨x.sb, 4, none⟩ = some (.map (some x.mP)) ∧ y.cell? ⟨w1.heap.size, 0, none⟩ = some (.string ⟨p.nm.toArray⟩) ∧ y.cell? ⟨w1.heap.size, 1, none⟩ = some (.slice va p.its.length vc) ∧ True ∧ True ∧ True) 7 (by kernel_rfl) ?_
  rw [HWd.out]
  refine wpAnyG_pure (i := 0) (v := ?_) rfl (by kernel_rfl) (by kernel_rfl) (by kernel_rfl) (by kernel_rfl) (by kernel_rfl) (fun _ _ _ h => h) (by rfl) ?_ (fun _ => HS0.out) ?_
  rotate_left 1
  · (intro zz; go_simp; first | done | with_reducible rfl)
  (try simp only [Act.put, List.setIfInBounds_toArray, List.set_cons_zero, List.set_cons_succ])
  refine wpAnyG_pure (i := 1) (v := ?_) rfl (by kernel_rfl) (by kernel_rfl) (by kernel_rfl) (by kernel_rfl) (by kernel_rfl) (fun _ _ _ h => h) (by rfl) ?_ (fun _ => HS0.out) ?_
  rotate_left 1
  · (intro zz; go_simp; first | done | with_reducible rfl)
  (try simp only [Act.put, List.setIfInBounds_toArray, List.set_cons_zero, List.set_cons_succ])
  refine wpAnyG_pure (i := 2) (v := ?_) rfl (by kernel_rfl) (by kernel_rfl) (by kernel_rfl) (by kernel_rfl) (by kernel_rfl) (fun _ _ _ h => h) (by rfl) ?_ (fun _ => HS0.out) ?_
  rotate_left 1
  · (intro zz; go_simp; first | done | with_reducible rfl)
  (try simp only [Act.put, List.setIfInBounds_toArray, List.set_cons_zero, List.set_cons_succ])
  refine wpAnyG_pure (i := 4) (v := ?_) rfl (by kernel_rfl) (by kernel_rfl) (by kernel_rfl) (by kernel_rfl) (by kernel_rfl) (fun _ _ _ h => h) (by rfl) ?_ (fun _ => HS0.out) ?_
  rotate_left 1
  · (intro zz; go_simp; first | done | with_reducible rfl)
  (try simp only [Act.put, List.setIfInBounds_toArray, List.set_cons_zero, List.set_cons_succ])
  refine wpAnyG_load (i := 3) (v := ?_) [] rfl (by kernel_rfl) (by kernel_rfl) (by kernel_rfl) (by kernel_rfl) (by kernel_rfl) (by kernel_rfl) (fun _ _ _ h => h) (by rfl) ?_ (fun _ => HS0.out) ?_
  rotate_left 1
  · (intro zz hS; obtain ⟨_, _, _, _, _, _, _⟩ := hS; go_simp; first | done | with_reducible rfl)
  (try simp only [Act.put, List.setIfInBounds_toArray, List.set_cons_zero, List.set_cons_succ])
  refine wpAnyG_load (i := 5) (v := ?_) [] rfl (by kernel_rfl) (by kernel_rfl) (by kernel_rfl) (by kernel_rfl) (by kernel_rfl) (by kernel_rfl) (fun _ _ _ h => h) (by rfl) ?_ (fun _ => HS0.out) ?_
  rotate_left 1
  · (intro zz hS; obtain ⟨_, _, _, _, _, _, _⟩ := hS; go_simp; first | done | with_reducible rfl)
  (try simp only [Act.put, List.setIfInBounds_toArray, List.set_cons_zero, List.set_cons_succ])
  refine wpAnyG_load (i := 6) (v := ?_) [] rfl (by kernel_rfl) (by kernel_rfl) (by kernel_rfl) (by kernel_rfl) (by kernel_rfl) (by kernel_rfl) (fun _ _ _ h => h) (by rfl) ?_ (fun _ => HS0.out) ?_
  rotate_left 1
  · (intro zz hS; obtain ⟨_, _, _, _, _, _, _⟩ := hS; go_simp; first | done | with_reducible rfl)
  (try simp only [Act.put, List.setIfInBounds_toArray, List.set_cons_zero, List.set_cons_succ])
  refine wpAnyG_ready [7] (by kernel_rfl) (by simp) ?_
  refine AllG.cons rfl (fun K hK => ?_) AllG.nil
  have hr := HRun.out
  go_simp
  clear hr
  refine hK.out _ _ (fun e => absurd (show true = false from e) (by decide)) ?_
  clear hK K
  (try simp only [Act.put, List.setIfInBounds_toArray, List.set_cons_zero, List.set_cons_succ])
  refine wpAnyG_done (by kernel_rfl) ?_ _
  go_wp2_with fail
  go_end0
  exact ⟨rfl, HFin.out⟩
end Go.Proofs.YtiednpagknnfnaaGreatDoor
namespace Go.Proofs.YtiednpagknnfnaaGreatDoor.Jr
open Go.Lib Go.RowKit
open Wire (textE numE rText rNum rText_inv rNum_inv rText_back rNum_back)
open Dk (Disk)
def wt (i : Nat) : List UInt8 → Nat
  | [] => 0
  | c :: l => c.toNat * (i + 1) + wt (i + 1) l
def sumN (l : List UInt8) : Int := ((wt 0 l % 2147483647 : Nat) : Int)
theorem wt_append : ∀ (a b : List UInt8) (i : Nat), wt i (a ++ b) = wt i a + wt (i + a.length) b := by
  intro a
  induction a with
  | nil => intro b i; simp [wt]
  | cons c a ih =>
    intro b i
    rw [List.cons_append, wt, wt, ih, List.length_cons, show i + 1 + a.length = i + (a.length + 1) by omega]
    omega
theorem sumN_snoc (l : List UInt8) (c : UInt8) : sumN (l ++ [c]) = (sumN l + c.toNat * ((l.length : Int) + 1)) % 2147483647 := by
  unfold sumN
  rw [wt_append]
  simp only [wt, Nat.zero_add, Nat.add_zero]
  have e : (wt 0 l + c.toNat * (l.length + 1)) % 2147483647 = (wt 0 l % 2147483647 + c.toNat * (l.length + 1)) % 2147483647 := by omega
  rw [e]
  simp only [Int.natCast_emod, Int.natCast_add, Int.natCast_mul]
  rfl
theorem sumN_bd (l : List UInt8) : 0 ≤ sumN l ∧ sumN l < 2147483647 := by unfold sumN; omega
def form (t : List UInt8) : List UInt8 := textE t ++ numE (sumN t)
def forms (l : List (List UInt8)) : List UInt8 := (l.map form).flatten
theorem form_pos (t : List UInt8) : 0 < (form t).length := by
  unfold form textE
  simp only [List.length_append, List.length_cons]
  omega
theorem forms_cons (t : List UInt8) (l : List (List UInt8)) : forms (t :: l) = form t ++ forms l := by simp [forms]
theorem forms_append (a b : List (List UInt8)) : forms (a ++ b) = forms a ++ forms b := by simp [forms]
theorem forms_snoc (a : List (List UInt8)) (t : List UInt8) : forms (a ++ [t]) = forms a ++ form t := by simp [forms]
theorem form_len (t : List UInt8) (h : t.length ≤ 9223372036854775807) : (form t).length ≤ t.length + 43 := by
  have h1 := Wire.itoa_le20 (v := (t.length : Int)) (by omega) (by omega)
  have h2 := sumN_bd t
  have h3 := Wire.itoa_le20 (v := sumN t) (by omega) (by omega)
  unfold form textE numE
  rw [if_neg (by omega)]
  unfold Wire.intE
  simp only [List.length_append, List.length_cons, List.length_nil]
  omega
theorem form_ge (t : List UInt8) : t.length + 3 ≤ (form t).length := by
  have h2 := sumN_bd t
  have hp : 0 < (itoa (t.length : Int)).length := by
    rw [List.length_pos_iff, show itoa (t.length : Int) = decDigits t.length by unfold itoa; rw [if_neg (by omega)]; simp]
    exact Wire.decDigits_ne _
  unfold form textE numE
  rw [if_neg (by omega)]
  unfold Wire.intE
  simp only [List.length_append, List.length_cons, List.length_nil]
  omega
theorem forms_len {n : Nat} : ∀ {l : List (List UInt8)}, (∀ t ∈ l, t.length ≤ n) → n ≤ 9223372036854775807 → (forms l).length ≤ l.length * (n + 43) := by
  intro l
  induction l with
  | nil => intro _ _; simp [forms]
  | cons t l ih =>
    intro h hn
    have h1 := ih (fun x hx => h x (List.mem_cons_of_mem _ hx)) hn
    have h2 := form_len t (Nat.le_trans (h t (List.mem_cons_self ..)) hn)
    have h3 := h t (List.mem_cons_self ..)
    rw [forms_cons, List.length_append, List.length_cons, Nat.succ_mul]
    omega
theorem len_forms (l : List (List UInt8)) : l.length ≤ (forms l).length := by
  induction l with
  | nil => simp [forms]
  | cons t l ih =>
    have := form_pos t
    rw [forms_cons, List.length_append, List.length_cons]
    omega
def one (s : List UInt8) : Option (List UInt8) :=
  if (rNum (rText (some s)).2).2.isSome = true ∧ (rText (some s)).1.length ≤ 20000 ∧ (rNum (rText (some s)).2).1 = sumN (rText (some s)).1 then some (rText (some s)).1 else none
theorem rNum_none : rNum none = (0, none) := by decide
theorem one_inv {s t : List UInt8} (h : one s = some t) : ∃ r, s = form t ++ r ∧ t.length ≤ 20000 := by
  unfold one at h
  split at h
  · rename_i hc
    obtain ⟨h1, h2, h3⟩ := hc
    injection h with h
    rcases hx : rText (some s) with ⟨t', s1⟩
    rw [hx] at h h1 h2 h3
    dsimp only at h h1 h2 h3
    subst h
    cases s1 with
    | none => rw [rNum_none] at h1; cases h1
    | some r1 =>
      rcases hy : rNum (some r1) with ⟨n, s2⟩
      rw [hy] at h1 h3
      dsimp only at h1 h3
      cases s2 with
      | none => cases h1
      | some r2 =>
        refine ⟨r2, ?_, h2⟩
        rw [rText_inv hx, rNum_inv hy, h3, form, List.append_assoc]
  · cases h
theorem rForm {t r : List UInt8} (ht : t.length ≤ 9223372036854775807) : rText (some (form t ++ r)) = (t, some (numE (sumN t) ++ r)) ∧ rNum (some (numE (sumN t) ++ r)) = (sumN t, some r) := by
  have hb := sumN_bd t
  exact ⟨by rw [form, List.append_assoc]; exact rText_back ht, rNum_back ⟨by omega, by omega⟩ hb.1⟩
theorem one_form {t r : List UInt8} (ht : t.length ≤ 20000) : one (form t ++ r) = some t := by
  obtain ⟨h1, h2⟩ := rForm (t := t) (r := r) (by omega)
  unfold one
  rw [h1, h2]
  simp [ht]
theorem one_nil : one [] = none := by
  cases h : one [] with
  | none => rfl
  | some t =>
    obtain ⟨r, e, _⟩ := one_inv h
    have := congrArg List.length e
    have := form_pos t
    simp at *
    omega
def recsGo : Nat → List UInt8 → List (List UInt8)
  | 0, _ => []
  | n + 1, s => match one s with
    | some t => t :: recsGo n (s.drop (form t).length)
    | none => []
def recs (s : List UInt8) : List (List UInt8) := recsGo s.length s
theorem recsGo_more : ∀ (n m : Nat) (s : List UInt8), s.length ≤ n → n ≤ m → recsGo m s = recsGo n s := by
  intro n
  induction n with
  | zero =>
    intro m s h _
    obtain rfl : s = [] := List.length_eq_zero_iff.1 (by omega)
    cases m with
    | zero => rfl
    | succ m => unfold recsGo; rw [one_nil]
  | succ n ih =>
    intro m s h hm
    obtain ⟨m, rfl⟩ : ∃ k, m = k + 1 := ⟨m - 1, by omega⟩
    unfold recsGo
    cases ho : one s with
    | none => rfl
    | some t =>
      dsimp only
      have := form_pos t
      rw [ih m _ (by rw [List.length_drop]; omega) (by omega)]
theorem recs_some {s t : List UInt8} (h : one s = some t) : recs s = t :: recs (s.drop (form t).length) := by
  have hp := form_pos t
  obtain ⟨r, e, _⟩ := one_inv h
  have hl : 0 < s.length := by rw [e, List.length_append]; omega
  have hg : ∀ n, recsGo (n + 1) s = t :: recsGo n (s.drop (form t).length) := fun n => by
    show (match one s with
      | some t => t :: recsGo n (s.drop (form t).length)
      | none => []) = _
    rw [h]
  obtain ⟨n, hn⟩ : ∃ n, s.length = n + 1 := ⟨s.length - 1, by omega⟩
  unfold recs
  rw [hn, hg, recsGo_more (s.drop (form t).length).length n _ (Nat.le_refl _) (by rw [List.length_drop]; omega)]
theorem recs_none {s : List UInt8} (h : one s = none) : recs s = [] := by
  unfold recs
  cases s.length with
  | zero => rfl
  | succ n => unfold recsGo; rw [h]
theorem recs_form {t r : List UInt8} (ht : t.length ≤ 20000) : recs (form t ++ r) = t :: recs r := by
  rw [recs_some (one_form ht), List.drop_left]
theorem recs_split : ∀ (n : Nat) (s : List UInt8), s.length ≤ n → ∃ r, s = forms (recs s) ++ r ∧ one r = none := by
  intro n
  induction n with
  | zero =>
    intro s h
    obtain rfl : s = [] := List.length_eq_zero_iff.1 (by omega)
    exact ⟨[], rfl, one_nil⟩
  | succ n ih =>
    intro s h
    cases ho : one s with
    | none => exact ⟨s, by rw [recs_none ho]; rfl, ho⟩
    | some t =>
      obtain ⟨r, e, _⟩ := one_inv ho
      have := form_pos t
      obtain ⟨r2, e2, h2⟩ := ih (s.drop (form t).length) (by rw [List.length_drop]; omega)
      refine ⟨r2, ?_, h2⟩
      rw [recs_some ho, forms_cons, List.append_assoc, ← e2]
      conv => lhs; rw [e]
      congr 1
      rw [e, List.drop_left]
theorem recs_pre (s : List UInt8) : forms (recs s) <+: s := by
  obtain ⟨r, e, _⟩ := recs_split s.length s (Nat.le_refl _)
  exact ⟨r, e.symm⟩
theorem recs_len (s : List UInt8) : (forms (recs s)).length ≤ s.length := (recs_pre s).length_le
structure Jn where
  file : Int
  recs : List (List UInt8)
  broken : Bool
def openJ (D : Disk) (f : Int) : Disk × Option Jn × Int :=
  if f < 0 ∨ 15 < f then (D, none, 1)
  else if (Dk.sync D f).2 ≠ 0 then ((Dk.sync D f).1, none, (Dk.sync D f).2)
  else if (forms (recs ((Dk.sync D f).1.fs f).now)).length < ((Dk.sync D f).1.fs f).now.length then
    (if (Dk.truncate (Dk.sync D f).1 f (forms (recs ((Dk.sync D f).1.fs f).now)).length).2 ≠ 0 then ((Dk.truncate (Dk.sync D f).1 f (forms (recs ((Dk.sync D f).1.fs f).now)).length).1, none, (Dk.truncate (Dk.sync D f).1 f (forms (recs ((Dk.sync D f).1.fs f).now)).length).2)
      else ((Dk.truncate (Dk.sync D f).1 f (forms (recs ((Dk.sync D f).1.fs f).now)).length).1, some ⟨f, recs ((Dk.sync D f).1.fs f).now, false⟩, 0))
  else ((Dk.sync D f).1, some ⟨f, recs ((Dk.sync D f).1.fs f).now, false⟩, 0)
def append (D : Disk) (j : Jn) (s : List UInt8) : Disk × Jn × Int :=
  if j.broken = true then (D, j, 7) else if 20000 < s.length then (D, j, 3)
  else if 1048576 < (forms j.recs).length + (form s).length then (D, j, 6)
  else if (Dk.write D j.file (forms j.recs).length (form s)).2 ≠ 0 then ((Dk.write D j.file (forms j.recs).length (form s)).1, { j with broken := true }, (Dk.write D j.file (forms j.recs).length (form s)).2)
  else ((Dk.write D j.file (forms j.recs).length (form s)).1, { j with recs := j.recs ++ [s] }, 0)
def syncJ (D : Disk) (j : Jn) : Disk × Jn × Int :=
  if j.broken = true then (D, j, 7) else ((Dk.sync D j.file).1, { j with broken := decide ((Dk.sync D j.file).2 ≠ 0) }, (Dk.sync D j.file).2)
def Tn : List UInt8 → List UInt8 → Prop
  | [], _ => True
  | _ :: _, [] => False
  | c :: x, d :: N => (c = d ∨ c = 0) ∧ Tn x N
theorem tn_refl : ∀ (x : List UInt8), Tn x x
  | [] => trivial
  | c :: x => ⟨Or.inl rfl, tn_refl x⟩
theorem tn_iff : ∀ {x N : List UInt8}, Tn x N ↔ x.length ≤ N.length ∧ ∀ k, k < x.length → x[k]? = N[k]? ∨ x[k]? = some 0 := by
  intro x
  induction x with
  | nil => intro N; simp [Tn]
  | cons c x ih =>
    intro N
    cases N with
    | nil => simp [Tn]
    | cons d N =>
      unfold Tn
      rw [ih]
      constructor
      · rintro ⟨h1, h2, h3⟩
        refine ⟨by simp; omega, fun k hk => ?_⟩
        cases k with
        | zero => simpa using h1
        | succ k => simpa using h3 k (by simpa using hk)
      · rintro ⟨h2, h3⟩
        refine ⟨by simpa using h3 0 (by simp), by simpa using h2, fun k hk => ?_⟩
        simpa using h3 (k + 1) (by simpa using hk)
theorem tn_split : ∀ {p x N : List UInt8}, Tn (p ++ x) N → Tn p N ∧ Tn x (N.drop p.length) := by
  intro p
  induction p with
  | nil => intro x N h; exact ⟨trivial, h⟩
  | cons c p ih =>
    intro x N h
    cases N with
    | nil => cases h
    | cons d N => exact ⟨⟨h.1, (ih h.2).1⟩, (ih h.2).2⟩
theorem tn_nz : ∀ {p N : List UInt8}, Tn p N → (∀ c ∈ p, c ≠ 0) → p <+: N := by
  intro p
  induction p with
  | nil => intro N _ _; exact List.nil_prefix
  | cons c p ih =>
    intro N h hz
    cases N with
    | nil => cases h
    | cons d N =>
      rcases h.1 with h1 | h1
      · rw [h1]
        exact List.cons_prefix_cons.2 ⟨rfl, ih h.2 (fun x hx => hz x (List.mem_cons_of_mem _ hx))⟩
      · exact absurd h1 (hz c (List.mem_cons_self ..))
theorem tn_more : ∀ {x N M : List UInt8}, Tn x N → Tn x (N ++ M) := by
  intro x
  induction x with
  | nil => intro N M _; exact trivial
  | cons c x ih =>
    intro N M h
    cases N with
    | nil => cases h
    | cons d N => exact ⟨h.1, ih h.2⟩
theorem tn_trans : ∀ {x y N : List UInt8}, Tn x y → Tn y N → Tn x N := by
  intro x
  induction x with
  | nil => intro y N _ _; exact trivial
  | cons c x ih =>
    intro y N h k
    cases y with
    | nil => cases h
    | cons d y =>
      cases N with
      | nil => cases k
      | cons e N =>
        refine ⟨?_, ih h.2 k.2⟩
        rcases h.1 with h1 | h1
        · rw [h1]; exact k.1
        · exact Or.inr h1
theorem tn_nil {x : List UInt8} (h : Tn x []) : x = [] := by
  cases x with
  | nil => rfl
  | cons c x => cases h
theorem tn_pre {x N : List UInt8} (h : x <+: N) : Tn x N := by
  obtain ⟨r, rfl⟩ := h
  exact tn_more (tn_refl x)
theorem wt_tn : ∀ {t a : List UInt8} (i : Nat), Tn t a → t.length = a.length → wt i t ≤ wt i a ∧ (wt i t = wt i a → t = a) := by
  intro t
  induction t with
  | nil => intro a i _ hl; obtain rfl : a = [] := List.length_eq_zero_iff.1 hl.symm; exact ⟨Nat.le_refl _, fun _ => rfl⟩
  | cons c t ih =>
    intro a i h hl
    cases a with
    | nil => cases h
    | cons d a =>
      obtain ⟨h1, h2⟩ := ih (i + 1) h.2 (by simpa using hl)
      unfold wt
      rcases h.1 with h3 | h3
      · subst h3
        exact ⟨by omega, fun e => by rw [h2 (by omega)]⟩
      · subst h3
        have hz : (0 : UInt8).toNat = 0 := rfl
        have hp : (0 : UInt8).toNat * (i + 1) = 0 := by rw [hz, Nat.zero_mul]
        have hd : d.toNat * (i + 1) ≥ d.toNat := Nat.le_mul_of_pos_right _ (by omega)
        rw [hp]
        refine ⟨by omega, fun e => ?_⟩
        have h0 : d.toNat = 0 := by omega
        have : d = 0 := UInt8.toNat_inj.1 (by rw [h0]; rfl)
        rw [this, h2 (by rw [this] at e; rw [hp] at e; omega)]
theorem wt_le : ∀ (l : List UInt8) (i n : Nat), i + l.length ≤ n → wt i l ≤ l.length * (255 * n) := by
  intro l
  induction l with
  | nil => intro i n _; simp [wt]
  | cons c l ih =>
    intro i n h
    rw [List.length_cons] at h
    have h1 := ih (i + 1) n (by omega)
    have h2 : c.toNat * (i + 1) ≤ 255 * n := Nat.mul_le_mul (by have := c.toNat_lt; omega) (by omega)
    rw [wt, List.length_cons, Nat.succ_mul]
    omega
theorem wt_small {l : List UInt8} (h : l.length ≤ 2000) : wt 0 l < 2147483647 := by
  have h1 := wt_le l 0 2000 (by omega)
  have h2 : l.length * (255 * 2000) ≤ 2000 * (255 * 2000) := Nat.mul_le_mul_right _ h
  omega
theorem itoa_nz {n : Int} : ∀ c ∈ itoa n, c ≠ 0 := by
  intro c hc e
  have := Wire.itoa_chars hc
  rw [e] at this
  simp at this
theorem form_eq (t : List UInt8) : form t = (itoa (t.length : Int) ++ [58]) ++ (t ++ (44 :: numE (sumN t))) := by
  unfold form textE
  simp
theorem num_pre {n m : Int} {M r : List UInt8} (hn : 0 ≤ n) (hm : 0 ≤ m) (hn2 : n ≤ 9223372036854775807) (hm2 : m ≤ 9223372036854775807) (h : numE n <+: numE m ++ M) : n = m := by
  obtain ⟨r, e⟩ := h
  have h1 := rNum_back (n := n) (r := r) ⟨by omega, by omega⟩ hn
  have h2 := rNum_back (n := m) (r := M) ⟨by omega, by omega⟩ hm
  rw [e, h2] at h1
  exact (Prod.mk.inj h1).1.symm
theorem one_tn {x a M t : List UInt8} (h : Tn x (form a ++ M)) (ha : a.length ≤ 2000) (ho : one x = some t) : t = a := by
  obtain ⟨r, rfl, ht⟩ := one_inv ho
  rw [form_eq t, form_eq a, List.append_assoc (itoa (t.length : Int) ++ [58]), List.append_assoc (itoa (a.length : Int) ++ [58])] at h
  obtain ⟨h1, h2⟩ := tn_split h
  have hp := tn_nz h1 (fun c hc => by
    rcases List.mem_append.1 hc with hc | hc
    · exact itoa_nz c hc
    · rw [List.mem_singleton.1 hc]; decide)
  obtain ⟨r1, e1⟩ := hp
  have q1 := Wire.rNumber_back (n := (t.length : Int)) (least := 0) (e := 58) (r := r1) ⟨by omega, by omega⟩ (by omega) (by decide)
  have q2 := Wire.rNumber_back (n := (a.length : Int)) (least := 0) (e := 58) (r := (a ++ 44 :: numE (sumN a)) ++ M) ⟨by omega, by omega⟩ (by omega) (by decide)
  have e1' : itoa (t.length : Int) ++ 58 :: r1 = itoa (a.length : Int) ++ 58 :: ((a ++ 44 :: numE (sumN a)) ++ M) := by simpa using e1
  rw [e1', q2] at q1
  have hlen : t.length = a.length := by have := (Prod.mk.inj q1).1; omega
  rw [hlen, List.drop_left] at h2
  rw [List.append_assoc t, List.append_assoc a] at h2
  obtain ⟨h3, h4⟩ := tn_split h2
  rw [hlen, List.drop_left] at h4
  have h3' : Tn t a := by
    rw [tn_iff] at h3 ⊢
    refine ⟨by omega, fun k hk => ?_⟩
    have := h3.2 k hk
    rwa [List.getElem?_append_left (by omega)] at this
  have h5 : Tn (numE (sumN t) ++ r) (numE (sumN a) ++ M) := h4.2
  have hbt := sumN_bd t
  have hba := sumN_bd a
  have h6 := tn_nz (tn_split h5).1 (fun c hc => by
    unfold numE at hc
    rw [if_neg (by omega)] at hc
    rcases List.mem_append.1 hc with hc | hc
    · exact itoa_nz c hc
    · rw [List.mem_singleton.1 hc]; decide)
  have hs : sumN t = sumN a := num_pre (r := []) hbt.1 hba.1 (by omega) (by omega) h6
  obtain ⟨hw, heq⟩ := wt_tn 0 h3' hlen
  have hwa := wt_small ha
  refine heq ?_
  unfold sumN at hs
  omega
theorem recs_tn : ∀ {A : List (List UInt8)} {x : List UInt8}, Tn x (forms A) → (∀ a ∈ A, a.length ≤ 2000) →
    ∃ m, m ≤ A.length ∧ recs x = A.take m ∧ forms (A.take m) <+: x ∧ ∀ k, k ≤ A.length → forms (A.take k) <+: x → k ≤ m := by
  intro A
  induction A with
  | nil =>
    intro x h _
    rw [tn_nil h]
    exact ⟨0, Nat.le_refl _, rfl, List.prefix_refl _, fun k hk _ => hk⟩
  | cons a A ih =>
    intro x h hs
    rw [forms_cons] at h
    cases ho : one x with
    | none =>
      refine ⟨0, Nat.zero_le _, recs_none ho, List.nil_prefix, fun k hk hp => ?_⟩
      cases k with
      | zero => exact Nat.le_refl _
      | succ k =>
        rw [List.take_succ_cons, forms_cons] at hp
        obtain ⟨r, e⟩ := hp
        rw [← e, List.append_assoc, one_form (by have := hs a (List.mem_cons_self ..); omega)] at ho
        cases ho
    | some t =>
      obtain rfl := one_tn h (hs a (List.mem_cons_self ..)) ho
      obtain ⟨r, rfl, ht⟩ := one_inv ho
      have h2 := (tn_split h).2
      rw [List.drop_left] at h2
      obtain ⟨m, h3, h4, h5, h6⟩ := ih h2 (fun b hb => hs b (List.mem_cons_of_mem _ hb))
      refine ⟨m + 1, by rw [List.length_cons]; omega, by rw [recs_form ht, h4, List.take_succ_cons], ?_, fun k hk hp => ?_⟩
      · rw [List.take_succ_cons, forms_cons]
        exact (List.prefix_append_right_inj _).2 h5
      · cases k with
        | zero => exact Nat.zero_le _
        | succ k =>
          rw [List.take_succ_cons, forms_cons] at hp
          have := h6 k (by rw [List.length_cons] at hk; omega) ((List.prefix_append_right_inj _).1 hp)
          omega
end Go.Proofs.YtiednpagknnfnaaGreatDoor.Jr
