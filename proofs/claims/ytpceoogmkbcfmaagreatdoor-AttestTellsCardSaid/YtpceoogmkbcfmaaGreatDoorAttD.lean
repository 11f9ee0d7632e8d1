/- slices.DeleteFunc at votes that the call itself has built. slices.DeleteFunc at votes that the call itself has built: its contract; attest's Both. The contract of attest's Both. -/
import Derived.Test.YtpceoogmkbcfmaaGreatDoorAttW
import Derived.Lib.SliceRun
import Derived.Test.YtpceoogmkbcfmaaGreatDoorAttA
import Derived.BigRegion
namespace Go.Proofs.YtpceoogmkbcfmaaGreatDoor
open Go.RowKit
set_option linter.unusedVariables false
set_option linter.unusedSimpArgs false
attribute [local irreducible] Calls

/-- A block's cells, element by element. -/
def RowC (sz : Nat) (cur : Array Value) (Z : List (List Value)) : Prop := ∀ a (h : a < Z.length) r, r < sz → cur[a * sz + r]? = Z[a][r]?
theorem flat_len {α : Type} {sz : Nat} : ∀ (Z : List (List α)), (∀ x ∈ Z, x.length = sz) → Z.flatten.length = Z.length * sz := by
  intro Z
  induction Z with
  | nil => intro _; simp
  | cons x Z ih =>
    intro h
    rw [List.flatten_cons, List.length_append, ih (fun y hy => h y (List.mem_cons_of_mem _ hy)), h x (List.mem_cons_self ..), List.length_cons, Nat.succ_mul, Nat.add_comm]
theorem rowC_of {sz : Nat} {cur : Array Value} {Z : List (List Value)} (hx : ∀ x ∈ Z, x.length = sz) (ht : cur.toList.take (Z.length * sz) = Z.flatten) : RowC sz cur Z := fun a h r hr => by
  rw [← flat_at Z a r hx hr h, ← ht, List.getElem?_take, if_pos]
  · simp
  · have : (a + 1) * sz ≤ Z.length * sz := Nat.mul_le_mul_right _ h
    rw [Nat.succ_mul] at this; omega
theorem rowC_take {sz : Nat} {cur : Array Value} {Z : List (List Value)} (hz : 0 < sz) (hx : ∀ x ∈ Z, x.length = sz) (h : RowC sz cur Z) : cur.toList.take (Z.length * sz) = Z.flatten := by
  refine List.ext_getElem? (fun m => ?_)
  by_cases hm : m < Z.length * sz
  · have hd : m / sz < Z.length := (Nat.div_lt_iff_lt_mul hz).2 hm
    have hr := Nat.mod_lt m hz
    have he : m / sz * sz + m % sz = m := by rw [Nat.mul_comm]; exact Nat.div_add_mod m sz
    have h1 := h (m / sz) hd (m % sz) hr
    have h2 := flat_at Z (m / sz) (m % sz) hx hr hd
    rw [he] at h1 h2
    rw [h2, ← h1, List.getElem?_take, if_pos hm]; simp
  · rw [List.getElem?_eq_none (by rw [List.length_take]; omega), List.getElem?_eq_none (by rw [flat_len Z hx]; omega)]
theorem setCells_low {b : Nat} {T : TypeId} {fz : Nat × Nat} : ∀ (vs : List Value) (o : Nat) (w : World) (cur : Array Value), w.heap[b]? = some (.cells cur T fz) →
    ∃ cur', (w.setCells b o vs).heap[b]? = some (.cells cur' T fz) ∧ cur'.size = cur.size ∧ ∀ m, m < o → cur'[m]? = cur[m]? := by
  intro vs
  induction vs with
  | nil => intro o w cur h; exact ⟨cur, h, rfl, fun _ _ => rfl⟩
  | cons v vs ih =>
    intro o w cur h
    obtain ⟨c', h1, h2, h3⟩ := ih (o + 1) (w.setCell ⟨b, o, none⟩ v) _ (setCell_block h o v)
    refine ⟨c', h1, by rw [h2]; simp, fun m hm => ?_⟩
    rw [h3 m (by omega), Array.getElem?_setIfInBounds_ne (by omega)]
theorem Upd.setCells1 {b : Nat} {a : World} (hg : nG ≤ b) : ∀ (vs : List Value) (o : Nat) {w : World}, Upd (fun x => x = b) a w → Upd (fun x => x = b) a (w.setCells b o vs)
  | [], _, _, h => h
  | v :: vs, o, _, h => Upd.setCells1 hg vs (o + 1) (h.set1 hg o v)
theorem rowC_set4 {cur : Array Value} {Z : List (List Value)} {i : Nat} {v0 v1 v2 v3 : Value} (h : RowC 4 cur Z) (hi : i < Z.length) (hs : Z.length * 4 ≤ cur.size) :
    RowC 4 ((((cur.setIfInBounds (i * 4) v0).setIfInBounds (i * 4 + 1) v1).setIfInBounds (i * 4 + 2) v2).setIfInBounds (i * 4 + 3) v3) (Z.set i [v0, v1, v2, v3]) := fun a ha r hr => by
  rw [List.length_set] at ha
  have h4 : r = 0 ∨ r = 1 ∨ r = 2 ∨ r = 3 := by omega
  by_cases e : a = i
  · subst e
    rw [List.getElem_set_self]
    rcases h4 with rfl | rfl | rfl | rfl
    · rw [Array.getElem?_setIfInBounds_ne (by omega), Array.getElem?_setIfInBounds_ne (by omega), Array.getElem?_setIfInBounds_ne (by omega), Nat.add_zero, Array.getElem?_setIfInBounds_self_of_lt (by omega)]; rfl
    · rw [Array.getElem?_setIfInBounds_ne (by omega), Array.getElem?_setIfInBounds_ne (by omega), Array.getElem?_setIfInBounds_self_of_lt (by simp; omega)]; rfl
    · rw [Array.getElem?_setIfInBounds_ne (by omega), Array.getElem?_setIfInBounds_self_of_lt (by simp; omega)]; rfl
    · rw [Array.getElem?_setIfInBounds_self_of_lt (by simp; omega)]; rfl
  · rw [List.getElem_set_ne (Ne.symm e), ← h a ha r hr]
    rw [Array.getElem?_setIfInBounds_ne (by omega), Array.getElem?_setIfInBounds_ne (by omega), Array.getElem?_setIfInBounds_ne (by omega), Array.getElem?_setIfInBounds_ne (by omega)]
/-- The first j votes have been looked at, i of them kept, at the head of the row. -/
structure DelV (gb cap : Nat) (np : Bk.Sgn × Int → Bool) (X : List (Bk.Sgn × Int)) (i j : Nat) (z : World) : Prop where
  row : ∃ (Z : List (Bk.Sgn × Int)) (cur : Array Value), Z.length = X.length ∧ z.heap[gb]? = some (.cells cur tVote (0, 0)) ∧ cur.size = cap * 4 ∧ RowC 4 cur (Z.map vtL) ∧ Z.take i = (X.take j).filter np ∧ Z.drop j = X.drop j
theorem DelV.nw {gb cap : Nat} {np : Bk.Sgn × Int → Bool} {X : List (Bk.Sgn × Int)} {i j : Nat} {z z' : World} (h : DelV gb cap np X i j z) (u : Nw z z') : DelV gb cap np X i j z' := by
  obtain ⟨Z, cur, h1, h2, h3⟩ := h.row
  exact ⟨Z, cur, h1, Nw.keep u h2, h3⟩
theorem DelV.at {gb cap : Nat} {np : Bk.Sgn × Int → Bool} {X : List (Bk.Sgn × Int)} {i j : Nat} {z : World} (h : DelV gb cap np X i j z) (hj : j < X.length) :
    z.cell? ⟨gb, 0 + j * 4, none⟩ = some (.int .i64 X[j].1.key) ∧ z.cell? ⟨gb, 0 + j * 4 + 1, none⟩ = some (.string ⟨X[j].1.text.toArray⟩) ∧ z.cell? ⟨gb, 0 + j * 4 + 2, none⟩ = some (.int .i64 X[j].1.mark) ∧ z.cell? ⟨gb, 0 + j * 4 + 3, none⟩ = some (.int .i64 X[j].2) := by
  obtain ⟨Z, cur, h1, h2, h3, h4, h5, h6⟩ := h.row
  have hz : Z[j]'(by omega) = X[j] := by
    have e := congrArg (fun l => l[0]?) h6
    simp only [List.getElem?_drop, Nat.add_zero] at e
    rw [List.getElem?_eq_getElem (by omega), List.getElem?_eq_getElem hj] at e
    exact Option.some.inj e
  have h7 := h4 j (by rw [List.length_map]; omega)
  rw [List.getElem_map, hz] at h7
  rw [Nat.zero_add]
  refine ⟨?_, ?_, ?_, ?_⟩
  · rw [cells_cell h2]; exact h7 0 (by omega)
  · rw [cells_cell h2]; exact h7 1 (by omega)
  · rw [cells_cell h2]; exact h7 2 (by omega)
  · rw [cells_cell h2]; exact h7 3 (by omega)
theorem DelV.some {gb cap : Nat} {np : Bk.Sgn × Int → Bool} {X : List (Bk.Sgn × Int)} {i j : Nat} {z : World} (h : DelV gb cap np X i j z) {a : Nat} (ha : a < X.length) :
    ∃ y : Bk.Sgn × Int, z.cell? ⟨gb, 0 + a * 4, none⟩ = Option.some (.int .i64 y.1.key) ∧ z.cell? ⟨gb, 0 + a * 4 + 1, none⟩ = Option.some (.string ⟨y.1.text.toArray⟩) ∧ z.cell? ⟨gb, 0 + a * 4 + 2, none⟩ = Option.some (.int .i64 y.1.mark) ∧ z.cell? ⟨gb, 0 + a * 4 + 3, none⟩ = Option.some (.int .i64 y.2) := by
  obtain ⟨Z, cur, h1, h2, h3, h4, h5, h6⟩ := h.row
  have h7 := h4 a (by rw [List.length_map]; omega)
  rw [List.getElem_map] at h7
  rw [Nat.zero_add]
  refine ⟨Z[a]'(by omega), ?_, ?_, ?_, ?_⟩
  · rw [cells_cell h2]; exact h7 0 (by omega)
  · rw [cells_cell h2]; exact h7 1 (by omega)
  · rw [cells_cell h2]; exact h7 2 (by omega)
  · rw [cells_cell h2]; exact h7 3 (by omega)
theorem DelV.frozen {gb cap : Nat} {np : Bk.Sgn × Int → Bool} {X : List (Bk.Sgn × Int)} {i j : Nat} {z : World} (h : DelV gb cap np X i j z) (m : Nat) : z.frozen? ⟨gb, m, none⟩ = false := by
  obtain ⟨Z, cur, h1, h2, _⟩ := h.row
  exact cells_frozen h2 m
theorem DelV.skip {gb cap : Nat} {np : Bk.Sgn × Int → Bool} {X : List (Bk.Sgn × Int)} {i j : Nat} {z : World} (h : DelV gb cap np X i j z) (hj : j < X.length) (hn : np X[j] = false) : DelV gb cap np X i (j + 1) z := by
  obtain ⟨Z, cur, h1, h2, h3, h4, h5, h6⟩ := h.row
  refine ⟨Z, cur, h1, h2, h3, h4, ?_, ?_⟩
  · rw [h5, List.take_succ_eq_append_getElem hj, List.filter_append, List.filter_cons, hn]; simp
  · rw [← List.drop_drop, ← List.drop_drop, h6]
theorem DelV.keep {gb cap : Nat} {np : Bk.Sgn × Int → Bool} {X : List (Bk.Sgn × Int)} {i j : Nat} {z : World} (h : DelV gb cap np X i j z) (hj : j < X.length) (hij : i < j) (hc : X.length ≤ cap) {x : Bk.Sgn × Int} (hx : X[j] = x) (hn : np X[j] = true) :
    DelV gb cap np X (i + 1) (j + 1) ((((z.setCell ⟨gb, 0 + i * 4, none⟩ (.int .i64 x.1.key)).setCell ⟨gb, 0 + i * 4 + 1, none⟩ (.string ⟨x.1.text.toArray⟩)).setCell ⟨gb, 0 + i * 4 + 2, none⟩ (.int .i64 x.1.mark)).setCell ⟨gb, 0 + i * 4 + 3, none⟩ (.int .i64 x.2)) := by
  obtain ⟨Z, cur, h1, h2, h3, h4, h5, h6⟩ := h.row
  rw [Nat.zero_add]
  refine ⟨Z.set i x, _, by rw [List.length_set]; exact h1, setCell_block (setCell_block (setCell_block (setCell_block h2 _ _) _ _) _ _) _ _, by simp [h3], ?_, ?_, ?_⟩
  · rw [List.map_set]
    exact rowC_set4 h4 (by rw [List.length_map]; omega) (by rw [List.length_map, h3]; omega)
  · rw [List.take_succ_eq_append_getElem (by rw [List.length_set]; omega), List.getElem_set_self, List.take_set_of_le (Nat.le_refl i), h5, List.take_succ_eq_append_getElem hj, List.filter_append, List.filter_cons, hn, hx]; simp
  · rw [List.drop_set_of_lt (by omega), ← List.drop_drop, ← List.drop_drop, h6]
theorem zeroVote : ∀ w, (zeroValue tVote).run Tryz.prog w = .ok (.agg #[.int .i64 0, .string ⟨#[]⟩, .int .i64 0, .int .i64 0]) w := fun w => by kernel_rfl
end Go.Proofs.YtpceoogmkbcfmaaGreatDoor
namespace Go.Proofs.YtpceoogmkbcfmaaGreatDoor
open Go.RowKit
set_option linter.unusedVariables false
set_option linter.unusedSimpArgs false
attribute [local irreducible] Calls

theorem zeroVotes_len (n : Nat) : (Builtin.zeroCells (Value.agg #[.int .i64 0, .string ⟨#[]⟩, .int .i64 0, .int .i64 0]).cells n).toList.length = n * 4 := by
  simp [Builtin.zeroCells, Value.cells]
theorem zeroVotes_one (n : Nat) : ∀ u ∈ (Builtin.zeroCells (Value.agg #[.int .i64 0, .string ⟨#[]⟩, .int .i64 0, .int .i64 0]).cells n).toList, u.oneCell' = true := by
  intro u hu
  have hu := Array.mem_toList_iff.1 hu
  simp only [Builtin.zeroCells, Array.mem_map, Value.cells] at hu
  obtain ⟨a, _, rfl⟩ := hu
  have h4 : a % 4 = 0 ∨ a % 4 = 1 ∨ a % 4 = 2 ∨ a % 4 = 3 := by omega
  rcases h4 with e | e | e | e <;> (simp [e]; rfl)
theorem run_clear_votes (w : World) (ty : TypeId) (b o n c : Nat) (hn : 0 < n) (hc : ∀ j, j < n * 4 → (w.cell? ⟨b, o + j, none⟩).isSome = true) (hf : ∀ j, j < n * 4 → w.frozen? ⟨b, o + j, none⟩ = false) :
    (Builtin.clear_ #[72] ty #[.slice (some ⟨b, o, none⟩) n c]).run Tryz.prog w = .ok (.tuple #[]) (w.setCells b o (Builtin.zeroCells (Value.agg #[.int .i64 0, .string ⟨#[]⟩, .int .i64 0, .int .i64 0]).cells n).toList) := by
  have hst := run_storeCells_cells (P := Tryz.prog) b o (Builtin.zeroCells (Value.agg #[.int .i64 0, .string ⟨#[]⟩, .int .i64 0, .int .i64 0]).cells n).toList 0 w (by rw [zeroVotes_len]; simpa using hc) (by rw [zeroVotes_len]; simpa using hf) (zeroVotes_one n)
  simp only [Nat.add_zero] at hst
  obtain ⟨m, rfl⟩ : ∃ m, n = m + 1 := ⟨n - 1, by omega⟩
  simp [Builtin.clear_, run_underlying Tryz.underlying72, zeroVote, hst]
set_option maxHeartbeats 4000000 in
set_option maxRecDepth 100000 in
theorem delVotes (gf c1 : Nat) (eg : ∀ args w, (callFunc gf args).run Tryz.prog w = .ok (.enter gf args) w) (p : Bk.Sgn × Int → Bool) (base : Nat) (v : Value) (X : List (Bk.Sgn × Int)) (w : World) (hb : nG ≤ base) (hX : X.length ≤ 1000000) (ho : w.ownsRow base tVote 4 v X.length (flatV X))
    (hp : ∀ W x, Upd (fun j => v.ownBlock = some j) w W → x ∈ X → Calls Tryz.prog gf #[.agg #[.int .i64 x.1.key, .string ⟨x.1.text.toArray⟩, .int .i64 x.1.mark, .int .i64 x.2], .pointer (some ⟨c1, 0, none⟩)] W fun e w' => e = .returned (.bool (p x)) ∧ Nw W w') :
    Calls Tryz.prog 45 #[v, .func (.func gf) #[] #[.pointer (some ⟨c1, 0, none⟩)]] w fun e w' => ∃ v', e = .returned v' ∧ w'.ownsRow base tVote 4 v' (X.filter fun x => !p x).length (flatV (X.filter fun x => !p x)) ∧ Upd (fun j => v.ownBlock = some j) w w' := by
  have qi := indexV1 gf c1 eg p _ _ v X w (vote_sls ho) hX (fun W x uz hx => hp W x (Nw.upd _ uz) hx)
  have hidx : idxA p X = -1 ∧ (∀ j (h : j < X.length), p X[j] = false) ∨ ∃ (k : Nat) (hk : k < X.length), idxA p X = k ∧ p X[k] = true ∧ ∀ j (h : j < X.length), j < k → p X[j] = false := by
    unfold idxA
    cases h : X.findIdx? p with
    | none =>
      have := List.findIdx?_eq_none_iff.1 h
      exact Or.inl ⟨rfl, fun j hj => this _ (List.getElem_mem hj)⟩
    | some i =>
      obtain ⟨hi, hpi, hno⟩ := List.findIdx?_eq_some_iff_getElem.1 h
      exact Or.inr ⟨i, hi, rfl, hpi, fun j hj hji => by have := hno j hji; simpa using this⟩
  rcases hidx with ⟨e1, hall⟩ | ⟨k0, hk0, e1, hpk, hno⟩
  · rw [e1] at qi
    have hfil : X.filter (fun x => !p x) = X := List.filter_eq_self.2 (fun x hx => by
      obtain ⟨j, hj, rfl⟩ := List.mem_iff_getElem.1 hx
      rw [hall j hj]; rfl)
    rw [hfil]
    have Ho := Lib.hid ho
    obtain ⟨av, cv, rfl⟩ := own_sl ho
    have QI := Lib.hid qi
    clear qi e1 hall hfil ho hp
    go_enter Tryz.func45, Tryz.ntmps45
    go_wp2_with fail
    (with_reducible refine (QI.out).mono ?_)
    rintro _ w1 ⟨rfl, u1⟩
    go_wp2_with fail
    go_ret
    exact ⟨_, rfl, owns_upd' Ho.out u1 (fun _ _ e => e), Nw.upd _ u1⟩
  · rw [e1] at qi
    obtain ⟨hl0, ho2⟩ := ho
    rcases ho2 with ⟨rfl, h0⟩ | ⟨gb, cap, cur, rfl, hbg, hcell, hn, hcap, hsz, htk⟩
    · omega
    have hd0 : DelV gb cap (fun x => !p x) X k0 (k0 + 1) w := by
      refine ⟨X, cur, rfl, hcell, hsz, rowC_of (fun y hy => ?_) (by rw [List.length_map]; exact htk), ?_, rfl⟩
      · obtain ⟨z, _, rfl⟩ := List.mem_map.1 hy; rfl
      · rw [List.take_succ_eq_append_getElem hk0, List.filter_append, List.filter_cons, hpk]
        have : (X.take k0).filter (fun x => !p x) = X.take k0 := List.filter_eq_self.2 (fun x hx => by
          obtain ⟨j, hj, rfl⟩ := List.mem_iff_getElem.1 hx
          rw [List.length_take] at hj
          rw [List.getElem_take, hno j (by omega) (by omega)]; rfl)
        rw [this]; simp
    have HD0 := Lib.hid hd0
    have HP := Lib.hid hp
    have hgb : gb < w.heap.size := lt_of_block hcell
    have hG : nG ≤ gb := Nat.le_trans hb hbg
    have hne1 : ((k0 : Int) == -1) = false := beq_eq_false_iff_ne.2 (by omega)
    unfold maxLen at hcap
    have QI := Lib.hid qi
    have HB := Lib.hid hbg
    obtain ⟨o, ho⟩ : ∃ o : Nat, 0 = o := ⟨_, rfl⟩
    have HO := Lib.hid ho
    rw [show (⟨gb, 0, none⟩ : Addr) = ⟨gb, o, none⟩ from by rw [ho]] at QI ⊢
    clear qi e1 hpk hno hd0 hp hcell htk hsz ho hbg
    go_enter Tryz.func45, Tryz.ntmps45
    go_wp2_with fail
    (with_reducible refine (QI.out).mono ?_)
    rintro _ w1 ⟨rfl, u1⟩
    have hd1 := HD0.out.nw u1
    have HD1 := Lib.hid hd1
    have hu1 : Hid (Upd (fun j => j = gb) w w1) := Nw.upd _ u1
    clear hd1 u1 HD0
    go_wp2_with fail
    go_loopw [5, 6] (fun iv jv wr => ∃ i j : Nat, iv = .int .i64 i ∧ jv = .int .i64 j ∧ i < j ∧ j ≤ X.length ∧ Hid (DelV gb cap (fun x => !p x) X i j wr) ∧ Hid (Upd (fun j => j = gb) w wr)) (fun iv jv _ => X.length - (intOf jv).toNat)
    case atStart => exact ⟨k0, k0 + 1, rfl, by go_num, by omega, by omega, HD1.out, hu1.out⟩
    case round =>
      obtain ⟨i, j, rfl, rfl, hij, hj, HD, hu⟩ := hrel
      by_cases hlt : j < X.length
      · obtain ⟨p0, p1, p2, p3⟩ := HD.out.at hlt
        rw [HO.out] at p0 p1 p2 p3
        have hcall := fun W (uW : Nw wr W) => HP.out W X[j] (hu.out.nw uW |>.mono (fun k _ e => by rw [e]; rfl)) (List.getElem_mem hlt)
        have hskip : p X[j] = true → ∀ z, Nw wr z → Hid (DelV gb cap (fun x => !p x) X i (j + 1) z) := fun e z uz => (HD.out.nw uz).skip hlt (by rw [e]; rfl)
        have hkeep := fun (x : Bk.Sgn × Int) (hx : X[j] = x) (hq : p x = false) (z : World) (uz : Nw wr z) => (HD.out.nw uz).keep hlt hij hn hx (by rw [hx, hq]; rfl)
        have hold := fun (z : World) (uz : Nw wr z) => (HD.out.nw uz).some (a := i) (by omega)
        have hfrz := fun (z : World) (uz : Nw wr z) => (HD.out.nw uz).frozen
        rw [HO.out] at hkeep hold
        generalize X[j] = x at *
        obtain ⟨⟨xk, xt, xm⟩, xp⟩ := x
        dsimp only at *
        have n1 := nw_alloc wr (.cells #[.int .i64 xk, .string ⟨xt.toArray⟩, .int .i64 xm, .int .i64 xp] tVote)
        have k1 := heap_new wr (.cells #[.int .i64 xk, .string ⟨xt.toArray⟩, .int .i64 xm, .int .i64 xp] tVote)
        obtain ⟨_, _, _, _⟩ := cell4 k1
        have HC := Lib.hid (hcall _ n1)
        have HKp := Lib.hid (hkeep _ rfl)
        have HSk := Lib.hid hskip
        have HOl := Lib.hid hold
        have HFr := Lib.hid hfrz
        have K1 := Lib.hid k1
        clear hcall hkeep hold hfrz hskip k1
        generalize p ((⟨xk, xt, xm⟩, xp) : Bk.Sgn × Int) = q at *
        cases q with
        | true =>
          clear HKp HOl HFr
          go_wp2_with (go_at_fn gf; ((with_reducible refine HC.out.mono ?_); rintro _ w2 ⟨rfl, u2⟩; obtain ⟨_, _, _, _⟩ := cell4 (Nw.keep u2 K1.out)))
          have U2 := n1.trans u2
          have hr := HSk.out trivial w2 U2
          have hU : Hid (Upd (fun j => j = gb) w w2) := hu.out.nw U2
          clear HSk
          go_roundw
          case rel => exact ⟨i, j + 1, rfl, by go_num, by omega, by omega, hr, hU⟩
          case measure => simp [intOf]; omega
        | false =>
          clear HSk
          go_wp2_with (go_at_fn gf; ((with_reducible refine HC.out.mono ?_); rintro _ w2 ⟨rfl, u2⟩; obtain ⟨_, _, _, _⟩ := cell4 (Nw.keep u2 K1.out); obtain ⟨y, y0, y1, y2, y3⟩ := HOl.out w2 (n1.trans u2); have f0 := HFr.out w2 (n1.trans u2) (o + i * 4); have f1 := HFr.out w2 (n1.trans u2) (o + i * 4 + 1); have f2 := HFr.out w2 (n1.trans u2) (o + i * 4 + 2); have f3 := HFr.out w2 (n1.trans u2) (o + i * 4 + 3)))
          have U2 := n1.trans u2
          have hr : Hid _ := HKp.out trivial w2 U2
          have hU : Hid _ := (((((hu.out.nw U2).set1 hG (o + i * 4) (.int .i64 xk)).set1 hG (o + i * 4 + 1) (.string ⟨xt.toArray⟩)).set1 hG (o + i * 4 + 2) (.int .i64 xm)).set1 hG (o + i * 4 + 3) (.int .i64 xp))
          clear HKp HOl HFr
          go_roundw
          case rel => exact ⟨i + 1, j + 1, by go_num, by go_num, by omega, by omega, hr, hU⟩
          case measure => simp [intOf]; omega
      · obtain rfl : j = X.length := by omega
        have hrow : ∀ w9, (∃ L, w9 = wr.setCells gb (o + i * 4) L) → w9.ownsRow base tVote 4 (.slice (some ⟨gb, o, none⟩) i cap) (X.filter fun x => !p x).length (flatV (X.filter fun x => !p x)) ∧ Upd (fun j => j = gb) w w9 := by
          rintro w9 ⟨L, rfl⟩
          obtain ⟨Z, cur2, h1, h2, h3, h4, h5, h6⟩ := HD.out.row
          obtain ⟨cur3, b1, b2, b3⟩ := setCells_low L (o + i * 4) wr cur2 h2
          rw [List.take_length] at h5
          have hli : i = (X.filter fun x => !p x).length := by rw [← h5, List.length_take]; omega
          have hv4 : ∀ y ∈ (X.filter fun x => !p x).map vtL, y.length = 4 := fun y hy => by
            obtain ⟨z, _, rfl⟩ := List.mem_map.1 hy; rfl
          refine ⟨⟨by unfold flatV; rw [flat_len _ hv4, List.length_map], Or.inr ⟨gb, cap, cur3, by rw [← hli, HO.out], HB.out, b1, by omega, by unfold maxLen; omega, by omega, ?_⟩⟩, Upd.setCells1 hG L _ hu.out⟩
          · have hrc : RowC 4 cur3 ((X.filter fun x => !p x).map vtL) := fun a ha r hr => by
              rw [List.length_map] at ha
              rw [b3 _ (by rw [← HO.out]; omega), h4 a (by rw [List.length_map]; omega) r hr, List.getElem_map, List.getElem_map]
              congr 2
              simp only [← h5, List.getElem_take]
            have := rowC_take (by omega) hv4 hrc
            rw [List.length_map] at this
            exact this
        have hcl : ∀ ty, (Builtin.clear_ #[72] ty #[.slice (some ⟨gb, o + i * 4, none⟩) (X.length - i) (cap - i)]).run Tryz.prog wr = .ok (.tuple #[]) (wr.setCells gb (o + i * 4) (Builtin.zeroCells (Value.agg #[.int .i64 0, .string ⟨#[]⟩, .int .i64 0, .int .i64 0]).cells (X.length - i)).toList) := fun ty => by
          obtain ⟨Z, cur2, h1, h2, h3, h4, h5, h6⟩ := HD.out.row
          refine run_clear_votes wr ty gb (o + i * 4) (X.length - i) (cap - i) (by omega) (fun j hj => ?_) (fun j _ => cells_frozen h2 _)
          rw [cells_cell h2, Array.getElem?_eq_getElem (by rw [h3, ← HO.out]; omega)]; rfl
        generalize (Builtin.zeroCells (Value.agg #[.int .i64 0, .string ⟨#[]⟩, .int .i64 0, .int .i64 0]).cells (X.length - i)).toList = L at *
        have hfin := hrow _ ⟨L, rfl⟩
        have Hfin := Lib.hid hfin
        clear hfin hrow
        have hij2 : (i : Int) ≤ X.length := by omega
        have hic : (i : Int) ≤ cap := by omega
        go_wp2_with fail
        go_ret
        exact ⟨_, rfl, Hfin.out.1, Hfin.out.2.mono (fun k _ e => by rw [e]; rfl)⟩
end Go.Proofs.YtpceoogmkbcfmaaGreatDoor
namespace Go.Proofs.YtpceoogmkbcfmaaGreatDoor
open Go.RowKit
set_option linter.unusedVariables false
set_option linter.unusedSimpArgs false
attribute [local irreducible] Calls

theorem call_both : ∀ args w, (callFunc 46 args).run Tryz.prog w = .ok (.enter 46 args) w := enters_of Tryz.func46 (by kernel_rfl) rfl
/-- 'v.signed.Key != key'. -/
theorem bothP (x : Bk.Sgn × Int) (k : Int) (b1 : Nat) (w : World) (h1 : w.heap[b1]? = some (.cells #[.int .i64 k] tNum (0, 0))) :
    Calls Tryz.prog 46 #[.agg #[.int .i64 x.1.key, .string ⟨x.1.text.toArray⟩, .int .i64 x.1.mark, .int .i64 x.2], .pointer (some ⟨b1, 0, none⟩)] w fun e w' => e = .returned (.bool (decide (x.1.key ≠ k))) ∧ Nw w w' := by
  have n1 := nw_alloc w (.cells #[.int .i64 x.1.key, .string ⟨x.1.text.toArray⟩, .int .i64 x.1.mark, .int .i64 x.2] tVote)
  have c1 : w.cell? ⟨b1, 0, none⟩ = some (.int .i64 k) := by rw [cells_cell h1]; rfl
  have c1' := later_cell ⟨_, n1⟩ c1
  obtain ⟨⟨xk, xt, xm⟩, xp⟩ := x
  dsimp only at *
  by_cases hk : xk = k
  · have dk : (xk != k) = false := by simp [hk]
    have dk2 : (xk == k) = true := by simp [hk]
    have hr : Hid (decide (xk ≠ k) = false) := by show _ = _; simp [hk]
    clear hk h1
    go_enter Tryz.func46, Tryz.ntmps46
    go_wp2_with fail
    go_ret
    exact ⟨ret_bool (by rw [← decide_not]; exact hr.out.symm), n1⟩
  · have dk : (xk != k) = true := by simp [hk]
    have dk2 : (xk == k) = false := by simp [hk]
    have hr : Hid (decide (xk ≠ k) = true) := by show _ = _; simp [hk]
    clear hk h1
    go_enter Tryz.func46, Tryz.ntmps46
    go_wp2_with fail
    go_ret
    exact ⟨ret_bool (by rw [← decide_not]; exact hr.out.symm), n1⟩
/-- What Both returns. -/
def bothV : Option (Bk.Sgn × Bk.Sgn) → Value
  | some (a, b) => .tuple #[sgnV a, sgnV b, .bool true]
  | none => .tuple #[sgnV Bk.noSgn, sgnV Bk.noSgn, .bool false]
theorem both_results {w : World} {b1 b2 : Nat} {tmps : Array Value} {v0 v1 v2 u0 u1 u2 : Value} {T T' : TypeId} {fz fz' : Nat × Nat} (h1 : w.heap[b1]? = some (.cells #[v0, v1, v2] T fz)) (h2 : w.heap[b2]? = some (.cells #[u0, u1, u2] T' fz')) (ht : tmps.getD 8 undef = .pointer (some ⟨b1, 0, none⟩)) (ht' : tmps.getD 9 undef = .pointer (some ⟨b2, 0, none⟩)) :
    (results Tryz.f24 tmps).run Tryz.prog w = .ok (.tuple #[.agg #[v0, v1, v2], .agg #[u0, u1, u2], tmps.getD 10 undef]) w := by
  have c0 : w.cell? ⟨b1, 0, none⟩ = some v0 := by rw [cells_cell h1]; rfl
  have c1 : w.cell? ⟨b1, 1, none⟩ = some v1 := by rw [cells_cell h1]; rfl
  have c2 : w.cell? ⟨b1, 2, none⟩ = some v2 := by rw [cells_cell h1]; rfl
  have d0 : w.cell? ⟨b2, 0, none⟩ = some u0 := by rw [cells_cell h2]; rfl
  have d1 : w.cell? ⟨b2, 1, none⟩ = some u1 := by rw [cells_cell h2]; rfl
  have d2 : w.cell? ⟨b2, 2, none⟩ = some u2 := by rw [cells_cell h2]; rfl
  clear h1 h2
  have ht2 : tmps[8]?.getD undef = .pointer (some ⟨b1, 0, none⟩) := by simpa using ht
  have ht3 : tmps[9]?.getD undef = .pointer (some ⟨b2, 0, none⟩) := by simpa using ht'
  clear ht ht'
  simp [results, Tryz.results24, go_sem, ht2, ht3, c0, c1, c2, d0, d1, d2]
theorem both_results_d {w : World} {b1 b2 : Nat} {tmps : Array Value} {v0 v1 v2 u0 u1 u2 : Value} {T T' : TypeId} {fz fz' : Nat × Nat} (h1 : w.heap[b1]? = some (.cells #[v0, v1, v2] T fz)) (h2 : w.heap[b2]? = some (.cells #[u0, u1, u2] T' fz')) (ht : tmps.getD 8 undef = .pointer (some ⟨b1, 0, none⟩)) (ht' : tmps.getD 9 undef = .pointer (some ⟨b2, 0, none⟩)) :
    (results Tryz.f24 tmps).run Tryz.prog w.drew = .ok (.tuple #[.agg #[v0, v1, v2], .agg #[u0, u1, u2], tmps.getD 10 undef]) w.drew :=
  both_results (w := w.drew) h1 h2 ht ht'
theorem set3_other {w : World} {b b' : Nat} {o : Obj} (h : w.heap[b]? = some o) (hne : b ≠ b') (v0 v1 v2 : Value) : (((w.setCell ⟨b', 0, none⟩ v0).setCell ⟨b', 1, none⟩ v1).setCell ⟨b', 2, none⟩ v2).heap[b]? = some o := by
  rw [heap_setCell _ _ _ _ hne, heap_setCell _ _ _ _ hne, heap_setCell _ _ _ _ hne, h]
namespace At
theorem bothOf_drop {Z : List (Bk.Sgn × Int)} {n : Nat} (h : n < Z.length) : bothOf (Z.drop n) = match (Z.drop (n + 1)).find? (fun b => decide (Z[n].2 ≠ b.2)) with
    | some b => some (Z[n].1, b.1)
    | none => bothOf (Z.drop (n + 1)) := by
  rw [List.drop_eq_getElem_cons h, bothOf]
  rfl
end At
set_option maxHeartbeats 8000000 in
set_option maxRecDepth 100000 in
theorem Both_w (ro : Option Addr) (v : Value) (V : List (Bk.Sgn × Int)) (key : Int) (text : List UInt8) (w : World) (g : Gl w) (hv : ∃ a n c, v = .slice a n c) (hV : V.length ≤ 100000)
    (hvt : ∀ z, Nw w z → Calls Tryz.prog 34 #[.pointer ro, v, .string ⟨text.toArray⟩] z fun e w' => ∃ v', e = .returned v' ∧ w'.ownsRow z.heap.size tVote 4 v' V.length (flatV V) ∧ Nw z w') :
    Calls Tryz.prog 24 #[.pointer ro, v, .int .i64 key, .string ⟨text.toArray⟩] w fun e w' => e = .returned (bothV (At.both V key)) ∧ Nw w w' := by
  have hgb := g.big
  obtain ⟨av, nv, cv, rfl⟩ := hv
  have n1 := nw_alloc w (.cells #[.int .i64 key] tNum)
  have k1 := heap_new w (.cells #[.int .i64 key] tNum)
  have s1 : (w.alloc (.cells #[.int .i64 key] tNum)).heap.size = w.heap.size + 1 := by simp
  generalize hW1 : w.alloc (.cells #[.int .i64 key] tNum) = W1 at *
  have n2 := nw_alloc W1 (.cells #[.int .i64 0, .string ⟨#[]⟩, .int .i64 0] tSigned)
  have k2 := heap_new W1 (.cells #[.int .i64 0, .string ⟨#[]⟩, .int .i64 0] tSigned)
  have s2 : (W1.alloc (.cells #[.int .i64 0, .string ⟨#[]⟩, .int .i64 0] tSigned)).heap.size = W1.heap.size + 1 := by simp
  generalize hW2 : W1.alloc (.cells #[.int .i64 0, .string ⟨#[]⟩, .int .i64 0] tSigned) = W2 at *
  have n3 := nw_alloc W2 (.cells #[.int .i64 0, .string ⟨#[]⟩, .int .i64 0] tSigned)
  have k3 := heap_new W2 (.cells #[.int .i64 0, .string ⟨#[]⟩, .int .i64 0] tSigned)
  generalize hW3 : W2.alloc (.cells #[.int .i64 0, .string ⟨#[]⟩, .int .i64 0] tSigned) = W3 at *
  replace k2 := n3.keep k2
  replace k1 := n3.keep (n2.keep k1)
  have U3 := (n1.trans n2).trans n3
  rw [s1] at k2 s2
  rw [s2] at k3
  have hbe : Hid (At.both V key = At.bothOf (V.filter fun x => !decide (x.1.key ≠ key))) := by
    show _ = _
    unfold At.both
    congr 1
    refine List.filter_congr fun x _ => ?_
    by_cases e : x.1.key = key <;> simp [e]
  have Hv := Lib.hid hvt
  have K1 := Lib.hid k1
  have K2 := Lib.hid k2
  have K3 := Lib.hid k3
  have HW : Hid (((w.alloc (.cells #[.int .i64 key] tNum)).alloc (.cells #[.int .i64 0, .string ⟨#[]⟩, .int .i64 0] tSigned)).alloc (.cells #[.int .i64 0, .string ⟨#[]⟩, .int .i64 0] tSigned) = W3) := by show _ = _; rw [hW1, hW2, hW3]
  clear hvt k1 k2 k3 hW1 hW2 hW3 n1 n2 n3 s1 s2
  go_enter Tryz.func24, Tryz.ntmps24
  go_wp2_with fail
  rw [HW.out]
  go_wp2_with fail
  (with_reducible refine (Hv.out _ U3).mono ?_)
  rintro _ w4 ⟨v4, rfl, o4, u4⟩
  have U4 := U3.trans u4
  obtain ⟨a4, c4, rfl⟩ := own_sl o4
  have k14 := Nw.keep u4 K1.out
  have k24 := Nw.keep u4 K2.out
  have k34 := Nw.keep u4 K3.out
  have hob : ∀ j, (Value.slice a4 V.length c4).ownBlock = some j → W3.heap.size ≤ j := fun j e => (own_block o4 e).1
  have hW3s : w.heap.size + 3 ≤ W3.heap.size := by
    have := lt_of_block K3.out
    omega
  have QD := Lib.hid (delVotes 46 w.heap.size call_both (fun x => decide (x.1.key ≠ key)) W3.heap.size _ V w4 (by omega) (by omega) o4 (fun W x uW _ => bothP x key _ W (uW.keep k14 (fun e => by have := hob _ e; omega))))
  have K24 := Lib.hid k24
  have K34 := Lib.hid k34
  clear k14 k24 k34 o4 K1 K2 K3
  go_wp2_with fail
  (with_reducible refine (QD.out).mono ?_)
  rintro _ w5 ⟨v5, rfl, o5, u5⟩
  have U5 : Hid (Nw W3 w5) := u4.trans' u5 (fun j hj e => by have := hob _ e; omega)
  have K25 := Lib.hid (u5.keep K24.out (fun e => by have := hob _ e; omega))
  have K35 := Lib.hid (u5.keep K34.out (fun e => by have := hob _ e; omega))
  have hZl := Nat.le_trans (List.length_filter_le (fun x : Bk.Sgn × Int => !decide (x.1.key ≠ key)) V) hV
  have U5w : Hid (Nw w w5) := U3.trans U5.out
  generalize V.filter (fun x => !decide (x.1.key ≠ key)) = Z at *
  obtain ⟨a5, c5, rfl⟩ := own_sl o5
  obtain ⟨a5', c5', e5, hm5, ha5⟩ := vote_cells (vote_sls o5)
  obtain ⟨rfl, rfl⟩ : a5 = a5' ∧ c5 = c5' := by simp at e5; exact e5
  have hc5 : Z = [] ∨ (Z.length ≤ c5 ∧ c5 ≤ 9223372036854775807) := by
    rcases o5.2 with ⟨e, h0⟩ | ⟨gb, cap, cur, e, _, _, hn, hcap, _⟩
    · exact Or.inl (List.length_eq_zero_iff.1 h0)
    · simp only [Value.slice.injEq] at e
      obtain ⟨_, _, rfl⟩ := e
      unfold maxLen at hcap
      exact Or.inr ⟨hn, by omega⟩
  unfold maxLen at hm5
  have Ha5 := Lib.hid ha5
  have Hc5 := Lib.hid hc5
  clear o5 u5 e5 ha5 hc5 QD K24 K34 u4 U4 hob Hv
  go_wp2_with fail
  go_loopw [24] (fun iv wr => ∃ n : Nat, n ≤ Z.length ∧ iv = .int .i64 n ∧ Hid (At.bothOf Z = At.bothOf (Z.drop n)) ∧ Nw w5 wr) (fun iv _ => Z.length - (intOf iv).toNat)
  case atStart => exact ⟨0, Nat.zero_le _, rfl, by show _ = _; rw [List.drop_zero], Upd.refl _ _⟩
  case round =>
    obtain ⟨n, hn, rfl, HB, u⟩ := hrel
    obtain ⟨wq, rfl⟩ : ∃ x, x = wr := ⟨_, rfl⟩
    by_cases hlt : n < Z.length
    · rcases Ha5.out with hnil | ⟨b, o, rfl, _, hb, hc⟩
      · simp [hnil] at hlt
      rcases Hc5.out with hnil | ⟨hcl, hcm⟩
      · simp [hnil] at hlt
      obtain ⟨p0, p1, p2, p3⟩ := hc n hlt
      have d0 := ((Nw.below u).cell (p := ⟨b, o + n * 4, none⟩) hb).trans p0
      have d1 := ((Nw.below u).cell (p := ⟨b, o + n * 4 + 1, none⟩) hb).trans p1
      have d2 := ((Nw.below u).cell (p := ⟨b, o + n * 4 + 2, none⟩) hb).trans p2
      have d3 := ((Nw.below u).cell (p := ⟨b, o + n * 4 + 3, none⟩) hb).trans p3
      have hbd := At.bothOf_drop hlt
      have hin : ∀ j (h : j < Z.length), (Z[j]'h) ∈ Z := fun j h => List.getElem_mem h
      generalize hx : Z[n] = x at *
      have Hc := Lib.hid hc
      have Hbd := Lib.hid hbd
      clear hc p0 p1 p2 p3 hbd
      obtain ⟨⟨xk, xt, xm⟩, xp⟩ := x
      dsimp only at *
      have n6 := nw_alloc wq (.cells #[.int .i64 xk, .string ⟨xt.toArray⟩, .int .i64 xm, .int .i64 xp] tVote)
      have k6 := heap_new wq (.cells #[.int .i64 xk, .string ⟨xt.toArray⟩, .int .i64 xm, .int .i64 xp] tVote)
      have K6 := Lib.hid k6
      have hnc : ((n : Int) + 1) ≤ (c5 : Int) := by omega
      have hnl : ((n : Int) + 1) ≤ (Z.length : Int) := by omega
      have hx' := Lib.hid hx
      clear k6 hx hin
      by_cases hcn : c5 = n + 1
      · have hzn : Z.length = n + 1 := by omega
        go_wp2_with fail
        generalize hWW : wq.alloc (.cells #[.int .i64 xk, .string ⟨xt.toArray⟩, .int .i64 xm, .int .i64 xp] tVote) = WW at *
        clear hWW
        go_loopw [34] (fun iv wr => iv = .int .i64 0 ∧ Nw WW wr) (fun iv _ => 0)
        case atStart => exact ⟨rfl, Upd.refl _ _⟩
        case round =>
          obtain ⟨rfl, u6⟩ := hrel
          have U6 := n6.trans u6
          have hnx : Hid (At.bothOf Z = At.bothOf (Z.drop (n + 1))) := by
            show _ = _
            rw [HB.out, Hbd.out, List.drop_eq_nil_of_le (by omega)]
            rfl
          have hz0 : (Z.length : Int) - ((n : Int) + 1) = 0 := by omega
          have hz1 : Z.length - (n + 1) = 0 := by omega
          go_wp2_with fail
          go_roundw
          case rel => exact ⟨n + 1, by omega, by go_num, hnx, u.trans U6⟩
          case measure => simp [intOf]; omega
      · go_wp2_with fail
        generalize hWW : wq.alloc (.cells #[.int .i64 xk, .string ⟨xt.toArray⟩, .int .i64 xm, .int .i64 xp] tVote) = WW at *
        clear hWW
        go_loopw [34] (fun iv wr => ∃ m : Nat, n + 1 + m ≤ Z.length ∧ iv = .int .i64 m ∧ Hid (∀ j (h : j < Z.length), n + 1 ≤ j → j < n + 1 + m → Z[j].2 = xp) ∧ Nw WW wr) (fun iv _ => Z.length - (n + 1) - (intOf iv).toNat)
        case atStart => exact ⟨0, by omega, rfl, fun j h h1 h2 => by omega, Upd.refl _ _⟩
        case round =>
          obtain ⟨m, hm, rfl, hall, u6⟩ := hrel
          have U6 := n6.trans u6
          have k6' := Nw.keep u6 K6.out
          obtain ⟨_, _, _, _⟩ := cell4 k6'
          by_cases hml : n + 1 + m < Z.length
          · obtain ⟨p0, p1, p2, p3⟩ := Hc.out (n + 1 + m) hml
            have hbw : ∀ j, wr.cell? ⟨b, j, none⟩ = w5.cell? ⟨b, j, none⟩ := fun j => (Nw.below (u.trans U6)).cell (p := ⟨b, j, none⟩) hb
            have e0 : o + (n + 1 + m) * 4 = o + (n + 1) * 4 + m * 4 := by omega
            rw [e0] at p0 p1 p2 p3
            have q0 := (hbw _).trans p0
            have q1 := (hbw _).trans p1
            have q2 := (hbw _).trans p2
            have q3 := (hbw _).trans p3
            have hnext : Z[n + 1 + m].2 = xp → Hid (∀ j (h : j < Z.length), n + 1 ≤ j → j < n + 1 + (m + 1) → Z[j].2 = xp) := fun e j h h1 h2 => by
              by_cases ej : j = n + 1 + m
              · subst ej; exact e
              · exact hall.out j h h1 (by omega)
            have hfound : ¬ xp = Z[n + 1 + m].2 → Hid (At.both V key = some (⟨xk, xt, xm⟩, Z[n + 1 + m].1)) := fun e => by
              show _ = _
              rw [hbe.out, HB.out, Hbd.out]
              have : (Z.drop (n + 1)).find? (fun b => decide (xp ≠ b.2)) = some Z[n + 1 + m] := by
                rw [List.find?_eq_some_iff_getElem]
                refine ⟨by simpa using e, m, by rw [List.length_drop]; omega, by rw [List.getElem_drop], fun j hj => ?_⟩
                rw [List.getElem_drop]
                have := hall.out (n + 1 + j) (by omega) (by omega) (by omega)
                simp [this]
              rw [this]
            clear p0 p1 p2 p3 hbw e0
            generalize Z[n + 1 + m] = y at *
            obtain ⟨⟨yk, yt, ym⟩, yp⟩ := y
            dsimp only at *
            have n7 := nw_alloc wr (.cells #[.int .i64 yk, .string ⟨yt.toArray⟩, .int .i64 ym, .int .i64 yp] tVote)
            have k7 := heap_new wr (.cells #[.int .i64 yk, .string ⟨yt.toArray⟩, .int .i64 ym, .int .i64 yp] tVote)
            have K7 := Lib.hid k7
            have k69 := Nw.keep n7 k6'
            obtain ⟨_, _, _, _⟩ := cell4 k69
            clear k7
            by_cases hp : xp = yp
            · have hnx := hnext hp.symm
              have dp : (xp != yp) = false := by simp [hp]
              have dp2 : (xp == yp) = true := by simp [hp]
              clear hnext hfound hp
              go_wp2_with fail
              go_roundw
              case rel => exact ⟨m + 1, by omega, by go_num, hnx, u6.trans n7⟩
              case measure => simp [intOf]; omega
            · have hfd := hfound hp
              have dp : (xp != yp) = true := by simp [hp]
              have dp2 : (xp == yp) = false := by simp [hp]
              clear hnext hfound hp
              have k29 := Nw.keep ((u.trans U6).trans n7) K25.out
              have k39 := Nw.keep ((u.trans U6).trans n7) K35.out
              have K7o := K7.out
              go_wp2_with fail
              generalize hW9 : wr.alloc (.cells #[.int .i64 yk, .string ⟨yt.toArray⟩, .int .i64 ym, .int .i64 yp] tVote) = W9 at *
              obtain ⟨_, _, _⟩ := cell3 k29
              obtain ⟨_, _, _⟩ := cell3 k39
              obtain ⟨_, _, _, _⟩ := cell4 K7o
              have f0 := cells_frozen k29 0
              have f1 := cells_frozen k29 1
              have f2 := cells_frozen k29 2
              have f3 := cells_frozen k39 0
              have f4 := cells_frozen k39 1
              have f5 := cells_frozen k39 2
              have K29 := Lib.hid k29
              have K39 := Lib.hid k39
              have U9 : Hid (Nw w W9) := by
                have := U5w.out.trans (u.trans U6)
                exact this.trans n7
              have s1 := U5w.out.size
              have s2 := u.size
              have s3 := U6.size
              have s4 := lt_of_block k39
              have s5 := lt_of_block K35.out
              have ne1 : ¬ w.heap.size + 1 = wr.heap.size := by omega
              have ne2 : ¬ wr.heap.size = w.heap.size + 1 := by omega
              have ne3 : ¬ w.heap.size + 1 = wq.heap.size := by omega
              have ne4 : ¬ wq.heap.size = w.heap.size + 1 := by omega
              have ne5 : ¬ w.heap.size + 1 + 1 = wr.heap.size := by omega
              have ne6 : ¬ wr.heap.size = w.heap.size + 1 + 1 := by omega
              have ne7 : ¬ w.heap.size + 1 + 1 = wq.heap.size := by omega
              have ne8 : ¬ wq.heap.size = w.heap.size + 1 + 1 := by omega
              clear k29 k39 k69 K7o hW9 n7 hall
              go_region
              go_wp2_with fail
              (try simp only [Exit.inBlock, Exit.then])
              have j1 := set3_other (set3 K29.out (v0 := .int .i64 xk) (v1 := .string ⟨xt.toArray⟩) (v2 := .int .i64 xm)) (show w.heap.size + 1 ≠ w.heap.size + 1 + 1 by omega) (.int .i64 yk) (.string ⟨yt.toArray⟩) (.int .i64 ym)
              have j2 := set3 (set3_other K39.out (show w.heap.size + 1 + 1 ≠ w.heap.size + 1 by omega) (.int .i64 xk) (.string ⟨xt.toArray⟩) (.int .i64 xm)) (v0 := .int .i64 yk) (v1 := .string ⟨yt.toArray⟩) (v2 := .int .i64 ym)
              have j3 := (set3_upd (S := fun _ => False) (set3_upd (S := fun _ => False) U9.out (show w.heap.size ≤ w.heap.size + 1 by omega) (by omega) (.int .i64 xk) (.string ⟨xt.toArray⟩) (.int .i64 xm)) (show w.heap.size ≤ w.heap.size + 1 + 1 by omega) (by omega) (.int .i64 yk) (.string ⟨yt.toArray⟩) (.int .i64 ym)).drew
              refine bodyPost_ret (both_results_d j1 j2 rfl rfl) rfl ⟨?_, j3⟩
              rw [hfd.out]; rfl
          · have hnx : Hid (At.bothOf Z = At.bothOf (Z.drop (n + 1))) := by
              show _ = _
              rw [HB.out, Hbd.out]
              have : (Z.drop (n + 1)).find? (fun b => decide (xp ≠ b.2)) = none := by
                rw [List.find?_eq_none]
                intro y hy
                obtain ⟨j, hj, rfl⟩ := List.mem_iff_getElem.1 hy
                rw [List.length_drop] at hj
                rw [List.getElem_drop]
                have := hall.out (n + 1 + j) (by omega) (by omega) (by omega)
                simp [this]
              rw [this]
            go_wp2_with fail
            go_roundw
            case rel => exact ⟨n + 1, by omega, by go_num, hnx, u.trans U6⟩
            case measure => simp [intOf]; omega
    · obtain rfl : n = Z.length := by omega
      have hres : Hid (At.both V key = none) := by show _ = _; rw [hbe.out, HB.out, List.drop_length]; rfl
      have k29 := Nw.keep u K25.out
      have k39 := Nw.keep u K35.out
      obtain ⟨_, _, _⟩ := cell3 k29
      obtain ⟨_, _, _⟩ := cell3 k39
      have f0 := cells_frozen k29 0
      have f1 := cells_frozen k29 1
      have f2 := cells_frozen k29 2
      have f3 := cells_frozen k39 0
      have f4 := cells_frozen k39 1
      have f5 := cells_frozen k39 2
      have K29 := Lib.hid k29
      have K39 := Lib.hid k39
      clear k29 k39
      go_wp2_with fail
      (try simp only [Exit.inBlock, Exit.then])
      exact bodyPost_ret (both_results (set3_other (set3 K29.out) (by omega) _ _ _) (set3 (set3_other K39.out (by omega) _ _ _)) rfl rfl) rfl ⟨by rw [hres.out]; rfl, set3_upd (S := fun _ => False) (set3_upd (S := fun _ => False) (U5w.out.trans u) (by omega) (by omega) _ _ _) (by omega) (by omega) _ _ _⟩
end Go.Proofs.YtpceoogmkbcfmaaGreatDoor
