/- Types and values in memory, and among a statement's arguments. -/
import Derived.Test.YtcelfjoopagmlaaGreatDoorPkFKChains5
import Derived.Test.YtcelfjoopagmlaaGreatDoorPkFKChains7
namespace Go.Proofs.YtcelfjoopagmlaaGreatDoor
open Go.ChangeShapes Go.WideShapes Go.ChangeAt Go.RowKit Go.Joins
set_option linter.unusedVariables false
set_option linter.unusedSimpArgs false

open Fm (Ty Vl Str)
abbrev tTy : TypeId := 24
abbrev tFd : TypeId := 49
abbrev tVl : TypeId := 28
def sF (s : Str) : Value := .string ⟨s.toArray⟩
/-- A slice of fields reads as those of a type. -/
inductive TyAt (w : World) : Value → Ty → Prop
  | mk {fv : Value} {k : Int} (lo hi : Nat) (C : List (Str × Value × Ty)) (hs : SlS 3 lo hi w fv (C.map fun c => [sF c.1, .int .i64 c.2.2.kind, c.2.1])) (hk : I64 k) (hl : ∀ c ∈ C, c.1.length ≤ maxLen) (hc : ∀ c ∈ C, TyAt w c.2.1 c.2.2) : TyAt w fv (.mk k (C.map fun c => (c.1, c.2.2)))
theorem TyAt.nw {w w' : World} {fv : Value} {t : Ty} (h : TyAt w fv t) (u : Nw w w') : TyAt w' fv t := by
  induction h with
  | mk lo hi C hs hk hl hc ih => exact .mk lo hi C (hs.nw u) hk hl ih
theorem TyAt.kind {w : World} {fv : Value} {t : Ty} (h : TyAt w fv t) : I64 t.kind := by cases h with | mk lo hi C hs hk hl hc => exact hk
theorem TyAt.open_ {w : World} {fv : Value} {t : Ty} (h : TyAt w fv t) : ∃ (lo hi : Nat) (C : List (Str × Value × Ty)), t.fs = (C.map fun c => (c.1, c.2.2)) ∧ SlS 3 lo hi w fv (C.map fun c => [sF c.1, .int .i64 c.2.2.kind, c.2.1]) ∧ (∀ c ∈ C, c.1.length ≤ maxLen) ∧ ∀ c ∈ C, TyAt w c.2.1 c.2.2 := by
  cases h with | mk lo hi C hs hk hl hc => exact ⟨lo, hi, C, rfl, hs, hl, hc⟩
theorem TyAt.cells {w : World} {fv : Value} {t : Ty} (h : TyAt w fv t) :
    ∃ a cap, fv = .slice a t.fs.length cap ∧ t.fs.length ≤ maxLen ∧ (t.fs = [] ∨ ∃ b off, a = some ⟨b, off, none⟩ ∧ b < w.heap.size ∧ ∀ i (h : i < t.fs.length), ∃ sv, w.cell? ⟨b, off + i * 3, none⟩ = some (.string ⟨(t.fs[i]).1.toArray⟩) ∧ w.cell? ⟨b, off + i * 3 + 1, none⟩ = some (.int .i64 (t.fs[i]).2.kind) ∧ w.cell? ⟨b, off + i * 3 + 2, none⟩ = some sv ∧ TyAt w sv (t.fs[i]).2 ∧ (t.fs[i]).1.length ≤ maxLen) := by
  obtain ⟨lo, hi, C, e, hs, hl, hc⟩ := h.open_
  rw [e]
  obtain ⟨a, cap, rfl, hm, h⟩ := hs.open_
  rw [List.length_map] at hm
  refine ⟨a, cap, by rw [List.length_map, List.length_map], by rw [List.length_map]; exact hm, ?_⟩
  rcases h with h | ⟨b, off, rfl, _, hb1, hb, hcl⟩
  · exact Or.inl (by rw [List.map_eq_nil_iff.1 h]; rfl)
  · refine Or.inr ⟨b, off, rfl, hb, fun i hi => ?_⟩
    rw [List.length_map] at hi
    have h2 := (hcl i (by simpa using hi)).2
    simp only [List.getElem_map] at h2 ⊢
    have hm := List.getElem_mem hi
    refine ⟨C[i].2.1, ?_, ?_, ?_, hc _ hm, hl _ hm⟩
    · exact h2 0 (by omega)
    · exact h2 1 (by omega)
    · exact h2 2 (by omega)
/-! ### Values -/
def SlP (P : Nat → Prop) (w : World) (v : Value) (xs : List Value) : Prop := (∃ a cap, v = .slice a 0 cap ∧ xs = []) ∨ ∃ b, P b ∧ Sl b (b + 1) w v xs
def SlSP (P : Nat → Prop) (sz : Nat) (w : World) (v : Value) (xs : List (List Value)) : Prop := (∃ a cap, v = .slice a 0 cap ∧ xs = []) ∨ ∃ b, P b ∧ SlS sz b (b + 1) w v xs
section
variable {P Q S : Nat → Prop} {w w' : World} {v : Value}
theorem SlP.upd {xs : List Value} (h : SlP P w v xs) (u : Upd S w w') (hs : ∀ k, P k → ¬ S k) : SlP P w' v xs :=
  h.imp id (fun ⟨b, hb, hl⟩ => ⟨b, hb, hl.upd u (fun k h1 h2 => (show k = b by omega) ▸ hs _ hb)⟩)
theorem SlSP.upd {sz : Nat} {xs : List (List Value)} (h : SlSP P sz w v xs) (u : Upd S w w') (hs : ∀ k, P k → ¬ S k) : SlSP P sz w' v xs :=
  h.imp id (fun ⟨b, hb, hl⟩ => ⟨b, hb, hl.upd u (fun k h1 h2 => (show k = b by omega) ▸ hs _ hb)⟩)
theorem SlP.mono {xs : List Value} (h : SlP P w v xs) (hs : ∀ k, k < w.heap.size → P k → Q k) : SlP Q w v xs := by
  rcases h with h | ⟨b, hb, hl⟩
  · exact Or.inl h
  · rcases hl with h | ⟨b', off, cap, h1, h2, h3, h4, h5, h6, h7⟩
    · exact Or.inl h
    · obtain rfl : b' = b := by omega
      exact Or.inr ⟨b', hs _ h6 hb, Or.inr ⟨b', off, cap, h1, h2, h3, h4, h5, h6, h7⟩⟩
theorem SlSP.mono {sz : Nat} {xs : List (List Value)} (h : SlSP P sz w v xs) (hs : ∀ k, k < w.heap.size → P k → Q k) : SlSP Q sz w v xs := by
  rcases h with h | ⟨b, hb, hl⟩
  · exact Or.inl h
  · rcases hl with h | ⟨b', off, cap, h1, h2, h3, h4, h5, h6, h7⟩
    · exact Or.inl h
    · obtain rfl : b' = b := by omega
      exact Or.inr ⟨b', hs _ h6 hb, Or.inr ⟨b', off, cap, h1, h2, h3, h4, h5, h6, h7⟩⟩
theorem SlP.of_sl {lo hi : Nat} {xs : List Value} (h : Sl lo hi w v xs) (hs : ∀ k, lo ≤ k → k < hi → k < w.heap.size → P k) : SlP P w v xs := by
  rcases h with h | ⟨b, off, cap, h1, h2, h3, h4, h5, h6, h7⟩
  · exact Or.inl h
  · exact Or.inr ⟨b, hs b h4 h5 h6, Or.inr ⟨b, off, cap, h1, h2, h3, Nat.le_refl _, Nat.lt_succ_self _, h6, h7⟩⟩
theorem SlSP.of_sls {sz lo hi : Nat} {xs : List (List Value)} (h : SlS sz lo hi w v xs) (hs : ∀ k, lo ≤ k → k < hi → k < w.heap.size → P k) : SlSP P sz w v xs := by
  rcases h with h | ⟨b, off, cap, h1, h2, h3, h4, h5, h6, h7⟩
  · exact Or.inl h
  · exact Or.inr ⟨b, hs b h4 h5 h6, Or.inr ⟨b, off, cap, h1, h2, h3, Nat.le_refl _, Nat.lt_succ_self _, h6, h7⟩⟩
theorem SlP.sl {xs : List Value} (h : SlP P w v xs) : ∃ lo hi, Sl lo hi w v xs := by
  rcases h with h | ⟨b, _, h⟩
  · exact ⟨0, 0, Or.inl h⟩
  · exact ⟨_, _, h⟩
theorem SlSP.sls {sz : Nat} {xs : List (List Value)} (h : SlSP P sz w v xs) : ∃ lo hi, SlS sz lo hi w v xs := by
  rcases h with h | ⟨b, _, h⟩
  · exact ⟨0, 0, Or.inl h⟩
  · exact ⟨_, _, h⟩
end
structure VC where
  nv : Value
  vv : Value
  v : Vl
def vcL (c : VC) : List Value := [.int .i64 c.v.kind, .int .i64 c.v.n, c.nv, c.vv]
/-- The slices of names and values read as those of a value; all of it lies in blocks that P holds of. -/
inductive VlAt (P : Nat → Prop) (w : World) : Value → Value → Vl → Prop
  | mk {nv vv : Value} {k n : Int} (N : List Str) (C : List VC) (hn : SlP P w nv (N.map sF)) (hs : SlSP P 4 w vv (C.map vcL)) (hk : I64 k) (hi : I64 n) (hl : ∀ s ∈ N, s.length ≤ maxLen) (hc : ∀ c ∈ C, VlAt P w c.nv c.vv c.v) : VlAt P w nv vv (.mk k n N (C.map VC.v))
section
variable {P Q S : Nat → Prop} {w w' : World} {nv vv : Value} {v : Vl}
theorem VlAt.upd (h : VlAt P w nv vv v) (u : Upd S w w') (hs : ∀ k, P k → ¬ S k) : VlAt P w' nv vv v := by
  induction h with
  | mk N C hn h2 hk hi hl hc ih => exact .mk N C (hn.upd u hs) (h2.upd u hs) hk hi hl ih
theorem VlAt.nw (h : VlAt P w nv vv v) (u : Nw w w') : VlAt P w' nv vv v := h.upd u (fun _ _ s => s)
theorem VlAt.mono (h : VlAt P w nv vv v) (hs : ∀ k, k < w.heap.size → P k → Q k) : VlAt Q w nv vv v := by
  induction h with
  | mk N C hn h2 hk hi hl hc ih => exact .mk N C (hn.mono hs) (h2.mono hs) hk hi hl ih
theorem VlAt.kind (h : VlAt P w nv vv v) : I64 v.kind := by cases h with | mk N C hn h2 hk hi hl hc => exact hk
theorem VlAt.num (h : VlAt P w nv vv v) : I64 v.n := by cases h with | mk N C hn h2 hk hi hl hc => exact hi
theorem VlAt.okI (h : VlAt P w nv vv v) : ∀ d, Fm.okI d v := by
  induction h with
  | mk N C hn h2 hk hi hl hc ih =>
    intro d
    cases d with
    | zero => trivial
    | succ d => exact ⟨hi, fun x hx => by
        obtain ⟨c, hc, rfl⟩ := List.mem_map.1 hx
        exact ih c hc d⟩
theorem VlAt.open_ (h : VlAt P w nv vv v) : ∃ C : List VC, v.vals = C.map VC.v ∧ SlP P w nv (v.names.map sF) ∧ SlSP P 4 w vv (C.map vcL) ∧ (∀ s ∈ v.names, s.length ≤ maxLen) ∧ ∀ c ∈ C, VlAt P w c.nv c.vv c.v := by
  cases h with | mk N C hn h2 hk hi hl hc => exact ⟨C, rfl, hn, h2, hl, hc⟩
theorem VlAt.names (h : VlAt P w nv vv v) : ∃ a cap, nv = .slice a v.names.length cap ∧ v.names.length ≤ maxLen ∧ (v.names = [] ∨ ∃ b off, a = some ⟨b, off, none⟩ ∧ b < w.heap.size ∧ ∀ i (h : i < v.names.length), w.cell? ⟨b, off + i, none⟩ = some (.string ⟨(v.names[i]).toArray⟩) ∧ (v.names[i]).length ≤ maxLen) := by
  obtain ⟨C, e, hn, h2, hl, hc⟩ := h.open_
  obtain ⟨lo, hi', hs⟩ := hn.sl
  obtain ⟨a, cap, rfl, hm, h⟩ := hs.open_
  rw [List.length_map] at hm
  refine ⟨a, cap, by rw [List.length_map], hm, ?_⟩
  rcases h with ⟨_, _, h⟩ | ⟨b, off, rfl, _, hb1, hb, hcl⟩
  · exact Or.inl (List.map_eq_nil_iff.1 h)
  · refine Or.inr ⟨b, off, rfl, hb, fun i hi => ⟨?_, hl _ (List.getElem_mem hi)⟩⟩
    rw [hcl i (by simpa using hi), List.getElem?_map, List.getElem?_eq_getElem hi]
    rfl
theorem VlAt.vals (h : VlAt P w nv vv v) : ∃ a cap, vv = .slice a v.vals.length cap ∧ v.vals.length ≤ maxLen ∧ (v.vals = [] ∨ ∃ b off, a = some ⟨b, off, none⟩ ∧ b < w.heap.size ∧ ∀ i (h : i < v.vals.length), ∃ nv' vv', w.cell? ⟨b, off + i * 4, none⟩ = some (.int .i64 (v.vals[i]).kind) ∧ w.cell? ⟨b, off + i * 4 + 1, none⟩ = some (.int .i64 (v.vals[i]).n) ∧ w.cell? ⟨b, off + i * 4 + 2, none⟩ = some nv' ∧ w.cell? ⟨b, off + i * 4 + 3, none⟩ = some vv' ∧ VlAt P w nv' vv' (v.vals[i])) := by
  obtain ⟨C, e, hn, h2, hl, hc⟩ := h.open_
  rw [e]
  obtain ⟨lo, hi', hs⟩ := h2.sls
  obtain ⟨a, cap, rfl, hm, h⟩ := hs.open_
  rw [List.length_map] at hm
  refine ⟨a, cap, by rw [List.length_map, List.length_map], by rw [List.length_map]; exact hm, ?_⟩
  rcases h with h | ⟨b, off, rfl, _, hb1, hb, hcl⟩
  · exact Or.inl (by rw [List.map_eq_nil_iff.1 h]; rfl)
  · refine Or.inr ⟨b, off, rfl, hb, fun i hi => ?_⟩
    rw [List.length_map] at hi
    have h2 := (hcl i (by simpa using hi)).2
    simp only [List.getElem_map] at h2 ⊢
    have hm := List.getElem_mem hi
    refine ⟨C[i].nv, C[i].vv, ?_, ?_, ?_, ?_, hc _ hm⟩
    · exact h2 0 (by omega)
    · exact h2 1 (by omega)
    · exact h2 2 (by omega)
    · exact h2 3 (by omega)
theorem VlAt.nil (P : Nat → Prop) (w : World) {k n : Int} (hk : I64 k) (hn : I64 n) : VlAt P w (.slice none 0 0) (.slice none 0 0) (.mk k n [] []) :=
  .mk [] [] (Or.inl ⟨_, _, rfl, rfl⟩) (Or.inl ⟨_, _, rfl, rfl⟩) hk hn (fun s hs => by cases hs) (fun s hs => by cases hs)
end
/-! ### Among the arguments -/
section
variable {H : Type} {enc : TypeId × Value → H} {w : World} {base : Nat} {sp : Nat → Bool} {held : Bool} {n : Nat} {x : DataW H × List MemPlace}
theorem trod_slice_fuel {P : Program} {t e : TypeId} {sz : Nat} {cs : List Value} (ht : P.underlying t = some (.slice e)) (hc : P.cellsOf e = sz) (hsz : 0 < sz) (h : DataW.trod enc P w base sp held n t cs = some x) :
    ∃ v xs, cs = [v] ∧ SlS sz 0 w.heap.size w v xs ∧ ∀ c ∈ xs, ∃ m y, m < n ∧ DataW.trod enc P w base sp held m e c = some y := by
  rcases DataW.trod_slice ht h with ⟨h0, _⟩ | ⟨a, len, cap, elems, rest, m, hfuel, rfl, rfl, hb, hl, hm, hlen, hel, _, _⟩
  · exact ⟨_, [], h0, Or.inl ⟨none, 0, rfl, rfl⟩, fun c hc => by cases hc⟩
  · have hel' : ∀ i, i < len → ∃ c y, w.cells? base (a.add (i * sz)) sz = some c ∧ DataW.trod enc P w base sp held m e c = some y := fun i hi => by
      have := hel i hi
      rw [hc] at this
      have hy : ∃ y, elems[i]? = some y := ⟨elems[i], by rw [List.getElem?_eq_getElem (by omega)]⟩
      obtain ⟨y, hy⟩ := hy
      rw [hy] at this
      obtain ⟨c, h1, h2⟩ := Option.bind_eq_some_iff.1 this
      exact ⟨c, y, h1, h2⟩
    by_cases h0 : len = 0
    · subst h0
      exact ⟨_, [], rfl, Or.inl ⟨some a, cap, rfl, rfl⟩, fun c hc => by cases hc⟩
    · obtain ⟨C, hC⟩ : ∃ C : Nat → List Value, ∀ i, i < len → w.cells? base (a.add (i * sz)) sz = some (C i) ∧ ∃ y, DataW.trod enc P w base sp held m e (C i) = some y := by
        refine ⟨fun i => if hi : i < len then (hel' i hi).choose else [], fun i hi => ?_⟩
        simp only [dif_pos hi]
        obtain ⟨y, h1, h2⟩ := (hel' i hi).choose_spec
        exact ⟨h1, y, h2⟩
      obtain ⟨hz, hcell⟩ := cells?_spec (hC 0 (by omega)).1
      have hc0 : ∃ u, w.cell? ((a.add (0 * sz)).add 0) = some u := by
        have := hcell 0 hsz
        rw [List.getElem?_eq_getElem (by omega)] at this
        exact ⟨_, this⟩
      obtain ⟨u, hu⟩ := hc0
      have hz0 : (a.add (0 * sz)).add 0 = a := by simp [Addr.add]
      rw [hz0] at hu
      obtain ⟨b, off, spot⟩ := a
      have hspot : spot = none := World.cell?_spot hu
      subst hspot
      have hbl := World.block_lt_of_cell? w _ hu
      refine ⟨_, (List.range len).map C, rfl, Or.inr ⟨b, off, cap, by simp, by simpa using hl, hm, Nat.zero_le _, hbl, hbl, fun i hi => ?_⟩, fun c hc => ?_⟩
      · have hi' : i < len := by simpa using hi
        obtain ⟨h1, h2⟩ := cells?_spec (hC i hi').1
        simp only [List.getElem_map, List.getElem_range]
        refine ⟨h1, fun j hj => ?_⟩
        rw [← h2 j hj, add_plain, add_plain]
      · obtain ⟨i, hi, rfl⟩ := List.mem_map.1 hc
        obtain ⟨y, hy⟩ := (hC i (List.mem_range.1 hi)).2
        exact ⟨m, y, by omega, hy⟩
theorem list_of_relT {α : Type} {f : α → List Value} {Q : α → Prop} : ∀ (xs : List (List Value)), (∀ c ∈ xs, ∃ y, c = f y ∧ Q y) → ∃ l : List α, xs = l.map f ∧ ∀ y ∈ l, Q y := by
  intro xs
  induction xs with
  | nil => exact fun _ => ⟨[], rfl, fun y hy => by cases hy⟩
  | cons c xs ih =>
    intro h
    obtain ⟨l, h1, h2⟩ := ih (fun c hc => h c (List.mem_cons_of_mem _ hc))
    obtain ⟨y, h3, h4⟩ := h c (List.mem_cons_self ..)
    exact ⟨y :: l, by rw [h1, h3]; rfl, fun z hz => by rcases List.mem_cons.1 hz with rfl | hz; exact h4; exact h2 z hz⟩
set_option maxRecDepth 100000 in
theorem trod_ty : ∀ (n : Nat) {cs : List Value} {x : DataW H × List MemPlace}, DataW.trod enc Tryz.prog w base sp held n tTy cs = some x → ∃ (fv : Value) (t : Ty), cs = [.int .i64 t.kind, fv] ∧ TyAt w fv t := by
  intro n
  induction n using Nat.strongRecOn with
  | ind n ih =>
    intro cs x h
    obtain ⟨xs, m, hm, rfl, hl, hlen, hf⟩ := DataW.trod_struct Tryz.underlying24 h
    have hc : Tryz.prog.cellsOf 24 = 2 := by kernel_rfl
    rw [hc] at hl
    match cs, hl with
    | [c0, c1], _ =>
      match xs, hlen with
      | [y0, y1], _ =>
        have k0 : DataW.trod enc Tryz.prog w base sp held m 3 [c0] = some y0 := hf 0 _ rfl
        have k1 : DataW.trod enc Tryz.prog w base sp held m 22 [c1] = some y1 := hf 1 _ rfl
        obtain ⟨z0, e0, w0⟩ := trod_int_cell Tryz.underlying3 k0
        obtain ⟨v, ys, e1, h2, h3⟩ := trod_slice_fuel Tryz.underlying22 (sz := 3) (by kernel_rfl) (by omega) k1
        simp only [List.cons.injEq, and_true] at e0 e1
        subst e0 e1
        obtain ⟨C, rfl, h5⟩ := list_of_relT (f := fun c : Str × Value × Ty => [sF c.1, .int .i64 c.2.2.kind, c.2.1]) (Q := fun c : Str × Value × Ty => c.1.length ≤ maxLen ∧ TyAt w c.2.1 c.2.2) ys (fun c hc => by
          obtain ⟨m2, y, hm2, hy⟩ := h3 c hc
          obtain ⟨xs2, m3, hm3, rfl, hl2, hlen2, hf2⟩ := DataW.trod_struct Tryz.underlying49 hy
          have hc2 : Tryz.prog.cellsOf 49 = 3 := by kernel_rfl
          rw [hc2] at hl2
          match c, hl2 with
          | [d0, d1, d2], _ =>
            match xs2, hlen2 with
            | [q0, q1], _ =>
              have r0 : DataW.trod enc Tryz.prog w base sp held m3 9 [d0] = some q0 := hf2 0 _ rfl
              have r1 : DataW.trod enc Tryz.prog w base sp held m3 24 [d1, d2] = some q1 := hf2 1 _ rfl
              obtain ⟨s, es, ls⟩ := trod_str_cell Tryz.underlying9 r0
              obtain ⟨fv, t, et, ht⟩ := ih m3 (by omega) r1
              simp only [List.cons.injEq, and_true] at es et
              obtain ⟨et1, et2⟩ := et
              subst es et1 et2
              exact ⟨(s, _, t), rfl, ls, ht⟩)
        exact ⟨_, .mk z0 (C.map fun c => (c.1, c.2.2)), rfl, .mk _ _ C h2 (i64_of_wf w0) (fun c hc => (h5 c hc).1) (fun c hc => (h5 c hc).2)⟩
set_option maxRecDepth 100000 in
theorem trod_vl : ∀ (n : Nat) {cs : List Value} {x : DataW H × List MemPlace}, DataW.trod enc Tryz.prog w base sp held n tVl cs = some x → ∃ (nv vv : Value) (v : Vl), cs = [.int .i64 v.kind, .int .i64 v.n, nv, vv] ∧ VlAt (fun k => k < w.heap.size) w nv vv v := by
  intro n
  induction n using Nat.strongRecOn with
  | ind n ih =>
    intro cs x h
    obtain ⟨xs, m, hm, rfl, hl, hlen, hf⟩ := DataW.trod_struct Tryz.underlying28 h
    have hc : Tryz.prog.cellsOf 28 = 4 := by kernel_rfl
    rw [hc] at hl
    match cs, hl with
    | [c0, c1, c2, c3], _ =>
      match xs, hlen with
      | [y0, y1, y2, y3], _ =>
        have k0 : DataW.trod enc Tryz.prog w base sp held m 3 [c0] = some y0 := hf 0 _ rfl
        have k1 : DataW.trod enc Tryz.prog w base sp held m 3 [c1] = some y1 := hf 1 _ rfl
        have k2 : DataW.trod enc Tryz.prog w base sp held m 25 [c2] = some y2 := hf 2 _ rfl
        have k3 : DataW.trod enc Tryz.prog w base sp held m 26 [c3] = some y3 := hf 3 _ rfl
        obtain ⟨z0, e0, w0⟩ := trod_int_cell Tryz.underlying3 k0
        obtain ⟨z1, e1, w1⟩ := trod_int_cell Tryz.underlying3 k1
        obtain ⟨nv, N, e2, s2, l2⟩ := trod_strs_cell Tryz.underlying25 Tryz.underlying9 (by kernel_rfl) k2
        obtain ⟨v, ys, e3, h2, h3⟩ := trod_slice_fuel Tryz.underlying26 (sz := 4) (by kernel_rfl) (by omega) k3
        simp only [List.cons.injEq, and_true] at e0 e1 e2 e3
        subst e0 e1 e2 e3
        obtain ⟨C, rfl, h5⟩ := list_of_relT (f := vcL) (Q := fun c : VC => VlAt (fun k => k < w.heap.size) w c.nv c.vv c.v) ys (fun c hc => by
          obtain ⟨m2, y, hm2, hy⟩ := h3 c hc
          obtain ⟨nv', vv', v', ev, hv⟩ := ih m2 (by omega) hy
          exact ⟨⟨nv', vv', v'⟩, ev, hv⟩)
        exact ⟨_, _, .mk z0 z1 N (C.map VC.v), rfl, .mk N C (SlP.of_sl s2 (fun k _ h _ => h)) (SlSP.of_sls h2 (fun k _ h _ => h)) (i64_of_wf w0) (i64_of_wf w1) l2 h5⟩
end
end Go.Proofs.YtcelfjoopagmlaaGreatDoor
