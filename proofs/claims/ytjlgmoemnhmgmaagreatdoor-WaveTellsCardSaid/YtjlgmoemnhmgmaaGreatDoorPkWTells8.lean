/- Right; slices.Index over strings; slices.ContainsFunc over fields and values with a function that captures one variable. A value has a type. eval.Right, state.Has. Appends in a region that draws its order: of cells of an own or a known slice, of zeros. -/
import Derived.Test.YtjlgmoemnhmgmaaGreatDoorPkWTells7
import Derived.Test.YtjlgmoemnhmgmaaGreatDoorPkWTells6
import Derived.Lib.AppendZerosOnto
import Derived.Deep.RegionHeldLaw
namespace Go.Proofs.YtjlgmoemnhmgmaaGreatDoor
open Go.RowKit
set_option linter.unusedVariables false
set_option linter.unusedSimpArgs false
attribute [local irreducible] Calls
open Fm (Ty Vl Str nameB rightTy rightVl)

set_option maxRecDepth 100000 in
theorem types_right_c (fv : Value) (t : Ty) (w : World) (g : Gm w) (h : TyAt w fv t) : Calls Tryz.prog 63 #[.agg #[.int .i64 t.kind, fv]] w fun e w' => e = .returned (.bool (rightTy 4 t)) ∧ Nw w w' := by
  have n1 := nw_alloc w (.cells #[.int .i64 t.kind, fv] tTy)
  have hr : Hid (∀ y, Nw w y → Calls Tryz.prog 79 #[.agg #[.int .i64 t.kind, fv]] y fun e w' => e = .returned (.bool (rightTy 4 t)) ∧ Nw y w') := fun y u => by
    have n1 := nw_alloc y (.cells #[.int .i64 t.kind, fv] tTy)
    have hr : Hid (∀ z, Nw y z → Calls Tryz.prog 106 #[.agg #[.int .i64 t.kind, fv], .int .i64 4] z fun e w' => e = .returned (.bool (rightTy 4 t)) ∧ Nw z w') := fun z u2 => rightType_c 4 (by decide) fv t z (g.upd (u.trans u2)) (h.nw (u.trans u2))
    have HU := Lib.hid n1
    obtain ⟨a, cap, rfl, -⟩ := h.cells
    have hr1 := Lib.hid (hr.out _ n1)
    clear hr n1 h
    go_enter Tryz.func79, Tryz.ntmps79
    go_wp2_with fail
    (with_reducible refine (hr1.out).mono ?_)
    rintro _ w2 ⟨rfl, u2⟩
    have U2 := Lib.hid (HU.out.trans u2)
    clear u2
    go_wp2_with fail
    go_ret
    exact ⟨rfl, U2.out⟩
  have HU := Lib.hid n1
  have hr1 := Lib.hid (hr.out _ n1)
  obtain ⟨a, cap, rfl, -⟩ := h.cells
  clear hr n1 h
  go_enter Tryz.func63, Tryz.ntmps63
  go_wp2_with fail
  (with_reducible refine (hr1.out).mono ?_)
  rintro _ w2 ⟨rfl, u2⟩
  have U2 := Lib.hid (HU.out.trans u2)
  clear u2
  go_wp2_with fail
  go_ret
  exact ⟨rfl, U2.out⟩
/-- What the walk is told of a slice of strings. -/
abbrev StrC (w : World) (a : Option Addr) (l : List Str) : Prop := l = [] ∨ ∃ b off, a = some ⟨b, off, none⟩ ∧ b < w.heap.size ∧ ∀ i (h : i < l.length), w.cell? ⟨b, off + i, none⟩ = some (.string ⟨(l[i]).toArray⟩) ∧ (l[i]).length ≤ maxLen
set_option maxRecDepth 100000 in
theorem index_s (a : Option Addr) (cap : Nat) (l : List Str) (s : Str) (w : World) (h : StrC w a l) (hl : l.length ≤ maxLen) :
    Calls Tryz.prog 94 #[.slice a l.length cap, .string ⟨s.toArray⟩] w fun e w' => e = .returned (.int .i64 (Fm.idx s l)) ∧ w = w' := by
  have HC := Lib.hid h
  unfold maxLen at hl
  have hl1 : (l.length : Int) ≤ 9223372036854775807 := by omega
  clear h
  go_enter Tryz.func94, Tryz.ntmps94
  go_wp2_with fail
  go_loopw [8] (fun i wr => ∃ n : Nat, n ≤ l.length ∧ i = .int .i64 (n : Int) ∧ Hid (∀ j (h : j < l.length), j < n → (decide (l[j] = s)) = false) ∧ w = wr) (fun i _ => l.length - (intOf i).toNat)
  case atStart => exact ⟨0, Nat.zero_le _, rfl, fun j _ h => absurd h (Nat.not_lt_zero _), rfl⟩
  case round =>
    obtain ⟨n, hn, rfl, hall, rfl⟩ := hrel
    by_cases hlt : n < l.length
    · have hlt1 : (n : Int) < l.length := by omega
      rcases HC.out with hnil | ⟨b, off, rfl, _, hcell⟩
      · simp [hnil] at hlt
      have c0 := (hcell n hlt).1
      have hnext : l[n] ≠ s → Hid (∀ j (h : j < l.length), j < n + 1 → (decide (l[j] = s)) = false) := fun e j h hj => by
        by_cases ej : j = n
        · subst ej; exact decide_eq_false e
        · exact hall.out j h (by omega)
      have hstop : l[n] = s → Hid (Fm.idx s l = n) := fun e => idx_hit hlt (decide_eq_true e) hall.out
      clear hcell
      generalize l[n] = x at *
      by_cases he : x = s
      · have hr := hstop he
        clear hstop hnext
        subst he
        go_wp2_with fail
        go_ret
        rw [hr.out]
        exact ⟨rfl, rfl⟩
      · have hz := hnext he
        have htt : (s == x) = false := by simp; exact fun e => he e.symm
        clear hstop hnext he
        go_wp2_with fail
        go_roundw
        case rel => exact ⟨n + 1, by omega, by go_num, hz, by first | rfl | trivial⟩
        case measure => simp [intOf]; omega
    · obtain rfl : n = l.length := by omega
      have hr : Hid (Fm.idx s l = -1) := idx_miss (fun j h => hall.out j h h)
      clear hall
      go_wp2_with fail
      go_ret
      rw [hr.out]
      exact ⟨rfl, rfl⟩
/-- What the walk is told of the fields of a type. -/
abbrev FdC (w : World) (a : Option Addr) (l : List (Str × Ty)) : Prop := l = [] ∨ ∃ b off, a = some ⟨b, off, none⟩ ∧ b < w.heap.size ∧ ∀ i (h : i < l.length), ∃ sv, w.cell? ⟨b, off + i * 3, none⟩ = some (.string ⟨(l[i]).1.toArray⟩) ∧ w.cell? ⟨b, off + i * 3 + 1, none⟩ = some (.int .i64 (l[i]).2.kind) ∧ w.cell? ⟨b, off + i * 3 + 2, none⟩ = some sv ∧ TyAt w sv (l[i]).2 ∧ (l[i]).1.length ≤ maxLen
theorem FdC.nw {w w' : World} {a : Option Addr} {l : List (Str × Ty)} (h : FdC w a l) (u : Nw w w') : FdC w' a l :=
  h.imp id (fun ⟨b, off, e, hb, hc⟩ => ⟨b, off, e, Nat.lt_of_lt_of_le hb u.size, fun i hi => by
    obtain ⟨sv, h1, h2, h3, h4, h5⟩ := hc i hi
    exact ⟨sv, nw_cellF u h1, nw_cellF u h2, nw_cellF u h3, h4.nw u, h5⟩⟩)
/-- What the walk is told of the values of a record. -/
abbrev VsC (P : Nat → Prop) (w : World) (a : Option Addr) (l : List Vl) : Prop := l = [] ∨ ∃ b off, a = some ⟨b, off, none⟩ ∧ b < w.heap.size ∧ ∀ i (h : i < l.length), ∃ nv' vv', w.cell? ⟨b, off + i * 4, none⟩ = some (.int .i64 (l[i]).kind) ∧ w.cell? ⟨b, off + i * 4 + 1, none⟩ = some (.int .i64 (l[i]).n) ∧ w.cell? ⟨b, off + i * 4 + 2, none⟩ = some nv' ∧ w.cell? ⟨b, off + i * 4 + 3, none⟩ = some vv' ∧ VlAt P w nv' vv' (l[i])
end Go.Proofs.YtjlgmoemnhmgmaaGreatDoor
namespace Go.Proofs.YtjlgmoemnhmgmaaGreatDoor
open Go.RowKit
set_option linter.unusedVariables false
set_option linter.unusedSimpArgs false
attribute [local irreducible] Calls
open Fm (Ty Vl Str nameB rightTy rightVl)

theorem StrC.nw {w w' : World} {a : Option Addr} {l : List Str} (h : StrC w a l) (u : Nw w w') : StrC w' a l :=
  h.imp id (fun ⟨b, off, e, hb, hc⟩ => ⟨b, off, e, Nat.lt_of_lt_of_le hb u.size, fun i hi => ⟨nw_cellF u (hc i hi).1, (hc i hi).2⟩⟩)
theorem VsC.nw {P : Nat → Prop} {w w' : World} {a : Option Addr} {l : List Vl} (h : VsC P w a l) (u : Nw w w') : VsC P w' a l :=
  h.imp id (fun ⟨b, off, e, hb, hc⟩ => ⟨b, off, e, Nat.lt_of_lt_of_le hb u.size, fun i hi => by
    obtain ⟨nv', vv', q0, q1, q2, q3, q4⟩ := hc i hi
    exact ⟨nv', vv', nw_cellF u q0, nw_cellF u q1, nw_cellF u q2, nw_cellF u q3, q4.nw u⟩⟩)
end Go.Proofs.YtjlgmoemnhmgmaaGreatDoor
namespace Go.Proofs.YtjlgmoemnhmgmaaGreatDoor
open Go.RowKit
set_option linter.unusedVariables false
set_option linter.unusedSimpArgs false
attribute [local irreducible] Calls
open Fm (Ty Vl Str nameB rightTy rightVl)

/-! ### A value that is being built -/
structure VB (B : Nat) (w : World) (nv vv : Value) (N : List Str) (C : List VC) : Prop where
  on : w.ownsRow B 9 1 nv N.length (N.map sF)
  ov : w.ownsRow B tVl 4 vv C.length (C.map vcL).flatten
  el : ∀ c ∈ C, VlAt (fun k => B ≤ k ∧ nv.ownBlock ≠ some k ∧ vv.ownBlock ≠ some k) w c.nv c.vv c.v
  ln : ∀ s ∈ N, s.length ≤ maxLen
section
variable {B : Nat} {w w' : World} {nv vv : Value} {N : List Str} {C : List VC}
theorem VB.nil (B : Nat) (w : World) : VB B w (.slice none 0 0) (.slice none 0 0) [] [] :=
  ⟨World.ownsRow_nil _ _ _ _, World.ownsRow_nil _ _ _ _, fun c hc => (by cases hc), fun c hc => (by cases hc)⟩
theorem VB.upd {S : Nat → Prop} (h : VB B w nv vv N C) (u : Upd S w w') (hs : ∀ k, B ≤ k → k < w.heap.size → ¬ S k) : VB B w' nv vv N C :=
  ⟨owns_upd' h.on u (fun k e => hs k (h.on.lt k e).1 (h.on.lt k e).2), owns_upd' h.ov u (fun k e => hs k (h.ov.lt k e).1 (h.ov.lt k e).2), fun c hc => ((h.el c hc).mono (Q := fun k => (B ≤ k ∧ nv.ownBlock ≠ some k ∧ vv.ownBlock ≠ some k) ∧ k < w.heap.size) (fun k hk p => ⟨p, hk⟩)).upd u (fun k p => hs k p.1.1 p.2) |>.mono (fun k _ p => p.1), h.ln⟩
theorem VB.nw (h : VB B w nv vv N C) (u : Nw w w') : VB B w' nv vv N C := h.upd u (fun _ _ _ s => s)
theorem VB.ne (h : VB B w nv vv N C) : ∀ k, nv.ownBlock = some k → vv.ownBlock ≠ some k := fun k e e2 => by
  obtain ⟨_, c1, h1⟩ := own_block h.on e
  obtain ⟨_, c2, h2⟩ := own_block h.ov e2
  rw [h1] at h2
  injection h2 with h2
  injection h2 with _ h2
  exact absurd h2 (by decide)
/-- The value is done. -/
theorem VB.done (h : VB B w nv vv N C) {k n : Int} (hk : I64 k) (hn : I64 n) : VlAt (fun k => B ≤ k) w nv vv (.mk k n N (C.map VC.v)) :=
  .mk N C (SlP.of_sl (Sl.of_owns h.on) (fun k h1 _ _ => h1)) (SlSP.of_sls (SlS.of_owns h.ov (by simp) (by omega) (fun y hy => by
    obtain ⟨c, _, rfl⟩ := List.mem_map.1 hy
    rfl)) (fun k h1 _ _ => h1)) hk hn h.ln (fun c hc => (h.el c hc).mono (fun k _ p => p.1))
/-- A name and a value more. -/
theorem VB.push {wa wb wc wd we : World} {nv' vv' xn xv : Value} {s : Str} {v : Vl} (h : VB B w nv vv N C) (hs : s.length ≤ maxLen) (hB : B ≤ w.heap.size) (u0 : Nw w wa)
    (o1 : wb.ownsRow B 9 1 nv' (N.length + 1) (N.map sF ++ [sF s])) (ua : Upd (fun k => nv.ownBlock = some k) wa wb) (hb1 : ∀ k, nv'.ownBlock = some k → nv.ownBlock = some k ∨ wa.heap.size ≤ k)
    (u1 : Nw wb wc) (hx : VlAt (fun k => B ≤ k ∧ nv'.ownBlock ≠ some k ∧ vv.ownBlock ≠ some k) wc xn xv v) (u2 : Nw wc wd)
    (o2 : we.ownsRow B tVl 4 vv' (C.length + 1) ((C.map vcL).flatten ++ vcL ⟨xn, xv, v⟩)) (ue : Upd (fun k => vv.ownBlock = some k) wd we) (hb2 : ∀ k, vv'.ownBlock = some k → vv.ownBlock = some k ∨ wd.heap.size ≤ k) :
    VB B we nv' vv' (N ++ [s]) (C ++ [⟨xn, xv, v⟩]) ∧ Upd (fun k => nv.ownBlock = some k ∨ vv.ownBlock = some k) w we := by
  have hne := h.ne
  have z0 := u0.size
  have za := ua.size
  have z1 := u1.size
  have z2 := u2.size
  have U : Upd (fun k => nv.ownBlock = some k ∨ vv.ownBlock = some k) w we := (((Nw.trans u0 ua).mono (S' := fun k => nv.ownBlock = some k ∨ vv.ownBlock = some k) (fun k _ e => Or.inl e)).nw (u1.trans u2)).trans' ue (fun k _ e => Or.inr e)
  have nb : ∀ k, nv'.ownBlock = some k → vv.ownBlock ≠ some k := fun k e e2 => by
    rcases hb1 k e with e1 | e1
    · exact hne k e1 e2
    · have := (h.ov.lt k e2).2; omega
  refine ⟨⟨?_, ?_, fun c hc => ?_, fun x hx => ?_⟩, U⟩
  · rw [List.length_append, List.map_append]
    exact owns_upd' (owns_upd' o1 (u1.trans u2) (fun _ _ e => e)) ue (fun k e e2 => nb k e e2)
  · rw [List.length_append, List.map_append, List.flatten_append]
    simpa using o2
  · rcases List.mem_append.1 hc with hc | hc
    · have e1 := ((h.el c hc).mono (Q := fun k => (B ≤ k ∧ nv.ownBlock ≠ some k ∧ vv.ownBlock ≠ some k) ∧ k < w.heap.size) (fun k hk p => ⟨p, hk⟩)).upd U (fun k p e => e.elim p.1.2.1 p.1.2.2)
      refine e1.mono (fun k _ p => ⟨p.1.1, fun e => ?_, fun e => ?_⟩)
      · rcases hb1 k e with e2 | e2
        · exact p.1.2.1 e2
        · have := p.2; omega
      · rcases hb2 k e with e2 | e2
        · exact p.1.2.2 e2
        · have := p.2; omega
    · rw [List.mem_singleton.1 hc]
      have e1 := (hx.mono (Q := fun k => (B ≤ k ∧ nv'.ownBlock ≠ some k ∧ vv.ownBlock ≠ some k) ∧ k < wc.heap.size) (fun k hk p => ⟨p, hk⟩)).upd (Nw.trans u2 ue) (fun k p e => p.1.2.2 e)
      refine e1.mono (fun k _ p => ⟨p.1.1, p.1.2.1, fun e => ?_⟩)
      rcases hb2 k e with e2 | e2
      · exact p.1.2.2 e2
      · have := p.2; omega
  · rcases List.mem_append.1 hx with hx | hx
    · exact h.ln x hx
    · rw [List.mem_singleton.1 hx]; exact hs
end
end Go.Proofs.YtjlgmoemnhmgmaaGreatDoor
namespace Go.Proofs.YtjlgmoemnhmgmaaGreatDoor
open Go.RowKit
set_option linter.unusedVariables false
set_option linter.unusedSimpArgs false

theorem step_catC {P : Program} {w : World} {ops : Array Oper} {o : Oper} {a : Act} {K : Act → World → Prop} {Q : Exit → Act → World → Prop} {E : Prop} (hgd : o.guard = none) (s x : Operand) (t : TypeId)
    (ho : o.op = .call { callee := .builtin .append, args := #[s, x], argTypes := #[t, t] })
    (e : TypeId) (z : Value) (size bytes : Nat) (ht : P.underlying t = some (.slice e)) (hinfo : (P.info? e).map (fun i => (i.zero, i.size, i.bytes)) = some (some z, size, bytes)) (hzs : z.cells.size = size) (hsz : 0 < size)
    (B : Nat) (hB : B ≤ w.heap.size) (hg : nG ≤ B) (v : Value) (n : Nat) (xs : List Value) (hs : a.eval s = v) (hown : w.ownsRow B e size v n xs)
    (ad : Addr) (m c : Nat) (news : List Value) (hx : a.eval x = .slice (some ad) m c) (hl : news.length = m * size) (hnews : ∀ j u, news[j]? = some u → w.cell? (ad.add j) = some u) (h1 : ∀ u ∈ news, u.oneCell' = true)
    (hm : 0 < m) (h63 : n + m ≤ maxLen) (hbytes : (n + m) * bytes ≤ 140737488355328)
    (h : ∀ g cap w', w'.ownsRow B e size (.slice (some ⟨g, 0, none⟩) (n + m) cap) (n + m) (xs ++ news) → Upd (fun k => v.ownBlock = some k) w w' → (v.ownBlock = some g ∨ w.heap.size ≤ g) → K (a.put o.dst (.slice (some ⟨g, 0, none⟩) (n + m) cap)) w') :
    if Region.wanted o (yielded ops a.tmps) = true then Oper.wp P o a w K Q else E := by
  obtain ⟨i0, hi, hz0, hz1, hz2⟩ := info_parts hinfo
  refine step_append_lies _ hgd s x t ho B e i0 z size bytes ht hi hz0 hz1 hz2 hzs hsz v n xs hs hown ad m c news hx hl hnews h1 hm h63 hbytes hB w.heap.size rfl fun g cap w' h2 h3 h4 h5 => h g cap w' h2 ((Upd.refl _ _).grown h3 fun k hk => ⟨Or.inl hk, ?_⟩) (h4.imp id (fun e => by omega))
  have := (hown.lt k hk).1; omega
end Go.Proofs.YtjlgmoemnhmgmaaGreatDoor
