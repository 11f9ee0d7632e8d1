/- eval.Right, state.Has. -/
import Derived.Test.YtcelfjoopagmlaaGreatDoorPkFKChains13
namespace Go.Proofs.YtcelfjoopagmlaaGreatDoor
open Go.RowKit
set_option linter.unusedVariables false
set_option linter.unusedSimpArgs false
attribute [local irreducible] Calls
open Fm (Ty Vl Str nameB rightTy rightVl)

set_option maxRecDepth 100000 in
theorem evright_c (P : Nat → Prop) (nv vv : Value) (v : Vl) (w : World) (h : VlAt P w nv vv v) : Calls Tryz.prog 40 #[.agg #[.int .i64 v.kind, .int .i64 v.n, nv, vv]] w fun e w' => e = .returned (.bool (rightVl 4 v)) ∧ Nw w w' := by
  have n1 := nw_alloc w (.cells #[.int .i64 v.kind, .int .i64 v.n, nv, vv] tVl)
  have hr : Hid (∀ z, Nw w z → Calls Tryz.prog 70 #[.agg #[.int .i64 v.kind, .int .i64 v.n, nv, vv], .int .i64 4] z fun e w' => e = .returned (.bool (rightVl 4 v)) ∧ Nw z w') := fun z u2 => evfits_c P 4 (by decide) nv vv v z (h.nw u2)
  have HU := Lib.hid n1
  obtain ⟨na, nc, rfl, -⟩ := h.names
  obtain ⟨va, vc, rfl, -⟩ := h.vals
  have hr1 := Lib.hid (hr.out _ n1)
  clear hr n1 h
  go_enter Tryz.func40, Tryz.ntmps40
  go_wp2_with fail
  (with_reducible refine (hr1.out).mono ?_)
  rintro _ w2 ⟨rfl, u2⟩
  have U2 := Lib.hid (HU.out.trans u2)
  clear u2
  go_wp2_with fail
  go_ret
  exact ⟨rfl, U2.out⟩
set_option maxRecDepth 100000 in
theorem has_c (P : Nat → Prop) (fv : Value) (t : Ty) (nv vv : Value) (v : Vl) (w : World) (g : Gm w) (ht : TyAt w fv t) (h : VlAt P w nv vv v) : Calls Tryz.prog 21 #[.agg #[.int .i64 t.kind, fv], .agg #[.int .i64 v.kind, .int .i64 v.n, nv, vv]] w fun e w' => e = .returned (.bool (Fm.has t v)) ∧ Nw w w' := by
  have HR := Lib.hid (fun (z : World) (u : Nw w z) => types_right_c fv t z (g.upd u) (ht.nw u))
  have HE := Lib.hid (fun (z : World) (u : Nw w z) => evright_c P nv vv v z (h.nw u))
  have HF := Lib.hid (fun (z : World) (u : Nw w z) (h1 : rightTy 4 t = true) (h2 : rightVl 4 v = true) => stfits_c P 4 t fv v nv vv z h1 h2 (ht.nw u) (h.nw u))
  have hdef : Fm.has t v = (rightTy 4 t && rightVl 4 v && Fm.fits 4 t v) := rfl
  have HD := Lib.hid hdef
  obtain ⟨fa, fc, rfl, -⟩ := ht.cells
  obtain ⟨na, nc, rfl, -⟩ := h.names
  obtain ⟨va, vc, rfl, -⟩ := h.vals
  have n1 := nw_alloc w (.cells #[.int .i64 t.kind, .slice fa t.fs.length fc] tTy)
  have n2 := nw_alloc (w.alloc (.cells #[.int .i64 t.kind, .slice fa t.fs.length fc] tTy)) (.cells #[.int .i64 v.kind, .int .i64 v.n, .slice na v.names.length nc, .slice va v.vals.length vc] tVl)
  have b1 := n2.keep (heap_new w (.cells #[.int .i64 t.kind, .slice fa t.fs.length fc] tTy))
  have b2 := heap_new (w.alloc (.cells #[.int .i64 t.kind, .slice fa t.fs.length fc] tTy)) (.cells #[.int .i64 v.kind, .int .i64 v.n, .slice na v.names.length nc, .slice va v.vals.length vc] tVl)
  rw [World.size_alloc] at b2
  have hN := n1.trans n2
  obtain ⟨W, hW⟩ : ∃ W, W = (w.alloc (.cells #[.int .i64 t.kind, .slice fa t.fs.length fc] tTy)).alloc (.cells #[.int .i64 v.kind, .int .i64 v.n, .slice na v.names.length nc, .slice va v.vals.length vc] tVl) := ⟨_, rfl⟩
  rw [← hW] at hN b1 b2
  have HN := Lib.hid hN
  have HW := Lib.hid hW
  have HC := Lib.hid (fun (y : World) (u : Nw W y) => (show (y.cell? ⟨w.heap.size, 0, none⟩ = some (.int .i64 t.kind) ∧ y.cell? ⟨w.heap.size, 1, none⟩ = some (.slice fa t.fs.length fc)) ∧ y.cell? ⟨w.heap.size + 1, 0, none⟩ = some (.int .i64 v.kind) ∧ y.cell? ⟨w.heap.size + 1, 1, none⟩ = some (.int .i64 v.n) ∧ y.cell? ⟨w.heap.size + 1, 2, none⟩ = some (.slice na v.names.length nc) ∧ y.cell? ⟨w.heap.size + 1, 3, none⟩ = some (.slice va v.vals.length vc) from ⟨⟨by rw [cells_cell (Nw.keep u b1)]; rfl, by rw [cells_cell (Nw.keep u b1)]; rfl⟩, by rw [cells_cell (Nw.keep u b2)]; rfl, by rw [cells_cell (Nw.keep u b2)]; rfl, by rw [cells_cell (Nw.keep u b2)]; rfl, by rw [cells_cell (Nw.keep u b2)]; rfl⟩))
  have hr1 := Lib.hid (HR.out W hN)
  obtain ⟨⟨c0, c1⟩, _⟩ := HC.out W (Upd.refl _ _)
  clear n1 n2 b1 b2 hN hW ht h HR hdef
  go_enter Tryz.func21, Tryz.ntmps21
  go_upto_region 1 with fail
  rw [← HW.out]
  clear HW
  cases h1 : rightTy 4 t with
  | false =>
    rw [h1] at hr1
    have e9 : Hid (Fm.has t v = false) := by show _ = _; rw [HD.out, h1]; rfl
    clear h1 HE HF
    go_wp2_with fail
    (with_reducible refine (hr1.out).mono ?_)
    rintro _ w2 ⟨rfl, u2⟩
    have U2 := Lib.hid u2
    clear u2
    go_wp2_with fail
    go_ret
    exact ⟨by rw [e9.out]; rfl, HN.out.trans U2.out⟩
  | true =>
  rw [h1] at hr1
  go_wp2_with fail
  (with_reducible refine (hr1.out).mono ?_)
  rintro _ w2 ⟨rfl, u2⟩
  have he1 := Lib.hid (HE.out w2 (HN.out.trans u2))
  obtain ⟨_, d0, d1, d2, d3⟩ := HC.out w2 u2
  have U2 := Lib.hid u2
  clear u2 hr1 c0 c1 HE
  cases h2 : rightVl 4 v with
  | false =>
    rw [h2] at he1
    have e9 : Hid (Fm.has t v = false) := by show _ = _; rw [HD.out, h1, h2]; rfl
    clear h1 h2 HF
    go_wp2_with fail
    (with_reducible refine (he1.out).mono ?_)
    rintro _ w3 ⟨rfl, u3⟩
    have U3 := Lib.hid (U2.out.trans u3)
    clear u3
    go_wp2_with fail
    go_ret
    exact ⟨by rw [e9.out]; rfl, HN.out.trans U3.out⟩
  | true =>
  rw [h2] at he1
  have e9 : Hid (Fm.has t v = Fm.fits 4 t v) := by show _ = _; rw [HD.out, h1, h2]; rfl
  go_wp2_with fail
  (with_reducible refine (he1.out).mono ?_)
  rintro _ w3 ⟨rfl, u3⟩
  have hf1 := Lib.hid (HF.out w3 (HN.out.trans (U2.out.trans u3)) h1 h2)
  obtain ⟨⟨x0, x1⟩, y0, y1, y2, y3⟩ := HC.out w3 (U2.out.trans u3)
  have U3 := Lib.hid (U2.out.trans u3)
  clear u3 he1 d0 d1 d2 d3 HF h1 h2
  generalize Fm.fits 4 t v = fb at *
  go_wp2_with fail
  (with_reducible refine (hf1.out).mono ?_)
  rintro _ w4 ⟨rfl, u4⟩
  have U4 := Lib.hid (U3.out.trans u4)
  clear u4
  go_wp2_with fail
  go_ret
  exact ⟨by rw [e9.out]; rfl, HN.out.trans U4.out⟩
/-! ### A value that is being built -/
structure VB (B : Nat) (w : World) (nv vv : Value) (N : List Str) (C : List VC) : Prop where
  on : w.ownsRow B 9 1 nv N.length (N.map sF)
  ov : w.ownsRow B tVl 4 vv C.length (C.map vcL).flatten
  el : ∀ c ∈ C, VlAt (fun k => B ≤ k ∧ nv.ownBlock ≠ some k ∧ vv.ownBlock ≠ some k) w c.nv c.vv c.v
  ln : ∀ s ∈ N, s.length ≤ maxLen
section
variable {B : Nat} {w w' : World} {nv vv : Value} {N : List Str} {C : List VC}
theorem VB.nil (B : Nat) (w : World) : VB B w (.slice none 0 0) (.slice none 0 0) [] [] :=
  ⟨World.ownsRow_nil _ _ _ _, World.ownsRow_nil _ _ _ _, fun c hc => (by cases hc), fun c hc => (by cases hc)⟩
theorem VB.upd {S : Nat → Prop} (h : VB B w nv vv N C) (u : Upd S w w') (hs : ∀ k, B ≤ k → k < w.heap.size → ¬ S k) : VB B w' nv vv N C :=
  ⟨owns_upd' h.on u (fun k e => hs k (h.on.lt k e).1 (h.on.lt k e).2), owns_upd' h.ov u (fun k e => hs k (h.ov.lt k e).1 (h.ov.lt k e).2), fun c hc => ((h.el c hc).mono (Q := fun k => (B ≤ k ∧ nv.ownBlock ≠ some k ∧ vv.ownBlock ≠ some k) ∧ k < w.heap.size) (fun k hk p => ⟨p, hk⟩)).upd u (fun k p => hs k p.1.1 p.2) |>.mono (fun k _ p => p.1), h.ln⟩
theorem VB.nw (h : VB B w nv vv N C) (u : Nw w w') : VB B w' nv vv N C := h.upd u (fun _ _ _ s => s)
theorem VB.ne (h : VB B w nv vv N C) : ∀ k, nv.ownBlock = some k → vv.ownBlock ≠ some k := fun k e e2 => by
  obtain ⟨_, c1, h1⟩ := own_block h.on e
  obtain ⟨_, c2, h2⟩ := own_block h.ov e2
  rw [h1] at h2
  injection h2 with h2
  injection h2 with _ h2
  exact absurd h2 (by decide)
/-- The value is done. -/
theorem VB.done (h : VB B w nv vv N C) {k n : Int} (hk : I64 k) (hn : I64 n) : VlAt (fun k => B ≤ k) w nv vv (.mk k n N (C.map VC.v)) :=
  .mk N C (SlP.of_sl (Sl.of_owns h.on) (fun k h1 _ _ => h1)) (SlSP.of_sls (SlS.of_owns h.ov (by simp) (by omega) (fun y hy => by
    obtain ⟨c, _, rfl⟩ := List.mem_map.1 hy
    rfl)) (fun k h1 _ _ => h1)) hk hn h.ln (fun c hc => (h.el c hc).mono (fun k _ p => p.1))
/-- A name and a value more. -/
theorem VB.push {wa wb wc wd we : World} {nv' vv' xn xv : Value} {s : Str} {v : Vl} (h : VB B w nv vv N C) (hs : s.length ≤ maxLen) (hB : B ≤ w.heap.size) (u0 : Nw w wa)
    (o1 : wb.ownsRow B 9 1 nv' (N.length + 1) (N.map sF ++ [sF s])) (ua : Upd (fun k => nv.ownBlock = some k) wa wb) (hb1 : ∀ k, nv'.ownBlock = some k → nv.ownBlock = some k ∨ wa.heap.size ≤ k)
    (u1 : Nw wb wc) (hx : VlAt (fun k => B ≤ k ∧ nv'.ownBlock ≠ some k ∧ vv.ownBlock ≠ some k) wc xn xv v) (u2 : Nw wc wd)
    (o2 : we.ownsRow B tVl 4 vv' (C.length + 1) ((C.map vcL).flatten ++ vcL ⟨xn, xv, v⟩)) (ue : Upd (fun k => vv.ownBlock = some k) wd we) (hb2 : ∀ k, vv'.ownBlock = some k → vv.ownBlock = some k ∨ wd.heap.size ≤ k) :
    VB B we nv' vv' (N ++ [s]) (C ++ [⟨xn, xv, v⟩]) ∧ Upd (fun k => nv.ownBlock = some k ∨ vv.ownBlock = some k) w we := by
  have hne := h.ne
  have z0 := u0.size
  have za := ua.size
  have z1 := u1.size
  have z2 := u2.size
  have U : Upd (fun k => nv.ownBlock = some k ∨ vv.ownBlock = some k) w we := (((Nw.trans u0 ua).mono (S' := fun k => nv.ownBlock = some k ∨ vv.ownBlock = some k) (fun k _ e => Or.inl e)).nw (u1.trans u2)).trans' ue (fun k _ e => Or.inr e)
  have nb : ∀ k, nv'.ownBlock = some k → vv.ownBlock ≠ some k := fun k e e2 => by
    rcases hb1 k e with e1 | e1
    · exact hne k e1 e2
    · have := (h.ov.lt k e2).2; omega
  refine ⟨⟨?_, ?_, fun c hc => ?_, fun x hx => ?_⟩, U⟩
  · rw [List.length_append, List.map_append]
    exact owns_upd' (owns_upd' o1 (u1.trans u2) (fun _ _ e => e)) ue (fun k e e2 => nb k e e2)
  · rw [List.length_append, List.map_append, List.flatten_append]
    simpa using o2
  · rcases List.mem_append.1 hc with hc | hc
    · have e1 := ((h.el c hc).mono (Q := fun k => (B ≤ k ∧ nv.ownBlock ≠ some k ∧ vv.ownBlock ≠ some k) ∧ k < w.heap.size) (fun k hk p => ⟨p, hk⟩)).upd U (fun k p e => e.elim p.1.2.1 p.1.2.2)
      refine e1.mono (fun k _ p => ⟨p.1.1, fun e => ?_, fun e => ?_⟩)
      · rcases hb1 k e with e2 | e2
        · exact p.1.2.1 e2
        · have := p.2; omega
      · rcases hb2 k e with e2 | e2
        · exact p.1.2.2 e2
        · have := p.2; omega
    · rw [List.mem_singleton.1 hc]
      have e1 := (hx.mono (Q := fun k => (B ≤ k ∧ nv'.ownBlock ≠ some k ∧ vv.ownBlock ≠ some k) ∧ k < wc.heap.size) (fun k hk p => ⟨p, hk⟩)).upd (Nw.trans u2 ue) (fun k p e => p.1.2.2 e)
      refine e1.mono (fun k _ p => ⟨p.1.1, p.1.2.1, fun e => ?_⟩)
      rcases hb2 k e with e2 | e2
      · exact p.1.2.2 e2
      · have := p.2; omega
  · rcases List.mem_append.1 hx with hx | hx
    · exact h.ln x hx
    · rw [List.mem_singleton.1 hx]; exact hs
end
end Go.Proofs.YtcelfjoopagmlaaGreatDoor
