/- A fetch, its journal and the disk; Sync, Take. -/
import Derived.Test.YtagmlemlagbfkaaDoorPkFFair18
namespace Go.Proofs.YtagmlemlagbfkaaDoor
open Go.RowKit
set_option linter.unusedVariables false
set_option linter.unusedSimpArgs false
attribute [local irreducible] Calls

theorem nw_cell {w w' : World} (u : Nw w w') {a : Addr} {v : Value} (h : w.cell? a = some v) : w'.cell? a = some v := later_cell ⟨w', u⟩ h
theorem GS.upd_keep {w : World} {db : Nat} {jp : Option (Nat × Jr.Jn)} {D : Dk.Disk} {F F' S : Nat → Prop} {z z' : World} (h : GS w db jp D F z) (u : Upd S z z') (hs : ∀ k, S k → (F k ∧ w.heap.size ≤ k) ∨ z.heap.size ≤ k) (hF : ∀ k, F' k → F k ∨ (z.heap.size ≤ k ∧ k < z'.heap.size)) : GS w db jp D F' z' := by
  obtain ⟨d, e, h1, h2, h3, h4⟩ := h
  have hz := u.size
  have hw := h2.size
  refine ⟨d, e, h1.upd u (fun k hk s => ?_), h2.trans' u (fun k hk s => ?_), fun k hk => ?_, fun p hp => ?_⟩
  · rcases hs k s with a | a
    · exact (h3 k a.1).2 hk
    · have := (h1.foot_lt hk).2; omega
  · rcases hs k s with a | a <;> omega
  · rcases hF k hk with a | a
    · exact ⟨by have := (h3 k a).1; omega, (h3 k a).2⟩
    · exact ⟨a.2, fun e => by have := (h1.foot_lt e).2; omega⟩
  · obtain ⟨x, e2, h5, h6, h7⟩ := h4 p hp
    refine ⟨x, e2, h5.upd u (fun k hk s => ?_), h6, fun k hk e3 => ?_⟩
    · rcases hs k s with a | a
      · exact h7 k a.1 hk
      · have := (h5.foot_lt hk).2; omega
    · rcases hF k hk with a | a
      · exact h7 k a e3
      · have := (h5.foot_lt e3).2; omega
/-- A fetch x on the journal j, on the disk db; all of it made since w, apart from the blocks F. -/
structure FS (w : World) (db : Nat) (x : FtR) (j : Jr.Jn) (cs : List (List UInt8)) (m : Ck.Man) (D : Dk.Disk) (F : Nat → Prop) (z : World) : Prop where
  gs : GS w db (some (x.jb, j)) D (fun k => F k ∨ x.foot k) z
  ft : FtAt w.heap.size z x cs m (Ft.come cs j)
  ap : ∀ k, F k → ¬ x.foot k
section
variable {w : World} {db : Nat} {x : FtR} {j j' : Jr.Jn} {cs : List (List UInt8)} {m : Ck.Man} {D D' : Dk.Disk} {F S : Nat → Prop} {z z' : World}
theorem FS.nw0 (h : FS w db x j cs m D F z) : Nw w z := h.gs.nw0
theorem FS.gl (h : FS w db x j cs m D F z) (g : Gl w) : Gl z := g.upd h.nw0
theorem FS.nw (h : FS w db x j cs m D F z) (u : Nw z z') : FS w db x j cs m D F z' := ⟨h.gs.nw u, h.ft.nw u, h.ap⟩
theorem FS.upd (h : FS w db x j cs m D F z) (u : Upd S z z') (hs : ∀ k, S k → (F k ∧ w.heap.size ≤ k) ∨ z.heap.size ≤ k) : FS w db x j cs m D F z' :=
  ⟨h.gs.upd u (fun k s => (hs k s).imp (fun a => ⟨Or.inl a.1, a.2⟩) id), h.ft.upd u (fun k hk s => (hs k s).elim (fun a => h.ap k a.1 hk) (fun a => by have := (h.ft.foot_lt hk).2; omega)), h.ap⟩
/-- Blocks that have come since are kept from now on. -/
theorem FS.keep {F' : Nat → Prop} (h : FS w db x j cs m D F z) (u : Nw z z') (hF : ∀ k, F' k → F k ∨ (z.heap.size ≤ k ∧ k < z'.heap.size)) : FS w db x j cs m D F' z' := by
  refine ⟨h.gs.keep u (fun k hk => ?_), h.ft.nw u, fun k hk e => ?_⟩
  · rcases hk with hk | hk
    · exact (hF k hk).imp Or.inl id
    · exact Or.inl (Or.inr hk)
  · rcases hF k hk with a | a
    · exact h.ap k a e
    · have := (h.ft.foot_lt e).2; omega
theorem FS.forget (h : FS w db x j cs m D F z) : GS w db none D F z := (h.gs.forget).keep (Upd.refl _ _) (fun k hk => Or.inl (Or.inl hk))
theorem FS.ok (h : FS w db x j cs m D F z) : Dk.Ok D := h.gs.ok
theorem FS.recs (h : FS w db x j cs m D F z) : j.recs.length ≤ 16777216 := by
  obtain ⟨d, y, _, _, h2⟩ := h.gs.parts
  exact h2.jrn.len
theorem come_len (cs : List (List UInt8)) (j : Jr.Jn) : (Ft.come cs j).length = j.recs.length := List.length_map _
/-- What a journal's or a disk's call leaves. -/
theorem FS.of_gs (h : FS w db x j cs m D F z) (u : Moves w (fun k => F k ∨ x.foot k) z z') (h' : GS w db (some (x.jb, j')) D' (fun k => F k ∨ x.foot k) z') (e : Ft.come cs j' = Ft.come cs j) : FS w db x j' cs m D' F z' ∧ Moves w F z z' :=
  ⟨⟨h', by rw [e]; exact h.ft.upd u (fun k hk s => s.1 (Or.inr hk)), h.ap⟩, u.mono (fun k _ s => ⟨fun f => s.1 (Or.inl f), s.2⟩)⟩
theorem fmissing_t (h : FS w db x j cs m D F z) (g : Gl w) (hk : m.chunks.length ≤ 1000000) (hr : j.recs.length ≤ 1000000) :
    Calls Tryd.prog 12 #[.pointer (some ⟨x.fb, 0, none⟩)] z fun e z' => ∃ v', e = .returned v' ∧ z'.ownsRow z.heap.size 3 1 v' (Ft.gone cs m j).length ((Ft.gone cs m j).map intD) ∧ Nw z z' :=
  fmissing_c h.ft (h.gl g) hk (by rw [come_len]; exact hr)
theorem ftext_t (h : FS w db x j cs m D F z) (g : Gl w) (hk : m.chunks.length ≤ 1000000) (hr : j.recs.length ≤ 1000000) (hcs : cs.length ≤ 90) :
    Calls Tryd.prog 18 #[.pointer (some ⟨x.fb, 0, none⟩)] z fun e z' => e = .returned (.tuple #[.string ⟨(Ft.ftext cs m j).1.toArray⟩, .int .i64 (Ft.ftext cs m j).2]) ∧ Nw z z' :=
  ftext_c h.ft (h.gl g) hk (by rw [come_len]; exact hr) hcs
/-- A print more has come. -/
theorem FtAt.more {B : Nat} {w z2 : World} {x : FtR} {cm : List Int} {p : Int} {v' : Value} (h : FtAt B w x cs m cm) (o2 : z2.ownsRow B 3 1 v' (cm.length + 1) (cm.map intD ++ [.int .i64 p])) (u2 : Upd (fun k => x.ov.ownBlock = some k) w z2)
    (hb : ∀ k, v'.ownBlock = some k → x.ov.ownBlock = some k ∨ w.heap.size ≤ k) :
    FtAt B (z2.setCell ⟨x.fb, 5, none⟩ v') { x with ov := v' } cs m (cm ++ [p]) ∧ Upd (fun k => k = x.fb ∨ x.ov.ownBlock = some k) w (z2.setCell ⟨x.fb, 5, none⟩ v') ∧ ∀ k, FtR.foot { x with ov := v' } k → x.foot k ∨ (w.heap.size ≤ k ∧ k < (z2.setCell ⟨x.fb, 5, none⟩ v').heap.size) := by
  have hfb := h.fb
  have hgb := h.hb
  have hne : x.ov.ownBlock ≠ some x.fb := fun e => by
    obtain ⟨_, c, hc⟩ := own_block h.oo e
    rw [h.blk] at hc
    injection hc with hc
    injection hc with _ hc
    exact absurd hc (by decide)
  have hltb := lt_of_block h.blk
  have bl := setCell_block (u2.keep h.blk hne) 5 v'
  have U : Upd (fun k => k = x.fb ∨ x.ov.ownBlock = some k) w (z2.setCell ⟨x.fb, 5, none⟩ v') := (u2.mono (fun k _ e => Or.inr e)).setCell (S := fun k => k = x.fb ∨ x.ov.ownBlock = some k) (p := ⟨x.fb, 5, none⟩) (Or.inl (Or.inl rfl)) (by show nG ≤ x.fb; omega) v'
  have o3 : (z2.setCell ⟨x.fb, 5, none⟩ v').ownsRow B 3 1 v' (cm.length + 1) (cm.map intD ++ [.int .i64 p]) := owns_upd' o2 ((Upd.refl (fun k => k = x.fb) z2).set1 (by omega) 5 v') (fun k e e2 => by
    rcases hb k e with e3 | e3
    · exact hne (by rw [e3, e2])
    · omega)
  have ncb : ∀ k, x.cv.ownBlock = some k → ¬ (k = x.fb ∨ x.ov.ownBlock = some k) := fun k e s => by
    rcases s with s | s
    · obtain ⟨_, c, hc⟩ := own_block h.oc e
      rw [s, h.blk] at hc
      injection hc with hc
      injection hc with _ hc
      exact absurd hc (by decide)
    · exact own_ne2 h.oc h.oo (by decide) e s
  have nkb : ∀ k, x.kv.ownBlock = some k → ¬ (k = x.fb ∨ x.ov.ownBlock = some k) := fun k e s => by
    rcases s with s | s
    · obtain ⟨_, c, hc⟩ := own_block h.ok e
      rw [s, h.blk] at hc
      injection hc with hc
      injection hc with _ hc
      exact absurd hc (by decide)
    · exact h.ne k e s
  refine ⟨⟨h.hb, h.fb, by simpa using bl, owns_upd' h.oc U ncb, owns_upd' h.ok U nkb, ?_, fun k e e2 => ?_⟩, U, fun k hk => ?_⟩
  · rw [List.length_append, List.map_append]; exact o3
  · rcases hb k e2 with e3 | e3
    · exact h.ne k e e3
    · have := (h.ok.lt k e).2; omega
  · rcases hk with hk | hk | hk | hk
    · exact Or.inl (Or.inl hk)
    · exact Or.inl (Or.inr (Or.inl hk))
    · exact Or.inl (Or.inr (Or.inr (Or.inl hk)))
    · rcases hb k hk with e3 | e3
      · exact Or.inl (Or.inr (Or.inr (Or.inr e3)))
      · exact Or.inr ⟨e3, (o3.lt k hk).2⟩
end
end Go.Proofs.YtagmlemlagbfkaaDoor
