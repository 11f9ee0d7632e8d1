/- A fetch in memory; Missing, Text, Sync, Take. -/
import Derived.Test.YtagmlemlagbfkaaDoorPkFFair12
import Derived.Test.YtagmlemlagbfkaaDoorPkFFair14
import Derived.Test.YtagmlemlagbfkaaDoorPkFFair17
namespace Go.Proofs.YtagmlemlagbfkaaDoor
open Go.RowKit
set_option linter.unusedVariables false
set_option linter.unusedSimpArgs false
attribute [local irreducible] Calls

abbrev tFet : TypeId := 61
structure FtR where
  fb : Nat
  jb : Nat
  cv : Value
  kv : Value
  ov : Value
def FtR.foot (x : FtR) (k : Nat) : Prop := k = x.fb ∨ x.cv.ownBlock = some k ∨ x.kv.ownBlock = some k ∨ x.ov.ownBlock = some k
/-- In the blocks from B on lies the fetch x: its contents, its manifest, the prints that have come. -/
structure FtAt (B : Nat) (w : World) (x : FtR) (cs : List (List UInt8)) (m : Ck.Man) (cm : List Int) : Prop where
  hb : nG ≤ B
  fb : B ≤ x.fb
  blk : w.heap[x.fb]? = some (.cells #[.pointer (some ⟨x.jb, 0, none⟩), x.cv, .int .i64 m.print, .int .i64 m.size, x.kv, x.ov] tFet (0, 0))
  oc : w.ownsRow B tStrMU 1 x.cv cs.length (cs.map bsMU)
  ok : w.ownsRow B 3 1 x.kv m.chunks.length (m.chunks.map intD)
  oo : w.ownsRow B 3 1 x.ov cm.length (cm.map intD)
  ne : ∀ k, x.kv.ownBlock = some k → x.ov.ownBlock ≠ some k
section
variable {B : Nat} {w w' : World} {x : FtR} {cs : List (List UInt8)} {m : Ck.Man} {cm : List Int}
theorem FtAt.foot_lt (h : FtAt B w x cs m cm) {k : Nat} (hk : x.foot k) : B ≤ k ∧ k < w.heap.size := by
  rcases hk with rfl | hk | hk | hk
  · exact ⟨h.fb, lt_of_block h.blk⟩
  · exact h.oc.lt k hk
  · exact h.ok.lt k hk
  · exact h.oo.lt k hk
theorem FtAt.upd {S : Nat → Prop} (h : FtAt B w x cs m cm) (u : Upd S w w') (hs : ∀ k, x.foot k → ¬ S k) : FtAt B w' x cs m cm :=
  ⟨h.hb, h.fb, u.keep h.blk (hs _ (Or.inl rfl)), owns_upd' h.oc u (fun k e => hs k (Or.inr (Or.inl e))), owns_upd' h.ok u (fun k e => hs k (Or.inr (Or.inr (Or.inl e)))), owns_upd' h.oo u (fun k e => hs k (Or.inr (Or.inr (Or.inr e)))), h.ne⟩
theorem FtAt.nw (h : FtAt B w x cs m cm) (u : Nw w w') : FtAt B w' x cs m cm := h.upd u (fun _ _ s => s)
theorem FtAt.base {B' : Nat} (h : FtAt B w x cs m cm) (hb : nG ≤ B') (hB : B' ≤ B) : FtAt B' w x cs m cm :=
  ⟨hb, Nat.le_trans hB h.fb, h.blk, owns_base h.oc hB, owns_base h.ok hB, owns_base h.oo hB, h.ne⟩
theorem FtAt.cells (h : FtAt B w x cs m cm) :
    w.cell? ⟨x.fb, 0, none⟩ = some (.pointer (some ⟨x.jb, 0, none⟩)) ∧ w.cell? ⟨x.fb, 1, none⟩ = some x.cv ∧ w.cell? ⟨x.fb, 2, none⟩ = some (.int .i64 m.print) ∧ w.cell? ⟨x.fb, 3, none⟩ = some (.int .i64 m.size) ∧ w.cell? ⟨x.fb, 4, none⟩ = some x.kv ∧ w.cell? ⟨x.fb, 5, none⟩ = some x.ov := by
  refine ⟨?_, ?_, ?_, ?_, ?_, ?_⟩ <;> (rw [cells_cell h.blk]; rfl)
/-- A block of one kind of cells is none of another kind. -/
theorem own_ne2 {w : World} {B1 B2 n1 n2 : Nat} {s1 s2 : Nat} {e1 e2 : TypeId} {v1 v2 : Value} {x1 x2 : List Value} (h1 : w.ownsRow B1 e1 s1 v1 n1 x1) (h2 : w.ownsRow B2 e2 s2 v2 n2 x2) (hne : e1 ≠ e2) {k : Nat} (k1 : v1.ownBlock = some k) (k2 : v2.ownBlock = some k) : False := by
  obtain ⟨_, c1, h1⟩ := own_block h1 k1
  obtain ⟨_, c2, h2⟩ := own_block h2 k2
  rw [h1] at h2
  injection h2 with h2
  injection h2 with _ h2
  exact hne h2
set_option maxRecDepth 100000 in
theorem fmissing_c (h : FtAt B w x cs m cm) (g : Gl w) (hk : m.chunks.length ≤ 1000000) (hm : cm.length ≤ 1000000) :
    Calls Tryd.prog 12 #[.pointer (some ⟨x.fb, 0, none⟩)] w fun e w' => ∃ v', e = .returned v' ∧ w'.ownsRow w.heap.size 3 1 v' (Ft.miss m.chunks cm).length ((Ft.miss m.chunks cm).map intD) ∧ Nw w w' := by
  obtain ⟨c0, c1, c2, c3, c4, c5⟩ := h.cells
  have nd : Nw w w.drew := (Upd.refl _ _).drew
  have HM : Hid (Calls Tryd.prog 27 #[.agg #[.int .i64 m.print, .int .i64 m.size, x.kv], x.ov] w.drew fun e y => ∃ v', e = .returned v' ∧ (y.cell? ⟨x.fb, 2, none⟩ = some (.int .i64 m.print) ∧ y.cell? ⟨x.fb, 3, none⟩ = some (.int .i64 m.size) ∧ y.cell? ⟨x.fb, 4, none⟩ = some x.kv ∧ y.cell? ⟨x.fb, 5, none⟩ = some x.ov) ∧
      Hid (y.ownsRow w.heap.size 3 1 v' (Ft.miss m.chunks cm).length ((Ft.miss m.chunks cm).map intD) ∧ Nw w y)) := by
    refine (missing_c _ _ _ _ m.print m.size x.kv m.chunks x.ov cm _ (g.upd nd) (Sl.of_owns (h.nw nd).ok) (Sl.of_owns (h.nw nd).oo) hk hm).mono ?_
    rintro e y ⟨v', rfl, o, u⟩
    obtain ⟨_, _, d2, d3, d4, d5⟩ := (h.nw (nd.trans u)).cells
    exact ⟨v', rfl, ⟨d2, d3, d4, d5⟩, owns_base o nd.size, nd.trans u⟩
  obtain ⟨ak, ck, hkv⟩ := own_slG h.ok
  obtain ⟨ao, co, hov⟩ := own_slG h.oo
  rw [hkv] at c4 HM
  rw [hov] at c5 HM
  clear h hkv hov
  go_enter Tryd.func12, Tryd.ntmps12
  go_wp2_with fail
  go_region_held3 (fun y => y.cell? ⟨x.fb, 2, none⟩ = some (.int .i64 m.print) ∧ y.cell? ⟨x.fb, 3, none⟩ = some (.int .i64 m.size) ∧ y.cell? ⟨x.fb, 4, none⟩ = some (.slice ak m.chunks.length ck) ∧ y.cell? ⟨x.fb, 5, none⟩ = some (.slice ao cm.length co)) (first | exact ⟨c2, c3, c4, c5⟩ | assumption | go_keep) (first | (go_at_call 27; (with_reducible refine HM.out.mono ?_); rintro _ y2 ⟨v3, rfl, cy2, HO3⟩))
  obtain ⟨a4, c4', rfl⟩ := own_slG HO3.out.1
  clear cy2 HM c0 c1 c2 c3 c4 c5
  go_wp2_with fail
  go_ret
  exact ⟨_, rfl, HO3.out⟩
theorem ftext_results (tmps : Array Value) (w : World) : (results Tryd.f18 tmps).run Tryd.prog w = .ok (.tuple #[tmps.getD 2 undef, tmps.getD 3 undef]) w := by
  simp [results, Tryd.results18, go_sem]
/-- What Text returns. -/
def ftx (cs : List (List UInt8)) (m : Ck.Man) (cm : List Int) : List UInt8 × Int := if Ft.miss m.chunks cm = [] then (textAtU cs m.print, 0) else ([], 33)
set_option maxHeartbeats 1000000 in
set_option maxRecDepth 100000 in
theorem ftext_c (h : FtAt B w x cs m cm) (g : Gl w) (hk : m.chunks.length ≤ 1000000) (hm : cm.length ≤ 1000000) (hcs : cs.length ≤ 90) :
    Calls Tryd.prog 18 #[.pointer (some ⟨x.fb, 0, none⟩)] w fun e w' => e = .returned (.tuple #[.string ⟨(ftx cs m cm).1.toArray⟩, .int .i64 (ftx cs m cm).2]) ∧ Nw w w' := by
  have HM := Lib.hid (fmissing_c h g hk hm)
  have HH := Lib.hid h
  have hml := Ft.miss_len m.chunks cm
  have hml1 : ((Ft.miss m.chunks cm).length : Int) ≤ 1000000 := by omega
  have HT := Lib.hid (fun (y : World) (u : Nw w y) => ctext_wU _ _ x.cv cs m.print y (Sl.of_owns (h.nw u).oc) hcs)
  obtain ⟨ac, cc, hcv⟩ := own_slG h.oc
  rw [hcv] at HT
  by_cases he : Ft.miss m.chunks cm = []
  · have h1 : Hid (ftx cs m cm = (textAtU cs m.print, 0)) := if_pos he
    have hl0 : (Ft.miss m.chunks cm).length = 0 := by rw [he]; rfl
    have d1 : decide (0 < (Ft.miss m.chunks cm).length) = false := decide_eq_false (by omega)
    have HL := Lib.hid hl0
    have HCV := Lib.hid hcv
    clear h he hl0 hml hcv
    generalize (Ft.miss m.chunks cm).length = ml at *
    go_enter Tryd.func18, Tryd.ntmps18
    go_wp2_with fail
    (with_reducible refine (HM.out).mono ?_)
    rintro _ w2 ⟨v2, rfl, o2, u2⟩
    obtain ⟨a2, c2', rfl⟩ := own_slG o2
    obtain ⟨c0, c1, c2, c3, c4, c5⟩ := (HH.out.nw u2).cells
    rw [HCV.out] at c1
    have d2 : ∀ i : Later w2, i.1.cell? ⟨x.fb, 1, none⟩ = some (.slice ac cs.length cc) := fun i => later_cell i c1
    have d3 : ∀ i : Later w2, i.1.cell? ⟨x.fb, 2, none⟩ = some (.int .i64 m.print) := fun i => later_cell i c2
    have U2 := Lib.hid u2
    clear o2 u2 HM c0 c3 c4 c5 HH
    go_wp2_with fail
    refine wp_region_nw (by kernel_rfl) (by kernel_rfl) ?_
    repeat (go_big_quiet_step ((go_at_call 26; exact later_call (HT.out _ (U2.out.trans (Later.nw _))))))
    refine wpQuiet_nil ?_
    intro w3 u3
    replace u3 := later_out u3
    go_wp2_with fail
    (try simp only [Exit.inBlock, Exit.then])
    refine bodyPost_ret (ftext_results _ _) rfl ?_
    rw [h1.out]
    exact ⟨rfl, U2.out.trans u3⟩
  · have h1 : Hid (ftx cs m cm = ([], 33)) := if_neg he
    have hl0 : 0 < (Ft.miss m.chunks cm).length := List.length_pos_iff.2 he
    have d1 : decide (0 < (Ft.miss m.chunks cm).length) = true := decide_eq_true hl0
    clear h he hml hcv HT HH hl0
    generalize (Ft.miss m.chunks cm).length = ml at *
    go_enter Tryd.func18, Tryd.ntmps18
    go_wp2_with fail
    (with_reducible refine (HM.out).mono ?_)
    rintro _ w2 ⟨v2, rfl, o2, u2⟩
    obtain ⟨a2, c2', rfl⟩ := own_slG o2
    have U2 := Lib.hid u2
    clear o2 u2 HM
    go_wp2_with fail
    (try simp only [Exit.inBlock, Exit.then])
    refine bodyPost_ret (ftext_results _ _) rfl ?_
    rw [h1.out]
    exact ⟨rfl, U2.out⟩
end
end Go.Proofs.YtagmlemlagbfkaaDoor
