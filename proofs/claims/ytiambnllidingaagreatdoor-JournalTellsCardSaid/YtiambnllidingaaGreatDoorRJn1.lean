/- The reference's journal (layer 3): Open, Append, Sync. -/
import Derived.Test.YtiambnllidingaaGreatDoorRJn0
namespace Go.Proofs.YtiambnllidingaaGreatDoor
open Go.RowKit
set_option linter.unusedVariables false
set_option linter.unusedSimpArgs false
attribute [local irreducible] Calls

abbrev tRJrn : TypeId := 49
structure RjR where
  kb : Nat
  lv : Value
def RjR.foot (x : RjR) (k : Nat) : Prop := k = x.kb ∨ x.lv.ownBlock = some k
def rjC (rb : Nat) (x : RjR) (j : Jr.Jn) : Array Value := #[.pointer (some ⟨rb, 0, none⟩), .int .i64 j.file, x.lv, .bool j.broken]
/-- In the blocks from B on lies the reference's journal x on the disk rb, in the state j. -/
structure RJAt (B : Nat) (w : World) (rb : Nat) (x : RjR) (j : Jr.Jn) : Prop where
  hb : nG ≤ B
  kb : B ≤ x.kb
  blk : w.heap[x.kb]? = some (.cells (rjC rb x j) tRJrn (0, 0))
  own : w.ownsRow B tStrJ 1 x.lv j.recs.length (j.recs.map bsV)
  ok : JrnOk j
section
variable {B rb : Nat} {w w' : World} {x : RjR} {j : Jr.Jn} {r : RdR} {D D' : Dk.Disk}
theorem RJAt.foot_lt (h : RJAt B w rb x j) {k : Nat} (hk : x.foot k) : B ≤ k ∧ k < w.heap.size := by
  rcases hk with rfl | hk
  · exact ⟨h.kb, lt_of_block h.blk⟩
  · obtain ⟨h1, cs, h2⟩ := own_blockD h.own hk
    exact ⟨h1, lt_of_block h2⟩
theorem RJAt.upd {S : Nat → Prop} (h : RJAt B w rb x j) (u : Upd S w w') (hs : ∀ k, x.foot k → ¬ S k) : RJAt B w' rb x j :=
  ⟨h.hb, h.kb, u.keep h.blk (hs _ (Or.inl rfl)), owns_updD h.own u (fun k hk => hs k (Or.inr hk)), h.ok⟩
theorem RJAt.nw (h : RJAt B w rb x j) (u : Nw w w') : RJAt B w' rb x j := h.upd u (fun _ _ s => s)
theorem RJAt.ne (h : RJAt B w rb x j) : x.lv.ownBlock ≠ some x.kb := own_blk h.own h.blk (by decide)
theorem RJAt.cells (h : RJAt B w rb x j) :
    w.cell? ⟨x.kb, 0, none⟩ = some (.pointer (some ⟨rb, 0, none⟩)) ∧ w.cell? ⟨x.kb, 1, none⟩ = some (.int .i64 j.file) ∧ w.cell? ⟨x.kb, 2, none⟩ = some x.lv ∧ w.cell? ⟨x.kb, 3, none⟩ = some (.bool j.broken) := by
  refine ⟨?_, ?_, ?_, ?_⟩ <;> (rw [cells_cell h.blk]; rfl)
theorem RJAt.len (h : RJAt B w rb x j) : j.recs.length ≤ 16777216 := Nat.le_trans (Jr.len_forms _) h.ok.bytes
/-- The reference's disk and journal lie apart from one another, as their types differ. -/
theorem blk_typ {k : Nat} {cs cs' : Array Value} {T T' : TypeId} {fz fz' : Nat × Nat} (h : w.heap[k]? = some (.cells cs T fz)) (h' : w.heap[k]? = some (.cells cs' T' fz')) (hT : T ≠ T') : False := by
  rw [h] at h'
  injection h' with h'
  injection h' with _ h'
  exact hT h'
theorem rd_typ (h : RDAt B w r D) {k : Nat} (hk : r.foot k) : ∃ cs T fz, w.heap[k]? = some (.cells cs T fz) ∧ (T = tRDisk ∨ T = tRFile ∨ T = tRSec ∨ T = tIntD) := by
  rcases hk with rfl | hk | hk | hk
  · exact ⟨_, _, _, h.blk, Or.inl rfl⟩
  · obtain ⟨l, h1, _⟩ := h.files
    obtain ⟨_, cs, e⟩ := own_blockD h1 hk
    exact ⟨_, _, _, e, Or.inr (Or.inl rfl)⟩
  · obtain ⟨_, cs, e⟩ := own_blockD h.queue hk
    exact ⟨_, _, _, e, Or.inr (Or.inr (Or.inl rfl))⟩
  · obtain ⟨_, cs, e⟩ := own_blockD h.keep hk
    exact ⟨_, _, _, e, Or.inr (Or.inr (Or.inr rfl))⟩
theorem rj_apart (h : RDAt B w r D) (h2 : RJAt B w rb x j) {k : Nat} (hk : r.foot k) : ¬ x.foot k := fun e => by
  obtain ⟨cs, T, fz, h1, hT⟩ := rd_typ h hk
  rcases e with rfl | e
  · refine blk_typ h1 h2.blk ?_
    rcases hT with rfl | rfl | rfl | rfl <;> decide
  · obtain ⟨_, cs', e2⟩ := own_blockD h2.own e
    refine blk_typ h1 e2 ?_
    rcases hT with rfl | rfl | rfl | rfl <;> decide
end
/-- The reference's system. -/
structure RSys (B : Nat) (w : World) (r : RdR) (x : RjR) (D : Dk.Disk) (j : Jr.Jn) : Prop where
  disk : RDAt B w r D
  jrn : RJAt B w r.rb x j
/-- What a call leaves of it. -/
def RSTo (B : Nat) (r : RdR) (x : RjR) (D' : Dk.Disk) (j' : Jr.Jn) (w w' : World) : Prop :=
  ∃ r' x', RSys B w' r' x' D' j' ∧ r'.rb = r.rb ∧ x'.kb = x.kb ∧ Upd (fun k => r.foot k ∨ x.foot k) w w' ∧ ∀ k, r'.foot k ∨ x'.foot k → (r.foot k ∨ x.foot k) ∨ w.heap.size ≤ k
section
variable {B : Nat} {w w' w2 : World} {r : RdR} {x : RjR} {D D' : Dk.Disk} {j j' : Jr.Jn}
theorem RSys.nw (h : RSys B w r x D j) (u : Nw w w') : RSys B w' r x D j := ⟨h.disk.nw u, h.jrn.nw u⟩
theorem RSTo.of_nw (h : RSys B w r x D j) (u : Nw w w') : RSTo B r x D j w w' := ⟨r, x, h.nw u, rfl, rfl, Nw.upd _ u, fun k hk => Or.inl hk⟩
/-- A call of the disk, then a cell of the journal's block. -/
theorem RSTo.disk (h : RSys B w r x D j) (t : RDTo B r D' w w') : ∃ r', RSys B w' r' x D' j ∧ r'.rb = r.rb ∧ Upd r.foot w w' ∧ ∀ k, r'.foot k → r.foot k ∨ w.heap.size ≤ k := by
  obtain ⟨r', k1, k2, k3, k4⟩ := t
  exact ⟨r', ⟨k1, by rw [k2]; exact h.jrn.upd k3 (fun k hk e => rj_apart h.disk h.jrn e hk)⟩, k2, k3, k4⟩
theorem RSTo.disk_only (h : RSys B w r x D j) (t : RDTo B r D' w w') : RSTo B r x D' j w w' := by
  obtain ⟨r', k1, k2, k3, k4⟩ := RSTo.disk h t
  refine ⟨r', x, k1, k2, rfl, k3.mono (fun k _ e => Or.inl e), fun k hk => ?_⟩
  rcases hk with e | e
  · exact (k4 k e).imp Or.inl id
  · exact Or.inl (Or.inr e)
theorem RSTo.then_ {D1 D2 : Dk.Disk} {j1 j2 : Jr.Jn} (h1 : RSTo B r x D1 j1 w w') (h2 : ∀ r1 x1, RSys B w' r1 x1 D1 j1 → r1.rb = r.rb → x1.kb = x.kb → RSTo B r1 x1 D2 j2 w' w2) : RSTo B r x D2 j2 w w2 := by
  obtain ⟨r1, x1, a, b, c, d, e⟩ := h1
  obtain ⟨r2, x2, a2, b2, c2, d2, e2⟩ := h2 r1 x1 a b c
  have hz := d.size
  refine ⟨r2, x2, a2, b2.trans b, c2.trans c, d.trans' d2 (fun k hk s => (e k s).resolve_right (by omega)), fun k hk => ?_⟩
  rcases e2 k hk with s | s
  · exact e k s
  · exact Or.inr (by omega)
theorem RSTo.after {w0 : World} (u : Nw w0 w) (h : RSTo B r x D' j' w w') : RSTo B r x D' j' w0 w' := by
  obtain ⟨r', x', a, b, c, d, e⟩ := h
  exact ⟨r', x', a, b, c, Nw.trans u d, fun k hk => (e k hk).imp id (fun e => by have := u.size; omega)⟩
theorem RSTo.nw (h : RSTo B r x D' j' w w') (u : Nw w' w2) : RSTo B r x D' j' w w2 := by
  obtain ⟨r', x', a, b, c, d, e⟩ := h
  exact ⟨r', x', a.nw u, b, c, d.nw u, e⟩
/-- The journal's block is turned. -/
theorem RSTo.bad (h : RSys B w r x D j) (b : Bool) : RSTo B r x D { j with broken := b } w (w.setCell ⟨x.kb, 3, none⟩ (.bool b)) := by
  have hg : nG ≤ x.kb := Nat.le_trans h.jrn.hb h.jrn.kb
  have us : Upd (fun k => k = x.kb) w (w.setCell ⟨x.kb, 3, none⟩ (.bool b)) := Upd.set1 (Upd.refl _ _) hg 3 _
  refine ⟨r, x, ⟨h.disk.upd us (fun k hk e => rj_apart h.disk h.jrn hk (Or.inl e)), ⟨h.jrn.hb, h.jrn.kb, ?_, owns_updD h.jrn.own us (fun k hk e => by subst e; exact h.jrn.ne hk), ⟨h.jrn.ok.file, h.jrn.ok.bytes⟩⟩⟩, rfl, rfl, us.mono (fun k _ e => Or.inr (Or.inl e)), fun k hk => Or.inl hk⟩
  have := setCell_block h.jrn.blk 3 (.bool b)
  unfold rjC at this ⊢
  exact this
/-- A new list of records is put into the journal's block. -/
theorem RSTo.recs {v' : Value} {B0 : Nat} {z : World} {R : List (List UInt8)} (h : RSys B w r x D j) (u : Nw w z) (hB0 : w.heap.size ≤ B0) (hB : B ≤ w.heap.size) (ho : z.ownsRow B0 tStrJ 1 v' R.length (R.map bsV)) (hl : (Jr.forms R).length ≤ 16777216) : RSTo B r x D { j with recs := R } w (z.setCell ⟨x.kb, 2, none⟩ v') := by
  have hz := h.nw u
  have hg : nG ≤ x.kb := Nat.le_trans h.jrn.hb h.jrn.kb
  have hkw := (h.jrn.foot_lt (Or.inl rfl)).2
  have us : Upd (fun k => k = x.kb) z (z.setCell ⟨x.kb, 2, none⟩ v') := Upd.set1 (Upd.refl _ _) hg 2 _
  have hv : ∀ k, v'.ownBlock = some k → w.heap.size ≤ k := fun k hk => Nat.le_trans hB0 (own_blockD ho hk).1
  refine ⟨r, ⟨x.kb, v'⟩, ⟨hz.disk.upd us (fun k hk e => rj_apart hz.disk hz.jrn hk (Or.inl e)), ⟨h.jrn.hb, h.jrn.kb, ?_, owns_base (owns_updD ho us (fun k hk e => by subst e; have := hv _ hk; omega)) (by omega), ⟨h.jrn.ok.file, hl⟩⟩⟩, rfl, rfl, (Nw.trans u us).mono (fun k _ e => Or.inr (Or.inl e)), fun k hk => ?_⟩
  · have := setCell_block hz.jrn.blk 2 v'
    unfold rjC at this ⊢
    exact this
  · rcases hk with e | e | e
    · exact Or.inl (Or.inl e)
    · exact Or.inl (Or.inr (Or.inl e))
    · exact Or.inr (hv k e)
set_option maxHeartbeats 1000000 in
set_option maxRecDepth 100000 in
theorem JSync_q (h : RSys B w r x D j) (g : Gl w) (hB : B ≤ w.heap.size) :
    Calls Tryz.prog 18 #[.pointer (some ⟨x.kb, 0, none⟩)] w fun e w' => e = .returned (.int .i64 (Jr.syncJ D j).2.2) ∧ RSTo B r x (Jr.syncJ D j).1 (Jr.syncJ D j).2.1 w w' := by
  obtain ⟨c0, c1, c2, c3⟩ := h.jrn.cells
  cases hb : j.broken with
  | true =>
    rw [hb] at c3
    have hr : Hid (Jr.syncJ D j = (D, j, 7)) := by show _ = _; unfold Jr.syncJ; rw [if_pos hb]
    have hz : Hid (RSTo B r x D j w w) := RSTo.of_nw h (Upd.refl _ _)
    clear h hb
    go_enter Tryz.func18, Tryz.ntmps18
    go_wp2_with fail
    go_ret
    exact ⟨by rw [hr.out] <;> rfl, by rw [hr.out]; exact hz.out⟩
  | false =>
    rw [hb] at c3
    have hr : Hid (Jr.syncJ D j = ((Dk.sync D j.file).1, { j with broken := decide ((Dk.sync D j.file).2 ≠ 0) }, (Dk.sync D j.file).2)) := by
      show _ = _; unfold Jr.syncJ; rw [if_neg (by rw [hb]; decide)]
    have hf := h.jrn.ok.file
    have hs := Lib.hid (fun (z : World) (u : Nw w z) => sync_rd (h.disk.nw u) (g.upd u) (Nat.le_trans hB u.size) (f := j.file) (by unfold I64; omega))
    have H := Lib.hid h
    have l0 : ∀ i : Later w, i.1.cell? ⟨x.kb, 0, none⟩ = some (.pointer (some ⟨r.rb, 0, none⟩)) := fun i => (h.jrn.nw i.nw).cells.1
    have l1 : ∀ i : Later w, i.1.cell? ⟨x.kb, 1, none⟩ = some (.int .i64 j.file) := fun i => (h.jrn.nw i.nw).cells.2.1
    clear h hb hf
    generalize (Dk.sync D j.file).2 = E at *
    generalize (Dk.sync D j.file).1 = D1 at *
    go_enter Tryz.func18, Tryz.ntmps18
    go_wp2_with fail
    refine wp_region_nw_tail 8 (by kernel_rfl) (by kernel_rfl) ?_
    simp only [List.take_succ_cons, List.take_zero, List.drop_succ_cons, List.drop_zero]
    repeat (go_big_quiet_step ((fail)))
    refine wpQuiet_nil ?_
    intro w3 u3
    replace u3 := later_out u3
    have H3 := Lib.hid (H.out.nw u3)
    have U3 := Lib.hid u3
    clear l0 l1 c0 c1 c2 c3 u3
    go_wp2_with fail
    (with_reducible refine (hs.out _ U3.out).mono ?_)
    rintro _ w1 ⟨rfl, hT⟩
    obtain ⟨r1, k1, k2, k3, k4⟩ := RSTo.disk H3.out hT
    have hz : Hid (∀ b : Bool, RSTo B r x D1 { j with broken := b } w (w1.setCell ⟨x.kb, 3, none⟩ (.bool b))) := fun b => RSTo.then_ (RSTo.after U3.out (RSTo.disk_only H3.out hT)) (fun r2 x2 a e1 e2 => by
      have := RSTo.bad a b
      rw [e2] at this
      exact this)
    have c3' := k1.jrn.cells.2.2.2
    have f3 := cells_frozen k1.jrn.blk 3
    clear hT k1 k3 k4 hs
    by_cases h0 : E = 0
    · have b1 : (E == 0) = true := beq_iff_eq.2 h0
      have b2 : (E != 0) = false := by simp [h0]
      have hd : decide (E ≠ 0) = false := by simp [h0]
      rw [hd] at hr
      have hz1 := Lib.hid (hz.out false)
      clear h0 hz hd
      go_wp2_with fail
      go_ret
      exact ⟨by rw [hr.out] <;> rfl, by rw [hr.out]; exact hz1.out⟩
    · have b1 : (E == 0) = false := beq_eq_false_iff_ne.2 h0
      have b2 : (E != 0) = true := by simp [h0]
      have hd : decide (E ≠ 0) = true := by simp [h0]
      rw [hd] at hr
      have hz1 := Lib.hid (hz.out true)
      clear h0 hz hd
      go_wp2_with fail
      go_ret
      exact ⟨by rw [hr.out] <;> rfl, by rw [hr.out]; exact hz1.out⟩
end
end Go.Proofs.YtiambnllidingaaGreatDoor
