/- A journal in memory; the contracts of Len, Get, All, Sync. -/
import Derived.Test.YtiambnllidingaaGreatDoorJrn2
import Derived.Laws.CopyOwn
namespace Go.Proofs.YtiambnllidingaaGreatDoor
open Go.RowKit
set_option linter.unusedVariables false
set_option linter.unusedSimpArgs false
attribute [local irreducible] Calls

section
variable {P : Program} {w : World} {ops : Array Oper} {rest : List Oper} {o : Oper} {a : Act} {Q : Exit → Act → World → Prop}
/-- 'make([]T, n)', elements of one cell. -/
theorem wpList_makeE (hgd : o.guard = none) (l c : Operand) (t e : TypeId) (z : Value) (bytes : Nat) (hop : o.op = Op.makeSlice t l c) (ht : P.underlying t = some (.slice e)) (hinfo : (P.info? e).map (fun i => (i.zero, i.size, i.bytes)) = some (some z, 1, bytes))
    (n : Nat) (hl : a.eval l = .int .i64 n) (hc : a.eval c = .int .i64 n) (hn : n ≤ 281474976710656) (hb : n * bytes ≤ 281474976710656)
    (h : ∀ w', w'.heap[w.heap.size]? = some (.cells (madeCells z.cells n) e (0, 0)) → Nw w w' → wpList P ops Q rest (a.put o.dst (.slice (some ⟨w.heap.size, 0, none⟩) n n)) w') : wpList P ops Q (o :: rest) a w := by
  obtain ⟨i0, hi, hz0, hz1, hz2⟩ := info_parts hinfo
  have hrun := run_make (P := P) w t e i0 z ht hi hz0 .i64 .i64 n n (by omega) (Int.le_refl _) (by rw [hz2, Int.mul_comm]; have h2 := Int.ofNat_le.2 hb; rw [Int.natCast_mul] at h2; exact h2) (by omega)
  rw [Int.toNat_natCast, hz1, Nat.mul_one] at hrun
  refine wpList_plain hgd fun K hK => ?_
  unfold Oper.wp
  simp [execOp, hop, hl, hc, hrun, Result.andThen]
  exact hK _ _ (h _ (heap_new w _) (nw_alloc w _))
/-- 'copy(b, s)', b a row of as many elements as s. -/
theorem wpList_copyE (hgd : o.guard = none) (d s : Operand) (dT sT : TypeId) (ho : o.op = .call { callee := .builtin .copy, args := #[d, s], argTypes := #[dT, sT] }) (elem : TypeId) (hu : P.underlying dT = some (.slice elem)) (hsz : (P.info? elem).map (·.size) = some 1)
    (g n : Nat) (hd : a.eval d = .slice (some ⟨g, 0, none⟩) n n) (vs : Value) (B : Nat) (xs : List Value) (hs : a.eval s = vs) (hsrc : w.ownsRow B elem 1 vs n xs) (cur : Array Value) (T : TypeId) (hg : w.heap[g]? = some (.cells cur T (0, 0))) (hcur : cur.size = n) (h1 : ∀ v ∈ xs, v.oneCell' = true) (hG : nG ≤ g)
    (h : ∀ w', w'.heap[g]? = some (.cells xs.toArray T (0, 0)) → Upd (fun x => x = g) w w' → wpList P ops Q rest (a.put o.dst (goInt n)) w') : wpList P ops Q (o :: rest) a w := by
  obtain ⟨hl, hsrc2⟩ := hsrc
  rcases hsrc2 with ⟨rfl, rfl⟩ | ⟨gs, cap, cs, rfl, hb, hgs, hc, hm, hsz2, htk⟩
  · obtain rfl : xs = [] := List.eq_nil_of_length_eq_zero (by simpa using hl)
    refine wpList_copy_nothing hgd d s dT sT ho elem hu hsz _ _ _ _ _ _ hd hs (by simp) ?_
    refine h w ?_ (Upd.refl _ _)
    rw [hg, Array.eq_empty_of_size_eq_zero hcur]
  · have hlx : xs.length = n := by rw [hl, Nat.mul_one]
    refine wpList_copy_own hgd d s dT sT ho elem hu hsz g 0 n n ⟨gs, 0, none⟩ n cap hd hs cur T hg xs (by simp [hlx]) ?_ (by omega) h1 ?_
    · intro j v hv
      have hj : j < n := by rw [← hlx]; exact (List.getElem?_eq_some_iff.1 hv).1
      rw [add_plain, cells_cell hgs, Nat.zero_add]
      rw [← htk, List.getElem?_take, if_pos (by omega)] at hv
      simpa using hv
    · have e : (cur.toList.take 0 ++ (xs ++ cur.toList.drop (0 + xs.length))) = xs := by
        rw [List.take_zero, List.nil_append, Nat.zero_add, hlx, List.drop_of_length_le (by simp [hcur]), List.append_nil]
      rw [e, hlx]
      refine h _ (setRow_heap w g _ _ T _ hg) ⟨rfl, rfl, rfl, by simp [World.setRow], fun k hk hn => setRow_other w g k _ ?_⟩
      rintro rfl
      rcases hn with hn | hn
      · omega
      · exact hn rfl
end
/-! ### The journal -/
abbrev tJrn : TypeId := 97
structure JrnR where
  jb : Nat
  rv : Value
def JrnR.foot (x : JrnR) (k : Nat) : Prop := k = x.jb ∨ x.rv.ownBlock = some k
def jrnC (db : Nat) (x : JrnR) (j : Jr.Jn) : Array Value := #[.pointer (some ⟨db, 0, none⟩), .int .i64 j.file, x.rv, .int .i64 ((Jr.forms j.recs).length : Nat), .bool j.broken]
structure JrnOk (j : Jr.Jn) : Prop where
  file : 0 ≤ j.file ∧ j.file ≤ 15
  bytes : (Jr.forms j.recs).length ≤ 16777216
/-- In the blocks from B on lies the journal x on the disk db, in the state j. -/
structure JrnAt (B : Nat) (w : World) (db : Nat) (x : JrnR) (j : Jr.Jn) : Prop where
  hb : nG ≤ B
  jb : B ≤ x.jb
  blk : w.heap[x.jb]? = some (.cells (jrnC db x j) tJrn (0, 0))
  own : w.ownsRow B tStrJ 1 x.rv j.recs.length (j.recs.map bsV)
  ok : JrnOk j
section
variable {B db : Nat} {w w' : World} {x : JrnR} {j : Jr.Jn}
theorem JrnAt.foot_lt (h : JrnAt B w db x j) {k : Nat} (hk : x.foot k) : B ≤ k ∧ k < w.heap.size := by
  rcases hk with rfl | hk
  · exact ⟨h.jb, lt_of_block h.blk⟩
  · obtain ⟨h1, cs, h2⟩ := own_blockD h.own hk
    exact ⟨h1, lt_of_block h2⟩
theorem JrnAt.upd {S : Nat → Prop} (h : JrnAt B w db x j) (u : Upd S w w') (hs : ∀ k, x.foot k → ¬ S k) : JrnAt B w' db x j :=
  ⟨h.hb, h.jb, u.keep h.blk (hs _ (Or.inl rfl)), owns_updD h.own u (fun k hk => hs k (Or.inr hk)), h.ok⟩
theorem JrnAt.nw (h : JrnAt B w db x j) (u : Nw w w') : JrnAt B w' db x j := h.upd u (fun _ _ s => s)
theorem JrnAt.ne (h : JrnAt B w db x j) : x.rv.ownBlock ≠ some x.jb := fun e => by
  obtain ⟨_, cs, e2⟩ := own_blockD h.own e
  rw [h.blk] at e2
  injection e2 with e2
  injection e2 with _ e2
  exact absurd e2 (by decide)
theorem JrnAt.cells (h : JrnAt B w db x j) :
    w.cell? ⟨x.jb, 0, none⟩ = some (.pointer (some ⟨db, 0, none⟩)) ∧ w.cell? ⟨x.jb, 1, none⟩ = some (.int .i64 j.file) ∧ w.cell? ⟨x.jb, 2, none⟩ = some x.rv ∧ w.cell? ⟨x.jb, 3, none⟩ = some (.int .i64 ((Jr.forms j.recs).length : Nat)) ∧ w.cell? ⟨x.jb, 4, none⟩ = some (.bool j.broken) := by
  refine ⟨?_, ?_, ?_, ?_, ?_⟩ <;> (rw [cells_cell h.blk]; rfl)
theorem JrnAt.len (h : JrnAt B w db x j) : j.recs.length ≤ 16777216 := Nat.le_trans (Jr.len_forms _) h.ok.bytes
theorem Len_c (h : JrnAt B w db x j) : Calls Tryz.prog 55 #[.pointer (some ⟨x.jb, 0, none⟩)] w fun e w' => e = .returned (.int .i64 j.recs.length) ∧ w = w' := by
  obtain ⟨_, _, c2, _, _⟩ := h.cells
  obtain ⟨a, c, hv⟩ := own_slD h.own
  rw [hv] at c2
  have hl : (j.recs.length : Int) ≤ 16777216 := by have := h.len; omega
  clear h
  go_enter Tryz.func55, Tryz.ntmps55
  go_wp2_with fail
  go_ret
  exact ⟨rfl, rfl⟩
def getJ (l : List (List UInt8)) (i : Int) : List UInt8 := if i < 0 ∨ (l.length : Int) ≤ i then [] else l.getD i.toNat []
set_option maxRecDepth 100000 in
theorem Get_c (h : JrnAt B w db x j) (i : Int) (hi : I64 i) : Calls Tryz.prog 56 #[.pointer (some ⟨x.jb, 0, none⟩), .int .i64 i] w fun e w' => e = .returned (.string ⟨(getJ j.recs i).toArray⟩) ∧ w = w' := by
  obtain ⟨_, _, c2, _, _⟩ := h.cells
  have hsl := Sl.of_owns h.own
  obtain ⟨a, c, hv⟩ := own_slD h.own
  rw [hv] at c2 hsl
  have hl : (j.recs.length : Int) ≤ 16777216 := by have := h.len; omega
  have Hsl := Lib.hid hsl
  clear h hsl
  by_cases h0 : i < 0
  · have hr : Hid (getJ j.recs i = []) := by show _ = _; unfold getJ; rw [if_pos (Or.inl h0)]
    have hd : decide (i < 0) = true := decide_eq_true h0
    clear h0
    go_enter Tryz.func56, Tryz.ntmps56
    go_wp2_with fail
    go_ret
    exact ⟨by rw [hr.out]; rfl, rfl⟩
  have hd : decide (i < 0) = false := decide_eq_false h0
  by_cases h1 : (j.recs.length : Int) ≤ i
  · have hr : Hid (getJ j.recs i = []) := by show _ = _; unfold getJ; rw [if_pos (Or.inr h1)]
    have hd2 : decide ((j.recs.length : Int) ≤ i) = true := decide_eq_true h1
    clear h1 h0
    go_enter Tryz.func56, Tryz.ntmps56
    go_wp2_with fail
    go_ret
    exact ⟨by rw [hr.out]; rfl, rfl⟩
  have hd2 : decide ((j.recs.length : Int) ≤ i) = false := decide_eq_false h1
  obtain ⟨n, rfl⟩ : ∃ n : Nat, i = n := ⟨i.toNat, by omega⟩
  have hn : n < j.recs.length := by omega
  have hr : Hid (getJ j.recs n = j.recs[n]) := by
    show _ = _
    unfold getJ
    rw [if_neg (by omega), Int.toNat_natCast, List.getD_eq_getElem?_getD, List.getElem?_eq_getElem hn]; rfl
  rcases Hsl.out with ⟨_, _, _, hnil⟩ | ⟨bk, ok, _, e1, _, _, _, _, _, e2⟩
  · rw [List.map_eq_nil_iff] at hnil
    rw [hnil] at hn; simp at hn
  have e3 := e2 n (by simpa using hn)
  rw [List.getElem?_map, List.getElem?_eq_getElem hn] at e3
  have e4 : w.cell? ⟨bk, ok + n, none⟩ = some (.string ⟨(j.recs[n]).toArray⟩) := e3
  simp only [List.length_map, Value.slice.injEq] at e1
  obtain ⟨rfl, _, rfl⟩ := e1
  clear e2 e3 h0 h1
  go_enter Tryz.func56, Tryz.ntmps56
  go_wp2_with fail
  go_ret
  exact ⟨by rw [hr.out]; rfl, rfl⟩
theorem hold_on {p : Prop} (h : ∀ _ : Unit, p) : p := h ()
set_option maxRecDepth 100000 in
theorem All_c (h : JrnAt B w db x j) (g : Gl w) : Calls Tryz.prog 28 #[.pointer (some ⟨x.jb, 0, none⟩)] w fun e w' => ∃ v', e = .returned v' ∧ w'.ownsRow w.heap.size tStrJ 1 v' j.recs.length (j.recs.map bsV) ∧ Nw w w' := by
  have hgb := g.big
  obtain ⟨_, _, c2, _, _⟩ := h.cells
  obtain ⟨a, c, hv⟩ := own_slD h.own
  have hl := h.len
  have hl1 : (j.recs.length : Int) ≤ 16777216 := by omega
  have hl0 : (0 : Int) ≤ j.recs.length := by omega
  rw [hv] at c2
  have H := Lib.hid h
  have Hl := Lib.hid hl
  clear h hl
  go_enter Tryz.func28, Tryz.ntmps28
  go_wp2_with (at_make; refine wpList_makeE rfl _ _ 46 tStrJ _ 16 rfl Tryz.underlying46 infoStrJ j.recs.length rfl rfl ?m1 ?m2 ?_)
  case m1 => have := Hl.out; omega
  case m2 => have := Hl.out; omega
  intro w1 k1 n1
  have o1 := owns_updD H.out.own n1 (fun _ _ e => e)
  rw [hv] at o1
  have c2' := ((H.out.nw n1).cells).2.2.1
  rw [hv] at c2'
  have O1 := Lib.hid o1
  have K1 := Lib.hid k1
  clear o1 k1
  go_wp2_with (refine wpList_copyE rfl _ _ 46 46 rfl tStrJ Tryz.underlying46 (by kernel_rfl) w.heap.size j.recs.length rfl (.slice a j.recs.length c) B (j.recs.map bsV) rfl O1.out _ tStrJ K1.out ?k1 ?k2 hgb ?_)
  case k1 => rw [size_madeCells]
  case k2 => intro u hu; obtain ⟨y, _, rfl⟩ := List.mem_map.1 hu; rfl
  intro w2 k2 u2
  have K2 := Lib.hid k2
  have U2 : Hid (Nw w w2) := n1.trans' u2 (fun k hk e => by omega)
  clear k2 u2
  go_wp2_with fail
  go_ret
  refine ⟨_, rfl, ⟨by simp, Or.inr ⟨w.heap.size, _, _, rfl, Nat.le_refl _, K2.out, Nat.le_refl _, by have := Hl.out; unfold maxLen; omega, by simp, ?_⟩⟩, U2.out⟩
  rw [Nat.mul_one]
  exact List.take_of_length_le (by simp)
end
/-! ### A journal and its disk -/
structure JSys (B : Nat) (w : World) (d : DiskR) (x : JrnR) (D : Dk.Disk) (j : Jr.Jn) : Prop where
  disk : DiskAt B w d D
  jrn : JrnAt B w d.db x j
  ap : ∀ k, d.foot k → ¬ x.foot k
/-- What a call makes of a journal and its disk. -/
def JTo (B : Nat) (d : DiskR) (x : JrnR) (D' : Dk.Disk) (j' : Jr.Jn) (w w' : World) : Prop :=
  ∃ d' x', JSys B w' d' x' D' j' ∧ d'.db = d.db ∧ x'.jb = x.jb ∧ Upd (fun k => d.foot k ∨ x.foot k) w w' ∧ ∀ k, d'.foot k ∨ x'.foot k → (d.foot k ∨ x.foot k) ∨ w.heap.size ≤ k
section
variable {B : Nat} {w w' w2 : World} {d : DiskR} {x : JrnR} {D D' : Dk.Disk} {j j' : Jr.Jn}
theorem JSys.nw (h : JSys B w d x D j) (u : Nw w w') : JSys B w' d x D j := ⟨h.disk.nw u, h.jrn.nw u, h.ap⟩
theorem JTo.refl (h : JSys B w d x D j) : JTo B d x D j w w := ⟨d, x, h, rfl, rfl, Upd.refl _ _, fun k hk => Or.inl hk⟩
theorem JTo.of_nw (h : JSys B w d x D j) (u : Nw w w') : JTo B d x D j w w' := ⟨d, x, h.nw u, rfl, rfl, Nw.upd _ u, fun k hk => Or.inl hk⟩
/-- A call that turns the disk alone. -/
theorem JSys.disk_to (h : JSys B w d x D j) (t : DiskTo B d D' w w') : JTo B d x D' j w w' := by
  obtain ⟨d', h1, h2, h3, h4⟩ := t
  refine ⟨d', x, ⟨h1, by rw [h2]; exact h.jrn.upd h3 (fun k hk hd => h.ap k hd hk), fun k hk hx => ?_⟩, h2, rfl, h3.mono (fun k _ e => Or.inl e), fun k hk => ?_⟩
  · rcases h4 k hk with e | e
    · exact h.ap k e hx
    · have := (h.jrn.foot_lt hx).2; omega
  · rcases hk with hk | hk
    · exact (h4 k hk).imp Or.inl id
    · exact Or.inl (Or.inr hk)
theorem JTo.then_ {w1 : World} {d1 : DiskR} {x1 : JrnR} (hd : d1.db = d.db) (hx : x1.jb = x.jb) (u : Upd (fun k => d.foot k ∨ x.foot k) w w1) (hf : ∀ k, d1.foot k ∨ x1.foot k → (d.foot k ∨ x.foot k) ∨ w.heap.size ≤ k) (t : JTo B d1 x1 D' j' w1 w2) : JTo B d x D' j' w w2 := by
  obtain ⟨d2, x2, k1, k2, k3, k4, k5⟩ := t
  have hs := u.size
  refine ⟨d2, x2, k1, k2.trans hd, k3.trans hx, u.trans' k4 (fun k hk e => (hf k e).elim id (fun e2 => by omega)), fun k hk => ?_⟩
  rcases k5 k hk with e | e
  · exact hf k e
  · exact Or.inr (by omega)
/-- A cell of the journal's block is stored into. -/
theorem JSys.store (h : JSys B w d x D j) {j' : Jr.Jn} (i : Nat) (v : Value) (hc : (jrnC d.db x j).setIfInBounds i v = jrnC d.db x j') (e1 : j'.recs = j.recs) (e2 : j'.file = j.file) : JTo B d x D j' w (w.setCell ⟨x.jb, i, none⟩ v) := by
  have hjb := h.jrn.jb
  have hb := h.jrn.hb
  have u : Upd (fun k => k = x.jb) w (w.setCell ⟨x.jb, i, none⟩ v) := Upd.set1 (Upd.refl _ _) (by omega) i v
  refine ⟨d, x, ⟨h.disk.upd u (fun k hk e => h.ap k hk (Or.inl e)), ⟨h.jrn.hb, h.jrn.jb, ?_, ?_, ⟨by rw [e2]; exact h.jrn.ok.file, by rw [e1]; exact h.jrn.ok.bytes⟩⟩, h.ap⟩, rfl, rfl, u.mono (fun k _ e => Or.inr (Or.inl e)), fun k hk => Or.inl hk⟩
  · rw [← hc]; exact setCell_block h.jrn.blk i v
  · rw [e1]; exact owns_updD h.jrn.own u (fun k hk e => by subst e; exact h.jrn.ne hk)
theorem JrnOk.i64 (h : JrnOk j) : I64 j.file := by have := h.file; unfold I64; omega
set_option maxRecDepth 100000 in
theorem JSync_c (h : JSys B w d x D j) (g : Gl w) (hB : B ≤ w.heap.size) : Calls Tryz.prog 17 #[.pointer (some ⟨x.jb, 0, none⟩)] w fun e w' => e = .returned (.int .i64 (Jr.syncJ D j).2.2) ∧ JTo B d x (Jr.syncJ D j).1 (Jr.syncJ D j).2.1 w w' := by
  have hgb := g.big
  obtain ⟨c0, c1, _, _, c4⟩ := h.jrn.cells
  have H := Lib.hid h
  cases hb : j.broken with
  | true =>
    rw [hb] at c4
    have hr : Hid (Jr.syncJ D j = (D, j, 7)) := by show _ = _; unfold Jr.syncJ; rw [if_pos hb]
    clear hb h c0 c1
    go_enter Tryz.func17, Tryz.ntmps17
    go_wp2_with fail
    go_ret
    exact ⟨by rw [hr.out]; rfl, by rw [hr.out]; exact JTo.refl H.out⟩
  | false =>
    rw [hb] at c4
    have hr : Hid (Jr.syncJ D j = ((Dk.sync D j.file).1, { j with broken := decide ((Dk.sync D j.file).2 ≠ 0) }, (Dk.sync D j.file).2)) := by show _ = _; unfold Jr.syncJ; rw [if_neg (by rw [hb]; decide)]
    have l0 : ∀ i : Later w, i.1.cell? ⟨x.jb, 0, none⟩ = some (.pointer (some ⟨d.db, 0, none⟩)) := fun i => (H.out.jrn.nw i.nw).cells.1
    have l1 : ∀ i : Later w, i.1.cell? ⟨x.jb, 1, none⟩ = some (.int .i64 j.file) := fun i => (H.out.jrn.nw i.nw).cells.2.1
    have Hb := Lib.hid hb
    have HB := Lib.hid hB
    clear hb h hB
    go_enter Tryz.func17, Tryz.ntmps17
    go_wp2_with fail
    refine wp_region_nw_tail 8 (by kernel_rfl) (by kernel_rfl) ?_
    simp only [List.take_succ_cons, List.take_zero, List.drop_succ_cons, List.drop_zero]
    repeat (go_big_quiet_step ((fail)))
    refine wpQuiet_nil ?_
    intro w1 u1
    replace u1 := later_out u1
    have hs1 := sync_c (H.out.nw u1).disk (g.upd u1) (Nat.le_trans HB.out u1.size) H.out.jrn.ok.i64
    have Hs1 := Lib.hid hs1
    clear hs1 l0 l1
    go_wp2_with fail
    (with_reducible refine (Hs1.out).mono ?_)
    rintro _ w2 ⟨rfl, hT⟩
    have hj := (H.out.nw u1).disk_to hT
    obtain ⟨d2, x2, k1, k2, k3, k4, k5⟩ := hj
    have f4 := cells_frozen k1.jrn.blk 4
    have q4 := k1.jrn.cells.2.2.2.2
    rw [k3] at f4 q4
    have hfin := fun (b : Bool) => JTo.then_ k2 k3 (Upd.trans (Nw.upd _ u1) k4) (fun k hk => (k5 k hk).imp id (fun e => Nat.le_trans u1.size e)) (JSys.store k1 (j' := { j with broken := b }) 4 (.bool b) rfl rfl rfl)
    rw [k3] at hfin
    have Hfin := Lib.hid hfin
    clear hfin k1 k4 k5 hT u1
    generalize (Dk.sync D j.file).2 = E at *
    by_cases h0 : E = 0
    · have b1 : (E == 0) = true := beq_iff_eq.2 h0
      have b2 : (E != 0) = false := by simp [h0]
      have hz := Hfin.out false
      have hdz : Hid (decide (E ≠ 0) = false) := by show _ = _; exact decide_eq_false (fun e => e h0)
      clear h0 Hfin
      have Hz := Lib.hid hz
      clear hz
      go_wp2_with fail
      go_ret
      exact ⟨by rw [hr.out]; rfl, by rw [hr.out, hdz.out]; exact Hz.out⟩
    · have b1 : (E == 0) = false := beq_eq_false_iff_ne.2 h0
      have b2 : (E != 0) = true := by simp [h0]
      have hz := Hfin.out true
      have hdz : Hid (decide (E ≠ 0) = true) := by show _ = _; exact decide_eq_true h0
      clear h0 Hfin
      have Hz := Lib.hid hz
      clear hz
      go_wp2_with fail
      go_ret
      exact ⟨by rw [hr.out]; rfl, by rw [hr.out, hdz.out]; exact Hz.out⟩
end
end Go.Proofs.YtiambnllidingaaGreatDoor
