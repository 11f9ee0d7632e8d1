/- The contract of the disk's Crash. -/
import Derived.Test.YtagmlemlagbfkaaGreatDoorPkFSurv8
namespace Go.Proofs.YtagmlemlagbfkaaGreatDoor
open Go.RowKit
set_option linter.unusedVariables false
set_option linter.unusedSimpArgs false
attribute [local irreducible] Calls

/-- The cells of a list of numbers. -/
theorem int_cells {lo hi : Nat} {w : World} {v : Value} {l : List Int} (h : Sl lo hi w v (l.map intD)) :
    ∃ a cap, v = .slice a l.length cap ∧ l.length ≤ maxLen ∧ (l = [] ∨ ∃ b off, a = some ⟨b, off, none⟩ ∧ b < hi ∧ b < w.heap.size ∧ ∀ i (h : i < l.length), w.cell? ⟨b, off + i, none⟩ = some (.int .i64 l[i])) := by
  obtain ⟨a, cap, rfl, hm, h⟩ := h.open_
  rw [List.length_map] at hm
  refine ⟨a, cap, by rw [List.length_map], hm, ?_⟩
  rcases h with ⟨_, _, h⟩ | ⟨b, off, rfl, _, hb1, hb, hc⟩
  · exact Or.inl (by simpa using h)
  · refine Or.inr ⟨b, off, rfl, hb1, hb, fun i hi => ?_⟩
    have h2 := hc i (by simpa using hi)
    rw [h2, List.getElem?_map, List.getElem?_eq_getElem hi]; rfl
theorem and1 (x : Int) : bits .and .i64 x 1 = x % 2 := by
  have e : (BitVec.ofInt IntKind.i64.bits x &&& BitVec.ofInt IntKind.i64.bits 1).toNat = (x % 2).toNat := by
    rw [BitVec.toNat_and]
    have h1 : (BitVec.ofInt IntKind.i64.bits 1).toNat = 1 := by decide
    rw [h1, Nat.and_one_is_mod, BitVec.toNat_ofInt]
    simp only [IntKind.bits]
    omega
  show IntKind.i64.wrap ((BitVec.ofInt IntKind.i64.bits x &&& BitVec.ofInt IntKind.i64.bits 1).toNat : Int) = _
  rw [e, IntKind.wrap_i64]
  omega
theorem put_g (sb tb : ByteArray) (s t : List UInt8) (i' : Int) (i : Nat) (h1 : sb.data.toList = s) (h2 : tb.data.toList = t) (h3 : i' = i) (w : World) (g : Gl w) (hs : s.length ≤ 16777216) (hi : i + t.length ≤ 16777216) :
    Calls Tryz.prog 113 #[.string sb, .int .i64 i', .string tb] w fun e w' => e = .returned (.string ⟨(Dk.put s i t).toArray⟩) ∧ Nw w w' := by
  subst h3
  have := put_c s t i w g hs hi
  rw [← h1, ← h2, bs_eta, bs_eta] at this
  rw [← h1, ← h2]
  exact this
theorem later_fil {w : World} {b : Nat} {a0 a1 : Value} {T : TypeId} (h : w.heap[b]? = some (.cells #[a0, a1] T (0, 0))) :
    (∀ i : Later w, i.1.cell? ⟨b, 0, none⟩ = some a0) ∧ ∀ i : Later w, i.1.cell? ⟨b, 1, none⟩ = some a1 :=
  ⟨fun i => (cell2D (i.nw.keep h)).1, fun i => (cell2D (i.nw.keep h)).2⟩
theorem DiskAt.same {B : Nat} {w : World} {r : DiskR} {D D' : Dk.Disk} (h : DiskAt B w r D) (e1 : D'.fs = D.fs) (e2 : D'.q = D.q) (e3 : D'.keep = D.keep) (e4 : D'.lost = D.lost) (e5 : D'.down = D.down) (e6 : D'.armed = D.armed) (hk : Dk.Ok D') : DiskAt B w r D' :=
  h.putF (Upd.refl _ _) (by rw [e1]; exact h.files) e2 e3 e4 e5 e6 hk
/-- 'm[k] = v' as the last operation. -/
theorem wpList_storeL0 {P : Program} {w w' : World} {ops : Array Oper} {rest : List Oper} {o : Oper} {a : Act} {Q : Exit → Act → World → Prop} (hd : o.dst = none) (hg : o.guard = none) (m x y : Operand) (t : TypeId) (hop : o.op = Op.mapUpdate t m x y)
    (vm key v : Value) (hm : a.eval m = vm) (hx : a.eval x = key) (hy : a.eval y = v) (hrun : (Instr.mapUpdate t vm key v).run P w = .ok () w') (h : wpList P ops Q rest a w') : wpList P ops Q (o :: rest) a w := by
  refine wpList_plain hg fun K hK => ?_
  unfold Oper.wp
  simp [execOp, hop, hm, hx, hy, hrun, Result.andThen]
  refine hK _ _ ?_
  rw [hd]
  exact h
/-- While the files are ranged over: each is as it was, or settled; those that have come are settled. -/
structure CrashS (W : World) (fm rr : Nat) (F : Int → Dk.Fil) (z : World) : Prop where
  rng : ∃ l done gs, RangeS Tryz.prog tIntD z fm rr l done ∧ SaysF l gs ∧ (∀ f, gs f = F f ∨ gs f = ⟨(F f).last, (F f).last⟩) ∧ ∀ f, done (.int .i64 f) → gs f = ⟨(F f).last, (F f).last⟩
  upd : Upd (fun k => k = fm) W z
theorem crash_done {B db fm sm : Nat} {qv kv : Value} {W z : World} {C D' : Dk.Disk} (h : DiskAt B W ⟨db, fm, sm, qv, kv⟩ C) (u : Upd (fun k => k = fm) W z) (hf : FilesL z fm D'.fs) (eq : D'.q = []) (ek : D'.keep = C.keep) (e4 : D'.lost = C.lost) (e5 : D'.down = C.down) (e6 : D'.armed = C.armed) (hk : Dk.Ok D') :
    DiskTo B ⟨db, fm, sm, qv, kv⟩ D' W (((z.alloc (.map #[] 0)).setCell ⟨db, 1, none⟩ (.slice none 0 0)).setCell ⟨db, 2, none⟩ (.map (some z.heap.size))) := by
  obtain ⟨a1, a2, a3, a4, a5, a6, a7, a8, a9⟩ := h.apart
  dsimp only at a1 a2 a3 a4 a5 a6 a7 a8 a9
  have hlt := fun j hj => (h.foot_lt (k := j) hj).2
  have hdb := hlt db (Or.inl rfl)
  have hfm := hlt fm (Or.inr (Or.inl rfl))
  have hs := u.size
  have hdB := h.db
  have hB := h.hb
  dsimp only at hdB
  have n1 := nw_alloc z (.map #[] 0)
  have u2 : Upd (fun k => k = db) (z.alloc (.map #[] 0)) ((z.alloc (.map #[] 0)).setCell ⟨db, 1, none⟩ (.slice none 0 0)) := Upd.set1 (Upd.refl _ _) (by omega) 1 _
  have u3 : Upd (fun k => k = db) ((z.alloc (.map #[] 0)).setCell ⟨db, 1, none⟩ (.slice none 0 0)) (((z.alloc (.map #[] 0)).setCell ⟨db, 1, none⟩ (.slice none 0 0)).setCell ⟨db, 2, none⟩ (.map (some z.heap.size))) := Upd.set1 (Upd.refl _ _) (by omega) 2 _
  have b1 := n1.keep (u.keep h.blk a1)
  have b3 := setCell_block (setCell_block b1 1 (.slice none 0 0)) 2 (.map (some z.heap.size))
  refine ⟨⟨db, fm, z.heap.size, .slice none 0 0, kv⟩, ⟨h.hb, h.db, h.fm, by show B ≤ z.heap.size; omega, by show fm ≠ z.heap.size; omega, ?_, ?_, ?_, ?_, ?_, hk, by rw [ek]; exact h.kI⟩, rfl, ?_, ?_⟩
  · unfold diskC at b3 ⊢
    rw [e4, e5, e6]; exact b3
  · exact ((hf.upd n1 id).upd u2 (fun e => a1 e.symm)).upd u3 (fun e => a1 e.symm)
  · rw [eq]
    exact ((SetL.made z).upd u2 (fun e => by omega)).upd u3 (fun e => by omega)
  · rw [eq]; exact World.ownsRow_nil _ _ _ _
  · rw [ek]
    exact owns_updD (owns_updD (owns_updD (owns_updD h.keep u (fun k hk e => by subst e; exact a7 hk)) n1 (fun _ _ e => e)) u2 (fun k hk e => by subst e; exact a6 hk)) u3 (fun k hk e => by subst e; exact a6 hk)
  · exact (((u.mono (fun k _ e => Or.inr (Or.inl e))).nw n1).trans' u2 (fun k _ e => Or.inl e)).trans' u3 (fun k _ e => Or.inl e)
  · rintro j (e | e | e | e | e)
    · exact Or.inl (Or.inl e)
    · exact Or.inl (Or.inr (Or.inl e))
    · exact Or.inr (by dsimp only at e; omega)
    · cases e
    · exact Or.inl (Or.inr (Or.inr (Or.inr (Or.inr e))))
theorem two_set (w : World) (b : Nat) (cs : Array Value) (T : TypeId) (h : w.heap[b]? = some (.cells cs T (0, 0))) (v0 v1 v2 : Value) (h1 : cs[1]? = some v1) (h2 : cs[2]? = some v2) :
    w.cell? ⟨b, 1, none⟩ = some v1 ∧ w.frozen? ⟨b, 1, none⟩ = false ∧ (w.setCell ⟨b, 1, none⟩ v0).cell? ⟨b, 2, none⟩ = some v2 ∧ (w.setCell ⟨b, 1, none⟩ v0).frozen? ⟨b, 2, none⟩ = false := by
  have k := setCell_block h 1 v0
  refine ⟨by rw [cells_cell h]; exact h1, cells_frozen h 1, ?_, cells_frozen k 2⟩
  rw [cells_cell k, Array.getElem?_setIfInBounds]
  rw [if_neg (by decide)]; exact h2
set_option maxHeartbeats 4000000 in
set_option maxRecDepth 100000 in
theorem crash_c {B : Nat} {w : World} {r : DiskR} {D : Dk.Disk} (h : DiskAt B w r D) (g : Gl w) (hB : B ≤ w.heap.size) (lo hi : Nat) (kvv : Value) (keep : List Int) (hk : ∀ z, Upd (fun j => j = r.db ∨ j = r.fm) w z → Sl lo hi z kvv (keep.map intD)) (hkI : ∀ x ∈ keep, I64 x) :
    Calls Tryz.prog 48 #[.pointer (some ⟨r.db, 0, none⟩), kvv] w fun e w' => e = .returned (.tuple #[]) ∧ DiskTo B r (Dk.crash D keep) w w' := by
  have hgb := g.big
  obtain ⟨_, c1, _, _, c4, c5, _⟩ := h.cells
  have f4 := h.frozen 4
  have H := Lib.hid h
  cases hd : D.down with
  | true =>
    rw [hd] at c4
    have hr : Hid (Dk.crash D keep = D) := by show _ = _; unfold Dk.crash; rw [if_pos hd]
    clear hd h hk
    go_enter Tryz.func48, Tryz.ntmps48
    go_wp2_with fail
    (try simp only [Exit.inBlock, Exit.then])
    refine bodyPost_ret (results_none rfl _ _ _) rfl ?_
    exact ⟨rfl, by rw [hr.out]; exact DiskTo.refl H.out⟩
  | false =>
  rw [hd] at c4
  have hr : Hid (Dk.crash D keep = _) := Dk.crash_eq hd keep
  obtain ⟨aq, cq, hqv⟩ := own_slD h.queue
  obtain ⟨ak, ck, hkv, hkm, _⟩ := int_cells (hk w (Upd.refl _ _))
  subst hkv
  unfold maxLen at hkm
  have hkm2 : (keep.length : Int) ≤ 9223372036854775807 := by omega
  have hkm1 : (0 : Int) ≤ keep.length := by omega
  have Hkm := Lib.hid hkm
  -- the two stores
  have s1 := h.store (D' := { D with down := true }) 4 (.bool true) rfl rfl rfl rfl ⟨h.ok.now, h.ok.last, h.ok.q, h.ok.nd, h.ok.lost, h.ok.armed⟩
  obtain ⟨s1, v1⟩ := s1
  have s2 := s1.store (D' := Dk.crashK D keep 0) 5 (.int .i64 0) rfl rfl rfl rfl (Dk.crashK_ok h.ok keep 0)
  obtain ⟨s2, v2⟩ := s2
  have e5 : (w.setCell ⟨r.db, 4, none⟩ (.bool true)).cell? ⟨r.db, 5, none⟩ = some (.int .i64 D.armed) := s1.cells.2.2.2.2.2.1
  have e5f : (w.setCell ⟨r.db, 4, none⟩ (.bool true)).frozen? ⟨r.db, 5, none⟩ = false := s1.frozen 5
  have e1 : ((w.setCell ⟨r.db, 4, none⟩ (.bool true)).setCell ⟨r.db, 5, none⟩ (.int .i64 0)).cell? ⟨r.db, 1, none⟩ = some r.qv := s2.cells.2.1
  rw [hqv] at e1 c1
  have hql := h.ok.q_len
  have Hql := Lib.hid hql
  have hqm : (D.q.length : Int) ≤ 4194304 := by omega
  have H0 : Hid (DiskAt B ((w.setCell ⟨r.db, 4, none⟩ (.bool true)).setCell ⟨r.db, 5, none⟩ (.int .i64 0)) r (Dk.crashK D keep 0)) := s2
  have U0 : Hid (Upd (fun j => j = r.db ∨ j = r.fm) w ((w.setCell ⟨r.db, 4, none⟩ (.bool true)).setCell ⟨r.db, 5, none⟩ (.int .i64 0))) := (v1.mono (fun _ _ e => Or.inl e)).trans' v2 (fun _ _ e => Or.inl e)
  have Hd := Lib.hid hd
  have Hk := Lib.hid hk
  have HkI := Lib.hid hkI
  clear h s1 s2 v1 v2 hql hkm hd hk hkI
  go_enter Tryz.func48, Tryz.ntmps48
  go_wp2_with fail
  go_loopw [25] (fun iv wr => ∃ k : Nat, k ≤ D.q.length ∧ iv = .int .i64 k ∧ Hid (DiskAt B wr r (Dk.crashK D keep k)) ∧ Hid (Upd (fun j => j = r.db ∨ j = r.fm) w wr)) (fun iv _ => D.q.length - (intOf iv).toNat)
  case atStart => exact ⟨0, Nat.zero_le _, rfl, H0.out, U0.out⟩
  case round =>
    obtain ⟨k, hk, rfl, HD, HU⟩ := hrel
    by_cases hlt : k < D.q.length
    · have h' := HD.out
      obtain ⟨a', c', es, _, hcell⟩ := secD_cells (sec_sls h'.queue)
      have es2 : aq = a' ∧ cq = c' := by
        rw [hqv] at es
        simpa [Dk.crashK] using es
      obtain ⟨rfl, rfl⟩ := es2
      have hlt' : k < (Dk.crashK D keep k).q.length := hlt
      rcases hcell with hnil | ⟨b, o, rfl, _, hbb, hc⟩
      · exfalso
        have : D.q = [] := hnil
        rw [this] at hlt; simp at hlt
      obtain ⟨d0, d1⟩ := hc k hlt'
      have hp := h'.ok.q (D.q[k]) (List.getElem_mem hlt)
      have hfs := Dk.crashK_succ (keep := keep) hlt
      have hOk1 := Dk.crashK_ok H.out.ok keep (k + 1)
      have hpI := q_I64 h'.ok (D.q[k]) (List.getElem_mem hlt)
      have e0 : (Dk.crashK D keep k).q[k] = D.q[k] := rfl
      rw [e0] at d0 d1
      have hnow := h'.ok.now D.q[k].1
      have hlook := fun (z : World) (uz : Nw wr z) => (h'.nw uz).files.look hpI.1
      generalize D.q[k] = p at *
      obtain ⟨pf, pn⟩ := p
      dsimp only at d0 d1 hp hfs hpI hnow hlook
      unfold filV at hlook
      generalize hF : (Dk.crashK D keep k).fs pf = F at *
      obtain ⟨N, L⟩ := F
      dsimp only at hnow hlook
      have n1 := nw_alloc wr (.cells #[.int .i64 pf, .int .i64 pn] tSec)
      have k1 := heap_new wr (.cells #[.int .i64 pf, .int .i64 pn] tSec)
      have HS2 : Hid (∀ z, Nw (wr.alloc (.cells #[.int .i64 pf, .int .i64 pn] tSec)) z → z.cell? ⟨r.db, 0, none⟩ = some (.map (some r.fm)) ∧ z.cell? ⟨wr.heap.size, 0, none⟩ = some (.int .i64 pf) ∧ z.cell? ⟨wr.heap.size, 1, none⟩ = some (.int .i64 pn) ∧ (Instr.lookup tFiles (.map (some r.fm)) (.int .i64 pf) false).run Tryz.prog z = .ok (.agg #[.string ⟨N.toArray⟩, .string ⟨L.toArray⟩]) z) := fun z uz => by
        obtain ⟨z0, z1⟩ := cell2D (Nw.keep uz k1)
        exact ⟨(h'.nw (n1.trans uz)).cells.1, z0, z1, hlook z (n1.trans uz)⟩
      have hw : IntKind.i64.wrap (pn * 64) = pn * 64 := by rw [IntKind.wrap_i64]; omega
      have hpn0 : 0 ≤ pn := hp.2.2.1
      have hpn1 : pn < 262144 := hp.2.2.2
      have HSd := HS2.out _ ((Upd.refl _ _).drew)
      have K1 := Lib.hid k1
      have Hfs := Lib.hid hfs
      have Hnow := Lib.hid hnow
      have HpI := Lib.hid hpI
      have HF := Lib.hid hF
      clear hc hlook k1 hfs hOk1 hnow hpI hF hp es e0 h'
      go_wp2_with fail
      refine wp_region_H 11 (fun z => True ∧ True) (fun z => z.cell? ⟨r.db, 0, none⟩ = some (.map (some r.fm)) ∧ z.cell? ⟨wr.heap.size, 0, none⟩ = some (.int .i64 pf) ∧ z.cell? ⟨wr.heap.size, 1, none⟩ = some (.int .i64 pn) ∧ (Instr.lookup tFiles (.map (some r.fm)) (.int .i64 pf) false).run Tryz.prog z = .ok (.agg #[.string ⟨N.toArray⟩, .string ⟨L.toArray⟩]) z) (by kernel_rfl) ?_
      refine wpAnyH_pure (i := 0) (v := ?_) rfl (by kernel_rfl) (by kernel_rfl) (by kernel_rfl) (by kernel_rfl) (by kernel_rfl) (fun _ _ _ h => h) (by rfl) ?_ (⟨fun _ => ⟨trivial, trivial⟩, HSd⟩) ?_
      rotate_left 1
      · (intro zz; go_simp; first | done | with_reducible rfl)
      (try simp only [Act.put, List.setIfInBounds_toArray, List.set_cons_zero, List.set_cons_succ])
      refine wpAnyH_pure (i := 1) (v := ?_) rfl (by kernel_rfl) (by kernel_rfl) (by kernel_rfl) (by kernel_rfl) (by kernel_rfl) (fun _ _ _ h => h) (by rfl) ?_ (⟨fun _ => ⟨trivial, trivial⟩, HSd⟩) ?_
      rotate_left 1
      · (intro zz; go_simp; first | done | with_reducible rfl)
      (try simp only [Act.put, List.setIfInBounds_toArray, List.set_cons_zero, List.set_cons_succ])
      refine wpAnyH_pure (i := 2) (v := ?_) rfl (by kernel_rfl) (by kernel_rfl) (by kernel_rfl) (by kernel_rfl) (by kernel_rfl) (fun _ _ _ h => h) (by rfl) ?_ (⟨fun _ => ⟨trivial, trivial⟩, HSd⟩) ?_
      rotate_left 1
      · (intro zz; go_simp; first | done | with_reducible rfl)
      (try simp only [Act.put, List.setIfInBounds_toArray, List.set_cons_zero, List.set_cons_succ])
      refine wpAnyH_load2 (i := 3) (v := ?_) rfl (by kernel_rfl) (by kernel_rfl) (by kernel_rfl) (by kernel_rfl) (by kernel_rfl) (fun _ _ _ h => h) (by rfl) ?_ (⟨fun _ => ⟨trivial, trivial⟩, HSd⟩) ?_
      rotate_left 1
      · (intro zz hS2; obtain ⟨_, _, _, _⟩ := hS2; go_simp; first | done | with_reducible rfl)
      (try simp only [Act.put, List.setIfInBounds_toArray, List.set_cons_zero, List.set_cons_succ])
      refine wpAnyH_pure (i := 4) (v := ?_) rfl (by kernel_rfl) (by kernel_rfl) (by kernel_rfl) (by kernel_rfl) (by kernel_rfl) (fun _ _ _ h => h) (by rfl) ?_ (⟨fun _ => ⟨trivial, trivial⟩, HSd⟩) ?_
      rotate_left 1
      · (intro zz; go_simp; first | done | with_reducible rfl)
      (try simp only [Act.put, List.setIfInBounds_toArray, List.set_cons_zero, List.set_cons_succ])
      refine wpAnyH_load2 (i := 5) (v := ?_) rfl (by kernel_rfl) (by kernel_rfl) (by kernel_rfl) (by kernel_rfl) (by kernel_rfl) (fun _ _ _ h => h) (by rfl) ?_ (⟨fun _ => ⟨trivial, trivial⟩, HSd⟩) ?_
      rotate_left 1
      · (intro zz hS2; obtain ⟨_, _, _, _⟩ := hS2; go_simp; first | done | with_reducible rfl)
      (try simp only [Act.put, List.setIfInBounds_toArray, List.set_cons_zero, List.set_cons_succ])
      refine wpAnyH_load2 (i := 6) (v := ?_) rfl (by kernel_rfl) (by kernel_rfl) (by kernel_rfl) (by kernel_rfl) (by kernel_rfl) (fun _ _ _ h => h) (by rfl) ?_ (⟨fun _ => ⟨trivial, trivial⟩, HSd⟩) ?_
      rotate_left 1
      · (intro zz hS2; obtain ⟨_, _, _, _⟩ := hS2; go_simp; first | done | with_reducible rfl)
      (try simp only [Act.put, List.setIfInBounds_toArray, List.set_cons_zero, List.set_cons_succ])
      refine wpAnyH_pure (i := 7) (v := ?_) rfl (by kernel_rfl) (by kernel_rfl) (by kernel_rfl) (by kernel_rfl) (by kernel_rfl) (fun _ _ _ h => h) (by rfl) ?_ (⟨fun _ => ⟨trivial, trivial⟩, HSd⟩) ?_
      rotate_left 1
      · (intro zz; go_simp; first | done | with_reducible rfl)
      (try simp only [Act.put, List.setIfInBounds_toArray, List.set_cons_zero, List.set_cons_succ])
      refine wpAnyH_load2 (i := 8) (v := ?_) rfl (by kernel_rfl) (by kernel_rfl) (by kernel_rfl) (by kernel_rfl) (by kernel_rfl) (fun _ _ _ h => h) (by rfl) ?_ (⟨fun _ => ⟨trivial, trivial⟩, HSd⟩) ?_
      rotate_left 1
      · (intro zz hS2; obtain ⟨_, _, _, _⟩ := hS2; go_simp; first | done | with_reducible rfl)
      (try simp only [Act.put, List.setIfInBounds_toArray, List.set_cons_zero, List.set_cons_succ])
      refine wpAnyH_pure (i := 9) (v := ?_) rfl (by kernel_rfl) (by kernel_rfl) (by kernel_rfl) (by kernel_rfl) (by kernel_rfl) (fun _ _ _ h => h) (by rfl) ?_ (⟨fun _ => ⟨trivial, trivial⟩, HSd⟩) ?_
      rotate_left 1
      · (intro zz; go_simp; first | done | with_reducible rfl)
      (try simp only [Act.put, List.setIfInBounds_toArray, List.set_cons_zero, List.set_cons_succ])
      refine wpAnyH_one (i := 10) (by kernel_rfl) rfl (fun K hK => ?_)
      go_simp
      refine hK.out _ _ ⟨fun _ => ⟨trivial, trivial⟩, HS2.out _ (((Upd.refl _ _).alloc _).drew)⟩ ?_
      clear hK K
      (try simp only [Act.put, List.setIfInBounds_toArray, List.set_cons_zero, List.set_cons_succ])
      refine wpAnyH_one (i := 11) (by kernel_rfl) rfl (fun K hK => ?_)
      go_simp
      refine hK.out _ _ ⟨fun _ => ⟨trivial, trivial⟩, HS2.out _ (((Upd.refl _ _).alloc _).drew)⟩ ?_
      clear hK K
      (try simp only [Act.put, List.setIfInBounds_toArray, List.set_cons_zero, List.set_cons_succ])
      refine wpAnyH_one (i := 12) (by kernel_rfl) rfl (fun K hK => ?_)
      go_simp
      refine hK.out _ _ ⟨fun _ => ⟨trivial, trivial⟩, HS2.out _ (((Upd.refl _ _).alloc _).drew)⟩ ?_
      clear hK K
      (try simp only [Act.put, List.setIfInBounds_toArray, List.set_cons_zero, List.set_cons_succ])
      refine wpAnyH_done (by kernel_rfl) ?_ _
      obtain ⟨W2, hW2, n2, k2⟩ : ∃ W2, ((wr.alloc (.cells #[.int .i64 pf, .int .i64 pn] tSec)).alloc (.cells #[.string ⟨N.toArray⟩, .string ⟨L.toArray⟩] tFile)).drew = W2 ∧ Nw wr W2 ∧ W2.heap[wr.heap.size + 1]? = some (.cells #[.string ⟨N.toArray⟩, .string ⟨L.toArray⟩] tFile (0, 0)) := ⟨_, rfl, (n1.alloc _).drew, by
        have := heap_new (wr.alloc (.cells #[.int .i64 pf, .int .i64 pn] tSec)) (.cells #[.string ⟨N.toArray⟩, .string ⟨L.toArray⟩] tFile)
        rw [show (wr.alloc (.cells #[.int .i64 pf, .int .i64 pn] tSec)).heap.size = wr.heap.size + 1 by simp] at this
        exact this⟩
      rw [hW2]
      have k1' : W2.heap[wr.heap.size]? = some (.cells #[.int .i64 pf, .int .i64 pn] tSec (0, 0)) := by rw [← hW2]; exact Nw.keep (((Upd.refl _ _).alloc _).drew) K1.out
      obtain ⟨_, _⟩ := cell2D k2
      obtain ⟨_, _⟩ := cell2D k1'
      have hsl := Hk.out W2 (HU.out.trans (Nw.upd _ n2))
      obtain ⟨a2, c2, e2, _, hkc⟩ := int_cells hsl
      have e3 : ak = a2 ∧ ck = c2 := by simpa using e2
      obtain ⟨rfl, rfl⟩ := e3
      have K1' := Lib.hid k1'
      have K2 := Lib.hid k2
      clear hW2 hsl e2 k1' k2 HSd
      have HD2 := Lib.hid (HD.out.nw n2)
      have HU2 : Hid (Upd (fun j => j = r.db ∨ j = r.fm) w W2) := HU.out.nw n2
      have hOk1 : Hid (Dk.Ok (Dk.crashK D keep (k + 1))) := Dk.crashK_ok H.out.ok keep (k + 1)
      have hskip : Dk.survive keep (Dk.crashK D keep k).fs (pf, pn) k = (Dk.crashK D keep k).fs → Hid (DiskAt B W2 r (Dk.crashK D keep (k + 1))) := fun e =>
        HD2.out.same (by rw [Hfs.out, e]) rfl rfl rfl rfl rfl hOk1.out
      have Hskip := Lib.hid hskip
      clear hskip
      by_cases hk0 : keep.length = 0
      · have hz : (keep.length : Int) = 0 := by omega
        have hod : Hid (Dk.odd keep k = false) := by show _ = _; unfold Dk.odd; rw [List.length_eq_zero_iff.1 hk0]; rfl
        clear hkc hk0
        have hz3 := Hskip.out (Dk.odd_not hod.out)
        clear Hskip
        go_wp2_with fail
        go_roundw
        case rel => exact ⟨k + 1, by omega, by go_num, hz3, HU2⟩
        case measure => simp [intOf]; omega
      · rcases hkc with hnil | ⟨bk, ok, rfl, _, _, hkc⟩
        · rw [hnil] at hk0; simp at hk0
        have hklt : k % keep.length < keep.length := Nat.mod_lt _ (by omega)
        have z0 := hkc _ hklt
        have hke : ((keep.length : Int) == 0) = false := beq_eq_false_iff_ne.2 (by omega)
        have hbx := and1 keep[k % keep.length]
        have hodd : Dk.odd keep k = decide (keep[k % keep.length] % 2 = 1) := by
          unfold Dk.odd
          rw [decide_eq_true (show keep ≠ [] from fun e => by rw [e] at hk0; simp at hk0), Bool.true_and, List.getD_eq_getElem?_getD, List.getElem?_eq_getElem hklt]
          rfl
        clear hkc
        generalize keep[k % keep.length] = x at *
        by_cases hx : x % 2 = 1
        rotate_left
        · have hod : Hid (Dk.odd keep k = false) := by show _ = _; rw [hodd, decide_eq_false hx]
          have hb0 : bits .and .i64 x 1 = 0 := by rw [hbx]; omega
          clear hodd hx hbx
          have hz3 := Hskip.out (Dk.odd_not hod.out)
          clear Hskip
          go_wp2_with fail
          go_roundw
          case rel => exact ⟨k + 1, by omega, by go_num, hz3, HU2⟩
          case measure => simp [intOf]; omega
        have hod : Hid (Dk.odd keep k = true) := by show _ = _; rw [hodd, decide_eq_true hx]
        have hb0 : bits .and .i64 x 1 = 1 := by rw [hbx]; omega
        clear hodd hx hbx
        obtain ⟨m, rfl⟩ : ∃ m : Nat, pn = m := ⟨pn.toNat, by omega⟩
        by_cases hfar : (N.length : Int) ≤ (m : Int) * 64
        · have hfn : Hid (((Dk.crashK D keep k).fs (pf, (m : Int)).1).now.length ≤ 64 * (pf, (m : Int)).2.toNat) := by
            show _ ≤ _
            dsimp only
            rw [HF.out]
            show N.length ≤ _
            omega
          have hz3 := Hskip.out (Dk.far_not hfn.out)
          clear Hskip
          go_wp2_with fail
          go_roundw
          case rel => exact ⟨k + 1, by omega, by go_num, hz3, HU2⟩
          case measure => simp [intOf]; omega
        have hml : (m : Int) * 64 < N.length := by omega
        have hnl := Hnow.out
        have hbI : (N.length : Int) ≤ 16777216 := by omega
        have hw2 : IntKind.i64.wrap ((m : Int) * 64 + 64) = (m : Int) * 64 + 64 := by rw [IntKind.wrap_i64]; omega
        have hs1 : (m : Int) * 64 ≤ min ((m : Int) * 64 + 64) N.length := by omega
        have hs2 : min ((m : Int) * 64 + 64) (N.length : Int) ≤ N.length := by omega
        have hs0 : 0 ≤ (m : Int) * 64 := by omega
        have hext : (({ data := N.toArray } : ByteArray).extract ((m : Int) * 64).toNat (min ((m : Int) * 64 + 64) (N.length : Int)).toNat).data.toList = (N.drop (64 * m)).take 64 := by
          rw [bs_extract, bs_list]
          rw [show ((m : Int) * 64).toNat = 64 * m by omega]
          by_cases hc : m * 64 + 64 ≤ N.length
          · rw [show (min ((m : Int) * 64 + 64) (N.length : Int)).toNat - 64 * m = 64 by omega]
          · rw [List.take_of_length_le (by rw [List.length_drop]; omega), List.take_of_length_le (by rw [List.length_drop]; omega)]
        have hL := HD2.out.ok.last pf
        rw [HF.out] at hL
        dsimp only at hL
        have hput := fun j : Later W2 => put_g ⟨L.toArray⟩ _ L ((N.drop (64 * m)).take 64) ((m : Int) * 64) (64 * m) (bs_list L) hext (by omega) j.1 (g.upd (HU2.out.nw j.nw)) hL (by rw [List.length_take, List.length_drop]; omega)
        have hsv : Hid ((Dk.crashK D keep (k + 1)).fs = Dk.setF (Dk.crashK D keep k).fs pf ⟨N, Dk.put L (64 * m) ((N.drop (64 * m)).take 64)⟩) := by
          show _ = _
          have hff : (Dk.crashK D keep k).fs (pf, (m : Int)).1 = ⟨N, L⟩ := HF.out
          have := Dk.survive_yes (keep := keep) (i := k) (fs := (Dk.crashK D keep k).fs) (p := (pf, (m : Int))) hod.out (by rw [hff]; dsimp only; omega)
          rw [Hfs.out, this, hff]
          dsimp only
          rw [show ((m : Int)).toNat = m by omega]
        have Hput := Lib.hid hput
        obtain ⟨l60, l61⟩ := later_fil K2.out
        have Hext := Lib.hid hext
        have Hs := Lib.hid (And.intro hs0 (And.intro hs1 (And.intro hs2 (And.intro hw2 (And.intro l60 l61)))))
        have hge : decide ((N.length : Int) ≤ (m : Int) * 64) = false := decide_eq_false hfar
        have Hml := Lib.hid hml
        clear hnl hext hL hput Hskip hod hfar hs0 hs1 hs2 hw2 l60 l61 hbI hml
        clear hpn0 hpn1
        go_upto_region 7 with fail
        obtain ⟨hs0, hs1, hs2, hw2, l60, l61⟩ := Hs.out
        clear Hs
        refine wp_region_nw_tail 15 (by kernel_rfl) (by kernel_rfl) ?_
        simp only [List.take_succ_cons, List.take_zero, List.drop_succ_cons, List.drop_zero]
        repeat (go_big_quiet_step ((go_at_call 113; exact later_call (Hput.out _))))
        refine wpQuiet_nil ?_
        intro w3 u3
        replace u3 := later_out u3
        generalize Dk.put L (64 * m) ((N.drop (64 * m)).take 64) = P at *
        have k3 := Nw.keep u3 K2.out
        obtain ⟨_, _⟩ := cell2D k3
        have f31 := cells_frozen k3 1
        have hbx : ¬ (wr.heap.size + 1 = r.db ∨ wr.heap.size + 1 = r.fm) ∧ ¬ r.foot (wr.heap.size + 1) := by
          have h1 := fun j hj => (HD.out.foot_lt (k := j) hj).2
          refine ⟨?_, fun e => by have := h1 _ e; omega⟩
          rintro (e | e)
          · have := h1 _ (Or.inl rfl); omega
          · have := h1 _ (Or.inr (Or.inl rfl)); omega
        have x4 : Upd (fun j => j = wr.heap.size + 1) w3 (w3.setCell ⟨wr.heap.size + 1, 1, none⟩ (.string ⟨P.toArray⟩)) := Upd.set1 (Upd.refl _ _) (by have := HU.out.size; omega) 1 _
        have k4 := setCell_block k3 1 (.string ⟨P.toArray⟩)
        have k15 := x4.keep (Nw.keep u3 K1'.out) (by omega)
        have h4 := (HD2.out.nw u3).upd x4 (fun j hj e => by subst e; exact hbx.2 hj)
        have hU4 : Upd (fun j => j = r.db ∨ j = r.fm) w (w3.setCell ⟨wr.heap.size + 1, 1, none⟩ (.string ⟨P.toArray⟩)) := (HU2.out.nw u3).trans' x4 (fun j hj e => by have := HU.out.size; omega)
        have l0 := h4.laterD.1
        obtain ⟨l50, l51⟩ := later_fil k15
        have k4' : (w3.setCell ⟨wr.heap.size + 1, 1, none⟩ (.string ⟨P.toArray⟩)).heap[wr.heap.size + 1]? = some (.cells #[.string ⟨N.toArray⟩, .string ⟨P.toArray⟩] tFile (0, 0)) := k4
        obtain ⟨l62, l63⟩ := later_fil k4'
        have H4 := Lib.hid h4
        have HU4 := Lib.hid hU4
        clear x4 k4 k15 h4 hU4 k4' l60 l61
        go_wp2_with fail
        refine wp_region_nw_tail 7 (by kernel_rfl) (by kernel_rfl) ?_
        simp only [List.take_succ_cons, List.take_zero, List.drop_succ_cons, List.drop_zero]
        repeat (go_big_quiet_step ((fail)))
        refine wpQuiet_nil ?_
        intro w5 u5
        replace u5 := later_out u5
        have h5 := H4.out.nw u5
        obtain ⟨w6, hst, hf6, u6⟩ := h5.files.put (Nat.le_trans h5.hb h5.fm) HpI.out.1 ⟨N, P⟩
        rw [← hsv.out] at hf6
        have h6 : Hid (DiskAt B w6 r (Dk.crashK D keep (k + 1))) := h5.putF u6 hf6 rfl rfl rfl rfl rfl hOk1.out
        have hU6 : Hid (Upd (fun j => j = r.db ∨ j = r.fm) w w6) := (HU4.out.nw u5).trans' u6 (fun j hj e => Or.inr e)
        dsimp only [filV] at hst
        have Hst := Lib.hid hst
        clear hst hf6 h5 l0 l50 l51 l62 l63
        go_wp2_with (at_mapUpdate; refine wpList_storeL rfl _ _ _ tFiles rfl _ _ _ rfl rfl rfl Hst.out ?_)
        go_wp2_with fail
        go_roundw
        case rel => exact ⟨k + 1, by omega, by go_num, h6, hU6⟩
        case measure => simp [intOf]; omega
    · obtain rfl : k = D.q.length := by omega
      obtain ⟨wX, rfl⟩ : ∃ x, x = wr := ⟨_, rfl⟩
      obtain ⟨db, fm, sm, qv, kv⟩ := r
      dsimp only at *
      subst hqv
      have hd1 := HD.out
      obtain ⟨x0, _⟩ := hd1.cells
      obtain ⟨l0, hm0, hs0⟩ := hd1.files
      dsimp only at x0 hm0
      generalize hF : (Dk.crashK D keep D.q.length).fs = F at *
      have HF := Lib.hid hF
      have Hm0 := Lib.hid hm0
      have Hs0 := Lib.hid hs0
      have hfm : fm < wX.heap.size := (hd1.foot_lt (Or.inr (Or.inl rfl))).2
      have hdb : db < wX.heap.size := (hd1.foot_lt (Or.inl rfl)).2
      have hne : db ≠ fm := hd1.apart.1
      have hfG : nG ≤ fm := Nat.le_trans hd1.hb hd1.fm
      have hXG : nG ≤ wX.heap.size := by omega
      have Hn := Lib.hid (And.intro hfm (And.intro hdb (And.intro hne (And.intro hfG hXG))))
      clear hd1 hm0 hs0 hF hfm hdb hne hfG hXG hgb
      go_wp2_with (at_range; refine wpList_rangeS rfl _ tFiles tFile rfl Tryz.underlying178 rfl Hm0.out ?_)
      intro w1 hrg n1
      have HC : Hid (CrashS wX fm wX.heap.size F w1) := ⟨⟨_, _, F, hrg, Hs0.out, fun f => Or.inl rfl, fun f e => e.elim⟩, Nw.upd _ n1⟩
      clear hrg n1
      go_wp2_with fail
      go_loopw [9] (fun _ wr => Hid (CrashS wX fm wX.heap.size F wr)) (fun _ wr => wr.rangeLeft fm wX.heap.size)
      case atStart => exact HC.out
      case round =>
        have HC := Lib.hid hrel.out
        obtain ⟨⟨l, done, gs, hrg, hs1, hs2, hs3⟩, hu⟩ := hrel.out
        obtain ⟨hfm, hdb, hne, hfG, hXG⟩ := Hn.out
        have hrg' := hrg
        clear hrel
        go_wp2_with (at_next; refine wpList_nextS rfl _ rfl rfl hrg' ?_ ?_ ?_)
        · exact hXG
        · intro hall
          have hgs : gs = fun f => ⟨(F f).last, (F f).last⟩ := funext fun f => by
            by_cases hin : ∀ p ∈ l, p.1 ≠ .int .i64 f
            · rcases hs2 f with e | e
              · rw [hs1.none f hin] at e ⊢
                rw [← e]; rfl
              · exact e
            · obtain ⟨p, hp⟩ := Classical.not_forall.1 hin
              obtain ⟨hp, hpf⟩ := Classical.not_imp.1 hp
              have hpf : p.1 = .int .i64 f := Classical.not_not.1 hpf
              exact hs3 f (by rw [← hpf]; exact hall _ _ hp)
          have hfl : FilesL wr fm gs := ⟨l, hrg.map, hs1⟩
          rw [hgs] at hfl
          have hT : Hid (DiskTo B ⟨db, fm, sm, .slice aq D.q.length cq, kv⟩ (Dk.crash D keep) w (((wr.alloc (.map #[] 0)).setCell ⟨db, 1, none⟩ (.slice none 0 0)).setCell ⟨db, 2, none⟩ (.map (some wr.heap.size)))) := by
            show DiskTo _ _ _ _ _
            have hok : Dk.Ok (Dk.crash D keep) := Dk.crash_ok H.out.ok keep
            rw [hr.out] at hok ⊢
            refine DiskTo.then_ H.out HD.out rfl (HU.out.mono (fun j _ e => ?_)) (fun j e => Or.inl e) ?_
            · rcases e with e | e
              · exact Or.inl e
              · exact Or.inr (Or.inl e)
            · exact crash_done HD.out hu hfl rfl rfl rfl rfl rfl hok
          have bk := (nw_alloc wr (.map #[] 0)).keep (hu.keep HD.out.blk hne)
          obtain ⟨y1, y2, y3, y4⟩ := two_set _ db _ _ bk (.slice none 0 0) _ _ rfl rfl
          clear hall hs1 hs2 hs3 hrg hrg' hu hfl hgs bk x0
          have hmm := @run_makeMap Tryz.prog
          go_wp2_with fail
          go_end0
          exact ⟨rfl, hT.out⟩
        · intro ka va w6 hpm hrg6 u6 hlt6 hen
          obtain ⟨f, hf, e⟩ := hs1.each _ hpm
          obtain ⟨e1, e2⟩ := Prod.mk.inj e
          subst e1 e2
          have hin := hpm
          unfold filV at hpm hen hin
          have hlast : (gs f).last = (F f).last := by
            rcases hs2 f with e | e <;> rw [e]
          have U6 : Upd (fun k => k = fm) wX w6 := hu.trans' u6 (fun j hj e => by omega)
          have n7 := nw_alloc w6 (.cells #[.string ⟨(gs f).now.toArray⟩, .string ⟨(gs f).last.toArray⟩] tFile)
          have k7 := heap_new w6 (.cells #[.string ⟨(gs f).now.toArray⟩, .string ⟨(gs f).last.toArray⟩] tFile)
          have b7 := n7.keep (U6.keep HD.out.blk hne)
          have l0 : ∀ i : Later (w6.alloc (.cells #[.string ⟨(gs f).now.toArray⟩, .string ⟨(gs f).last.toArray⟩] tFile)), i.1.cell? ⟨db, 0, none⟩ = some (.map (some fm)) := fun i => by rw [cells_cell (i.nw.keep b7)]; rfl
          have l1 := (later_fil k7).2
          have hfin : ∀ w8, Nw (w6.alloc (.cells #[.string ⟨(gs f).now.toArray⟩, .string ⟨(gs f).last.toArray⟩] tFile)) w8 → ∃ w9, (Instr.mapUpdate tFiles (.map (some fm)) (.int .i64 f) (.agg #[.string ⟨(gs f).last.toArray⟩, .string ⟨(gs f).last.toArray⟩])).run Tryz.prog w8 = .ok () w9 ∧ Hid (CrashS wX fm wX.heap.size F w9) ∧ w9.rangeLeft fm wX.heap.size < wr.rangeLeft fm wX.heap.size := fun w8 u8 => by
            obtain ⟨c1, c2⟩ := hrg6.upd n7 id id
            obtain ⟨d1, d2⟩ := c1.upd u8 id id
            obtain ⟨w9, l', hrun, hr9, hm9, u9, hl9⟩ := d1.put intKeyD Tryz.underlying178 hfG hin (int_keyD hf) (filV ⟨(gs f).last, (gs f).last⟩)
            refine ⟨w9, hrun, ⟨⟨l', _, _, hr9, hs1.put hf _ hm9, fun g => ?_, fun g hg => ?_⟩, ((U6.nw n7).nw u8).trans u9⟩, by omega⟩
            · by_cases hgf : g = f
              · subst hgf
                rw [Dk.setF_self, hlast]; exact Or.inr rfl
              · rw [Dk.setF_ne _ _ hgf]; exact hs2 g
            · by_cases hgf : g = f
              · subst hgf
                rw [Dk.setF_self, hlast]
              · rw [Dk.setF_ne _ _ hgf]
                rcases hg with hg | hg
                · exact hs3 g hg
                · exact absurd (Value.int.inj hg).2 hgf
          have Hfin := Lib.hid hfin
          clear hfin hs1 hs2 hs3 hrg hrg' hrg6 hu u6 hpm hin n7 k7 b7 e hlast
          generalize gs f = G at *
          obtain ⟨gn, gl⟩ := G
          dsimp only at *
          go_wp2_with fail
          refine wp_region_nw_tail 10 (by kernel_rfl) (by kernel_rfl) ?_
          simp only [List.take_succ_cons, List.take_zero, List.drop_succ_cons, List.drop_zero]
          repeat (go_big_quiet_step ((fail)))
          refine wpQuiet_nil ?_
          intro w8 u8
          replace u8 := later_out u8
          obtain ⟨w9, hst, hC9, hl9⟩ := Hfin.out w8 u8
          have Hst := Lib.hid hst
          clear hst l0 l1
          go_wp2_with (at_mapUpdate; refine wpList_storeL0 rfl rfl _ _ _ tFiles rfl _ _ _ rfl rfl rfl Hst.out ?_)
          go_roundw
          case rel => exact hC9
          case measure => exact hl9
end Go.Proofs.YtagmlemlagbfkaaGreatDoor
