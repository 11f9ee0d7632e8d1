/- The contract of the mirror's Ask. -/
import Derived.Test.YtagmlemlagbfkaaGreatDoorPkMTells15
namespace Go.Proofs.YtagmlemlagbfkaaGreatDoor
open Go.RowKit
set_option linter.unusedVariables false
set_option linter.unusedSimpArgs false
attribute [local irreducible] Calls

abbrev ssO (s : Bk.Sgn) : Obj := .cells #[.int .i64 s.key, .string ⟨s.text.toArray⟩, .int .i64 s.mark] tSigned
abbrev zsO : Obj := .cells #[.int .i64 0, .string ⟨#[]⟩, .int .i64 0] tSigned
abbrev tAnsK : TypeId := 44
theorem ask_results {w : World} {b1 b2 : Nat} {tmps : Array Value} {v0 v1 v2 u0 u1 u2 : Value} {T T' : TypeId} {fz fz' : Nat × Nat} (h : w.heap[b1]? = some (.cells #[v0, v1, v2] T fz)) (h' : w.heap[b2]? = some (.cells #[u0, u1, u2] T' fz'))
    (ht : tmps.getD 8 undef = .pointer (some ⟨b1, 0, none⟩)) (ht' : tmps.getD 9 undef = .pointer (some ⟨b2, 0, none⟩)) :
    (results Tryz.f30 tmps).run Tryz.prog w = .ok (.tuple #[.agg #[v0, v1, v2], .agg #[u0, u1, u2], tmps.getD 10 undef]) w := by
  have c0 : w.cell? ⟨b1, 0, none⟩ = some v0 := by rw [cells_cell h]; rfl
  have c1 : w.cell? ⟨b1, 1, none⟩ = some v1 := by rw [cells_cell h]; rfl
  have c2 : w.cell? ⟨b1, 2, none⟩ = some v2 := by rw [cells_cell h]; rfl
  have d0 : w.cell? ⟨b2, 0, none⟩ = some u0 := by rw [cells_cell h']; rfl
  have d1 : w.cell? ⟨b2, 1, none⟩ = some u1 := by rw [cells_cell h']; rfl
  have d2 : w.cell? ⟨b2, 2, none⟩ = some u2 := by rw [cells_cell h']; rfl
  clear h h'
  have ht2 : tmps[8]?.getD undef = .pointer (some ⟨b1, 0, none⟩) := by simpa using ht
  have ht3 : tmps[9]?.getD undef = .pointer (some ⟨b2, 0, none⟩) := by simpa using ht'
  clear ht ht'
  simp [results, Tryz.results30, go_sem, ht2, ht3, c0, c1, c2, d0, d1, d2]
theorem ask_out {w : World} {b1 b2 : Nat} {a : Act} {v0 v1 v2 u0 u1 u2 : Value} {T T' : TypeId} {fz fz' : Nat × Nat} {R : Ending → World → Prop} (h : w.heap[b1]? = some (.cells #[v0, v1, v2] T fz)) (h' : w.heap[b2]? = some (.cells #[u0, u1, u2] T' fz'))
    (ht : a.tmps.getD 8 undef = .pointer (some ⟨b1, 0, none⟩)) (ht' : a.tmps.getD 9 undef = .pointer (some ⟨b2, 0, none⟩)) (hd : a.defers = []) (hR : R (.returned (.tuple #[.agg #[v0, v1, v2], .agg #[u0, u1, u2], a.tmps.getD 10 undef])) w) : bodyPost Tryz.prog Tryz.f30 R .ret a w :=
  bodyPost_ret (ask_results h h' ht ht') hd hR
theorem Upd.setInK {S : Nat → Prop} {w w' : World} {b : Nat} (u : Upd S w w') (hb : S b) (hg : nG ≤ b) (i : Nat) (v : Value) : Upd S w (w'.setCell ⟨b, i, none⟩ v) :=
  u.trans ((Upd.set1 (Upd.refl (fun k => k = b) w') hg i v).mono (fun k _ e => e ▸ hb))
/-! ### A slice of answers -/
def AnsSl (vis : Nat → Value) (w : World) (v : Value) (an : List Mi.Ans) : Prop := ∃ a cap, v = .slice a an.length cap ∧ an.length ≤ maxLen ∧ (an = [] ∨ ∃ b off, a = some ⟨b, off, none⟩ ∧ ∀ i (h : i < an.length),
  w.cell? ⟨b, off + i * 3, none⟩ = some (vis i) ∧ w.cell? ⟨b, off + i * 3 + 1, none⟩ = some (.string ⟨an[i].text.toArray⟩) ∧ w.cell? ⟨b, off + i * 3 + 2, none⟩ = some (.bool an[i].has) ∧ SgnSl w (vis i) an[i].claims)
/-- The state: the ring, the view, the boxes of what is told (lb, lc) and of the results (rb8, rb9). -/
structure AskI (W : World) (N : Nat) (c : Nat → Res) (F : Nat → Prop) (z : World) (i vb rb : Nat) (Lr : List Bk.Seal) (key : Int) (r : Mi.AskR) (wr : World) : Prop where
  fam : At W N (setC c i (ViewC W.heap.size vb rb key r.L)) (fun j => F j ∨ (z.heap.size ≤ j ∧ j < z.heap.size + 4)) wr
  mv : MovesN W F z wr
  ok : Vw.VOk Lr key r.L
  b0 : wr.heap[z.heap.size]? = some zsO
  b1 : wr.heap[z.heap.size + 1]? = some zsO
  b2 : wr.heap[z.heap.size + 2]? = some (ssO r.old)
  b3 : wr.heap[z.heap.size + 3]? = some (ssO r.odd)
section
variable {W : World} {N : Nat} {c : Nat → Res} {F : Nat → Prop} {z wr w' : World} {i vb rb : Nat} {Lr : List Bk.Seal} {key : Int} {r : Mi.AskR}
theorem AskI.nw (h : AskI W N c F z i vb rb Lr key r wr) (u : Nw wr w') : AskI W N c F z i vb rb Lr key r w' :=
  ⟨h.fam.nw u, h.mv.trans (Nw.upd _ u), h.ok, Nw.keep u h.b0, Nw.keep u h.b1, Nw.keep u h.b2, Nw.keep u h.b3⟩
theorem AskI.as {r' : Mi.AskR} (h : AskI W N c F z i vb rb Lr key r wr) (e : r' = r) : AskI W N c F z i vb rb Lr key r' wr := e ▸ h
/-- The view is turned. -/
theorem AskI.turn (h : AskI W N c F z i vb rb Lr key r wr) {r' : Mi.AskR} (ho : r'.old = r.old) (hd : r'.odd = r.odd) (hv : Vw.VOk Lr key r'.L)
    (ha : At W N (setC (setC c i (ViewC W.heap.size vb rb key r.L)) i (ViewC W.heap.size vb rb key r'.L)) (fun j => F j ∨ (z.heap.size ≤ j ∧ j < z.heap.size + 4)) w') (mv : MovesN W (fun j => F j ∨ (z.heap.size ≤ j ∧ j < z.heap.size + 4)) wr w') : AskI W N c F z i vb rb Lr key r' w' := by
  rw [setC_setC] at ha
  exact ⟨ha, h.mv.trans (mv.mono (fun k _ e => ⟨fun f => e.1 (Or.inl f), e.2⟩)), hv, mv.keep h.b0 (fun e => e.1 (Or.inr ⟨by omega, by omega⟩)), mv.keep h.b1 (fun e => e.1 (Or.inr ⟨by omega, by omega⟩)), by rw [ho]; exact mv.keep h.b2 (fun e => e.1 (Or.inr ⟨by omega, by omega⟩)), by rw [hd]; exact mv.keep h.b3 (fun e => e.1 (Or.inr ⟨by omega, by omega⟩))⟩
/-- The pair is told. -/
theorem AskI.tell (h : AskI W N c F z i vb rb Lr key r wr) (hW : W.heap.size ≤ z.heap.size) (hg : nG ≤ z.heap.size) (x s : Bk.Sgn) (e : Int) {Z : World}
    (hZ : Z = (((((wr.setCell ⟨z.heap.size + 2, 0, none⟩ (.int .i64 x.key)).setCell ⟨z.heap.size + 2, 1, none⟩ (.string ⟨x.text.toArray⟩)).setCell ⟨z.heap.size + 2, 2, none⟩ (.int .i64 x.mark)).setCell ⟨z.heap.size + 3, 0, none⟩ (.int .i64 s.key)).setCell ⟨z.heap.size + 3, 1, none⟩ (.string ⟨s.text.toArray⟩)).setCell ⟨z.heap.size + 3, 2, none⟩ (.int .i64 s.mark)) : AskI W N c F z i vb rb Lr key ⟨r.L, x, s, e⟩ Z := by
  subst hZ
  have q1 : Upd (fun k => k = z.heap.size + 2) wr (((wr.setCell ⟨z.heap.size + 2, 0, none⟩ (.int .i64 x.key)).setCell ⟨z.heap.size + 2, 1, none⟩ (.string ⟨x.text.toArray⟩)).setCell ⟨z.heap.size + 2, 2, none⟩ (.int .i64 x.mark)) := Upd.set1 (Upd.set1 (Upd.set1 (Upd.refl _ _) (by omega) 0 _) (by omega) 1 _) (by omega) 2 _
  have k1 := set3 (v0 := .int .i64 x.key) (v1 := .string ⟨x.text.toArray⟩) (v2 := .int .i64 x.mark) h.b2
  generalize ((wr.setCell ⟨z.heap.size + 2, 0, none⟩ (.int .i64 x.key)).setCell ⟨z.heap.size + 2, 1, none⟩ (.string ⟨x.text.toArray⟩)).setCell ⟨z.heap.size + 2, 2, none⟩ (.int .i64 x.mark) = Y at *
  have q2 : Upd (fun k => k = z.heap.size + 3) Y (((Y.setCell ⟨z.heap.size + 3, 0, none⟩ (.int .i64 s.key)).setCell ⟨z.heap.size + 3, 1, none⟩ (.string ⟨s.text.toArray⟩)).setCell ⟨z.heap.size + 3, 2, none⟩ (.int .i64 s.mark)) := Upd.set1 (Upd.set1 (Upd.set1 (Upd.refl _ _) (by omega) 0 _) (by omega) 1 _) (by omega) 2 _
  have k2 := set3 (v0 := .int .i64 s.key) (v1 := .string ⟨s.text.toArray⟩) (v2 := .int .i64 s.mark) (q1.keep h.b3 (by omega))
  have Q := (q1.mono (S' := fun k => k = z.heap.size + 2 ∨ k = z.heap.size + 3) (fun k _ e => Or.inl e)).trans (q2.mono (fun k _ e => Or.inr e))
  exact ⟨h.fam.upd Q (fun k e => Or.inl ⟨Or.inr (by rcases e with rfl | rfl <;> omega), by rcases e with rfl | rfl <;> omega⟩), h.mv.trans' Q (fun k hk e => by rcases e with e | e <;> omega), h.ok, Q.keep h.b0 (by omega), Q.keep h.b1 (by omega), q2.keep k1 (by omega), k2⟩
/-- The end. -/
theorem AskI.fin (h : AskI W N c F z i vb rb Lr key r wr) (hW : W.heap.size ≤ z.heap.size) (hg : nG ≤ z.heap.size) {Z : World}
    (hZ : Z = (((((wr.setCell ⟨z.heap.size, 0, none⟩ (.int .i64 r.old.key)).setCell ⟨z.heap.size, 1, none⟩ (.string ⟨r.old.text.toArray⟩)).setCell ⟨z.heap.size, 2, none⟩ (.int .i64 r.old.mark)).setCell ⟨z.heap.size + 1, 0, none⟩ (.int .i64 r.odd.key)).setCell ⟨z.heap.size + 1, 1, none⟩ (.string ⟨r.odd.text.toArray⟩)).setCell ⟨z.heap.size + 1, 2, none⟩ (.int .i64 r.odd.mark)) :
    Z.heap[z.heap.size]? = some (ssO r.old) ∧ Z.heap[z.heap.size + 1]? = some (ssO r.odd) ∧ At W N (setC c i (ViewC W.heap.size vb rb key r.L)) F Z ∧ MovesN W F z Z := by
  subst hZ
  have q1 : Upd (fun k => k = z.heap.size) wr (((wr.setCell ⟨z.heap.size, 0, none⟩ (.int .i64 r.old.key)).setCell ⟨z.heap.size, 1, none⟩ (.string ⟨r.old.text.toArray⟩)).setCell ⟨z.heap.size, 2, none⟩ (.int .i64 r.old.mark)) := Upd.set1 (Upd.set1 (Upd.set1 (Upd.refl _ _) (by omega) 0 _) (by omega) 1 _) (by omega) 2 _
  have k1 := set3 (v0 := .int .i64 r.old.key) (v1 := .string ⟨r.old.text.toArray⟩) (v2 := .int .i64 r.old.mark) h.b0
  generalize ((wr.setCell ⟨z.heap.size, 0, none⟩ (.int .i64 r.old.key)).setCell ⟨z.heap.size, 1, none⟩ (.string ⟨r.old.text.toArray⟩)).setCell ⟨z.heap.size, 2, none⟩ (.int .i64 r.old.mark) = Y at *
  have q2 : Upd (fun k => k = z.heap.size + 1) Y (((Y.setCell ⟨z.heap.size + 1, 0, none⟩ (.int .i64 r.odd.key)).setCell ⟨z.heap.size + 1, 1, none⟩ (.string ⟨r.odd.text.toArray⟩)).setCell ⟨z.heap.size + 1, 2, none⟩ (.int .i64 r.odd.mark)) := Upd.set1 (Upd.set1 (Upd.set1 (Upd.refl _ _) (by omega) 0 _) (by omega) 1 _) (by omega) 2 _
  have k2 := set3 (v0 := .int .i64 r.odd.key) (v1 := .string ⟨r.odd.text.toArray⟩) (v2 := .int .i64 r.odd.mark) (q1.keep h.b1 (by omega))
  have Q := (q1.mono (S' := fun k => k = z.heap.size ∨ k = z.heap.size + 1) (fun k _ e => Or.inl e)).trans (q2.mono (fun k _ e => Or.inr e))
  exact ⟨q2.keep k1 (by omega), k2, h.fam.upd_keep Q (fun k e => Or.inl ⟨Or.inr (by rcases e with rfl | rfl <;> omega), by rcases e with rfl | rfl <;> omega⟩) (fun k e => Or.inl (Or.inl e)), h.mv.trans' Q (fun k hk e => by rcases e with e | e <;> omega)⟩
end
theorem size_timeK {Lr : List Bk.Seal} {key : Int} {L : List Bk.Sgn} (h : Vw.VOk Lr key L) : (Vw.sizeOf L).2 ≤ 1073741824 := by
  have : ∀ (M : List Bk.Sgn) (r : Int × Int), (∀ s ∈ M, Vw.isLog s.text = true) → r.2 ≤ 1073741824 → (M.foldl Vw.sizeStep r).2 ≤ 1073741824 := by
    intro M
    induction M with
    | nil => intro r _ h; exact h
    | cons s M ih =>
      intro r hs hr
      refine ih _ (fun t ht => hs t (List.mem_cons_of_mem _ ht)) ?_
      unfold Vw.sizeStep
      split
      · obtain ⟨b1, b2, b3, b4, b5, b6, b7⟩ := Cl.right_bounds (Vw.log_spec (hs s (List.mem_cons_self ..))).1
        dsimp only; omega
      · exact hr
  exact this L (0, -1) (fun s hs => (h.each s hs).2.2) (by decide)
section
variable {W : World} {N : Nat} {c : Nat → Res} {F : Nat → Prop} {z : World} {r i vb rb : Nat} {Lr : List Bk.Seal} {key : Int} {L : List Bk.Sgn}
/-- One answer's claims lie as they did. -/
theorem at_age (h : At W N c F z) (hi : i < N) (ei : c i = ViewC W.heap.size vb rb key L) (hv : Vw.VOk Lr key L) (now : Int) (hn : I64 now) :
    Calls Tryz.prog 93 #[.pointer (some ⟨vb, 0, none⟩), .int .i64 now] z fun e w' => e = .returned (.int .i64 (Vw.age L now)) ∧ Nw z w' := by
  obtain ⟨q, rfl, hq⟩ := at_viewAt h hi ei
  exact age_v _ q rb key L z now hn hq (size_timeK hv)
set_option maxHeartbeats 4000000 in
set_option maxRecDepth 100000 in
theorem ask_w (h : At W N c F z) (g : Gl W) (hr : r < N) (hi : i < N) (hri : r ≠ i) (er : c r = RingC W.heap.size rb Lr) (ei : c i = ViewC W.heap.size vb rb key L) (hv : Vw.VOk Lr key L) (hl : Lr.length ≤ 900000)
    (an : List Mi.Ans) (av : Value) (vis : Nat → Value) (hA : ∀ z', MovesN W F z z' → AnsSl vis z' av an) (hs : ∀ a ∈ an, ∀ s ∈ a.claims, SgnOk s) (hal : an.length ≤ 1000000) (now bound : Int) (hn : I64 now) (hbd : I64 bound) :
    Calls Tryz.prog 30 #[.pointer (some ⟨vb, 0, none⟩), av, .int .i64 now, .int .i64 bound] z fun e z' =>
      e = .returned (.tuple #[sgnV (Mi.ask Lr key L an).old, sgnV (Mi.ask Lr key L an).odd, .int .i64 (Mi.askE (Mi.ask Lr key L an) now bound)]) ∧ At W N (setC c i (ViewC W.heap.size vb rb key (Mi.ask Lr key L an).L)) F z' ∧ MovesN W F z z' := by
  have hgb := (h.gl g).big
  have hWz := h.nw0.size
  have n1 := nw_alloc z zsO
  have k1 := heap_new z zsO
  have s1 : (z.alloc zsO).heap.size = z.heap.size + 1 := by simp
  have n2 := nw_alloc (z.alloc zsO) zsO
  have k2 := heap_new (z.alloc zsO) zsO
  have s2 : ((z.alloc zsO).alloc zsO).heap.size = z.heap.size + 2 := by simp
  have n3 := nw_alloc ((z.alloc zsO).alloc zsO) zsO
  have k3 := heap_new ((z.alloc zsO).alloc zsO) zsO
  have s3 : (((z.alloc zsO).alloc zsO).alloc zsO).heap.size = z.heap.size + 3 := by simp
  have n4 := nw_alloc (((z.alloc zsO).alloc zsO).alloc zsO) zsO
  have k4 := heap_new (((z.alloc zsO).alloc zsO).alloc zsO) zsO
  have s4 : ((((z.alloc zsO).alloc zsO).alloc zsO).alloc zsO).heap.size = z.heap.size + 4 := by simp
  rw [s1] at k2
  rw [s2] at k3
  rw [s3] at k4
  replace k1 := Nw.keep ((n2.trans n3).trans n4) k1
  replace k2 := Nw.keep (n3.trans n4) k2
  replace k3 := n4.keep k3
  have u4 := ((n1.trans n2).trans n3).trans n4
  obtain ⟨z1, hz1⟩ : ∃ z1, (((z.alloc zsO).alloc zsO).alloc zsO).alloc zsO = z1 := ⟨_, rfl⟩
  have HZ1 : Hid ((((z.alloc (.cells #[.int .i64 0, .string ⟨#[]⟩, .int .i64 0] tSigned)).alloc (.cells #[.int .i64 0, .string ⟨#[]⟩, .int .i64 0] tSigned)).alloc (.cells #[.int .i64 0, .string ⟨#[]⟩, .int .i64 0] tSigned)).alloc (.cells #[.int .i64 0, .string ⟨#[]⟩, .int .i64 0] tSigned) = z1) := hz1
  rw [hz1] at k1 k2 k3 k4 s4 u4
  have hI : Hid (AskI W N c F z i vb rb Lr key ⟨L, Bk.noSgn, Bk.noSgn, 0⟩ z1) := by
    refine ⟨?_, Nw.upd _ u4, hv, k1, k2, k3, k4⟩
    rw [← ei, setC_id]
    exact h.keep u4 (fun j hj => hj.imp id (fun e => by omega))
  have hI0 : Hid (AskI W N c F z i vb rb Lr key (Mi.askA Lr key ⟨L, Bk.noSgn, Bk.noSgn, 0⟩ (an.take 0)) z1) := by rw [List.take_zero]; exact hI.out
  have HR : Hid (setC c i (ViewC W.heap.size vb rb key L) r = c r) := setC_ne _ _ hri
  have HER := Lib.hid er
  have HA := Lib.hid hA
  have HS := Lib.hid hs
  have HG := Lib.hid g
  have HWZ := Lib.hid (And.intro hWz hgb)
  have HL := Lib.hid hl
  have Hnb := Lib.hid (And.intro hn hbd)
  obtain ⟨aA, cA, rfl⟩ : ∃ a k, av = .slice a an.length k := by
    obtain ⟨a, k, e, -⟩ := hA z (Upd.refl _ _)
    exact ⟨a, k, e⟩
  have hal1 : (an.length : Int) ≤ 1000000 := by omega
  have hal0 : (0 : Int) ≤ an.length := by omega
  have hask : Hid (Mi.ask Lr key L an = Mi.askA Lr key ⟨L, Bk.noSgn, Bk.noSgn, 0⟩ an) := by show _ = _; rfl
  clear h n1 n2 n3 n4 k1 k2 k3 k4 s1 s2 s3 s4 u4 hz1 er ei hA hs g hgb hWz hl hal hI hn hbd hv
  go_enter Tryz.func30, Tryz.ntmps30
  go_upto_region 2 with fail
  rw [HZ1.out]
  go_wp2_with fail
  go_loopw [13, 23] (fun ev iv wr => ∃ j : Nat, j ≤ an.length ∧ iv = .int .i64 (j : Int) ∧ ev = .int .i64 (Mi.askA Lr key ⟨L, Bk.noSgn, Bk.noSgn, 0⟩ (an.take j)).e ∧ Hid (AskI W N c F z i vb rb Lr key (Mi.askA Lr key ⟨L, Bk.noSgn, Bk.noSgn, 0⟩ (an.take j)) wr)) (fun ev iv _ => an.length - (intOf iv).toNat)
  case atStart => exact ⟨0, Nat.zero_le _, rfl, by rw [List.take_zero]; rfl, hI0.out⟩
  case round =>
    obtain ⟨j, hj, rfl, rfl, HK⟩ := hrel
    by_cases hlt : j < an.length
    · have hlt1 : (j : Int) < an.length := by omega
      have hsucc := Mi.askA_take Lr key ⟨L, Bk.noSgn, Bk.noSgn, 0⟩ an j hlt
      generalize Mi.askA Lr key ⟨L, Bk.noSgn, Bk.noSgn, 0⟩ (an.take j) = r0 at *
      obtain ⟨a', cap', ev, -, hcells⟩ := HA.out wr HK.out.mv
      simp only [Value.slice.injEq, true_and] at ev
      obtain ⟨rfl, rfl⟩ := ev
      rcases hcells with hnil | ⟨ab, ao, rfl, hac⟩
      · rw [hnil] at hlt; simp at hlt
      obtain ⟨d0, d1, d2, hsl⟩ := hac j hlt
      obtain ⟨ac, kc, evi, hcl1, hcl2, -, -⟩ := hsl
      have hvis := Lib.hid evi
      have HSl : Hid (∀ w', MovesN W F z w' → SgnSl w' (.slice ac an[j].claims.length kc) an[j].claims) := fun w' mv => by
        obtain ⟨a', cap', ev, -, hcells⟩ := HA.out w' mv
        simp only [Value.slice.injEq, true_and] at ev
        obtain ⟨e1, -⟩ := ev
        rcases hcells with hnil | ⟨ab2, ao2, -, hac2⟩
        · rw [hnil] at hlt; simp at hlt
        · have := (hac2 j hlt).2.2.2
          rwa [evi] at this
      rw [evi] at d0
      have HSs : Hid (∀ s ∈ an[j].claims, SgnOk s) := fun s hs => HS.out _ (List.getElem_mem hlt) s hs
      have hclen : (an[j].claims.length : Int) ≤ 9223372036854775807 := by unfold maxLen at hcl2; omega
      have hclen0 : (0 : Int) ≤ an[j].claims.length := by omega
      have HSucc := Lib.hid hsucc
      clear hac evi hvis hcl1 hcl2 hsucc
      obtain ⟨C, hC⟩ : ∃ C, an[j].claims = C := ⟨_, rfl⟩
      rw [hC] at HSl HSs HSucc hclen hclen0 d0
      obtain ⟨T, hT⟩ : ∃ T, an[j].text = T := ⟨_, rfl⟩
      obtain ⟨bb, hbb⟩ : ∃ bb, an[j].has = bb := ⟨_, rfl⟩
      rw [hT] at d1
      rw [hbb] at d2
      clear hC hT hbb
      have hJ0 : Hid (AskI W N c F z i vb rb Lr key (Mi.askL Lr key r0 (C.take 0)) (wr.alloc (.cells #[.slice ac C.length kc, .string ⟨T.toArray⟩, .bool bb] tAnsK))) := by rw [List.take_zero]; exact HK.out.nw (nw_alloc _ _)
      obtain ⟨wq, rfl⟩ : ∃ w, w = wr := ⟨_, rfl⟩
      clear HK
      go_wp2_with fail
      go_loopw [13, 30] (fun ev iv wr => ∃ k : Nat, k ≤ C.length ∧ iv = .int .i64 (k : Int) ∧ ev = .int .i64 (Mi.askL Lr key r0 (C.take k)).e ∧ Hid (AskI W N c F z i vb rb Lr key (Mi.askL Lr key r0 (C.take k)) wr)) (fun ev iv _ => C.length - (intOf iv).toNat)
      case atStart => exact ⟨0, Nat.zero_le _, rfl, by rw [List.take_zero]; rfl, hJ0.out⟩
      case round =>
        obtain ⟨k, hk, rfl, rfl, HJ⟩ := hrel
        by_cases hkt : k < C.length
        · have hkt1 : (k : Int) < C.length := by omega
          have hs2 := Mi.askL_take Lr key r0 C k hkt
          generalize Mi.askL Lr key r0 (C.take k) = r1 at *
          obtain ⟨a', cap', ev, -, -, -, hcells⟩ := HSl.out wr HJ.out.mv
          simp only [Value.slice.injEq, true_and] at ev
          obtain ⟨rfl, rfl⟩ := ev
          rcases hcells with hnil | ⟨sb, so, rfl, hsc⟩
          · rw [hnil] at hkt; simp at hkt
          obtain ⟨f0, f1, f2⟩ := hsc k hkt
          have hso := HSs.out _ (List.getElem_mem hkt)
          have HS2 := Lib.hid hs2
          have Hso := Lib.hid hso
          clear hsc hs2 hso
          generalize C[k] = s at *
          have hvl : r1.L.length ≤ 900000 := Nat.le_trans (vok_len HJ.out.ok) HL.out
          have hI1 := HJ.out.nw (nw_alloc wr (ssO s))
          have HC := Lib.hid (at_clash hI1.fam HG.out hi (setC_self _ _ _) HJ.out.ok s Hso.out hvl)
          clear hI1
          go_wp2_with fail
          (with_reducible refine (HC.out).mono ?_)
          rintro _ w6 ⟨rfl, u6⟩
          obtain ⟨xx, is, hcl⟩ : ∃ x is, Vw.clash r1.L s = (x, is) := ⟨_, _, rfl⟩
          rw [hcl]
          unfold sgnV
          (try dsimp only)
          have uA := ((nw_alloc wr (ssO s)).trans u6).trans (nw_alloc w6 (ssO xx))
          have kS := Nw.keep (u6.trans (nw_alloc w6 (ssO xx))) (heap_new wr (ssO s))
          have kX := heap_new w6 (ssO xx)
          obtain ⟨_, _, _⟩ := cell3 kS
          have KS := Lib.hid kS
          have KX := Lib.hid kX
          have hI6 := HJ.out.nw uA
          have HI6 := Lib.hid hI6
          obtain ⟨co, L', hac⟩ : ∃ co L', Vw.accept Lr key r1.L s = (co, L') := ⟨_, _, rfl⟩
          have fam6 := HJ.out.fam.keep (F' := fun j => (F j ∨ (z.heap.size ≤ j ∧ j < z.heap.size + 4)) ∨ j = wr.heap.size ∨ j = w6.heap.size) uA (fun j hj => hj.imp id (fun e => by
            have h1 := lt_of_block kS
            have h2 := lt_of_block kX
            have h3 := ((nw_alloc wr (ssO s)).trans u6).size
            rcases e with rfl | rfl <;> omega))
          have hAc := at_accept fam6 HG.out hr hi hri (by rw [setC_ne _ _ hri]; exact HER.out) (setC_self _ _ _) HJ.out.ok s Hso.out hvl
          have HSz : Hid (z.heap.size + 4 ≤ wr.heap.size ∧ wr.heap.size < w6.heap.size) := ⟨by have := lt_of_block HJ.out.b3; omega, by have := ((nw_alloc wr (ssO s)).trans u6).size; have h0 := u6.size; simp at h0; omega⟩
          rw [hac] at hAc
          have hv2 := Vw.accept_ok HJ.out.ok s
          rw [hac] at hv2
          have HAc := Lib.hid hAc
          have HV2 := Lib.hid hv2
          have Hst : Hid (Mi.askS Lr key r1 s = if co = 21 ∧ r1.e = 0 then ⟨L', xx, s, 21⟩ else { r1 with L := L' }) := by show _ = _; unfold Mi.askS; rw [hac, hcl]
          clear hAc hv2 hac hcl uA kS kX HC u6 hI6 fam6 f0 f1 f2
          go_wp2_with fail
          (with_reducible refine (HAc.out).mono ?_)
          rintro _ w7 ⟨rfl, ha7, mv7⟩
          have hT := HI6.out.turn (r' := { r1 with L := L' }) rfl rfl HV2.out (ha7.less (fun k e => Or.inl e)) (mv7.mono (fun k _ e => ⟨fun f => e.1 (Or.inl f), e.2⟩))
          have HT := Lib.hid hT
          have kS7 := mv7.keep KS.out (fun e => e.1 (Or.inr (Or.inl rfl)))
          have kX7 := mv7.keep KX.out (fun e => e.1 (Or.inr (Or.inr rfl)))
          have KS7 := Lib.hid kS7
          have KX7 := Lib.hid kX7
          clear kS7 kX7
          clear ha7 HAc hT
          by_cases hsp : co = 21 ∧ r1.e = 0
          · obtain ⟨rfl, he0⟩ := hsp
            have hb1 : (r1.e == 0) = true := by simp [he0]
            have Hst2 : Hid (Mi.askS Lr key r1 s = ⟨L', xx, s, 21⟩) := by show _ = _; rw [Hst.out, if_pos ⟨rfl, he0⟩]
            have hS : ∀ z', Upd (fun j => j = z.heap.size + 2 ∨ j = z.heap.size + 3) w7 z' → (z'.cell? ⟨w6.heap.size, 0, none⟩ = some (.int .i64 xx.key) ∧ z'.cell? ⟨w6.heap.size, 1, none⟩ = some (.string ⟨xx.text.toArray⟩) ∧ z'.cell? ⟨w6.heap.size, 2, none⟩ = some (.int .i64 xx.mark)) ∧
                z'.cell? ⟨wr.heap.size, 0, none⟩ = some (.int .i64 s.key) ∧ z'.cell? ⟨wr.heap.size, 1, none⟩ = some (.string ⟨s.text.toArray⟩) ∧ z'.cell? ⟨wr.heap.size, 2, none⟩ = some (.int .i64 s.mark) := fun z' u =>
              ⟨cell3 (u.keep KX7.out (fun e => by have := HSz.out; omega)), cell3 (u.keep KS7.out (fun e => by have := HSz.out; omega))⟩
            have HSS := Lib.hid hS
            have HG2 : Hid (nG ≤ z.heap.size + 2 ∧ nG ≤ z.heap.size + 3) := ⟨by have := HWZ.out.2; omega, by have := HWZ.out.2; omega⟩
            have htl := HT.out.tell HWZ.out.1 HWZ.out.2 xx s 21 rfl
            have hz := Lib.hid (htl.as (HS2.out.trans Hst2.out))
            have hze : Hid ((Mi.askL Lr key r0 (C.take (k + 1))).e = 21) := by show _ = _; rw [HS2.out, Hst2.out]
            have k2 := HT.out.b2
            have k3 := HT.out.b3
            have b00 := cells_frozen k2 0
            have b01 := cells_frozen k2 1
            have b02 := cells_frozen k2 2
            have b10 := cells_frozen k3 0
            have b11 := cells_frozen k3 1
            have b12 := cells_frozen k3 2
            obtain ⟨_, _, _⟩ := cell3 k2
            obtain ⟨_, _, _⟩ := cell3 k3
            obtain ⟨⟨_, _, _⟩, _, _, _⟩ := hS w7 (Upd.refl _ _)
            have hne : z.heap.size + 2 < z.heap.size + 3 := by omega
            clear k2 k3 hS htl mv7 Hst
            go_wp2_with fail
            trace_state
            go_region_held3 (fun z' => (z'.cell? ⟨w6.heap.size, 0, none⟩ = some (.int .i64 xx.key) ∧ z'.cell? ⟨w6.heap.size, 1, none⟩ = some (.string ⟨xx.text.toArray⟩) ∧ z'.cell? ⟨w6.heap.size, 2, none⟩ = some (.int .i64 xx.mark)) ∧ z'.cell? ⟨wr.heap.size, 0, none⟩ = some (.int .i64 s.key) ∧ z'.cell? ⟨wr.heap.size, 1, none⟩ = some (.string ⟨s.text.toArray⟩) ∧ z'.cell? ⟨wr.heap.size, 2, none⟩ = some (.int .i64 s.mark)) (with_reducible first | exact HSS.out _ (by repeat (first | exact Upd.refl _ _ | refine Upd.drew ?_ | (refine Upd.setInK ?_ (Or.inl rfl) HG2.out.1 _ _) | (refine Upd.setInK ?_ (Or.inr rfl) HG2.out.2 _ _)))) (fail)
            go_wp2_with fail
            go_roundw
            case rel => exact ⟨k + 1, by omega, by go_num, by rw [hze.out], by exact hz.out.nw (Upd.refl _ _).drew⟩
            case measure => simp [intOf] <;> omega
          · have hb1 : ((co == 21) && (r1.e == 0)) = false := by
              by_cases h1 : co = 21
              · have h2 : ¬ r1.e = 0 := fun e => hsp ⟨h1, e⟩
                simp [h2]
              · simp [h1]
            have Hst2 : Hid (Mi.askS Lr key r1 s = { r1 with L := L' }) := by show _ = _; rw [Hst.out, if_neg hsp]
            have hz : Hid (AskI W N c F z i vb rb Lr key (Mi.askL Lr key r0 (C.take (k + 1))) w7) := by rw [HS2.out, Hst2.out]; exact HT.out
            have hze : Hid ((Mi.askL Lr key r0 (C.take (k + 1))).e = r1.e) := by show _ = _; rw [HS2.out, Hst2.out]
            have hsp1 : (co == 21) = false ∨ ((co == 21) = true ∧ (r1.e == 0) = false) := by
              by_cases h1 : co = 21
              · exact Or.inr ⟨by simp [h1], by have h2 : ¬ r1.e = 0 := fun e => hsp ⟨h1, e⟩; simp [h2]⟩
              · exact Or.inl (by simp [h1])
            clear hsp Hst hb1 mv7 HT
            rcases hsp1 with h1 | ⟨h1, h2⟩
            · go_wp2_with fail
              go_roundw
              case rel => exact ⟨k + 1, by omega, by go_num, by rw [hze.out], hz.out⟩
              case measure => simp [intOf] <;> omega
            · go_wp2_with fail
              go_roundw
              case rel => exact ⟨k + 1, by omega, by go_num, by rw [hze.out], hz.out⟩
              case measure => simp [intOf] <;> omega
        · obtain rfl : k = C.length := by omega
          have hz : Hid (AskI W N c F z i vb rb Lr key (Mi.askA Lr key ⟨L, Bk.noSgn, Bk.noSgn, 0⟩ (an.take (j + 1))) wr) := by
            have := HJ.out
            rw [List.take_length] at this
            rw [HSucc.out]; exact this
          have hze : Hid ((Mi.askL Lr key r0 (C.take C.length)).e = (Mi.askA Lr key ⟨L, Bk.noSgn, Bk.noSgn, 0⟩ (an.take (j + 1))).e) := by show _ = _; rw [List.take_length, HSucc.out]
          clear HJ
          rw [hze.out]
          go_wp2_with fail
          go_roundw
          case rel => exact ⟨j + 1, by omega, by go_num, rfl, hz.out⟩
          case measure => simp [intOf] <;> omega
    · obtain rfl : j = an.length := by omega
      have hK := HK.out
      rw [List.take_length, ← hask.out] at hK
      rw [List.take_length, ← hask.out]
      have hage := Lib.hid (at_age hK.fam hi (setC_self _ _ _) hK.ok now Hnb.out.1)
      have HK2 := Lib.hid hK
      clear HK hK hask
      generalize hRe : Mi.ask Lr key L an = R at *
      have HRe := Lib.hid hRe
      clear hRe
      have hE : Hid (Mi.askE R now bound = if R.e = 0 ∧ (Vw.age R.L now < 0 ∨ bound < Vw.age R.L now) then 20 else R.e) := by show _ = _; rfl
      obtain ⟨wq, rfl⟩ : ∃ w, w = wr := ⟨_, rfl⟩
      have hai : I64 (Vw.age R.L now) := by
        have h1 := Hnb.out.1
        have h2 := size_timeK HK2.out.ok
        unfold I64 at h1 ⊢
        unfold Vw.age
        split <;> omega
      clear hI0 HA HS
      generalize Vw.age R.L now = ag at *
      go_wp2_with fail
      (with_reducible refine (hage.out).mono ?_)
      rintro _ w8 ⟨rfl, u8⟩
      have HK8 := Lib.hid (HK2.out.nw u8)
      have hS : ∀ z', Upd (fun j => j = z.heap.size ∨ j = z.heap.size + 1) w8 z' → (z'.cell? ⟨z.heap.size + 2, 0, none⟩ = some (.int .i64 R.old.key) ∧ z'.cell? ⟨z.heap.size + 2, 1, none⟩ = some (.string ⟨R.old.text.toArray⟩) ∧ z'.cell? ⟨z.heap.size + 2, 2, none⟩ = some (.int .i64 R.old.mark)) ∧
          z'.cell? ⟨z.heap.size + 3, 0, none⟩ = some (.int .i64 R.odd.key) ∧ z'.cell? ⟨z.heap.size + 3, 1, none⟩ = some (.string ⟨R.odd.text.toArray⟩) ∧ z'.cell? ⟨z.heap.size + 3, 2, none⟩ = some (.int .i64 R.odd.mark) := fun z' u =>
        ⟨cell3 (u.keep HK8.out.b2 (fun e => by omega)), cell3 (u.keep HK8.out.b3 (fun e => by omega))⟩
      have HSS := Lib.hid hS
      have HG2 : Hid (nG ≤ z.heap.size ∧ nG ≤ z.heap.size + 1) := ⟨HWZ.out.2, by have := HWZ.out.2; omega⟩
      have k2 := HK8.out.b0
      have k3 := HK8.out.b1
      have b00 := cells_frozen k2 0
      have b01 := cells_frozen k2 1
      have b02 := cells_frozen k2 2
      have b10 := cells_frozen k3 0
      have b11 := cells_frozen k3 1
      have b12 := cells_frozen k3 2
      obtain ⟨_, _, _⟩ := cell3 k2
      obtain ⟨_, _, _⟩ := cell3 k3
      obtain ⟨⟨_, _, _⟩, _, _, _⟩ := hS w8 (Upd.refl _ _)
      have hne : z.heap.size < z.heap.size + 1 := by omega
      obtain ⟨e1, e2, e3, e4⟩ := HK8.out.fin HWZ.out.1 HWZ.out.2 rfl
      have zd := (Upd.refl (fun _ => False) (((((((w8.setCell ⟨z.heap.size, 0, none⟩ (.int .i64 R.old.key)).setCell ⟨z.heap.size, 1, none⟩ (.string ⟨R.old.text.toArray⟩)).setCell ⟨z.heap.size, 2, none⟩ (.int .i64 R.old.mark)).setCell ⟨z.heap.size + 1, 0, none⟩ (.int .i64 R.odd.key)).setCell ⟨z.heap.size + 1, 1, none⟩ (.string ⟨R.odd.text.toArray⟩)).setCell ⟨z.heap.size + 1, 2, none⟩ (.int .i64 R.odd.mark)))).drew
      have ZF := Lib.hid (And.intro (Nw.keep zd e1) (And.intro (Nw.keep zd e2) (And.intro (e3.nw zd) (e4.trans (Nw.upd _ zd)))))
      clear e1 e2 e3 e4 zd k2 k3 hS u8 hage HK2
      by_cases h0 : R.e = 0
      rotate_left
      · have hr : Hid (Mi.askE R now bound = R.e) := by show _ = _; rw [hE.out, if_neg (fun e => h0 e.1)]
        have hb1 : (R.e == 0) = false := by simp [h0]
        clear h0 hE
        go_wp2_with fail
        go_region_held3 (fun z' => (z'.cell? ⟨z.heap.size + 2, 0, none⟩ = some (.int .i64 R.old.key) ∧ z'.cell? ⟨z.heap.size + 2, 1, none⟩ = some (.string ⟨R.old.text.toArray⟩) ∧ z'.cell? ⟨z.heap.size + 2, 2, none⟩ = some (.int .i64 R.old.mark)) ∧ z'.cell? ⟨z.heap.size + 3, 0, none⟩ = some (.int .i64 R.odd.key) ∧ z'.cell? ⟨z.heap.size + 3, 1, none⟩ = some (.string ⟨R.odd.text.toArray⟩) ∧ z'.cell? ⟨z.heap.size + 3, 2, none⟩ = some (.int .i64 R.odd.mark)) (with_reducible first | exact HSS.out _ (by repeat (first | exact Upd.refl _ _ | refine Upd.drew ?_ | (refine Upd.setInK ?_ (Or.inl rfl) HG2.out.1 _ _) | (refine Upd.setInK ?_ (Or.inr rfl) HG2.out.2 _ _)))) (fail)
        go_wp2_with fail
        (try simp only [Exit.inBlock, Exit.then])
        with_reducible refine ask_out ZF.out.1 ZF.out.2.1 ?_ ?_ ?_ ?_
        · rfl
        · rfl
        · rfl
        · rw [HRe.out, hr.out]
          exact ⟨rfl, ZF.out.2.2.1, ZF.out.2.2.2⟩
      have hb1 : (R.e == 0) = true := by simp [h0]
      by_cases h1 : ag < 0
      · have hr : Hid (Mi.askE R now bound = 20) := by show _ = _; rw [hE.out, if_pos ⟨h0, Or.inl h1⟩]
        have hd1 : decide (ag < 0) = true := decide_eq_true h1
        clear h0 hE h1
        go_wp2_with fail
        go_region_held3 (fun z' => (z'.cell? ⟨z.heap.size + 2, 0, none⟩ = some (.int .i64 R.old.key) ∧ z'.cell? ⟨z.heap.size + 2, 1, none⟩ = some (.string ⟨R.old.text.toArray⟩) ∧ z'.cell? ⟨z.heap.size + 2, 2, none⟩ = some (.int .i64 R.old.mark)) ∧ z'.cell? ⟨z.heap.size + 3, 0, none⟩ = some (.int .i64 R.odd.key) ∧ z'.cell? ⟨z.heap.size + 3, 1, none⟩ = some (.string ⟨R.odd.text.toArray⟩) ∧ z'.cell? ⟨z.heap.size + 3, 2, none⟩ = some (.int .i64 R.odd.mark)) (with_reducible first | exact HSS.out _ (by repeat (first | exact Upd.refl _ _ | refine Upd.drew ?_ | (refine Upd.setInK ?_ (Or.inl rfl) HG2.out.1 _ _) | (refine Upd.setInK ?_ (Or.inr rfl) HG2.out.2 _ _)))) (fail)
        go_wp2_with fail
        (try simp only [Exit.inBlock, Exit.then])
        with_reducible refine ask_out ZF.out.1 ZF.out.2.1 ?_ ?_ ?_ ?_
        · rfl
        · rfl
        · rfl
        · rw [HRe.out, hr.out]
          exact ⟨rfl, ZF.out.2.2.1, ZF.out.2.2.2⟩
      have hd1 : decide (ag < 0) = false := decide_eq_false h1
      by_cases h2 : bound < ag
      · have hr : Hid (Mi.askE R now bound = 20) := by show _ = _; rw [hE.out, if_pos ⟨h0, Or.inr h2⟩]
        have hd2 : decide (bound < ag) = true := decide_eq_true h2
        clear h0 hE h1 h2
        go_wp2_with fail
        go_region_held3 (fun z' => (z'.cell? ⟨z.heap.size + 2, 0, none⟩ = some (.int .i64 R.old.key) ∧ z'.cell? ⟨z.heap.size + 2, 1, none⟩ = some (.string ⟨R.old.text.toArray⟩) ∧ z'.cell? ⟨z.heap.size + 2, 2, none⟩ = some (.int .i64 R.old.mark)) ∧ z'.cell? ⟨z.heap.size + 3, 0, none⟩ = some (.int .i64 R.odd.key) ∧ z'.cell? ⟨z.heap.size + 3, 1, none⟩ = some (.string ⟨R.odd.text.toArray⟩) ∧ z'.cell? ⟨z.heap.size + 3, 2, none⟩ = some (.int .i64 R.odd.mark)) (with_reducible first | exact HSS.out _ (by repeat (first | exact Upd.refl _ _ | refine Upd.drew ?_ | (refine Upd.setInK ?_ (Or.inl rfl) HG2.out.1 _ _) | (refine Upd.setInK ?_ (Or.inr rfl) HG2.out.2 _ _)))) (fail)
        go_wp2_with fail
        (try simp only [Exit.inBlock, Exit.then])
        with_reducible refine ask_out ZF.out.1 ZF.out.2.1 ?_ ?_ ?_ ?_
        · rfl
        · rfl
        · rfl
        · rw [HRe.out, hr.out]
          exact ⟨rfl, ZF.out.2.2.1, ZF.out.2.2.2⟩
      · have hr : Hid (Mi.askE R now bound = R.e) := by show _ = _; rw [hE.out, if_neg (fun e => e.2.elim h1 h2)]
        have hd2 : decide (bound < ag) = false := decide_eq_false h2
        clear h0 hE h1 h2
        go_wp2_with fail
        go_region_held3 (fun z' => (z'.cell? ⟨z.heap.size + 2, 0, none⟩ = some (.int .i64 R.old.key) ∧ z'.cell? ⟨z.heap.size + 2, 1, none⟩ = some (.string ⟨R.old.text.toArray⟩) ∧ z'.cell? ⟨z.heap.size + 2, 2, none⟩ = some (.int .i64 R.old.mark)) ∧ z'.cell? ⟨z.heap.size + 3, 0, none⟩ = some (.int .i64 R.odd.key) ∧ z'.cell? ⟨z.heap.size + 3, 1, none⟩ = some (.string ⟨R.odd.text.toArray⟩) ∧ z'.cell? ⟨z.heap.size + 3, 2, none⟩ = some (.int .i64 R.odd.mark)) (with_reducible first | exact HSS.out _ (by repeat (first | exact Upd.refl _ _ | refine Upd.drew ?_ | (refine Upd.setInK ?_ (Or.inl rfl) HG2.out.1 _ _) | (refine Upd.setInK ?_ (Or.inr rfl) HG2.out.2 _ _)))) (fail)
        go_wp2_with fail
        (try simp only [Exit.inBlock, Exit.then])
        with_reducible refine ask_out ZF.out.1 ZF.out.2.1 ?_ ?_ ?_ ?_
        · rfl
        · rfl
        · rfl
        · rw [HRe.out, hr.out]
          exact ⟨rfl, ZF.out.2.2.1, ZF.out.2.2.2⟩
end
end Go.Proofs.YtagmlemlagbfkaaGreatDoor
