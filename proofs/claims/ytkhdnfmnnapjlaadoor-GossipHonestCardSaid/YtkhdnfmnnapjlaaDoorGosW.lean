/- The contract of gossip's Meet. -/
import Derived.Test.YtkhdnfmnnapjlaaDoorGosM
namespace Go.Proofs.YtkhdnfmnnapjlaaDoor
open Go.RowKit
set_option linter.unusedVariables false
set_option linter.unusedSimpArgs false
attribute [local irreducible] Calls

abbrev zObj : Obj := .cells #[.int .i64 0, .string ⟨#[]⟩, .int .i64 0] tSigned
abbrev sObj (s : Bk.Sgn) : Obj := .cells #[.int .i64 s.key, .string ⟨s.text.toArray⟩, .int .i64 s.mark] tSigned
theorem meet_results {w : World} {b1 b2 : Nat} {tmps : Array Value} {v0 v1 v2 u0 u1 u2 : Value} {T T' : TypeId} {fz fz' : Nat × Nat} (h : w.heap[b1]? = some (.cells #[v0, v1, v2] T fz)) (h' : w.heap[b2]? = some (.cells #[u0, u1, u2] T' fz'))
    (ht : tmps.getD 4 undef = .pointer (some ⟨b1, 0, none⟩)) (ht' : tmps.getD 5 undef = .pointer (some ⟨b2, 0, none⟩)) :
    (results Tryd.f25 tmps).run Tryd.prog w = .ok (.tuple #[.agg #[v0, v1, v2], .agg #[u0, u1, u2], tmps.getD 6 undef]) w := by
  have c0 : w.cell? ⟨b1, 0, none⟩ = some v0 := by rw [cells_cell h]; rfl
  have c1 : w.cell? ⟨b1, 1, none⟩ = some v1 := by rw [cells_cell h]; rfl
  have c2 : w.cell? ⟨b1, 2, none⟩ = some v2 := by rw [cells_cell h]; rfl
  have d0 : w.cell? ⟨b2, 0, none⟩ = some u0 := by rw [cells_cell h']; rfl
  have d1 : w.cell? ⟨b2, 1, none⟩ = some u1 := by rw [cells_cell h']; rfl
  have d2 : w.cell? ⟨b2, 2, none⟩ = some u2 := by rw [cells_cell h']; rfl
  clear h h'
  have ht2 : tmps[4]?.getD undef = .pointer (some ⟨b1, 0, none⟩) := by simpa using ht
  have ht3 : tmps[5]?.getD undef = .pointer (some ⟨b2, 0, none⟩) := by simpa using ht'
  clear ht ht'
  simp [results, Tryd.results25, go_sem, ht2, ht3, c0, c1, c2, d0, d1, d2]
theorem Upd.setIn {S : Nat → Prop} {w w' : World} {b : Nat} (u : Upd S w w') (hb : S b) (hg : nG ≤ b) (i : Nat) (v : Value) : Upd S w (w'.setCell ⟨b, i, none⟩ v) :=
  u.trans ((Upd.set1 (Upd.refl (fun k => k = b) w') hg i v).mono (fun k _ e => e ▸ hb))
theorem meet_out {w : World} {b1 b2 : Nat} {a : Act} {v0 v1 v2 u0 u1 u2 : Value} {T T' : TypeId} {fz fz' : Nat × Nat} {R : Ending → World → Prop} (h : w.heap[b1]? = some (.cells #[v0, v1, v2] T fz)) (h' : w.heap[b2]? = some (.cells #[u0, u1, u2] T' fz'))
    (ht : a.tmps.getD 4 undef = .pointer (some ⟨b1, 0, none⟩)) (ht' : a.tmps.getD 5 undef = .pointer (some ⟨b2, 0, none⟩)) (hd : a.defers = []) (hR : R (.returned (.tuple #[.agg #[v0, v1, v2], .agg #[u0, u1, u2], a.tmps.getD 6 undef])) w) : bodyPost Tryd.prog Tryd.f25 R .ret a w :=
  bodyPost_ret (meet_results h h' ht ht') hd hR
/-- Two boxes are turned, which are new. -/
theorem box2_moves {W z z2 : World} {F : Nat → Prop} {b1 b2 : Nat} {z3 : World} (m : MovesN W F z z2) (h1 : z.heap.size ≤ b1) (h2 : z.heap.size ≤ b2) (u : Upd (fun k => k = b1 ∨ k = b2) z2 z3) : MovesN W F z z3 :=
  m.trans' u (fun k hk e => by rcases e with e | e <;> omega)
section
variable {W : World} {p : VNR} {m n : Nat} {key : Int} {Lr : List Bk.Seal} {bs : Nat → Bk.Book} {L : VL} {F : Nat → Prop} {z : World}
/-- The two boxes of the results are turned at the end. -/
theorem meet_fin {w5 wr : World} {F5 : Nat → Prop} {b1 b2 : Nat} {L' : VL} {v0 v1 v2 u0 u1 u2 x0 x1 x2 y0 y1 y2 : Value} {T T' : TypeId} {fz fz' : Nat × Nat} (hW : W.heap.size ≤ z.heap.size) (hg : nG ≤ z.heap.size) (h1 : z.heap.size ≤ b1) (h2 : z.heap.size ≤ b2) (hne : b1 ≠ b2) (fa : Fam W p m n key Lr bs L' F5 wr) (mv : MovesN W F5 w5 wr) (u5 : Nw z w5)
    (hF : ∀ j, F j → F5 j) (f1 : F5 b1) (f2 : F5 b2) (k1 : wr.heap[b1]? = some (.cells #[v0, v1, v2] T fz)) (k2 : wr.heap[b2]? = some (.cells #[u0, u1, u2] T' fz')) {Z : World}
    (hZ : Z = (((((wr.setCell ⟨b1, 0, none⟩ x0).setCell ⟨b1, 1, none⟩ x1).setCell ⟨b1, 2, none⟩ x2).setCell ⟨b2, 0, none⟩ y0).setCell ⟨b2, 1, none⟩ y1).setCell ⟨b2, 2, none⟩ y2) :
    Z.heap[b1]? = some (.cells #[x0, x1, x2] T fz) ∧ Z.heap[b2]? = some (.cells #[y0, y1, y2] T' fz') ∧ Fam W p m n key Lr bs L' F Z ∧ MovesN W F z Z := by
  subst hZ
  have q1 : Upd (fun k => k = b1) wr (((wr.setCell ⟨b1, 0, none⟩ x0).setCell ⟨b1, 1, none⟩ x1).setCell ⟨b1, 2, none⟩ x2) := Upd.set1 (Upd.set1 (Upd.set1 (Upd.refl _ _) (by omega) 0 _) (by omega) 1 _) (by omega) 2 _
  generalize hY : ((wr.setCell ⟨b1, 0, none⟩ x0).setCell ⟨b1, 1, none⟩ x1).setCell ⟨b1, 2, none⟩ x2 = Y at *
  have q2 : Upd (fun k => k = b2) Y (((Y.setCell ⟨b2, 0, none⟩ y0).setCell ⟨b2, 1, none⟩ y1).setCell ⟨b2, 2, none⟩ y2) := Upd.set1 (Upd.set1 (Upd.set1 (Upd.refl _ _) (by omega) 0 _) (by omega) 1 _) (by omega) 2 _
  have k1' : Y.heap[b1]? = some (.cells #[x0, x1, x2] T fz) := by rw [← hY]; exact set3 k1
  have k2' := q1.keep k2 (fun e => hne e.symm)
  have Q : Upd (fun k => k = b1 ∨ k = b2) wr (((Y.setCell ⟨b2, 0, none⟩ y0).setCell ⟨b2, 1, none⟩ y1).setCell ⟨b2, 2, none⟩ y2) := (q1.mono (fun k _ e => Or.inl e)).trans (q2.mono (fun k _ e => Or.inr e))
  have hz := u5.size
  refine ⟨q2.keep k1' hne, set3 k2', fa.upd_keep Q (fun k e => Or.inl ⟨by rcases e with rfl | rfl <;> assumption, by rcases e with rfl | rfl <;> omega⟩) (fun k e => Or.inl (hF k e)), ?_⟩
  exact box2_moves ((Nw.upd _ u5).trans (mv.mono (fun k _ e => ⟨fun f => e.1 (hF k f), e.2⟩))) h1 h2 Q
set_option maxHeartbeats 4000000 in
set_option maxRecDepth 100000 in
theorem meet_w (h : Fam W p m n key Lr bs L F z) (g : Gl W) (hl : Lr.length ≤ 900000) {i k : Nat} (hi : i < n) (hk : k < n) :
    Calls Tryd.prog 25 #[.pointer (some ⟨p.vbs i, 0, none⟩), .pointer (some ⟨p.vbs k, 0, none⟩)] z fun e z' =>
      e = .returned (.tuple #[sgnV (meetL Lr key L i k).1.1, sgnV (meetL Lr key L i k).1.2.1, .bool (meetL Lr key L i k).1.2.2]) ∧ Fam W p m n key Lr bs (meetL Lr key L i k).2 F z' ∧ MovesN W F z z' := by
  have hgb := (h.gl g).big
  have hWz := h.nw0.size
  have n1 := nw_alloc z zObj
  have k1 := heap_new z zObj
  have s1 : (z.alloc zObj).heap.size = z.heap.size + 1 := by simp
  have n2 := nw_alloc (z.alloc zObj) zObj
  have k2 := heap_new (z.alloc zObj) zObj
  replace k1 := n2.keep k1
  rw [s1] at k2
  have s2 : ((z.alloc zObj).alloc zObj).heap.size = z.heap.size + 2 := by simp
  have u2 := n1.trans n2
  generalize hW0 : (z.alloc zObj).alloc zObj = z1 at *
  have HW0 : Hid ((z.alloc (.cells #[.int .i64 0, .string ⟨#[]⟩, .int .i64 0] tSigned)).alloc (.cells #[.int .i64 0, .string ⟨#[]⟩, .int .i64 0] tSigned) = z1) := hW0
  have h1 := h.keep (F' := fun j => F j ∨ j = z.heap.size ∨ j = z.heap.size + 1) u2 (fun j hj => hj.imp id (fun e => by omega))
  have K12 := Lib.hid (And.intro k1 (And.intro k2 u2))
  have H1 := Lib.hid h1
  have HZ := Lib.hid (And.intro hWz s2)
  have hkey := Lib.hid (h.keyOk hi)
  have HV := Lib.hid h.2
  clear h n1 k1 s1 n2 k2 u2 h1 hW0
  go_enter Tryd.func25, Tryd.ntmps25
  go_wp2_with fail
  rw [HW0.out]
  go_wp2_with fail
  (with_reducible refine (vn_key H1.out hi).mono ?_)
  rintro _ w2 ⟨rfl, u2⟩
  have H2 := Lib.hid (H1.out.nw u2)
  go_wp2_with fail
  (with_reducible refine (vn_key H2.out hk).mono ?_)
  rintro _ w3 ⟨rfl, u3⟩
  have H3 := Lib.hid (H2.out.nw u3)
  have hli : (L i).length ≤ 900000 := Nat.le_trans (vok_len (HV.out i hi)) hl
  have hlk : (L k).length ≤ 900000 := Nat.le_trans (vok_len (HV.out k hk)) hl
  go_wp2_with fail
  (with_reducible refine (vn_claims H3.out g hi hli).mono ?_)
  rintro _ w4 ⟨vm, rfl, om, u4⟩
  have H4 := Lib.hid (H3.out.keep (F' := fun j => (F j ∨ j = z.heap.size ∨ j = z.heap.size + 1) ∨ vm.ownBlock = some j) u4 (fun j hj => hj.imp id (fun e => by obtain ⟨a, cs, b⟩ := own_block om e; exact ⟨a, lt_of_block b⟩)))
  go_wp2_with fail
  (with_reducible refine (vn_claims H4.out g hk hlk).mono ?_)
  rintro _ w5 ⟨vt, rfl, ot, u5⟩
  have OM := Lib.hid (owns_upd' om u5 (fun _ _ e => e))
  have OT := Lib.hid ot
  have U5 := Lib.hid (K12.out.2.2.trans (((u2.trans u3).trans u4).trans u5))
  have h5 := H4.out.keep (F' := fun j => ((F j ∨ j = z.heap.size ∨ j = z.heap.size + 1) ∨ vm.ownBlock = some j) ∨ vt.ownBlock = some j) u5 (fun j hj => hj.imp id (fun e => by obtain ⟨a, cs, b⟩ := own_block ot e; exact ⟨a, lt_of_block b⟩))
  obtain ⟨F5, h5, f5⟩ : ∃ F5 : Nat → Prop, Fam W p m n key Lr bs L F5 w5 ∧ (∀ j, F j → F5 j) ∧ F5 z.heap.size ∧ F5 (z.heap.size + 1) ∧ (∀ j, vm.ownBlock = some j → F5 j) ∧ ∀ j, vt.ownBlock = some j → F5 j :=
    ⟨_, h5, fun j e => Or.inl (Or.inl (Or.inl e)), Or.inl (Or.inl (Or.inr (Or.inl rfl))), Or.inl (Or.inl (Or.inr (Or.inr rfl))), fun j e => Or.inl (Or.inr e), fun j e => Or.inr e⟩
  have H5 := Lib.hid h5
  have HF := Lib.hid f5
  clear h5 f5
  have Z5 : Hid (W.heap.size ≤ z.heap.size ∧ z.heap.size + 2 ≤ w5.heap.size) := ⟨HZ.out.1, by have h1 := (((u2.trans u3).trans u4).trans u5).size; have h2 := HZ.out.2; omega⟩
  have KB := Lib.hid (And.intro (Nw.keep (((u2.trans u3).trans u4).trans u5) K12.out.1) (Nw.keep (((u2.trans u3).trans u4).trans u5) K12.out.2.1))
  obtain ⟨am, cm, rfl⟩ := own_slG om
  obtain ⟨aT, cT, rfl⟩ := own_slG ot
  have hli1 : ((L i).length : Int) ≤ 900000 := by omega
  have hlk1 : ((L k).length : Int) ≤ 900000 := by omega
  have hI0 : Hid ((∀ t ∈ (L i).take 0, (Vw.clash (L k) t).2 = false) ∧ Nw w5 w5) := ⟨fun t ht => by simp at ht, Upd.refl _ _⟩
  have HLI := Lib.hid (And.intro hli hlk)
  clear om ot u2 u3 u4 u5 H1 H2 H3 H4 hli hlk
  go_wp2_with fail
  go_loopw [38] (fun iv wr => ∃ j : Nat, j ≤ (L i).length ∧ iv = .int .i64 j ∧ Hid ((∀ t ∈ (L i).take j, (Vw.clash (L k) t).2 = false) ∧ Nw w5 wr)) (fun iv _ => (L i).length - (intOf iv).toNat)
  case atStart => exact ⟨0, Nat.zero_le _, rfl, hI0.out⟩
  case round =>
    obtain ⟨j, hj, rfl, HI⟩ := hrel
    by_cases hlt : j < (L i).length
    · obtain ⟨a', cap', ev, _, hcells⟩ := sgn_cells (sgn_sls (owns_upd' OM.out HI.out.2 (fun _ _ e => e)))
      simp only [Value.slice.injEq, true_and] at ev
      obtain ⟨rfl, rfl⟩ := ev
      rcases hcells with hnil | ⟨b, off, rfl, _, _, hc⟩
      · rw [hnil] at hlt; simp at hlt
      obtain ⟨d0, d1, d2⟩ := hc j hlt
      have hso := vok_ok (HV.out i hi) hkey.out (Nat.le_trans hl (by decide)) (List.getElem_mem hlt)
      have htk : (L i).take (j + 1) = (L i).take j ++ [(L i)[j]] := List.take_succ_eq_append_getElem hlt
      have hfst : (Vw.clash (L k) (L i)[j]).2 = true → firstOdd L i k = some (L i)[j] := fun e => by
        unfold firstOdd
        rw [List.find?_eq_some_iff_getElem]
        refine ⟨e, j, hlt, rfl, fun j' hj' => ?_⟩
        rw [HI.out.1 _ (List.mem_take_iff_getElem.2 ⟨j', by omega, rfl⟩)]
        rfl
      have Hso := Lib.hid hso
      have Htk := Lib.hid htk
      have Hfst := Lib.hid hfst
      clear hc hso htk hfst
      generalize (L i)[j] = s at *
      have HC := Lib.hid (vn_clash (H5.out.nw (HI.out.2.trans (nw_alloc wr (sObj s)))) g hk s Hso.out HLI.out.2)
      have hj1 : (j : Int) ≤ 900000 := by omega
      go_wp2_with fail
      (with_reducible refine (HC.out).mono ?_)
      rintro _ w6 ⟨rfl, u6⟩
      have U6 := Lib.hid ((HI.out.2.trans (nw_alloc wr (sObj s))).trans u6)
      have KS := Lib.hid (Nw.keep u6 (heap_new wr (sObj s)))
      clear HC u6 d0 d1 d2
      obtain ⟨t, is, hcl⟩ : ∃ t is, Vw.clash (L k) s = (t, is) := ⟨_, _, rfl⟩
      rw [hcl]
      unfold sgnV
      dsimp only
      cases is with
      | false =>
        have hz : Hid ((∀ t ∈ (L i).take (j + 1), (Vw.clash (L k) t).2 = false) ∧ Nw w5 (w6.alloc (sObj t))) := by
          refine ⟨fun x hx => ?_, U6.out.trans (nw_alloc w6 _)⟩
          rw [Htk.out] at hx
          rcases List.mem_append.1 hx with hx | hx
          · exact HI.out.1 x hx
          · rw [List.mem_singleton.1 hx, hcl]
        clear hcl
        go_wp2_with fail
        go_roundw
        case rel => exact ⟨j + 1, by omega, by go_num, hz.out⟩
        case measure => simp [intOf]; omega
      | true =>
        have hfo := Hfst.out (by rw [hcl])
        have Hmt : Hid (meetL Lr key L i k = ((s, t, true), L)) := by
          show _ = _
          unfold meetL
          rw [hfo]
          dsimp only
          rw [hcl]
        have kb1 := Nw.keep (U6.out.trans (nw_alloc w6 (sObj t))) KB.out.1
        have kb2 := Nw.keep (U6.out.trans (nw_alloc w6 (sObj t))) KB.out.2
        have ks := Nw.keep (nw_alloc w6 (sObj t)) KS.out
        have kt := heap_new w6 (sObj t)
        have b00 := cells_frozen kb1 0
        have b01 := cells_frozen kb1 1
        have b02 := cells_frozen kb1 2
        have b10 := cells_frozen kb2 0
        have b11 := cells_frozen kb2 1
        have b12 := cells_frozen kb2 2
        obtain ⟨_, _, _⟩ := cell3 kb1
        obtain ⟨_, _, _⟩ := cell3 kb2
        obtain ⟨_, _, _⟩ := cell3 ks
        obtain ⟨_, _, _⟩ := cell3 kt
        have K1 := Lib.hid kb1
        have K2 := Lib.hid kb2
        have N7 := Lib.hid (U6.out.trans (nw_alloc w6 (sObj t)))
        have hz0 : z.heap.size < z.heap.size + 1 := Nat.lt_succ_self _
        clear hcl hfo kb1 kb2 ks kt
        have h5w := HI.out.2.size
        have h6w := U6.out.size
        have h7w := Z5.out.2
        have sw : wr.heap.size < w6.heap.size := lt_of_block KS.out
        have HS : Hid (∀ z', Upd (fun j => j = z.heap.size ∨ j = z.heap.size + 1) (w6.alloc (sObj t)) z' → (z'.cell? ⟨wr.heap.size, 0, none⟩ = some (.int .i64 s.key) ∧ z'.cell? ⟨wr.heap.size, 1, none⟩ = some (.string ⟨s.text.toArray⟩) ∧ z'.cell? ⟨wr.heap.size, 2, none⟩ = some (.int .i64 s.mark)) ∧
            z'.cell? ⟨w6.heap.size, 0, none⟩ = some (.int .i64 t.key) ∧ z'.cell? ⟨w6.heap.size, 1, none⟩ = some (.string ⟨t.text.toArray⟩) ∧ z'.cell? ⟨w6.heap.size, 2, none⟩ = some (.int .i64 t.mark)) := fun z' u => by
          exact ⟨cell3 (u.keep (Nw.keep (nw_alloc w6 (sObj t)) KS.out) (fun e => by omega)), cell3 (u.keep (heap_new w6 (sObj t)) (fun e => by omega))⟩
        have HG : Hid (nG ≤ z.heap.size ∧ nG ≤ z.heap.size + 1) := ⟨hgb, by omega⟩
        clear h5w h6w h7w sw
        go_wp2_with fail
        go_region_held3 (fun z' => (z'.cell? ⟨wr.heap.size, 0, none⟩ = some (.int .i64 s.key) ∧ z'.cell? ⟨wr.heap.size, 1, none⟩ = some (.string ⟨s.text.toArray⟩) ∧ z'.cell? ⟨wr.heap.size, 2, none⟩ = some (.int .i64 s.mark)) ∧ z'.cell? ⟨w6.heap.size, 0, none⟩ = some (.int .i64 t.key) ∧ z'.cell? ⟨w6.heap.size, 1, none⟩ = some (.string ⟨t.text.toArray⟩) ∧ z'.cell? ⟨w6.heap.size, 2, none⟩ = some (.int .i64 t.mark)) (with_reducible first | exact HS.out _ (by repeat (first | exact Upd.refl _ _ | refine Upd.drew ?_ | (refine Upd.setIn ?_ (Or.inl rfl) HG.out.1 _ _) | (refine Upd.setIn ?_ (Or.inr rfl) HG.out.2 _ _)))) (fail)
        obtain ⟨z1, z2, z3, z4⟩ := meet_fin (p := p) (x0 := .int .i64 s.key) (x1 := .string ⟨s.text.toArray⟩) (x2 := .int .i64 s.mark) (y0 := .int .i64 t.key) (y1 := .string ⟨t.text.toArray⟩) (y2 := .int .i64 t.mark) Z5.out.1 hgb (Nat.le_refl _) (Nat.le_succ _) (by omega) (H5.out.nw N7.out) (Nw.upd _ N7.out) U5.out HF.out.1 HF.out.2.1 HF.out.2.2.1 K1.out K2.out rfl
        have zd := (Upd.refl (fun _ => False) (((((((w6.alloc (sObj t)).setCell ⟨z.heap.size, 0, none⟩ (.int .i64 s.key)).setCell ⟨z.heap.size, 1, none⟩ (.string ⟨s.text.toArray⟩)).setCell ⟨z.heap.size, 2, none⟩ (.int .i64 s.mark)).setCell ⟨z.heap.size + 1, 0, none⟩ (.int .i64 t.key)).setCell ⟨z.heap.size + 1, 1, none⟩ (.string ⟨t.text.toArray⟩)).setCell ⟨z.heap.size + 1, 2, none⟩ (.int .i64 t.mark))).drew
        have ZF := Lib.hid (And.intro (Nw.keep zd z1) (And.intro (Nw.keep zd z2) (And.intro (z3.nw zd) (z4.trans (Nw.upd _ zd)))))
        clear z1 z2 z3 z4 zd
        go_wp2_with fail
        (try simp only [Exit.inBlock, Exit.then])
        with_reducible refine meet_out ZF.out.1 ZF.out.2.1 ?_ ?_ ?_ ?_
        · rfl
        · rfl
        · rfl
        · rw [Hmt.out]
          exact ⟨rfl, ZF.out.2.2.1, ZF.out.2.2.2⟩
    · obtain rfl : j = (L i).length := by omega
      have hno : firstOdd L i k = none := by
        unfold firstOdd
        rw [List.find?_eq_none]
        intro t ht
        rw [HI.out.1 t (by rw [List.take_length]; exact ht)]
        simp
      have Hmt : Hid (meetL Lr key L i k = ((Bk.noSgn, Bk.noSgn, false), setL (setL L i (accAll Lr key (L i) (L k))) k (accAll Lr key (setL L i (accAll Lr key (L i) (L k)) k) (L i)))) := by
        show _ = _
        unfold meetL
        rw [hno]
      obtain ⟨wX, rfl⟩ : ∃ x, x = wr := ⟨_, rfl⟩
      have hJ0 : Hid (Fam W p m n key Lr bs (setL L i (accAll Lr key (L i) ((L k).take 0))) F5 wX ∧ MovesN W F5 w5 wX) := ⟨by rw [List.take_zero, accAll_nil, setL_same]; exact H5.out.nw HI.out.2, Nw.upd _ HI.out.2⟩
      clear hno HI hI0
      go_wp2_with fail
      go_loopw [54] (fun iv wr => ∃ j : Nat, j ≤ (L k).length ∧ iv = .int .i64 j ∧ Hid (Fam W p m n key Lr bs (setL L i (accAll Lr key (L i) ((L k).take j))) F5 wr ∧ MovesN W F5 w5 wr)) (fun iv _ => (L k).length - (intOf iv).toNat)
      case atStart => exact ⟨0, Nat.zero_le _, rfl, hJ0.out⟩
      case round =>
        obtain ⟨j, hj, rfl, HJ⟩ := hrel
        by_cases hlt : j < (L k).length
        · obtain ⟨a', cap', ev, _, hcells⟩ := sgn_cells (sgn_sls (owns_upd' OT.out HJ.out.2 (fun x hx e => e.1 (HF.out.2.2.2.2 x hx))))
          simp only [Value.slice.injEq, true_and] at ev
          obtain ⟨rfl, rfl⟩ := ev
          rcases hcells with hnil | ⟨b, off, rfl, _, _, hc⟩
          · rw [hnil] at hlt; simp at hlt
          obtain ⟨d0, d1, d2⟩ := hc j hlt
          have hso := vok_ok (HV.out k hk) hkey.out (Nat.le_trans hl (by decide)) (List.getElem_mem hlt)
          have htk : accAll Lr key (L i) ((L k).take (j + 1)) = (Vw.accept Lr key (accAll Lr key (L i) ((L k).take j)) (L k)[j]).2 := by rw [List.take_succ_eq_append_getElem hlt, accAll_snoc]
          have Hso := Lib.hid hso
          have Htk := Lib.hid htk
          clear hc hso htk
          generalize (L k)[j] = s at *
          have hlen : (setL L i (accAll Lr key (L i) ((L k).take j)) i).length ≤ 900000 := Nat.le_trans (vok_len (HJ.out.1.2 i hi)) hl
          have HC := Lib.hid (vn_accept (HJ.out.1.nw (nw_alloc wr (sObj s))) g hi s Hso.out hlen)
          have hj1 : (j : Int) ≤ 900000 := by omega
          clear hlen
          go_wp2_with fail
          (with_reducible refine (HC.out).mono ?_)
          rintro _ w6 ⟨rfl, fa6, mv6⟩
          have hz : Hid (Fam W p m n key Lr bs (setL L i (accAll Lr key (L i) ((L k).take (j + 1)))) F5 w6 ∧ MovesN W F5 w5 w6) := by
            refine ⟨?_, (HJ.out.2.trans (Nw.upd _ (nw_alloc wr (sObj s)))).trans mv6⟩
            rw [setL_set, setL_self] at fa6
            rw [Htk.out]; exact fa6
          clear fa6 mv6 HC
          go_wp2_with fail
          go_roundw
          case rel => exact ⟨j + 1, by omega, by go_num, hz.out⟩
          case measure => simp [intOf]; omega
        · obtain rfl : j = (L k).length := by omega
          obtain ⟨wY, rfl⟩ : ∃ x, x = wr := ⟨_, rfl⟩
          obtain ⟨L1, hL1⟩ : ∃ L1, L1 = setL L i (accAll Lr key (L i) (L k)) := ⟨_, rfl⟩
          have hJ1 := HJ.out
          rw [List.take_length, ← hL1] at hJ1
          rw [← hL1] at Hmt
          have hJ0 : Hid (Fam W p m n key Lr bs (setL L1 k (accAll Lr key (L1 k) ((L i).take 0))) F5 wY ∧ MovesN W F5 w5 wY) := ⟨by rw [List.take_zero, accAll_nil, setL_same]; exact hJ1.1, hJ1.2⟩
          clear hJ1 HJ hL1
          go_wp2_with fail
          go_loopw [64] (fun iv wr => ∃ j : Nat, j ≤ (L i).length ∧ iv = .int .i64 j ∧ Hid (Fam W p m n key Lr bs (setL L1 k (accAll Lr key (L1 k) ((L i).take j))) F5 wr ∧ MovesN W F5 w5 wr)) (fun iv _ => (L i).length - (intOf iv).toNat)
          case atStart => exact ⟨0, Nat.zero_le _, rfl, hJ0.out⟩
          case round =>
            obtain ⟨j, hj, rfl, HJ⟩ := hrel
            by_cases hlt : j < (L i).length
            · obtain ⟨a', cap', ev, _, hcells⟩ := sgn_cells (sgn_sls (owns_upd' OM.out HJ.out.2 (fun x hx e => e.1 (HF.out.2.2.2.1 x hx))))
              simp only [Value.slice.injEq, true_and] at ev
              obtain ⟨rfl, rfl⟩ := ev
              rcases hcells with hnil | ⟨b, off, rfl, _, _, hc⟩
              · rw [hnil] at hlt; simp at hlt
              obtain ⟨d0, d1, d2⟩ := hc j hlt
              have hso := vok_ok (HV.out i hi) hkey.out (Nat.le_trans hl (by decide)) (List.getElem_mem hlt)
              have htk : accAll Lr key (L1 k) ((L i).take (j + 1)) = (Vw.accept Lr key (accAll Lr key (L1 k) ((L i).take j)) (L i)[j]).2 := by rw [List.take_succ_eq_append_getElem hlt, accAll_snoc]
              have Hso := Lib.hid hso
              have Htk := Lib.hid htk
              clear hc hso htk
              generalize (L i)[j] = s at *
              have hlen : (setL L1 k (accAll Lr key (L1 k) ((L i).take j)) k).length ≤ 900000 := Nat.le_trans (vok_len (HJ.out.1.2 k hk)) hl
              have HC := Lib.hid (vn_accept (HJ.out.1.nw (nw_alloc wr (sObj s))) g hk s Hso.out hlen)
              have hj1 : (j : Int) ≤ 900000 := by omega
              clear hlen
              go_wp2_with fail
              (with_reducible refine (HC.out).mono ?_)
              rintro _ w6 ⟨rfl, fa6, mv6⟩
              have hz : Hid (Fam W p m n key Lr bs (setL L1 k (accAll Lr key (L1 k) ((L i).take (j + 1)))) F5 w6 ∧ MovesN W F5 w5 w6) := by
                refine ⟨?_, (HJ.out.2.trans (Nw.upd _ (nw_alloc wr (sObj s)))).trans mv6⟩
                rw [setL_set, setL_self] at fa6
                rw [Htk.out]; exact fa6
              clear fa6 mv6 HC
              go_wp2_with fail
              go_roundw
              case rel => exact ⟨j + 1, by omega, by go_num, hz.out⟩
              case measure => simp [intOf]; omega
            · obtain rfl : j = (L i).length := by omega
              have hJ1 := HJ.out
              rw [List.take_length] at hJ1
              have kb1 := hJ1.2.keep KB.out.1 (fun e => e.1 HF.out.2.1)
              have kb2 := hJ1.2.keep KB.out.2 (fun e => e.1 HF.out.2.2.1)
              have Hend := Lib.hid hJ1
              have b00 := cells_frozen kb1 0
              have b01 := cells_frozen kb1 1
              have b02 := cells_frozen kb1 2
              have b10 := cells_frozen kb2 0
              have b11 := cells_frozen kb2 1
              have b12 := cells_frozen kb2 2
              have e1 := cell3 kb1
              have e2 := cell3 kb2
              obtain ⟨_, _, _⟩ := e1
              obtain ⟨_, _, _⟩ := e2
              have K1 := Lib.hid kb1
              have K2 := Lib.hid kb2
              clear HJ hJ1 kb1 kb2
              have hz0 : z.heap.size < z.heap.size + 1 := Nat.lt_succ_self _
              go_wp2_with fail
              (try simp only [Exit.inBlock, Exit.then])
              obtain ⟨z1, z2, z3, z4⟩ := meet_fin (p := p) Z5.out.1 hgb (Nat.le_refl _) (Nat.le_succ _) (by omega) Hend.out.1 Hend.out.2 U5.out HF.out.1 HF.out.2.1 HF.out.2.2.1 K1.out K2.out rfl
              refine bodyPost_ret (meet_results z1 z2 rfl rfl) rfl ?_
              rw [Hmt.out]
              exact ⟨rfl, z3, z4⟩
end
end Go.Proofs.YtkhdnfmnnapjlaaDoor
