/- The contract of gossip's Spread. -/
import Derived.Test.YtkhdnfmnnapjlaaDoorGosW
import Derived.Test.YtkhdnfmnnapjlaaDoorGosV
import Derived.Deep.CutBlock
namespace Go.Proofs.YtkhdnfmnnapjlaaDoor
open Go.RowKit
set_option linter.unusedVariables false
set_option linter.unusedSimpArgs false
attribute [local irreducible] Calls

theorem spread_out {w : World} {b1 b2 : Nat} {a : Act} {v0 v1 v2 u0 u1 u2 : Value} {T T' : TypeId} {fz fz' : Nat × Nat} {R : Ending → World → Prop} (h : w.heap[b1]? = some (.cells #[v0, v1, v2] T fz)) (h' : w.heap[b2]? = some (.cells #[u0, u1, u2] T' fz'))
    (ht : a.tmps.getD 5 undef = .pointer (some ⟨b1, 0, none⟩)) (ht' : a.tmps.getD 6 undef = .pointer (some ⟨b2, 0, none⟩)) (hd : a.defers = []) (hR : R (.returned (.tuple #[a.tmps.getD 4 undef, .agg #[v0, v1, v2], .agg #[u0, u1, u2], a.tmps.getD 7 undef])) w) : bodyPost Tryd.prog Tryd.f14 R .ret a w := by
  refine bodyPost_ret ?_ hd hR
  obtain ⟨tmps, ds⟩ := a
  dsimp only at ht ht' ⊢
  have c0 : w.cell? ⟨b1, 0, none⟩ = some v0 := by rw [cells_cell h]; rfl
  have c1 : w.cell? ⟨b1, 1, none⟩ = some v1 := by rw [cells_cell h]; rfl
  have c2 : w.cell? ⟨b1, 2, none⟩ = some v2 := by rw [cells_cell h]; rfl
  have d0 : w.cell? ⟨b2, 0, none⟩ = some u0 := by rw [cells_cell h']; rfl
  have d1 : w.cell? ⟨b2, 1, none⟩ = some u1 := by rw [cells_cell h']; rfl
  have d2 : w.cell? ⟨b2, 2, none⟩ = some u2 := by rw [cells_cell h']; rfl
  clear h h' hR hd
  have ht2 : tmps[5]?.getD undef = .pointer (some ⟨b1, 0, none⟩) := by simpa using ht
  have ht3 : tmps[6]?.getD undef = .pointer (some ⟨b2, 0, none⟩) := by simpa using ht'
  clear ht ht'
  simp [results, Tryd.results14, go_sem, ht2, ht3, c0, c1, c2, d0, d1, d2]
theorem ptr_cells {n : Nat} {vbs : Nat → Nat} {w : World} {v : Value} (h : ∃ lo hi, Sl lo hi w v ((List.range n).map fun i => Value.pointer (some ⟨vbs i, 0, none⟩))) :
    ∃ a cap, v = .slice a n cap ∧ (n = 0 ∨ ∃ b off, a = some ⟨b, off, none⟩ ∧ ∀ i, i < n → w.cell? ⟨b, off + i, none⟩ = some (.pointer (some ⟨vbs i, 0, none⟩))) := by
  obtain ⟨lo, hi, h⟩ := h
  obtain ⟨a, cap, rfl, hm, h⟩ := h.open_
  rw [List.length_map, List.length_range] at hm ⊢
  refine ⟨a, cap, rfl, ?_⟩
  rcases h with ⟨_, _, h⟩ | ⟨b, off, rfl, _, hb1, hb, hc⟩
  · exact Or.inl (by have := congrArg List.length h; simpa using this)
  · refine Or.inr ⟨b, off, rfl, fun i hi => ?_⟩
    have := hc i (by simpa using hi)
    rw [this, List.getElem?_map, List.getElem?_range hi]; rfl
section
variable {W : World} {p : VNR} {m n : Nat} {key : Int} {Lr : List Bk.Seal} {bs : Nat → Bk.Book} {L : VL} {F : Nat → Prop} {z : World}
/-- Meet, at any later world, all that is new being kept. -/
theorem meet_later (h : Fam W p m n key Lr bs L F z) (g : Gl W) (hl : Lr.length ≤ 900000) {i k : Nat} (hi : i < n) (hk : k < n) (z' : World) (u : Nw z z') :
    Calls Tryd.prog 25 #[.pointer (some ⟨p.vbs i, 0, none⟩), .pointer (some ⟨p.vbs k, 0, none⟩)] z' fun e y =>
      e = .returned (.tuple #[sgnV (meetL Lr key L i k).1.1, sgnV (meetL Lr key L i k).1.2.1, .bool (meetL Lr key L i k).1.2.2]) ∧ Fam W p m n key Lr bs (meetL Lr key L i k).2 (fun j => F j ∨ (z.heap.size ≤ j ∧ j < z'.heap.size)) y ∧ MovesN W (fun j => F j ∨ (z.heap.size ≤ j ∧ j < z'.heap.size)) z' y ∧ MovesN W F z y :=
  (meet_w (h.keep u (fun j hj => hj)) g hl hi hk).mono fun e y ⟨a, b, c⟩ => ⟨a, b, c, (Nw.upd _ u).trans (c.mono (fun k _ s => ⟨fun f => s.1 (Or.inl f), s.2⟩))⟩
def BoxAt (w : World) (b : Nat) : Prop := (w.cell? ⟨b, 0, none⟩ = some (.int .i64 0) ∧ w.cell? ⟨b, 1, none⟩ = some (.string ⟨#[]⟩) ∧ w.cell? ⟨b, 2, none⟩ = some (.int .i64 0)) ∧ w.frozen? ⟨b, 0, none⟩ = false ∧ w.frozen? ⟨b, 1, none⟩ = false ∧ w.frozen? ⟨b, 2, none⟩ = false
def BoxAll (w : World) (b : Nat) : Prop := ((∀ o, (w.alloc o).cell? ⟨b, 0, none⟩ = some (.int .i64 0)) ∧ (∀ o, (w.alloc o).cell? ⟨b, 1, none⟩ = some (.string ⟨#[]⟩)) ∧ ∀ o, (w.alloc o).cell? ⟨b, 2, none⟩ = some (.int .i64 0)) ∧ (∀ o, (w.alloc o).frozen? ⟨b, 0, none⟩ = false) ∧ (∀ o, (w.alloc o).frozen? ⟨b, 1, none⟩ = false) ∧ (∀ o, (w.alloc o).frozen? ⟨b, 2, none⟩ = false) ∧ b < w.heap.size ∧ b ≠ w.heap.size ∧ w.heap.size ≠ b
theorem box_all {w : World} {b : Nat} (h : w.heap[b]? = some (.cells #[.int .i64 0, .string ⟨#[]⟩, .int .i64 0] tSigned (0, 0))) : BoxAll w b := by
  have k := fun o => Nw.keep (nw_alloc w o) h
  have hlt := lt_of_block h
  exact ⟨⟨fun o => (cell3 (k o)).1, fun o => (cell3 (k o)).2.1, fun o => (cell3 (k o)).2.2⟩, fun o => cells_frozen (k o) 0, fun o => cells_frozen (k o) 1, fun o => cells_frozen (k o) 2, hlt, by omega, by omega⟩
theorem box_at {w : World} {b : Nat} (h : w.heap[b]? = some (.cells #[.int .i64 0, .string ⟨#[]⟩, .int .i64 0] tSigned (0, 0))) : BoxAt w b :=
  ⟨cell3 h, cells_frozen h 0, cells_frozen h 1, cells_frozen h 2⟩
/-- What Meet leaves of boxes that were made ahead of it. -/
theorem meet_boxes {F5 : Nat → Prop} {z' y : World} {b : Nat} (mv : MovesN W (fun j => F5 j ∨ (z.heap.size ≤ j ∧ j < z'.heap.size)) z' y) (hb : z.heap.size ≤ b) (h : z'.heap[b]? = some (.cells #[.int .i64 0, .string ⟨#[]⟩, .int .i64 0] tSigned (0, 0))) : y.heap[b]? = some (.cells #[.int .i64 0, .string ⟨#[]⟩, .int .i64 0] tSigned (0, 0)) :=
  mv.keep h (fun e => e.1 (Or.inr ⟨hb, lt_of_block h⟩))
abbrev S3 (w : World) (b : Nat) (s : Bk.Sgn) : World := ((w.setCell ⟨b, 0, none⟩ (.int .i64 s.key)).setCell ⟨b, 1, none⟩ (.string ⟨s.text.toArray⟩)).setCell ⟨b, 2, none⟩ (.int .i64 s.mark)
theorem spr_set {ML : VL} {F6 : Nat → Prop} {w : World} {b : Nat} {v0 v1 v2 : Value} (s : Bk.Sgn) (fa : Fam W p m n key Lr bs ML F6 w) (hb : F6 b) (hW : W.heap.size ≤ b) (hg : nG ≤ b) (h : w.heap[b]? = some (.cells #[v0, v1, v2] tSigned (0, 0))) :
    Fam W p m n key Lr bs ML F6 (S3 w b s) ∧ (S3 w b s).heap[b]? = some (sObj s) ∧ Upd (fun k => k = b) w (S3 w b s) := by
  have u : Upd (fun k => k = b) w (S3 w b s) := Upd.set1 (Upd.set1 (Upd.set1 (Upd.refl _ _) hg 0 _) hg 1 _) hg 2 _
  exact ⟨fa.upd_keep u (fun k e => Or.inl ⟨e ▸ hb, e ▸ hW⟩) (fun k e => Or.inl e), set3 h, u⟩
/-- What stands behind a meeting of Spread: the two results' boxes. -/
def SprR (W : World) (p : VNR) (m n : Nat) (key : Int) (Lr : List Bk.Seal) (bs : Nat → Bk.Book) (F5 : Nat → Prop) (ML : VL) (s t : Bk.Sgn) (w3 wx : World) (b1 b2 : Nat) : Prop :=
  w3.heap.size ≤ b1 ∧ w3.heap.size ≤ b2 ∧ b1 ≠ b2 ∧ wx.heap[b1]? = some (sObj s) ∧ wx.heap[b2]? = some (sObj t) ∧ Fam W p m n key Lr bs ML F5 wx ∧ MovesN W F5 w3 wx
theorem SprR.flip {F5 : Nat → Prop} {ML : VL} {s t : Bk.Sgn} {w3 wx : World} {b1 b2 : Nat} (h : SprR W p m n key Lr bs F5 ML s t w3 wx b1 b2) : SprR W p m n key Lr bs F5 ML t s w3 wx b2 b1 :=
  ⟨h.2.1, h.1, h.2.2.1.symm, h.2.2.2.2.1, h.2.2.2.1, h.2.2.2.2.2⟩
theorem spr_1 {F5 : Nat → Prop} {ML : VL} (s t : Bk.Sgn) {w3 w5 : World} (fa : Fam W p m n key Lr bs ML F5 w5) (v5 : MovesN W F5 w3 w5) : SprR W p m n key Lr bs F5 ML s t w3 ((w5.alloc (sObj s)).alloc (sObj t)) w5.heap.size (w5.heap.size + 1) := by
  have h1 := v5.size
  have u1 := nw_alloc w5 (sObj s)
  have u2 := nw_alloc (w5.alloc (sObj s)) (sObj t)
  have k2 := heap_new (w5.alloc (sObj s)) (sObj t)
  rw [show (w5.alloc (sObj s)).heap.size = w5.heap.size + 1 by simp] at k2
  exact ⟨h1, by omega, by omega, Nw.keep u2 (heap_new w5 (sObj s)), k2, (fa.nw u1).nw u2, v5.trans (Nw.upd _ (u1.trans u2))⟩
theorem spr_2 {F5 F6 : Nat → Prop} {ML : VL} (s t : Bk.Sgn) {w3 w5 : World} {v0 v1 v2 : Value} (hW : W.heap.size ≤ w3.heap.size) (hg : nG ≤ w3.heap.size) (fa : Fam W p m n key Lr bs ML F6 w5) (h56 : ∀ k, F5 k → F6 k) (h6 : F6 w3.heap.size) (v5 : MovesN W F5 w3 w5) (k1 : w5.heap[w3.heap.size]? = some (.cells #[v0, v1, v2] tSigned (0, 0))) :
    SprR W p m n key Lr bs F5 ML s t w3 ((S3 w5 w3.heap.size s).alloc (sObj t)) w3.heap.size w5.heap.size := by
  obtain ⟨f1, k2, u⟩ := spr_set s fa h6 hW hg k1
  have hs : (S3 w5 w3.heap.size s).heap.size = w5.heap.size := by simp
  have u2 := nw_alloc (S3 w5 w3.heap.size s) (sObj t)
  have k3 := heap_new (S3 w5 w3.heap.size s) (sObj t)
  rw [hs] at k3
  have h1 := v5.size
  have h2 := lt_of_block k1
  exact ⟨Nat.le_refl _, h1, by omega, Nw.keep u2 k2, k3, (f1.less h56).nw u2, (v5.trans' u (fun k hk e => by omega)).trans (Nw.upd _ u2)⟩
theorem spr_3 {F5 F6 : Nat → Prop} {ML : VL} (s t : Bk.Sgn) {w3 w5 : World} {b1 b2 : Nat} {v0 v1 v2 u0 u1 u2 : Value} (hW : W.heap.size ≤ w3.heap.size) (hg : nG ≤ w3.heap.size) (fa : Fam W p m n key Lr bs ML F6 w5) (h56 : ∀ k, F5 k → F6 k) (h6 : F6 b1) (h7 : F6 b2) (hb1 : w3.heap.size ≤ b1) (hb2 : w3.heap.size ≤ b2) (hne : b1 ≠ b2) (v5 : MovesN W F5 w3 w5)
    (k1 : w5.heap[b1]? = some (.cells #[v0, v1, v2] tSigned (0, 0))) (k2 : w5.heap[b2]? = some (.cells #[u0, u1, u2] tSigned (0, 0))) : SprR W p m n key Lr bs F5 ML s t w3 (S3 (S3 w5 b1 s) b2 t) b1 b2 := by
  obtain ⟨f1, k3, u⟩ := spr_set s fa h6 (by omega) (by omega) k1
  obtain ⟨f2, k4, u'⟩ := spr_set t f1 h7 (by omega) (by omega) (u.keep k2 (fun e => hne e.symm))
  exact ⟨hb1, hb2, hne, u'.keep k3 hne, k4, f2.less h56, (v5.trans' u (fun k hk e => by omega)).trans' u' (fun k hk e => by omega)⟩
set_option maxHeartbeats 4000000 in
set_option maxRecDepth 100000 in
theorem spread_w (h : Fam W p m n key Lr bs L F z) (g : Gl W) (hl : Lr.length ≤ 900000) (hn : n ≤ 1000) (P : List (Int × Int)) (hP : ∀ q ∈ P, I64 q.1 ∧ I64 q.2) (hPl : P.length ≤ 1000000) (vv ov : Value) (lo2 hi2 : Nat)
    (hv : ∀ z', MovesN W F z z' → ∃ lo hi, Sl lo hi z' vv ((List.range n).map fun i => Value.pointer (some ⟨p.vbs i, 0, none⟩))) (ho : ∀ z', MovesN W F z z' → SlS 2 lo2 hi2 z' ov (P.map pairL)) :
    Calls Tryd.prog 14 #[vv, ov] z fun e z' => e = .returned (.tuple #[.int .i64 ((spreadL Lr key n P 0 L).1.1 : Nat), sgnV (spreadL Lr key n P 0 L).1.2.1, sgnV (spreadL Lr key n P 0 L).1.2.2.1, .bool (spreadL Lr key n P 0 L).1.2.2.2]) ∧
      Fam W p m n key Lr bs (spreadL Lr key n P 0 L).2 F z' ∧ MovesN W F z z' := by
  have hgb := (h.gl g).big
  have hWz := h.nw0.size
  have n1 := nw_alloc z zObj
  have k1 := heap_new z zObj
  have s1 : (z.alloc zObj).heap.size = z.heap.size + 1 := by simp
  have n2 := nw_alloc (z.alloc zObj) zObj
  have k2 := heap_new (z.alloc zObj) zObj
  replace k1 := n2.keep k1
  rw [s1] at k2
  have s2 : ((z.alloc zObj).alloc zObj).heap.size = z.heap.size + 2 := by simp
  have u2 := n1.trans n2
  generalize hW0 : (z.alloc zObj).alloc zObj = z1 at *
  have HW0 : Hid ((z.alloc (.cells #[.int .i64 0, .string ⟨#[]⟩, .int .i64 0] tSigned)).alloc (.cells #[.int .i64 0, .string ⟨#[]⟩, .int .i64 0] tSigned) = z1) := hW0
  have h1 := h.keep (F' := fun j => F j ∨ j = z.heap.size ∨ j = z.heap.size + 1) u2 (fun j hj => hj.imp id (fun e => by omega))
  obtain ⟨F5, h1, f5⟩ : ∃ F5 : Nat → Prop, Fam W p m n key Lr bs L F5 z1 ∧ (∀ j, F j → F5 j) ∧ F5 z.heap.size ∧ F5 (z.heap.size + 1) := ⟨_, h1, fun j e => Or.inl e, Or.inr (Or.inl rfl), Or.inr (Or.inr rfl)⟩
  have K12 := Lib.hid (And.intro k1 (And.intro k2 u2))
  have H1 := Lib.hid h1
  have HF := Lib.hid f5
  have HZ := Lib.hid (And.intro hWz s2)
  have HMv : Hid (∀ z', MovesN W F5 z1 z' → MovesN W F z z') := fun z' mv => (Nw.upd _ u2).trans (mv.mono (fun k _ e => ⟨fun f => e.1 (f5.1 k f), e.2⟩))
  have Hv := Lib.hid hv
  have Ho := Lib.hid ho
  have HP := Lib.hid hP
  obtain ⟨av, cv, rfl, _⟩ := ptr_cells (hv z (Upd.refl _ _))
  obtain ⟨ao, co, rfl, _, _⟩ := pair_cells (ho z (Upd.refl _ _))
  have hPl1 : (P.length : Int) ≤ 1000000 := by omega
  have hn1 : (n : Int) ≤ 1000 := by omega
  have hI0 : Hid (∃ L', Fam W p m n key Lr bs L' F5 z1 ∧ MovesN W F5 z1 z1 ∧ spreadL Lr key n P 0 L = spreadL Lr key n (P.drop 0) 0 L') := ⟨L, h1, Upd.refl _ _, rfl⟩
  clear h n1 k1 s1 n2 k2 u2 h1 hW0 f5 hv ho hP
  go_enter Tryd.func14, Tryd.ntmps14
  go_wp2_with fail
  rw [HW0.out]
  go_wp2_with fail
  go_loopw [17] (fun iv wr => ∃ j : Nat, j ≤ P.length ∧ iv = .int .i64 j ∧ Hid (∃ L', Fam W p m n key Lr bs L' F5 wr ∧ MovesN W F5 z1 wr ∧ spreadL Lr key n P 0 L = spreadL Lr key n (P.drop j) j L')) (fun iv _ => P.length - (intOf iv).toNat)
  case atStart => exact ⟨0, Nat.zero_le _, rfl, hI0.out⟩
  case round =>
    obtain ⟨j, hj, rfl, HI⟩ := hrel
    obtain ⟨L', fa, mv, hsp⟩ := HI.out
    have FA := Lib.hid fa
    have MV := Lib.hid mv
    have HS := Lib.hid hsp
    clear fa mv hsp HI
    by_cases hlt : j < P.length
    · obtain ⟨a', cap', ev, _, hcells⟩ := pair_cells (Ho.out wr (HMv.out _ MV.out))
      simp only [Value.slice.injEq, true_and] at ev
      obtain ⟨rfl, rfl⟩ := ev
      rcases hcells with hnil | ⟨b, off, rfl, _, _, hc⟩
      · rw [hnil] at hlt; simp at hlt
      obtain ⟨d0, d1⟩ := hc j hlt
      have hq := HP.out _ (List.getElem_mem hlt)
      have hdr : P.drop j = P[j] :: P.drop (j + 1) := List.drop_eq_getElem_cons hlt
      have hS2 := HS.out
      rw [hdr] at hS2
      have HS2 := Lib.hid hS2
      clear hc hdr hS2 HS
      generalize P[j] = q at *
      obtain ⟨qa, qb⟩ := q
      dsimp only at d0 d1 hq
      have hj1 : (j : Int) ≤ 1000000 := by omega
      have tb0 := heap_new wr (.cells #[.int .i64 qa, .int .i64 qb] 73)
      have l0 : ∀ i : Later (wr.alloc (.cells #[.int .i64 qa, .int .i64 qb] 73)), i.1.cell? ⟨wr.heap.size, 0, none⟩ = some (.int .i64 qa) := fun i => by rw [cells_cell (Nw.keep i.nw tb0)]; rfl
      have l1 : ∀ i : Later (wr.alloc (.cells #[.int .i64 qa, .int .i64 qb] 73)), i.1.cell? ⟨wr.heap.size, 1, none⟩ = some (.int .i64 qb) := fun i => by rw [cells_cell (Nw.keep i.nw tb0)]; rfl
      go_wp2_with fail
      clear d0 d1 tb0
      refine wp_region_nw (by kernel_rfl) (by kernel_rfl) ?_
      repeat (go_big_quiet_step ((fail)))
      refine wpQuiet_nil ?_
      intro w3 u3
      replace u3 := later_out u3
      have U3 := Lib.hid ((nw_alloc wr (.cells #[.int .i64 qa, .int .i64 qb] 73)).trans u3)
      clear l0 l1 u3
      by_cases hmin : min qa qb < 0
      · have hz : Hid (∃ L', Fam W p m n key Lr bs L' F5 w3 ∧ MovesN W F5 z1 w3 ∧ spreadL Lr key n P 0 L = spreadL Lr key n (P.drop (j + 1)) (j + 1) L') := by
          refine ⟨L', FA.out.nw U3.out, MV.out.trans (Nw.upd _ U3.out), ?_⟩
          rw [HS2.out]
          conv => lhs; unfold spreadL
          rw [if_pos (Or.inl hmin)]
        go_wp2_with fail
        go_roundw
        case rel => exact ⟨j + 1, by omega, by go_num, hz.out⟩
        case measure => simp [intOf]; omega
      by_cases hmax : (n : Int) ≤ max qa qb
      · have hz : Hid (∃ L', Fam W p m n key Lr bs L' F5 w3 ∧ MovesN W F5 z1 w3 ∧ spreadL Lr key n P 0 L = spreadL Lr key n (P.drop (j + 1)) (j + 1) L') := by
          refine ⟨L', FA.out.nw U3.out, MV.out.trans (Nw.upd _ U3.out), ?_⟩
          rw [HS2.out]
          conv => lhs; unfold spreadL
          rw [if_pos (Or.inr hmax)]
        go_wp2_with fail
        go_roundw
        case rel => exact ⟨j + 1, by omega, by go_num, hz.out⟩
        case measure => simp [intOf]; omega
      have hS3 := HS2.out
      conv at hS3 => rhs; unfold spreadL
      rw [if_neg (by dsimp only; omega)] at hS3
      obtain ⟨ia, rfl⟩ : ∃ x : Nat, qa = x := ⟨qa.toNat, by omega⟩
      obtain ⟨ib, rfl⟩ : ∃ x : Nat, qb = x := ⟨qb.toNat, by omega⟩
      dsimp only at hS3
      rw [Int.toNat_natCast, Int.toNat_natCast] at hS3
      have hia : ia < n := by omega
      have hib : ib < n := by omega
      have hia1 : (ia : Int) < n := by omega
      have hib1 : (ib : Int) < n := by omega
      have HS3 := Lib.hid hS3
      have hm := meet_later (FA.out.nw U3.out) g hl hia hib
      obtain ⟨a2, cap2, ev, hpc⟩ := ptr_cells (Hv.out w3 (HMv.out _ (MV.out.trans (Nw.upd _ U3.out))))
      simp only [Value.slice.injEq, true_and] at ev
      obtain ⟨rfl, rfl⟩ := ev
      rcases hpc with hn0 | ⟨vb0, vo0, rfl, hpc⟩
      · omega
      have q1 := hpc ia hia
      have q2 := hpc ib hib
      have HQ : Hid (∀ z', MovesN W F5 w3 z' → z'.cell? ⟨vb0, vo0 + ia, none⟩ = some (.pointer (some ⟨p.vbs ia, 0, none⟩)) ∧ z'.cell? ⟨vb0, vo0 + ib, none⟩ = some (.pointer (some ⟨p.vbs ib, 0, none⟩))) := fun z' u => by
        obtain ⟨a3, cap3, ev, hpc3⟩ := ptr_cells (Hv.out z' (HMv.out _ ((MV.out.trans (Nw.upd _ U3.out)).trans u)))
        simp only [Value.slice.injEq, true_and] at ev
        obtain ⟨rfl, rfl⟩ := ev
        rcases hpc3 with hn0 | ⟨vb1, vo1, e1, hpc3⟩
        · omega
        · obtain ⟨rfl, rfl⟩ : vb0 = vb1 ∧ vo0 = vo1 := by simpa using e1
          exact ⟨hpc3 ia hia, hpc3 ib hib⟩
      generalize meetL Lr key L' ia ib = mt at *
      obtain ⟨⟨ms, mt2, mb⟩, ML⟩ := mt
      dsimp only [sgnV] at hm HS3
      have hgA : nG ≤ w3.heap.size := (FA.out.nw U3.out).gl g |>.big
      have HW3 : Hid (W.heap.size ≤ w3.heap.size) := (FA.out.nw U3.out).nw0.size
      have hgB : nG ≤ w3.heap.size + 1 := Nat.le_succ_of_le hgA
      have d3 := (Upd.refl (fun _ => False) w3).drew
      have nu1 : Nw w3 (w3.alloc zObj).drew := (nw_alloc w3 zObj).drew
      have nb1 : (w3.alloc zObj).drew.heap[w3.heap.size]? = some zObj := Nw.keep (Upd.refl _ (w3.alloc zObj)).drew (heap_new w3 zObj)
      have ns : (w3.alloc zObj).heap.size = w3.heap.size + 1 := by simp
      have nu2 : Nw w3 ((w3.alloc zObj).alloc zObj).drew := ((nw_alloc w3 zObj).trans (nw_alloc (w3.alloc zObj) zObj)).drew
      have nb3 : ((w3.alloc zObj).alloc zObj).drew.heap[w3.heap.size]? = some zObj := Nw.keep (nw_alloc (w3.alloc zObj) zObj).drew (heap_new w3 zObj)
      have nb2 : ((w3.alloc zObj).alloc zObj).drew.heap[w3.heap.size + 1]? = some zObj := by
        have := heap_new (w3.alloc zObj) zObj
        rw [ns] at this
        exact Nw.keep (Upd.refl _ ((w3.alloc zObj).alloc zObj)).drew this
      have HM0 := Lib.hid (hm w3.drew d3)
      have HM1 := Lib.hid ((hm (w3.alloc zObj).drew nu1).mono (R' := fun e y => e = .returned (.tuple #[.agg #[.int .i64 ms.key, .string ⟨ms.text.toArray⟩, .int .i64 ms.mark], .agg #[.int .i64 mt2.key, .string ⟨mt2.text.toArray⟩, .int .i64 mt2.mark], .bool mb]) ∧ (Fam W p m n key Lr bs ML (fun j => F5 j ∨ j = w3.heap.size) y ∧ MovesN W F5 w3 y) ∧ y.heap[w3.heap.size]? = some (.cells #[.int .i64 0, .string ⟨#[]⟩, .int .i64 0] tSigned (0, 0)) ∧ BoxAt y w3.heap.size ∧ BoxAll y w3.heap.size)
        fun e y ⟨e1, e2, e3, e4⟩ => ⟨e1, ⟨e2.less (fun k hk => hk.imp id (fun e => by have : (w3.alloc zObj).drew.heap.size = w3.heap.size + 1 := ns; omega)), e4⟩, meet_boxes e3 (Nat.le_refl _) nb1, box_at (meet_boxes e3 (Nat.le_refl _) nb1), box_all (meet_boxes e3 (Nat.le_refl _) nb1)⟩)
      have HM2 := Lib.hid ((hm ((w3.alloc zObj).alloc zObj).drew nu2).mono (R' := fun e y => e = .returned (.tuple #[.agg #[.int .i64 ms.key, .string ⟨ms.text.toArray⟩, .int .i64 ms.mark], .agg #[.int .i64 mt2.key, .string ⟨mt2.text.toArray⟩, .int .i64 mt2.mark], .bool mb]) ∧ (Fam W p m n key Lr bs ML (fun j => F5 j ∨ j = w3.heap.size ∨ j = w3.heap.size + 1) y ∧ MovesN W F5 w3 y) ∧ (y.heap[w3.heap.size]? = some (.cells #[.int .i64 0, .string ⟨#[]⟩, .int .i64 0] tSigned (0, 0)) ∧ BoxAt y w3.heap.size) ∧ y.heap[w3.heap.size + 1]? = some (.cells #[.int .i64 0, .string ⟨#[]⟩, .int .i64 0] tSigned (0, 0)) ∧ BoxAt y (w3.heap.size + 1))
        fun e y ⟨e1, e2, e3, e4⟩ => ⟨e1, ⟨e2.less (fun k hk => hk.imp id (fun e => by have : ((w3.alloc zObj).alloc zObj).drew.heap.size = w3.heap.size + 2 := (by show ((w3.alloc zObj).alloc zObj).heap.size = _; simp); omega)), e4⟩, ⟨meet_boxes e3 (Nat.le_refl _) nb3, box_at (meet_boxes e3 (Nat.le_refl _) nb3)⟩, meet_boxes e3 (Nat.le_succ _) nb2, box_at (meet_boxes e3 (Nat.le_succ _) nb2)⟩)
      clear hm d3 nb1 nu1 nb2 nu2 ns nb3
      clear hS3 HS2 hpc hmin hmax
      go_upto_region 6 with fail
      go_cut [12, 13, 14] from 38 to 50 (fun t12 t13 t14 wx => ∃ b1 b2 : Nat, t12 = .pointer (some ⟨b1, 0, none⟩) ∧ t13 = .pointer (some ⟨b2, 0, none⟩) ∧ t14 = .bool mb ∧ Hid (SprR W p m n key Lr bs F5 ML ms mt2 w3 wx b1 b2))
      case first =>
       go_region_held3 (fun z' => z'.cell? ⟨vb0, vo0 + ia, none⟩ = some (.pointer (some ⟨p.vbs ia, 0, none⟩)) ∧ z'.cell? ⟨vb0, vo0 + ib, none⟩ = some (.pointer (some ⟨p.vbs ib, 0, none⟩))) (with_reducible first | exact HQ.out _ (by repeat (first | assumption | exact Upd.refl _ _ | refine Upd.drew ?_ | refine Upd.alloc ?_ _ | refine Upd.new ?_ (Nat.le_refl _) hgA _ _ | refine Upd.new ?_ (Nat.le_succ _) hgB _ _ | refine Upd.new ?_ v5.size (Nat.le_trans hgA v5.size) _ _))) (first | (go_at_call 25; first | ((with_reducible refine HM0.out.mono ?_); rintro _ w5 ⟨rfl, fa5, mv5, v5⟩) | ((with_reducible refine HM1.out.mono ?_); rintro _ w5 ⟨rfl, ⟨fa5, v5⟩, kb1, ⟨⟨_, _, _⟩, _, _, _⟩, ⟨_, _, _⟩, _, _, _, _, _, _⟩) | ((with_reducible refine HM2.out.mono ?_); rintro _ w5 ⟨rfl, ⟨fa5, v5⟩, ⟨kb1, ⟨_, _, _⟩, _, _, _⟩, kb2, ⟨_, _, _⟩, _, _, _⟩)))
       all_goals go_wp2_with fail
       all_goals go_meet
       · exact ⟨_, _, rfl, rfl, rfl, spr_1 ms mt2 (fa5.less (fun k hk => Or.inl hk)) v5⟩
       · exact ⟨_, _, rfl, rfl, rfl, (spr_1 mt2 ms (fa5.less (fun k hk => Or.inl hk)) v5).flip⟩
       · exact ⟨_, _, rfl, rfl, rfl, spr_2 ms mt2 HW3.out hgA fa5 (fun k hk => Or.inl hk) (Or.inr rfl) v5 kb1⟩
       · exact ⟨_, _, rfl, rfl, rfl, spr_3 ms mt2 HW3.out hgA fa5 (fun k hk => Or.inl hk) (Or.inr (Or.inl rfl)) (Or.inr (Or.inr rfl)) (Nat.le_refl _) (Nat.le_succ _) (by omega) v5 kb1 kb2⟩
       · exact ⟨_, _, rfl, rfl, rfl, (spr_2 mt2 ms HW3.out hgA fa5 (fun k hk => Or.inl hk) (Or.inr rfl) v5 kb1).flip⟩
       · exact ⟨_, _, rfl, rfl, rfl, spr_3 ms mt2 HW3.out hgA fa5 (fun k hk => Or.inl hk) (Or.inr (Or.inr rfl)) (Or.inr (Or.inl rfl)) (Nat.le_succ _) (Nat.le_refl _) (by omega) v5 kb2 kb1⟩
      case rest =>
        obtain ⟨b1, b2, rfl, rfl, rfl, HC⟩ := hcut
        have MVc := Lib.hid ((MV.out.trans (Nw.upd _ U3.out)).trans HC.out.2.2.2.2.2.2)
        cases mb with
        | false =>
          have hz : Hid (∃ L', Fam W p m n key Lr bs L' F5 wc ∧ MovesN W F5 z1 wc ∧ spreadL Lr key n P 0 L = spreadL Lr key n (P.drop (j + 1)) (j + 1) L') := ⟨ML, HC.out.2.2.2.2.2.1, MVc.out, by rw [HS3.out, if_neg (by decide)]⟩
          go_wp2_with fail
          go_roundw
          case rel => exact ⟨j + 1, by omega, by go_num, hz.out⟩
          case measure => simp [intOf]; omega
        | true =>
          have Hsp : Hid (spreadL Lr key n P 0 L = ((j, ms, mt2, true), ML)) := by show _ = _; rw [HS3.out, if_pos rfl]
          have kb1 := MVc.out.keep K12.out.1 (fun e => e.1 HF.out.2.1)
          have kb2 := MVc.out.keep K12.out.2.1 (fun e => e.1 HF.out.2.2)
          have ks := HC.out.2.2.2.1
          have kt := HC.out.2.2.2.2.1
          have b00 := cells_frozen kb1 0
          have b01 := cells_frozen kb1 1
          have b02 := cells_frozen kb1 2
          have b10 := cells_frozen kb2 0
          have b11 := cells_frozen kb2 1
          have b12 := cells_frozen kb2 2
          obtain ⟨_, _, _⟩ := cell3 kb1
          obtain ⟨_, _, _⟩ := cell3 kb2
          obtain ⟨_, _, _⟩ := cell3 ks
          obtain ⟨_, _, _⟩ := cell3 kt
          have hz0 : z.heap.size < z.heap.size + 1 := Nat.lt_succ_self _
          have h31 : z.heap.size + 2 ≤ w3.heap.size := by have a := MV.out.size; have b := U3.out.size; have c := HZ.out.2; omega
          have h32 := HC.out.1
          have h33 := HC.out.2.1
          have HSc : Hid (∀ z', Upd (fun j => j = z.heap.size ∨ j = z.heap.size + 1) wc z' → (z'.cell? ⟨b1, 0, none⟩ = some (.int .i64 ms.key) ∧ z'.cell? ⟨b1, 1, none⟩ = some (.string ⟨ms.text.toArray⟩) ∧ z'.cell? ⟨b1, 2, none⟩ = some (.int .i64 ms.mark)) ∧
              z'.cell? ⟨b2, 0, none⟩ = some (.int .i64 mt2.key) ∧ z'.cell? ⟨b2, 1, none⟩ = some (.string ⟨mt2.text.toArray⟩) ∧ z'.cell? ⟨b2, 2, none⟩ = some (.int .i64 mt2.mark)) := fun z' u => by
            exact ⟨cell3 (u.keep ks (fun e => by omega)), cell3 (u.keep kt (fun e => by omega))⟩
          have HGz : Hid (nG ≤ z.heap.size ∧ nG ≤ z.heap.size + 1) := ⟨hgb, by omega⟩
          obtain ⟨x1, x2, x3, x4⟩ := meet_fin (p := p) (x0 := .int .i64 ms.key) (x1 := .string ⟨ms.text.toArray⟩) (x2 := .int .i64 ms.mark) (y0 := .int .i64 mt2.key) (y1 := .string ⟨mt2.text.toArray⟩) (y2 := .int .i64 mt2.mark) HZ.out.1 hgb (Nat.le_refl _) (Nat.le_succ _) (by omega) HC.out.2.2.2.2.2.1 MVc.out K12.out.2.2 HF.out.1 HF.out.2.1 HF.out.2.2 kb1 kb2 rfl
          have zd := (Upd.refl (fun _ => False) ((((((wc.setCell ⟨z.heap.size, 0, none⟩ (.int .i64 ms.key)).setCell ⟨z.heap.size, 1, none⟩ (.string ⟨ms.text.toArray⟩)).setCell ⟨z.heap.size, 2, none⟩ (.int .i64 ms.mark)).setCell ⟨z.heap.size + 1, 0, none⟩ (.int .i64 mt2.key)).setCell ⟨z.heap.size + 1, 1, none⟩ (.string ⟨mt2.text.toArray⟩)).setCell ⟨z.heap.size + 1, 2, none⟩ (.int .i64 mt2.mark))).drew
          have ZF := Lib.hid (And.intro (Nw.keep zd x1) (And.intro (Nw.keep zd x2) (And.intro (x3.nw zd) (x4.trans (Nw.upd _ zd)))))
          clear x1 x2 x3 x4 zd kb1 kb2 ks kt h31 h32 h33
          go_wp2_with fail
          go_region_held3 (fun z' => (z'.cell? ⟨b1, 0, none⟩ = some (.int .i64 ms.key) ∧ z'.cell? ⟨b1, 1, none⟩ = some (.string ⟨ms.text.toArray⟩) ∧ z'.cell? ⟨b1, 2, none⟩ = some (.int .i64 ms.mark)) ∧ z'.cell? ⟨b2, 0, none⟩ = some (.int .i64 mt2.key) ∧ z'.cell? ⟨b2, 1, none⟩ = some (.string ⟨mt2.text.toArray⟩) ∧ z'.cell? ⟨b2, 2, none⟩ = some (.int .i64 mt2.mark)) (with_reducible first | exact HSc.out _ (by repeat (first | exact Upd.refl _ _ | refine Upd.drew ?_ | (refine Upd.setIn ?_ (Or.inl rfl) HGz.out.1 _ _) | (refine Upd.setIn ?_ (Or.inr rfl) HGz.out.2 _ _)))) (fail)
          go_wp2_with fail
          (try simp only [Exit.inBlock, Exit.then])
          with_reducible refine spread_out ZF.out.1 ZF.out.2.1 ?_ ?_ ?_ ?_
          · rfl
          · rfl
          · rfl
          · rw [Hsp.out]
            exact ⟨rfl, ZF.out.2.2.1, ZF.out.2.2.2⟩
    · obtain rfl : j = P.length := by omega
      have Hsp : Hid (spreadL Lr key n P 0 L = ((P.length, Bk.noSgn, Bk.noSgn, false), L')) := by
        show _ = _
        rw [HS.out, List.drop_length]
        rfl
      have kb1 := MV.out.keep K12.out.1 (fun e => e.1 HF.out.2.1)
      have kb2 := MV.out.keep K12.out.2.1 (fun e => e.1 HF.out.2.2)
      have b00 := cells_frozen kb1 0
      have b01 := cells_frozen kb1 1
      have b02 := cells_frozen kb1 2
      have b10 := cells_frozen kb2 0
      have b11 := cells_frozen kb2 1
      have b12 := cells_frozen kb2 2
      obtain ⟨_, _, _⟩ := cell3 kb1
      obtain ⟨_, _, _⟩ := cell3 kb2
      have hz0 : z.heap.size < z.heap.size + 1 := Nat.lt_succ_self _
      obtain ⟨x1, x2, x3, x4⟩ := meet_fin (p := p) (x0 := .int .i64 0) (x1 := .string ⟨#[]⟩) (x2 := .int .i64 0) (y0 := .int .i64 0) (y1 := .string ⟨#[]⟩) (y2 := .int .i64 0) HZ.out.1 hgb (Nat.le_refl _) (Nat.le_succ _) (by omega) FA.out MV.out K12.out.2.2 HF.out.1 HF.out.2.1 HF.out.2.2 kb1 kb2 rfl
      have ZF := Lib.hid (And.intro x1 (And.intro x2 (And.intro x3 x4)))
      clear x1 x2 x3 x4 kb1 kb2 HS
      go_wp2_with fail
      (try simp only [Exit.inBlock, Exit.then])
      with_reducible refine spread_out ZF.out.1 ZF.out.2.1 ?_ ?_ ?_ ?_
      · rfl
      · rfl
      · rfl
      · rw [Hsp.out]
        exact ⟨rfl, ZF.out.2.2.1, ZF.out.2.2.2⟩
end
end Go.Proofs.YtkhdnfmnnapjlaaDoor
