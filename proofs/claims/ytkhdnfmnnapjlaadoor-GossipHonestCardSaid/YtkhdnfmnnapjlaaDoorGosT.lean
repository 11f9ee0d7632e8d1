/- The contracts of the statement's place, views and asked (chapter 09). -/
import Derived.Test.YtkhdnfmnnapjlaaDoorGosS
namespace Go.Proofs.YtkhdnfmnnapjlaaDoor
open Go.RowKit
set_option linter.unusedVariables false
set_option linter.unusedSimpArgs false
attribute [local irreducible] Calls

theorem rem_place9 (n : Int) (m : Nat) (hm : 0 < m) (hm2 : m ≤ 1000000) : ∃ j : Nat, j < m ∧ (wrap64 (n.tmod (m : Int) + (m : Int))).tmod (m : Int) = (j : Int) := by
  have hp : (0 : Int) < (m : Int) := by omega
  have h1 : n.tmod (m : Int) < (m : Int) := Int.tmod_lt_of_pos n hp
  have h2 : -(m : Int) < n.tmod (m : Int) := by
    by_cases hn : 0 ≤ n
    · have := Int.tmod_nonneg (m : Int) hn; omega
    · have h3 := Int.tmod_lt_of_pos (-n) hp
      rw [Int.neg_tmod] at h3
      omega
  generalize n.tmod (m : Int) = x at *
  have hw : wrap64 (x + (m : Int)) = x + (m : Int) := by unfold wrap64; omega
  rw [hw, Int.tmod_eq_emod_of_nonneg (by omega)]
  have h4 := Int.emod_nonneg (x + (m : Int)) (b := (m : Int)) (by omega)
  have h5 := Int.emod_lt_of_pos (x + (m : Int)) hp
  exact ⟨((x + (m : Int)) % (m : Int)).toNat, by omega, by omega⟩
theorem place_w (k : Int) (hk : I64 k) : ∃ j : Nat, j < 3 ∧ ∀ w, Calls Tryd.prog 12 #[.int .i64 k, .int .i64 3] w fun e w' => e = .returned (.int .i64 j) ∧ Nw w w' := by
  obtain ⟨j, hj, he⟩ := rem_place9 k 3 (by omega) (by omega)
  refine ⟨j, hj, fun w => ?_⟩
  have He : Hid ((wrap64 (k.tmod 3 + 3)).tmod 3 = (j : Int)) := he
  clear he
  go_enter Tryd.func12, Tryd.ntmps12
  go_wp2_with fail
  go_ret
  refine ⟨?_, Upd.refl _ _⟩
  rw [← He.out]
  have h1 : k.tmod 3 < 3 := Int.tmod_lt_of_pos k (by omega)
  have h2 : -3 < k.tmod 3 := by
    by_cases hn : 0 ≤ k
    · have := Int.tmod_nonneg 3 hn; omega
    · have h3 := Int.tmod_lt_of_pos (-k) (show (0 : Int) < 3 by omega)
      rw [Int.neg_tmod] at h3
      omega
  have hw : wrap64 (k.tmod 3 + 3) = k.tmod 3 + 3 := by unfold wrap64; omega
  rw [hw]
  rfl
abbrev tPV : TypeId := 43
theorem infoPV : (Tryd.prog.info? tPV).map (fun i => (i.zero, i.size, i.bytes)) = some (some (.pointer none), 1, 8) := by kernel_rfl
def ptrs (vbs : Nat → Nat) (n : Nat) : List Value := (List.range n).map fun i => Value.pointer (some ⟨vbs i, 0, none⟩)
theorem ptrs_succ (vbs : Nat → Nat) (n b : Nat) : ptrs (fun k => if k = n then b else vbs k) (n + 1) = ptrs vbs n ++ [Value.pointer (some ⟨b, 0, none⟩)] := by
  unfold ptrs
  rw [List.range_succ, List.map_append]
  congr 1
  · refine List.map_congr_left fun i hi => ?_
    have := List.mem_range.1 hi
    dsimp only
    rw [if_neg (show ¬ i = n by omega)]
  · simp
theorem setL_nil (n : Nat) : setL (fun _ => []) n [] = fun _ => [] := by
  funext k
  unfold setL
  split <;> rfl
section
variable {W : World} {p : VNR} {m n : Nat} {key : Int} {Lr : List Bk.Seal} {bs : Nat → Bk.Book} {L : VL} {F : Nat → Prop} {z : World}
def ViewsI (W : World) (p : VNR) (m : Nat) (key : Int) (Lr : List Bk.Seal) (bs : Nat → Bk.Book) (F : Nat → Prop) (z : World) (v : Value) (k : Nat) (wr : World) : Prop :=
  ∃ vbs, Fam W ⟨p.rb, p.bbs, vbs⟩ m k key Lr bs (fun _ => []) (fun j => F j ∨ v.ownBlock = some j) wr ∧ wr.ownsRow z.heap.size tPV 1 v k (ptrs vbs k) ∧ Nw z wr
set_option maxHeartbeats 2000000 in
set_option maxRecDepth 100000 in
theorem views_w (h : Fam W p m 0 key Lr bs (fun _ => []) F z) (g : Gl W) (hk : Bk.isKey key = true) :
    Calls Tryd.prog 9 #[.pointer (some ⟨p.rb, 0, none⟩), .slice none 0 0, .slice none 0 0, .int .i64 3, .int .i64 key] z fun e z' => ∃ v, e = .returned v ∧ ViewsI W p m key Lr bs F z v 3 z' := by
  have hgb := (h.gl g).big
  have hgW := g.big
  have hWz := h.nw0.size
  have hI0 : Hid (ViewsI W p m key Lr bs F z (.slice none 0 0) 0 z) := ⟨p.vbs, h.less (fun k hk => hk.elim id (fun e => by cases e)), World.ownsRow_nil _ _ _ _, Upd.refl _ _⟩
  have Hk := Lib.hid hk
  clear h hk
  go_enter Tryd.func9, Tryd.ntmps9
  go_wp2_with fail
  go_loopw [11, 12] (fun v iv wr => ∃ k : Nat, k ≤ 3 ∧ iv = .int .i64 k ∧ Hid (ViewsI W p m key Lr bs F z v k wr)) (fun _ iv _ => 3 - (intOf iv).toNat)
  case atStart => exact ⟨0, Nat.zero_le _, rfl, hI0.out⟩
  case round =>
    obtain ⟨k, hk3, rfl, HI⟩ := hrel
    obtain ⟨vbs, fa, ow, nz⟩ := HI.out
    obtain ⟨av, cv, rfl⟩ := own_slG ow
    have FA := Lib.hid fa
    have OW := Lib.hid ow
    have NZ := Lib.hid nz
    by_cases hlt : k < 3
    · have hnv := Lib.hid (new_v p.rb key wr (fa.gl g))
      clear fa ow nz HI
      have hlt1 : (k : Int) < 3 := by omega
      go_wp2_with fail
      (with_reducible refine (hnv.out).mono ?_)
      rintro _ w1 hn
      rcases hn with ⟨_, r, rfl, hr, u1⟩ | ⟨hno, _⟩
      rotate_left
      · rw [Hk.out] at hno; cases hno
      have fa1 := FA.out.oneView hgW u1 hr
      rw [setL_nil] at fa1
      have FA1 := Lib.hid fa1
      have OW1 := Lib.hid (owns_upd' OW.out u1 (fun _ _ e => e))
      have hz1 : z.heap.size ≤ w1.heap.size := Nat.le_trans NZ.out.size u1.size
      have NZ1 := Lib.hid (NZ.out.trans u1)
      clear fa1 hr u1 hnv
      go_wp2_with (at_builtin; refine wpList_appL rfl _ _ 33 rfl z.heap.size tPV _ 1 8 Tryd.underlying33 infoPV rfl (by decide) _ _ _ rfl OW1.out [Value.pointer (some ⟨r.vb, 0, none⟩)] rfl rfl ?c1 ?c2 ?c3 hz1 hgb ?_)
      case c1 => intro u hu; rw [List.mem_singleton.1 hu]; rfl
      case c2 => unfold maxLen; omega
      case c3 => omega
      intro v' w2 o2 u2 hob
      have hz : Hid (ViewsI W p m key Lr bs F z v' (k + 1) w2) := by
        refine ⟨_, FA1.out.upd_keep u2 (fun j hj => Or.inl ⟨Or.inr hj, by have := (OW1.out.lt j hj).1; omega⟩) (fun j hj => ?_), ?_, NZ1.out.trans' u2 (fun j hj e => by have := (OW1.out.lt j e).1; omega)⟩
        · rcases hj with hj | hj
          · exact Or.inl (Or.inl hj)
          · rcases hob j hj with e | e
            · exact Or.inl (Or.inr e)
            · exact Or.inr ⟨e, (o2.lt j hj).2⟩
        · rw [ptrs_succ]; exact o2
      clear o2 u2 hob
      go_wp2_with fail
      go_roundw
      case rel => exact ⟨k + 1, by omega, by go_num, hz.out⟩
      case measure => simp [intOf]; omega
    · obtain rfl : k = 3 := by omega
      clear fa ow nz
      rename World => wq
      go_wp2_with fail
      go_loopw [14] (fun iv wr => iv = .int .i64 0 ∧ wr = wq) (fun iv _ => 0)
      case atStart => exact ⟨rfl, rfl⟩
      case round =>
        obtain ⟨rfl, rfl⟩ := hrel
        go_wp2_with fail
        go_ret
        exact ⟨_, rfl, HI.out⟩
theorem Fam.books {bs' : Nat → Bk.Book} (h : Fam W p m n key Lr bs L F z) (e : ∀ i, i < m → bs i = bs' i) : Fam W p m n key Lr bs' L F z := by
  refine ⟨h.1.same (fun i hi => ?_), h.2⟩
  unfold famC
  split
  · rfl
  · split
    · rw [e _ (by omega)]
    · rfl
theorem Fam.oneB {b b' : Bk.Book} (h : Fam W p 1 n key Lr (setB (fun _ => b) 0 b') L F z) : Fam W p 1 n key Lr (fun _ => b') L F z := h.books fun i hi => by
  obtain rfl : i = 0 := by omega
  rw [setB_self]
theorem asked_out {w : World} {b1 : Nat} {a : Act} {v0 v1 v2 : Value} {T : TypeId} {fz : Nat × Nat} {R : Ending → World → Prop} (h : w.heap[b1]? = some (.cells #[v0, v1, v2] T fz))
    (ht : a.tmps.getD 4 undef = .pointer (some ⟨b1, 0, none⟩)) (hd : a.defers = []) (hR : R (.returned (.tuple #[.agg #[v0, v1, v2], a.tmps.getD 5 undef])) w) : bodyPost Tryd.prog Tryd.f10 R .ret a w := by
  refine bodyPost_ret ?_ hd hR
  obtain ⟨tmps, ds⟩ := a
  dsimp only at ht ⊢
  have c0 : w.cell? ⟨b1, 0, none⟩ = some v0 := by rw [cells_cell h]; rfl
  have c1 : w.cell? ⟨b1, 1, none⟩ = some v1 := by rw [cells_cell h]; rfl
  have c2 : w.cell? ⟨b1, 2, none⟩ = some v2 := by rw [cells_cell h]; rfl
  clear h hR hd
  have ht2 : tmps[4]?.getD undef = .pointer (some ⟨b1, 0, none⟩) := by simpa using ht
  clear ht
  simp [results, Tryd.results10, go_sem, ht2, c0, c1, c2]
/-- The result's box is turned at the end; the other box may have been turned ahead of it. -/
theorem asked_fin {z1 w5 : World} {F1 : Nat → Prop} {b4 b6 : Nat} {y : Bk.Sgn} {Lr' : List Bk.Seal} {bs' : Nat → Bk.Book} {v0 v1 v2 u0 u9 u2 : Value} (hW : W.heap.size ≤ z.heap.size) (hg : nG ≤ z.heap.size) (h4 : z.heap.size ≤ b4) (h6 : z.heap.size ≤ b6) (hne : b4 ≠ b6) (fa : Fam W p m n key Lr' bs' L F1 w5) (u1 : Nw z z1) (mv : MovesN W F1 z1 w5)
    (hF : ∀ j, F j → F1 j) (f4 : F1 b4) (f6 : F1 b6) (k4 : w5.heap[b4]? = some (.cells #[v0, v1, v2] tSigned (0, 0))) (k6 : w5.heap[b6]? = some (.cells #[u0, u9, u2] tSigned (0, 0))) :
    ((S3 (S3 w5 b6 y) b4 y).heap[b4]? = some (sObj y) ∧ Fam W p m n key Lr' bs' L F (S3 (S3 w5 b6 y) b4 y) ∧ MovesN W F z (S3 (S3 w5 b6 y) b4 y)) ∧ (S3 w5 b4 y).heap[b4]? = some (sObj y) ∧ Fam W p m n key Lr' bs' L F (S3 w5 b4 y) ∧ MovesN W F z (S3 w5 b4 y) := by
  have m5 : MovesN W F z w5 := (Nw.upd _ u1).trans (mv.mono (fun k _ e => ⟨fun f => e.1 (hF k f), e.2⟩))
  obtain ⟨f1, q1, p1⟩ := spr_set y fa f6 (by omega) (by omega) k6
  obtain ⟨f2, q2, p2⟩ := spr_set y f1 f4 (by omega) (by omega) (p1.keep k4 hne)
  obtain ⟨f3, q3, p3⟩ := spr_set y fa f4 (by omega) (by omega) k4
  exact ⟨⟨q2, f2.less hF, (m5.trans' p1 (fun k hk e => by omega)).trans' p2 (fun k hk e => by omega)⟩, q3, f3.less hF, m5.trans' p3 (fun k hk e => by omega)⟩
set_option maxHeartbeats 2000000 in
set_option maxRecDepth 100000 in
theorem asked_w (x : Bk.St) (h : Fam W p 1 n key x.L (fun _ => x.b) L F z) (g : Gl W) (o : Vw.Turn) (ho : TurnOk o) (h100 : o.name.length ≤ 100 ∧ o.text.length ≤ 100) (hL : x.L.length ≤ 1000000) :
    Calls Tryd.prog 10 #[.pointer (some ⟨p.bbs 0, 0, none⟩), .agg #[.int .i64 o.kind, .string ⟨o.name.toArray⟩, .string ⟨o.text.toArray⟩, .int .i64 o.n]] z fun e z' =>
      e = .returned (.tuple #[sgnV (Vw.turnS x o).1.1, .bool (decide ((Vw.turnS x o).1.2 = 0))]) ∧ Fam W p 1 n key (Vw.turnS x o).2.L (fun _ => (Vw.turnS x o).2.b) L F z' ∧ MovesN W F z z' := by
  have hgb := (h.gl g).big
  have hWz := h.nw0.size
  obtain ⟨tO, htO⟩ : ∃ tO : Obj, tO = .cells #[.int .i64 o.kind, .string ⟨o.name.toArray⟩, .string ⟨o.text.toArray⟩, .int .i64 o.n] 41 := ⟨_, rfl⟩
  have n1 := nw_alloc z tO
  have k1 := heap_new z tO
  have s1 : (z.alloc tO).heap.size = z.heap.size + 1 := by simp
  have n2 := nw_alloc (z.alloc tO) zObj
  have k2 := heap_new (z.alloc tO) zObj
  rw [s1] at k2
  have s2 : ((z.alloc tO).alloc zObj).heap.size = z.heap.size + 1 + 1 := by simp
  have n3 := nw_alloc ((z.alloc tO).alloc zObj) zObj
  have k3 := heap_new ((z.alloc tO).alloc zObj) zObj
  rw [s2] at k3
  have s3 : (((z.alloc tO).alloc zObj).alloc zObj).heap.size = z.heap.size + 3 := by simp
  replace k1 := Nw.keep n3 (Nw.keep n2 k1)
  replace k2 := Nw.keep n3 k2
  have u3 := (n1.trans n2).trans n3
  generalize hz1 : ((z.alloc tO).alloc zObj).alloc zObj = z1 at *
  rw [htO] at k1 hz1
  have HZ1 : Hid (((z.alloc (.cells #[.int .i64 o.kind, .string ⟨o.name.toArray⟩, .string ⟨o.text.toArray⟩, .int .i64 o.n] 41)).alloc (.cells #[.int .i64 0, .string ⟨#[]⟩, .int .i64 0] tSigned)).alloc (.cells #[.int .i64 0, .string ⟨#[]⟩, .int .i64 0] tSigned) = z1) := hz1
  have h1 := h.keep (F' := fun j => F j ∨ j = z.heap.size ∨ j = z.heap.size + 1 ∨ j = z.heap.size + 1 + 1) u3 (fun j hj => hj.imp id (fun e => by omega))
  obtain ⟨F1, h1, f1⟩ : ∃ F1 : Nat → Prop, Fam W p 1 n key x.L (fun _ => x.b) L F1 z1 ∧ (∀ j, F j → F1 j) ∧ F1 (z.heap.size + 1) ∧ F1 (z.heap.size + 1 + 1) ∧ F1 z.heap.size := ⟨_, h1, fun j e => Or.inl e, Or.inr (Or.inr (Or.inl rfl)), Or.inr (Or.inr (Or.inr rfl)), Or.inr (Or.inl rfl)⟩
  have H1 := Lib.hid h1
  have HF0 := Lib.hid f1
  have HF : Hid ((∀ j, F j → F1 j) ∧ F1 (z.heap.size + 1) ∧ F1 (z.heap.size + 1 + 1)) := ⟨f1.1, f1.2.1, f1.2.2.1⟩
  have HZ := Lib.hid (And.intro hWz hgb)
  have HU := Lib.hid u3
  have K4 := Lib.hid k2
  have K6 := Lib.hid k3
  have K3 := Lib.hid k1
  have c1 : ∀ i : Later z1, i.1.cell? ⟨z.heap.size, 0, none⟩ = some (.int .i64 o.kind) := fun i => by rw [cells_cell (Nw.keep i.nw k1)]; rfl
  have c2 : ∀ i : Later z1, i.1.cell? ⟨z.heap.size, 1, none⟩ = some (.string ⟨o.name.toArray⟩) := fun i => by rw [cells_cell (Nw.keep i.nw k1)]; rfl
  have c3 : ∀ i : Later z1, i.1.cell? ⟨z.heap.size, 2, none⟩ = some (.string ⟨o.text.toArray⟩) := fun i => by rw [cells_cell (Nw.keep i.nw k1)]; rfl
  have c4 : ∀ i : Later z1, i.1.cell? ⟨z.heap.size, 3, none⟩ = some (.int .i64 o.n) := fun i => by rw [cells_cell (Nw.keep i.nw k1)]; rfl
  have d1 := c1 ⟨z1, Upd.refl _ _⟩
  have d2 := c2 ⟨z1, Upd.refl _ _⟩
  have d3 := c3 ⟨z1, Upd.refl _ _⟩
  have d4 := c4 ⟨z1, Upd.refl _ _⟩
  dsimp only at d1 d2 d3 d4
  have gz1 := h1.gl g
  have HX := Lib.hid (And.intro ho (And.intro h100 hL))
  have hz12 : z.heap.size + 1 < z.heap.size + 1 + 1 := by omega
  clear h n1 k1 s1 n2 k2 s2 n3 k3 s3 u3 htO hz1 h1 f1 ho h100 hL
  go_enter Tryd.func10, Tryd.ntmps10
  go_upto_region 2 with fail
  rw [HZ1.out]
  by_cases e0 : o.kind = 0
  · have hst : Vw.turnS x o = ((Bk.noSgn, 4), ⟨x.L, (Bk.append x.b (Wire.textE o.name ++ o.text)).2⟩) := by unfold Vw.turnS; rw [if_pos e0]
    have Hst := Lib.hid hst
    have dk : (o.kind == 0) = true := beq_iff_eq.2 e0
    have htl : (Wire.textE o.name).length ≤ 200 := by
      have hn1 := HX.out.2.1.1
      have i2 := itoa_le (n := (o.name.length : Int)) (by unfold I64; omega)
      simp only [Wire.textE, List.length_append, List.length_cons, List.length_nil]; omega
    have TF := Lib.hid (fun (i : Later z1) => Text_e ⟨o.name.toArray⟩ o.name (bs_list _) i.1 (gz1.upd i.nw) (by have := HX.out.2.1.1; omega))
    have hcl : Hid ((Wire.textE o.name ++ o.text).length ≤ 1000000) := by show _ ≤ _; rw [List.length_append]; have := HX.out.2.1.2; omega
    generalize Wire.textE o.name = tn at *
    have hcat : Hid ((ByteArray.mk tn.toArray ++ ByteArray.mk o.text.toArray).data.toList = tn ++ o.text) := by show _ = _; simp only [bs_append_list, bs_list]
    have htx := HX.out.2.1.2
    clear hst e0
    go_wp2_with fail
    refine wp_region_nw_tail 7 (by kernel_rfl) (by kernel_rfl) ?_
    simp only [List.take_succ_cons, List.take_zero, List.drop_succ_cons, List.drop_zero]
    repeat (go_big_quiet_step ((go_at_call 27; exact later_call (TF.out _))))
    refine wpQuiet_nil ?_
    intro w5 u5
    replace u5 := later_out u5
    have H5 := Lib.hid (H1.out.nw u5)
    have U5 := Lib.hid u5
    clear c1 c2 c3 c4 u5
    go_wp2_with fail
    (with_reducible refine (vn_append H5.out g (by omega) _ _ hcat.out hcl.out).mono ?_)
    rintro _ w6 ⟨⟨_, _, rfl⟩, fa6, mv6⟩
    have FA6 := Lib.hid fa6.oneB
    have MV6 := Lib.hid ((Nw.upd _ U5.out).trans mv6)
    clear fa6 mv6
    -- w6 the world behind the call, Bk.noSgn what was signed, FA6.out Fam there, MV6.out the moves from z1 on
    have kb4 := (MV6.out).keep K4.out (fun e => e.1 HF.out.2.1)
    have kb6 := (MV6.out).keep K6.out (fun e => e.1 HF.out.2.2)
    have b40 := cells_frozen kb4 0
    have b41 := cells_frozen kb4 1
    have b42 := cells_frozen kb4 2
    have b60 := cells_frozen kb6 0
    have b61 := cells_frozen kb6 1
    have b62 := cells_frozen kb6 2
    obtain ⟨_, _, _⟩ := cell3 kb4
    obtain ⟨_, _, _⟩ := cell3 kb6
    have hfin := Lib.hid (asked_fin (y := Bk.noSgn) HZ.out.1 HZ.out.2 (Nat.le_succ _) (by omega) (by omega) FA6.out HU.out MV6.out HF.out.1 HF.out.2.1 HF.out.2.2 kb4 kb6)
    clear kb4 kb6
    go_wp2_with fail
    (try simp only [Exit.inBlock, Exit.then])
    with_reducible refine asked_out hfin.out.2.1 ?_ ?_ ?_
    · rfl
    · rfl
    · rw [Hst.out]
      exact ⟨rfl, hfin.out.2.2.1, hfin.out.2.2.2⟩
  have dk0 : (o.kind == 0) = false := beq_eq_false_iff_ne.2 e0
  clear c1 c2 c3 c4
  by_cases e1 : o.kind = 1
  · have dk : (o.kind == 1) = true := beq_iff_eq.2 e1
    obtain ⟨⟨y, f0⟩, L', he⟩ : ∃ p L', Bk.entry x.L x.b o.n = (p, L') := ⟨_, _, rfl⟩
    have hst : Vw.turnS x o = ((y, f0), ⟨L', x.b⟩) := by unfold Vw.turnS; rw [if_neg e0, if_pos e1, he]
    have Hst := Lib.hid hst
    have He := Lib.hid he
    have Hm : Hid (∃ M, L' = x.L ++ M) := by
      have := Vw.turn_more x o
      rw [hst] at this
      exact this
    clear e0 e1
    clear hst he
    go_wp2_with fail
    (with_reducible refine (vn_entry H1.out g (i := 0) (by omega) o.n HX.out.1.n HX.out.2.2 He.out Hm.out).mono ?_)
    rintro _ w6 ⟨rfl, fa6, mv6⟩
    have FA6 := Lib.hid fa6.oneB
    have MV6 := Lib.hid mv6
    clear fa6 mv6
    -- w6 the world behind the call, y what was signed, FA6.out Fam there, MV6.out the moves from z1 on
    have kb4 := (MV6.out).keep K4.out (fun e => e.1 HF.out.2.1)
    have kb6 := (MV6.out).keep K6.out (fun e => e.1 HF.out.2.2)
    have b40 := cells_frozen kb4 0
    have b41 := cells_frozen kb4 1
    have b42 := cells_frozen kb4 2
    have b60 := cells_frozen kb6 0
    have b61 := cells_frozen kb6 1
    have b62 := cells_frozen kb6 2
    obtain ⟨_, _, _⟩ := cell3 kb4
    obtain ⟨_, _, _⟩ := cell3 kb6
    have hfin := Lib.hid (asked_fin (y := y) HZ.out.1 HZ.out.2 (Nat.le_succ _) (by omega) (by omega) FA6.out HU.out MV6.out HF.out.1 HF.out.2.1 HF.out.2.2 kb4 kb6)
    clear kb4 kb6
    go_wp2_with fail
    (try simp only [Exit.inBlock, Exit.then])
    with_reducible refine asked_out hfin.out.1.1 ?_ ?_ ?_
    · rfl
    · rfl
    · rw [Hst.out]
      exact ⟨rfl, hfin.out.1.2.1, hfin.out.1.2.2⟩
  have dk1 : (o.kind == 1) = false := beq_eq_false_iff_ne.2 e1
  by_cases e2 : o.kind = 2
  · have dk : (o.kind == 2) = true := beq_iff_eq.2 e2
    obtain ⟨⟨y, f0⟩, ⟨L', b'⟩, he⟩ : ∃ p q, Bk.head x.L x.b o.n = (p, q) := ⟨_, _, rfl⟩
    have hst : Vw.turnS x o = ((y, f0), ⟨L', b'⟩) := by unfold Vw.turnS; rw [if_neg e0, if_neg e1, if_pos e2, he]
    have Hst := Lib.hid hst
    have He := Lib.hid he
    have Hm : Hid (∃ M, L' = x.L ++ M) := by
      have := Vw.turn_more x o
      rw [hst] at this
      exact this
    clear e0 e1 e2
    clear hst he
    go_wp2_with fail
    (with_reducible refine (vn_head H1.out g (i := 0) (by omega) o.n HX.out.1.n HX.out.2.2 He.out Hm.out).mono ?_)
    rintro _ w6 ⟨rfl, fa6, mv6⟩
    have FA6 := Lib.hid fa6.oneB
    have MV6 := Lib.hid mv6
    clear fa6 mv6
    -- w6 the world behind the call, y what was signed, FA6.out Fam there, MV6.out the moves from z1 on
    have kb4 := (MV6.out).keep K4.out (fun e => e.1 HF.out.2.1)
    have kb6 := (MV6.out).keep K6.out (fun e => e.1 HF.out.2.2)
    have b40 := cells_frozen kb4 0
    have b41 := cells_frozen kb4 1
    have b42 := cells_frozen kb4 2
    have b60 := cells_frozen kb6 0
    have b61 := cells_frozen kb6 1
    have b62 := cells_frozen kb6 2
    obtain ⟨_, _, _⟩ := cell3 kb4
    obtain ⟨_, _, _⟩ := cell3 kb6
    have hfin := Lib.hid (asked_fin (y := y) HZ.out.1 HZ.out.2 (Nat.le_succ _) (by omega) (by omega) FA6.out HU.out MV6.out HF.out.1 HF.out.2.1 HF.out.2.2 kb4 kb6)
    clear kb4 kb6
    go_wp2_with fail
    (try simp only [Exit.inBlock, Exit.then])
    with_reducible refine asked_out hfin.out.1.1 ?_ ?_ ?_
    · rfl
    · rfl
    · rw [Hst.out]
      exact ⟨rfl, hfin.out.1.2.1, hfin.out.1.2.2⟩
  have dk2 : (o.kind == 2) = false := beq_eq_false_iff_ne.2 e2
  by_cases e3 : o.kind = 3
  · have dk : (o.kind == 3) = true := beq_iff_eq.2 e3
    obtain ⟨⟨y, f0⟩, L', he⟩ : ∃ p L', Bk.absent x.L x.b o.name o.n = (p, L') := ⟨_, _, rfl⟩
    have hst : Vw.turnS x o = ((y, f0), ⟨L', x.b⟩) := by unfold Vw.turnS; rw [if_neg e0, if_neg e1, if_neg e2, if_pos e3, he]
    have Hst := Lib.hid hst
    have He := Lib.hid he
    have Hm : Hid (∃ M, L' = x.L ++ M) := by
      have := Vw.turn_more x o
      rw [hst] at this
      exact this
    clear e0 e1 e2 e3
    clear hst he
    go_wp2_with fail
    (with_reducible refine (vn_absent H1.out g (i := 0) (by omega) o.name o.n HX.out.1.n (by have := HX.out.2.1.1; omega) HX.out.2.2 He.out Hm.out).mono ?_)
    rintro _ w6 ⟨rfl, fa6, mv6⟩
    have FA6 := Lib.hid fa6.oneB
    have MV6 := Lib.hid mv6
    clear fa6 mv6
    -- w6 the world behind the call, y what was signed, FA6.out Fam there, MV6.out the moves from z1 on
    have kb4 := (MV6.out).keep K4.out (fun e => e.1 HF.out.2.1)
    have kb6 := (MV6.out).keep K6.out (fun e => e.1 HF.out.2.2)
    have b40 := cells_frozen kb4 0
    have b41 := cells_frozen kb4 1
    have b42 := cells_frozen kb4 2
    have b60 := cells_frozen kb6 0
    have b61 := cells_frozen kb6 1
    have b62 := cells_frozen kb6 2
    obtain ⟨_, _, _⟩ := cell3 kb4
    obtain ⟨_, _, _⟩ := cell3 kb6
    have hfin := Lib.hid (asked_fin (y := y) HZ.out.1 HZ.out.2 (Nat.le_succ _) (by omega) (by omega) FA6.out HU.out MV6.out HF.out.1 HF.out.2.1 HF.out.2.2 kb4 kb6)
    clear kb4 kb6
    go_wp2_with fail
    (try simp only [Exit.inBlock, Exit.then])
    with_reducible refine asked_out hfin.out.1.1 ?_ ?_ ?_
    · rfl
    · rfl
    · rw [Hst.out]
      exact ⟨rfl, hfin.out.1.2.1, hfin.out.1.2.2⟩
  have dk3 : (o.kind == 3) = false := beq_eq_false_iff_ne.2 e3
  have hst : Vw.turnS x o = ((Bk.noSgn, 4), x) := by unfold Vw.turnS; rw [if_neg e0, if_neg e1, if_neg e2, if_neg e3]
  have Hst := Lib.hid hst
  clear e0 e1 e2 e3 hst
  -- z1 the world behind the call, Bk.noSgn what was signed, H1.out Fam there, (show MovesN W F1 z1 z1 from Upd.refl _ _) the moves from z1 on
  have kb4 := ((show MovesN W F1 z1 z1 from Upd.refl _ _)).keep K4.out (fun e => e.1 HF.out.2.1)
  have kb6 := ((show MovesN W F1 z1 z1 from Upd.refl _ _)).keep K6.out (fun e => e.1 HF.out.2.2)
  have b40 := cells_frozen kb4 0
  have b41 := cells_frozen kb4 1
  have b42 := cells_frozen kb4 2
  have b60 := cells_frozen kb6 0
  have b61 := cells_frozen kb6 1
  have b62 := cells_frozen kb6 2
  obtain ⟨_, _, _⟩ := cell3 kb4
  obtain ⟨_, _, _⟩ := cell3 kb6
  have hfin := Lib.hid (asked_fin (y := Bk.noSgn) HZ.out.1 HZ.out.2 (Nat.le_succ _) (by omega) (by omega) H1.out HU.out (show MovesN W F1 z1 z1 from Upd.refl _ _) HF.out.1 HF.out.2.1 HF.out.2.2 kb4 kb6)
  clear kb4 kb6
  go_wp2_with fail
  (try simp only [Exit.inBlock, Exit.then])
  with_reducible refine asked_out hfin.out.2.1 ?_ ?_ ?_
  · rfl
  · rfl
  · rw [Hst.out]
    exact ⟨rfl, hfin.out.2.2.1, hfin.out.2.2.2⟩
end
end Go.Proofs.YtkhdnfmnnapjlaaDoor
