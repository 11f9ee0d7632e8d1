/- The contract of the journal's Append. -/
import Derived.Test.YtagmlemlagbfkaaGreatDoorPkFSurv10
namespace Go.Proofs.YtagmlemlagbfkaaGreatDoor
open Go.RowKit
set_option linter.unusedVariables false
set_option linter.unusedSimpArgs false
attribute [local irreducible] Calls

theorem app_done {B : Nat} {W ws : World} {d : DiskR} {x : JrnR} {D : Dk.Disk} {j : Jr.Jn} {s : List UInt8} {v' : Value} (h : JSys B W d x D j) (hl : (Jr.forms j.recs).length + (Jr.form s).length ≤ 16777216)
    (hown : ws.ownsRow B tStrJ 1 v' (j.recs.length + 1) (j.recs.map bsV ++ [bsV s])) (uS : Upd (fun k => x.rv.ownBlock = some k) W ws) (oS : ∀ k, v'.ownBlock = some k → x.rv.ownBlock = some k ∨ W.heap.size ≤ k) :
    JTo B d x D { j with recs := j.recs ++ [s] } W ((ws.setCell ⟨x.jb, 2, none⟩ v').setCell ⟨x.jb, 3, none⟩ (.int .i64 (((Jr.forms j.recs).length : Nat) + ((Jr.form s).length : Nat)))) := by
  have hjb := h.jrn.jb
  have hb := h.jrn.hb
  have hlt := fun k hk => (h.jrn.foot_lt (k := k) hk).2
  have hjl := hlt x.jb (Or.inl rfl)
  have hdl := fun k hk => (h.disk.foot_lt (k := k) hk).2
  have u1 : Upd (fun k => k = x.jb) ws (ws.setCell ⟨x.jb, 2, none⟩ v') := Upd.set1 (Upd.refl _ _) (by omega) 2 v'
  have u2 : Upd (fun k => k = x.jb) (ws.setCell ⟨x.jb, 2, none⟩ v') ((ws.setCell ⟨x.jb, 2, none⟩ v').setCell ⟨x.jb, 3, none⟩ (.int .i64 (((Jr.forms j.recs).length : Nat) + ((Jr.form s).length : Nat)))) := Upd.set1 (Upd.refl _ _) (by omega) 3 _
  have U := u1.trans u2
  have b3 := setCell_block (setCell_block (uS.keep h.jrn.blk h.jrn.ne) 2 v') 3 (.int .i64 (((Jr.forms j.recs).length : Nat) + ((Jr.form s).length : Nat)))
  refine ⟨d, ⟨x.jb, v'⟩, ⟨(h.disk.upd uS (fun k hk e => h.ap k hk (Or.inr e))).upd U (fun k hk e => h.ap k hk (Or.inl e)), ⟨h.jrn.hb, h.jrn.jb, ?_, ?_, ⟨h.jrn.ok.file, ?_⟩⟩, fun k hk e => ?_⟩, rfl, rfl, ?_, fun k hk => ?_⟩
  · have e : (Jr.forms (j.recs ++ [s])).length = (Jr.forms j.recs).length + (Jr.form s).length := by rw [Jr.forms_snoc, List.length_append]
    unfold jrnC at b3 ⊢
    dsimp only
    rw [e]
    exact b3
  · refine owns_updD ?_ U (fun k hk e => ?_)
    · dsimp only
      rw [List.length_append, List.map_append]; exact hown
    · subst e
      rcases oS _ hk with e | e
      · exact h.jrn.ne e
      · omega
  · dsimp only
    rw [Jr.forms_snoc, List.length_append]; exact hl
  · rcases e with e | e
    · exact h.ap k hk (Or.inl e)
    · rcases oS _ e with e | e
      · exact h.ap k hk (Or.inr e)
      · have := hdl k hk; omega
  · exact (uS.mono (fun k _ e => Or.inr (Or.inr e))).trans' U (fun k _ e => Or.inr (Or.inl e))
  · rcases hk with hk | hk | hk
    · exact Or.inl (Or.inl hk)
    · exact Or.inl (Or.inr (Or.inl hk))
    · exact (oS _ hk).imp (fun e => Or.inr (Or.inr e)) id
set_option maxHeartbeats 1000000 in
set_option maxRecDepth 100000 in
theorem Append_c {B : Nat} {w : World} {d : DiskR} {x : JrnR} {D : Dk.Disk} {j : Jr.Jn} (h : JSys B w d x D j) (g : Gl w) (hB : B ≤ w.heap.size) (s : List UInt8) (hs : s.length ≤ 1000000) :
    Calls Tryz.prog 111 #[.pointer (some ⟨x.jb, 0, none⟩), .string ⟨s.toArray⟩] w fun e w' => e = .returned (.int .i64 (Jr.append D j s).2.2) ∧ JTo B d x (Jr.append D j s).1 (Jr.append D j s).2.1 w w' := by
  have hgb := g.big
  have hfc := Lib.hid (form_c s (by omega) w g)
  have hfl := Jr.form_len s (by omega)
  have hfl1 : ((Jr.form s).length : Int) ≤ 1000043 := by omega
  have hfl0 : (0 : Int) ≤ (Jr.form s).length := by omega
  have hbl := h.jrn.ok.bytes
  have hbl1 : ((Jr.forms j.recs).length : Int) ≤ 16777216 := by omega
  have hsl1 : (s.length : Int) ≤ 1000000 := by omega
  have H := Lib.hid h
  have HB := Lib.hid hB
  have Hfl := Lib.hid hfl
  clear h hfl hbl hs hB
  go_enter Tryz.func111, Tryz.ntmps111
  go_wp2_with fail
  (with_reducible refine (hfc.out).mono ?_)
  rintro _ w1 ⟨rfl, u1⟩
  have h1 := H.out.nw u1
  obtain ⟨c0, c1, c2, c3, c4⟩ := h1.jrn.cells
  have H1 := Lib.hid h1
  have U1 := Lib.hid u1
  clear h1 u1 hfc
  cases hb : j.broken with
  | true =>
    rw [hb] at c4
    have hr : Hid (Jr.append D j s = (D, j, 7)) := by show _ = _; unfold Jr.append; rw [if_pos hb]
    clear hb
    go_wp2_with fail
    go_ret
    exact ⟨by rw [hr.out]; rfl, by rw [hr.out]; exact JTo.of_nw H.out U1.out⟩
  | false =>
  rw [hb] at c4
  have hr0 : Jr.append D j s = if 20000 < s.length then (D, j, 3) else if 1048576 < (Jr.forms j.recs).length + (Jr.form s).length then (D, j, 6) else if (Dk.write D j.file (Jr.forms j.recs).length (Jr.form s)).2 ≠ 0 then ((Dk.write D j.file (Jr.forms j.recs).length (Jr.form s)).1, { j with broken := true }, (Dk.write D j.file (Jr.forms j.recs).length (Jr.form s)).2)
      else ((Dk.write D j.file (Jr.forms j.recs).length (Jr.form s)).1, { j with recs := j.recs ++ [s] }, 0) := by
    unfold Jr.append; rw [if_neg (by rw [hb]; decide)]
  have Hbk := Lib.hid hb
  clear hb
  by_cases h1 : 20000 < s.length
  · have hr : Hid (Jr.append D j s = (D, j, 3)) := by show _ = _; rw [hr0, if_pos h1]
    have h1' : (20000 : Int) < s.length := by omega
    clear hr0 h1
    go_wp2_with fail
    go_ret
    exact ⟨by rw [hr.out]; rfl, by rw [hr.out]; exact JTo.of_nw H.out U1.out⟩
  have h1' : ¬ (20000 : Int) < s.length := by omega
  rw [if_neg h1] at hr0
  clear h1
  by_cases h2 : 1048576 < (Jr.forms j.recs).length + (Jr.form s).length
  · have hr : Hid (Jr.append D j s = (D, j, 6)) := by show _ = _; rw [hr0, if_pos h2]
    have h2' : (1048576 : Int) < ((Jr.forms j.recs).length : Int) + (Jr.form s).length := by omega
    clear hr0 h2
    go_wp2_with fail
    go_ret
    exact ⟨by rw [hr.out]; rfl, by rw [hr.out]; exact JTo.of_nw H.out U1.out⟩
  have h2' : ¬ (1048576 : Int) < ((Jr.forms j.recs).length : Int) + (Jr.form s).length := by omega
  rw [if_neg h2] at hr0
  have Hr0 := Lib.hid hr0
  have H2 := Lib.hid h2
  clear hr0 h2
  have l0 : ∀ i : Later w1, i.1.cell? ⟨x.jb, 0, none⟩ = some (.pointer (some ⟨d.db, 0, none⟩)) := fun i => (H1.out.jrn.nw i.nw).cells.1
  have l1 : ∀ i : Later w1, i.1.cell? ⟨x.jb, 1, none⟩ = some (.int .i64 j.file) := fun i => (H1.out.jrn.nw i.nw).cells.2.1
  have l3 : ∀ i : Later w1, i.1.cell? ⟨x.jb, 3, none⟩ = some (.int .i64 ((Jr.forms j.recs).length : Nat)) := fun i => (H1.out.jrn.nw i.nw).cells.2.2.2.1
  go_wp2_with fail
  refine wp_region_nw_tail 13 (by kernel_rfl) (by kernel_rfl) ?_
  simp only [List.take_succ_cons, List.take_zero, List.drop_succ_cons, List.drop_zero]
  repeat (go_big_quiet_step ((fail)))
  refine wpQuiet_nil ?_
  intro w3 u3
  replace u3 := later_out u3
  have U3 := Lib.hid (U1.out.trans u3)
  have h3 := H1.out.nw u3
  have hw := write_c h3.disk (g.upd U3.out) (Nat.le_trans HB.out U3.out.size) (f := j.file) (i := ((Jr.forms j.recs).length : Nat)) h3.jrn.ok.i64 (by unfold I64; omega) (Jr.form s) (by have := H2.out; omega)
  have Hw := Lib.hid hw
  have H3 := Lib.hid h3
  clear hw h3 l0 l1 l3 u3 c0 c1 c2 c3 c4
  go_wp2_with fail
  (with_reducible refine (Hw.out).mono ?_)
  rintro _ w4 ⟨rfl, hT⟩
  obtain ⟨d2, x2, k1, k2, k3, k4, k5⟩ := H3.out.disk_to hT
  have hthen : ∀ (D' : Dk.Disk) (j' : Jr.Jn) (z : World), JTo B d2 x2 D' j' w4 z → JTo B d x D' j' w z := fun D' j' z t => JTo.then_ k2 k3 (Upd.trans (Nw.upd _ U3.out) k4) (fun k hk => (k5 k hk).imp id (fun e => Nat.le_trans U3.out.size e)) t
  have Hthen := Lib.hid hthen
  have K1 := Lib.hid k1
  have HS4 := Lib.hid (Nat.le_trans HB.out (Nat.le_trans U3.out.size k4.size))
  have f4 := cells_frozen k1.jrn.blk 4
  obtain ⟨_, _, c2, c3, q4⟩ := k1.jrn.cells
  rw [k3] at f4 q4 c2 c3
  have K3 := Lib.hid k3
  clear hthen hT Hw k1 k2 k3 k4 k5
  generalize (Dk.write D j.file (Jr.forms j.recs).length (Jr.form s)).2 = E at *
  generalize (Dk.write D j.file (Jr.forms j.recs).length (Jr.form s)).1 = D4 at *
  by_cases h0 : E = 0
  rotate_left
  · have b1 : (E == 0) = false := beq_eq_false_iff_ne.2 h0
    have b2 : (E != 0) = true := by simp [h0]
    have hr : Hid (Jr.append D j s = (D4, { j with broken := true }, E)) := by show _ = _; rw [Hr0.out, if_pos h0]
    have hst := JSys.store K1.out (j' := { j with broken := true }) 4 (.bool true) rfl rfl rfl
    rw [K3.out] at hst
    have Hz := Lib.hid (Hthen.out _ _ _ hst)
    clear h0 hst Hthen
    go_wp2_with fail
    go_ret
    exact ⟨by rw [hr.out]; rfl, by rw [hr.out]; exact Hz.out⟩
  have b1 : (E == 0) = true := beq_iff_eq.2 h0
  have b2 : (E != 0) = false := by simp [h0]
  have hr : Hid (Jr.append D j s = (D4, { j with recs := j.recs ++ [s] }, 0)) := by show _ = _; rw [Hr0.out, if_neg (fun e => e h0)]
  clear h0 Hr0
  obtain ⟨aj, cj, hrv⟩ := own_slD K1.out.jrn.own
  rw [hrv] at c2
  have hgB : nG ≤ B := K1.out.jrn.hb
  have hB4 := HS4.out
  have HSall : Hid (∀ z, Upd (fun k => (Value.slice aj j.recs.length cj).ownBlock = some k) w4 z → (z.cell? ⟨x.jb, 2, none⟩ = some (.slice aj j.recs.length cj) ∧ z.cell? ⟨x.jb, 3, none⟩ = some (.int .i64 ((Jr.forms j.recs).length : Nat))) ∧ z.frozen? ⟨x.jb, 2, none⟩ = false) := fun z uz => by
    have hbz := uz.keep K1.out.jrn.blk (by rw [← hrv]; exact K1.out.jrn.ne)
    rw [K3.out] at hbz
    refine ⟨⟨?_, ?_⟩, cells_frozen hbz 2⟩
    · rw [cells_cell hbz]; show some x2.rv = _; rw [hrv]
    · rw [cells_cell hbz]; rfl
  have HSd := HSall.out w4.drew (Upd.refl _ _).drew
  have HSa := fun o => HSall.out (w4.drew.alloc o) ((Upd.refl _ _).drew.alloc o)
  have q4o := K1.out.jrn.own
  rw [hrv] at q4o
  have Q4 := Lib.hid q4o
  have hn4 : j.recs.length + 1 ≤ maxLen := by have := K1.out.jrn.len; unfold maxLen; omega
  have hn5 : (j.recs.length + 1) * 16 ≤ 140737488355328 := by have := K1.out.jrn.len; omega
  have HN := Lib.hid (And.intro hn4 hn5)
  have Hrv := Lib.hid hrv
  clear q4o hn4 hn5 hrv q4 f4
  go_wp2_with fail
  refine wp_region_H 18 (fun z => z.cell? ⟨x.jb, 2, none⟩ = some (.slice aj j.recs.length cj) ∧ z.cell? ⟨x.jb, 3, none⟩ = some (.int .i64 ((Jr.forms j.recs).length : Nat))) (fun _ => True) (by kernel_rfl) ?_
  refine wpAnyH_pure (i := 0) (v := ?_) rfl (by kernel_rfl) (by kernel_rfl) (by kernel_rfl) (by kernel_rfl) (by kernel_rfl) (fun _ _ _ h => h) (by rfl) ?_ (⟨fun _ => HSd.1, trivial⟩) ?_
  rotate_left 1
  · (intro zz; go_simp; first | done | with_reducible rfl)
  (try simp only [Act.put, List.setIfInBounds_toArray, List.set_cons_zero, List.set_cons_succ])
  refine wpAnyH_pure (i := 1) (v := ?_) rfl (by kernel_rfl) (by kernel_rfl) (by kernel_rfl) (by kernel_rfl) (by kernel_rfl) (fun _ _ _ h => h) (by rfl) ?_ (⟨fun _ => HSd.1, trivial⟩) ?_
  rotate_left 1
  · (intro zz; go_simp; first | done | with_reducible rfl)
  (try simp only [Act.put, List.setIfInBounds_toArray, List.set_cons_zero, List.set_cons_succ])
  refine wpAnyH_pure (i := 2) (v := ?_) rfl (by kernel_rfl) (by kernel_rfl) (by kernel_rfl) (by kernel_rfl) (by kernel_rfl) (fun _ _ _ h => h) (by rfl) ?_ (⟨fun _ => HSd.1, trivial⟩) ?_
  rotate_left 1
  · (intro zz; go_simp; first | done | with_reducible rfl)
  (try simp only [Act.put, List.setIfInBounds_toArray, List.set_cons_zero, List.set_cons_succ])
  refine wpAnyH_pure (i := 3) (v := ?_) rfl (by kernel_rfl) (by kernel_rfl) (by kernel_rfl) (by kernel_rfl) (by kernel_rfl) (fun _ _ _ h => h) (by rfl) ?_ (⟨fun _ => HSd.1, trivial⟩) ?_
  rotate_left 1
  · (intro zz; go_simp; first | done | with_reducible rfl)
  (try simp only [Act.put, List.setIfInBounds_toArray, List.set_cons_zero, List.set_cons_succ])
  refine wpAnyH_pure (i := 4) (v := ?_) rfl (by kernel_rfl) (by kernel_rfl) (by kernel_rfl) (by kernel_rfl) (by kernel_rfl) (fun _ _ _ h => h) (by rfl) ?_ (⟨fun _ => HSd.1, trivial⟩) ?_
  rotate_left 1
  · (intro zz; go_simp; first | done | with_reducible rfl)
  (try simp only [Act.put, List.setIfInBounds_toArray, List.set_cons_zero, List.set_cons_succ])
  refine wpAnyH_load1 (i := 5) (v := ?_) [8] rfl (by kernel_rfl) (by kernel_rfl) (by kernel_rfl) (by kernel_rfl) (by kernel_rfl) (by kernel_rfl) (fun _ _ _ h => h) (by rfl) ?_ (⟨fun _ => HSd.1, trivial⟩) ?_
  rotate_left 1
  · (intro zz hS1 hS2; clear hS2; obtain ⟨_, _⟩ := hS1; go_simp; first | done | with_reducible rfl)
  (try simp only [Act.put, List.setIfInBounds_toArray, List.set_cons_zero, List.set_cons_succ])
  refine wpAnyH_pure (i := 6) (v := ?_) rfl (by kernel_rfl) (by kernel_rfl) (by kernel_rfl) (by kernel_rfl) (by kernel_rfl) (fun _ _ _ h => h) (by rfl) ?_ (⟨fun _ => HSd.1, trivial⟩) ?_
  rotate_left 1
  · (intro zz; go_simp; first | done | with_reducible rfl)
  (try simp only [Act.put, List.setIfInBounds_toArray, List.set_cons_zero, List.set_cons_succ])
  refine wpAnyH_pure (i := 9) (v := ?_) rfl (by kernel_rfl) (by kernel_rfl) (by kernel_rfl) (by kernel_rfl) (by kernel_rfl) (fun _ _ _ h => h) (by rfl) ?_ (⟨fun _ => HSd.1, trivial⟩) ?_
  rotate_left 1
  · (intro zz; go_simp; first | done | with_reducible rfl)
  (try simp only [Act.put, List.setIfInBounds_toArray, List.set_cons_zero, List.set_cons_succ])
  refine wpAnyH_pure (i := 10) (v := ?_) rfl (by kernel_rfl) (by kernel_rfl) (by kernel_rfl) (by kernel_rfl) (by kernel_rfl) (fun _ _ _ h => h) (by rfl) ?_ (⟨fun _ => HSd.1, trivial⟩) ?_
  rotate_left 1
  · (intro zz; go_simp; first | done | with_reducible rfl)
  (try simp only [Act.put, List.setIfInBounds_toArray, List.set_cons_zero, List.set_cons_succ])
  refine wpAnyH_pure (i := 11) (v := ?_) rfl (by kernel_rfl) (by kernel_rfl) (by kernel_rfl) (by kernel_rfl) (by kernel_rfl) (fun _ _ _ h => h) (by rfl) ?_ (⟨fun _ => HSd.1, trivial⟩) ?_
  rotate_left 1
  · (intro zz; go_simp; first | done | with_reducible rfl)
  (try simp only [Act.put, List.setIfInBounds_toArray, List.set_cons_zero, List.set_cons_succ])
  refine wpAnyH_load1 (i := 12) (v := ?_) [] rfl (by kernel_rfl) (by kernel_rfl) (by kernel_rfl) (by kernel_rfl) (by kernel_rfl) (by kernel_rfl) (fun _ _ _ h => h) (by rfl) ?_ (⟨fun _ => HSd.1, trivial⟩) ?_
  rotate_left 1
  · (intro zz hS1 hS2; clear hS2; obtain ⟨_, _⟩ := hS1; go_simp; first | done | with_reducible rfl)
  (try simp only [Act.put, List.setIfInBounds_toArray, List.set_cons_zero, List.set_cons_succ])
  refine wpAnyH_pure (i := 13) (v := ?_) rfl (by kernel_rfl) (by kernel_rfl) (by kernel_rfl) (by kernel_rfl) (by kernel_rfl) (fun _ _ _ h => h) (by rfl) ?_ (⟨fun _ => HSd.1, trivial⟩) ?_
  rotate_left 1
  · (intro zz; go_simp; first | done | with_reducible rfl)
  (try simp only [Act.put, List.setIfInBounds_toArray, List.set_cons_zero, List.set_cons_succ])
  refine wpAnyH_pure (i := 14) (v := ?_) rfl (by kernel_rfl) (by kernel_rfl) (by kernel_rfl) (by kernel_rfl) (by kernel_rfl) (fun _ _ _ h => h) (by rfl) ?_ (⟨fun _ => HSd.1, trivial⟩) ?_
  rotate_left 1
  · (intro zz; go_simp; first | done | with_reducible rfl)
  (try simp only [Act.put, List.setIfInBounds_toArray, List.set_cons_zero, List.set_cons_succ])
  refine wpAnyH_pure (i := 15) (v := ?_) rfl (by kernel_rfl) (by kernel_rfl) (by kernel_rfl) (by kernel_rfl) (by kernel_rfl) (fun _ _ _ h => h) (by rfl) ?_ (⟨fun _ => HSd.1, trivial⟩) ?_
  rotate_left 1
  · (intro zz; go_simp; first | done | with_reducible rfl)
  (try simp only [Act.put, List.setIfInBounds_toArray, List.set_cons_zero, List.set_cons_succ])
  refine wpAnyH_one (i := 7) (by kernel_rfl) rfl (fun K hK => ?_)
  go_simp
  refine hK.out _ _ ⟨fun _ => (HSa _).1, trivial⟩ ?_
  clear hK K
  (try simp only [Act.put, List.setIfInBounds_toArray, List.set_cons_zero, List.set_cons_succ])
  refine wpAnyH_one (i := 8) (by kernel_rfl) rfl (fun K hK => ?_)
  refine step_appD rfl _ _ 30 rfl B tStrJ _ 1 16 Tryz.underlying30 infoStrJ rfl (by decide) (.slice aj j.recs.length cj) j.recs.length (j.recs.map bsV) rfl w4 (fun _ => False) Q4.out ((Upd.refl _ _).drew.alloc _) (fun _ _ e => e) _ [bsV s] rfl (heap_new _ _) rfl (by intro u hu; rw [List.mem_singleton.1 hu]; rfl) HN.out.1 HN.out.2 hB4 hgB ?_
  intro gs cs ws hownS uS oS
  have uW : Upd (fun k => (Value.slice aj j.recs.length cj).ownBlock = some k) w4 ws := Upd.trans (((Upd.refl _ _).drew).alloc _) uS
  have hS := HSall.out ws uW
  refine hK.out _ _ ⟨fun _ => hS.1, trivial⟩ ?_
  clear hK K
  (try simp only [Act.put, List.setIfInBounds_toArray, List.set_cons_zero, List.set_cons_succ])
  refine wpAnyH_pure (i := 16) (v := ?_) rfl (by kernel_rfl) (by kernel_rfl) (by kernel_rfl) (by kernel_rfl) (by kernel_rfl) (fun _ _ _ h => h) (by rfl) ?_ (⟨fun _ => hS.1, trivial⟩) ?_
  rotate_left 1
  · (intro zz; go_simp; first | done | with_reducible rfl)
  (try simp only [Act.put, List.setIfInBounds_toArray, List.set_cons_zero, List.set_cons_succ])
  refine wpAnyH_pure (i := 17) (v := ?_) rfl (by kernel_rfl) (by kernel_rfl) (by kernel_rfl) (by kernel_rfl) (by kernel_rfl) (fun _ _ _ h => h) (by rfl) ?_ (⟨fun _ => hS.1, trivial⟩) ?_
  rotate_left 1
  · (intro zz; go_simp; first | done | with_reducible rfl)
  (try simp only [Act.put, List.setIfInBounds_toArray, List.set_cons_zero, List.set_cons_succ])
  have z1 := hS.1.1
  have zf := hS.2
  have hblk := uW.keep K1.out.jrn.blk (by rw [← Hrv.out]; exact K1.out.jrn.ne)
  rw [K3.out] at hblk
  have hb2 := setCell_block hblk 2 (.slice (some ⟨gs, 0, none⟩) (j.recs.length + 1) cs)
  have z3 : (ws.setCell ⟨x.jb, 2, none⟩ (.slice (some ⟨gs, 0, none⟩) (j.recs.length + 1) cs)).cell? ⟨x.jb, 3, none⟩ = some (.int .i64 ((Jr.forms j.recs).length : Nat)) := by rw [cells_cell hb2]; rfl
  have zf3 := cells_frozen hb2 3
  have hdone := app_done K1.out (s := s) (by have := H2.out; omega) hownS (by rw [Hrv.out]; exact uW) (fun k hk => by
    obtain rfl : gs = k := by simpa [Value.ownBlock] using hk
    rw [Hrv.out]; exact oS)
  rw [K3.out] at hdone
  have hwr : IntKind.i64.wrap (((Jr.forms j.recs).length : Int) + (Jr.form s).length) = ((Jr.forms j.recs).length : Int) + (Jr.form s).length := by rw [IntKind.wrap_i64]; omega
  rw [← hwr] at hdone
  have Hz := Lib.hid (Hthen.out _ _ _ hdone)
  clear hwr
  clear hdone hownS uS oS hblk hb2 hS HSd HSa
  refine wpAnyH_one (i := 18) (by kernel_rfl) rfl (fun K hK => ?_)
  go_simp
  refine hK.out _ _ ⟨fun e => absurd (show true = false from e) (by decide), trivial⟩ ?_
  clear hK K
  (try simp only [Act.put, List.setIfInBounds_toArray, List.set_cons_zero, List.set_cons_succ])
  refine wpAnyH_pure (i := 19) (v := ?_) rfl (by kernel_rfl) (by kernel_rfl) (by kernel_rfl) (by kernel_rfl) (by kernel_rfl) (fun _ _ _ h => h) (by rfl) ?_ (⟨fun e => absurd (show true = false from e) (by decide), trivial⟩) ?_
  rotate_left 1
  · (intro zz; go_simp; first | done | with_reducible rfl)
  (try simp only [Act.put, List.setIfInBounds_toArray, List.set_cons_zero, List.set_cons_succ])
  refine wpAnyH_pure (i := 20) (v := ?_) rfl (by kernel_rfl) (by kernel_rfl) (by kernel_rfl) (by kernel_rfl) (by kernel_rfl) (fun _ _ _ h => h) (by rfl) ?_ (⟨fun e => absurd (show true = false from e) (by decide), trivial⟩) ?_
  rotate_left 1
  · (intro zz; go_simp; first | done | with_reducible rfl)
  (try simp only [Act.put, List.setIfInBounds_toArray, List.set_cons_zero, List.set_cons_succ])
  refine wpAnyH_one (i := 21) (by kernel_rfl) rfl (fun K hK => ?_)
  go_simp
  refine hK.out _ _ ⟨fun e => absurd (show true = false from e) (by decide), trivial⟩ ?_
  clear hK K
  (try simp only [Act.put, List.setIfInBounds_toArray, List.set_cons_zero, List.set_cons_succ])
  refine wpAnyH_done (by kernel_rfl) ?_ _
  go_wp2_with fail
  go_ret
  exact ⟨by rw [hr.out]; rfl, by rw [hr.out]; exact Hz.out⟩
end Go.Proofs.YtagmlemlagbfkaaGreatDoor
