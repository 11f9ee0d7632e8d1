/- format.read of a type of the kind 2. -/
import Derived.Test.YtjlgmoemnhmgmaaGreatDoorPkWTells15
namespace Go.Proofs.YtjlgmoemnhmgmaaGreatDoor
open Go.RowKit Go.MapKept
set_option linter.unusedVariables false
set_option linter.unusedSimpArgs false
attribute [local irreducible] Calls
open Fm (Ty Vl Str nameB rightTy rightVl)
set_option maxHeartbeats 16000000 in
set_option maxRecDepth 100000 in
theorem fmread_k2 (d : Nat) (hd : d + 1 ≤ 4) (IH : Hid (∀ (t : Ty) (fv : Value) (s : Str) (w : World), Gm w → rightTy d t = true → TyAt w fv t → s.length ≤ 1000000 →
    Calls Tryz.prog 67 #[.agg #[.int .i64 t.kind, fv], .string ⟨s.toArray⟩] w (RdPost d t s w))) (t : Ty) (hk : t.kind = 2) (fv : Value) (s : Str) (w : World) (g : Gm w) (hr : rightTy (d + 1) t = true) (ht : TyAt w fv t) (hs : s.length ≤ 1000000) :
    Calls Tryz.prog 67 #[.agg #[.int .i64 t.kind, fv], .string ⟨s.toArray⟩] w (RdPost (d + 1) t s w) := by
    have HKK := Lib.hid hk
    clear hk
    have RT := Lib.hid (Fm.rt_iff.1 hr)
    have HOK := Lib.hid (fun v (hv : Fm.readF (d + 1) t s = some v) => (Fm.read_ok hr hv).2.2.1)
    have hgb := g.g.big
    obtain ⟨fa, fc, rfl, hfl, hfc⟩ := ht.cells
    have HFC : Hid (FdC w fa t.fs) := hfc
    have hk := ht.kind
    have n1 := nw_alloc w (.cells #[.int .i64 t.kind, .slice fa t.fs.length fc] tTy)
    have n2 := nw_alloc (w.alloc (.cells #[.int .i64 t.kind, .slice fa t.fs.length fc] tTy)) (.cells #[.int .i64 0, .int .i64 0, .slice none 0 0, .slice none 0 0] tVl)
    have b1 := n2.keep (heap_new w (.cells #[.int .i64 t.kind, .slice fa t.fs.length fc] tTy))
    have b2 := heap_new (w.alloc (.cells #[.int .i64 t.kind, .slice fa t.fs.length fc] tTy)) (.cells #[.int .i64 0, .int .i64 0, .slice none 0 0, .slice none 0 0] tVl)
    rw [World.size_alloc] at b2
    have hN := n1.trans n2
    obtain ⟨W, hW⟩ : ∃ W, W = (w.alloc (.cells #[.int .i64 t.kind, .slice fa t.fs.length fc] tTy)).alloc (.cells #[.int .i64 0, .int .i64 0, .slice none 0 0, .slice none 0 0] tVl) := ⟨_, rfl⟩
    have hWs : W.heap.size = w.heap.size + 2 := by rw [hW]; simp
    rw [← hW] at hN b1 b2
    have HN := Lib.hid hN
    have HW := Lib.hid hW
    have HB1 := Lib.hid b1
    have HB2 := Lib.hid b2
    have HWs := Lib.hid hWs
    have HG := Lib.hid (g.upd hN)
    have HGw := Lib.hid g
    have hfl1 : (t.fs.length : Int) ≤ 8 := by have := RT.out.len; omega
    have HK := Lib.hid hk
    have HSL := Lib.hid hs
    have HOPEN : Hid (∀ y, Nw W y → Calls Tryz.prog 85 #[.string ⟨s.toArray⟩] y fun e w' => ∃ b, e = .returned (.pointer (some ⟨b, 0, none⟩)) ∧ y.heap.size ≤ b ∧ Rdr tR w' b (some s) ∧ Nw y w') := fun y u => Open_r _ s (bs_list _) y (HG.out.upd u).g
    have HQ : Hid (∀ y, Nw W y → y.cell? ⟨w.heap.size, 0, none⟩ = some (.int .i64 t.kind) ∧ True ∧ True ∧ True ∧ True) := fun y u => ⟨by rw [cells_cell (Nw.keep u HB1.out)]; rfl, trivial, trivial, trivial, trivial⟩
    clear hr hfc n1 n2 b1 b2 hN hW hfl hk ht hs g hWs
    go_enter Tryz.func67, Tryz.ntmps67
    go_upto_region 1 with fail
    rw [← HW.out]
    clear HW
    go_cut [6, 7] from 17 to 21 (fun a6 a7 wx => ∃ rb q, a6 = .pointer (some ⟨rb, 0, none⟩) ∧ a7 = .pointer (some ⟨q, 0, none⟩) ∧ Hid (Rd1 W wx s t.kind rb q))
    case first =>
      have HS0 := Lib.hid (HQ.out _ (Upd.refl _ W).drew)
      refine wp_region_G (fun y => y.cell? ⟨w.heap.size, 0, none⟩ = some (.int .i64 t.kind) ∧ True ∧ True ∧ True ∧ True) 7 (by kernel_rfl) ?_
      refine wpAnyG_pure (i := 0) (v := ?_) rfl (by kernel_rfl) (by kernel_rfl) (by kernel_rfl) (by kernel_rfl) (by kernel_rfl) (fun _ _ _ h => h) (by kernel_rfl) ?_ (fun _ => HS0.out) ?_
      rotate_left 1
      · (intro zz; go_simp; first | done | with_reducible rfl)
      (try simp only [Act.put, List.setIfInBounds_toArray, List.set_cons_zero, List.set_cons_succ])
      refine wpAnyG_pure (i := 2) (v := ?_) rfl (by kernel_rfl) (by kernel_rfl) (by kernel_rfl) (by kernel_rfl) (by kernel_rfl) (fun _ _ _ h => h) (by kernel_rfl) ?_ (fun _ => HS0.out) ?_
      rotate_left 1
      · (intro zz; go_simp; first | done | with_reducible rfl)
      (try simp only [Act.put, List.setIfInBounds_toArray, List.set_cons_zero, List.set_cons_succ])
      refine wpAnyG_load (i := 3) (v := ?_) [4] rfl (by kernel_rfl) (by kernel_rfl) (by kernel_rfl) (by kernel_rfl) (by kernel_rfl) (by kernel_rfl) (fun _ _ _ h => h) (by kernel_rfl) ?_ (fun _ => HS0.out) ?_
      rotate_left 1
      · (intro zz hS; obtain ⟨_, _, _, _, _⟩ := hS; go_simp; first | done | with_reducible rfl)
      (try simp only [Act.put, List.setIfInBounds_toArray, List.set_cons_zero, List.set_cons_succ])
      refine wpAnyG_pure (i := 4) (v := ?_) rfl (by kernel_rfl) (by kernel_rfl) (by kernel_rfl) (by kernel_rfl) (by kernel_rfl) (fun _ _ _ h => h) (by kernel_rfl) ?_ (fun _ => HS0.out) ?_
      rotate_left 1
      · (intro zz; go_simp; first | done | with_reducible rfl)
      (try simp only [Act.put, List.setIfInBounds_toArray, List.set_cons_zero, List.set_cons_succ])
      refine wpAnyG_ready [1, 5] (by kernel_rfl) (by simp) ?_
      refine AllG.cons rfl (fun K hK => ?_) (AllG.cons rfl (fun K hK => ?_) AllG.nil)
      · have hd0 : Nw W W.drew := (Upd.refl _ W).drew
        have hCC := HOPEN.out W.drew hd0
        go_simp
        (with_reducible refine (hCC).mono ?_)
        rintro _ w1 ⟨rb, rfl, hrb, hrd, u1⟩
        clear hCC
        have HU1 := Lib.hid (Nw.trans hd0 u1)
        refine hK.out _ _ (fun _ => HQ.out _ HU1.out) ?_
        clear hK K
        (try simp only [Act.put, List.setIfInBounds_toArray, List.set_cons_zero, List.set_cons_succ])
        refine wpAnyG_ready [5] (by kernel_rfl) (by simp) ?_
        refine AllG.cons rfl (fun K hK => ?_) AllG.nil
        have n3 := nw_alloc w1 (.cells #[.int .i64 0, .int .i64 0, .slice none 0 0, .slice none 0 0] tVl)
        have b3 := heap_new w1 (.cells #[.int .i64 0, .int .i64 0, .slice none 0 0, .slice none 0 0] tVl)
        obtain ⟨w2, hw2⟩ : ∃ y, y = w1.alloc (.cells #[.int .i64 0, .int .i64 0, .slice none 0 0, .slice none 0 0] tVl) := ⟨_, rfl⟩
        rw [← hw2] at n3 b3
        have HW2 := Lib.hid hw2
        go_simp
        rw [← HW2.out]
        refine hK.out _ _ (fun _ => HQ.out _ (HU1.out.trans n3)) ?_
        clear hK K
        (try simp only [Act.put, List.setIfInBounds_toArray, List.set_cons_zero, List.set_cons_succ])
        obtain ⟨q0, hq0⟩ : ∃ q, q = w1.heap.size := ⟨_, rfl⟩
        rw [← hq0] at b3
        have HQB := Lib.hid b3
        have HUA := Lib.hid (HU1.out.trans n3)
        have HRB := Lib.hid (hrd.nw n3)
        have HNE : Hid (rb ≠ q0) := by have := hrd.lt; show _ ≠ _; omega
        have HLA : Hid (W.heap.size ≤ rb ∧ W.heap.size ≤ q0) := by
          have := HU1.out.size
          have h2 : W.drew.heap.size = W.heap.size := rfl
          exact ⟨by omega, by omega⟩
        rw [← hq0]
        clear hq0 b3 n3 hrd hw2 u1 hrb
        -- behind the call and the alloc: the world w2, the reader's block rb, the value's block q0 (HQB: its cells at w2; HUA: the step from W; HRB: the reader at w2; HNE: rb ≠ q0; HLA: both are new)
        have c0 : (w2).cell? ⟨q0, 0, none⟩ = some (.int .i64 0) := by rw [cells_cell HQB.out]; rfl
        have c1 : (w2).cell? ⟨q0, 1, none⟩ = some (.int .i64 0) := by rw [cells_cell HQB.out]; rfl
        have c2 : (w2).cell? ⟨q0, 2, none⟩ = some (.slice none 0 0) := by rw [cells_cell HQB.out]; rfl
        have c3 : (w2).cell? ⟨q0, 3, none⟩ = some (.slice none 0 0) := by rw [cells_cell HQB.out]; rfl
        have f0 := cells_frozen HQB.out 0
        have f1 := cells_frozen HQB.out 1
        have f2 := cells_frozen HQB.out 2
        have f3 := cells_frozen HQB.out 3
        refine wpAnyG_ready [6] (by kernel_rfl) (by simp) ?_
        refine AllG.cons rfl (fun K hK => ?_) AllG.nil
        go_simp
        refine hK.out _ _ (fun _ => HQ.out _ HUA.out) ?_
        clear hK K
        (try simp only [Act.put, List.setIfInBounds_toArray, List.set_cons_zero, List.set_cons_succ])
        refine wpAnyG_ready [7] (by kernel_rfl) (by simp) ?_
        refine AllG.cons rfl (fun K hK => ?_) AllG.nil
        go_simp
        refine hK.out _ _ (fun e => absurd (show true = false from e) (by decide)) ?_
        clear hK K
        (try simp only [Act.put, List.setIfInBounds_toArray, List.set_cons_zero, List.set_cons_succ])
        refine wpAnyG_done (by kernel_rfl) ?_ _
        go_wp2_with fail
        go_meet
        have hb9 := setCell_block (setCell_block (setCell_block (setCell_block HQB.out 0 (.int .i64 t.kind)) 1 (.int .i64 0)) 2 (.slice none 0 0)) 3 (.slice none 0 0)
        have hqg : nG ≤ q0 := by have := HLA.out.2; have := HWs.out; omega
        have hu9 := Upd.set1 (Upd.set1 (Upd.set1 (Upd.set1 (Upd.refl _ (w2)) hqg 0 (.int .i64 t.kind)) hqg 1 (.int .i64 0)) hqg 2 (.slice none 0 0)) hqg 3 (.slice none 0 0)
        exact ⟨rb, q0, rfl, rfl, HRB.out.upd hu9 HNE.out, hb9, HNE.out, HUA.out.trans' hu9 (fun k hk e => by have := HLA.out.2; omega), HLA.out.1, HLA.out.2⟩
      · have n3 := (nw_alloc W (.cells #[.int .i64 0, .int .i64 0, .slice none 0 0, .slice none 0 0] tVl)).drew
        have b3 := Nw.keep (Upd.refl (fun _ => False) _).drew (heap_new W (.cells #[.int .i64 0, .int .i64 0, .slice none 0 0, .slice none 0 0] tVl))
        obtain ⟨w2, hw2⟩ : ∃ y, y = (W.alloc (.cells #[.int .i64 0, .int .i64 0, .slice none 0 0, .slice none 0 0] tVl)).drew := ⟨_, rfl⟩
        rw [← hw2] at n3 b3
        have HW2 := Lib.hid hw2
        have HU1 := Lib.hid n3
        have hsz : w2.heap.size = W.heap.size + 1 := by rw [hw2]; exact World.size_alloc _ _
        clear hw2
        go_simp
        rw [← HW2.out]
        refine hK.out _ _ (fun _ => HQ.out _ HU1.out) ?_
        clear hK K
        (try simp only [Act.put, List.setIfInBounds_toArray, List.set_cons_zero, List.set_cons_succ])
        refine wpAnyG_ready [1] (by kernel_rfl) (by simp) ?_
        refine AllG.cons rfl (fun K hK => ?_) AllG.nil
        have hCC := HOPEN.out w2 HU1.out
        go_simp
        (with_reducible refine (hCC).mono ?_)
        rintro _ w4 ⟨rb, rfl, hrb, hrd, u4⟩
        clear hCC
        obtain ⟨q0, hq0⟩ : ∃ q, q = W.heap.size := ⟨_, rfl⟩
        have HUA := Lib.hid (HU1.out.trans u4)
        refine hK.out _ _ (fun _ => HQ.out _ HUA.out) ?_
        clear hK K
        (try simp only [Act.put, List.setIfInBounds_toArray, List.set_cons_zero, List.set_cons_succ])
        have b4 := Nw.keep u4 b3
        rw [← hq0] at b4
        have HQB := Lib.hid b4
        have HRB := Lib.hid hrd
        have HNE : Hid (rb ≠ q0) := by show _ ≠ _; omega
        have HLA : Hid (W.heap.size ≤ rb ∧ W.heap.size ≤ q0) := ⟨by omega, by omega⟩
        rw [← hq0]
        clear hq0 b3 n3 hrd u4 hrb b4 hsz
        -- behind the call and the alloc: the world w4, the reader's block rb, the value's block q0 (HQB: its cells at w4; HUA: the step from W; HRB: the reader at w4; HNE: rb ≠ q0; HLA: both are new)
        have c0 : (w4).cell? ⟨q0, 0, none⟩ = some (.int .i64 0) := by rw [cells_cell HQB.out]; rfl
        have c1 : (w4).cell? ⟨q0, 1, none⟩ = some (.int .i64 0) := by rw [cells_cell HQB.out]; rfl
        have c2 : (w4).cell? ⟨q0, 2, none⟩ = some (.slice none 0 0) := by rw [cells_cell HQB.out]; rfl
        have c3 : (w4).cell? ⟨q0, 3, none⟩ = some (.slice none 0 0) := by rw [cells_cell HQB.out]; rfl
        have f0 := cells_frozen HQB.out 0
        have f1 := cells_frozen HQB.out 1
        have f2 := cells_frozen HQB.out 2
        have f3 := cells_frozen HQB.out 3
        refine wpAnyG_ready [6] (by kernel_rfl) (by simp) ?_
        refine AllG.cons rfl (fun K hK => ?_) AllG.nil
        go_simp
        refine hK.out _ _ (fun _ => HQ.out _ HUA.out) ?_
        clear hK K
        (try simp only [Act.put, List.setIfInBounds_toArray, List.set_cons_zero, List.set_cons_succ])
        refine wpAnyG_ready [7] (by kernel_rfl) (by simp) ?_
        refine AllG.cons rfl (fun K hK => ?_) AllG.nil
        go_simp
        refine hK.out _ _ (fun e => absurd (show true = false from e) (by decide)) ?_
        clear hK K
        (try simp only [Act.put, List.setIfInBounds_toArray, List.set_cons_zero, List.set_cons_succ])
        refine wpAnyG_done (by kernel_rfl) ?_ _
        go_wp2_with fail
        go_meet
        have hb9 := setCell_block (setCell_block (setCell_block (setCell_block HQB.out 0 (.int .i64 t.kind)) 1 (.int .i64 0)) 2 (.slice none 0 0)) 3 (.slice none 0 0)
        have hqg : nG ≤ q0 := by have := HLA.out.2; have := HWs.out; omega
        have hu9 := Upd.set1 (Upd.set1 (Upd.set1 (Upd.set1 (Upd.refl _ (w4)) hqg 0 (.int .i64 t.kind)) hqg 1 (.int .i64 0)) hqg 2 (.slice none 0 0)) hqg 3 (.slice none 0 0)
        exact ⟨rb, q0, rfl, rfl, HRB.out.upd hu9 HNE.out, hb9, HNE.out, HUA.out.trans' hu9 (fun k hk e => by have := HLA.out.2; omega), HLA.out.1, HLA.out.2⟩
    case rest =>
      obtain ⟨rb, q, rfl, rfl, HR1⟩ := hcut
      have HGB : Hid (nG ≤ w.heap.size) := hgb
      have HRB0 : Hid (rb ≠ w.heap.size + 1 ∧ q ≠ w.heap.size + 1 ∧ rb ≠ q ∧ rb ≠ w.heap.size ∧ q ≠ w.heap.size ∧ nG ≤ q ∧ w.heap.size + 2 ≤ q ∧ w.heap.size + 2 ≤ rb) := by
        have h1 := HR1.out.lr
        have h2 := HR1.out.lq
        have h3 := HWs.out
        exact ⟨by omega, by omega, HR1.out.ne, by omega, by omega, by omega, by omega, by omega⟩
      -- what stands while only the reader and the value change
      have HST : Hid (∀ y, Upd (fun k => k = rb ∨ k = q) wc y → y.cell? ⟨w.heap.size, 0, none⟩ = some (.int .i64 t.kind) ∧ y.cell? ⟨w.heap.size, 1, none⟩ = some (.slice fa t.fs.length fc) ∧ y.heap[w.heap.size + 1]? = some (.cells #[.int .i64 0, .int .i64 0, .slice none 0 0, .slice none 0 0] tVl (0, 0)) ∧ Nw w y ∧ y.heap[w.heap.size]? = some (.cells #[.int .i64 t.kind, .slice fa t.fs.length fc] tTy (0, 0))) := fun y u => by
        have hh := HRB0.out
        have k1 := u.keep (Nw.keep HR1.out.upd HB1.out) (fun e => by omega)
        have k2 := u.keep (Nw.keep HR1.out.upd HB2.out) (fun e => by omega)
        exact ⟨by rw [cells_cell k1]; rfl, by rw [cells_cell k1]; rfl, k2, (HN.out.trans HR1.out.upd).trans' u (fun k hk e => by omega), k1⟩
      have HGc := Lib.hid (HG.out.upd HR1.out.upd)
      have hnum := Lib.hid (Num_r rb (some s) wc HGc.out.g HR1.out.rdr (by have := HSL.out; show s.length ≤ _; omega))
      have hle := Lib.hid (Nat.le_trans (Wire.rNumber_le (some s) 59 0) HSL.out)
      have HB9 := Lib.hid (readF_bad (d := d) (t := t) (s := s))
      have HZ9 := Lib.hid (readF_zero (d := d) (t := t) (s := s))
      have HO9 := Lib.hid (readF_one (d := d) (t := t) (s := s))
      have HT9 := Lib.hid (fun h1 h2 h0 l hl => readF_two (d := d) (t := t) (s := s) h1 h2 h0 (l := l) hl)
      have HT8 := Lib.hid (readF_two_none (d := d) (t := t) (s := s))
      have HQB := Lib.hid HR1.out.box
      have hle' : Hid (((Wire.rNum (some s)).2.getD []).length ≤ 1000000) := hle.out
      clear hle HB1 HB2 HN HG HWs hgb HOPEN HQ
      generalize Wire.rNum (some s) = KK at *
      obtain ⟨k0, s1⟩ := KK
      dsimp only at *
      go_wp2_with fail
      (with_reducible refine (hnum.out).mono ?_)
      rintro _ w2 ⟨rfl, hr2, u2⟩
      have hf2 := Lib.hid (failed_c rb s1 w2 hr2)
      have HU2 : Hid (Upd (fun k => k = rb ∨ k = q) wc w2) := u2.mono (fun k _ e => Or.inl e)
      have HX2 : Hid (w2.heap[q]? = some (.cells #[.int .i64 t.kind, .int .i64 0, .slice none 0 0, .slice none 0 0] tVl (0, 0))) := u2.keep HQB.out (fun e => HRB0.out.2.2.1 e.symm)
      have HR2 := Lib.hid hr2
      obtain ⟨m0, m1, m2, m3, m4⟩ := HST.out w2 HU2.out
      have HR9 := Lib.hid m2
      have HU9 := Lib.hid m3
      have HX := Lib.hid HX2.out
      clear hnum hr2 u2 HQB m2 m3 m4
      cases hn : s1.isNone with
      | true =>
        rw [hn] at hf2
        have e9 := HB9.out (Or.inl hn)
        have HV : Hid (∀ v, Fm.readF (d + 1) t s = some v → t.kind = v.kind ∧ (0 : Int) = v.n ∧ VlAt (fun j => w.heap.size + 2 ≤ j) w2 (.slice none 0 0) (.slice none 0 0) v) := fun v hv => by rw [e9] at hv; cases hv
        go_wp2_with fail
        (with_reducible refine (hf2.out).mono ?_)
        rintro _ _ ⟨rfl, rfl⟩
        -- the way out: the world w2, the answer's flag false is that of e9 ; HX: the value's cells, HR9: the result's cells, HU9: the step from w, HV: what is read
        obtain ⟨x0, x1, x2, x3⟩ := cell4F HX.out
        obtain ⟨d0, d1, d2, d3⟩ := cell4F HR9.out
        obtain ⟨f0, f1, f2, f3⟩ := froz4F HR9.out
        have hz := rd_exit HGB.out rfl HR9.out HU9.out _ _ _ _ HV.out
        go_wp2_with fail
        obtain ⟨hz1, hz2⟩ := hz
        refine bodyPost_ret (rd_results (b := false) _ _ ?_ ?_ hz1) ?_ ?_
        · rfl
        · rfl
        · rfl
        exact ⟨_, _, _, _, _, _, _, _, by rw [(e9)]; rfl, hz2⟩
      | false =>
      rw [hn] at hf2
      by_cases hk0 : k0 = t.kind
      rotate_left
      · have e9 := HB9.out (Or.inr hk0)
        have b0 : (k0 == t.kind) = false := by simp [hk0]
        have HV : Hid (∀ v, Fm.readF (d + 1) t s = some v → t.kind = v.kind ∧ (0 : Int) = v.n ∧ VlAt (fun j => w.heap.size + 2 ≤ j) w2 (.slice none 0 0) (.slice none 0 0) v) := fun v hv => by rw [e9] at hv; cases hv
        go_wp2_with fail
        (with_reducible refine (hf2.out).mono ?_)
        rintro _ _ ⟨rfl, rfl⟩
        -- the way out: the world w2, the answer's flag false is that of e9 ; HX: the value's cells, HR9: the result's cells, HU9: the step from w, HV: what is read
        obtain ⟨x0, x1, x2, x3⟩ := cell4F HX.out
        obtain ⟨d0, d1, d2, d3⟩ := cell4F HR9.out
        obtain ⟨f0, f1, f2, f3⟩ := froz4F HR9.out
        have hz := rd_exit HGB.out rfl HR9.out HU9.out _ _ _ _ HV.out
        go_wp2_with fail
        obtain ⟨hz1, hz2⟩ := hz
        refine bodyPost_ret (rd_results (b := false) _ _ ?_ ?_ hz1) ?_ ?_
        · rfl
        · rfl
        · rfl
        exact ⟨_, _, _, _, _, _, _, _, by rw [(e9)]; rfl, hz2⟩
      subst hk0
      have b0 : (t.kind == t.kind) = true := by simp
      have hk := HKK.out
      have e2 : (t.kind == 2) = true := by simp [hk]
      have hent := Lib.hid (entries_fm rb s1 w2 (HGc.out.g.upd HU2.out) HR2.out (by have := hle'.out; omega))
      have HT := Lib.hid (fun l hl => HT9.out hn rfl hk l hl)
      have HTn := Lib.hid (fun hl => HT8.out hn rfl hk hl)
      have HEL : Hid (∀ l, Fm.entG [] s1 = some l → ∀ x, ((Fm.getE l x).getD []).length ≤ 1000000) := fun l hl x => Nat.le_trans (getE_len hl x) hle'.out
      clear hk HZ9 HO9 HT9 HT8 HB9
      generalize Fm.entG [] s1 = EG at *
      go_wp2_with fail
      (with_reducible refine (hf2.out).mono ?_)
      rintro _ _ ⟨rfl, rfl⟩
      clear hf2
      go_wp2_with fail
      (with_reducible refine (hent.out).mono ?_)
      rintro _ w3 ⟨mv, rfl, hm, ⟨s4, hr4⟩, u3⟩
      clear hent
      have HU3 : Hid (Upd (fun k => k = rb ∨ k = q) wc w3) := HU2.out.trans' u3 (fun k _ e => Or.inl e)
      have HX3 : Hid (w3.heap[q]? = some (.cells #[.int .i64 t.kind, .int .i64 0, .slice none 0 0, .slice none 0 0] tVl (0, 0))) := u3.keep HX.out (fun e => HRB0.out.2.2.1 e.symm)
      have HW2S := Lib.hid HU2.out.size
      clear HX HR9 HU9 m0 m1
      obtain ⟨m0, m1, m2, m3, m4⟩ := HST.out w3 HU3.out
      have HR9 := Lib.hid m2
      have HU9 := Lib.hid m3
      have HX := Lib.hid HX3.out
      have HU3W := Lib.hid u3
      clear m2 m3 m4 u3
      cases EG with
      | none =>
        have e9 := HTn.out rfl
        have HV : Hid (∀ v, Fm.readF (d + 1) t s = some v → t.kind = v.kind ∧ (0 : Int) = v.n ∧ VlAt (fun j => w.heap.size + 2 ≤ j) w3 (.slice none 0 0) (.slice none 0 0) v) := fun v hv => by rw [e9] at hv; cases hv
        clear hm hr4
        -- the way out: the world w3, the answer's flag false is that of e9 ; HX: the value's cells, HR9: the result's cells, HU9: the step from w, HV: what is read
        obtain ⟨x0, x1, x2, x3⟩ := cell4F HX.out
        obtain ⟨d0, d1, d2, d3⟩ := cell4F HR9.out
        obtain ⟨f0, f1, f2, f3⟩ := froz4F HR9.out
        have hz := rd_exit HGB.out rfl HR9.out HU9.out _ _ _ _ HV.out
        go_wp2_with fail
        obtain ⟨hz1, hz2⟩ := hz
        refine bodyPost_ret (rd_results (b := false) _ _ ?_ ?_ hz1) ?_ ?_
        · rfl
        · rfl
        · rfl
        exact ⟨_, _, _, _, _, _, _, _, by rw [(e9)]; rfl, hz2⟩
      | some l =>
      obtain ⟨mb, rfl, hmb1, hmp⟩ := hm l rfl
      have HMP := Lib.hid hmp
      have hq3 := lt_of_block HX.out
      have hmb2 := hmp.lt
      have hqw : q < w2.heap.size := by
        have h1 := lt_of_block HR1.out.box
        have h2 := HU2.out.size
        omega
      have HLT : Hid (q < w3.heap.size ∧ mb < w3.heap.size ∧ q < mb ∧ w.heap.size + 2 ≤ q ∧ nG ≤ q) := ⟨hq3, hmb2, by omega, HRB0.out.2.2.2.2.2.2.1, HRB0.out.2.2.2.2.2.1⟩
      have HEL1 := Lib.hid (HEL.out l rfl)
      have HT1 := Lib.hid (HT.out l rfl)
      clear hm hr4 hmb1 hmp hq3 hmb2 hqw HEL HT HTn
      go_wp2_with fail
      go_loopw [69] (fun iv wr => ∃ n : Nat, n ≤ t.fs.length ∧ iv = .int .i64 (n : Int) ∧ Hid (∃ nv vv C, wr.heap[q]? = some (.cells #[.int .i64 t.kind, .int .i64 0, nv, vv] tVl (0, 0)) ∧ VB w3.heap.size wr nv vv ((t.fs.take n).map (·.1)) C ∧ C.map VC.v = (t.fs.take n).map (fun f => (oneR d l f).getD Fm.noV)) ∧ Hid (∀ f ∈ t.fs.take n, ((Fm.getE l f.1).isSome && (oneR d l f).isSome) = true) ∧ Hid (Upd (fun k => k = q) w3 wr)) (fun iv _ => t.fs.length - (intOf iv).toNat)
      case atStart => exact ⟨0, Nat.zero_le _, rfl, ⟨_, _, [], HX.out, VB.nil _ _, rfl⟩, (fun f hf => by cases hf), Upd.refl _ _⟩
      case round =>
        obtain ⟨n, hn8, rfl, HV0, HALL, U⟩ := hrel
        obtain ⟨nv, vv, C, hbq, hvb, hcv⟩ := HV0.out
        obtain ⟨g0, g1, g2, g3, g4⟩ := HST.out wr (HU3.out.trans' U.out (fun k _ e => Or.inr e))
        have hCl : C.length = n := by
          have := congrArg List.length hcv
          rw [List.length_map, List.length_map, List.length_take] at this; omega
        have hNl : ((t.fs.take n).map (·.1)).length = n := by rw [List.length_map, List.length_take]; omega
        obtain ⟨na, nc, rfl⟩ := own_slF hvb.on
        obtain ⟨va, vc, rfl⟩ := own_slF hvb.ov
        rw [hNl, hCl] at hbq hvb
        have HVB := Lib.hid hvb
        have HCV := Lib.hid hcv
        have HBQ := Lib.hid hbq
        have HL := Lib.hid (And.intro hCl hNl)
        have HR9r := Lib.hid g2
        have HUr := Lib.hid g3
        clear HV0 hvb hcv hbq hCl hNl HR9 HU9 HX g0 g1 g2 g3 g4
        by_cases hlt : n < t.fs.length
        · have hlt1 : (n : Int) < t.fs.length := by omega
          have hnn : (n : Int) ≤ 8 := by omega
          rcases HFC.out with hnil | ⟨b, off, rfl, hb, hcell⟩
          · rw [hnil] at hlt; simp at hlt
          obtain ⟨sv, p0, p1, p2, hty, hsl⟩ := hcell n hlt
          obtain ⟨sa, sc, hsv, -⟩ := hty.cells
          subst hsv
          have y0 := nw_cellF HUr.out p0
          have y1 := nw_cellF HUr.out p1
          have y2 := nw_cellF HUr.out p2
          have hstT : t.fs.take (n + 1) = t.fs.take n ++ [t.fs[n]] := List.take_succ_eq_append_getElem hlt
          have HSTT := Lib.hid hstT
          have HMEM := Lib.hid (List.getElem_mem hlt)
          have HSub := Lib.hid (RT.out.sub _ (List.getElem_mem hlt))
          have HNM := Lib.hid (Fm.name_len (RT.out.name _ (List.getElem_mem hlt)))
          have HTY := Lib.hid hty
          clear hcell p0 p1 p2 hstT hty hsl
          generalize t.fs[n] = fld at *
          obtain ⟨fn, ft⟩ := fld
          dsimp only at *
          obtain ⟨wo, hwo, n0, hbx⟩ : ∃ z, z = wr.alloc (.cells #[.string ⟨fn.toArray⟩, .int .i64 ft.kind, .slice sa ft.fs.length sc] tFd) ∧ Nw wr z ∧ z.heap[wr.heap.size]? = some (.cells #[.string ⟨fn.toArray⟩, .int .i64 ft.kind, .slice sa ft.fs.length sc] tFd (0, 0)) := ⟨_, rfl, nw_alloc wr _, heap_new wr _⟩
          have HWO := Lib.hid hwo
          have HN0 := Lib.hid n0
          have HBX := Lib.hid hbx
          have HLK := Lib.hid (look_fm ((HMP.out.upd U.out (fun e => by have := HLT.out.2.2.1; omega)).nw n0) (s := fn) (by have := HNM.out; omega))
          have HRD := Lib.hid (IH.out ft _ ((Fm.getE l fn).getD []) wo (HGw.out.upd (HUr.out.trans n0)) HSub.out (HTY.out.nw (HUr.out.trans n0)) (HEL1.out fn))
          have HONE : Hid (oneR d l (fn, ft) = Fm.readF d ft ((Fm.getE l fn).getD [])) := rfl
          obtain ⟨x0, -, -⟩ : wo.cell? ⟨wr.heap.size, 0, none⟩ = some (.string ⟨fn.toArray⟩) ∧ True ∧ True := ⟨by rw [cells_cell hbx]; rfl, trivial, trivial⟩
          have x1 : wo.cell? ⟨wr.heap.size, 1, none⟩ = some (.int .i64 ft.kind) := by rw [cells_cell hbx]; rfl
          have x2 : wo.cell? ⟨wr.heap.size, 2, none⟩ = some (.slice sa ft.fs.length sc) := by rw [cells_cell hbx]; rfl
          have hwos : wo.heap.size = wr.heap.size + 1 := by rw [hwo]; simp
          have HWOS := Lib.hid hwos
          clear hwo n0 hbx hwos HFC
          go_upto_region 16 with fail
          rw [← HWO.out]
          clear HWO y0 y1 y2
          have hok : ∀ b, (Fm.getE l fn).isSome = b → Hid ((Fm.getE l fn).isSome = b) := fun b h => h
          generalize hsx : (Fm.getE l fn).getD [] = sx at *
          generalize hgo : (Fm.getE l fn).isSome = gok at *
          have HGO := Lib.hid hgo
          clear hsx hgo hok
          go_wp2_with (at_lookup; refine wpList_lookL rfl _ _ 128 true rfl _ _ _ rfl rfl HLK.out ?_)
          (with_reducible refine (HRD.out).mono ?_)
          rintro _ w5 ⟨k1, n1, xa, xl, xc, ya, yl, yc, rfl, HP5⟩
          clear HLK HRD
          generalize hro : (Fm.readF d ft sx).isSome = rok at *
          have n5 := nw_alloc w5 (.cells #[.int .i64 k1, .int .i64 n1, .slice xa xl xc, .slice ya yl yc] tVl)
          have b5 := heap_new w5 (.cells #[.int .i64 k1, .int .i64 n1, .slice xa xl xc, .slice ya yl yc] tVl)
          obtain ⟨w6, hw6⟩ : ∃ z, z = w5.alloc (.cells #[.int .i64 k1, .int .i64 n1, .slice xa xl xc, .slice ya yl yc] tVl) := ⟨_, rfl⟩
          rw [← hw6] at n5 b5
          have HW6 := Lib.hid hw6
          have HN56 := Lib.hid n5
          have HO6 : Hid (Nw wo w6) := HP5.out.2.trans n5
          have HP5S : Hid (wo.heap.size ≤ w5.heap.size) := HP5.out.2.size
          have HX6 : Hid (w6.heap[q]? = some (.cells #[.int .i64 t.kind, .int .i64 0, .slice na n nc, .slice va n vc] tVl (0, 0))) := Nw.keep HO6.out (HN0.out.keep HBQ.out)
          have HB5 := Lib.hid b5
          have HBX6 := Lib.hid (Nw.keep HO6.out HBX.out)
          have HR9 : Hid (w6.heap[w.heap.size + 1]? = some (.cells #[.int .i64 0, .int .i64 0, .slice none 0 0, .slice none 0 0] tVl (0, 0))) := Nw.keep HO6.out (HN0.out.keep HR9r.out)
          have HU9 : Hid (Nw w w6) := (HUr.out.trans HN0.out).trans HO6.out
          have HVB6 := Lib.hid ((HVB.out.nw HN0.out).nw HO6.out)
          have HRO : Hid ((Fm.readF d ft sx).isSome = rok) := hro
          have HX := Lib.hid HX6.out
          clear hw6 n5 b5 hro x0 x1 x2
          cases hgr : gok && rok with
          | false =>
            have e9 : Fm.readF (d + 1) t s = none := by
              rw [HT1.out, if_neg (all_no HMEM.out (by rw [HONE.out, HRO.out, HGO.out]; exact hgr))]
            have HV : Hid (∀ v, Fm.readF (d + 1) t s = some v → t.kind = v.kind ∧ (0 : Int) = v.n ∧ VlAt (fun j => w.heap.size + 2 ≤ j) w6 (.slice na n nc) (.slice va n vc) v) := fun v hv => by rw [e9] at hv; cases hv
            go_upto_region 18 with fail
            rw [← HW6.out]
            clear HW6
            cases gok with
            | false =>
              clear hgr
              -- the way out: the world w6, the answer's flag false is that of e9 ; HX: the value's cells, HR9: the result's cells, HU9: the step from w, HV: what is read
              obtain ⟨x0, x1, x2, x3⟩ := cell4F HX.out
              obtain ⟨d0, d1, d2, d3⟩ := cell4F HR9.out
              obtain ⟨f0, f1, f2, f3⟩ := froz4F HR9.out
              have hz := rd_exit HGB.out rfl HR9.out HU9.out _ _ _ _ HV.out
              go_wp2_with fail
              obtain ⟨hz1, hz2⟩ := hz
              refine bodyPost_ret (rd_results (b := false) _ _ ?_ ?_ hz1) ?_ ?_
              · rfl
              · rfl
              · rfl
              exact ⟨_, _, _, _, _, _, _, _, by rw [(e9)]; rfl, hz2⟩
            | true =>
              cases rok with
              | false =>
                clear hgr
                -- the way out: the world w6, the answer's flag false is that of e9 ; HX: the value's cells, HR9: the result's cells, HU9: the step from w, HV: what is read
                obtain ⟨x0, x1, x2, x3⟩ := cell4F HX.out
                obtain ⟨d0, d1, d2, d3⟩ := cell4F HR9.out
                obtain ⟨f0, f1, f2, f3⟩ := froz4F HR9.out
                have hz := rd_exit HGB.out rfl HR9.out HU9.out _ _ _ _ HV.out
                go_wp2_with fail
                obtain ⟨hz1, hz2⟩ := hz
                refine bodyPost_ret (rd_results (b := false) _ _ ?_ ?_ hz1) ?_ ?_
                · rfl
                · rfl
                · rfl
                exact ⟨_, _, _, _, _, _, _, _, by rw [(e9)]; rfl, hz2⟩
              | true => cases hgr
          | true =>
            obtain ⟨rfl, rfl⟩ : gok = true ∧ rok = true := by simpa using hgr
            clear hgr
            obtain ⟨xv, hxv⟩ := Option.isSome_iff_exists.1 HRO.out
            obtain ⟨h1, h2, h3⟩ := HP5.out.1 xv hxv
            subst h1 h2
            have HXV : Hid (oneR d l (fn, ft) = some xv) := by show _ = _; rw [HONE.out, hxv]
            have HVX : Hid (VlAt (fun j => wo.heap.size ≤ j) w6 (.slice xa xl xc) (.slice ya yl yc) xv) := h3.nw HN56.out
            clear hxv h3 HP5 HX HR9
            go_upto_region 20 with fail
            rw [← HW6.out]
            clear HW6
            have hown : Hid (∀ k, ((Value.slice na n nc).ownBlock = some k ∨ (Value.slice va n vc).ownBlock = some k) → k < wo.heap.size ∧ w3.heap.size ≤ k ∧ k ≠ wr.heap.size ∧ k ≠ w5.heap.size) := fun k e => by
              have h9 := HWOS.out
              have h8 := HP5S.out
              rcases e with e | e
              · have := HVB.out.on.lt k e; exact ⟨by omega, by omega, by omega, by omega⟩
              · have := HVB.out.ov.lt k e; exact ⟨by omega, by omega, by omega, by omega⟩
            obtain ⟨y, hy⟩ : ∃ y, y = w6.drew := ⟨_, rfl⟩
            have u6y : Nw w6 y := by rw [hy]; exact (Upd.refl _ _).drew
            have HVBy := Lib.hid (HVB6.out.nw u6y)
            have HVXy := Lib.hid (HVX.out.nw u6y)
            have HYS : Hid (wo.heap.size ≤ y.heap.size ∧ w3.heap.size ≤ wo.heap.size ∧ nG ≤ w3.heap.size) := ⟨(HO6.out.trans u6y).size, Nat.le_trans U.out.size HN0.out.size, by have := HLT.out; omega⟩
            have HUy : Hid (Upd (fun k => k = q) w3 y) := ((U.out.nw HN0.out).nw HO6.out).nw u6y
            have HP : Hid (∀ z, Upd (fun k => (Value.slice na n nc).ownBlock = some k ∨ (Value.slice va n vc).ownBlock = some k) y z → (z.cell? ⟨q, 2, none⟩ = some (.slice na n nc) ∧ z.cell? ⟨q, 3, none⟩ = some (.slice va n vc) ∧ z.cell? ⟨wr.heap.size, 0, none⟩ = some (.string ⟨fn.toArray⟩) ∧ z.cell? ⟨w5.heap.size, 0, none⟩ = some (.int .i64 xv.kind) ∧ z.cell? ⟨w5.heap.size, 1, none⟩ = some (.int .i64 xv.n) ∧ z.cell? ⟨w5.heap.size, 2, none⟩ = some (.slice xa xl xc) ∧ z.cell? ⟨w5.heap.size, 3, none⟩ = some (.slice ya yl yc))) := fun z u => by
              have hq : ∀ k, k = q → ¬ ((Value.slice na n nc).ownBlock = some k ∨ (Value.slice va n vc).ownBlock = some k) := fun k e e2 => by have := (hown.out k e2).2.1; have := HLT.out.1; omega
              have q1 := u.keep (Nw.keep u6y HX6.out) (hq q rfl)
              have q2 := u.keep (Nw.keep u6y HBX6.out) (fun e => (hown.out _ e).2.2.1 rfl)
              have q3 := u.keep (Nw.keep u6y HB5.out) (fun e => (hown.out _ e).2.2.2 rfl)
              obtain ⟨a0, a1, a2, a3⟩ := cell4F q3
              exact ⟨(cell4F q1).2.2.1, (cell4F q1).2.2.2, by rw [cells_cell q2]; rfl, a0, a1, a2, a3⟩
            have HQBy : Hid (∀ z, Upd (fun k => (Value.slice na n nc).ownBlock = some k ∨ (Value.slice va n vc).ownBlock = some k) y z → z.heap[q]? = some (.cells #[.int .i64 t.kind, .int .i64 0, .slice na n nc, .slice va n vc] tVl (0, 0))) := fun z u => u.keep (Nw.keep u6y HX6.out) (fun e2 => by have := (hown.out _ e2).2.1; have := HLT.out.1; omega)
            have HNum : Hid (0 < 1 ∧ n + 1 ≤ maxLen ∧ (n + 1) * 16 ≤ 140737488355328 ∧ (n + 1) * 64 ≤ 140737488355328) := ⟨by omega, by unfold maxLen; omega, by omega, by omega⟩
            have HY := Lib.hid hy
            have HS0 := Lib.hid (HP.out y (Upd.refl _ _))
            clear hy u6y HX6 HVB6 HB5 HBX6 HVX HVB HBQ HO6 HN56
            generalize w5.heap.size = p5 at *
            generalize wr.heap.size = p4 at *
            refine wp_region_G (fun z => z.cell? ⟨q, 2, none⟩ = some (.slice na n nc) ∧ z.cell? ⟨q, 3, none⟩ = some (.slice va n vc) ∧ z.cell? ⟨p4, 0, none⟩ = some (.string ⟨fn.toArray⟩) ∧ z.cell? ⟨p5, 0, none⟩ = some (.int .i64 xv.kind) ∧ z.cell? ⟨p5, 1, none⟩ = some (.int .i64 xv.n) ∧ z.cell? ⟨p5, 2, none⟩ = some (.slice xa xl xc) ∧ z.cell? ⟨p5, 3, none⟩ = some (.slice ya yl yc)) 10 (by kernel_rfl) ?_
            rw [← HY.out]
            clear HY
            refine wpAnyG_pure (i := 0) (v := ?_) rfl (by kernel_rfl) (by kernel_rfl) (by kernel_rfl) (by kernel_rfl) (by kernel_rfl) (fun _ _ _ h => h) (by kernel_rfl) ?_ (fun _ => HS0.out) ?_
            rotate_left 1
            · (intro zz; go_simp; first | done | with_reducible rfl)
            (try simp only [Act.put, List.setIfInBounds_toArray, List.set_cons_zero, List.set_cons_succ])
            refine wpAnyG_pure (i := 2) (v := ?_) rfl (by kernel_rfl) (by kernel_rfl) (by kernel_rfl) (by kernel_rfl) (by kernel_rfl) (fun _ _ _ h => h) (by kernel_rfl) ?_ (fun _ => HS0.out) ?_
            rotate_left 1
            · (intro zz; go_simp; first | done | with_reducible rfl)
            (try simp only [Act.put, List.setIfInBounds_toArray, List.set_cons_zero, List.set_cons_succ])
            refine wpAnyG_pure (i := 6) (v := ?_) rfl (by kernel_rfl) (by kernel_rfl) (by kernel_rfl) (by kernel_rfl) (by kernel_rfl) (fun _ _ _ h => h) (by kernel_rfl) ?_ (fun _ => HS0.out) ?_
            rotate_left 1
            · (intro zz; go_simp; first | done | with_reducible rfl)
            (try simp only [Act.put, List.setIfInBounds_toArray, List.set_cons_zero, List.set_cons_succ])
            refine wpAnyG_load (i := 1) (v := ?_) [5] rfl (by kernel_rfl) (by kernel_rfl) (by kernel_rfl) (by kernel_rfl) (by kernel_rfl) (by kernel_rfl) (fun _ _ _ h => h) (by kernel_rfl) ?_ (fun _ => HS0.out) ?_
            rotate_left 1
            · (intro zz hS; obtain ⟨_, _, _, _, _, _, _⟩ := hS; go_simp; first | done | with_reducible rfl)
            (try simp only [Act.put, List.setIfInBounds_toArray, List.set_cons_zero, List.set_cons_succ])
            refine wpAnyG_load (i := 3) (v := ?_) [5, 4] rfl (by kernel_rfl) (by kernel_rfl) (by kernel_rfl) (by kernel_rfl) (by kernel_rfl) (by kernel_rfl) (fun _ _ _ h => h) (by kernel_rfl) ?_ (fun _ => HS0.out) ?_
            rotate_left 1
            · (intro zz hS; obtain ⟨_, _, _, _, _, _, _⟩ := hS; go_simp; first | done | with_reducible rfl)
            (try simp only [Act.put, List.setIfInBounds_toArray, List.set_cons_zero, List.set_cons_succ])
            refine wpAnyG_load (i := 7) (v := ?_) [] rfl (by kernel_rfl) (by kernel_rfl) (by kernel_rfl) (by kernel_rfl) (by kernel_rfl) (by kernel_rfl) (fun _ _ _ h => h) (by kernel_rfl) ?_ (fun _ => HS0.out) ?_
            rotate_left 1
            · (intro zz hS; obtain ⟨_, _, _, _, _, _, _⟩ := hS; go_simp; first | done | with_reducible rfl)
            (try simp only [Act.put, List.setIfInBounds_toArray, List.set_cons_zero, List.set_cons_succ])
            refine wpAnyG_load (i := 8) (v := ?_) [9] rfl (by kernel_rfl) (by kernel_rfl) (by kernel_rfl) (by kernel_rfl) (by kernel_rfl) (by kernel_rfl) (fun _ _ _ h => h) (by kernel_rfl) ?_ (fun _ => HS0.out) ?_
            rotate_left 1
            · (intro zz hS; obtain ⟨_, _, _, _, _, _, _⟩ := hS; go_simp; first | done | with_reducible rfl)
            (try simp only [Act.put, List.setIfInBounds_toArray, List.set_cons_zero, List.set_cons_succ])
            refine wpAnyG_ready [4, 9] (by kernel_rfl) (by simp) ?_
            refine AllG.cons rfl (fun K hK => ?_) (AllG.cons rfl (fun K hK => ?_) AllG.nil)
            · -- the slice of the one name, made in y: the world za, the block bs
              have nza := nw_alloc (y) (.cells #[.string ⟨fn.toArray⟩] 9)
              have bza := heap_new (y) (.cells #[.string ⟨fn.toArray⟩] 9)
              obtain ⟨za, hza⟩ : ∃ z, z = (y).alloc (.cells #[.string ⟨fn.toArray⟩] 9) := ⟨_, rfl⟩
              rw [← hza] at nza bza
              have Hza := Lib.hid hza
              clear hza
              go_simp
              rw [← Hza.out]
              clear Hza
              obtain ⟨bs, hbs⟩ : ∃ z, z = (y).heap.size := ⟨_, rfl⟩
              rw [← hbs] at bza
              rw [← hbs]
              refine hK.out _ _ (fun _ => HP.out _ (by first | exact Nw.upd _ nza | exact Nw.upd _ (HWA0.out.trans nza))) ?_
              clear hK K
              (try simp only [Act.put, List.setIfInBounds_toArray, List.set_cons_zero, List.set_cons_succ])
              clear hbs
              refine wpAnyG_ready [5, 9] (by kernel_rfl) (by simp) ?_
              refine AllG.cons rfl (fun K hK => ?_) (AllG.cons rfl (fun K hK => ?_) AllG.nil)
              · have HBS := Lib.hid bza
                have HWA := Lib.hid nza
                -- the names' append at the world za (HWA: behind y; HBS: the one name at the block bs): the world wb
                have HON : Hid ((za).ownsRow w3.heap.size 9 1 (.slice na n nc) n (((t.fs.take n).map (·.1)).map sF)) := by
                  have := (HVBy.out.nw HWA.out).on
                  rw [HL.out.2] at this; exact this
                refine step_catC rfl _ _ 56 rfl 9 _ 1 16 Tryz.underlying56 infoStrF rfl (by decide) w3.heap.size (by have := HYS.out; have := HWA.out.size; omega) HYS.out.2.2 _ n _ rfl HON.out ⟨bs, 0, none⟩ 1 1 [.string ⟨fn.toArray⟩] rfl rfl (World.news_of_block (cs := #[.string ⟨fn.toArray⟩]) (t := 9) (fr := (0, 0)) HBS.out) (by intro u hu; rw [List.mem_singleton.1 hu]; rfl) HNum.out.1 HNum.out.2.1 HNum.out.2.2.1 ?_
                intro ga ca wb ob ub0 hbb
                have uyb : Hid (Upd (fun k => (Value.slice na n nc).ownBlock = some k ∨ (Value.slice va n vc).ownBlock = some k) y wb) := Nw.trans HWA.out (ub0.mono (fun k _ e => Or.inl e))
                refine hK.out _ _ (fun _ => HP.out _ uyb.out) ?_
                clear hK K
                (try simp only [Act.put, List.setIfInBounds_toArray, List.set_cons_zero, List.set_cons_succ])
                refine wpAnyG_pure (i := 11) (v := ?_) rfl (by kernel_rfl) (by kernel_rfl) (by kernel_rfl) (by kernel_rfl) (by kernel_rfl) (fun _ _ _ h => h) (by kernel_rfl) ?_ (fun _ => HP.out _ uyb.out) ?_
                rotate_left 1
                · (intro zz; go_simp; first | done | with_reducible rfl)
                (try simp only [Act.put, List.setIfInBounds_toArray, List.set_cons_zero, List.set_cons_succ])
                refine wpAnyG_ready [9] (by kernel_rfl) (by simp) ?_
                refine AllG.cons rfl (fun K hK => ?_) AllG.nil
                -- the slice of the one value, made in wb: the world wd, the block bv
                have nwd := nw_alloc (wb) (.cells #[.int .i64 xv.kind, .int .i64 xv.n, .slice xa xl xc, .slice ya yl yc] tVl)
                have bwd := heap_new (wb) (.cells #[.int .i64 xv.kind, .int .i64 xv.n, .slice xa xl xc, .slice ya yl yc] tVl)
                obtain ⟨wd, hwd⟩ : ∃ z, z = (wb).alloc (.cells #[.int .i64 xv.kind, .int .i64 xv.n, .slice xa xl xc, .slice ya yl yc] tVl) := ⟨_, rfl⟩
                rw [← hwd] at nwd bwd
                have Hwd := Lib.hid hwd
                clear hwd
                go_simp
                rw [← Hwd.out]
                clear Hwd
                obtain ⟨bv, hbv⟩ : ∃ z, z = (wb).heap.size := ⟨_, rfl⟩
                rw [← hbv] at bwd
                rw [← hbv]
                refine hK.out _ _ (fun _ => HP.out _ (by first | exact Nw.upd _ nwd | exact Nw.upd _ (HWA0.out.trans nwd) | exact uyb.out.nw nwd)) ?_
                clear hK K
                (try simp only [Act.put, List.setIfInBounds_toArray, List.set_cons_zero, List.set_cons_succ])
                have Hbv := Lib.hid hbv
                clear hbv
                have hbv := Hbv.out
                clear Hbv
                have HBV := Lib.hid bwd
                have HWD := Lib.hid nwd
                -- the values' append at the world wd (HWD: behind wb; HBV: the one value at the block bv): the world we; the stores; the round's end
                have HOV : Hid ((wd).ownsRow w3.heap.size tVl 4 (.slice va n vc) n (C.map vcL).flatten) := by
                  have h := (HVBy.out.nw HWA.out).ov
                  rw [HL.out.1] at h
                  have hne := (HVBy.out.nw HWA.out).ne
                  exact owns_upd' (owns_upd' h ub0 (fun k e e2 => hne k e2 e)) HWD.out (fun _ _ e => e)
                refine wpAnyG_ready [10] (by kernel_rfl) (by simp) ?_
                refine AllG.cons rfl (fun K hK => ?_) AllG.nil
                refine step_catC rfl _ _ 54 rfl tVl _ 4 64 Tryz.underlying54 infoVlF rfl (by decide) w3.heap.size (by have := HYS.out; have := uyb.out.size; have := HWD.out.size; omega) HYS.out.2.2 _ n _ rfl HOV.out ⟨bv, 0, none⟩ 1 1 [.int .i64 xv.kind, .int .i64 xv.n, .slice xa xl xc, .slice ya yl yc] rfl rfl (World.news_of_block (cs := #[.int .i64 xv.kind, .int .i64 xv.n, .slice xa xl xc, .slice ya yl yc]) (t := tVl) (fr := (0, 0)) HBV.out) (by intro u hu; simp at hu; rcases hu with rfl | rfl | rfl | rfl <;> rfl) HNum.out.1 HNum.out.2.1 HNum.out.2.2.2 ?_
                intro gd cd we oe ue0 hbe
                have ue : Hid (Upd (fun k => (Value.slice na n nc).ownBlock = some k ∨ (Value.slice va n vc).ownBlock = some k) y we) := (uyb.out.nw HWD.out).trans' ue0 (fun k _ e => Or.inr e)
                have HPU := Lib.hid (vb_push2 HVBy.out (Nat.le_trans HNM.out (by unfold maxLen; omega)) (fun k e => (hown.out k e).1) HYS.out.2.1 HYS.out.1 HVXy.out HWA.out (by rw [HL.out.2]; exact ob) ub0 (fun k e => by
                  have e' : ga = k := by simpa [Value.ownBlock] using e
                  subst e'; exact hbb) HWD.out (by rw [HL.out.1]; exact oe) ue0 (fun k e => by
                  have e' : gd = k := by simpa [Value.ownBlock] using e
                  subst e'; exact hbe))
                have hqe := HQBy.out _ ue.out
                obtain ⟨c0, c1, c2, c3⟩ := cell4F hqe
                obtain ⟨f0, f1, f2, f3⟩ := froz4F hqe
                have hbq2 := setCell_block (setCell_block hqe 2 (.slice (some ⟨ga, 0, none⟩) (n + 1) ca)) 3 (.slice (some ⟨gd, 0, none⟩) (n + 1) cd)
                have uS := Upd.set1 (Upd.set1 (Upd.refl _ we) HLT.out.2.2.2.2 2 (.slice (some ⟨ga, 0, none⟩) (n + 1) ca)) HLT.out.2.2.2.2 3 (.slice (some ⟨gd, 0, none⟩) (n + 1) cd)
                have hp2 := HPU.out.1.upd uS (fun k hk _ e => by have := HLT.out.1; omega)
                have uA : Upd (fun k => k = q) w3 we := HUy.out.trans' ue.out (fun k hk e => by have := (hown.out k e).2.1; omega)
                have uB := uA.trans' uS (fun k _ e => e)
                have HREL : Hid (∃ nv vv C', ((we.setCell ⟨q, 2, none⟩ (.slice (some ⟨ga, 0, none⟩) (n + 1) ca)).setCell ⟨q, 3, none⟩ (.slice (some ⟨gd, 0, none⟩) (n + 1) cd)).heap[q]? = some (.cells #[.int .i64 t.kind, .int .i64 0, nv, vv] tVl (0, 0)) ∧ VB w3.heap.size ((we.setCell ⟨q, 2, none⟩ (.slice (some ⟨ga, 0, none⟩) (n + 1) ca)).setCell ⟨q, 3, none⟩ (.slice (some ⟨gd, 0, none⟩) (n + 1) cd)) nv vv ((t.fs.take (n + 1)).map (·.1)) C' ∧ C'.map VC.v = (t.fs.take (n + 1)).map (fun f => (oneR d l f).getD Fm.noV)) := by
                  refine ⟨_, _, C ++ [⟨.slice xa xl xc, .slice ya yl yc, xv⟩], hbq2, ?_, ?_⟩
                  · rw [HSTT.out, List.map_append]; exact hp2
                  · rw [HSTT.out, List.map_append, List.map_append, HCV.out]
                    show _ = _ ++ [(oneR d l (fn, ft)).getD Fm.noV]
                    rw [HXV.out]; rfl
                have HALL2 : Hid (∀ f ∈ t.fs.take (n + 1), ((Fm.getE l f.1).isSome && (oneR d l f).isSome) = true) := fun f hf => by
                  rw [HSTT.out] at hf
                  rcases List.mem_append.1 hf with hf | hf
                  · exact HALL.out f hf
                  · rw [List.mem_singleton.1 hf, HXV.out, HGO.out]; rfl
                have HUB := Lib.hid uB
                clear hqe hbq2 uS hp2 uA uB
                refine hK.out _ _ (fun e => absurd (show true = false from e) (by decide)) ?_
                clear hK K
                (try simp only [Act.put, List.setIfInBounds_toArray, List.set_cons_zero, List.set_cons_succ])
                refine wpAnyG_ready [12] (by kernel_rfl) (by simp) ?_
                refine AllG.cons rfl (fun K hK => ?_) AllG.nil
                go_simp
                refine hK.out _ _ (fun e => absurd (show true = false from e) (by decide)) ?_
                clear hK K
                (try simp only [Act.put, List.setIfInBounds_toArray, List.set_cons_zero, List.set_cons_succ])
                refine wpAnyG_pure (i := 13) (v := ?_) rfl (by kernel_rfl) (by kernel_rfl) (by kernel_rfl) (by kernel_rfl) (by kernel_rfl) (fun _ _ _ h => h) (by kernel_rfl) ?_ (fun e => absurd (show true = false from e) (by decide)) ?_
                rotate_left 1
                · (intro zz; go_simp; first | done | with_reducible rfl)
                (try simp only [Act.put, List.setIfInBounds_toArray, List.set_cons_zero, List.set_cons_succ])
                refine wpAnyG_ready [14] (by kernel_rfl) (by simp) ?_
                refine AllG.cons rfl (fun K hK => ?_) AllG.nil
                go_simp
                refine hK.out _ _ (fun e => absurd (show true = false from e) (by decide)) ?_
                clear hK K
                (try simp only [Act.put, List.setIfInBounds_toArray, List.set_cons_zero, List.set_cons_succ])
                refine wpAnyG_done (by kernel_rfl) ?_ _
                go_wp2_with fail
                go_roundw
                case rel => exact ⟨n + 1, by omega, by go_num, HREL.out, HALL2.out, HUB.out⟩
                case measure => simp [intOf]; omega
              · have HBS0 := Lib.hid bza
                have HWA0 := Lib.hid nza
                clear bza nza
                -- the slice of the one value, made in za: the world zb, the block bv
                have nzb := nw_alloc (za) (.cells #[.int .i64 xv.kind, .int .i64 xv.n, .slice xa xl xc, .slice ya yl yc] tVl)
                have bzb := heap_new (za) (.cells #[.int .i64 xv.kind, .int .i64 xv.n, .slice xa xl xc, .slice ya yl yc] tVl)
                obtain ⟨zb, hzb⟩ : ∃ z, z = (za).alloc (.cells #[.int .i64 xv.kind, .int .i64 xv.n, .slice xa xl xc, .slice ya yl yc] tVl) := ⟨_, rfl⟩
                rw [← hzb] at nzb bzb
                have Hzb := Lib.hid hzb
                clear hzb
                go_simp
                rw [← Hzb.out]
                clear Hzb
                obtain ⟨bv, hbv⟩ : ∃ z, z = (za).heap.size := ⟨_, rfl⟩
                rw [← hbv] at bzb
                rw [← hbv]
                refine hK.out _ _ (fun _ => HP.out _ (by first | exact Nw.upd _ nzb | exact Nw.upd _ (HWA0.out.trans nzb) | exact uyb.out.nw nzb)) ?_
                clear hK K
                (try simp only [Act.put, List.setIfInBounds_toArray, List.set_cons_zero, List.set_cons_succ])
                have Hbv := Lib.hid hbv
                clear hbv
                have hbv := Hbv.out
                clear Hbv
                have HBS := Lib.hid (Nw.keep nzb HBS0.out)
                have HWA := Lib.hid (HWA0.out.trans nzb)
                have HBV0 := Lib.hid bzb
                have hbvlt : Hid (y.heap.size ≤ bv) := by rw [hbv]; exact HWA0.out.size
                clear hbv
                refine wpAnyG_ready [5] (by kernel_rfl) (by simp) ?_
                refine AllG.cons rfl (fun K hK => ?_) AllG.nil
                -- the names' append at the world zb (HWA: behind y; HBS: the one name at the block bs): the world wb
                have HON : Hid ((zb).ownsRow w3.heap.size 9 1 (.slice na n nc) n (((t.fs.take n).map (·.1)).map sF)) := by
                  have := (HVBy.out.nw HWA.out).on
                  rw [HL.out.2] at this; exact this
                refine step_catC rfl _ _ 56 rfl 9 _ 1 16 Tryz.underlying56 infoStrF rfl (by decide) w3.heap.size (by have := HYS.out; have := HWA.out.size; omega) HYS.out.2.2 _ n _ rfl HON.out ⟨bs, 0, none⟩ 1 1 [.string ⟨fn.toArray⟩] rfl rfl (World.news_of_block (cs := #[.string ⟨fn.toArray⟩]) (t := 9) (fr := (0, 0)) HBS.out) (by intro u hu; rw [List.mem_singleton.1 hu]; rfl) HNum.out.1 HNum.out.2.1 HNum.out.2.2.1 ?_
                intro ga ca wb ob ub0 hbb
                have uyb : Hid (Upd (fun k => (Value.slice na n nc).ownBlock = some k ∨ (Value.slice va n vc).ownBlock = some k) y wb) := Nw.trans HWA.out (ub0.mono (fun k _ e => Or.inl e))
                refine hK.out _ _ (fun _ => HP.out _ uyb.out) ?_
                clear hK K
                (try simp only [Act.put, List.setIfInBounds_toArray, List.set_cons_zero, List.set_cons_succ])
                refine wpAnyG_pure (i := 11) (v := ?_) rfl (by kernel_rfl) (by kernel_rfl) (by kernel_rfl) (by kernel_rfl) (by kernel_rfl) (fun _ _ _ h => h) (by kernel_rfl) ?_ (fun _ => HP.out _ uyb.out) ?_
                rotate_left 1
                · (intro zz; go_simp; first | done | with_reducible rfl)
                (try simp only [Act.put, List.setIfInBounds_toArray, List.set_cons_zero, List.set_cons_succ])
                have HBV := Lib.hid (ub0.keep HBV0.out (fun e => by have := (hown.out _ (Or.inl e)).1; have := hbvlt.out; have := HYS.out.1; omega))
                have HWD : Hid (Nw wb wb) := Upd.refl _ _
                -- the values' append at the world wb (HWD: behind wb; HBV: the one value at the block bv): the world we; the stores; the round's end
                have HOV : Hid ((wb).ownsRow w3.heap.size tVl 4 (.slice va n vc) n (C.map vcL).flatten) := by
                  have h := (HVBy.out.nw HWA.out).ov
                  rw [HL.out.1] at h
                  have hne := (HVBy.out.nw HWA.out).ne
                  exact owns_upd' (owns_upd' h ub0 (fun k e e2 => hne k e2 e)) HWD.out (fun _ _ e => e)
                refine wpAnyG_ready [10] (by kernel_rfl) (by simp) ?_
                refine AllG.cons rfl (fun K hK => ?_) AllG.nil
                refine step_catC rfl _ _ 54 rfl tVl _ 4 64 Tryz.underlying54 infoVlF rfl (by decide) w3.heap.size (by have := HYS.out; have := uyb.out.size; have := HWD.out.size; omega) HYS.out.2.2 _ n _ rfl HOV.out ⟨bv, 0, none⟩ 1 1 [.int .i64 xv.kind, .int .i64 xv.n, .slice xa xl xc, .slice ya yl yc] rfl rfl (World.news_of_block (cs := #[.int .i64 xv.kind, .int .i64 xv.n, .slice xa xl xc, .slice ya yl yc]) (t := tVl) (fr := (0, 0)) HBV.out) (by intro u hu; simp at hu; rcases hu with rfl | rfl | rfl | rfl <;> rfl) HNum.out.1 HNum.out.2.1 HNum.out.2.2.2 ?_
                intro gd cd we oe ue0 hbe
                have ue : Hid (Upd (fun k => (Value.slice na n nc).ownBlock = some k ∨ (Value.slice va n vc).ownBlock = some k) y we) := (uyb.out.nw HWD.out).trans' ue0 (fun k _ e => Or.inr e)
                have HPU := Lib.hid (vb_push2 HVBy.out (Nat.le_trans HNM.out (by unfold maxLen; omega)) (fun k e => (hown.out k e).1) HYS.out.2.1 HYS.out.1 HVXy.out HWA.out (by rw [HL.out.2]; exact ob) ub0 (fun k e => by
                  have e' : ga = k := by simpa [Value.ownBlock] using e
                  subst e'; exact hbb) HWD.out (by rw [HL.out.1]; exact oe) ue0 (fun k e => by
                  have e' : gd = k := by simpa [Value.ownBlock] using e
                  subst e'; exact hbe))
                have hqe := HQBy.out _ ue.out
                obtain ⟨c0, c1, c2, c3⟩ := cell4F hqe
                obtain ⟨f0, f1, f2, f3⟩ := froz4F hqe
                have hbq2 := setCell_block (setCell_block hqe 2 (.slice (some ⟨ga, 0, none⟩) (n + 1) ca)) 3 (.slice (some ⟨gd, 0, none⟩) (n + 1) cd)
                have uS := Upd.set1 (Upd.set1 (Upd.refl _ we) HLT.out.2.2.2.2 2 (.slice (some ⟨ga, 0, none⟩) (n + 1) ca)) HLT.out.2.2.2.2 3 (.slice (some ⟨gd, 0, none⟩) (n + 1) cd)
                have hp2 := HPU.out.1.upd uS (fun k hk _ e => by have := HLT.out.1; omega)
                have uA : Upd (fun k => k = q) w3 we := HUy.out.trans' ue.out (fun k hk e => by have := (hown.out k e).2.1; omega)
                have uB := uA.trans' uS (fun k _ e => e)
                have HREL : Hid (∃ nv vv C', ((we.setCell ⟨q, 2, none⟩ (.slice (some ⟨ga, 0, none⟩) (n + 1) ca)).setCell ⟨q, 3, none⟩ (.slice (some ⟨gd, 0, none⟩) (n + 1) cd)).heap[q]? = some (.cells #[.int .i64 t.kind, .int .i64 0, nv, vv] tVl (0, 0)) ∧ VB w3.heap.size ((we.setCell ⟨q, 2, none⟩ (.slice (some ⟨ga, 0, none⟩) (n + 1) ca)).setCell ⟨q, 3, none⟩ (.slice (some ⟨gd, 0, none⟩) (n + 1) cd)) nv vv ((t.fs.take (n + 1)).map (·.1)) C' ∧ C'.map VC.v = (t.fs.take (n + 1)).map (fun f => (oneR d l f).getD Fm.noV)) := by
                  refine ⟨_, _, C ++ [⟨.slice xa xl xc, .slice ya yl yc, xv⟩], hbq2, ?_, ?_⟩
                  · rw [HSTT.out, List.map_append]; exact hp2
                  · rw [HSTT.out, List.map_append, List.map_append, HCV.out]
                    show _ = _ ++ [(oneR d l (fn, ft)).getD Fm.noV]
                    rw [HXV.out]; rfl
                have HALL2 : Hid (∀ f ∈ t.fs.take (n + 1), ((Fm.getE l f.1).isSome && (oneR d l f).isSome) = true) := fun f hf => by
                  rw [HSTT.out] at hf
                  rcases List.mem_append.1 hf with hf | hf
                  · exact HALL.out f hf
                  · rw [List.mem_singleton.1 hf, HXV.out, HGO.out]; rfl
                have HUB := Lib.hid uB
                clear hqe hbq2 uS hp2 uA uB
                refine hK.out _ _ (fun e => absurd (show true = false from e) (by decide)) ?_
                clear hK K
                (try simp only [Act.put, List.setIfInBounds_toArray, List.set_cons_zero, List.set_cons_succ])
                refine wpAnyG_ready [12] (by kernel_rfl) (by simp) ?_
                refine AllG.cons rfl (fun K hK => ?_) AllG.nil
                go_simp
                refine hK.out _ _ (fun e => absurd (show true = false from e) (by decide)) ?_
                clear hK K
                (try simp only [Act.put, List.setIfInBounds_toArray, List.set_cons_zero, List.set_cons_succ])
                refine wpAnyG_pure (i := 13) (v := ?_) rfl (by kernel_rfl) (by kernel_rfl) (by kernel_rfl) (by kernel_rfl) (by kernel_rfl) (fun _ _ _ h => h) (by kernel_rfl) ?_ (fun e => absurd (show true = false from e) (by decide)) ?_
                rotate_left 1
                · (intro zz; go_simp; first | done | with_reducible rfl)
                (try simp only [Act.put, List.setIfInBounds_toArray, List.set_cons_zero, List.set_cons_succ])
                refine wpAnyG_ready [14] (by kernel_rfl) (by simp) ?_
                refine AllG.cons rfl (fun K hK => ?_) AllG.nil
                go_simp
                refine hK.out _ _ (fun e => absurd (show true = false from e) (by decide)) ?_
                clear hK K
                (try simp only [Act.put, List.setIfInBounds_toArray, List.set_cons_zero, List.set_cons_succ])
                refine wpAnyG_done (by kernel_rfl) ?_ _
                go_wp2_with fail
                go_roundw
                case rel => exact ⟨n + 1, by omega, by go_num, HREL.out, HALL2.out, HUB.out⟩
                case measure => simp [intOf]; omega
            · -- the slice of the one value, made in y: the world za, the block bv
              have nza := nw_alloc (y) (.cells #[.int .i64 xv.kind, .int .i64 xv.n, .slice xa xl xc, .slice ya yl yc] tVl)
              have bza := heap_new (y) (.cells #[.int .i64 xv.kind, .int .i64 xv.n, .slice xa xl xc, .slice ya yl yc] tVl)
              obtain ⟨za, hza⟩ : ∃ z, z = (y).alloc (.cells #[.int .i64 xv.kind, .int .i64 xv.n, .slice xa xl xc, .slice ya yl yc] tVl) := ⟨_, rfl⟩
              rw [← hza] at nza bza
              have Hza := Lib.hid hza
              clear hza
              go_simp
              rw [← Hza.out]
              clear Hza
              obtain ⟨bv, hbv⟩ : ∃ z, z = (y).heap.size := ⟨_, rfl⟩
              rw [← hbv] at bza
              rw [← hbv]
              refine hK.out _ _ (fun _ => HP.out _ (by first | exact Nw.upd _ nza | exact Nw.upd _ (HWA0.out.trans nza) | exact uyb.out.nw nza)) ?_
              clear hK K
              (try simp only [Act.put, List.setIfInBounds_toArray, List.set_cons_zero, List.set_cons_succ])
              have Hbv := Lib.hid hbv
              clear hbv
              have hbv := Hbv.out
              clear Hbv
              have HBV0 := Lib.hid bza
              have HWA0 := Lib.hid nza
              have hbvlt : Hid (y.heap.size ≤ bv) := by rw [hbv]; exact Nat.le_refl _
              clear bza nza hbv
              refine wpAnyG_ready [4] (by kernel_rfl) (by simp) ?_
              refine AllG.cons rfl (fun K hK => ?_) AllG.nil
              -- the slice of the one name, made in za: the world zb, the block bs
              have nzb := nw_alloc (za) (.cells #[.string ⟨fn.toArray⟩] 9)
              have bzb := heap_new (za) (.cells #[.string ⟨fn.toArray⟩] 9)
              obtain ⟨zb, hzb⟩ : ∃ z, z = (za).alloc (.cells #[.string ⟨fn.toArray⟩] 9) := ⟨_, rfl⟩
              rw [← hzb] at nzb bzb
              have Hzb := Lib.hid hzb
              clear hzb
              go_simp
              rw [← Hzb.out]
              clear Hzb
              obtain ⟨bs, hbs⟩ : ∃ z, z = (za).heap.size := ⟨_, rfl⟩
              rw [← hbs] at bzb
              rw [← hbs]
              refine hK.out _ _ (fun _ => HP.out _ (by first | exact Nw.upd _ nzb | exact Nw.upd _ (HWA0.out.trans nzb))) ?_
              clear hK K
              (try simp only [Act.put, List.setIfInBounds_toArray, List.set_cons_zero, List.set_cons_succ])
              clear hbs
              have HBS := Lib.hid bzb
              have HWA := Lib.hid (HWA0.out.trans nzb)
              have HBV1 := Lib.hid (Nw.keep nzb HBV0.out)
              refine wpAnyG_ready [5] (by kernel_rfl) (by simp) ?_
              refine AllG.cons rfl (fun K hK => ?_) AllG.nil
              -- the names' append at the world zb (HWA: behind y; HBS: the one name at the block bs): the world wb
              have HON : Hid ((zb).ownsRow w3.heap.size 9 1 (.slice na n nc) n (((t.fs.take n).map (·.1)).map sF)) := by
                have := (HVBy.out.nw HWA.out).on
                rw [HL.out.2] at this; exact this
              refine step_catC rfl _ _ 56 rfl 9 _ 1 16 Tryz.underlying56 infoStrF rfl (by decide) w3.heap.size (by have := HYS.out; have := HWA.out.size; omega) HYS.out.2.2 _ n _ rfl HON.out ⟨bs, 0, none⟩ 1 1 [.string ⟨fn.toArray⟩] rfl rfl (World.news_of_block (cs := #[.string ⟨fn.toArray⟩]) (t := 9) (fr := (0, 0)) HBS.out) (by intro u hu; rw [List.mem_singleton.1 hu]; rfl) HNum.out.1 HNum.out.2.1 HNum.out.2.2.1 ?_
              intro ga ca wb ob ub0 hbb
              have uyb : Hid (Upd (fun k => (Value.slice na n nc).ownBlock = some k ∨ (Value.slice va n vc).ownBlock = some k) y wb) := Nw.trans HWA.out (ub0.mono (fun k _ e => Or.inl e))
              refine hK.out _ _ (fun _ => HP.out _ uyb.out) ?_
              clear hK K
              (try simp only [Act.put, List.setIfInBounds_toArray, List.set_cons_zero, List.set_cons_succ])
              refine wpAnyG_pure (i := 11) (v := ?_) rfl (by kernel_rfl) (by kernel_rfl) (by kernel_rfl) (by kernel_rfl) (by kernel_rfl) (fun _ _ _ h => h) (by kernel_rfl) ?_ (fun _ => HP.out _ uyb.out) ?_
              rotate_left 1
              · (intro zz; go_simp; first | done | with_reducible rfl)
              (try simp only [Act.put, List.setIfInBounds_toArray, List.set_cons_zero, List.set_cons_succ])
              have HBV := Lib.hid (ub0.keep HBV1.out (fun e => by have := (hown.out _ (Or.inl e)).1; have := hbvlt.out; have := HYS.out.1; omega))
              have HWD : Hid (Nw wb wb) := Upd.refl _ _
              -- the values' append at the world wb (HWD: behind wb; HBV: the one value at the block bv): the world we; the stores; the round's end
              have HOV : Hid ((wb).ownsRow w3.heap.size tVl 4 (.slice va n vc) n (C.map vcL).flatten) := by
                have h := (HVBy.out.nw HWA.out).ov
                rw [HL.out.1] at h
                have hne := (HVBy.out.nw HWA.out).ne
                exact owns_upd' (owns_upd' h ub0 (fun k e e2 => hne k e2 e)) HWD.out (fun _ _ e => e)
              refine wpAnyG_ready [10] (by kernel_rfl) (by simp) ?_
              refine AllG.cons rfl (fun K hK => ?_) AllG.nil
              refine step_catC rfl _ _ 54 rfl tVl _ 4 64 Tryz.underlying54 infoVlF rfl (by decide) w3.heap.size (by have := HYS.out; have := uyb.out.size; have := HWD.out.size; omega) HYS.out.2.2 _ n _ rfl HOV.out ⟨bv, 0, none⟩ 1 1 [.int .i64 xv.kind, .int .i64 xv.n, .slice xa xl xc, .slice ya yl yc] rfl rfl (World.news_of_block (cs := #[.int .i64 xv.kind, .int .i64 xv.n, .slice xa xl xc, .slice ya yl yc]) (t := tVl) (fr := (0, 0)) HBV.out) (by intro u hu; simp at hu; rcases hu with rfl | rfl | rfl | rfl <;> rfl) HNum.out.1 HNum.out.2.1 HNum.out.2.2.2 ?_
              intro gd cd we oe ue0 hbe
              have ue : Hid (Upd (fun k => (Value.slice na n nc).ownBlock = some k ∨ (Value.slice va n vc).ownBlock = some k) y we) := (uyb.out.nw HWD.out).trans' ue0 (fun k _ e => Or.inr e)
              have HPU := Lib.hid (vb_push2 HVBy.out (Nat.le_trans HNM.out (by unfold maxLen; omega)) (fun k e => (hown.out k e).1) HYS.out.2.1 HYS.out.1 HVXy.out HWA.out (by rw [HL.out.2]; exact ob) ub0 (fun k e => by
                have e' : ga = k := by simpa [Value.ownBlock] using e
                subst e'; exact hbb) HWD.out (by rw [HL.out.1]; exact oe) ue0 (fun k e => by
                have e' : gd = k := by simpa [Value.ownBlock] using e
                subst e'; exact hbe))
              have hqe := HQBy.out _ ue.out
              obtain ⟨c0, c1, c2, c3⟩ := cell4F hqe
              obtain ⟨f0, f1, f2, f3⟩ := froz4F hqe
              have hbq2 := setCell_block (setCell_block hqe 2 (.slice (some ⟨ga, 0, none⟩) (n + 1) ca)) 3 (.slice (some ⟨gd, 0, none⟩) (n + 1) cd)
              have uS := Upd.set1 (Upd.set1 (Upd.refl _ we) HLT.out.2.2.2.2 2 (.slice (some ⟨ga, 0, none⟩) (n + 1) ca)) HLT.out.2.2.2.2 3 (.slice (some ⟨gd, 0, none⟩) (n + 1) cd)
              have hp2 := HPU.out.1.upd uS (fun k hk _ e => by have := HLT.out.1; omega)
              have uA : Upd (fun k => k = q) w3 we := HUy.out.trans' ue.out (fun k hk e => by have := (hown.out k e).2.1; omega)
              have uB := uA.trans' uS (fun k _ e => e)
              have HREL : Hid (∃ nv vv C', ((we.setCell ⟨q, 2, none⟩ (.slice (some ⟨ga, 0, none⟩) (n + 1) ca)).setCell ⟨q, 3, none⟩ (.slice (some ⟨gd, 0, none⟩) (n + 1) cd)).heap[q]? = some (.cells #[.int .i64 t.kind, .int .i64 0, nv, vv] tVl (0, 0)) ∧ VB w3.heap.size ((we.setCell ⟨q, 2, none⟩ (.slice (some ⟨ga, 0, none⟩) (n + 1) ca)).setCell ⟨q, 3, none⟩ (.slice (some ⟨gd, 0, none⟩) (n + 1) cd)) nv vv ((t.fs.take (n + 1)).map (·.1)) C' ∧ C'.map VC.v = (t.fs.take (n + 1)).map (fun f => (oneR d l f).getD Fm.noV)) := by
                refine ⟨_, _, C ++ [⟨.slice xa xl xc, .slice ya yl yc, xv⟩], hbq2, ?_, ?_⟩
                · rw [HSTT.out, List.map_append]; exact hp2
                · rw [HSTT.out, List.map_append, List.map_append, HCV.out]
                  show _ = _ ++ [(oneR d l (fn, ft)).getD Fm.noV]
                  rw [HXV.out]; rfl
              have HALL2 : Hid (∀ f ∈ t.fs.take (n + 1), ((Fm.getE l f.1).isSome && (oneR d l f).isSome) = true) := fun f hf => by
                rw [HSTT.out] at hf
                rcases List.mem_append.1 hf with hf | hf
                · exact HALL.out f hf
                · rw [List.mem_singleton.1 hf, HXV.out, HGO.out]; rfl
              have HUB := Lib.hid uB
              clear hqe hbq2 uS hp2 uA uB
              refine hK.out _ _ (fun e => absurd (show true = false from e) (by decide)) ?_
              clear hK K
              (try simp only [Act.put, List.setIfInBounds_toArray, List.set_cons_zero, List.set_cons_succ])
              refine wpAnyG_ready [12] (by kernel_rfl) (by simp) ?_
              refine AllG.cons rfl (fun K hK => ?_) AllG.nil
              go_simp
              refine hK.out _ _ (fun e => absurd (show true = false from e) (by decide)) ?_
              clear hK K
              (try simp only [Act.put, List.setIfInBounds_toArray, List.set_cons_zero, List.set_cons_succ])
              refine wpAnyG_pure (i := 13) (v := ?_) rfl (by kernel_rfl) (by kernel_rfl) (by kernel_rfl) (by kernel_rfl) (by kernel_rfl) (fun _ _ _ h => h) (by kernel_rfl) ?_ (fun e => absurd (show true = false from e) (by decide)) ?_
              rotate_left 1
              · (intro zz; go_simp; first | done | with_reducible rfl)
              (try simp only [Act.put, List.setIfInBounds_toArray, List.set_cons_zero, List.set_cons_succ])
              refine wpAnyG_ready [14] (by kernel_rfl) (by simp) ?_
              refine AllG.cons rfl (fun K hK => ?_) AllG.nil
              go_simp
              refine hK.out _ _ (fun e => absurd (show true = false from e) (by decide)) ?_
              clear hK K
              (try simp only [Act.put, List.setIfInBounds_toArray, List.set_cons_zero, List.set_cons_succ])
              refine wpAnyG_done (by kernel_rfl) ?_ _
              go_wp2_with fail
              go_roundw
              case rel => exact ⟨n + 1, by omega, by go_num, HREL.out, HALL2.out, HUB.out⟩
              case measure => simp [intOf]; omega
        · obtain rfl : n = t.fs.length := by omega
          have hN : (t.fs.take t.fs.length).map (·.1) = t.fs.map (·.1) := by rw [List.take_length]
          have hV : C.map VC.v = t.fs.map (fun f => (oneR d l f).getD Fm.noV) := by have := HCV.out; rwa [List.take_length] at this
          have hA : t.fs.all (fun f => (Fm.getE l f.1).isSome && (oneR d l f).isSome) = true := by
            have := HALL.out
            rw [List.take_length] at this
            exact List.all_eq_true.2 this
          have e9 : Fm.readF (d + 1) t s = some (.mk t.kind 0 (t.fs.map (·.1)) (t.fs.map fun f => (oneR d l f).getD Fm.noV)) := by rw [HT1.out, if_pos hA]
          have hd := HVB.out.done (k := t.kind) (n := 0) HK.out (by unfold I64; omega)
          rw [hN, hV] at hd
          have HR9 := Lib.hid HR9r.out
          have HU9 := Lib.hid HUr.out
          have HX := Lib.hid HBQ.out
          have HV : Hid (∀ v, Fm.readF (d + 1) t s = some v → t.kind = v.kind ∧ (0 : Int) = v.n ∧ VlAt (fun j => w.heap.size + 2 ≤ j) wr (.slice na t.fs.length nc) (.slice va t.fs.length vc) v) := fun v hv => by
            rw [e9] at hv
            obtain rfl := Option.some.inj hv
            exact ⟨rfl, rfl, hd.mono (fun k _ hk => by have := HLT.out.1; have := HLT.out.2.2.2.1; omega)⟩
          clear hN hV hA hd
          -- the way out: the world wr, the answer's flag true is that of e9 ; HX: the value's cells, HR9: the result's cells, HU9: the step from w, HV: what is read
          obtain ⟨x0, x1, x2, x3⟩ := cell4F HX.out
          obtain ⟨d0, d1, d2, d3⟩ := cell4F HR9.out
          obtain ⟨f0, f1, f2, f3⟩ := froz4F HR9.out
          have hz := rd_exit HGB.out rfl HR9.out HU9.out _ _ _ _ HV.out
          go_wp2_with fail
          obtain ⟨hz1, hz2⟩ := hz
          refine bodyPost_ret (rd_results (b := true) _ _ ?_ ?_ hz1) ?_ ?_
          · rfl
          · rfl
          · rfl
          exact ⟨_, _, _, _, _, _, _, _, by rw [(e9)]; rfl, hz2⟩
end Go.Proofs.YtjlgmoemnhmgmaaGreatDoor
