/- format.read of a type of the kind 1. -/
import Derived.Test.YtjlgmoemnhmgmaaGreatDoorPkWTells12
namespace Go.Proofs.YtjlgmoemnhmgmaaGreatDoor
open Go.RowKit Go.MapKept
set_option linter.unusedVariables false
set_option linter.unusedSimpArgs false
attribute [local irreducible] Calls
open Fm (Ty Vl Str nameB rightTy rightVl)
set_option maxHeartbeats 16000000 in
set_option maxRecDepth 100000 in
theorem fmread_k1 (d : Nat) (hd : d + 1 ≤ 4) (IH : Hid (∀ (t : Ty) (fv : Value) (s : Str) (w : World), Gm w → rightTy d t = true → TyAt w fv t → s.length ≤ 1000000 →
    Calls Tryz.prog 67 #[.agg #[.int .i64 t.kind, fv], .string ⟨s.toArray⟩] w (RdPost d t s w))) (t : Ty) (hk : t.kind = 1) (fv : Value) (s : Str) (w : World) (g : Gm w) (hr : rightTy (d + 1) t = true) (ht : TyAt w fv t) (hs : s.length ≤ 1000000) :
    Calls Tryz.prog 67 #[.agg #[.int .i64 t.kind, fv], .string ⟨s.toArray⟩] w (RdPost (d + 1) t s w) := by
    have HKK := Lib.hid hk
    clear hk
    have RT := Lib.hid (Fm.rt_iff.1 hr)
    have HOK := Lib.hid (fun v (hv : Fm.readF (d + 1) t s = some v) => (Fm.read_ok hr hv).2.2.1)
    have hgb := g.g.big
    obtain ⟨fa, fc, rfl, hfl, hfc⟩ := ht.cells
    have HFC : Hid (FdC w fa t.fs) := hfc
    have hk := ht.kind
    have n1 := nw_alloc w (.cells #[.int .i64 t.kind, .slice fa t.fs.length fc] tTy)
    have n2 := nw_alloc (w.alloc (.cells #[.int .i64 t.kind, .slice fa t.fs.length fc] tTy)) (.cells #[.int .i64 0, .int .i64 0, .slice none 0 0, .slice none 0 0] tVl)
    have b1 := n2.keep (heap_new w (.cells #[.int .i64 t.kind, .slice fa t.fs.length fc] tTy))
    have b2 := heap_new (w.alloc (.cells #[.int .i64 t.kind, .slice fa t.fs.length fc] tTy)) (.cells #[.int .i64 0, .int .i64 0, .slice none 0 0, .slice none 0 0] tVl)
    rw [World.size_alloc] at b2
    have hN := n1.trans n2
    obtain ⟨W, hW⟩ : ∃ W, W = (w.alloc (.cells #[.int .i64 t.kind, .slice fa t.fs.length fc] tTy)).alloc (.cells #[.int .i64 0, .int .i64 0, .slice none 0 0, .slice none 0 0] tVl) := ⟨_, rfl⟩
    have hWs : W.heap.size = w.heap.size + 2 := by rw [hW]; simp
    rw [← hW] at hN b1 b2
    have HN := Lib.hid hN
    have HW := Lib.hid hW
    have HB1 := Lib.hid b1
    have HB2 := Lib.hid b2
    have HWs := Lib.hid hWs
    have HG := Lib.hid (g.upd hN)
    have hfl1 : (t.fs.length : Int) ≤ 8 := by have := RT.out.len; omega
    have HK := Lib.hid hk
    have HSL := Lib.hid hs
    have HOPEN : Hid (∀ y, Nw W y → Calls Tryz.prog 85 #[.string ⟨s.toArray⟩] y fun e w' => ∃ b, e = .returned (.pointer (some ⟨b, 0, none⟩)) ∧ y.heap.size ≤ b ∧ Rdr tR w' b (some s) ∧ Nw y w') := fun y u => Open_r _ s (bs_list _) y (HG.out.upd u).g
    have HQ : Hid (∀ y, Nw W y → y.cell? ⟨w.heap.size, 0, none⟩ = some (.int .i64 t.kind) ∧ True ∧ True ∧ True ∧ True) := fun y u => ⟨by rw [cells_cell (Nw.keep u HB1.out)]; rfl, trivial, trivial, trivial, trivial⟩
    clear hr hfc n1 n2 b1 b2 hN hW hfl hk ht hs g hWs
    go_enter Tryz.func67, Tryz.ntmps67
    go_upto_region 1 with fail
    rw [← HW.out]
    clear HW
    go_cut [6, 7] from 17 to 21 (fun a6 a7 wx => ∃ rb q, a6 = .pointer (some ⟨rb, 0, none⟩) ∧ a7 = .pointer (some ⟨q, 0, none⟩) ∧ Hid (Rd1 W wx s t.kind rb q))
    case first =>
      have HS0 := Lib.hid (HQ.out _ (Upd.refl _ W).drew)
      refine wp_region_G (fun y => y.cell? ⟨w.heap.size, 0, none⟩ = some (.int .i64 t.kind) ∧ True ∧ True ∧ True ∧ True) 7 (by kernel_rfl) ?_
      refine wpAnyG_pure (i := 0) (v := ?_) rfl (by kernel_rfl) (by kernel_rfl) (by kernel_rfl) (by kernel_rfl) (by kernel_rfl) (fun _ _ _ h => h) (by kernel_rfl) ?_ (fun _ => HS0.out) ?_
      rotate_left 1
      · (intro zz; go_simp; first | done | with_reducible rfl)
      (try simp only [Act.put, List.setIfInBounds_toArray, List.set_cons_zero, List.set_cons_succ])
      refine wpAnyG_pure (i := 2) (v := ?_) rfl (by kernel_rfl) (by kernel_rfl) (by kernel_rfl) (by kernel_rfl) (by kernel_rfl) (fun _ _ _ h => h) (by kernel_rfl) ?_ (fun _ => HS0.out) ?_
      rotate_left 1
      · (intro zz; go_simp; first | done | with_reducible rfl)
      (try simp only [Act.put, List.setIfInBounds_toArray, List.set_cons_zero, List.set_cons_succ])
      refine wpAnyG_load (i := 3) (v := ?_) [4] rfl (by kernel_rfl) (by kernel_rfl) (by kernel_rfl) (by kernel_rfl) (by kernel_rfl) (by kernel_rfl) (fun _ _ _ h => h) (by kernel_rfl) ?_ (fun _ => HS0.out) ?_
      rotate_left 1
      · (intro zz hS; obtain ⟨_, _, _, _, _⟩ := hS; go_simp; first | done | with_reducible rfl)
      (try simp only [Act.put, List.setIfInBounds_toArray, List.set_cons_zero, List.set_cons_succ])
      refine wpAnyG_pure (i := 4) (v := ?_) rfl (by kernel_rfl) (by kernel_rfl) (by kernel_rfl) (by kernel_rfl) (by kernel_rfl) (fun _ _ _ h => h) (by kernel_rfl) ?_ (fun _ => HS0.out) ?_
      rotate_left 1
      · (intro zz; go_simp; first | done | with_reducible rfl)
      (try simp only [Act.put, List.setIfInBounds_toArray, List.set_cons_zero, List.set_cons_succ])
      refine wpAnyG_ready [1, 5] (by kernel_rfl) (by simp) ?_
      refine AllG.cons rfl (fun K hK => ?_) (AllG.cons rfl (fun K hK => ?_) AllG.nil)
      · have hd0 : Nw W W.drew := (Upd.refl _ W).drew
        have hCC := HOPEN.out W.drew hd0
        go_simp
        (with_reducible refine (hCC).mono ?_)
        rintro _ w1 ⟨rb, rfl, hrb, hrd, u1⟩
        clear hCC
        have HU1 := Lib.hid (Nw.trans hd0 u1)
        refine hK.out _ _ (fun _ => HQ.out _ HU1.out) ?_
        clear hK K
        (try simp only [Act.put, List.setIfInBounds_toArray, List.set_cons_zero, List.set_cons_succ])
        refine wpAnyG_ready [5] (by kernel_rfl) (by simp) ?_
        refine AllG.cons rfl (fun K hK => ?_) AllG.nil
        have n3 := nw_alloc w1 (.cells #[.int .i64 0, .int .i64 0, .slice none 0 0, .slice none 0 0] tVl)
        have b3 := heap_new w1 (.cells #[.int .i64 0, .int .i64 0, .slice none 0 0, .slice none 0 0] tVl)
        obtain ⟨w2, hw2⟩ : ∃ y, y = w1.alloc (.cells #[.int .i64 0, .int .i64 0, .slice none 0 0, .slice none 0 0] tVl) := ⟨_, rfl⟩
        rw [← hw2] at n3 b3
        have HW2 := Lib.hid hw2
        go_simp
        rw [← HW2.out]
        refine hK.out _ _ (fun _ => HQ.out _ (HU1.out.trans n3)) ?_
        clear hK K
        (try simp only [Act.put, List.setIfInBounds_toArray, List.set_cons_zero, List.set_cons_succ])
        obtain ⟨q0, hq0⟩ : ∃ q, q = w1.heap.size := ⟨_, rfl⟩
        rw [← hq0] at b3
        have HQB := Lib.hid b3
        have HUA := Lib.hid (HU1.out.trans n3)
        have HRB := Lib.hid (hrd.nw n3)
        have HNE : Hid (rb ≠ q0) := by have := hrd.lt; show _ ≠ _; omega
        have HLA : Hid (W.heap.size ≤ rb ∧ W.heap.size ≤ q0) := by
          have := HU1.out.size
          have h2 : W.drew.heap.size = W.heap.size := rfl
          exact ⟨by omega, by omega⟩
        rw [← hq0]
        clear hq0 b3 n3 hrd hw2 u1 hrb
        -- behind the call and the alloc: the world w2, the reader's block rb, the value's block q0 (HQB: its cells at w2; HUA: the step from W; HRB: the reader at w2; HNE: rb ≠ q0; HLA: both are new)
        have c0 : (w2).cell? ⟨q0, 0, none⟩ = some (.int .i64 0) := by rw [cells_cell HQB.out]; rfl
        have c1 : (w2).cell? ⟨q0, 1, none⟩ = some (.int .i64 0) := by rw [cells_cell HQB.out]; rfl
        have c2 : (w2).cell? ⟨q0, 2, none⟩ = some (.slice none 0 0) := by rw [cells_cell HQB.out]; rfl
        have c3 : (w2).cell? ⟨q0, 3, none⟩ = some (.slice none 0 0) := by rw [cells_cell HQB.out]; rfl
        have f0 := cells_frozen HQB.out 0
        have f1 := cells_frozen HQB.out 1
        have f2 := cells_frozen HQB.out 2
        have f3 := cells_frozen HQB.out 3
        refine wpAnyG_ready [6] (by kernel_rfl) (by simp) ?_
        refine AllG.cons rfl (fun K hK => ?_) AllG.nil
        go_simp
        refine hK.out _ _ (fun _ => HQ.out _ HUA.out) ?_
        clear hK K
        (try simp only [Act.put, List.setIfInBounds_toArray, List.set_cons_zero, List.set_cons_succ])
        refine wpAnyG_ready [7] (by kernel_rfl) (by simp) ?_
        refine AllG.cons rfl (fun K hK => ?_) AllG.nil
        go_simp
        refine hK.out _ _ (fun e => absurd (show true = false from e) (by decide)) ?_
        clear hK K
        (try simp only [Act.put, List.setIfInBounds_toArray, List.set_cons_zero, List.set_cons_succ])
        refine wpAnyG_done (by kernel_rfl) ?_ _
        go_wp2_with fail
        go_meet
        have hb9 := setCell_block (setCell_block (setCell_block (setCell_block HQB.out 0 (.int .i64 t.kind)) 1 (.int .i64 0)) 2 (.slice none 0 0)) 3 (.slice none 0 0)
        have hqg : nG ≤ q0 := by have := HLA.out.2; have := HWs.out; omega
        have hu9 := Upd.set1 (Upd.set1 (Upd.set1 (Upd.set1 (Upd.refl _ (w2)) hqg 0 (.int .i64 t.kind)) hqg 1 (.int .i64 0)) hqg 2 (.slice none 0 0)) hqg 3 (.slice none 0 0)
        exact ⟨rb, q0, rfl, rfl, HRB.out.upd hu9 HNE.out, hb9, HNE.out, HUA.out.trans' hu9 (fun k hk e => by have := HLA.out.2; omega), HLA.out.1, HLA.out.2⟩
      · have n3 := (nw_alloc W (.cells #[.int .i64 0, .int .i64 0, .slice none 0 0, .slice none 0 0] tVl)).drew
        have b3 := Nw.keep (Upd.refl (fun _ => False) _).drew (heap_new W (.cells #[.int .i64 0, .int .i64 0, .slice none 0 0, .slice none 0 0] tVl))
        obtain ⟨w2, hw2⟩ : ∃ y, y = (W.alloc (.cells #[.int .i64 0, .int .i64 0, .slice none 0 0, .slice none 0 0] tVl)).drew := ⟨_, rfl⟩
        rw [← hw2] at n3 b3
        have HW2 := Lib.hid hw2
        have HU1 := Lib.hid n3
        have hsz : w2.heap.size = W.heap.size + 1 := by rw [hw2]; exact World.size_alloc _ _
        clear hw2
        go_simp
        rw [← HW2.out]
        refine hK.out _ _ (fun _ => HQ.out _ HU1.out) ?_
        clear hK K
        (try simp only [Act.put, List.setIfInBounds_toArray, List.set_cons_zero, List.set_cons_succ])
        refine wpAnyG_ready [1] (by kernel_rfl) (by simp) ?_
        refine AllG.cons rfl (fun K hK => ?_) AllG.nil
        have hCC := HOPEN.out w2 HU1.out
        go_simp
        (with_reducible refine (hCC).mono ?_)
        rintro _ w4 ⟨rb, rfl, hrb, hrd, u4⟩
        clear hCC
        obtain ⟨q0, hq0⟩ : ∃ q, q = W.heap.size := ⟨_, rfl⟩
        have HUA := Lib.hid (HU1.out.trans u4)
        refine hK.out _ _ (fun _ => HQ.out _ HUA.out) ?_
        clear hK K
        (try simp only [Act.put, List.setIfInBounds_toArray, List.set_cons_zero, List.set_cons_succ])
        have b4 := Nw.keep u4 b3
        rw [← hq0] at b4
        have HQB := Lib.hid b4
        have HRB := Lib.hid hrd
        have HNE : Hid (rb ≠ q0) := by show _ ≠ _; omega
        have HLA : Hid (W.heap.size ≤ rb ∧ W.heap.size ≤ q0) := ⟨by omega, by omega⟩
        rw [← hq0]
        clear hq0 b3 n3 hrd u4 hrb b4 hsz
        -- behind the call and the alloc: the world w4, the reader's block rb, the value's block q0 (HQB: its cells at w4; HUA: the step from W; HRB: the reader at w4; HNE: rb ≠ q0; HLA: both are new)
        have c0 : (w4).cell? ⟨q0, 0, none⟩ = some (.int .i64 0) := by rw [cells_cell HQB.out]; rfl
        have c1 : (w4).cell? ⟨q0, 1, none⟩ = some (.int .i64 0) := by rw [cells_cell HQB.out]; rfl
        have c2 : (w4).cell? ⟨q0, 2, none⟩ = some (.slice none 0 0) := by rw [cells_cell HQB.out]; rfl
        have c3 : (w4).cell? ⟨q0, 3, none⟩ = some (.slice none 0 0) := by rw [cells_cell HQB.out]; rfl
        have f0 := cells_frozen HQB.out 0
        have f1 := cells_frozen HQB.out 1
        have f2 := cells_frozen HQB.out 2
        have f3 := cells_frozen HQB.out 3
        refine wpAnyG_ready [6] (by kernel_rfl) (by simp) ?_
        refine AllG.cons rfl (fun K hK => ?_) AllG.nil
        go_simp
        refine hK.out _ _ (fun _ => HQ.out _ HUA.out) ?_
        clear hK K
        (try simp only [Act.put, List.setIfInBounds_toArray, List.set_cons_zero, List.set_cons_succ])
        refine wpAnyG_ready [7] (by kernel_rfl) (by simp) ?_
        refine AllG.cons rfl (fun K hK => ?_) AllG.nil
        go_simp
        refine hK.out _ _ (fun e => absurd (show true = false from e) (by decide)) ?_
        clear hK K
        (try simp only [Act.put, List.setIfInBounds_toArray, List.set_cons_zero, List.set_cons_succ])
        refine wpAnyG_done (by kernel_rfl) ?_ _
        go_wp2_with fail
        go_meet
        have hb9 := setCell_block (setCell_block (setCell_block (setCell_block HQB.out 0 (.int .i64 t.kind)) 1 (.int .i64 0)) 2 (.slice none 0 0)) 3 (.slice none 0 0)
        have hqg : nG ≤ q0 := by have := HLA.out.2; have := HWs.out; omega
        have hu9 := Upd.set1 (Upd.set1 (Upd.set1 (Upd.set1 (Upd.refl _ (w4)) hqg 0 (.int .i64 t.kind)) hqg 1 (.int .i64 0)) hqg 2 (.slice none 0 0)) hqg 3 (.slice none 0 0)
        exact ⟨rb, q0, rfl, rfl, HRB.out.upd hu9 HNE.out, hb9, HNE.out, HUA.out.trans' hu9 (fun k hk e => by have := HLA.out.2; omega), HLA.out.1, HLA.out.2⟩
    case rest =>
      obtain ⟨rb, q, rfl, rfl, HR1⟩ := hcut
      have HGB : Hid (nG ≤ w.heap.size) := hgb
      have HRB0 : Hid (rb ≠ w.heap.size + 1 ∧ q ≠ w.heap.size + 1 ∧ rb ≠ q ∧ rb ≠ w.heap.size ∧ q ≠ w.heap.size ∧ nG ≤ q ∧ w.heap.size + 2 ≤ q ∧ w.heap.size + 2 ≤ rb) := by
        have h1 := HR1.out.lr
        have h2 := HR1.out.lq
        have h3 := HWs.out
        exact ⟨by omega, by omega, HR1.out.ne, by omega, by omega, by omega, by omega, by omega⟩
      -- what stands while only the reader and the value change
      have HST : Hid (∀ y, Upd (fun k => k = rb ∨ k = q) wc y → y.cell? ⟨w.heap.size, 0, none⟩ = some (.int .i64 t.kind) ∧ y.cell? ⟨w.heap.size, 1, none⟩ = some (.slice fa t.fs.length fc) ∧ y.heap[w.heap.size + 1]? = some (.cells #[.int .i64 0, .int .i64 0, .slice none 0 0, .slice none 0 0] tVl (0, 0)) ∧ Nw w y ∧ y.heap[w.heap.size]? = some (.cells #[.int .i64 t.kind, .slice fa t.fs.length fc] tTy (0, 0))) := fun y u => by
        have hh := HRB0.out
        have k1 := u.keep (Nw.keep HR1.out.upd HB1.out) (fun e => by omega)
        have k2 := u.keep (Nw.keep HR1.out.upd HB2.out) (fun e => by omega)
        exact ⟨by rw [cells_cell k1]; rfl, by rw [cells_cell k1]; rfl, k2, (HN.out.trans HR1.out.upd).trans' u (fun k hk e => by omega), k1⟩
      have HGc := Lib.hid (HG.out.upd HR1.out.upd)
      have hnum := Lib.hid (Num_r rb (some s) wc HGc.out.g HR1.out.rdr (by have := HSL.out; show s.length ≤ _; omega))
      have hle := Lib.hid (Nat.le_trans (Wire.rNumber_le (some s) 59 0) HSL.out)
      have HB9 := Lib.hid (readF_bad (d := d) (t := t) (s := s))
      have HZ9 := Lib.hid (readF_zero (d := d) (t := t) (s := s))
      have HO9 := Lib.hid (readF_one (d := d) (t := t) (s := s))
      have HT9 := Lib.hid (fun h1 h2 h0 l hl => readF_two (d := d) (t := t) (s := s) h1 h2 h0 (l := l) hl)
      have HT8 := Lib.hid (readF_two_none (d := d) (t := t) (s := s))
      have HQB := Lib.hid HR1.out.box
      have hle' : Hid (((Wire.rNum (some s)).2.getD []).length ≤ 1000000) := hle.out
      clear hle HB1 HB2 HN HG HWs hgb HOPEN HQ
      generalize Wire.rNum (some s) = KK at *
      obtain ⟨k0, s1⟩ := KK
      dsimp only at *
      go_wp2_with fail
      (with_reducible refine (hnum.out).mono ?_)
      rintro _ w2 ⟨rfl, hr2, u2⟩
      have hf2 := Lib.hid (failed_c rb s1 w2 hr2)
      have HU2 : Hid (Upd (fun k => k = rb ∨ k = q) wc w2) := u2.mono (fun k _ e => Or.inl e)
      have HX2 : Hid (w2.heap[q]? = some (.cells #[.int .i64 t.kind, .int .i64 0, .slice none 0 0, .slice none 0 0] tVl (0, 0))) := u2.keep HQB.out (fun e => HRB0.out.2.2.1 e.symm)
      have HR2 := Lib.hid hr2
      obtain ⟨m0, m1, m2, m3, m4⟩ := HST.out w2 HU2.out
      have HR9 := Lib.hid m2
      have HU9 := Lib.hid m3
      have HX := Lib.hid HX2.out
      clear hnum hr2 u2 HQB m2 m3 m4
      cases hn : s1.isNone with
      | true =>
        rw [hn] at hf2
        have e9 := HB9.out (Or.inl hn)
        have HV : Hid (∀ v, Fm.readF (d + 1) t s = some v → t.kind = v.kind ∧ (0 : Int) = v.n ∧ VlAt (fun j => w.heap.size + 2 ≤ j) w2 (.slice none 0 0) (.slice none 0 0) v) := fun v hv => by rw [e9] at hv; cases hv
        go_wp2_with fail
        (with_reducible refine (hf2.out).mono ?_)
        rintro _ _ ⟨rfl, rfl⟩
        -- the way out: the world w2, the answer's flag false is that of e9 ; HX: the value's cells, HR9: the result's cells, HU9: the step from w, HV: what is read
        obtain ⟨x0, x1, x2, x3⟩ := cell4F HX.out
        obtain ⟨d0, d1, d2, d3⟩ := cell4F HR9.out
        obtain ⟨f0, f1, f2, f3⟩ := froz4F HR9.out
        have hz := rd_exit HGB.out rfl HR9.out HU9.out _ _ _ _ HV.out
        go_wp2_with fail
        obtain ⟨hz1, hz2⟩ := hz
        refine bodyPost_ret (rd_results (b := false) _ _ ?_ ?_ hz1) ?_ ?_
        · rfl
        · rfl
        · rfl
        exact ⟨_, _, _, _, _, _, _, _, by rw [(e9)]; rfl, hz2⟩
      | false =>
      rw [hn] at hf2
      by_cases hk0 : k0 = t.kind
      rotate_left
      · have e9 := HB9.out (Or.inr hk0)
        have b0 : (k0 == t.kind) = false := by simp [hk0]
        have HV : Hid (∀ v, Fm.readF (d + 1) t s = some v → t.kind = v.kind ∧ (0 : Int) = v.n ∧ VlAt (fun j => w.heap.size + 2 ≤ j) w2 (.slice none 0 0) (.slice none 0 0) v) := fun v hv => by rw [e9] at hv; cases hv
        go_wp2_with fail
        (with_reducible refine (hf2.out).mono ?_)
        rintro _ _ ⟨rfl, rfl⟩
        -- the way out: the world w2, the answer's flag false is that of e9 ; HX: the value's cells, HR9: the result's cells, HU9: the step from w, HV: what is read
        obtain ⟨x0, x1, x2, x3⟩ := cell4F HX.out
        obtain ⟨d0, d1, d2, d3⟩ := cell4F HR9.out
        obtain ⟨f0, f1, f2, f3⟩ := froz4F HR9.out
        have hz := rd_exit HGB.out rfl HR9.out HU9.out _ _ _ _ HV.out
        go_wp2_with fail
        obtain ⟨hz1, hz2⟩ := hz
        refine bodyPost_ret (rd_results (b := false) _ _ ?_ ?_ hz1) ?_ ?_
        · rfl
        · rfl
        · rfl
        exact ⟨_, _, _, _, _, _, _, _, by rw [(e9)]; rfl, hz2⟩
      subst hk0
      have b0 : (t.kind == t.kind) = true := by simp
      have hk := HKK.out
      have e2 : (t.kind == 2) = false := by simp [hk]
      have e0 : (t.kind == 0) = false := by simp [hk]
      have hint := Lib.hid (Num_r rb s1 w2 (HGc.out.g.upd HU2.out) HR2.out (by have := hle'.out; omega))
      have E9 := Lib.hid (HO9.out hn rfl hk)
      clear hk HZ9 HO9 HT9 HT8 HB9
      generalize Wire.rNum s1 = NN at *
      obtain ⟨nn, s2⟩ := NN
      dsimp only at *
      go_wp2_with fail
      (with_reducible refine (hf2.out).mono ?_)
      rintro _ _ ⟨rfl, rfl⟩
      clear hf2
      go_wp2_with fail
      (with_reducible refine (hint.out).mono ?_)
      rintro _ w3 ⟨rfl, hr3, u3⟩
      clear hint
      have k3 := u3.keep HX.out (fun e => HRB0.out.2.2.1 e.symm)
      have f1 := cells_frozen k3 1
      have x1 := (cell4F k3).2.1
      have k4 := setCell_block k3 1 (.int .i64 nn)
      have u4 := Upd.set1 (Upd.refl _ w3) HRB0.out.2.2.2.2.2.1 1 (.int .i64 nn)
      have HRD := Lib.hid (hr3.upd u4 HRB0.out.2.2.1)
      have uw4 : Upd (fun k => k = rb ∨ k = q) wc (w3.setCell ⟨q, 1, none⟩ (.int .i64 nn)) := (HU2.out.trans' u3 (fun k _ e => Or.inl e)).trans' u4 (fun k _ e => Or.inr e)
      obtain ⟨w4, hw4⟩ : ∃ y, y = w3.setCell ⟨q, 1, none⟩ (.int .i64 nn) := ⟨_, rfl⟩
      rw [← hw4] at k4 u4 HRD uw4
      clear HX HR9 HU9 m0 m1
      obtain ⟨m0, m1, m2, m3, m4⟩ := HST.out w4 uw4
      have HX : Hid (w4.heap[q]? = some (.cells #[.int .i64 t.kind, .int .i64 nn, .slice none 0 0, .slice none 0 0] tVl (0, 0))) := k4
      have HR9 := Lib.hid m2
      have HU9 := Lib.hid m3
      have HT0 := Lib.hid m4
      have HW4 := Lib.hid hw4
      clear k4 u4 uw4 hw4 m2 m3 m4 k3 hr3 u3
      go_upto_region 9 with fail
      rw [← HW4.out]
      clear HW4 f1 x1
      cases hdn : decide (s2 = some []) with
      | false =>
        have hs2 : ¬ s2 = some [] := of_decide_eq_false hdn
        have e9 : Fm.readF (d + 1) t s = none := by rw [E9.out, if_neg (fun h => hs2 h.1)]
        -- region 9 from the world w4 (HX: the value's cells, HRD: the reader at $2, HT0: the type's kind; HDN: what Done answers)
        obtain ⟨y, hy⟩ : ∃ y, y = (w4).drew := ⟨_, rfl⟩
        have uy : Nw (w4) y := by rw [hy]; exact (Upd.refl _ _).drew
        have HY := Lib.hid hy
        have HXY := Lib.hid (Nw.keep uy HX.out)
        have HRY := Lib.hid (Nw.keep uy HR9.out)
        have HTY := Lib.hid (Nw.keep uy HT0.out)
        have HUY := Lib.hid (HU9.out.trans uy)
        have HDN := Lib.hid (Done_r rb _ y (HRD.out.nw uy))
        have HS0 : Hid (y.cell? ⟨q, 0, none⟩ = some (.int .i64 t.kind) ∧ y.cell? ⟨q, 1, none⟩ = some (.int .i64 nn) ∧ y.cell? ⟨q, 2, none⟩ = some (.slice none 0 0) ∧ y.cell? ⟨q, 3, none⟩ = some (.slice none 0 0) ∧ y.cell? ⟨w.heap.size, 0, none⟩ = some (.int .i64 t.kind)) := by
          obtain ⟨x0, x1, x2, x3⟩ := cell4F HXY.out
          exact ⟨x0, x1, x2, x3, by rw [cells_cell HTY.out]; rfl⟩
        go_upto_region 9 with fail
        refine wp_region_G (fun y => y.cell? ⟨q, 0, none⟩ = some (.int .i64 t.kind) ∧ y.cell? ⟨q, 1, none⟩ = some (.int .i64 nn) ∧ y.cell? ⟨q, 2, none⟩ = some (.slice none 0 0) ∧ y.cell? ⟨q, 3, none⟩ = some (.slice none 0 0) ∧ y.cell? ⟨w.heap.size, 0, none⟩ = some (.int .i64 t.kind)) 14 (by kernel_rfl) ?_
        rw [← HY.out]
        clear HY hy uy
        refine wpAnyG_pure (i := 1) (v := ?_) rfl (by kernel_rfl) (by kernel_rfl) (by kernel_rfl) (by kernel_rfl) (by kernel_rfl) (fun _ _ _ h => h) (by kernel_rfl) ?_ (fun _ => HS0.out) ?_
        rotate_left 1
        · (intro zz; go_simp; first | done | with_reducible rfl)
        (try simp only [Act.put, List.setIfInBounds_toArray, List.set_cons_zero, List.set_cons_succ])
        refine wpAnyG_load (i := 0) (v := ?_) [13] rfl (by kernel_rfl) (by kernel_rfl) (by kernel_rfl) (by kernel_rfl) (by kernel_rfl) (by kernel_rfl) (fun _ _ _ h => h) (by kernel_rfl) ?_ (fun _ => HS0.out) ?_
        rotate_left 1
        · (intro zz hS; obtain ⟨_, _, _, _, _⟩ := hS; go_simp; first | done | with_reducible rfl)
        (try simp only [Act.put, List.setIfInBounds_toArray, List.set_cons_zero, List.set_cons_succ])
        refine wpAnyG_ready [2] (by kernel_rfl) (by simp) ?_
        refine AllG.cons rfl (fun K hK => ?_) AllG.nil
        have hCC := HDN.out
        go_simp
        (with_reducible refine (hCC).mono ?_)
        rintro _ _ ⟨rfl, rfl⟩
        clear hCC
        refine hK.out _ _ (fun _ => HS0.out) ?_
        clear hK K
        (try simp only [Act.put, List.setIfInBounds_toArray, List.set_cons_zero, List.set_cons_succ])
        refine wpAnyG_pure (i := 3) (v := ?_) rfl (by kernel_rfl) (by kernel_rfl) (by kernel_rfl) (by kernel_rfl) (by kernel_rfl) (fun _ _ _ h => h) (by kernel_rfl) ?_ (fun _ => HS0.out) ?_
        rotate_left 1
        · (intro zz; go_simp; first | done | with_reducible rfl)
        (try simp only [Act.put, List.setIfInBounds_toArray, List.set_cons_zero, List.set_cons_succ])
        have HV : Hid (∀ v, Fm.readF (d + 1) t s = some v → t.kind = v.kind ∧ nn = v.n ∧ VlAt (fun j => w.heap.size + 2 ≤ j) y (.slice none 0 0) (.slice none 0 0) v) := fun v hv => by rw [e9] at hv; cases hv
        refine wpAnyG_skip (i := 4) rfl (by kernel_rfl) (by kernel_rfl) (by kernel_rfl) (by kernel_rfl) (by kernel_rfl) (fun _ _ _ h => h) (by kernel_rfl) (fun _ => HS0.out) ?_
        (try simp only [Act.put, List.setIfInBounds_toArray, List.set_cons_zero, List.set_cons_succ])
        refine wpAnyG_skip (i := 5) rfl (by kernel_rfl) (by kernel_rfl) (by kernel_rfl) (by kernel_rfl) (by kernel_rfl) (fun _ _ _ h => h) (by kernel_rfl) (fun _ => HS0.out) ?_
        (try simp only [Act.put, List.setIfInBounds_toArray, List.set_cons_zero, List.set_cons_succ])
        refine wpAnyG_skip (i := 6) rfl (by kernel_rfl) (by kernel_rfl) (by kernel_rfl) (by kernel_rfl) (by kernel_rfl) (fun _ _ _ h => h) (by kernel_rfl) (fun _ => HS0.out) ?_
        (try simp only [Act.put, List.setIfInBounds_toArray, List.set_cons_zero, List.set_cons_succ])
        refine wpAnyG_skip (i := 7) rfl (by kernel_rfl) (by kernel_rfl) (by kernel_rfl) (by kernel_rfl) (by kernel_rfl) (fun _ _ _ h => h) (by kernel_rfl) (fun _ => HS0.out) ?_
        (try simp only [Act.put, List.setIfInBounds_toArray, List.set_cons_zero, List.set_cons_succ])
        refine wpAnyG_skip (i := 8) rfl (by kernel_rfl) (by kernel_rfl) (by kernel_rfl) (by kernel_rfl) (by kernel_rfl) (fun _ _ _ h => h) (by kernel_rfl) (fun _ => HS0.out) ?_
        (try simp only [Act.put, List.setIfInBounds_toArray, List.set_cons_zero, List.set_cons_succ])
        refine wpAnyG_skip (i := 9) rfl (by kernel_rfl) (by kernel_rfl) (by kernel_rfl) (by kernel_rfl) (by kernel_rfl) (fun _ _ _ h => h) (by kernel_rfl) (fun _ => HS0.out) ?_
        (try simp only [Act.put, List.setIfInBounds_toArray, List.set_cons_zero, List.set_cons_succ])
        refine wpAnyG_skip (i := 10) rfl (by kernel_rfl) (by kernel_rfl) (by kernel_rfl) (by kernel_rfl) (by kernel_rfl) (fun _ _ _ h => h) (by kernel_rfl) (fun _ => HS0.out) ?_
        (try simp only [Act.put, List.setIfInBounds_toArray, List.set_cons_zero, List.set_cons_succ])
        refine wpAnyG_skip (i := 11) rfl (by kernel_rfl) (by kernel_rfl) (by kernel_rfl) (by kernel_rfl) (by kernel_rfl) (fun _ _ _ h => h) (by kernel_rfl) (fun _ => HS0.out) ?_
        (try simp only [Act.put, List.setIfInBounds_toArray, List.set_cons_zero, List.set_cons_succ])
        refine wpAnyG_pure (i := 12) (v := ?_) rfl (by kernel_rfl) (by kernel_rfl) (by kernel_rfl) (by kernel_rfl) (by kernel_rfl) (fun _ _ _ h => h) (by kernel_rfl) ?_ (fun _ => HS0.out) ?_
        rotate_left 1
        · (intro zz; go_simp; first | done | with_reducible rfl)
        (try simp only [Act.put, List.setIfInBounds_toArray, List.set_cons_zero, List.set_cons_succ])
        -- the rest of region 9: the store, the flag; then the way out. HV: what is read, at y; e9: the flag
        obtain ⟨x0, x1, x2, x3⟩ := cell4F HXY.out
        obtain ⟨d0, d1, d2, d3⟩ := cell4F HRY.out
        obtain ⟨f0, f1, f2, f3⟩ := froz4F HRY.out
        have hz := rd_exit HGB.out rfl HRY.out HUY.out _ _ _ _ HV.out
        refine wpAnyG_ready [13] (by kernel_rfl) (by simp) ?_
        refine AllG.cons rfl (fun K hK => ?_) AllG.nil
        go_simp
        obtain ⟨hz1, hz2⟩ := hz
        generalize hzz : (((y.setCell ⟨w.heap.size + 1, 0, none⟩ (.int .i64 t.kind)).setCell ⟨w.heap.size + 1, 1, none⟩ (.int .i64 nn)).setCell ⟨w.heap.size + 1, 2, none⟩ (.slice none 0 0)).setCell ⟨w.heap.size + 1, 3, none⟩ (.slice none 0 0) = z at *
        have HSZ : Hid (z.cell? ⟨q, 0, none⟩ = some (.int .i64 t.kind) ∧ z.cell? ⟨q, 1, none⟩ = some (.int .i64 nn) ∧ z.cell? ⟨q, 2, none⟩ = some (.slice none 0 0) ∧ z.cell? ⟨q, 3, none⟩ = some (.slice none 0 0) ∧ z.cell? ⟨w.heap.size, 0, none⟩ = some (.int .i64 t.kind)) := by
          have hh := HRB0.out
          have hg9 : nG ≤ w.heap.size + 1 := by have := HGB.out; omega
          have hu9 := Upd.set1 (Upd.set1 (Upd.set1 (Upd.set1 (Upd.refl _ y) hg9 0 (.int .i64 t.kind)) hg9 1 (.int .i64 nn)) hg9 2 (.slice none 0 0)) hg9 3 (.slice none 0 0)
          rw [hzz] at hu9
          obtain ⟨a0, a1, a2, a3⟩ := cell4F (hu9.keep HXY.out (fun e => by omega))
          have a4 := hu9.keep HTY.out (fun e => by omega)
          exact ⟨a0, a1, a2, a3, by rw [cells_cell a4]; rfl⟩
        clear hzz
        refine hK.out _ _ (fun _ => HSZ.out) ?_
        clear hK K
        (try simp only [Act.put, List.setIfInBounds_toArray, List.set_cons_zero, List.set_cons_succ])
        refine wpAnyG_ready [14] (by kernel_rfl) (by simp) ?_
        refine AllG.cons rfl (fun K hK => ?_) AllG.nil
        go_simp
        refine hK.out _ _ (fun e => absurd (show true = false from e) (by decide)) ?_
        clear hK K
        (try simp only [Act.put, List.setIfInBounds_toArray, List.set_cons_zero, List.set_cons_succ])
        refine wpAnyG_done (by kernel_rfl) ?_ _
        go_wp2_with fail
        refine bodyPost_ret (rd_results (b := false) _ _ ?_ ?_ hz1) ?_ ?_
        · rfl
        · rfl
        · rfl
        exact ⟨_, _, _, _, _, _, _, _, by rw [(e9)]; rfl, hz2⟩
      | true =>
        have hs2 : s2 = some [] := of_decide_eq_true hdn
        by_cases hn1 : nn ≤ 1
        · have e9 : Fm.readF (d + 1) t s = some (.mk 1 nn [] []) := by rw [E9.out, if_pos ⟨hs2, hn1⟩]
          have hI9 := HOK.out _ e9
          have hd1 : decide (nn ≤ 1) = true := decide_eq_true hn1
          clear hn1
          -- region 9 from the world w4 (HX: the value's cells, HRD: the reader at $2, HT0: the type's kind; HDN: what Done answers)
          obtain ⟨y, hy⟩ : ∃ y, y = (w4).drew := ⟨_, rfl⟩
          have uy : Nw (w4) y := by rw [hy]; exact (Upd.refl _ _).drew
          have HY := Lib.hid hy
          have HXY := Lib.hid (Nw.keep uy HX.out)
          have HRY := Lib.hid (Nw.keep uy HR9.out)
          have HTY := Lib.hid (Nw.keep uy HT0.out)
          have HUY := Lib.hid (HU9.out.trans uy)
          have HDN := Lib.hid (Done_r rb _ y (HRD.out.nw uy))
          have HS0 : Hid (y.cell? ⟨q, 0, none⟩ = some (.int .i64 t.kind) ∧ y.cell? ⟨q, 1, none⟩ = some (.int .i64 nn) ∧ y.cell? ⟨q, 2, none⟩ = some (.slice none 0 0) ∧ y.cell? ⟨q, 3, none⟩ = some (.slice none 0 0) ∧ y.cell? ⟨w.heap.size, 0, none⟩ = some (.int .i64 t.kind)) := by
            obtain ⟨x0, x1, x2, x3⟩ := cell4F HXY.out
            exact ⟨x0, x1, x2, x3, by rw [cells_cell HTY.out]; rfl⟩
          go_upto_region 9 with fail
          refine wp_region_G (fun y => y.cell? ⟨q, 0, none⟩ = some (.int .i64 t.kind) ∧ y.cell? ⟨q, 1, none⟩ = some (.int .i64 nn) ∧ y.cell? ⟨q, 2, none⟩ = some (.slice none 0 0) ∧ y.cell? ⟨q, 3, none⟩ = some (.slice none 0 0) ∧ y.cell? ⟨w.heap.size, 0, none⟩ = some (.int .i64 t.kind)) 14 (by kernel_rfl) ?_
          rw [← HY.out]
          clear HY hy uy
          refine wpAnyG_pure (i := 1) (v := ?_) rfl (by kernel_rfl) (by kernel_rfl) (by kernel_rfl) (by kernel_rfl) (by kernel_rfl) (fun _ _ _ h => h) (by kernel_rfl) ?_ (fun _ => HS0.out) ?_
          rotate_left 1
          · (intro zz; go_simp; first | done | with_reducible rfl)
          (try simp only [Act.put, List.setIfInBounds_toArray, List.set_cons_zero, List.set_cons_succ])
          refine wpAnyG_load (i := 0) (v := ?_) [13] rfl (by kernel_rfl) (by kernel_rfl) (by kernel_rfl) (by kernel_rfl) (by kernel_rfl) (by kernel_rfl) (fun _ _ _ h => h) (by kernel_rfl) ?_ (fun _ => HS0.out) ?_
          rotate_left 1
          · (intro zz hS; obtain ⟨_, _, _, _, _⟩ := hS; go_simp; first | done | with_reducible rfl)
          (try simp only [Act.put, List.setIfInBounds_toArray, List.set_cons_zero, List.set_cons_succ])
          refine wpAnyG_ready [2] (by kernel_rfl) (by simp) ?_
          refine AllG.cons rfl (fun K hK => ?_) AllG.nil
          have hCC := HDN.out
          go_simp
          (with_reducible refine (hCC).mono ?_)
          rintro _ _ ⟨rfl, rfl⟩
          clear hCC
          refine hK.out _ _ (fun _ => HS0.out) ?_
          clear hK K
          (try simp only [Act.put, List.setIfInBounds_toArray, List.set_cons_zero, List.set_cons_succ])
          refine wpAnyG_pure (i := 3) (v := ?_) rfl (by kernel_rfl) (by kernel_rfl) (by kernel_rfl) (by kernel_rfl) (by kernel_rfl) (fun _ _ _ h => h) (by kernel_rfl) ?_ (fun _ => HS0.out) ?_
          rotate_left 1
          · (intro zz; go_simp; first | done | with_reducible rfl)
          (try simp only [Act.put, List.setIfInBounds_toArray, List.set_cons_zero, List.set_cons_succ])
          have HV : Hid (∀ v, Fm.readF (d + 1) t s = some v → t.kind = v.kind ∧ nn = v.n ∧ VlAt (fun j => w.heap.size + 2 ≤ j) y (.slice none 0 0) (.slice none 0 0) v) := fun v hv => by
            rw [e9] at hv
            obtain rfl := Option.some.inj hv
            exact ⟨HKK.out, rfl, VlAt.nil _ _ (by unfold I64; omega) hI9.1⟩
          refine wpAnyG_pure (i := 4) (v := ?_) rfl (by kernel_rfl) (by kernel_rfl) (by kernel_rfl) (by kernel_rfl) (by kernel_rfl) (fun _ _ _ h => h) (by kernel_rfl) ?_ (fun _ => HS0.out) ?_
          rotate_left 1
          · (intro zz; go_simp; first | done | with_reducible rfl)
          (try simp only [Act.put, List.setIfInBounds_toArray, List.set_cons_zero, List.set_cons_succ])
          refine wpAnyG_load (i := 5) (v := ?_) [12, 11, 7, 6] rfl (by kernel_rfl) (by kernel_rfl) (by kernel_rfl) (by kernel_rfl) (by kernel_rfl) (by kernel_rfl) (fun _ _ _ h => h) (by kernel_rfl) ?_ (fun _ => HS0.out) ?_
          rotate_left 1
          · (intro zz hS; obtain ⟨_, _, _, _, _⟩ := hS; go_simp; first | done | with_reducible rfl)
          (try simp only [Act.put, List.setIfInBounds_toArray, List.set_cons_zero, List.set_cons_succ])
          refine wpAnyG_pure (i := 6) (v := ?_) rfl (by kernel_rfl) (by kernel_rfl) (by kernel_rfl) (by kernel_rfl) (by kernel_rfl) (fun _ _ _ h => h) (by kernel_rfl) ?_ (fun _ => HS0.out) ?_
          rotate_left 1
          · (intro zz; go_simp; first | done | with_reducible rfl)
          (try simp only [Act.put, List.setIfInBounds_toArray, List.set_cons_zero, List.set_cons_succ])
          refine wpAnyG_pure (i := 7) (v := ?_) rfl (by kernel_rfl) (by kernel_rfl) (by kernel_rfl) (by kernel_rfl) (by kernel_rfl) (fun _ _ _ h => h) (by kernel_rfl) ?_ (fun _ => HS0.out) ?_
          rotate_left 1
          · (intro zz; go_simp; first | done | with_reducible rfl)
          (try simp only [Act.put, List.setIfInBounds_toArray, List.set_cons_zero, List.set_cons_succ])
          refine wpAnyG_pure (i := 8) (v := ?_) rfl (by kernel_rfl) (by kernel_rfl) (by kernel_rfl) (by kernel_rfl) (by kernel_rfl) (fun _ _ _ h => h) (by kernel_rfl) ?_ (fun _ => HS0.out) ?_
          rotate_left 1
          · (intro zz; go_simp; first | done | with_reducible rfl)
          (try simp only [Act.put, List.setIfInBounds_toArray, List.set_cons_zero, List.set_cons_succ])
          refine wpAnyG_load (i := 9) (v := ?_) [12, 11, 10] rfl (by kernel_rfl) (by kernel_rfl) (by kernel_rfl) (by kernel_rfl) (by kernel_rfl) (by kernel_rfl) (fun _ _ _ h => h) (by kernel_rfl) ?_ (fun _ => HS0.out) ?_
          rotate_left 1
          · (intro zz hS; obtain ⟨_, _, _, _, _⟩ := hS; go_simp; first | done | with_reducible rfl)
          (try simp only [Act.put, List.setIfInBounds_toArray, List.set_cons_zero, List.set_cons_succ])
          refine wpAnyG_pure (i := 10) (v := ?_) rfl (by kernel_rfl) (by kernel_rfl) (by kernel_rfl) (by kernel_rfl) (by kernel_rfl) (fun _ _ _ h => h) (by kernel_rfl) ?_ (fun _ => HS0.out) ?_
          rotate_left 1
          · (intro zz; go_simp; first | done | with_reducible rfl)
          (try simp only [Act.put, List.setIfInBounds_toArray, List.set_cons_zero, List.set_cons_succ])
          refine wpAnyG_pure (i := 11) (v := ?_) rfl (by kernel_rfl) (by kernel_rfl) (by kernel_rfl) (by kernel_rfl) (by kernel_rfl) (fun _ _ _ h => h) (by kernel_rfl) ?_ (fun _ => HS0.out) ?_
          rotate_left 1
          · (intro zz; go_simp; first | done | with_reducible rfl)
          (try simp only [Act.put, List.setIfInBounds_toArray, List.set_cons_zero, List.set_cons_succ])
          refine wpAnyG_pure (i := 12) (v := ?_) rfl (by kernel_rfl) (by kernel_rfl) (by kernel_rfl) (by kernel_rfl) (by kernel_rfl) (fun _ _ _ h => h) (by kernel_rfl) ?_ (fun _ => HS0.out) ?_
          rotate_left 1
          · (intro zz; go_simp; first | done | with_reducible rfl)
          (try simp only [Act.put, List.setIfInBounds_toArray, List.set_cons_zero, List.set_cons_succ])
          -- the rest of region 9: the store, the flag; then the way out. HV: what is read, at y; e9: the flag
          obtain ⟨x0, x1, x2, x3⟩ := cell4F HXY.out
          obtain ⟨d0, d1, d2, d3⟩ := cell4F HRY.out
          obtain ⟨f0, f1, f2, f3⟩ := froz4F HRY.out
          have hz := rd_exit HGB.out rfl HRY.out HUY.out _ _ _ _ HV.out
          refine wpAnyG_ready [13] (by kernel_rfl) (by simp) ?_
          refine AllG.cons rfl (fun K hK => ?_) AllG.nil
          go_simp
          obtain ⟨hz1, hz2⟩ := hz
          generalize hzz : (((y.setCell ⟨w.heap.size + 1, 0, none⟩ (.int .i64 t.kind)).setCell ⟨w.heap.size + 1, 1, none⟩ (.int .i64 nn)).setCell ⟨w.heap.size + 1, 2, none⟩ (.slice none 0 0)).setCell ⟨w.heap.size + 1, 3, none⟩ (.slice none 0 0) = z at *
          have HSZ : Hid (z.cell? ⟨q, 0, none⟩ = some (.int .i64 t.kind) ∧ z.cell? ⟨q, 1, none⟩ = some (.int .i64 nn) ∧ z.cell? ⟨q, 2, none⟩ = some (.slice none 0 0) ∧ z.cell? ⟨q, 3, none⟩ = some (.slice none 0 0) ∧ z.cell? ⟨w.heap.size, 0, none⟩ = some (.int .i64 t.kind)) := by
            have hh := HRB0.out
            have hg9 : nG ≤ w.heap.size + 1 := by have := HGB.out; omega
            have hu9 := Upd.set1 (Upd.set1 (Upd.set1 (Upd.set1 (Upd.refl _ y) hg9 0 (.int .i64 t.kind)) hg9 1 (.int .i64 nn)) hg9 2 (.slice none 0 0)) hg9 3 (.slice none 0 0)
            rw [hzz] at hu9
            obtain ⟨a0, a1, a2, a3⟩ := cell4F (hu9.keep HXY.out (fun e => by omega))
            have a4 := hu9.keep HTY.out (fun e => by omega)
            exact ⟨a0, a1, a2, a3, by rw [cells_cell a4]; rfl⟩
          clear hzz
          refine hK.out _ _ (fun _ => HSZ.out) ?_
          clear hK K
          (try simp only [Act.put, List.setIfInBounds_toArray, List.set_cons_zero, List.set_cons_succ])
          refine wpAnyG_ready [14] (by kernel_rfl) (by simp) ?_
          refine AllG.cons rfl (fun K hK => ?_) AllG.nil
          go_simp
          refine hK.out _ _ (fun e => absurd (show true = false from e) (by decide)) ?_
          clear hK K
          (try simp only [Act.put, List.setIfInBounds_toArray, List.set_cons_zero, List.set_cons_succ])
          refine wpAnyG_done (by kernel_rfl) ?_ _
          go_wp2_with fail
          refine bodyPost_ret (rd_results (b := true) _ _ ?_ ?_ hz1) ?_ ?_
          · rfl
          · rfl
          · rfl
          exact ⟨_, _, _, _, _, _, _, _, by rw [(e9)]; rfl, hz2⟩
        · have e9 : Fm.readF (d + 1) t s = none := by rw [E9.out, if_neg (fun h => hn1 h.2)]
          have hd1 : decide (nn ≤ 1) = false := decide_eq_false hn1
          clear hn1
          -- region 9 from the world w4 (HX: the value's cells, HRD: the reader at $2, HT0: the type's kind; HDN: what Done answers)
          obtain ⟨y, hy⟩ : ∃ y, y = (w4).drew := ⟨_, rfl⟩
          have uy : Nw (w4) y := by rw [hy]; exact (Upd.refl _ _).drew
          have HY := Lib.hid hy
          have HXY := Lib.hid (Nw.keep uy HX.out)
          have HRY := Lib.hid (Nw.keep uy HR9.out)
          have HTY := Lib.hid (Nw.keep uy HT0.out)
          have HUY := Lib.hid (HU9.out.trans uy)
          have HDN := Lib.hid (Done_r rb _ y (HRD.out.nw uy))
          have HS0 : Hid (y.cell? ⟨q, 0, none⟩ = some (.int .i64 t.kind) ∧ y.cell? ⟨q, 1, none⟩ = some (.int .i64 nn) ∧ y.cell? ⟨q, 2, none⟩ = some (.slice none 0 0) ∧ y.cell? ⟨q, 3, none⟩ = some (.slice none 0 0) ∧ y.cell? ⟨w.heap.size, 0, none⟩ = some (.int .i64 t.kind)) := by
            obtain ⟨x0, x1, x2, x3⟩ := cell4F HXY.out
            exact ⟨x0, x1, x2, x3, by rw [cells_cell HTY.out]; rfl⟩
          go_upto_region 9 with fail
          refine wp_region_G (fun y => y.cell? ⟨q, 0, none⟩ = some (.int .i64 t.kind) ∧ y.cell? ⟨q, 1, none⟩ = some (.int .i64 nn) ∧ y.cell? ⟨q, 2, none⟩ = some (.slice none 0 0) ∧ y.cell? ⟨q, 3, none⟩ = some (.slice none 0 0) ∧ y.cell? ⟨w.heap.size, 0, none⟩ = some (.int .i64 t.kind)) 14 (by kernel_rfl) ?_
          rw [← HY.out]
          clear HY hy uy
          refine wpAnyG_pure (i := 1) (v := ?_) rfl (by kernel_rfl) (by kernel_rfl) (by kernel_rfl) (by kernel_rfl) (by kernel_rfl) (fun _ _ _ h => h) (by kernel_rfl) ?_ (fun _ => HS0.out) ?_
          rotate_left 1
          · (intro zz; go_simp; first | done | with_reducible rfl)
          (try simp only [Act.put, List.setIfInBounds_toArray, List.set_cons_zero, List.set_cons_succ])
          refine wpAnyG_load (i := 0) (v := ?_) [13] rfl (by kernel_rfl) (by kernel_rfl) (by kernel_rfl) (by kernel_rfl) (by kernel_rfl) (by kernel_rfl) (fun _ _ _ h => h) (by kernel_rfl) ?_ (fun _ => HS0.out) ?_
          rotate_left 1
          · (intro zz hS; obtain ⟨_, _, _, _, _⟩ := hS; go_simp; first | done | with_reducible rfl)
          (try simp only [Act.put, List.setIfInBounds_toArray, List.set_cons_zero, List.set_cons_succ])
          refine wpAnyG_ready [2] (by kernel_rfl) (by simp) ?_
          refine AllG.cons rfl (fun K hK => ?_) AllG.nil
          have hCC := HDN.out
          go_simp
          (with_reducible refine (hCC).mono ?_)
          rintro _ _ ⟨rfl, rfl⟩
          clear hCC
          refine hK.out _ _ (fun _ => HS0.out) ?_
          clear hK K
          (try simp only [Act.put, List.setIfInBounds_toArray, List.set_cons_zero, List.set_cons_succ])
          refine wpAnyG_pure (i := 3) (v := ?_) rfl (by kernel_rfl) (by kernel_rfl) (by kernel_rfl) (by kernel_rfl) (by kernel_rfl) (fun _ _ _ h => h) (by kernel_rfl) ?_ (fun _ => HS0.out) ?_
          rotate_left 1
          · (intro zz; go_simp; first | done | with_reducible rfl)
          (try simp only [Act.put, List.setIfInBounds_toArray, List.set_cons_zero, List.set_cons_succ])
          have HV : Hid (∀ v, Fm.readF (d + 1) t s = some v → t.kind = v.kind ∧ nn = v.n ∧ VlAt (fun j => w.heap.size + 2 ≤ j) y (.slice none 0 0) (.slice none 0 0) v) := fun v hv => by rw [e9] at hv; cases hv
          refine wpAnyG_pure (i := 4) (v := ?_) rfl (by kernel_rfl) (by kernel_rfl) (by kernel_rfl) (by kernel_rfl) (by kernel_rfl) (fun _ _ _ h => h) (by kernel_rfl) ?_ (fun _ => HS0.out) ?_
          rotate_left 1
          · (intro zz; go_simp; first | done | with_reducible rfl)
          (try simp only [Act.put, List.setIfInBounds_toArray, List.set_cons_zero, List.set_cons_succ])
          refine wpAnyG_load (i := 5) (v := ?_) [12, 11, 7, 6] rfl (by kernel_rfl) (by kernel_rfl) (by kernel_rfl) (by kernel_rfl) (by kernel_rfl) (by kernel_rfl) (fun _ _ _ h => h) (by kernel_rfl) ?_ (fun _ => HS0.out) ?_
          rotate_left 1
          · (intro zz hS; obtain ⟨_, _, _, _, _⟩ := hS; go_simp; first | done | with_reducible rfl)
          (try simp only [Act.put, List.setIfInBounds_toArray, List.set_cons_zero, List.set_cons_succ])
          refine wpAnyG_pure (i := 6) (v := ?_) rfl (by kernel_rfl) (by kernel_rfl) (by kernel_rfl) (by kernel_rfl) (by kernel_rfl) (fun _ _ _ h => h) (by kernel_rfl) ?_ (fun _ => HS0.out) ?_
          rotate_left 1
          · (intro zz; go_simp; first | done | with_reducible rfl)
          (try simp only [Act.put, List.setIfInBounds_toArray, List.set_cons_zero, List.set_cons_succ])
          refine wpAnyG_pure (i := 7) (v := ?_) rfl (by kernel_rfl) (by kernel_rfl) (by kernel_rfl) (by kernel_rfl) (by kernel_rfl) (fun _ _ _ h => h) (by kernel_rfl) ?_ (fun _ => HS0.out) ?_
          rotate_left 1
          · (intro zz; go_simp; first | done | with_reducible rfl)
          (try simp only [Act.put, List.setIfInBounds_toArray, List.set_cons_zero, List.set_cons_succ])
          refine wpAnyG_pure (i := 8) (v := ?_) rfl (by kernel_rfl) (by kernel_rfl) (by kernel_rfl) (by kernel_rfl) (by kernel_rfl) (fun _ _ _ h => h) (by kernel_rfl) ?_ (fun _ => HS0.out) ?_
          rotate_left 1
          · (intro zz; go_simp; first | done | with_reducible rfl)
          (try simp only [Act.put, List.setIfInBounds_toArray, List.set_cons_zero, List.set_cons_succ])
          refine wpAnyG_load (i := 9) (v := ?_) [12, 11, 10] rfl (by kernel_rfl) (by kernel_rfl) (by kernel_rfl) (by kernel_rfl) (by kernel_rfl) (by kernel_rfl) (fun _ _ _ h => h) (by kernel_rfl) ?_ (fun _ => HS0.out) ?_
          rotate_left 1
          · (intro zz hS; obtain ⟨_, _, _, _, _⟩ := hS; go_simp; first | done | with_reducible rfl)
          (try simp only [Act.put, List.setIfInBounds_toArray, List.set_cons_zero, List.set_cons_succ])
          refine wpAnyG_pure (i := 10) (v := ?_) rfl (by kernel_rfl) (by kernel_rfl) (by kernel_rfl) (by kernel_rfl) (by kernel_rfl) (fun _ _ _ h => h) (by kernel_rfl) ?_ (fun _ => HS0.out) ?_
          rotate_left 1
          · (intro zz; go_simp; first | done | with_reducible rfl)
          (try simp only [Act.put, List.setIfInBounds_toArray, List.set_cons_zero, List.set_cons_succ])
          refine wpAnyG_pure (i := 11) (v := ?_) rfl (by kernel_rfl) (by kernel_rfl) (by kernel_rfl) (by kernel_rfl) (by kernel_rfl) (fun _ _ _ h => h) (by kernel_rfl) ?_ (fun _ => HS0.out) ?_
          rotate_left 1
          · (intro zz; go_simp; first | done | with_reducible rfl)
          (try simp only [Act.put, List.setIfInBounds_toArray, List.set_cons_zero, List.set_cons_succ])
          refine wpAnyG_pure (i := 12) (v := ?_) rfl (by kernel_rfl) (by kernel_rfl) (by kernel_rfl) (by kernel_rfl) (by kernel_rfl) (fun _ _ _ h => h) (by kernel_rfl) ?_ (fun _ => HS0.out) ?_
          rotate_left 1
          · (intro zz; go_simp; first | done | with_reducible rfl)
          (try simp only [Act.put, List.setIfInBounds_toArray, List.set_cons_zero, List.set_cons_succ])
          -- the rest of region 9: the store, the flag; then the way out. HV: what is read, at y; e9: the flag
          obtain ⟨x0, x1, x2, x3⟩ := cell4F HXY.out
          obtain ⟨d0, d1, d2, d3⟩ := cell4F HRY.out
          obtain ⟨f0, f1, f2, f3⟩ := froz4F HRY.out
          have hz := rd_exit HGB.out rfl HRY.out HUY.out _ _ _ _ HV.out
          refine wpAnyG_ready [13] (by kernel_rfl) (by simp) ?_
          refine AllG.cons rfl (fun K hK => ?_) AllG.nil
          go_simp
          obtain ⟨hz1, hz2⟩ := hz
          generalize hzz : (((y.setCell ⟨w.heap.size + 1, 0, none⟩ (.int .i64 t.kind)).setCell ⟨w.heap.size + 1, 1, none⟩ (.int .i64 nn)).setCell ⟨w.heap.size + 1, 2, none⟩ (.slice none 0 0)).setCell ⟨w.heap.size + 1, 3, none⟩ (.slice none 0 0) = z at *
          have HSZ : Hid (z.cell? ⟨q, 0, none⟩ = some (.int .i64 t.kind) ∧ z.cell? ⟨q, 1, none⟩ = some (.int .i64 nn) ∧ z.cell? ⟨q, 2, none⟩ = some (.slice none 0 0) ∧ z.cell? ⟨q, 3, none⟩ = some (.slice none 0 0) ∧ z.cell? ⟨w.heap.size, 0, none⟩ = some (.int .i64 t.kind)) := by
            have hh := HRB0.out
            have hg9 : nG ≤ w.heap.size + 1 := by have := HGB.out; omega
            have hu9 := Upd.set1 (Upd.set1 (Upd.set1 (Upd.set1 (Upd.refl _ y) hg9 0 (.int .i64 t.kind)) hg9 1 (.int .i64 nn)) hg9 2 (.slice none 0 0)) hg9 3 (.slice none 0 0)
            rw [hzz] at hu9
            obtain ⟨a0, a1, a2, a3⟩ := cell4F (hu9.keep HXY.out (fun e => by omega))
            have a4 := hu9.keep HTY.out (fun e => by omega)
            exact ⟨a0, a1, a2, a3, by rw [cells_cell a4]; rfl⟩
          clear hzz
          refine hK.out _ _ (fun _ => HSZ.out) ?_
          clear hK K
          (try simp only [Act.put, List.setIfInBounds_toArray, List.set_cons_zero, List.set_cons_succ])
          refine wpAnyG_ready [14] (by kernel_rfl) (by simp) ?_
          refine AllG.cons rfl (fun K hK => ?_) AllG.nil
          go_simp
          refine hK.out _ _ (fun e => absurd (show true = false from e) (by decide)) ?_
          clear hK K
          (try simp only [Act.put, List.setIfInBounds_toArray, List.set_cons_zero, List.set_cons_succ])
          refine wpAnyG_done (by kernel_rfl) ?_ _
          go_wp2_with fail
          refine bodyPost_ret (rd_results (b := false) _ _ ?_ ?_ hz1) ?_ ?_
          · rfl
          · rfl
          · rfl
          exact ⟨_, _, _, _, _, _, _, _, by rw [(e9)]; rfl, hz2⟩
end Go.Proofs.YtjlgmoemnhmgmaaGreatDoor
