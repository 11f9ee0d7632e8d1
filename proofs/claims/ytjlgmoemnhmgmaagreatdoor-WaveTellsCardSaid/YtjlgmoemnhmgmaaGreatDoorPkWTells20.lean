/- wave.talks: the walk. -/
import Derived.Test.YtjlgmoemnhmgmaaGreatDoorPkWTells19
import Derived.Test.YtjlgmoemnhmgmaaGreatDoorPkWTells12
namespace Go.Proofs.YtjlgmoemnhmgmaaGreatDoor
open Go.RowKit
set_option linter.unusedVariables false
set_option linter.unusedSimpArgs false
attribute [local irreducible] Calls
open Fm (Ty Vl Str nameB rightTy)
open Wv (Svc FL svcOk sendsOk inR)

theorem run_two0 (a b : Option Addr) (n c m d : Nat) (z : World) : (Instr.index 95 (.agg #[.slice a n c, .slice b m d]) (.int .i64 0)).run Tryz.prog z = .ok (.slice a n c) z := by kernel_rfl
theorem run_two1 (a b : Option Addr) (n c m d : Nat) (z : World) : (Instr.index 95 (.agg #[.slice a n c, .slice b m d]) (.int .i64 1)).run Tryz.prog z = .ok (.slice b m d) z := by kernel_rfl
theorem svs_len {f : FL} (h : f.old.length = f.new.length) (v : Nat) : (svs f v).length = f.old.length := by
  unfold svs; split
  · exact h.symm
  · rfl
set_option maxHeartbeats 16000000 in
set_option maxRecDepth 100000 in
theorem talks_c (oa na ra : Option Addr) (oc nc rc : Nat) (f : FL) (w : World) (g : Gm w) (h : FlAt w oa na ra oc nc f) (hr : Wv.Rg f) (hso : ∀ s ∈ f.old, s.sends.length ≤ 1000) (hsn : ∀ s ∈ f.new, s.sends.length ≤ 1000) :
    Calls Tryz.prog 30 #[.agg (flV oa na ra oc nc rc f)] w fun e w' => ∃ tb T, e = .returned (.pointer (some ⟨tb, 0, none⟩)) ∧ Hid (TabAt w' tb T ∧ TabOk f T ∧ w.heap.size ≤ tb ∧ Nw w w') := by
  have hgb := g.g.big
  unfold flV
  have n1 := nw_alloc w (.cells #[.slice oa f.old.length oc, .slice na f.new.length nc, .slice ra f.runs.length rc] tFl)
  have b1 := heap_new w (.cells #[.slice oa f.old.length oc, .slice na f.new.length nc, .slice ra f.runs.length rc] tFl)
  obtain ⟨W1, hW1⟩ : ∃ z, z = w.alloc (.cells #[.slice oa f.old.length oc, .slice na f.new.length nc, .slice ra f.runs.length rc] tFl) := ⟨_, rfl⟩
  have s1 : W1.heap.size = w.heap.size + 1 := by rw [hW1, World.size_alloc]
  rw [← hW1] at n1 b1
  have n2 := nw_alloc W1 (.cells Tryz.zeroCells94 tTabW)
  have b2 := heap_new W1 (.cells Tryz.zeroCells94 tTabW)
  obtain ⟨W2, hW2⟩ : ∃ z, z = W1.alloc (.cells Tryz.zeroCells94 tTabW) := ⟨_, rfl⟩
  have s2 : W2.heap.size = w.heap.size + 2 := by rw [hW2, World.size_alloc, s1]
  rw [← hW2] at n2 b2
  rw [s1] at b2
  have n3 := nw_alloc W2 (.cells #[.slice oa f.old.length oc, .slice na f.new.length nc] 95)
  have b3 := heap_new W2 (.cells #[.slice oa f.old.length oc, .slice na f.new.length nc] 95)
  obtain ⟨W3, hW3⟩ : ∃ z, z = W2.alloc (.cells #[.slice oa f.old.length oc, .slice na f.new.length nc] 95) := ⟨_, rfl⟩
  rw [← hW3] at n3 b3
  rw [s2] at b3
  have hN := (n1.trans n2).trans n3
  have HT0 : Hid (TabAt W3 (w.heap.size + 1) (fun _ => false)) := TabAt.upd (S := fun _ => False) ⟨_, b2, fun i hi => tab_zero i hi⟩ n3 (fun e => e)
  have x0 : W2.cell? ⟨w.heap.size, 0, none⟩ = some (.slice oa f.old.length oc) := by rw [cells_cell (Nw.keep n2 b1)]; rfl
  have x1 : W2.cell? ⟨w.heap.size, 1, none⟩ = some (.slice na f.new.length nc) := by rw [cells_cell (Nw.keep n2 b1)]; rfl
  have HAR : Hid (∀ y, Nw W3 y ∨ Upd (fun j => j = w.heap.size + 1) W3 y → y.cell? ⟨w.heap.size + 2, 0, none⟩ = some (.slice oa f.old.length oc) ∧ y.cell? ⟨w.heap.size + 2, 1, none⟩ = some (.slice na f.new.length nc)) := fun y u => by
    have hk : y.heap[w.heap.size + 2]? = some (.cells #[.slice oa f.old.length oc, .slice na f.new.length nc] 95 (0, 0)) := by
      rcases u with u | u
      · exact Nw.keep u b3
      · exact u.keep b3 (by omega)
    exact ⟨by rw [cells_cell hk]; rfl, by rw [cells_cell hk]; rfl⟩
  have HW2 : Hid (W2 = (w.alloc (.cells #[.slice oa f.old.length oc, .slice na f.new.length nc, .slice ra f.runs.length rc] tFl)).alloc (.cells Tryz.zeroCells94 tTabW)) := by show _ = _; rw [hW2, hW1]
  have HW3 := Lib.hid hW3
  have HN := Lib.hid hN
  have HF := Lib.hid h
  have HG := Lib.hid g
  have HS2 := Lib.hid s2
  have HGB := Lib.hid hgb
  have HRG := Lib.hid hr
  have HSS : Hid (∀ v, ∀ s ∈ svs f v, s.sends.length ≤ 1000) := fun v s hs => by
    unfold svs at hs
    split at hs
    · exact hsn s hs
    · exact hso s hs
  have h8 : (f.old.length : Int) ≤ 8 := by have := hr.old8; omega
  clear n1 n2 n3 b1 b2 b3 hN hW1 hW2 hW3 s1 s2 h g hr hso hsn hgb
  go_enter Tryz.func30, Tryz.ntmps30
  go_upto_region 2 with fail
  rw [← HW2.out]
  clear HW2
  go_upto_region 3 with fail
  rw [← HW3.out, HS2.out]
  clear HW3 x0 x1
  obtain ⟨x0, x1⟩ := HAR.out W3 (Or.inl (Upd.refl _ _))
  obtain ⟨tb, htb⟩ : ∃ t, t = w.heap.size + 1 := ⟨_, rfl⟩
  rw [← htb] at HT0 HAR ⊢
  have HTG : Hid (nG ≤ tb) := by have := HGB.out; show _ ≤ _; omega
  have HTW : Hid (w.heap.size ≤ tb) := by show _ ≤ _; omega
  clear htb
  go_wp2_with fail
  clear x0 x1
  go_loopw [21] (fun vv' wr => ∃ (v : Nat) (T : Nat → Bool), v ≤ 2 ∧ vv' = .int .i64 (v : Int) ∧ Hid (TabAt wr tb T) ∧ Hid (TabTo f T v 0 0 0) ∧ Hid (Upd (fun j => j = tb) W3 wr)) (fun vv' _ => 2 - (intOf vv').toNat)
  case atStart => exact ⟨0, _, by omega, rfl, HT0, TabTo.none_, Upd.refl _ _⟩
  case round =>
    obtain ⟨v, T, hv, rfl, HTA, HTT, U⟩ := hrel
    by_cases hlt : v < 2
    · have hlt1 : (v : Int) < 2 := by omega
      have hx0 := run_two0 oa na f.old.length oc f.new.length nc
      have hx1 := run_two1 oa na f.old.length oc f.new.length nc
      go_upto_region 5 with fail
      go_cut [5, 6] from 23 to 24 (fun a5 a6 wx => ∃ (la : Option Addr) (lc : Nat), a5 = .int .i64 (v : Int) ∧ a6 = .slice la (svs f v).length lc ∧ wx = wr ∧ Hid (SvC w la (svs f v)))
      case first =>
        by_cases hv0 : v = 0
        · subst hv0
          go_wp2_with fail
          go_meet
          exact ⟨oa, oc, rfl, rfl, rfl, HF.out.old⟩
        · obtain rfl : v = 1 := by omega
          go_wp2_with fail
          go_meet
          exact ⟨na, nc, rfl, rfl, rfl, HF.out.new⟩
      obtain ⟨la, lc, rfl, rfl, rfl, HLA⟩ := hcut
      clear hx0 hx1
      have HLN := Lib.hid (svs_len HRG.out.len v)
      have hln1 : ((svs f v).length : Int) ≤ 8 := by rw [HLN.out]; exact h8
      go_wp2_with fail
      go_loopw [27] (fun ii wr => ∃ (i : Nat) (T : Nat → Bool), i ≤ (svs f v).length ∧ ii = .int .i64 (i : Int) ∧ Hid (TabAt wr tb T) ∧ Hid (TabTo f T v i 0 0) ∧ Hid (Upd (fun j => j = tb) W3 wr)) (fun ii _ => (svs f v).length - (intOf ii).toNat)
      case atStart => exact ⟨0, T, Nat.zero_le _, rfl, HTA, HTT, U⟩
      case round =>
        obtain ⟨i, T, hi, rfl, HTA, HTT, U⟩ := hrel
        by_cases hil : i < (svs f v).length
        · have hil1 : (i : Int) < (svs f v).length := by omega
          have hi8 : (i : Int) ≤ 8 := by omega
          have hi0 : decide ((i : Int) < 0) = false := decide_eq_false (by omega)
          rcases HLA.out with hnil | ⟨sb, so, rfl, hsb, hscell⟩
          · rw [hnil] at hil; simp at hil
          obtain ⟨sa, fa, ga, sc, fc, gc, hk, hr⟩ := hscell i hil
          have HNW : Hid (Nw w wr) := HN.out.trans' U.out (fun j hj e => by have := HTW.out; omega)
          obtain ⟨d0, d1, d2, d3, d4, d5⟩ := hk.nw HNW.out
          have HSA := Lib.hid (svcAt_of hil)
          have HR := Lib.hid hr
          have HSF := Lib.hid (HSS.out v _ (List.getElem_mem hil))
          have hio : i < f.old.length := by have := HLN.out; omega
          clear hscell hk hr
          generalize (svs f v)[i] = s at *
          obtain ⟨wo, hwo, n0, hbx⟩ : ∃ z, z = wr.alloc (.cells #[.string ⟨s.name.toArray⟩, .slice sa s.sends.length sc, .int .i64 s.wr.kind, .slice fa s.wr.fs.length fc, .int .i64 s.rd.kind, .slice ga s.rd.fs.length gc] tSv) ∧ Nw wr z ∧ z.heap[wr.heap.size]? = some (.cells #[.string ⟨s.name.toArray⟩, .slice sa s.sends.length sc, .int .i64 s.wr.kind, .slice fa s.wr.fs.length fc, .int .i64 s.rd.kind, .slice ga s.rd.fs.length gc] tSv (0, 0)) := ⟨_, rfl, nw_alloc wr _, heap_new wr _⟩
          have HWO := Lib.hid hwo
          obtain ⟨P8, hP8⟩ : ∃ P, P = wr.heap.size := ⟨_, rfl⟩
          have HP8 : Hid (tb < P8) := by have := HTA.out.lt; show _ < _; omega
          rw [← hP8] at hbx
          have HB8 := Lib.hid hbx
          have HNWo := Lib.hid (HNW.out.trans n0)
          have HTAo := Lib.hid (HTA.out.upd n0 (fun e => e))
          have Uo := Lib.hid (U.out.nw n0)
          obtain ⟨x0, x1⟩ := HAR.out wo (Or.inr Uo.out)
          clear hwo n0 hbx HTA U HNW
          go_upto_region 9 with fail
          rw [← HWO.out, ← hP8]
          clear HWO hP8 d0 d1 d2 d3 d4 d5
          go_wp2_with fail
          clear x0 x1
          go_loopw [33] (fun ww wr => ∃ (w' : Nat) (T : Nat → Bool), w' ≤ 2 ∧ ww = .int .i64 (w' : Int) ∧ Hid (TabAt wr tb T) ∧ Hid (TabTo f T v i w' 0) ∧ Hid (Upd (fun j => j = tb) wo wr)) (fun ww _ => 2 - (intOf ww).toNat)
          case atStart => exact ⟨0, T, by omega, rfl, HTAo, HTT, Upd.refl _ _⟩
          case round =>
            obtain ⟨w', T, hw', rfl, HTA, HTT, U⟩ := hrel
            by_cases hwl : w' < 2
            · have hwl1 : (w' : Int) < 2 := by omega
              have hx0 := run_two0 oa na f.old.length oc f.new.length nc
              have hx1 := run_two1 oa na f.old.length oc f.new.length nc
              go_upto_region 11 with fail
              go_cut [9, 10] from 35 to 36 (fun a9 a10 wx => ∃ (ma : Option Addr) (mc : Nat), a9 = .int .i64 (w' : Int) ∧ a10 = .slice ma (svs f w').length mc ∧ wx = wr ∧ Hid (SvC w ma (svs f w')))
              case first =>
                by_cases hv0 : w' = 0
                · subst hv0
                  go_wp2_with fail
                  go_meet
                  exact ⟨oa, oc, rfl, rfl, rfl, HF.out.old⟩
                · obtain rfl : w' = 1 := by omega
                  go_wp2_with fail
                  go_meet
                  exact ⟨na, nc, rfl, rfl, rfl, HF.out.new⟩
              obtain ⟨ma, mc, rfl, rfl, rfl, HMA⟩ := hcut
              clear hx0 hx1
              have HMN := Lib.hid (svs_len HRG.out.len w')
              have hmn1 : ((svs f w').length : Int) ≤ 8 := by rw [HMN.out]; exact h8
              go_wp2_with fail
              go_loopw [39] (fun kk wr => ∃ (k : Nat) (T : Nat → Bool), k ≤ (svs f w').length ∧ kk = .int .i64 (k : Int) ∧ Hid (TabAt wr tb T) ∧ Hid (TabTo f T v i w' k) ∧ Hid (Upd (fun j => j = tb) wo wr)) (fun kk _ => (svs f w').length - (intOf kk).toNat)
              case atStart => exact ⟨0, T, Nat.zero_le _, rfl, HTA, HTT, U⟩
              case round =>
                obtain ⟨k, T, hk, rfl, HTA, HTT, U⟩ := hrel
                by_cases hkl : k < (svs f w').length
                · have hkl1 : (k : Int) < (svs f w').length := by omega
                  have hk8 : (k : Int) ≤ 8 := by omega
                  have hk0 : decide ((k : Int) < 0) = false := decide_eq_false (by omega)
                  rcases HMA.out with hnil | ⟨rb, ro, rfl, hrb, hrcell⟩
                  · rw [hnil] at hkl; simp at hkl
                  obtain ⟨ra', ya, za, rc', yc, zc, hk', hr'⟩ := hrcell k hkl
                  have HNW : Hid (Nw w wr) := HNWo.out.trans' U.out (fun j hj e => by have := HTW.out; omega)
                  obtain ⟨d0, d1, d2, d3, d4, d5⟩ := hk'.nw HNW.out
                  have HRA := Lib.hid (svcAt_of hkl)
                  have HRr := Lib.hid hr'
                  have hko : k < f.old.length := by have := HMN.out; omega
                  clear hrcell hk' hr'
                  generalize (svs f w')[k] = r at *
                  obtain ⟨w2, hw2, n2, hb2⟩ : ∃ z, z = wr.alloc (.cells #[.string ⟨r.name.toArray⟩, .slice ra' r.sends.length rc', .int .i64 r.wr.kind, .slice ya r.wr.fs.length yc, .int .i64 r.rd.kind, .slice za r.rd.fs.length zc] tSv) ∧ Nw wr z ∧ z.heap[wr.heap.size]? = some (.cells #[.string ⟨r.name.toArray⟩, .slice ra' r.sends.length rc', .int .i64 r.wr.kind, .slice ya r.wr.fs.length yc, .int .i64 r.rd.kind, .slice za r.rd.fs.length zc] tSv (0, 0)) := ⟨_, rfl, nw_alloc wr _, heap_new wr _⟩
                  have HW2 := Lib.hid hw2
                  obtain ⟨P12, hP12⟩ : ∃ P, P = wr.heap.size := ⟨_, rfl⟩
                  rw [← hP12] at hb2
                  have HNW2 := Lib.hid (HNW.out.trans n2)
                  have HTB := Lib.hid (HTA.out.upd n2 (fun e => e))
                  have HUW := Lib.hid (U.out.nw n2)
                  have HB82 := Lib.hid (Nw.keep n2 (U.out.keep HB8.out (fun e => by have := HP8.out; omega)))
                  have HP : Hid (∀ y, Nw w2 y → y.cell? ⟨P8, 1, none⟩ = some (.slice sa s.sends.length sc) ∧ y.cell? ⟨P8, 2, none⟩ = some (.int .i64 s.wr.kind) ∧ y.cell? ⟨P8, 3, none⟩ = some (.slice fa s.wr.fs.length fc) ∧ y.cell? ⟨P12, 4, none⟩ = some (.int .i64 r.rd.kind) ∧ y.cell? ⟨P12, 5, none⟩ = some (.slice za r.rd.fs.length zc) ∧ True) := fun y u => by
                    have h1 := Nw.keep u HB82.out
                    have h2 := Nw.keep u hb2
                    exact ⟨by rw [cells_cell h1]; rfl, by rw [cells_cell h1]; rfl, by rw [cells_cell h1]; rfl, by rw [cells_cell h2]; rfl, by rw [cells_cell h2]; rfl, trivial⟩
                  have HCO := Lib.hid (fun (y : World) (u : Nw w2 y) => contains_ic sa sc s.sends (k : Int) y (HR.out.sends.nw (HNW2.out.trans u)) (by have := HSF.out; omega))
                  have HRD := Lib.hid (fun (y : World) (u : Nw w2 y) => Reads_c _ _ s.wr r.rd y (HG.out.upd (HNW2.out.trans u)) (HR.out.wr.nw (HNW2.out.trans u)) (HRr.out.rd.nw (HNW2.out.trans u)))
                  have hcan : Wv.can f i (vb v) k (vb w') = (!decide ((k : Int) ∈ s.sends) || fReads s.wr r.rd) := by
                    unfold Wv.can; rw [HSA.out, HRA.out]
                  have HNEXT : Hid (∀ b, b = (!decide ((k : Int) ∈ s.sends) || fReads s.wr r.rd) → TabTo f (fun j => if j = tIx i v k w' then b else T j) v i w' (k + 1)) := fun b hb => by
                    rw [hb, ← hcan]
                    exact HTT.out.next (by have := HRG.out.old8; omega) hlt hio hwl hko
                  have HIX : Hid (tIx i v k w' < 256) := by have := HRG.out.old8; show _ < _; unfold tIx; omega
                  have hd0 : Nw w2 w2.drew := (Upd.refl _ w2).drew
                  have hi8' : (i : Int) < 8 := by omega
                  have hk8' : (k : Int) < 8 := by omega
                  clear hw2 n2 hb2 hcan HTT HTA
                  generalize fReads s.wr r.rd = rd at *
                  cases hcs : decide ((k : Int) ∈ s.sends) with
                  | false =>
                    rw [hcs] at HNEXT HCO
                    clear HRD
                    go_upto_region 15 with fail
                    rw [← HW2.out, ← hP12]
                    clear HW2 hP12 d0 d1 d2 d3 d4 d5
                    have HS0 := Lib.hid (HP.out _ hd0)
                    refine wp_region_G (fun y => y.cell? ⟨P8, 1, none⟩ = some (.slice sa s.sends.length sc) ∧ y.cell? ⟨P8, 2, none⟩ = some (.int .i64 s.wr.kind) ∧ y.cell? ⟨P8, 3, none⟩ = some (.slice fa s.wr.fs.length fc) ∧ y.cell? ⟨P12, 4, none⟩ = some (.int .i64 r.rd.kind) ∧ y.cell? ⟨P12, 5, none⟩ = some (.slice za r.rd.fs.length zc) ∧ True) 22 (by kernel_rfl) ?_
                    refine wpAnyG_pure (i := 0) (v := ?_) rfl (by kernel_rfl) (by kernel_rfl) (by kernel_rfl) (by kernel_rfl) (by kernel_rfl) (fun _ _ _ h => h) (by kernel_rfl) ?_ (fun _ => HS0.out) ?_
                    rotate_left 1
                    · (intro zz; go_simp; first | done | with_reducible rfl)
                    (try simp only [Act.put, List.setIfInBounds_toArray, List.set_cons_zero, List.set_cons_succ])
                    refine wpAnyG_pure (i := 1) (v := ?_) rfl (by kernel_rfl) (by kernel_rfl) (by kernel_rfl) (by kernel_rfl) (by kernel_rfl) (fun _ _ _ h => h) (by kernel_rfl) ?_ (fun _ => HS0.out) ?_
                    rotate_left 1
                    · (intro zz; go_simp; first | done | with_reducible rfl)
                    (try simp only [Act.put, List.setIfInBounds_toArray, List.set_cons_zero, List.set_cons_succ])
                    refine wpAnyG_pure (i := 2) (v := ?_) rfl (by kernel_rfl) (by kernel_rfl) (by kernel_rfl) (by kernel_rfl) (by kernel_rfl) (fun _ _ _ h => h) (by kernel_rfl) ?_ (fun _ => HS0.out) ?_
                    rotate_left 1
                    · (intro zz; go_simp; first | done | with_reducible rfl)
                    (try simp only [Act.put, List.setIfInBounds_toArray, List.set_cons_zero, List.set_cons_succ])
                    refine wpAnyG_pure (i := 3) (v := ?_) rfl (by kernel_rfl) (by kernel_rfl) (by kernel_rfl) (by kernel_rfl) (by kernel_rfl) (fun _ _ _ h => h) (by kernel_rfl) ?_ (fun _ => HS0.out) ?_
                    rotate_left 1
                    · (intro zz; go_simp; first | done | with_reducible rfl)
                    (try simp only [Act.put, List.setIfInBounds_toArray, List.set_cons_zero, List.set_cons_succ])
                    refine wpAnyG_pure (i := 4) (v := ?_) rfl (by kernel_rfl) (by kernel_rfl) (by kernel_rfl) (by kernel_rfl) (by kernel_rfl) (fun _ _ _ h => h) (by kernel_rfl) ?_ (fun _ => HS0.out) ?_
                    rotate_left 1
                    · (intro zz; go_simp; first | done | with_reducible rfl)
                    (try simp only [Act.put, List.setIfInBounds_toArray, List.set_cons_zero, List.set_cons_succ])
                    refine wpAnyG_pure (i := 5) (v := ?_) rfl (by kernel_rfl) (by kernel_rfl) (by kernel_rfl) (by kernel_rfl) (by kernel_rfl) (fun _ _ _ h => h) (by kernel_rfl) ?_ (fun _ => HS0.out) ?_
                    rotate_left 1
                    · (intro zz; go_simp; first | done | with_reducible rfl)
                    (try simp only [Act.put, List.setIfInBounds_toArray, List.set_cons_zero, List.set_cons_succ])
                    refine wpAnyG_load (i := 6) (v := ?_) [] rfl (by kernel_rfl) (by kernel_rfl) (by kernel_rfl) (by kernel_rfl) (by kernel_rfl) (by kernel_rfl) (fun _ _ _ h => h) (by kernel_rfl) ?_ (fun _ => HS0.out) ?_
                    rotate_left 1
                    · (intro zz hS; obtain ⟨_, _, _, _, _, _⟩ := hS; go_simp; first | done | with_reducible rfl)
                    (try simp only [Act.put, List.setIfInBounds_toArray, List.set_cons_zero, List.set_cons_succ])
                    refine wpAnyG_pure (i := 7) (v := ?_) rfl (by kernel_rfl) (by kernel_rfl) (by kernel_rfl) (by kernel_rfl) (by kernel_rfl) (fun _ _ _ h => h) (by kernel_rfl) ?_ (fun _ => HS0.out) ?_
                    rotate_left 1
                    · (intro zz; go_simp; first | done | with_reducible rfl)
                    (try simp only [Act.put, List.setIfInBounds_toArray, List.set_cons_zero, List.set_cons_succ])
                    refine wpAnyG_pure (i := 17) (v := ?_) rfl (by kernel_rfl) (by kernel_rfl) (by kernel_rfl) (by kernel_rfl) (by kernel_rfl) (fun _ _ _ h => h) (by kernel_rfl) ?_ (fun _ => HS0.out) ?_
                    rotate_left 1
                    · (intro zz; go_simp; first | done | with_reducible rfl)
                    (try simp only [Act.put, List.setIfInBounds_toArray, List.set_cons_zero, List.set_cons_succ])
                    refine wpAnyG_pure (i := 18) (v := ?_) rfl (by kernel_rfl) (by kernel_rfl) (by kernel_rfl) (by kernel_rfl) (by kernel_rfl) (fun _ _ _ h => h) (by kernel_rfl) ?_ (fun _ => HS0.out) ?_
                    rotate_left 1
                    · (intro zz; go_simp; first | done | with_reducible rfl)
                    (try simp only [Act.put, List.setIfInBounds_toArray, List.set_cons_zero, List.set_cons_succ])
                    refine wpAnyG_pure (i := 19) (v := ?_) rfl (by kernel_rfl) (by kernel_rfl) (by kernel_rfl) (by kernel_rfl) (by kernel_rfl) (fun _ _ _ h => h) (by kernel_rfl) ?_ (fun _ => HS0.out) ?_
                    rotate_left 1
                    · (intro zz; go_simp; first | done | with_reducible rfl)
                    (try simp only [Act.put, List.setIfInBounds_toArray, List.set_cons_zero, List.set_cons_succ])
                    refine wpAnyG_pure (i := 20) (v := ?_) rfl (by kernel_rfl) (by kernel_rfl) (by kernel_rfl) (by kernel_rfl) (by kernel_rfl) (fun _ _ _ h => h) (by kernel_rfl) ?_ (fun _ => HS0.out) ?_
                    rotate_left 1
                    · (intro zz; go_simp; first | done | with_reducible rfl)
                    (try simp only [Act.put, List.setIfInBounds_toArray, List.set_cons_zero, List.set_cons_succ])
                    refine wpAnyG_ready [8] (by kernel_rfl) (by simp) ?_
                    refine AllG.cons rfl (fun K hK => ?_) AllG.nil
                    have hCC := HCO.out w2.drew hd0
                    go_simp
                    (with_reducible refine (hCC).mono ?_)
                    rintro _ w4 ⟨rfl, hw4⟩
                    clear hCC
                    have HU4 : Hid (Nw w2 w4) := by rw [← hw4]; exact hd0
                    refine hK.out _ _ (fun _ => HP.out _ HU4.out) ?_
                    clear hK K
                    (try simp only [Act.put, List.setIfInBounds_toArray, List.set_cons_zero, List.set_cons_succ])
                    clear hw4
                    have HS1 := Lib.hid (HP.out _ HU4.out)
                    refine wpAnyG_pure (i := 9) (v := ?_) rfl (by kernel_rfl) (by kernel_rfl) (by kernel_rfl) (by kernel_rfl) (by kernel_rfl) (fun _ _ _ h => h) (by kernel_rfl) ?_ (fun _ => HS1.out) ?_
                    rotate_left 1
                    · (intro zz; go_simp; first | done | with_reducible rfl)
                    (try simp only [Act.put, List.setIfInBounds_toArray, List.set_cons_zero, List.set_cons_succ])
                    refine wpAnyG_pure (i := 10) (v := ?_) rfl (by kernel_rfl) (by kernel_rfl) (by kernel_rfl) (by kernel_rfl) (by kernel_rfl) (fun _ _ _ h => h) (by kernel_rfl) ?_ (fun _ => HS1.out) ?_
                    rotate_left 1
                    · (intro zz; go_simp; first | done | with_reducible rfl)
                    (try simp only [Act.put, List.setIfInBounds_toArray, List.set_cons_zero, List.set_cons_succ])
                    refine wpAnyG_skip (i := 11) rfl (by kernel_rfl) (by kernel_rfl) (by kernel_rfl) (by kernel_rfl) (by kernel_rfl) (fun _ _ _ h => h) (by kernel_rfl) (fun _ => HS1.out) ?_
                    (try simp only [Act.put, List.setIfInBounds_toArray, List.set_cons_zero, List.set_cons_succ])
                    refine wpAnyG_skip (i := 12) rfl (by kernel_rfl) (by kernel_rfl) (by kernel_rfl) (by kernel_rfl) (by kernel_rfl) (fun _ _ _ h => h) (by kernel_rfl) (fun _ => HS1.out) ?_
                    (try simp only [Act.put, List.setIfInBounds_toArray, List.set_cons_zero, List.set_cons_succ])
                    refine wpAnyG_skip (i := 13) rfl (by kernel_rfl) (by kernel_rfl) (by kernel_rfl) (by kernel_rfl) (by kernel_rfl) (fun _ _ _ h => h) (by kernel_rfl) (fun _ => HS1.out) ?_
                    (try simp only [Act.put, List.setIfInBounds_toArray, List.set_cons_zero, List.set_cons_succ])
                    refine wpAnyG_skip (i := 14) rfl (by kernel_rfl) (by kernel_rfl) (by kernel_rfl) (by kernel_rfl) (by kernel_rfl) (fun _ _ _ h => h) (by kernel_rfl) (fun _ => HS1.out) ?_
                    (try simp only [Act.put, List.setIfInBounds_toArray, List.set_cons_zero, List.set_cons_succ])
                    refine wpAnyG_skip (i := 15) rfl (by kernel_rfl) (by kernel_rfl) (by kernel_rfl) (by kernel_rfl) (by kernel_rfl) (fun _ _ _ h => h) (by kernel_rfl) (fun _ => HS1.out) ?_
                    (try simp only [Act.put, List.setIfInBounds_toArray, List.set_cons_zero, List.set_cons_succ])
                    refine wpAnyG_pure (i := 16) (v := ?_) rfl (by kernel_rfl) (by kernel_rfl) (by kernel_rfl) (by kernel_rfl) (by kernel_rfl) (fun _ _ _ h => h) (by kernel_rfl) ?_ (fun _ => HS1.out) ?_
                    rotate_left 1
                    · (intro zz; go_simp; first | done | with_reducible rfl)
                    (try simp only [Act.put, List.setIfInBounds_toArray, List.set_cons_zero, List.set_cons_succ])
                    refine wpAnyG_pure (i := 21) (v := ?_) rfl (by kernel_rfl) (by kernel_rfl) (by kernel_rfl) (by kernel_rfl) (by kernel_rfl) (fun _ _ _ h => h) (by kernel_rfl) ?_ (fun _ => HS1.out) ?_
                    rotate_left 1
                    · (intro zz; go_simp; first | done | with_reducible rfl)
                    (try simp only [Act.put, List.setIfInBounds_toArray, List.set_cons_zero, List.set_cons_succ])
                    -- the store of the table's cell: the world w4, behind w2 by HU4 (Hid); the value true, which it is by rfl
                    refine wpAnyG_ready [22] (by kernel_rfl) (by simp) ?_
                    refine AllG.cons rfl (fun K hK => ?_) AllG.nil
                    have hTB := HTB.out.upd (HU4).out (fun e => e)
                    have c9 : (w4).cell? ⟨tb, i * 32 + v * 16 + k * 2 + w', none⟩ = some (.bool (T (tIx i v k w'))) := hTB.cell HIX.out
                    have f9 : (w4).frozen? ⟨tb, i * 32 + v * 16 + k * 2 + w', none⟩ = false := hTB.frozen _
                    go_simp
                    refine hK.out _ _ (fun e => absurd (show true = false from e) (by decide)) ?_
                    clear hK K
                    (try simp only [Act.put, List.setIfInBounds_toArray, List.set_cons_zero, List.set_cons_succ])
                    refine wpAnyG_done (by kernel_rfl) ?_ _
                    have hset : TabAt ((w4).setCell ⟨tb, i * 32 + v * 16 + k * 2 + w', none⟩ (.bool (true))) tb (fun j => if j = tIx i v k w' then (true) else T j) := hTB.set (i := tIx i v k w') HIX.out (true)
                    have uA : Upd (fun j => j = tb) wo ((w4).setCell ⟨tb, i * 32 + v * 16 + k * 2 + w', none⟩ (.bool (true))) := (HUW.out.nw (HU4).out).trans' (Upd.set1 (Upd.refl _ (w4)) HTG.out _ (.bool (true))) (fun _ _ e => e)
                    have HSET := Lib.hid hset
                    have HUA := Lib.hid uA
                    have HTN := Lib.hid (HNEXT.out (true) (rfl))
                    clear hTB c9 f9 hset uA
                    go_wp2_with fail
                    go_roundw
                    case rel => exact ⟨k + 1, _, by omega, by go_num, HSET.out, HTN.out, HUA.out⟩
                    case measure => simp [intOf]; omega
                  | true =>
                    rw [hcs] at HNEXT HCO
                    go_upto_region 15 with fail
                    rw [← HW2.out, ← hP12]
                    clear HW2 hP12 d0 d1 d2 d3 d4 d5
                    have HS0 := Lib.hid (HP.out _ hd0)
                    refine wp_region_G (fun y => y.cell? ⟨P8, 1, none⟩ = some (.slice sa s.sends.length sc) ∧ y.cell? ⟨P8, 2, none⟩ = some (.int .i64 s.wr.kind) ∧ y.cell? ⟨P8, 3, none⟩ = some (.slice fa s.wr.fs.length fc) ∧ y.cell? ⟨P12, 4, none⟩ = some (.int .i64 r.rd.kind) ∧ y.cell? ⟨P12, 5, none⟩ = some (.slice za r.rd.fs.length zc) ∧ True) 22 (by kernel_rfl) ?_
                    refine wpAnyG_pure (i := 0) (v := ?_) rfl (by kernel_rfl) (by kernel_rfl) (by kernel_rfl) (by kernel_rfl) (by kernel_rfl) (fun _ _ _ h => h) (by kernel_rfl) ?_ (fun _ => HS0.out) ?_
                    rotate_left 1
                    · (intro zz; go_simp; first | done | with_reducible rfl)
                    (try simp only [Act.put, List.setIfInBounds_toArray, List.set_cons_zero, List.set_cons_succ])
                    refine wpAnyG_pure (i := 1) (v := ?_) rfl (by kernel_rfl) (by kernel_rfl) (by kernel_rfl) (by kernel_rfl) (by kernel_rfl) (fun _ _ _ h => h) (by kernel_rfl) ?_ (fun _ => HS0.out) ?_
                    rotate_left 1
                    · (intro zz; go_simp; first | done | with_reducible rfl)
                    (try simp only [Act.put, List.setIfInBounds_toArray, List.set_cons_zero, List.set_cons_succ])
                    refine wpAnyG_pure (i := 2) (v := ?_) rfl (by kernel_rfl) (by kernel_rfl) (by kernel_rfl) (by kernel_rfl) (by kernel_rfl) (fun _ _ _ h => h) (by kernel_rfl) ?_ (fun _ => HS0.out) ?_
                    rotate_left 1
                    · (intro zz; go_simp; first | done | with_reducible rfl)
                    (try simp only [Act.put, List.setIfInBounds_toArray, List.set_cons_zero, List.set_cons_succ])
                    refine wpAnyG_pure (i := 3) (v := ?_) rfl (by kernel_rfl) (by kernel_rfl) (by kernel_rfl) (by kernel_rfl) (by kernel_rfl) (fun _ _ _ h => h) (by kernel_rfl) ?_ (fun _ => HS0.out) ?_
                    rotate_left 1
                    · (intro zz; go_simp; first | done | with_reducible rfl)
                    (try simp only [Act.put, List.setIfInBounds_toArray, List.set_cons_zero, List.set_cons_succ])
                    refine wpAnyG_pure (i := 4) (v := ?_) rfl (by kernel_rfl) (by kernel_rfl) (by kernel_rfl) (by kernel_rfl) (by kernel_rfl) (fun _ _ _ h => h) (by kernel_rfl) ?_ (fun _ => HS0.out) ?_
                    rotate_left 1
                    · (intro zz; go_simp; first | done | with_reducible rfl)
                    (try simp only [Act.put, List.setIfInBounds_toArray, List.set_cons_zero, List.set_cons_succ])
                    refine wpAnyG_pure (i := 5) (v := ?_) rfl (by kernel_rfl) (by kernel_rfl) (by kernel_rfl) (by kernel_rfl) (by kernel_rfl) (fun _ _ _ h => h) (by kernel_rfl) ?_ (fun _ => HS0.out) ?_
                    rotate_left 1
                    · (intro zz; go_simp; first | done | with_reducible rfl)
                    (try simp only [Act.put, List.setIfInBounds_toArray, List.set_cons_zero, List.set_cons_succ])
                    refine wpAnyG_load (i := 6) (v := ?_) [] rfl (by kernel_rfl) (by kernel_rfl) (by kernel_rfl) (by kernel_rfl) (by kernel_rfl) (by kernel_rfl) (fun _ _ _ h => h) (by kernel_rfl) ?_ (fun _ => HS0.out) ?_
                    rotate_left 1
                    · (intro zz hS; obtain ⟨_, _, _, _, _, _⟩ := hS; go_simp; first | done | with_reducible rfl)
                    (try simp only [Act.put, List.setIfInBounds_toArray, List.set_cons_zero, List.set_cons_succ])
                    refine wpAnyG_pure (i := 7) (v := ?_) rfl (by kernel_rfl) (by kernel_rfl) (by kernel_rfl) (by kernel_rfl) (by kernel_rfl) (fun _ _ _ h => h) (by kernel_rfl) ?_ (fun _ => HS0.out) ?_
                    rotate_left 1
                    · (intro zz; go_simp; first | done | with_reducible rfl)
                    (try simp only [Act.put, List.setIfInBounds_toArray, List.set_cons_zero, List.set_cons_succ])
                    refine wpAnyG_pure (i := 17) (v := ?_) rfl (by kernel_rfl) (by kernel_rfl) (by kernel_rfl) (by kernel_rfl) (by kernel_rfl) (fun _ _ _ h => h) (by kernel_rfl) ?_ (fun _ => HS0.out) ?_
                    rotate_left 1
                    · (intro zz; go_simp; first | done | with_reducible rfl)
                    (try simp only [Act.put, List.setIfInBounds_toArray, List.set_cons_zero, List.set_cons_succ])
                    refine wpAnyG_pure (i := 18) (v := ?_) rfl (by kernel_rfl) (by kernel_rfl) (by kernel_rfl) (by kernel_rfl) (by kernel_rfl) (fun _ _ _ h => h) (by kernel_rfl) ?_ (fun _ => HS0.out) ?_
                    rotate_left 1
                    · (intro zz; go_simp; first | done | with_reducible rfl)
                    (try simp only [Act.put, List.setIfInBounds_toArray, List.set_cons_zero, List.set_cons_succ])
                    refine wpAnyG_pure (i := 19) (v := ?_) rfl (by kernel_rfl) (by kernel_rfl) (by kernel_rfl) (by kernel_rfl) (by kernel_rfl) (fun _ _ _ h => h) (by kernel_rfl) ?_ (fun _ => HS0.out) ?_
                    rotate_left 1
                    · (intro zz; go_simp; first | done | with_reducible rfl)
                    (try simp only [Act.put, List.setIfInBounds_toArray, List.set_cons_zero, List.set_cons_succ])
                    refine wpAnyG_pure (i := 20) (v := ?_) rfl (by kernel_rfl) (by kernel_rfl) (by kernel_rfl) (by kernel_rfl) (by kernel_rfl) (fun _ _ _ h => h) (by kernel_rfl) ?_ (fun _ => HS0.out) ?_
                    rotate_left 1
                    · (intro zz; go_simp; first | done | with_reducible rfl)
                    (try simp only [Act.put, List.setIfInBounds_toArray, List.set_cons_zero, List.set_cons_succ])
                    refine wpAnyG_ready [8] (by kernel_rfl) (by simp) ?_
                    refine AllG.cons rfl (fun K hK => ?_) AllG.nil
                    have hCC := HCO.out w2.drew hd0
                    go_simp
                    (with_reducible refine (hCC).mono ?_)
                    rintro _ w4 ⟨rfl, hw4⟩
                    clear hCC
                    have HU4 : Hid (Nw w2 w4) := by rw [← hw4]; exact hd0
                    refine hK.out _ _ (fun _ => HP.out _ HU4.out) ?_
                    clear hK K
                    (try simp only [Act.put, List.setIfInBounds_toArray, List.set_cons_zero, List.set_cons_succ])
                    clear hw4
                    have HS1 := Lib.hid (HP.out _ HU4.out)
                    refine wpAnyG_pure (i := 9) (v := ?_) rfl (by kernel_rfl) (by kernel_rfl) (by kernel_rfl) (by kernel_rfl) (by kernel_rfl) (fun _ _ _ h => h) (by kernel_rfl) ?_ (fun _ => HS1.out) ?_
                    rotate_left 1
                    · (intro zz; go_simp; first | done | with_reducible rfl)
                    (try simp only [Act.put, List.setIfInBounds_toArray, List.set_cons_zero, List.set_cons_succ])
                    refine wpAnyG_pure (i := 10) (v := ?_) rfl (by kernel_rfl) (by kernel_rfl) (by kernel_rfl) (by kernel_rfl) (by kernel_rfl) (fun _ _ _ h => h) (by kernel_rfl) ?_ (fun _ => HS1.out) ?_
                    rotate_left 1
                    · (intro zz; go_simp; first | done | with_reducible rfl)
                    (try simp only [Act.put, List.setIfInBounds_toArray, List.set_cons_zero, List.set_cons_succ])
                    refine wpAnyG_pure (i := 11) (v := ?_) rfl (by kernel_rfl) (by kernel_rfl) (by kernel_rfl) (by kernel_rfl) (by kernel_rfl) (fun _ _ _ h => h) (by kernel_rfl) ?_ (fun _ => HS1.out) ?_
                    rotate_left 1
                    · (intro zz; go_simp; first | done | with_reducible rfl)
                    (try simp only [Act.put, List.setIfInBounds_toArray, List.set_cons_zero, List.set_cons_succ])
                    refine wpAnyG_load (i := 12) (v := ?_) [] rfl (by kernel_rfl) (by kernel_rfl) (by kernel_rfl) (by kernel_rfl) (by kernel_rfl) (by kernel_rfl) (fun _ _ _ h => h) (by kernel_rfl) ?_ (fun _ => HS1.out) ?_
                    rotate_left 1
                    · (intro zz hS; obtain ⟨_, _, _, _, _, _⟩ := hS; go_simp; first | done | with_reducible rfl)
                    (try simp only [Act.put, List.setIfInBounds_toArray, List.set_cons_zero, List.set_cons_succ])
                    refine wpAnyG_pure (i := 13) (v := ?_) rfl (by kernel_rfl) (by kernel_rfl) (by kernel_rfl) (by kernel_rfl) (by kernel_rfl) (fun _ _ _ h => h) (by kernel_rfl) ?_ (fun _ => HS1.out) ?_
                    rotate_left 1
                    · (intro zz; go_simp; first | done | with_reducible rfl)
                    (try simp only [Act.put, List.setIfInBounds_toArray, List.set_cons_zero, List.set_cons_succ])
                    refine wpAnyG_load (i := 14) (v := ?_) [] rfl (by kernel_rfl) (by kernel_rfl) (by kernel_rfl) (by kernel_rfl) (by kernel_rfl) (by kernel_rfl) (fun _ _ _ h => h) (by kernel_rfl) ?_ (fun _ => HS1.out) ?_
                    rotate_left 1
                    · (intro zz hS; obtain ⟨_, _, _, _, _, _⟩ := hS; go_simp; first | done | with_reducible rfl)
                    (try simp only [Act.put, List.setIfInBounds_toArray, List.set_cons_zero, List.set_cons_succ])
                    refine wpAnyG_ready [15] (by kernel_rfl) (by simp) ?_
                    refine AllG.cons rfl (fun K hK => ?_) AllG.nil
                    have hCC := HRD.out w4 HU4.out
                    go_simp
                    (with_reducible refine (hCC).mono ?_)
                    rintro _ w5 ⟨rfl, u5⟩
                    clear hCC
                    have HU5 := Lib.hid (HU4.out.trans u5)
                    refine hK.out _ _ (fun _ => HP.out _ HU5.out) ?_
                    clear hK K
                    (try simp only [Act.put, List.setIfInBounds_toArray, List.set_cons_zero, List.set_cons_succ])
                    have HS2 := Lib.hid (HP.out _ HU5.out)
                    refine wpAnyG_pure (i := 16) (v := ?_) rfl (by kernel_rfl) (by kernel_rfl) (by kernel_rfl) (by kernel_rfl) (by kernel_rfl) (fun _ _ _ h => h) (by kernel_rfl) ?_ (fun _ => HS2.out) ?_
                    rotate_left 1
                    · (intro zz; go_simp; first | done | with_reducible rfl)
                    (try simp only [Act.put, List.setIfInBounds_toArray, List.set_cons_zero, List.set_cons_succ])
                    refine wpAnyG_pure (i := 21) (v := ?_) rfl (by kernel_rfl) (by kernel_rfl) (by kernel_rfl) (by kernel_rfl) (by kernel_rfl) (fun _ _ _ h => h) (by kernel_rfl) ?_ (fun _ => HS2.out) ?_
                    rotate_left 1
                    · (intro zz; go_simp; first | done | with_reducible rfl)
                    (try simp only [Act.put, List.setIfInBounds_toArray, List.set_cons_zero, List.set_cons_succ])
                    -- the store of the table's cell: the world w5, behind w2 by HU5 (Hid); the value rd, which it is by rfl
                    refine wpAnyG_ready [22] (by kernel_rfl) (by simp) ?_
                    refine AllG.cons rfl (fun K hK => ?_) AllG.nil
                    have hTB := HTB.out.upd (HU5).out (fun e => e)
                    have c9 : (w5).cell? ⟨tb, i * 32 + v * 16 + k * 2 + w', none⟩ = some (.bool (T (tIx i v k w'))) := hTB.cell HIX.out
                    have f9 : (w5).frozen? ⟨tb, i * 32 + v * 16 + k * 2 + w', none⟩ = false := hTB.frozen _
                    go_simp
                    refine hK.out _ _ (fun e => absurd (show true = false from e) (by decide)) ?_
                    clear hK K
                    (try simp only [Act.put, List.setIfInBounds_toArray, List.set_cons_zero, List.set_cons_succ])
                    refine wpAnyG_done (by kernel_rfl) ?_ _
                    have hset : TabAt ((w5).setCell ⟨tb, i * 32 + v * 16 + k * 2 + w', none⟩ (.bool (rd))) tb (fun j => if j = tIx i v k w' then (rd) else T j) := hTB.set (i := tIx i v k w') HIX.out (rd)
                    have uA : Upd (fun j => j = tb) wo ((w5).setCell ⟨tb, i * 32 + v * 16 + k * 2 + w', none⟩ (.bool (rd))) := (HUW.out.nw (HU5).out).trans' (Upd.set1 (Upd.refl _ (w5)) HTG.out _ (.bool (rd))) (fun _ _ e => e)
                    have HSET := Lib.hid hset
                    have HUA := Lib.hid uA
                    have HTN := Lib.hid (HNEXT.out (rd) (rfl))
                    clear hTB c9 f9 hset uA
                    go_wp2_with fail
                    go_roundw
                    case rel => exact ⟨k + 1, _, by omega, by go_num, HSET.out, HTN.out, HUA.out⟩
                    case measure => simp [intOf]; omega
                · obtain rfl : k = (svs f w').length := by omega
                  have HT3 : Hid (TabTo f T v i (w' + 1) 0) := TabTo.k_end (by rw [← HMN.out]; exact HTT.out)
                  go_wp2_with fail
                  go_roundw
                  case rel => exact ⟨w' + 1, T, by omega, by go_num, HTA, HT3.out, U⟩
                  case measure => simp [intOf]; omega
            · obtain rfl : w' = 2 := by omega
              have HT3 : Hid (TabTo f T v (i + 1) 0 0) := TabTo.w_end HTT.out
              have HU3 : Hid (Upd (fun j => j = tb) W3 wr) := Uo.out.trans' U.out (fun _ _ e => e)
              go_wp2_with fail
              go_roundw
              case rel => exact ⟨i + 1, T, by omega, by go_num, HTA, HT3.out, HU3.out⟩
              case measure => simp [intOf]; omega
        · obtain rfl : i = (svs f v).length := by omega
          have HT3 : Hid (TabTo f T (v + 1) 0 0 0) := TabTo.i_end (by rw [← HLN.out]; exact HTT.out)
          go_wp2_with fail
          go_roundw
          case rel => exact ⟨v + 1, T, by omega, by go_num, HTA, HT3.out, U⟩
          case measure => simp [intOf]; omega
    · obtain rfl : v = 2 := by omega
      have HNE : Hid (Nw w wr) := HN.out.trans' U.out (fun j hj e => by have := HTW.out; omega)
      have HAL := Lib.hid (TabTo.all HTT.out)
      go_wp2_with fail
      go_ret
      exact ⟨tb, T, rfl, HTA.out, HAL.out, HTW.out, HNE.out⟩
end Go.Proofs.YtjlgmoemnhmgmaaGreatDoor
