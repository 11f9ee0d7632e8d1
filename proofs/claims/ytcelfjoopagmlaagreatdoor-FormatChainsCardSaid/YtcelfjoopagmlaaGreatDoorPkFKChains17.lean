/- state.Zero. -/
import Derived.Test.YtcelfjoopagmlaaGreatDoorPkFKChains14
import Derived.Test.YtcelfjoopagmlaaGreatDoorPkFKChains15
import Derived.Test.YtcelfjoopagmlaaGreatDoorPkFKChains16
namespace Go.Proofs.YtcelfjoopagmlaaGreatDoor
open Go.RowKit
set_option linter.unusedVariables false
set_option linter.unusedSimpArgs false
attribute [local irreducible] Calls
open Fm (Ty Vl Str nameB rightTy rightVl)

theorem infoStrF : (Tryz.prog.info? 9).map (fun i => (i.zero, i.size, i.bytes)) = some (some (.string ⟨#[]⟩), 1, 16) := by kernel_rfl
theorem infoVlF : (Tryz.prog.info? tVl).map (fun i => (i.zero, i.size, i.bytes)) = some (some (.agg #[.int .i64 0, .int .i64 0, .slice none 0 0, .slice none 0 0]), 4, 64) := by kernel_rfl
theorem own_slF {w : World} {B : Nat} {e : TypeId} {sz n : Nat} {v : Value} {xs : List Value} (h : w.ownsRow B e sz v n xs) : ∃ a cap, v = .slice a n cap := by
  rcases h.2 with ⟨rfl, rfl⟩ | ⟨g, cap, cur, rfl, _⟩
  · exact ⟨none, 0, rfl⟩
  · exact ⟨_, _, rfl⟩
theorem zero_results (tmps : Array Value) (w : World) {r : Nat} {k n : Int} {nv vv : Value} (hr : tmps.getD 2 undef = .pointer (some ⟨r, 0, none⟩)) (hb : w.heap[r]? = some (.cells #[.int .i64 k, .int .i64 n, nv, vv] tVl (0, 0))) :
    (results Tryz.f37 tmps).run Tryz.prog w = .ok (.agg #[.int .i64 k, .int .i64 n, nv, vv]) w := by
  have c0 : w.cell? ⟨r, 0, none⟩ = some (.int .i64 k) := by rw [cells_cell hb]; rfl
  have c1 : w.cell? ⟨r, 1, none⟩ = some (.int .i64 n) := by rw [cells_cell hb]; rfl
  have c2 : w.cell? ⟨r, 2, none⟩ = some nv := by rw [cells_cell hb]; rfl
  have c3 : w.cell? ⟨r, 3, none⟩ = some vv := by rw [cells_cell hb]; rfl
  rw [Array.getD_eq_getD_getElem?] at hr
  simp [results, Tryz.results37, go_sem, hr, c0, c1, c2, c3]
set_option maxHeartbeats 8000000 in
set_option maxRecDepth 100000 in
theorem zero_c : ∀ (d : Nat), d ≤ 4 → ∀ (t : Ty) (fv : Value) (w : World), Gm w → rightTy d t = true → TyAt w fv t →
    Calls Tryz.prog 37 #[.agg #[.int .i64 t.kind, fv]] w fun e w' => ∃ nv vv, e = .returned (.agg #[.int .i64 (Fm.zero d t).kind, .int .i64 (Fm.zero d t).n, nv, vv]) ∧ VlAt (fun k => w.heap.size ≤ k) w' nv vv (Fm.zero d t) ∧ Nw w w' := by
  intro d
  induction d with
  | zero => intro _ t fv w g h; cases h
  | succ d ih =>
    intro hd t fv w g hr ht
    have IH := Lib.hid (ih (by omega))
    have RT := Lib.hid (Fm.rt_iff.1 hr)
    have hR4 := Fm.right_le hr hd
    have hgb := g.g.big
    obtain ⟨fa, fc, rfl, hfl, hfc⟩ := ht.cells
    have HFC : Hid (FdC w fa t.fs) := hfc
    have hk := ht.kind
    have n1 := nw_alloc w (.cells #[.int .i64 t.kind, .slice fa t.fs.length fc] tTy)
    have n2 := nw_alloc (w.alloc (.cells #[.int .i64 t.kind, .slice fa t.fs.length fc] tTy)) (.cells #[.int .i64 0, .int .i64 0, .slice none 0 0, .slice none 0 0] tVl)
    have b1 := n2.keep (heap_new w (.cells #[.int .i64 t.kind, .slice fa t.fs.length fc] tTy))
    have b2 := heap_new (w.alloc (.cells #[.int .i64 t.kind, .slice fa t.fs.length fc] tTy)) (.cells #[.int .i64 0, .int .i64 0, .slice none 0 0, .slice none 0 0] tVl)
    rw [World.size_alloc] at b2
    have hN := n1.trans n2
    obtain ⟨W, hW⟩ : ∃ W, W = (w.alloc (.cells #[.int .i64 t.kind, .slice fa t.fs.length fc] tTy)).alloc (.cells #[.int .i64 0, .int .i64 0, .slice none 0 0, .slice none 0 0] tVl) := ⟨_, rfl⟩
    rw [← hW] at hN b1 b2
    have hr1 := types_right_c _ t W (g.upd hN) (ht.nw hN)
    rw [hR4] at hr1
    have HR := Lib.hid hr1
    have HN := Lib.hid hN
    have HW := Lib.hid hW
    have c0 : W.cell? ⟨w.heap.size, 0, none⟩ = some (.int .i64 t.kind) := by rw [cells_cell b1]; rfl
    have c1 : W.cell? ⟨w.heap.size, 1, none⟩ = some (.slice fa t.fs.length fc) := by rw [cells_cell b1]; rfl
    have HB1 := Lib.hid b1
    have HB2 := Lib.hid b2
    have hfl1 : (t.fs.length : Int) ≤ 8 := by have := RT.out.len; omega
    have HK := Lib.hid hk
    clear ih hr hfc n1 n2 b1 b2 hN hW hr1 hfl hR4 hk ht
    go_enter Tryz.func37, Tryz.ntmps37
    go_upto_region 1 with fail
    rw [← HW.out]
    clear HW
    go_wp2_with fail
    (with_reducible refine (HR.out).mono ?_)
    rintro _ w2 ⟨rfl, u2⟩
    have k0 := nw_cellF u2 c0
    have U2 := Lib.hid (HN.out.trans u2)
    have hb1 := Nw.keep u2 HB1.out
    have hb2 := Nw.keep u2 HB2.out
    -- the box of the value that is built
    have n3 := nw_alloc w2 (.cells #[.int .i64 t.kind, .int .i64 0, .slice none 0 0, .slice none 0 0] tVl)
    have b3 := heap_new w2 (.cells #[.int .i64 t.kind, .int .i64 0, .slice none 0 0, .slice none 0 0] tVl)
    obtain ⟨W3, hW3⟩ : ∃ y, y = w2.alloc (.cells #[.int .i64 t.kind, .int .i64 0, .slice none 0 0, .slice none 0 0] tVl) := ⟨_, rfl⟩
    rw [← hW3] at n3 b3
    have HW3 := Lib.hid hW3
    have U3 := Lib.hid (U2.out.trans n3)
    have HB13 := Lib.hid (Nw.keep n3 hb1)
    have HB23 := Lib.hid (Nw.keep n3 hb2)
    have HB3 := Lib.hid b3
    have x1 : W3.cell? ⟨w.heap.size, 1, none⟩ = some (.slice fa t.fs.length fc) := by rw [cells_cell HB13.out]; rfl
    have hz2 : w.heap.size + 2 ≤ w2.heap.size := by have := lt_of_block hb2; omega
    have hz3 : W3.heap.size = w2.heap.size + 1 := by rw [hW3]; simp
    have HZ := Lib.hid (And.intro hz2 hz3)
    clear u2 hb1 hb2 n3 b3 hW3 hz2 hz3 HR c0 c1
    go_upto_region 4 with fail
    rw [← HW3.out]
    clear HW3 k0
    generalize w2.heap.size = q at *
    go_wp2_with fail
    go_loopw [16] (fun iv wr => ∃ n : Nat, n ≤ t.fs.length ∧ iv = .int .i64 (n : Int) ∧ Hid (∃ nv vv C, wr.heap[q]? = some (.cells #[.int .i64 t.kind, .int .i64 0, nv, vv] tVl (0, 0)) ∧ VB (q + 1) wr nv vv ((t.fs.take n).map (·.1)) C ∧ C.map VC.v = (t.fs.take n).map (fun f => Fm.zero d f.2)) ∧ Hid (Upd (fun k => k = q) W3 wr)) (fun iv _ => t.fs.length - (intOf iv).toNat)
    case atStart => exact ⟨0, Nat.zero_le _, rfl, ⟨_, _, [], HB3.out, VB.nil _ _, rfl⟩, Upd.refl _ _⟩
    case round =>
      obtain ⟨n, hn, rfl, HV, U⟩ := hrel
      obtain ⟨nv, vv, C, hbq, hvb, hcv⟩ := HV.out
      have hnw : Nw w wr := U3.out.trans' U.out (fun k hk e => by have := HZ.out.1; omega)
      have hCl : C.length = n := by
        have := congrArg List.length hcv
        rw [List.length_map, List.length_map, List.length_take] at this; omega
      have hNl : ((t.fs.take n).map (·.1)).length = n := by rw [List.length_map, List.length_take]; omega
      obtain ⟨na, nc, rfl⟩ := own_slF hvb.on
      obtain ⟨va, vc, rfl⟩ := own_slF hvb.ov
      rw [hNl, hCl] at hbq hvb
      have HVB := Lib.hid hvb
      have HCV := Lib.hid hcv
      have HNW := Lib.hid hnw
      have HBQ := Lib.hid hbq
      have HL := Lib.hid (And.intro hCl hNl)
      clear HV hvb hcv hnw hCl hNl
      by_cases hlt : n < t.fs.length
      · have hlt1 : (n : Int) < t.fs.length := by omega
        have hn8 : (n : Int) ≤ 8 := by omega
        rcases HFC.out with hnil | ⟨b, off, rfl, hb, hcell⟩
        · rw [hnil] at hlt; simp at hlt
        obtain ⟨sv, p0, p1, p2, hty, hsl⟩ := hcell n hlt
        obtain ⟨sa, sc, hsv, -⟩ := hty.cells
        subst hsv
        have y0 := nw_cellF HNW.out p0
        have y1 := nw_cellF HNW.out p1
        have y2 := nw_cellF HNW.out p2
        have hstN : (t.fs.take (n + 1)).map (·.1) = (t.fs.take n).map (·.1) ++ [(t.fs[n]).1] := by rw [List.take_succ_eq_append_getElem hlt, List.map_append]; rfl
        have hstV : (t.fs.take (n + 1)).map (fun f => Fm.zero d f.2) = (t.fs.take n).map (fun f => Fm.zero d f.2) ++ [Fm.zero d (t.fs[n]).2] := by rw [List.take_succ_eq_append_getElem hlt, List.map_append]; rfl
        have HST := Lib.hid (And.intro hstN hstV)
        have HSub := Lib.hid (RT.out.sub _ (List.getElem_mem hlt))
        have HTY := Lib.hid hty
        have HSL := Lib.hid hsl
        clear hcell p0 p1 p2 hstN hstV hty hsl
        generalize (t.fs[n]).1 = s at *
        generalize (t.fs[n]).2 = ft at *
        obtain ⟨wo, hwo, n0, hbx⟩ : ∃ z, z = wr.alloc (.cells #[.string ⟨s.toArray⟩, .int .i64 ft.kind, .slice sa ft.fs.length sc] tFd) ∧ Nw wr z ∧ z.heap[wr.heap.size]? = some (.cells #[.string ⟨s.toArray⟩, .int .i64 ft.kind, .slice sa ft.fs.length sc] tFd (0, 0)) := ⟨_, rfl, nw_alloc wr _, heap_new wr _⟩
        have HWO := Lib.hid hwo
        have HN0 := Lib.hid n0
        have HBX := Lib.hid hbx
        have HBQ0 := Lib.hid (n0.keep HBQ.out)
        have HVB0 := Lib.hid (HVB.out.nw n0)
        have hqlt := lt_of_block HBQ.out
        have hwolt := lt_of_block hbx
        clear hwo n0 hbx
        go_upto_region 7 with fail
        rw [← HWO.out]
        clear HWO y0 y1 y2
        have hP : ∀ y, Upd (fun k => (Value.slice na n nc).ownBlock = some k ∨ (Value.slice va n vc).ownBlock = some k) wo y → (y.cell? ⟨q, 2, none⟩ = some (.slice na n nc) ∧ y.cell? ⟨q, 3, none⟩ = some (.slice va n vc) ∧ y.frozen? ⟨q, 2, none⟩ = false ∧ y.frozen? ⟨q, 3, none⟩ = false ∧ y.cell? ⟨wr.heap.size, 0, none⟩ = some (.string ⟨s.toArray⟩) ∧ y.cell? ⟨wr.heap.size, 1, none⟩ = some (.int .i64 ft.kind) ∧ y.cell? ⟨wr.heap.size, 2, none⟩ = some (.slice sa ft.fs.length sc)) := fun y u => by
          have hq : ∀ k, ((Value.slice na n nc).ownBlock = some k ∨ (Value.slice va n vc).ownBlock = some k) → q < k ∧ k < wr.heap.size := fun k e => by
            rcases e with e | e
            · have := HVB.out.on.lt k e; omega
            · have := HVB.out.ov.lt k e; omega
          have h1 := u.keep HBQ0.out (fun e => by have := hq _ e; omega)
          have h2 := u.keep HBX.out (fun e => by have := hq _ e; omega)
          exact ⟨by rw [cells_cell h1]; rfl, by rw [cells_cell h1]; rfl, cells_frozen h1 2, cells_frozen h1 3, by rw [cells_cell h2]; rfl, by rw [cells_cell h2]; rfl, by rw [cells_cell h2]; rfl⟩
        have HP := Lib.hid hP
        have hy1 : Nw wo (wo.alloc (.cells #[.string ⟨s.toArray⟩] 9)).drew := (nw_alloc wo _).drew
        have HY1 := Lib.hid hy1
        have HU1 : Hid (Upd (fun k => (Value.slice na n nc).ownBlock = some k ∨ (Value.slice va n vc).ownBlock = some k) wo (wo.alloc (.cells #[.string ⟨s.toArray⟩] 9)).drew) := Nw.upd _ hy1
        have HON : Hid ((wo.alloc (.cells #[.string ⟨s.toArray⟩] 9)).drew.ownsRow (q + 1) 9 1 (.slice na n nc) n (((t.fs.take n).map (·.1)).map sF)) := by
          have := (HVB0.out.nw hy1).on
          rw [HL.out.2] at this; exact this
        have HNews : Hid (∀ j u, ([.string ⟨s.toArray⟩] : List Value)[j]? = some u → (wo.alloc (.cells #[.string ⟨s.toArray⟩] 9)).drew.cell? ((⟨wo.heap.size, 0, none⟩ : Addr).add j) = some u) := fun j u hu => by
          have := World.news_of_block (cs := #[.string ⟨s.toArray⟩]) (t := 9) (fr := (0, 0)) (heap_new wo (.cells #[.string ⟨s.toArray⟩] 9)) j u hu
          exact nw_cellF (Upd.refl (fun _ => False) _).drew this
        have HQ1 : Hid (q + 1 ≤ (wo.alloc (.cells #[.string ⟨s.toArray⟩] 9)).drew.heap.size ∧ nG ≤ q + 1) := by
          have := hy1.size
          have := HZ.out.1
          exact ⟨by omega, by omega⟩
        have HNum : Hid (0 < 1 ∧ n + 1 ≤ maxLen ∧ (n + 1) * 16 ≤ 140737488355328 ∧ (n + 1) * 64 ≤ 140737488355328) := ⟨by omega, by unfold maxLen; omega, by omega, by omega⟩
        have HZr : Hid (∀ y, Upd (fun k => (Value.slice na n nc).ownBlock = some k ∨ (Value.slice va n vc).ownBlock = some k) wo y → Calls Tryz.prog 37 #[.agg #[.int .i64 ft.kind, .slice sa ft.fs.length sc]] y fun e z => ∃ xa xl xc ya yl yc, e = .returned (.agg #[.int .i64 (Fm.zero d ft).kind, .int .i64 (Fm.zero d ft).n, .slice xa xl xc, .slice ya yl yc]) ∧ Hid (VlAt (fun k => y.heap.size ≤ k) z (.slice xa xl xc) (.slice ya yl yc) (Fm.zero d ft) ∧ Nw y z)) := fun y u => by
          have uy : Nw w y := (HNW.out.trans HN0.out).trans' u (fun k hk e => by
            rcases e with e | e
            · have := (HVB.out.on.lt k e).1; have := HZ.out.1; omega
            · have := (HVB.out.ov.lt k e).1; have := HZ.out.1; omega)
          refine (IH.out ft _ y (g.upd uy) HSub.out (HTY.out.nw uy)).mono ?_
          rintro e z ⟨xn, xv, rfl, hx, ux⟩
          obtain ⟨xa, xc, rfl, -⟩ := hx.names
          obtain ⟨ya, yc, rfl, -⟩ := hx.vals
          exact ⟨xa, _, xc, ya, _, yc, rfl, hx, ux⟩
        have HVV : Hid (∀ y, Upd (fun k => (Value.slice na n nc).ownBlock = some k) wo y → y.ownsRow (q + 1) tVl 4 (.slice va n vc) n (C.map vcL).flatten) := fun y u => by
          have h := HVB0.out.ov
          rw [HL.out.1] at h
          have hne := HVB0.out.ne
          exact owns_upd' h u (fun k e e2 => hne k e2 e)
        clear hP hy1
        go_wp2_with fail
        have HS0 := Lib.hid (HP.out _ (Upd.refl _ _).drew)
        refine wp_region_G (fun y => y.cell? ⟨q, 2, none⟩ = some (.slice na n nc) ∧ y.cell? ⟨q, 3, none⟩ = some (.slice va n vc) ∧ y.frozen? ⟨q, 2, none⟩ = false ∧ y.frozen? ⟨q, 3, none⟩ = false ∧ y.cell? ⟨wr.heap.size, 0, none⟩ = some (.string ⟨s.toArray⟩) ∧ y.cell? ⟨wr.heap.size, 1, none⟩ = some (.int .i64 ft.kind) ∧ y.cell? ⟨wr.heap.size, 2, none⟩ = some (.slice sa ft.fs.length sc)) 12 (by kernel_rfl) ?_
        refine wpAnyG_pure (i := 0) (v := ?_) rfl (by kernel_rfl) (by kernel_rfl) (by kernel_rfl) (by kernel_rfl) (by kernel_rfl) (fun _ _ _ h => h) (by rfl) ?_ (fun _ => HS0.out) ?_
        rotate_left 1
        · (intro zz; go_simp; first | done | with_reducible rfl)
        (try simp only [Act.put, List.setIfInBounds_toArray, List.set_cons_zero, List.set_cons_succ])
        refine wpAnyG_pure (i := 2) (v := ?_) rfl (by kernel_rfl) (by kernel_rfl) (by kernel_rfl) (by kernel_rfl) (by kernel_rfl) (fun _ _ _ h => h) (by rfl) ?_ (fun _ => HS0.out) ?_
        rotate_left 1
        · (intro zz; go_simp; first | done | with_reducible rfl)
        (try simp only [Act.put, List.setIfInBounds_toArray, List.set_cons_zero, List.set_cons_succ])
        refine wpAnyG_pure (i := 6) (v := ?_) rfl (by kernel_rfl) (by kernel_rfl) (by kernel_rfl) (by kernel_rfl) (by kernel_rfl) (fun _ _ _ h => h) (by rfl) ?_ (fun _ => HS0.out) ?_
        rotate_left 1
        · (intro zz; go_simp; first | done | with_reducible rfl)
        (try simp only [Act.put, List.setIfInBounds_toArray, List.set_cons_zero, List.set_cons_succ])
        refine wpAnyG_pure (i := 8) (v := ?_) rfl (by kernel_rfl) (by kernel_rfl) (by kernel_rfl) (by kernel_rfl) (by kernel_rfl) (fun _ _ _ h => h) (by rfl) ?_ (fun _ => HS0.out) ?_
        rotate_left 1
        · (intro zz; go_simp; first | done | with_reducible rfl)
        (try simp only [Act.put, List.setIfInBounds_toArray, List.set_cons_zero, List.set_cons_succ])
        refine wpAnyG_load (i := 1) (v := ?_) [11, 10, 5] rfl (by kernel_rfl) (by kernel_rfl) (by kernel_rfl) (by kernel_rfl) (by kernel_rfl) (by kernel_rfl) (fun _ _ _ h => h) (by rfl) ?_ (fun _ => HS0.out) ?_
        rotate_left 1
        · (intro zz hS; obtain ⟨_, _, _, _, _, _, _⟩ := hS; go_simp; first | done | with_reducible rfl)
        (try simp only [Act.put, List.setIfInBounds_toArray, List.set_cons_zero, List.set_cons_succ])
        refine wpAnyG_load (i := 3) (v := ?_) [11, 10, 5, 4] rfl (by kernel_rfl) (by kernel_rfl) (by kernel_rfl) (by kernel_rfl) (by kernel_rfl) (by kernel_rfl) (fun _ _ _ h => h) (by rfl) ?_ (fun _ => HS0.out) ?_
        rotate_left 1
        · (intro zz hS; obtain ⟨_, _, _, _, _, _, _⟩ := hS; go_simp; first | done | with_reducible rfl)
        (try simp only [Act.put, List.setIfInBounds_toArray, List.set_cons_zero, List.set_cons_succ])
        refine wpAnyG_load (i := 7) (v := ?_) [] rfl (by kernel_rfl) (by kernel_rfl) (by kernel_rfl) (by kernel_rfl) (by kernel_rfl) (by kernel_rfl) (fun _ _ _ h => h) (by rfl) ?_ (fun _ => HS0.out) ?_
        rotate_left 1
        · (intro zz hS; obtain ⟨_, _, _, _, _, _, _⟩ := hS; go_simp; first | done | with_reducible rfl)
        (try simp only [Act.put, List.setIfInBounds_toArray, List.set_cons_zero, List.set_cons_succ])
        refine wpAnyG_load (i := 9) (v := ?_) [11, 10] rfl (by kernel_rfl) (by kernel_rfl) (by kernel_rfl) (by kernel_rfl) (by kernel_rfl) (by kernel_rfl) (fun _ _ _ h => h) (by rfl) ?_ (fun _ => HS0.out) ?_
        rotate_left 1
        · (intro zz hS; obtain ⟨_, _, _, _, _, _, _⟩ := hS; go_simp; first | done | with_reducible rfl)
        (try simp only [Act.put, List.setIfInBounds_toArray, List.set_cons_zero, List.set_cons_succ])
        refine wpAnyG_ready [4] (by kernel_rfl) (by simp) ?_
        refine AllG.cons rfl (fun K hK => ?_) AllG.nil
        go_simp
        refine hK.out _ _ (fun _ => HP.out _ HU1.out) ?_
        clear hK K
        (try simp only [Act.put, List.setIfInBounds_toArray, List.set_cons_zero, List.set_cons_succ])
        refine wpAnyG_ready [5] (by kernel_rfl) (by simp) ?_
        refine AllG.cons rfl (fun K hK => ?_) AllG.nil
        refine step_catC rfl _ _ 25 rfl 9 _ 1 16 Tryz.underlying25 infoStrF rfl (by decide) (q + 1) HQ1.out.1 HQ1.out.2 _ n _ rfl HON.out ⟨wo.heap.size, 0, none⟩ 1 1 [.string ⟨s.toArray⟩] rfl rfl HNews.out (by intro u hu; rw [List.mem_singleton.1 hu]; rfl) HNum.out.1 HNum.out.2.1 HNum.out.2.2.1 ?_
        intro ga ca wb ob ub0 hbb
        have ub1 : Hid (Upd (fun k => (Value.slice na n nc).ownBlock = some k) wo wb) := Nw.trans HY1.out ub0
        have ub : Hid (Upd (fun k => (Value.slice na n nc).ownBlock = some k ∨ (Value.slice va n vc).ownBlock = some k) wo wb) := ub1.out.mono (fun k _ e => Or.inl e)
        refine hK.out _ _ (fun _ => HP.out _ ub.out) ?_
        clear hK K
        (try simp only [Act.put, List.setIfInBounds_toArray, List.set_cons_zero, List.set_cons_succ])
        refine wpAnyG_pure (i := 13) (v := ?_) rfl (by kernel_rfl) (by kernel_rfl) (by kernel_rfl) (by kernel_rfl) (by kernel_rfl) (fun _ _ _ h => h) (by rfl) ?_ (fun _ => HP.out _ ub.out) ?_
        rotate_left 1
        · (intro zz; go_simp; first | done | with_reducible rfl)
        (try simp only [Act.put, List.setIfInBounds_toArray, List.set_cons_zero, List.set_cons_succ])
        refine wpAnyG_ready [10] (by kernel_rfl) (by simp) ?_
        refine AllG.cons rfl (fun K hK => ?_) AllG.nil
        have hCC := HZr.out wb ub.out
        go_simp
        (with_reducible refine (hCC).mono ?_)
        rintro _ wc ⟨xa, xl, xc, ya, yl, yc, rfl, HX⟩
        clear hCC
        have uc : Hid (Upd (fun k => (Value.slice na n nc).ownBlock = some k ∨ (Value.slice va n vc).ownBlock = some k) wo wc) := ub.out.nw HX.out.2
        have ud : Hid (Upd (fun k => (Value.slice na n nc).ownBlock = some k ∨ (Value.slice va n vc).ownBlock = some k) wo (wc.alloc (.cells #[.int .i64 (Fm.zero d ft).kind, .int .i64 (Fm.zero d ft).n, .slice xa xl xc, .slice ya yl yc] tVl))) := uc.out.nw (nw_alloc _ _)
        have HD : Hid ((wc.alloc (.cells #[.int .i64 (Fm.zero d ft).kind, .int .i64 (Fm.zero d ft).n, .slice xa xl xc, .slice ya yl yc] tVl)).ownsRow (q + 1) tVl 4 (.slice va n vc) n (C.map vcL).flatten) := HVV.out _ ((ub1.out.nw HX.out.2).nw (nw_alloc _ _))
        have hqd := ud.out.size
        refine hK.out _ _ (fun _ => HP.out _ uc.out) ?_
        clear hK K
        (try simp only [Act.put, List.setIfInBounds_toArray, List.set_cons_zero, List.set_cons_succ])
        refine wpAnyG_ready [11] (by kernel_rfl) (by simp) ?_
        refine AllG.cons rfl (fun K hK => ?_) AllG.nil
        go_simp
        refine hK.out _ _ (fun _ => HP.out _ ud.out) ?_
        clear hK K
        (try simp only [Act.put, List.setIfInBounds_toArray, List.set_cons_zero, List.set_cons_succ])
        refine wpAnyG_ready [12] (by kernel_rfl) (by simp) ?_
        refine AllG.cons rfl (fun K hK => ?_) AllG.nil
        refine step_catC rfl _ _ 26 rfl tVl _ 4 64 Tryz.underlying26 infoVlF rfl (by decide) (q + 1) (Nat.le_trans (by have := HN0.out.size; have := HZ.out.2; have := U.out.size; omega) hqd) (by have := HZ.out.1; omega) _ n _ rfl HD.out ⟨wc.heap.size, 0, none⟩ 1 1 [.int .i64 (Fm.zero d ft).kind, .int .i64 (Fm.zero d ft).n, .slice xa xl xc, .slice ya yl yc] rfl rfl (World.news_of_block (cs := #[.int .i64 (Fm.zero d ft).kind, .int .i64 (Fm.zero d ft).n, .slice xa xl xc, .slice ya yl yc]) (t := tVl) (fr := (0, 0)) (heap_new wc _)) (by intro u hu; simp at hu; rcases hu with rfl | rfl | rfl | rfl <;> rfl) HNum.out.1 HNum.out.2.1 HNum.out.2.2.2 ?_
        intro gd cd we oe ue0 hbe
        have ue : Hid (Upd (fun k => (Value.slice na n nc).ownBlock = some k ∨ (Value.slice va n vc).ownBlock = some k) wo we) := ud.out.trans' ue0 (fun k _ e => Or.inr e)
        obtain ⟨_, _, _, _, -, -, -⟩ := HP.out _ ue.out
        refine hK.out _ _ (fun e => absurd (show true = false from e) (by decide)) ?_
        clear hK K
        (try simp only [Act.put, List.setIfInBounds_toArray, List.set_cons_zero, List.set_cons_succ])
        refine wpAnyG_ready [14] (by kernel_rfl) (by simp) ?_
        refine AllG.cons rfl (fun K hK => ?_) AllG.nil
        go_simp
        refine hK.out _ _ (fun e => absurd (show true = false from e) (by decide)) ?_
        clear hK K
        (try simp only [Act.put, List.setIfInBounds_toArray, List.set_cons_zero, List.set_cons_succ])
        refine wpAnyG_pure (i := 15) (v := ?_) rfl (by kernel_rfl) (by kernel_rfl) (by kernel_rfl) (by kernel_rfl) (by kernel_rfl) (fun _ _ _ h => h) (by rfl) ?_ (fun e => absurd (show true = false from e) (by decide)) ?_
        rotate_left 1
        · (intro zz; go_simp; first | done | with_reducible rfl)
        (try simp only [Act.put, List.setIfInBounds_toArray, List.set_cons_zero, List.set_cons_succ])
        refine wpAnyG_ready [16] (by kernel_rfl) (by simp) ?_
        refine AllG.cons rfl (fun K hK => ?_) AllG.nil
        go_simp
        refine hK.out _ _ (fun e => absurd (show true = false from e) (by decide)) ?_
        clear hK K
        (try simp only [Act.put, List.setIfInBounds_toArray, List.set_cons_zero, List.set_cons_succ])
        refine wpAnyG_done (by kernel_rfl) ?_ _
        obtain ⟨hpush, hupd⟩ := VB.push HVB0.out HSL.out (by have := HZ.out.2; have := U.out.size; have := HN0.out.size; omega) HY1.out (by rw [HL.out.2]; exact ob) ub0 (fun k e => by
          have e' : ga = k := by simpa [Value.ownBlock] using e
          subst e'; exact hbb) HX.out.2 ((HX.out.1).mono (fun k hk hp => ⟨by have := ub.out.size; have := HZ.out.2; have := U.out.size; have := HN0.out.size; omega, fun e => by have := (ob.lt k e).2; omega, fun e => by have := (HVB0.out.ov.lt k e).2; have := ub.out.size; omega⟩)) (nw_alloc wc (.cells #[.int .i64 (Fm.zero d ft).kind, .int .i64 (Fm.zero d ft).n, .slice xa xl xc, .slice ya yl yc] tVl)) (by rw [HL.out.1]; exact oe) ue0 (fun k e => by
          have e' : gd = k := by simpa [Value.ownBlock] using e
          subst e'; exact hbe)
        have hbq1 := ue.out.keep HBQ0.out (fun e => by
          rcases e with e | e
          · have := (HVB0.out.on.lt q e).1; omega
          · have := (HVB0.out.ov.lt q e).1; omega)
        have hqg : nG ≤ q := by have := HZ.out.1; omega
        have hbq2 := setCell_block (setCell_block hbq1 2 (.slice (some ⟨ga, 0, none⟩) (n + 1) ca)) 3 (.slice (some ⟨gd, 0, none⟩) (n + 1) cd)
        have uS := Upd.set1 (Upd.set1 (Upd.refl _ we) hqg 2 (.slice (some ⟨ga, 0, none⟩) (n + 1) ca)) hqg 3 (.slice (some ⟨gd, 0, none⟩) (n + 1) cd)
        have hp2 := hpush.upd uS (fun k hk _ e => by omega)
        have uA : Upd (fun k => k = q) W3 we := (U.out.nw HN0.out).trans' hupd (fun k hk e => by
          rcases e with e | e
          · have := (HVB0.out.on.lt k e).1; have := HZ.out.2; omega
          · have := (HVB0.out.ov.lt k e).1; have := HZ.out.2; omega)
        have uB := uA.trans' uS (fun k _ e => e)
        obtain ⟨wE, hE⟩ : ∃ wE, (we.setCell ⟨q, 2, none⟩ (.slice (some ⟨ga, 0, none⟩) (n + 1) ca)).setCell ⟨q, 3, none⟩ (.slice (some ⟨gd, 0, none⟩) (n + 1) cd) = wE := ⟨_, rfl⟩
        rw [hE] at hbq2 hp2 uB
        have HE := Lib.hid hE
        have HREL : Hid (Hid (∃ nv vv C, wE.heap[q]? = some (.cells #[.int .i64 t.kind, .int .i64 0, nv, vv] tVl (0, 0)) ∧ VB (q + 1) wE nv vv ((t.fs.take (n + 1)).map (·.1)) C ∧ C.map VC.v = (t.fs.take (n + 1)).map (fun f => Fm.zero d f.2)) ∧ Hid (Upd (fun k => k = q) W3 wE)) := by
          refine ⟨⟨_, _, C ++ [⟨.slice xa xl xc, .slice ya yl yc, Fm.zero d ft⟩], hbq2, ?_, ?_⟩, uB⟩
          · exact (by rw [HST.out.1]; exact hp2)
          · rw [HST.out.2, List.map_append, HCV.out]; rfl
        clear hbq1 hbq2 uS hp2 uA uB hE hpush hupd
        go_wp2_with fail
        rw [HE.out]
        go_roundw
        case rel => exact ⟨n + 1, by omega, by go_num, HREL.out⟩
        case measure => simp [intOf]; omega
      · obtain rfl : n = t.fs.length := by omega
        have c0 : wr.cell? ⟨q, 0, none⟩ = some (.int .i64 t.kind) := by rw [cells_cell HBQ.out]; rfl
        have c1 : wr.cell? ⟨q, 1, none⟩ = some (.int .i64 0) := by rw [cells_cell HBQ.out]; rfl
        have c2 : wr.cell? ⟨q, 2, none⟩ = some (.slice na t.fs.length nc) := by rw [cells_cell HBQ.out]; rfl
        have c3 : wr.cell? ⟨q, 3, none⟩ = some (.slice va t.fs.length vc) := by rw [cells_cell HBQ.out]; rfl
        have hbr := U.out.keep HB23.out (fun e => by have := HZ.out.1; omega)
        have hbg : nG ≤ w.heap.size + 1 := by omega
        have uR := Upd.set1 (Upd.set1 (Upd.set1 (Upd.set1 (Upd.refl _ wr) hbg 0 (.int .i64 t.kind)) hbg 1 (.int .i64 0)) hbg 2 (.slice na t.fs.length nc)) hbg 3 (.slice va t.fs.length vc)
        have hbE := setCell_block (setCell_block (setCell_block (setCell_block hbr 0 (.int .i64 t.kind)) 1 (.int .i64 0)) 2 (.slice na t.fs.length nc)) 3 (.slice va t.fs.length vc)
        have hvE := HVB.out.upd uR (fun k hk _ e => by have := HZ.out.1; omega)
        have hnE : Nw w _ := HNW.out.trans' uR (fun k hk e => by omega)
        have d0 : wr.cell? ⟨w.heap.size + 1, 0, none⟩ = some (.int .i64 0) := by rw [cells_cell hbr]; rfl
        have d1 : wr.cell? ⟨w.heap.size + 1, 1, none⟩ = some (.int .i64 0) := by rw [cells_cell hbr]; rfl
        have d2 : wr.cell? ⟨w.heap.size + 1, 2, none⟩ = some (.slice none 0 0) := by rw [cells_cell hbr]; rfl
        have d3 : wr.cell? ⟨w.heap.size + 1, 3, none⟩ = some (.slice none 0 0) := by rw [cells_cell hbr]; rfl
        have f0 := cells_frozen hbr 0
        have f1 := cells_frozen hbr 1
        have f2 := cells_frozen hbr 2
        have f3 := cells_frozen hbr 3
        have HBE := Lib.hid hbE
        have HVE := Lib.hid hvE
        have HNE := Lib.hid hnE
        clear hbr uR hbE hvE hnE
        go_wp2_with fail
        refine bodyPost_ret (zero_results _ _ ?_ HBE.out) ?_ ?_
        · rfl
        · rfl
        refine ⟨_, _, rfl, ?_, HNE.out⟩
        have hN : (t.fs.take t.fs.length).map (·.1) = t.fs.map (·.1) := by rw [List.take_length]
        have hV : C.map VC.v = t.fs.map (fun f => Fm.zero d f.2) := by have := HCV.out; rwa [List.take_length] at this
        have hd := HVE.out.done (k := t.kind) (n := 0) HK.out (by unfold I64; omega)
        rw [hN, hV] at hd
        exact hd.mono (fun k _ hk => by have := HZ.out.1; omega)
end Go.Proofs.YtcelfjoopagmlaaGreatDoor
