/- state.Zero. strings.Builder at this seat's numbers: WriteString (copyCheck first), String; a builder that the call has made itself. The contracts of the encoders of layer 1: Int, Num, Text, list[int], list[string], Nums, Texts. format.write. The reader of layer 1 in memory, and the contracts of its methods that only look at its string: fail, number, close, Num, Int, Text, Left, Done, Rest, Open. The contracts of the reader's methods Num, Int, Text, Left, Done, Rest, and of Open. -/
import Derived.Test.YtjlgmoemnhmgmaaGreatDoorPkWTells8
import Derived.Test.YtjlgmoemnhmgmaaGreatDoorPkWTells9
import Derived.Test.YtjlgmoemnhmgmaaGreatDoorPkWTells6
import Derived.Test.YtjlgmoemnhmgmaaGreatDoorPkWTells0
namespace Go.Proofs.YtjlgmoemnhmgmaaGreatDoor
open Go.RowKit
set_option linter.unusedVariables false
set_option linter.unusedSimpArgs false
attribute [local irreducible] Calls
open Fm (Ty Vl Str nameB rightTy rightVl)

theorem infoStrF : (Tryz.prog.info? 9).map (fun i => (i.zero, i.size, i.bytes)) = some (some (.string ⟨#[]⟩), 1, 16) := by kernel_rfl
theorem infoVlF : (Tryz.prog.info? tVl).map (fun i => (i.zero, i.size, i.bytes)) = some (some (.agg #[.int .i64 0, .int .i64 0, .slice none 0 0, .slice none 0 0]), 4, 64) := by kernel_rfl
theorem own_slF {w : World} {B : Nat} {e : TypeId} {sz n : Nat} {v : Value} {xs : List Value} (h : w.ownsRow B e sz v n xs) : ∃ a cap, v = .slice a n cap := by
  rcases h.2 with ⟨rfl, rfl⟩ | ⟨g, cap, cur, rfl, _⟩
  · exact ⟨none, 0, rfl⟩
  · exact ⟨_, _, rfl⟩
theorem zero_results (tmps : Array Value) (w : World) {r : Nat} {k n : Int} {nv vv : Value} (hr : tmps.getD 2 undef = .pointer (some ⟨r, 0, none⟩)) (hb : w.heap[r]? = some (.cells #[.int .i64 k, .int .i64 n, nv, vv] tVl (0, 0))) :
    (results Tryz.f69 tmps).run Tryz.prog w = .ok (.agg #[.int .i64 k, .int .i64 n, nv, vv]) w := by
  have c0 : w.cell? ⟨r, 0, none⟩ = some (.int .i64 k) := by rw [cells_cell hb]; rfl
  have c1 : w.cell? ⟨r, 1, none⟩ = some (.int .i64 n) := by rw [cells_cell hb]; rfl
  have c2 : w.cell? ⟨r, 2, none⟩ = some nv := by rw [cells_cell hb]; rfl
  have c3 : w.cell? ⟨r, 3, none⟩ = some vv := by rw [cells_cell hb]; rfl
  rw [Array.getD_eq_getD_getElem?] at hr
  simp [results, Tryz.results69, go_sem, hr, c0, c1, c2, c3]
set_option maxHeartbeats 8000000 in
set_option maxRecDepth 100000 in
theorem zero_c : ∀ (d : Nat), d ≤ 4 → ∀ (t : Ty) (fv : Value) (w : World), Gm w → rightTy d t = true → TyAt w fv t →
    Calls Tryz.prog 69 #[.agg #[.int .i64 t.kind, fv]] w fun e w' => ∃ nv vv, e = .returned (.agg #[.int .i64 (Fm.zero d t).kind, .int .i64 (Fm.zero d t).n, nv, vv]) ∧ VlAt (fun k => w.heap.size ≤ k) w' nv vv (Fm.zero d t) ∧ Nw w w' := by
  intro d
  induction d with
  | zero => intro _ t fv w g h; cases h
  | succ d ih =>
    intro hd t fv w g hr ht
    have IH := Lib.hid (ih (by omega))
    have RT := Lib.hid (Fm.rt_iff.1 hr)
    have hR4 := Fm.right_le hr hd
    have hgb := g.g.big
    obtain ⟨fa, fc, rfl, hfl, hfc⟩ := ht.cells
    have HFC : Hid (FdC w fa t.fs) := hfc
    have hk := ht.kind
    have n1 := nw_alloc w (.cells #[.int .i64 t.kind, .slice fa t.fs.length fc] tTy)
    have n2 := nw_alloc (w.alloc (.cells #[.int .i64 t.kind, .slice fa t.fs.length fc] tTy)) (.cells #[.int .i64 0, .int .i64 0, .slice none 0 0, .slice none 0 0] tVl)
    have b1 := n2.keep (heap_new w (.cells #[.int .i64 t.kind, .slice fa t.fs.length fc] tTy))
    have b2 := heap_new (w.alloc (.cells #[.int .i64 t.kind, .slice fa t.fs.length fc] tTy)) (.cells #[.int .i64 0, .int .i64 0, .slice none 0 0, .slice none 0 0] tVl)
    rw [World.size_alloc] at b2
    have hN := n1.trans n2
    obtain ⟨W, hW⟩ : ∃ W, W = (w.alloc (.cells #[.int .i64 t.kind, .slice fa t.fs.length fc] tTy)).alloc (.cells #[.int .i64 0, .int .i64 0, .slice none 0 0, .slice none 0 0] tVl) := ⟨_, rfl⟩
    rw [← hW] at hN b1 b2
    have hr1 := types_right_c _ t W (g.upd hN) (ht.nw hN)
    rw [hR4] at hr1
    have HR := Lib.hid hr1
    have HN := Lib.hid hN
    have HW := Lib.hid hW
    have c0 : W.cell? ⟨w.heap.size, 0, none⟩ = some (.int .i64 t.kind) := by rw [cells_cell b1]; rfl
    have c1 : W.cell? ⟨w.heap.size, 1, none⟩ = some (.slice fa t.fs.length fc) := by rw [cells_cell b1]; rfl
    have HB1 := Lib.hid b1
    have HB2 := Lib.hid b2
    have hfl1 : (t.fs.length : Int) ≤ 8 := by have := RT.out.len; omega
    have HK := Lib.hid hk
    clear ih hr hfc n1 n2 b1 b2 hN hW hr1 hfl hR4 hk ht
    go_enter Tryz.func69, Tryz.ntmps69
    go_upto_region 1 with fail
    rw [← HW.out]
    clear HW
    go_wp2_with fail
    (with_reducible refine (HR.out).mono ?_)
    rintro _ w2 ⟨rfl, u2⟩
    have k0 := nw_cellF u2 c0
    have U2 := Lib.hid (HN.out.trans u2)
    have hb1 := Nw.keep u2 HB1.out
    have hb2 := Nw.keep u2 HB2.out
    -- the box of the value that is built
    have n3 := nw_alloc w2 (.cells #[.int .i64 t.kind, .int .i64 0, .slice none 0 0, .slice none 0 0] tVl)
    have b3 := heap_new w2 (.cells #[.int .i64 t.kind, .int .i64 0, .slice none 0 0, .slice none 0 0] tVl)
    obtain ⟨W3, hW3⟩ : ∃ y, y = w2.alloc (.cells #[.int .i64 t.kind, .int .i64 0, .slice none 0 0, .slice none 0 0] tVl) := ⟨_, rfl⟩
    rw [← hW3] at n3 b3
    have HW3 := Lib.hid hW3
    have U3 := Lib.hid (U2.out.trans n3)
    have HB13 := Lib.hid (Nw.keep n3 hb1)
    have HB23 := Lib.hid (Nw.keep n3 hb2)
    have HB3 := Lib.hid b3
    have x1 : W3.cell? ⟨w.heap.size, 1, none⟩ = some (.slice fa t.fs.length fc) := by rw [cells_cell HB13.out]; rfl
    have hz2 : w.heap.size + 2 ≤ w2.heap.size := by have := lt_of_block hb2; omega
    have hz3 : W3.heap.size = w2.heap.size + 1 := by rw [hW3]; simp
    have HZ := Lib.hid (And.intro hz2 hz3)
    clear u2 hb1 hb2 n3 b3 hW3 hz2 hz3 HR c0 c1
    go_upto_region 4 with fail
    rw [← HW3.out]
    clear HW3 k0
    generalize w2.heap.size = q at *
    go_wp2_with fail
    go_loopw [16] (fun iv wr => ∃ n : Nat, n ≤ t.fs.length ∧ iv = .int .i64 (n : Int) ∧ Hid (∃ nv vv C, wr.heap[q]? = some (.cells #[.int .i64 t.kind, .int .i64 0, nv, vv] tVl (0, 0)) ∧ VB (q + 1) wr nv vv ((t.fs.take n).map (·.1)) C ∧ C.map VC.v = (t.fs.take n).map (fun f => Fm.zero d f.2)) ∧ Hid (Upd (fun k => k = q) W3 wr)) (fun iv _ => t.fs.length - (intOf iv).toNat)
    case atStart => exact ⟨0, Nat.zero_le _, rfl, ⟨_, _, [], HB3.out, VB.nil _ _, rfl⟩, Upd.refl _ _⟩
    case round =>
      obtain ⟨n, hn, rfl, HV, U⟩ := hrel
      obtain ⟨nv, vv, C, hbq, hvb, hcv⟩ := HV.out
      have hnw : Nw w wr := U3.out.trans' U.out (fun k hk e => by have := HZ.out.1; omega)
      have hCl : C.length = n := by
        have := congrArg List.length hcv
        rw [List.length_map, List.length_map, List.length_take] at this; omega
      have hNl : ((t.fs.take n).map (·.1)).length = n := by rw [List.length_map, List.length_take]; omega
      obtain ⟨na, nc, rfl⟩ := own_slF hvb.on
      obtain ⟨va, vc, rfl⟩ := own_slF hvb.ov
      rw [hNl, hCl] at hbq hvb
      have HVB := Lib.hid hvb
      have HCV := Lib.hid hcv
      have HNW := Lib.hid hnw
      have HBQ := Lib.hid hbq
      have HL := Lib.hid (And.intro hCl hNl)
      clear HV hvb hcv hnw hCl hNl
      by_cases hlt : n < t.fs.length
      · have hlt1 : (n : Int) < t.fs.length := by omega
        have hn8 : (n : Int) ≤ 8 := by omega
        rcases HFC.out with hnil | ⟨b, off, rfl, hb, hcell⟩
        · rw [hnil] at hlt; simp at hlt
        obtain ⟨sv, p0, p1, p2, hty, hsl⟩ := hcell n hlt
        obtain ⟨sa, sc, hsv, -⟩ := hty.cells
        subst hsv
        have y0 := nw_cellF HNW.out p0
        have y1 := nw_cellF HNW.out p1
        have y2 := nw_cellF HNW.out p2
        have hstN : (t.fs.take (n + 1)).map (·.1) = (t.fs.take n).map (·.1) ++ [(t.fs[n]).1] := by rw [List.take_succ_eq_append_getElem hlt, List.map_append]; rfl
        have hstV : (t.fs.take (n + 1)).map (fun f => Fm.zero d f.2) = (t.fs.take n).map (fun f => Fm.zero d f.2) ++ [Fm.zero d (t.fs[n]).2] := by rw [List.take_succ_eq_append_getElem hlt, List.map_append]; rfl
        have HST := Lib.hid (And.intro hstN hstV)
        have HSub := Lib.hid (RT.out.sub _ (List.getElem_mem hlt))
        have HTY := Lib.hid hty
        have HSL := Lib.hid hsl
        clear hcell p0 p1 p2 hstN hstV hty hsl
        generalize (t.fs[n]).1 = s at *
        generalize (t.fs[n]).2 = ft at *
        obtain ⟨wo, hwo, n0, hbx⟩ : ∃ z, z = wr.alloc (.cells #[.string ⟨s.toArray⟩, .int .i64 ft.kind, .slice sa ft.fs.length sc] tFd) ∧ Nw wr z ∧ z.heap[wr.heap.size]? = some (.cells #[.string ⟨s.toArray⟩, .int .i64 ft.kind, .slice sa ft.fs.length sc] tFd (0, 0)) := ⟨_, rfl, nw_alloc wr _, heap_new wr _⟩
        have HWO := Lib.hid hwo
        have HN0 := Lib.hid n0
        have HBX := Lib.hid hbx
        have HBQ0 := Lib.hid (n0.keep HBQ.out)
        have HVB0 := Lib.hid (HVB.out.nw n0)
        have hqlt := lt_of_block HBQ.out
        have hwolt := lt_of_block hbx
        clear hwo n0 hbx
        go_upto_region 7 with fail
        rw [← HWO.out]
        clear HWO y0 y1 y2
        have hP : ∀ y, Upd (fun k => (Value.slice na n nc).ownBlock = some k ∨ (Value.slice va n vc).ownBlock = some k) wo y → (y.cell? ⟨q, 2, none⟩ = some (.slice na n nc) ∧ y.cell? ⟨q, 3, none⟩ = some (.slice va n vc) ∧ y.frozen? ⟨q, 2, none⟩ = false ∧ y.frozen? ⟨q, 3, none⟩ = false ∧ y.cell? ⟨wr.heap.size, 0, none⟩ = some (.string ⟨s.toArray⟩) ∧ y.cell? ⟨wr.heap.size, 1, none⟩ = some (.int .i64 ft.kind) ∧ y.cell? ⟨wr.heap.size, 2, none⟩ = some (.slice sa ft.fs.length sc)) := fun y u => by
          have hq : ∀ k, ((Value.slice na n nc).ownBlock = some k ∨ (Value.slice va n vc).ownBlock = some k) → q < k ∧ k < wr.heap.size := fun k e => by
            rcases e with e | e
            · have := HVB.out.on.lt k e; omega
            · have := HVB.out.ov.lt k e; omega
          have h1 := u.keep HBQ0.out (fun e => by have := hq _ e; omega)
          have h2 := u.keep HBX.out (fun e => by have := hq _ e; omega)
          exact ⟨by rw [cells_cell h1]; rfl, by rw [cells_cell h1]; rfl, cells_frozen h1 2, cells_frozen h1 3, by rw [cells_cell h2]; rfl, by rw [cells_cell h2]; rfl, by rw [cells_cell h2]; rfl⟩
        have HP := Lib.hid hP
        have hy1 : Nw wo (wo.alloc (.cells #[.string ⟨s.toArray⟩] 9)).drew := (nw_alloc wo _).drew
        have HY1 := Lib.hid hy1
        have HU1 : Hid (Upd (fun k => (Value.slice na n nc).ownBlock = some k ∨ (Value.slice va n vc).ownBlock = some k) wo (wo.alloc (.cells #[.string ⟨s.toArray⟩] 9)).drew) := Nw.upd _ hy1
        have HON : Hid ((wo.alloc (.cells #[.string ⟨s.toArray⟩] 9)).drew.ownsRow (q + 1) 9 1 (.slice na n nc) n (((t.fs.take n).map (·.1)).map sF)) := by
          have := (HVB0.out.nw hy1).on
          rw [HL.out.2] at this; exact this
        have HNews : Hid (∀ j u, ([.string ⟨s.toArray⟩] : List Value)[j]? = some u → (wo.alloc (.cells #[.string ⟨s.toArray⟩] 9)).drew.cell? ((⟨wo.heap.size, 0, none⟩ : Addr).add j) = some u) := fun j u hu => by
          have := World.news_of_block (cs := #[.string ⟨s.toArray⟩]) (t := 9) (fr := (0, 0)) (heap_new wo (.cells #[.string ⟨s.toArray⟩] 9)) j u hu
          exact nw_cellF (Upd.refl (fun _ => False) _).drew this
        have HQ1 : Hid (q + 1 ≤ (wo.alloc (.cells #[.string ⟨s.toArray⟩] 9)).drew.heap.size ∧ nG ≤ q + 1) := by
          have := hy1.size
          have := HZ.out.1
          exact ⟨by omega, by omega⟩
        have HNum : Hid (0 < 1 ∧ n + 1 ≤ maxLen ∧ (n + 1) * 16 ≤ 140737488355328 ∧ (n + 1) * 64 ≤ 140737488355328) := ⟨by omega, by unfold maxLen; omega, by omega, by omega⟩
        have HZr : Hid (∀ y, Upd (fun k => (Value.slice na n nc).ownBlock = some k ∨ (Value.slice va n vc).ownBlock = some k) wo y → Calls Tryz.prog 69 #[.agg #[.int .i64 ft.kind, .slice sa ft.fs.length sc]] y fun e z => ∃ xa xl xc ya yl yc, e = .returned (.agg #[.int .i64 (Fm.zero d ft).kind, .int .i64 (Fm.zero d ft).n, .slice xa xl xc, .slice ya yl yc]) ∧ Hid (VlAt (fun k => y.heap.size ≤ k) z (.slice xa xl xc) (.slice ya yl yc) (Fm.zero d ft) ∧ Nw y z)) := fun y u => by
          have uy : Nw w y := (HNW.out.trans HN0.out).trans' u (fun k hk e => by
            rcases e with e | e
            · have := (HVB.out.on.lt k e).1; have := HZ.out.1; omega
            · have := (HVB.out.ov.lt k e).1; have := HZ.out.1; omega)
          refine (IH.out ft _ y (g.upd uy) HSub.out (HTY.out.nw uy)).mono ?_
          rintro e z ⟨xn, xv, rfl, hx, ux⟩
          obtain ⟨xa, xc, rfl, -⟩ := hx.names
          obtain ⟨ya, yc, rfl, -⟩ := hx.vals
          exact ⟨xa, _, xc, ya, _, yc, rfl, hx, ux⟩
        have HVV : Hid (∀ y, Upd (fun k => (Value.slice na n nc).ownBlock = some k) wo y → y.ownsRow (q + 1) tVl 4 (.slice va n vc) n (C.map vcL).flatten) := fun y u => by
          have h := HVB0.out.ov
          rw [HL.out.1] at h
          have hne := HVB0.out.ne
          exact owns_upd' h u (fun k e e2 => hne k e2 e)
        clear hP hy1
        go_wp2_with fail
        have HS0 := Lib.hid (HP.out _ (Upd.refl _ _).drew)
        refine wp_region_G (fun y => y.cell? ⟨q, 2, none⟩ = some (.slice na n nc) ∧ y.cell? ⟨q, 3, none⟩ = some (.slice va n vc) ∧ y.frozen? ⟨q, 2, none⟩ = false ∧ y.frozen? ⟨q, 3, none⟩ = false ∧ y.cell? ⟨wr.heap.size, 0, none⟩ = some (.string ⟨s.toArray⟩) ∧ y.cell? ⟨wr.heap.size, 1, none⟩ = some (.int .i64 ft.kind) ∧ y.cell? ⟨wr.heap.size, 2, none⟩ = some (.slice sa ft.fs.length sc)) 12 (by kernel_rfl) ?_
        refine wpAnyG_pure (i := 0) (v := ?_) rfl (by kernel_rfl) (by kernel_rfl) (by kernel_rfl) (by kernel_rfl) (by kernel_rfl) (fun _ _ _ h => h) (by rfl) ?_ (fun _ => HS0.out) ?_
        rotate_left 1
        · (intro zz; go_simp; first | done | with_reducible rfl)
        (try simp only [Act.put, List.setIfInBounds_toArray, List.set_cons_zero, List.set_cons_succ])
        refine wpAnyG_pure (i := 2) (v := ?_) rfl (by kernel_rfl) (by kernel_rfl) (by kernel_rfl) (by kernel_rfl) (by kernel_rfl) (fun _ _ _ h => h) (by rfl) ?_ (fun _ => HS0.out) ?_
        rotate_left 1
        · (intro zz; go_simp; first | done | with_reducible rfl)
        (try simp only [Act.put, List.setIfInBounds_toArray, List.set_cons_zero, List.set_cons_succ])
        refine wpAnyG_pure (i := 6) (v := ?_) rfl (by kernel_rfl) (by kernel_rfl) (by kernel_rfl) (by kernel_rfl) (by kernel_rfl) (fun _ _ _ h => h) (by rfl) ?_ (fun _ => HS0.out) ?_
        rotate_left 1
        · (intro zz; go_simp; first | done | with_reducible rfl)
        (try simp only [Act.put, List.setIfInBounds_toArray, List.set_cons_zero, List.set_cons_succ])
        refine wpAnyG_pure (i := 8) (v := ?_) rfl (by kernel_rfl) (by kernel_rfl) (by kernel_rfl) (by kernel_rfl) (by kernel_rfl) (fun _ _ _ h => h) (by rfl) ?_ (fun _ => HS0.out) ?_
        rotate_left 1
        · (intro zz; go_simp; first | done | with_reducible rfl)
        (try simp only [Act.put, List.setIfInBounds_toArray, List.set_cons_zero, List.set_cons_succ])
        refine wpAnyG_load (i := 1) (v := ?_) [11, 10, 5] rfl (by kernel_rfl) (by kernel_rfl) (by kernel_rfl) (by kernel_rfl) (by kernel_rfl) (by kernel_rfl) (fun _ _ _ h => h) (by rfl) ?_ (fun _ => HS0.out) ?_
        rotate_left 1
        · (intro zz hS; obtain ⟨_, _, _, _, _, _, _⟩ := hS; go_simp; first | done | with_reducible rfl)
        (try simp only [Act.put, List.setIfInBounds_toArray, List.set_cons_zero, List.set_cons_succ])
        refine wpAnyG_load (i := 3) (v := ?_) [11, 10, 5, 4] rfl (by kernel_rfl) (by kernel_rfl) (by kernel_rfl) (by kernel_rfl) (by kernel_rfl) (by kernel_rfl) (fun _ _ _ h => h) (by rfl) ?_ (fun _ => HS0.out) ?_
        rotate_left 1
        · (intro zz hS; obtain ⟨_, _, _, _, _, _, _⟩ := hS; go_simp; first | done | with_reducible rfl)
        (try simp only [Act.put, List.setIfInBounds_toArray, List.set_cons_zero, List.set_cons_succ])
        refine wpAnyG_load (i := 7) (v := ?_) [] rfl (by kernel_rfl) (by kernel_rfl) (by kernel_rfl) (by kernel_rfl) (by kernel_rfl) (by kernel_rfl) (fun _ _ _ h => h) (by rfl) ?_ (fun _ => HS0.out) ?_
        rotate_left 1
        · (intro zz hS; obtain ⟨_, _, _, _, _, _, _⟩ := hS; go_simp; first | done | with_reducible rfl)
        (try simp only [Act.put, List.setIfInBounds_toArray, List.set_cons_zero, List.set_cons_succ])
        refine wpAnyG_load (i := 9) (v := ?_) [11, 10] rfl (by kernel_rfl) (by kernel_rfl) (by kernel_rfl) (by kernel_rfl) (by kernel_rfl) (by kernel_rfl) (fun _ _ _ h => h) (by rfl) ?_ (fun _ => HS0.out) ?_
        rotate_left 1
        · (intro zz hS; obtain ⟨_, _, _, _, _, _, _⟩ := hS; go_simp; first | done | with_reducible rfl)
        (try simp only [Act.put, List.setIfInBounds_toArray, List.set_cons_zero, List.set_cons_succ])
        refine wpAnyG_ready [4] (by kernel_rfl) (by simp) ?_
        refine AllG.cons rfl (fun K hK => ?_) AllG.nil
        go_simp
        refine hK.out _ _ (fun _ => HP.out _ HU1.out) ?_
        clear hK K
        (try simp only [Act.put, List.setIfInBounds_toArray, List.set_cons_zero, List.set_cons_succ])
        refine wpAnyG_ready [5] (by kernel_rfl) (by simp) ?_
        refine AllG.cons rfl (fun K hK => ?_) AllG.nil
        refine step_catC rfl _ _ 56 rfl 9 _ 1 16 Tryz.underlying56 infoStrF rfl (by decide) (q + 1) HQ1.out.1 HQ1.out.2 _ n _ rfl HON.out ⟨wo.heap.size, 0, none⟩ 1 1 [.string ⟨s.toArray⟩] rfl rfl HNews.out (by intro u hu; rw [List.mem_singleton.1 hu]; rfl) HNum.out.1 HNum.out.2.1 HNum.out.2.2.1 ?_
        intro ga ca wb ob ub0 hbb
        have ub1 : Hid (Upd (fun k => (Value.slice na n nc).ownBlock = some k) wo wb) := Nw.trans HY1.out ub0
        have ub : Hid (Upd (fun k => (Value.slice na n nc).ownBlock = some k ∨ (Value.slice va n vc).ownBlock = some k) wo wb) := ub1.out.mono (fun k _ e => Or.inl e)
        refine hK.out _ _ (fun _ => HP.out _ ub.out) ?_
        clear hK K
        (try simp only [Act.put, List.setIfInBounds_toArray, List.set_cons_zero, List.set_cons_succ])
        refine wpAnyG_pure (i := 13) (v := ?_) rfl (by kernel_rfl) (by kernel_rfl) (by kernel_rfl) (by kernel_rfl) (by kernel_rfl) (fun _ _ _ h => h) (by rfl) ?_ (fun _ => HP.out _ ub.out) ?_
        rotate_left 1
        · (intro zz; go_simp; first | done | with_reducible rfl)
        (try simp only [Act.put, List.setIfInBounds_toArray, List.set_cons_zero, List.set_cons_succ])
        refine wpAnyG_ready [10] (by kernel_rfl) (by simp) ?_
        refine AllG.cons rfl (fun K hK => ?_) AllG.nil
        have hCC := HZr.out wb ub.out
        go_simp
        (with_reducible refine (hCC).mono ?_)
        rintro _ wc ⟨xa, xl, xc, ya, yl, yc, rfl, HX⟩
        clear hCC
        have uc : Hid (Upd (fun k => (Value.slice na n nc).ownBlock = some k ∨ (Value.slice va n vc).ownBlock = some k) wo wc) := ub.out.nw HX.out.2
        have ud : Hid (Upd (fun k => (Value.slice na n nc).ownBlock = some k ∨ (Value.slice va n vc).ownBlock = some k) wo (wc.alloc (.cells #[.int .i64 (Fm.zero d ft).kind, .int .i64 (Fm.zero d ft).n, .slice xa xl xc, .slice ya yl yc] tVl))) := uc.out.nw (nw_alloc _ _)
        have HD : Hid ((wc.alloc (.cells #[.int .i64 (Fm.zero d ft).kind, .int .i64 (Fm.zero d ft).n, .slice xa xl xc, .slice ya yl yc] tVl)).ownsRow (q + 1) tVl 4 (.slice va n vc) n (C.map vcL).flatten) := HVV.out _ ((ub1.out.nw HX.out.2).nw (nw_alloc _ _))
        have hqd := ud.out.size
        refine hK.out _ _ (fun _ => HP.out _ uc.out) ?_
        clear hK K
        (try simp only [Act.put, List.setIfInBounds_toArray, List.set_cons_zero, List.set_cons_succ])
        refine wpAnyG_ready [11] (by kernel_rfl) (by simp) ?_
        refine AllG.cons rfl (fun K hK => ?_) AllG.nil
        go_simp
        refine hK.out _ _ (fun _ => HP.out _ ud.out) ?_
        clear hK K
        (try simp only [Act.put, List.setIfInBounds_toArray, List.set_cons_zero, List.set_cons_succ])
        refine wpAnyG_ready [12] (by kernel_rfl) (by simp) ?_
        refine AllG.cons rfl (fun K hK => ?_) AllG.nil
        refine step_catC rfl _ _ 54 rfl tVl _ 4 64 Tryz.underlying54 infoVlF rfl (by decide) (q + 1) (Nat.le_trans (by have := HN0.out.size; have := HZ.out.2; have := U.out.size; omega) hqd) (by have := HZ.out.1; omega) _ n _ rfl HD.out ⟨wc.heap.size, 0, none⟩ 1 1 [.int .i64 (Fm.zero d ft).kind, .int .i64 (Fm.zero d ft).n, .slice xa xl xc, .slice ya yl yc] rfl rfl (World.news_of_block (cs := #[.int .i64 (Fm.zero d ft).kind, .int .i64 (Fm.zero d ft).n, .slice xa xl xc, .slice ya yl yc]) (t := tVl) (fr := (0, 0)) (heap_new wc _)) (by intro u hu; simp at hu; rcases hu with rfl | rfl | rfl | rfl <;> rfl) HNum.out.1 HNum.out.2.1 HNum.out.2.2.2 ?_
        intro gd cd we oe ue0 hbe
        have ue : Hid (Upd (fun k => (Value.slice na n nc).ownBlock = some k ∨ (Value.slice va n vc).ownBlock = some k) wo we) := ud.out.trans' ue0 (fun k _ e => Or.inr e)
        obtain ⟨_, _, _, _, -, -, -⟩ := HP.out _ ue.out
        refine hK.out _ _ (fun e => absurd (show true = false from e) (by decide)) ?_
        clear hK K
        (try simp only [Act.put, List.setIfInBounds_toArray, List.set_cons_zero, List.set_cons_succ])
        refine wpAnyG_ready [14] (by kernel_rfl) (by simp) ?_
        refine AllG.cons rfl (fun K hK => ?_) AllG.nil
        go_simp
        refine hK.out _ _ (fun e => absurd (show true = false from e) (by decide)) ?_
        clear hK K
        (try simp only [Act.put, List.setIfInBounds_toArray, List.set_cons_zero, List.set_cons_succ])
        refine wpAnyG_pure (i := 15) (v := ?_) rfl (by kernel_rfl) (by kernel_rfl) (by kernel_rfl) (by kernel_rfl) (by kernel_rfl) (fun _ _ _ h => h) (by rfl) ?_ (fun e => absurd (show true = false from e) (by decide)) ?_
        rotate_left 1
        · (intro zz; go_simp; first | done | with_reducible rfl)
        (try simp only [Act.put, List.setIfInBounds_toArray, List.set_cons_zero, List.set_cons_succ])
        refine wpAnyG_ready [16] (by kernel_rfl) (by simp) ?_
        refine AllG.cons rfl (fun K hK => ?_) AllG.nil
        go_simp
        refine hK.out _ _ (fun e => absurd (show true = false from e) (by decide)) ?_
        clear hK K
        (try simp only [Act.put, List.setIfInBounds_toArray, List.set_cons_zero, List.set_cons_succ])
        refine wpAnyG_done (by kernel_rfl) ?_ _
        obtain ⟨hpush, hupd⟩ := VB.push HVB0.out HSL.out (by have := HZ.out.2; have := U.out.size; have := HN0.out.size; omega) HY1.out (by rw [HL.out.2]; exact ob) ub0 (fun k e => by
          have e' : ga = k := by simpa [Value.ownBlock] using e
          subst e'; exact hbb) HX.out.2 ((HX.out.1).mono (fun k hk hp => ⟨by have := ub.out.size; have := HZ.out.2; have := U.out.size; have := HN0.out.size; omega, fun e => by have := (ob.lt k e).2; omega, fun e => by have := (HVB0.out.ov.lt k e).2; have := ub.out.size; omega⟩)) (nw_alloc wc (.cells #[.int .i64 (Fm.zero d ft).kind, .int .i64 (Fm.zero d ft).n, .slice xa xl xc, .slice ya yl yc] tVl)) (by rw [HL.out.1]; exact oe) ue0 (fun k e => by
          have e' : gd = k := by simpa [Value.ownBlock] using e
          subst e'; exact hbe)
        have hbq1 := ue.out.keep HBQ0.out (fun e => by
          rcases e with e | e
          · have := (HVB0.out.on.lt q e).1; omega
          · have := (HVB0.out.ov.lt q e).1; omega)
        have hqg : nG ≤ q := by have := HZ.out.1; omega
        have hbq2 := setCell_block (setCell_block hbq1 2 (.slice (some ⟨ga, 0, none⟩) (n + 1) ca)) 3 (.slice (some ⟨gd, 0, none⟩) (n + 1) cd)
        have uS := Upd.set1 (Upd.set1 (Upd.refl _ we) hqg 2 (.slice (some ⟨ga, 0, none⟩) (n + 1) ca)) hqg 3 (.slice (some ⟨gd, 0, none⟩) (n + 1) cd)
        have hp2 := hpush.upd uS (fun k hk _ e => by omega)
        have uA : Upd (fun k => k = q) W3 we := (U.out.nw HN0.out).trans' hupd (fun k hk e => by
          rcases e with e | e
          · have := (HVB0.out.on.lt k e).1; have := HZ.out.2; omega
          · have := (HVB0.out.ov.lt k e).1; have := HZ.out.2; omega)
        have uB := uA.trans' uS (fun k _ e => e)
        obtain ⟨wE, hE⟩ : ∃ wE, (we.setCell ⟨q, 2, none⟩ (.slice (some ⟨ga, 0, none⟩) (n + 1) ca)).setCell ⟨q, 3, none⟩ (.slice (some ⟨gd, 0, none⟩) (n + 1) cd) = wE := ⟨_, rfl⟩
        rw [hE] at hbq2 hp2 uB
        have HE := Lib.hid hE
        have HREL : Hid (Hid (∃ nv vv C, wE.heap[q]? = some (.cells #[.int .i64 t.kind, .int .i64 0, nv, vv] tVl (0, 0)) ∧ VB (q + 1) wE nv vv ((t.fs.take (n + 1)).map (·.1)) C ∧ C.map VC.v = (t.fs.take (n + 1)).map (fun f => Fm.zero d f.2)) ∧ Hid (Upd (fun k => k = q) W3 wE)) := by
          refine ⟨⟨_, _, C ++ [⟨.slice xa xl xc, .slice ya yl yc, Fm.zero d ft⟩], hbq2, ?_, ?_⟩, uB⟩
          · exact (by rw [HST.out.1]; exact hp2)
          · rw [HST.out.2, List.map_append, HCV.out]; rfl
        clear hbq1 hbq2 uS hp2 uA uB hE hpush hupd
        go_wp2_with fail
        rw [HE.out]
        go_roundw
        case rel => exact ⟨n + 1, by omega, by go_num, HREL.out⟩
        case measure => simp [intOf]; omega
      · obtain rfl : n = t.fs.length := by omega
        have c0 : wr.cell? ⟨q, 0, none⟩ = some (.int .i64 t.kind) := by rw [cells_cell HBQ.out]; rfl
        have c1 : wr.cell? ⟨q, 1, none⟩ = some (.int .i64 0) := by rw [cells_cell HBQ.out]; rfl
        have c2 : wr.cell? ⟨q, 2, none⟩ = some (.slice na t.fs.length nc) := by rw [cells_cell HBQ.out]; rfl
        have c3 : wr.cell? ⟨q, 3, none⟩ = some (.slice va t.fs.length vc) := by rw [cells_cell HBQ.out]; rfl
        have hbr := U.out.keep HB23.out (fun e => by have := HZ.out.1; omega)
        have hbg : nG ≤ w.heap.size + 1 := by omega
        have uR := Upd.set1 (Upd.set1 (Upd.set1 (Upd.set1 (Upd.refl _ wr) hbg 0 (.int .i64 t.kind)) hbg 1 (.int .i64 0)) hbg 2 (.slice na t.fs.length nc)) hbg 3 (.slice va t.fs.length vc)
        have hbE := setCell_block (setCell_block (setCell_block (setCell_block hbr 0 (.int .i64 t.kind)) 1 (.int .i64 0)) 2 (.slice na t.fs.length nc)) 3 (.slice va t.fs.length vc)
        have hvE := HVB.out.upd uR (fun k hk _ e => by have := HZ.out.1; omega)
        have hnE : Nw w _ := HNW.out.trans' uR (fun k hk e => by omega)
        have d0 : wr.cell? ⟨w.heap.size + 1, 0, none⟩ = some (.int .i64 0) := by rw [cells_cell hbr]; rfl
        have d1 : wr.cell? ⟨w.heap.size + 1, 1, none⟩ = some (.int .i64 0) := by rw [cells_cell hbr]; rfl
        have d2 : wr.cell? ⟨w.heap.size + 1, 2, none⟩ = some (.slice none 0 0) := by rw [cells_cell hbr]; rfl
        have d3 : wr.cell? ⟨w.heap.size + 1, 3, none⟩ = some (.slice none 0 0) := by rw [cells_cell hbr]; rfl
        have f0 := cells_frozen hbr 0
        have f1 := cells_frozen hbr 1
        have f2 := cells_frozen hbr 2
        have f3 := cells_frozen hbr 3
        have HBE := Lib.hid hbE
        have HVE := Lib.hid hvE
        have HNE := Lib.hid hnE
        clear hbr uR hbE hvE hnE
        go_wp2_with fail
        refine bodyPost_ret (zero_results _ _ ?_ HBE.out) ?_ ?_
        · rfl
        · rfl
        refine ⟨_, _, rfl, ?_, HNE.out⟩
        have hN : (t.fs.take t.fs.length).map (·.1) = t.fs.map (·.1) := by rw [List.take_length]
        have hV : C.map VC.v = t.fs.map (fun f => Fm.zero d f.2) := by have := HCV.out; rwa [List.take_length] at this
        have hd := HVE.out.done (k := t.kind) (n := 0) HK.out (by unfold I64; omega)
        rw [hN, hV] at hd
        exact hd.mono (fun k _ hk => by have := HZ.out.1; omega)
end Go.Proofs.YtjlgmoemnhmgmaaGreatDoor
namespace Go.Proofs.YtjlgmoemnhmgmaaGreatDoor
open Go.RowKit
set_option linter.unusedVariables false
set_option linter.unusedSimpArgs false

/-- A builder in block b (the call's own: from B on) that holds the bytes l. -/
def Bld (B b : Nat) (l : List UInt8) (w : World) : Prop := Lib.IsBuilder 136 5 B b (Lib.byteCells l) w
theorem bSize : (Tryz.prog.info? 136).map (·.size) = some 2 := by kernel_rfl
theorem bLies : liesAt Tryz.prog Tryz.prog.depth 136 (2 / Tryz.prog.cellsOf 136) 0 136 1 = true := by kernel_rfl
theorem bInfoByte : (Tryz.prog.info? 5).map (fun i => (i.zero, i.size, i.bytes)) = some (some (.int .u8 0), 1, 1) := by kernel_rfl

set_option maxHeartbeats 1000000 in
set_option maxRecDepth 100000 in
theorem copyCheck_used (b : Nat) (w : World) (h0 : w.cell? ⟨b, 0, none⟩ = some (.pointer (some ⟨b, 0, none⟩))) :
    Calls Tryz.prog 114 #[.pointer (some ⟨b, 0, none⟩)] w fun e w' => e = .returned (.tuple #[]) ∧ w' = w := by
  obtain ⟨j, hj, _⟩ := Option.map_eq_some_iff.1 bSize
  go_enter Tryz.func114, Tryz.ntmps114
  go_wp2
  rw [Lib.run_neq_ptr_same w _ Tryz.underlying133 hj]
  go_wp2
  go_end0
  exact ⟨rfl, rfl⟩
set_option maxHeartbeats 1000000 in
set_option maxRecDepth 100000 in
theorem copyCheck_fresh (b : Nat) (w : World) (h0 : w.cell? ⟨b, 0, none⟩ = some (.pointer none)) (hsh : w.shape? b = some (136, 2)) (hfz : w.frozen? ⟨b, 0, none⟩ = false) :
    Calls Tryz.prog 114 #[.pointer (some ⟨b, 0, none⟩)] w fun e w' => e = .returned (.tuple #[]) ∧ w' = w.setCell ⟨b, 0, none⟩ (.pointer (some ⟨b, 0, none⟩)) := by
  obtain ⟨j, hj, hjs⟩ := Option.map_eq_some_iff.1 bSize
  go_enter Tryz.func114, Tryz.ntmps114
  go_wp2
  rw [Lib.run_to_unsafe w ⟨b, 0, none⟩ Tryz.underlying133 Tryz.underlying163 hj (by rw [hjs]; decide) hsh (Nat.zero_lt_succ 1)]
  simp only [Result.andThen]
  rw [Oper.upon_value]
  go_wp2
  rw [run_callFunc_extern Tryz.func128 (by kernel_rfl) (by kernel_rfl) (by kernel_rfl) (e := Extern.AbiNoEscape.same) (by kernel_rfl)]
  rw [Lib.run_noEscape]
  simp only [Result.andThen]
  rw [Oper.upon_value]
  go_wp2
  rw [Lib.run_from_unsafe w ⟨b, 0, none⟩ Tryz.underlying163 Tryz.underlying133 hj hsh bLies]
  simp only [Result.andThen]
  rw [Oper.upon_value]
  go_wp2
  go_end0
  exact ⟨rfl, rfl⟩
theorem copyCheck_c (B b : Nat) (bs : List Value) (w : World) (h : Lib.IsBuilder 136 5 B b bs w) :
    Calls Tryz.prog 114 #[.pointer (some ⟨b, 0, none⟩)] w fun e w' => e = .returned (.tuple #[]) ∧ (Lib.BuilderAt 136 5 B b (.pointer (some ⟨b, 0, none⟩)) bs w' ∧ Below B w w') := by
  rcases h with h | h
  · refine (copyCheck_fresh b w h.cell0 h.shape h.frozen0).mono ?_
    rintro e w' ⟨rfl, rfl⟩
    exact ⟨rfl, h.used _, (Below.refl B w).setCell (p := ⟨b, 0, none⟩) h.1 _⟩
  · refine (copyCheck_used b w h.cell0).mono ?_
    rintro e w' ⟨rfl, rfl⟩
    exact ⟨rfl, h, Below.refl B _⟩
set_option maxHeartbeats 1000000 in
set_option maxRecDepth 100000 in
theorem WriteString_c (B b : Nat) (l : List UInt8) (s : ByteArray) (m : List UInt8) (hm : s.data.toList = m) (w : World) (h : Bld B b l w) (hlen : l.length + m.length ≤ 140737488355328) (hBw : B ≤ w.heap.size) :
    Calls Tryz.prog 93 #[.pointer (some ⟨b, 0, none⟩), .string s] w fun e w' => e = .returned (.tuple #[.int .i64 m.length, .nilIface]) ∧ (Bld B b (l ++ m) w' ∧ Below B w w') := by
  obtain ⟨i0, hi, hz0, hz1, hz2⟩ := info_parts bInfoByte
  subst hm
  have Hsz := Lib.hid (bs_size s)
  have Hbl := Lib.hid (Lib.byteCells_length l)
  go_enter Tryz.func93, Tryz.ntmps93
  go_wp2_with (go_at_call 114; refine (copyCheck_c B b _ _ h).mono ?_)
  rintro e w1 ⟨rfl, h1, hb1⟩
  obtain ⟨hB, v, hbk, hown, hne⟩ := h1
  have c0 : w1.cell? ⟨b, 0, none⟩ = some (.pointer (some ⟨b, 0, none⟩)) := by rw [Lib.cell_of_heap hbk]; rfl
  have c1 : w1.cell? ⟨b, 1, none⟩ = some v := by rw [Lib.cell_of_heap hbk]; rfl
  go_wp2_with (at_builtin; refine Lib.wpList_append_own_string _ rfl _ _ 134 9 rfl B 5 i0 Tryz.underlying134 Tryz.underlying9 hi hz0 hz1 hz2 _ _ _ rfl hown s rfl ?c3 ?c4 ?c5 ?_)
  case c3 => unfold maxLen; have := Hsz.out; have := Hbl.out; omega
  case c4 => have := Hsz.out; have := Hbl.out; omega
  case c5 => have := hb1.size; omega
  intro v' w2 hown' hgrow _
  have hlt : b < w1.heap.size := lt_of_block hbk
  have hb2 : w2.heap[b]? = some (.cells #[.pointer (some ⟨b, 0, none⟩), v] 136 (0, 0)) := by
    rw [hgrow.block b hlt (fun e => hne e.symm)]
    exact hbk
  have d0 : w2.cell? ⟨b, 0, none⟩ = some (.pointer (some ⟨b, 0, none⟩)) := by rw [Lib.cell_of_heap hb2]; rfl
  have d1 : w2.cell? ⟨b, 1, none⟩ = some v := by rw [Lib.cell_of_heap hb2]; rfl
  have f1 : w2.frozen? ⟨b, 1, none⟩ = false := Lib.frozen_of_heap hb2 1
  obtain ⟨ao, n', cap, rfl⟩ : ∃ ao n' cap, v' = .slice ao n' cap := by
    rcases hown'.2 with ⟨hv, _⟩ | ⟨g, cap, cur, hv, _⟩
    · exact ⟨_, _, _, hv⟩
    · exact ⟨_, _, _, hv⟩
  go_wp2
  go_ret2
  rw [Hsz.out]
  refine ⟨rfl, Or.inr ?_, ?_⟩
  · refine Lib.BuilderAt.put (T := 136) (e := 5) hB hb2 (bs' := Lib.byteCells (l ++ s.data.toList)) ?_ (by decide)
    rw [Lib.byteCells_length, Lib.byteCells_append, List.length_append, ← Hsz.out, ← Hbl.out]
    exact hown'
  · exact (hb1.grown hgrow (by have := hb1.size; omega) (fun k hk => (hown.lt k hk).1)).setCell (p := ⟨b, 1, none⟩) hB _
theorem String_c (B b : Nat) (l : List UInt8) (w : World) (h : Bld B b l w) (hBw : B ≤ w.heap.size) :
    Calls Tryz.prog 96 #[.pointer (some ⟨b, 0, none⟩)] w fun e w' => e = .returned (.string ⟨l.toArray⟩) ∧ Below B w w' :=
  Tryz.Builder_String_any B b l w h hBw
theorem Bld.fresh (w : World) : Bld w.heap.size w.heap.size [] (w.alloc (.cells #[.pointer none, .slice none 0 0] 136)) :=
  Lib.fresh_isBuilder 136 5 w
theorem builderAt_nw {T e : TypeId} {B b : Nat} {p : Value} {bs : List Value} {w w' : World} (h : Lib.BuilderAt T e B b p bs w) (u : Nw w w') : Lib.BuilderAt T e B b p bs w' := by
  obtain ⟨h1, v, h2, h3, h4⟩ := h
  refine ⟨h1, v, u.keep h2, ⟨h3.1, ?_⟩, h4⟩
  rcases h3.2 with h | ⟨g, cap, cur, r1, r2, r3, r4⟩
  · exact Or.inl h
  · exact Or.inr ⟨g, cap, cur, r1, r2, u.keep r3, r4⟩
theorem Bld.nw {B b : Nat} {l : List UInt8} {w w' : World} (h : Bld B b l w) (u : Nw w w') : Bld B b l w' := by
  rcases h with h | h
  · exact Or.inl (builderAt_nw h u)
  · exact Or.inr (builderAt_nw h u)
theorem Bld.lt {B b : Nat} {l : List UInt8} {w : World} (h : Bld B b l w) : b < w.heap.size := by
  rcases h with h | h <;> exact h.lt
end Go.Proofs.YtjlgmoemnhmgmaaGreatDoor
namespace Go.Proofs.YtjlgmoemnhmgmaaGreatDoor
open Go.RowKit
set_option linter.unusedVariables false
set_option linter.unusedSimpArgs false
attribute [local irreducible] Calls

theorem Int_e (n : Int) (w : World) (g : Gl w) (h : I64 n) :
    Calls Tryz.prog 92 #[.int .i64 n] w fun e w' => e = .returned (.string ⟨(Wire.intE n).toArray⟩) ∧ Nw w w' := by
  have hl := itoa_le h
  go_enter Tryz.func92, Tryz.ntmps92
  go_wp2_with fail
  (with_reducible refine (Itoa_c n _ g h).mono ?_)
  rintro _ w1 ⟨rfl, u1⟩
  go_wp2_with fail
  go_ret
  exact ⟨rfl, u1⟩
theorem Num_e (n : Int) (w : World) (g : Gl w) (h : I64 n) :
    Calls Tryz.prog 91 #[.int .i64 n] w fun e w' => e = .returned (.string ⟨(Wire.numE n).toArray⟩) ∧ Nw w w' := by
  by_cases hn : n < 0
  · go_enter Tryz.func91, Tryz.ntmps91
    go_wp2_with fail
    go_ret
    rw [show Wire.numE n = [] from if_pos hn]
    exact ⟨rfl, Upd.refl _ _⟩
  · go_enter Tryz.func91, Tryz.ntmps91
    go_wp2_with fail
    (with_reducible refine (Int_e n _ g h).mono ?_)
    rintro _ w1 ⟨rfl, u1⟩
    go_wp2_with fail
    go_ret
    rw [show Wire.numE n = Wire.intE n from if_neg (by omega)]
    exact ⟨rfl, u1⟩
theorem Text_e (s : ByteArray) (l : List UInt8) (hs : s.data.toList = l) (w : World) (g : Gl w) (h : l.length ≤ 140737488351232) :
    Calls Tryz.prog 95 #[.string s] w fun e w' => e = .returned (.string ⟨(Wire.textE l).toArray⟩) ∧ Nw w w' := by
  have hz := bs_size s
  rw [hs] at hz
  have hi : I64 s.size := by unfold I64; omega
  have hl := itoa_le hi
  have Hz := Lib.hid hz
  replace hz : s.size ≤ 140737488351232 := by omega
  go_enter Tryz.func95, Tryz.ntmps95
  go_wp2_with fail
  (with_reducible refine (Itoa_c _ _ g hi).mono ?_)
  rintro _ w1 ⟨rfl, u1⟩
  go_wp2_with fail
  go_ret
  refine ⟨ret_bs ?_, u1⟩
  simp only [bs_append_list, bs_list, hs, Hz.out]
  rfl
end Go.Proofs.YtjlgmoemnhmgmaaGreatDoor
namespace Go.Proofs.YtjlgmoemnhmgmaaGreatDoor
open Go.RowKit
set_option linter.unusedVariables false
set_option linter.unusedSimpArgs false
attribute [local irreducible] Calls
open Fm (Ty Vl Str nameB rightTy rightVl)

/-- One field's bytes. -/
def fdE (d : Nat) (v : Vl) (f : Str × Ty) : Str := Wire.textE f.1 ++ Wire.textE (Fm.writeF d f.2 (v.at_ f.1))
theorem write_two {d : Nat} {t : Ty} {v : Vl} (h0 : ¬ t.kind = 0) (h1 : ¬ t.kind = 1) : Fm.writeF (d + 1) t v = Wire.numE t.kind ++ (t.fs.map (fdE d v)).flatten := by
  show Wire.numE t.kind ++ (if t.kind = 0 then _ else if t.kind = 1 then _ else _) = _
  rw [if_neg h0, if_neg h1]; rfl
theorem write_zero {d : Nat} {t : Ty} {v : Vl} (h0 : t.kind = 0) : Fm.writeF (d + 1) t v = Wire.numE t.kind ++ Wire.intE v.n := by
  show Wire.numE t.kind ++ (if t.kind = 0 then _ else if t.kind = 1 then _ else _) = _
  rw [if_pos h0]
theorem write_one {d : Nat} {t : Ty} {v : Vl} (h1 : t.kind = 1) : Fm.writeF (d + 1) t v = Wire.numE t.kind ++ Wire.numE v.n := by
  show Wire.numE t.kind ++ (if t.kind = 0 then _ else if t.kind = 1 then _ else _) = _
  rw [if_neg (by omega), if_pos h1]
set_option maxHeartbeats 8000000 in
set_option maxRecDepth 100000 in
theorem fmwrite_c (P : Nat → Prop) : ∀ (d : Nat), d ≤ 4 → ∀ (t : Ty) (fv : Value) (v : Vl) (nv vv : Value) (w : World), Gm w → rightTy d t = true → rightVl d v = true → Fm.fits d t v = true → TyAt w fv t → VlAt P w nv vv v →
    Calls Tryz.prog 68 #[.agg #[.int .i64 t.kind, fv], .agg #[.int .i64 v.kind, .int .i64 v.n, nv, vv]] w fun e w' => e = .returned (.string ⟨(Fm.writeF d t v).toArray⟩) ∧ Nw w w' := by
  intro d
  induction d with
  | zero => intro _ t fv v nv vv w _ h; cases h
  | succ d ih =>
    intro hd t fv v nv vv w g hr hv hf ht hva
    have IH := Lib.hid (ih (by omega))
    have RT := Lib.hid (Fm.rt_iff.1 hr)
    have RV := Lib.hid (Fm.rv_iff.1 hv)
    have FT := Lib.hid (Fm.fit_iff.1 hf)
    have HLEN : Hid ((Fm.writeF (d + 1) t v).length ≤ 400000) := Nat.le_trans (Fm.write_len hd hr (hva.okI _)) (Nat.le_trans (Fm.W_mono hd) Fm.W4)
    have hkI := ht.kind
    have hnI := hva.num
    obtain ⟨fa, fc, rfl, hfl, hfc⟩ := ht.cells
    obtain ⟨na, nc, rfl, hnl, hnc⟩ := hva.names
    obtain ⟨va, vc, rfl, hvl, hvc⟩ := hva.vals
    have HFC : Hid (FdC w fa t.fs) := hfc
    have HNC : Hid (StrC w na v.names) := hnc
    have HVC : Hid (VsC P w va v.vals) := hvc
    have n1 := nw_alloc w (.cells #[.int .i64 t.kind, .slice fa t.fs.length fc] tTy)
    have n2 := nw_alloc (w.alloc (.cells #[.int .i64 t.kind, .slice fa t.fs.length fc] tTy)) (.cells #[.int .i64 v.kind, .int .i64 v.n, .slice na v.names.length nc, .slice va v.vals.length vc] tVl)
    have b1 := n2.keep (heap_new w (.cells #[.int .i64 t.kind, .slice fa t.fs.length fc] tTy))
    have b2 := heap_new (w.alloc (.cells #[.int .i64 t.kind, .slice fa t.fs.length fc] tTy)) (.cells #[.int .i64 v.kind, .int .i64 v.n, .slice na v.names.length nc, .slice va v.vals.length vc] tVl)
    rw [World.size_alloc] at b2
    have hN := n1.trans n2
    obtain ⟨W, hW⟩ : ∃ W, W = (w.alloc (.cells #[.int .i64 t.kind, .slice fa t.fs.length fc] tTy)).alloc (.cells #[.int .i64 v.kind, .int .i64 v.n, .slice na v.names.length nc, .slice va v.vals.length vc] tVl) := ⟨_, rfl⟩
    rw [← hW] at hN b1 b2
    have HN := Lib.hid hN
    have HW := Lib.hid hW
    have HC : Hid (∀ y, Nw W y → y.cell? ⟨w.heap.size, 0, none⟩ = some (.int .i64 t.kind) ∧ y.cell? ⟨w.heap.size, 1, none⟩ = some (.slice fa t.fs.length fc) ∧ y.cell? ⟨w.heap.size + 1, 1, none⟩ = some (.int .i64 v.n) ∧ y.cell? ⟨w.heap.size + 1, 2, none⟩ = some (.slice na v.names.length nc) ∧ y.cell? ⟨w.heap.size + 1, 3, none⟩ = some (.slice va v.vals.length vc)) := fun y u => ⟨by rw [cells_cell (Nw.keep u b1)]; rfl, by rw [cells_cell (Nw.keep u b1)]; rfl, by rw [cells_cell (Nw.keep u b2)]; rfl, by rw [cells_cell (Nw.keep u b2)]; rfl, by rw [cells_cell (Nw.keep u b2)]; rfl⟩
    have HNL := Lib.hid (And.intro hnl hvl)
    have HI := Lib.hid hnI
    have HKI := Lib.hid hkI
    have HG := Lib.hid (g.upd hN)
    have hnum := Lib.hid (Num_e t.kind W HG.out.g hkI)
    obtain ⟨c0, -, -, -, -⟩ := HC.out W (Upd.refl _ _)
    clear ih hr hv hf ht hva hfc hnc hvc n1 n2 b1 b2 hN hW hnl hvl hkI hnI g
    go_enter Tryz.func68, Tryz.ntmps68
    go_upto_region 1 with fail
    rw [← HW.out]
    clear HW
    go_wp2_with fail
    (with_reducible refine (hnum.out).mono ?_)
    rintro _ w2 ⟨rfl, u2⟩
    obtain ⟨d0, d1, d2, d3, d4⟩ := HC.out w2 u2
    have U2 := Lib.hid u2
    clear u2 hnum c0
    by_cases h0 : t.kind = 0
    · have e0 : (t.kind == 0) = true := by simp [h0]
      have hi := Lib.hid (Int_e v.n w2 (HG.out.upd U2.out).g HI.out)
      have l1 := Fm.num_len (n := t.kind) HKI.out
      have l2 := Fm.int_len HI.out
      have e9 := Lib.hid (write_zero (d := d) (v := v) h0)
      clear h0 HFC HNC HVC
      go_wp2_with fail
      (with_reducible refine (hi.out).mono ?_)
      rintro _ w3 ⟨rfl, u3⟩
      have U3 := Lib.hid ((HN.out.trans U2.out).trans u3)
      clear u3
      go_wp2_with fail
      go_ret
      refine ⟨ret_bs ?_, U3.out⟩
      rw [e9.out]
      simp only [bs_append_list, bs_list]
    have e0 : (t.kind == 0) = false := by simp [h0]
    by_cases h1 : t.kind = 1
    · have e1 : (t.kind == 1) = true := by simp [h1]
      have hi := Lib.hid (Num_e v.n w2 (HG.out.upd U2.out).g HI.out)
      have l1 := Fm.num_len (n := t.kind) HKI.out
      have l2 := Fm.num_len HI.out
      have e9 := Lib.hid (write_one (d := d) (v := v) h1)
      clear h0 h1 HFC HNC HVC
      go_wp2_with fail
      (with_reducible refine (hi.out).mono ?_)
      rintro _ w3 ⟨rfl, u3⟩
      have U3 := Lib.hid ((HN.out.trans U2.out).trans u3)
      clear u3
      go_wp2_with fail
      go_ret
      refine ⟨ret_bs ?_, U3.out⟩
      rw [e9.out]
      simp only [bs_append_list, bs_list]
    have e1 : (t.kind == 1) = false := by simp [h1]
    have E9 := Lib.hid (write_two (d := d) (v := v) h0 h1)
    have hB0 := Bld.fresh w2
    have nB := nw_alloc w2 (.cells #[.pointer none, .slice none 0 0] 136)
    have HNUM : Hid ((Wire.numE t.kind).length ≤ 400000) := by
      have := HLEN.out
      rw [E9.out, List.length_append] at this
      show _ ≤ _
      omega
    have hWS := Lib.hid (WriteString_c w2.heap.size w2.heap.size [] ⟨(Wire.numE t.kind).toArray⟩ (Wire.numE t.kind) (bs_list _) (w2.alloc (.cells #[.pointer none, .slice none 0 0] 136)) hB0 (by have := HNUM.out; simp; omega) (by simp))
    have HNB := Lib.hid nB
    have hfl1 : (t.fs.length : Int) ≤ 8 := by have := RT.out.len; omega
    clear hB0 nB hfl
    go_wp2_with fail
    (with_reducible refine (hWS.out).mono ?_)
    rintro _ w3 ⟨rfl, hB3, b3⟩
    have BL3 : Hid (Below w2.heap.size w2 w3) := HNB.out.below.trans b3
    have HB3 := Lib.hid hB3
    obtain ⟨d0, d1, d2, d3, d4⟩ := HC.out w3 (U2.out.trans (Upd.of_below _ BL3.out))
    clear hWS hB3 b3 h0 h1
    obtain ⟨Q, hQ⟩ : ∃ Q, Q = w2.heap.size := ⟨_, rfl⟩
    rw [← hQ] at HB3 BL3 ⊢
    have HQ := Lib.hid hQ
    clear hQ
    go_wp2_with fail
    go_loopw [34] (fun iv wr => ∃ n : Nat, n ≤ t.fs.length ∧ iv = .int .i64 (n : Int) ∧ Hid (Bld Q Q (Wire.numE t.kind ++ ((t.fs.take n).map (fdE d v)).flatten) wr) ∧ Hid (Below Q w2 wr)) (fun iv _ => t.fs.length - (intOf iv).toNat)
    case atStart => exact ⟨0, Nat.zero_le _, rfl, by simpa using HB3, BL3⟩
    case round =>
      obtain ⟨n, hn, rfl, HBn, BLn⟩ := hrel
      have hq2 : Nw w2 wr := Upd.of_below _ (by rw [← HQ.out]; exact BLn.out)
      have HNW := Lib.hid (HN.out.trans (U2.out.trans hq2))
      have HNW2 := Lib.hid (U2.out.trans hq2)
      clear hq2
      by_cases hlt : n < t.fs.length
      · have hlt1 : (n : Int) < t.fs.length := by omega
        have hn8 : (n : Int) ≤ 8 := by omega
        rcases HFC.out with hnil | ⟨b, off, rfl, hb, hcell⟩
        · rw [hnil] at hlt; simp at hlt
        obtain ⟨sv, p0, p1, p2, hty, hsl⟩ := hcell n hlt
        obtain ⟨sa, sc, hsv, -⟩ := hty.cells
        subst hsv
        have y0 := nw_cellF HNW.out p0
        have y1 := nw_cellF HNW.out p1
        have y2 := nw_cellF HNW.out p2
        have HS := Lib.hid (Wire.flatten_take_succ (fdE d v) t.fs n hlt)
        have HPRE := Lib.hid (Wire.flatten_take_le (fdE d v) t.fs (n + 1))
        have HSub := Lib.hid (RT.out.sub _ (List.getElem_mem hlt))
        have hix := FT.out.i _ (List.getElem_mem hlt)
        have hfit := FT.out.s _ (List.getElem_mem hlt)
        have HTY := Lib.hid hty
        have HSL := Lib.hid hsl
        clear hcell p0 p1 p2 hty hsl
        generalize t.fs[n] = fld at *
        obtain ⟨s, ft⟩ := fld
        dsimp only at *
        rcases Fm.idx_cases s v.names with ⟨hx, hno⟩ | ⟨i, hi, hx, he⟩
        · rw [hx] at hix; simp at hix
        have hiv : i < v.vals.length := by have := RV.out.len; omega
        have hat : v.at_ s = v.vals[i] := by unfold Fm.Vl.at_; rw [hx]; simp [hiv]
        have HFD : Hid (fdE d v (s, ft) = Wire.textE s ++ Wire.textE (Fm.writeF d ft v.vals[i])) := by
          show _ = _
          unfold fdE; rw [hat]
        rw [hat] at hfit
        rcases HVC.out with hnil | ⟨b', off', rfl, hb', hc'⟩
        · rw [hnil] at hiv; simp at hiv
        obtain ⟨nv', vv', q0, q1, q2, q3, q4⟩ := hc' i hiv
        obtain ⟨xa, xc, rfl, -⟩ := q4.names
        obtain ⟨ya, yc, rfl, -⟩ := q4.vals
        have HRV := Lib.hid (RV.out.all _ (List.getElem_mem hiv))
        have HQ4 := Lib.hid q4
        have HF := Lib.hid hfit
        obtain ⟨wo, hwo, n0, hbx⟩ : ∃ z, z = wr.alloc (.cells #[.string ⟨s.toArray⟩, .int .i64 ft.kind, .slice sa ft.fs.length sc] tFd) ∧ Nw wr z ∧ z.heap[wr.heap.size]? = some (.cells #[.string ⟨s.toArray⟩, .int .i64 ft.kind, .slice sa ft.fs.length sc] tFd (0, 0)) := ⟨_, rfl, nw_alloc wr _, heap_new wr _⟩
        have HWO := Lib.hid hwo
        have HN0 := Lib.hid n0
        have HBX := Lib.hid hbx
        have HBLD := Lib.hid (HBn.out.nw n0)
        have HP : Hid (∀ y, Nw wo y → y.cell? ⟨wr.heap.size, 0, none⟩ = some (.string ⟨s.toArray⟩) ∧ y.cell? ⟨wr.heap.size, 1, none⟩ = some (.int .i64 ft.kind) ∧ y.cell? ⟨wr.heap.size, 2, none⟩ = some (.slice sa ft.fs.length sc) ∧ y.cell? ⟨w.heap.size + 1, 3, none⟩ = some (.slice (some ⟨b', off', none⟩) v.vals.length vc) ∧ y.cell? ⟨b', off' + i * 4, none⟩ = some (.int .i64 (v.vals[i]).kind) ∧ y.cell? ⟨b', off' + i * 4 + 1, none⟩ = some (.int .i64 (v.vals[i]).n) ∧ y.cell? ⟨b', off' + i * 4 + 2, none⟩ = some (.slice xa (v.vals[i]).names.length xc) ∧ y.cell? ⟨b', off' + i * 4 + 3, none⟩ = some (.slice ya (v.vals[i]).vals.length yc)) := fun y u => by
          have h2 := Nw.keep u hbx
          have uy := (HNW.out.trans n0).trans u
          obtain ⟨-, -, -, -, k3⟩ := HC.out y ((HNW2.out.trans n0).trans u)
          exact ⟨by rw [cells_cell h2]; rfl, by rw [cells_cell h2]; rfl, by rw [cells_cell h2]; rfl, k3, nw_cellF uy q0, nw_cellF uy q1, nw_cellF uy q2, nw_cellF uy q3⟩
        obtain ⟨x0, -, -, -, -, -, -, -⟩ := HP.out wo (Upd.refl _ _)
        obtain ⟨-, -, -, x3, -⟩ := HC.out wo (HNW2.out.trans n0)
        have hix1 := Lib.hid (index_s na nc v.names s wo (HNC.out.nw (HNW.out.trans n0)) HNL.out.1)
        rw [hx] at hix1
        have HB1 : Hid ((Wire.numE t.kind ++ ((t.fs.take n).map (fdE d v)).flatten).length + ((Wire.textE s).length + (Wire.textE (Fm.writeF d ft v.vals[i])).length) ≤ 400000) := by
          have h1 := HPRE.out
          have h2 := HLEN.out
          rw [HS.out, HFD.out] at h1
          rw [E9.out] at h2
          simp only [List.length_append] at h1 h2 ⊢
          show _ ≤ _
          omega
        have HSLEN : Hid (s.length ≤ 400000 ∧ (Fm.writeF d ft v.vals[i]).length ≤ 400000) := by
          have h1 := HB1.out
          have h2 : s.length ≤ (Wire.textE s).length := by unfold Wire.textE; simp only [List.length_append]; omega
          have h3 : (Fm.writeF d ft v.vals[i]).length ≤ (Wire.textE (Fm.writeF d ft v.vals[i])).length := by unfold Wire.textE; simp only [List.length_append]; omega
          exact ⟨by omega, by omega⟩
        have hG0 : Hid (Gm wo) := HG.out.upd (HNW2.out.trans n0)
        have HT1 : Hid (∀ y, Nw wo y → Calls Tryz.prog 95 #[.string ⟨s.toArray⟩] y fun e z => e = .returned (.string ⟨(Wire.textE s).toArray⟩) ∧ Nw y z) := fun y u => Text_e _ s (bs_list _) y (hG0.out.upd u).g (by have := HSLEN.out.1; omega)
        have HT2 : Hid (∀ y, Nw wo y → Calls Tryz.prog 68 #[.agg #[.int .i64 ft.kind, .slice sa ft.fs.length sc], .agg #[.int .i64 (v.vals[i]).kind, .int .i64 (v.vals[i]).n, .slice xa (v.vals[i]).names.length xc, .slice ya (v.vals[i]).vals.length yc]] y fun e z => e = .returned (.string ⟨(Fm.writeF d ft v.vals[i]).toArray⟩) ∧ Nw y z) := fun y u => IH.out ft _ v.vals[i] _ _ y (hG0.out.upd u) HSub.out HRV.out HF.out (HTY.out.nw ((HNW.out.trans n0).trans u)) (HQ4.out.nw ((HNW.out.trans n0).trans u))
        have HT3 : Hid (∀ y, Nw wo y → Calls Tryz.prog 95 #[.string ⟨(Fm.writeF d ft v.vals[i]).toArray⟩] y fun e z => e = .returned (.string ⟨(Wire.textE (Fm.writeF d ft v.vals[i])).toArray⟩) ∧ Nw y z) := fun y u => Text_e _ _ (bs_list _) y (hG0.out.upd u).g (by have := HSLEN.out.2; omega)
        have hiv1 : (i : Int) < v.vals.length := by omega
        have l1 : (Wire.textE s).length ≤ 400000 := by have := HB1.out; omega
        have l2 : (Wire.textE (Fm.writeF d ft v.vals[i])).length ≤ 400000 := by have := HB1.out; omega
        have hi0 : decide ((i : Int) < 0) = false := decide_eq_false (by omega)
        clear HFC HNC HVC hix hfit hx he hat hc' q0 q1 q2 q3 q4 hwo n0 hbx
        generalize v.vals[i] = xv at *
        go_upto_region 11 with fail
        rw [← HWO.out]
        clear HWO
        go_wp2_with fail
        (with_reducible refine (hix1.out).mono ?_)
        rintro _ _ ⟨rfl, rfl⟩
        clear hix1
        go_wp2_with fail
        have HS0 := Lib.hid (HP.out _ (Upd.refl _ wo).drew)
        refine wp_region_G (fun y => y.cell? ⟨wr.heap.size, 0, none⟩ = some (.string ⟨s.toArray⟩) ∧ y.cell? ⟨wr.heap.size, 1, none⟩ = some (.int .i64 ft.kind) ∧ y.cell? ⟨wr.heap.size, 2, none⟩ = some (.slice sa ft.fs.length sc) ∧ y.cell? ⟨w.heap.size + 1, 3, none⟩ = some (.slice (some ⟨b', off', none⟩) v.vals.length vc) ∧ y.cell? ⟨b', off' + i * 4, none⟩ = some (.int .i64 xv.kind) ∧ y.cell? ⟨b', off' + i * 4 + 1, none⟩ = some (.int .i64 xv.n) ∧ y.cell? ⟨b', off' + i * 4 + 2, none⟩ = some (.slice xa xv.names.length xc) ∧ y.cell? ⟨b', off' + i * 4 + 3, none⟩ = some (.slice ya xv.vals.length yc)) 13 (by kernel_rfl) ?_
        refine wpAnyG_pure (i := 0) (v := ?_) rfl (by kernel_rfl) (by kernel_rfl) (by kernel_rfl) (by kernel_rfl) (by kernel_rfl) (fun _ _ _ h => h) (by rfl) ?_ (fun _ => HS0.out) ?_
        rotate_left 1
        · (intro zz; go_simp; first | done | with_reducible rfl)
        (try simp only [Act.put, List.setIfInBounds_toArray, List.set_cons_zero, List.set_cons_succ])
        refine wpAnyG_pure (i := 3) (v := ?_) rfl (by kernel_rfl) (by kernel_rfl) (by kernel_rfl) (by kernel_rfl) (by kernel_rfl) (fun _ _ _ h => h) (by rfl) ?_ (fun _ => HS0.out) ?_
        rotate_left 1
        · (intro zz; go_simp; first | done | with_reducible rfl)
        (try simp only [Act.put, List.setIfInBounds_toArray, List.set_cons_zero, List.set_cons_succ])
        refine wpAnyG_pure (i := 5) (v := ?_) rfl (by kernel_rfl) (by kernel_rfl) (by kernel_rfl) (by kernel_rfl) (by kernel_rfl) (fun _ _ _ h => h) (by rfl) ?_ (fun _ => HS0.out) ?_
        rotate_left 1
        · (intro zz; go_simp; first | done | with_reducible rfl)
        (try simp only [Act.put, List.setIfInBounds_toArray, List.set_cons_zero, List.set_cons_succ])
        refine wpAnyG_pure (i := 7) (v := ?_) rfl (by kernel_rfl) (by kernel_rfl) (by kernel_rfl) (by kernel_rfl) (by kernel_rfl) (fun _ _ _ h => h) (by rfl) ?_ (fun _ => HS0.out) ?_
        rotate_left 1
        · (intro zz; go_simp; first | done | with_reducible rfl)
        (try simp only [Act.put, List.setIfInBounds_toArray, List.set_cons_zero, List.set_cons_succ])
        refine wpAnyG_load (i := 1) (v := ?_) [12, 2] rfl (by kernel_rfl) (by kernel_rfl) (by kernel_rfl) (by kernel_rfl) (by kernel_rfl) (by kernel_rfl) (fun _ _ _ h => h) (by rfl) ?_ (fun _ => HS0.out) ?_
        rotate_left 1
        · (intro zz hS; obtain ⟨_, _, _, _, _, _, _, _⟩ := hS; go_simp; first | done | with_reducible rfl)
        (try simp only [Act.put, List.setIfInBounds_toArray, List.set_cons_zero, List.set_cons_succ])
        refine wpAnyG_load (i := 4) (v := ?_) [12, 11, 10] rfl (by kernel_rfl) (by kernel_rfl) (by kernel_rfl) (by kernel_rfl) (by kernel_rfl) (by kernel_rfl) (fun _ _ _ h => h) (by rfl) ?_ (fun _ => HS0.out) ?_
        rotate_left 1
        · (intro zz hS; obtain ⟨_, _, _, _, _, _, _, _⟩ := hS; go_simp; first | done | with_reducible rfl)
        (try simp only [Act.put, List.setIfInBounds_toArray, List.set_cons_zero, List.set_cons_succ])
        refine wpAnyG_load (i := 6) (v := ?_) [12, 11, 10, 9, 8] rfl (by kernel_rfl) (by kernel_rfl) (by kernel_rfl) (by kernel_rfl) (by kernel_rfl) (by kernel_rfl) (fun _ _ _ h => h) (by rfl) ?_ (fun _ => HS0.out) ?_
        rotate_left 1
        · (intro zz hS; obtain ⟨_, _, _, _, _, _, _, _⟩ := hS; go_simp; first | done | with_reducible rfl)
        (try simp only [Act.put, List.setIfInBounds_toArray, List.set_cons_zero, List.set_cons_succ])
        refine wpAnyG_pure (i := 8) (v := ?_) rfl (by kernel_rfl) (by kernel_rfl) (by kernel_rfl) (by kernel_rfl) (by kernel_rfl) (fun _ _ _ h => h) (by rfl) ?_ (fun _ => HS0.out) ?_
        rotate_left 1
        · (intro zz; go_simp; first | done | with_reducible rfl)
        (try simp only [Act.put, List.setIfInBounds_toArray, List.set_cons_zero, List.set_cons_succ])
        refine wpAnyG_load (i := 9) (v := ?_) [12, 11, 10] rfl (by kernel_rfl) (by kernel_rfl) (by kernel_rfl) (by kernel_rfl) (by kernel_rfl) (by kernel_rfl) (fun _ _ _ h => h) (by rfl) ?_ (fun _ => HS0.out) ?_
        rotate_left 1
        · (intro zz hS; obtain ⟨_, _, _, _, _, _, _, _⟩ := hS; go_simp; first | done | with_reducible rfl)
        (try simp only [Act.put, List.setIfInBounds_toArray, List.set_cons_zero, List.set_cons_succ])
        have hd0 : Nw wo wo.drew := (Upd.refl _ wo).drew
        -- the call number 2 by the contract HT1 at the world wo.drew behind wo by hd0: the world w4, the step u4
        refine wpAnyG_ready [2] (by kernel_rfl) (by simp) ?_
        refine AllG.cons rfl (fun K hK => ?_) AllG.nil
        have hCC := (HT1).out (wo.drew) (hd0)
        go_simp
        (with_reducible refine (hCC).mono ?_)
        rintro _ w4 ⟨rfl, u4⟩
        clear hCC
        replace u4 := Nw.trans (hd0) (u4)
        refine hK.out _ _ (fun _ => HP.out _ u4) ?_
        clear hK K
        (try simp only [Act.put, List.setIfInBounds_toArray, List.set_cons_zero, List.set_cons_succ])
        -- the call number 10 by the contract HT2 at the world w4 behind wo by u4: the world w5, the step u5
        refine wpAnyG_ready [10] (by kernel_rfl) (by simp) ?_
        refine AllG.cons rfl (fun K hK => ?_) AllG.nil
        have hCC := (HT2).out (w4) (u4)
        go_simp
        (with_reducible refine (hCC).mono ?_)
        rintro _ w5 ⟨rfl, u5⟩
        clear hCC
        replace u5 := Nw.trans (u4) (u5)
        refine hK.out _ _ (fun _ => HP.out _ u5) ?_
        clear hK K
        (try simp only [Act.put, List.setIfInBounds_toArray, List.set_cons_zero, List.set_cons_succ])
        -- the call number 11 by the contract HT3 at the world w5 behind wo by u5: the world w6, the step u6
        refine wpAnyG_ready [11] (by kernel_rfl) (by simp) ?_
        refine AllG.cons rfl (fun K hK => ?_) AllG.nil
        have hCC := (HT3).out (w5) (u5)
        go_simp
        (with_reducible refine (hCC).mono ?_)
        rintro _ w6 ⟨rfl, u6⟩
        clear hCC
        replace u6 := Nw.trans (u5) (u6)
        refine hK.out _ _ (fun _ => HP.out _ u6) ?_
        clear hK K
        (try simp only [Act.put, List.setIfInBounds_toArray, List.set_cons_zero, List.set_cons_succ])
        have l3 : ¬ 9223372036854775807 < (Wire.textE s).length + (Wire.textE (Fm.writeF d ft xv)).length := by omega
        refine wpAnyG_pure (i := 12) (v := ?_) rfl (by kernel_rfl) (by kernel_rfl) (by kernel_rfl) (by kernel_rfl) (by kernel_rfl) (fun _ _ _ h => h) (by rfl) ?_ (fun _ => HP.out _ u6) ?_
        rotate_left 1
        · (intro zz; go_simp; first | done | with_reducible rfl)
        (try simp only [Act.put, List.setIfInBounds_toArray, List.set_cons_zero, List.set_cons_succ])
        refine wpAnyG_ready [13] (by kernel_rfl) (by simp) ?_
        refine AllG.cons rfl (fun K hK => ?_) AllG.nil
        have hQ0 : Q ≤ wr.heap.size := by have := BLn.out.size; have := HQ.out; omega
        have hWS := WriteString_c Q Q _ (⟨(Wire.textE s).toArray⟩ ++ ⟨(Wire.textE (Fm.writeF d ft xv)).toArray⟩) (Wire.textE s ++ Wire.textE (Fm.writeF d ft xv)) (by simp only [bs_append_list, bs_list]) w6 (HBLD.out.nw u6) (by have := HB1.out; rw [@List.length_append _ (Wire.textE s)]; omega) (by have := u6.size; have := HN0.out.size; omega)
        go_simp
        (with_reducible refine (hWS).mono ?_)
        rintro _ w7 ⟨rfl, hB7, b7⟩
        clear hWS
        refine hK.out _ _ (fun e => absurd (show true = false from e) (by decide)) ?_
        clear hK K
        (try simp only [Act.put, List.setIfInBounds_toArray, List.set_cons_zero, List.set_cons_succ])
        refine wpAnyG_done (by kernel_rfl) ?_ _
        have BL7 : Below Q w2 w7 := (BLn.out.trans (Below.mono (Nw.below (HN0.out.trans u6)) hQ0)).trans b7
        have HB7 : Hid (Bld Q Q (Wire.numE t.kind ++ ((t.fs.take (n + 1)).map (fdE d v)).flatten) w7) := by
          rw [HS.out, HFD.out, ← List.append_assoc]
          exact hB7
        go_wp2_with fail
        go_roundw
        case rel => exact ⟨n + 1, by omega, by go_num, HB7, BL7⟩
        case measure => simp [intOf]; omega
      · obtain rfl : n = t.fs.length := by omega
        have hst := Lib.hid (String_c Q Q _ wr HBn.out (by have := BLn.out.size; rw [HQ.out]; exact this))
        clear HFC HNC HVC
        go_wp2_with fail
        (with_reducible refine (hst.out).mono ?_)
        rintro _ w4 ⟨rfl, b4⟩
        have u4 : Nw w2 w4 := Upd.of_below _ (by rw [← HQ.out]; exact BLn.out.trans b4)
        go_wp2_with fail
        go_ret
        refine ⟨?_, HN.out.trans (U2.out.trans u4)⟩
        rw [E9.out]; rfl
end Go.Proofs.YtjlgmoemnhmgmaaGreatDoor
namespace Go.Proofs.YtjlgmoemnhmgmaaGreatDoor
open Go.RowKit
set_option linter.unusedVariables false
set_option linter.unusedSimpArgs false
attribute [local irreducible] Calls

/-- At block b lies a reader (of the type T) in the state st. -/
def Rdr (T : TypeId) (w : World) (b : Nat) (st : Wire.St) : Prop := nG ≤ b ∧ w.heap[b]? = some (.cells #[.string ⟨(st.getD []).toArray⟩, .bool st.isNone] T (0, 0))
abbrev tR : TypeId := 153
theorem Rdr.lt {T : TypeId} {w : World} {b : Nat} {st : Wire.St} (h : Rdr T w b st) : b < w.heap.size := lt_of_block h.2
theorem Rdr.c0 {T : TypeId} {w : World} {b : Nat} {st : Wire.St} (h : Rdr T w b st) : w.cell? ⟨b, 0, none⟩ = some (.string ⟨(st.getD []).toArray⟩) := by rw [cells_cell h.2]; rfl
theorem Rdr.c1 {T : TypeId} {w : World} {b : Nat} {st : Wire.St} (h : Rdr T w b st) : w.cell? ⟨b, 1, none⟩ = some (.bool st.isNone) := by rw [cells_cell h.2]; rfl
theorem Rdr.fz {T : TypeId} {w : World} {b : Nat} {st : Wire.St} (h : Rdr T w b st) (i : Nat) : w.frozen? ⟨b, i, none⟩ = false := cells_frozen h.2 i
theorem Rdr.upd {T : TypeId} {S : Nat → Prop} {w w' : World} {b : Nat} {st : Wire.St} (h : Rdr T w b st) (u : Upd S w w') (hn : ¬ S b) : Rdr T w' b st := ⟨h.1, u.keep h.2 hn⟩
theorem Rdr.nw {T : TypeId} {w w' : World} {b : Nat} {st : Wire.St} (h : Rdr T w b st) (u : Nw w w') : Rdr T w' b st := h.upd u id
theorem Rdr.set0 {T : TypeId} {w : World} {b : Nat} {st : Wire.St} (h : Rdr T w b st) (s : ByteArray) (r : List UInt8) (hs : st.isNone = false) (hr : s.data.toList = r) : Rdr T (w.setCell ⟨b, 0, none⟩ (.string s)) b (some r) := by
  refine ⟨h.1, ?_⟩
  rw [setCell_block h.2, hs, ← bs_eta s, hr]
  rfl
theorem Rdr.setr {T : TypeId} {w : World} {b : Nat} {st : Wire.St} (h : Rdr T w b st) (s : ByteArray) (st' : Wire.St) (hs : st'.isNone = st.isNone) (hr : s.data.toList = st'.getD []) : Rdr T (w.setCell ⟨b, 0, none⟩ (.string s)) b st' := by
  refine ⟨h.1, ?_⟩
  rw [setCell_block h.2, ← hs, ← bs_eta s, hr]
  rfl
theorem Rdr.set_fail {T : TypeId} {w : World} {b : Nat} {st : Wire.St} (h : Rdr T w b st) : Rdr T ((w.setCell ⟨b, 0, none⟩ (.string ⟨#[]⟩)).setCell ⟨b, 1, none⟩ (.bool true)) b none := by
  refine ⟨h.1, ?_⟩
  rw [setCell_block (setCell_block h.2 _ _)]
  rfl
theorem Rdr.set_same {T : TypeId} {w : World} {b : Nat} {st : Wire.St} (h : Rdr T w b st) : Rdr T (w.setCell ⟨b, 0, none⟩ (.string ⟨(st.getD []).toArray⟩)) b st := by
  refine ⟨h.1, ?_⟩
  rw [setCell_block h.2]
  rfl
set_option maxHeartbeats 400000 in
theorem fail_c (b : Nat) (st : Wire.St) (w : World) (h : Rdr tR w b st) :
    Calls Tryz.prog 124 #[.pointer (some ⟨b, 0, none⟩)] w fun e w' => e = .returned (.tuple #[]) ∧ Rdr tR w' b none ∧ Upd (· = b) w w' := by
  have c0 := h.c0
  have c1 := h.c1
  have f0 := h.fz 0
  have f1 := h.fz 1
  go_enter Tryz.func124, Tryz.ntmps124
  go_wp2
  go_end0
  exact ⟨rfl, h.set_fail, ((Upd.refl _ _).set1 h.1 _ _).set1 h.1 _ _⟩
theorem c58 : (58 : Int) = ((58 : UInt8).toNat : Int) := rfl
theorem c59 : (59 : Int) = ((59 : UInt8).toNat : Int) := rfl
set_option maxHeartbeats 400000 in
theorem number_c (b : Nat) (st : Wire.St) (c : UInt8) (ci least : Int) (hci : ci = c.toNat) (w : World) (g : Gl w) (h : Rdr tR w b st) (hl : (st.getD []).length ≤ 9223372036854775807) :
    Calls Tryz.prog 110 #[.pointer (some ⟨b, 0, none⟩), .int .u8 ci, .int .i64 least] w fun e w' =>
      e = .returned (.int .i64 (Wire.rNumber st c least).1) ∧ Rdr tR w' b (Wire.rNumber st c least).2 ∧ Upd (· = b) w w' := by
  have c0 := h.c0
  have c1 := h.c1
  have f0 := h.fz 0
  have f1 := h.fz 1
  subst hci
  go_enter Tryz.func110, Tryz.ntmps110
  go_wp2
  go_quiet (fail)
  go_wp2_with fail
  obtain ⟨w1, e1, u1⟩ := nw_drewN w nq
  rw [e1]; clear e1
  replace h := h.nw u1
  replace g := g.upd u1
  obtain ⟨hd, ehd⟩ : ∃ hd : ByteArray, ({ data := (Option.getD st []).toArray } : ByteArray).extract 0 (min (↑(Option.getD st []).length) (21 : Int)).toNat = hd := ⟨_, rfl⟩
  have Hd : Hid (hd.data.toList = (st.getD []).take 21) := by rw [← ehd]; show _ = _; rw [bs_extract_list]; simp; omega
  have hds : hd.size = min 21 (st.getD []).length := by rw [bs_size, Hd.out, List.length_take]
  rw [ehd]; clear ehd
  (with_reducible refine (IndexByte_l hd c ((st.getD []).take 21) Hd.out _).mono ?_)
  rintro _ _ ⟨rfl, rfl⟩
  have i0 := Lib.indexByte_ge ((st.getD []).take 21) c
  have i1 := Wire.indexByte_lt ((st.getD []).take 21) c
  generalize hi : Lib.indexByte ((st.getD []).take 21) c = i at *
  have Hi := Lib.hid hi; clear hi
  rw [List.length_take, ← hds] at i1
  have i2 : i ≤ 20 := by omega
  have i3 : i < ((st.getD []).length : Int) := by omega
  have Hds := Lib.hid hds; clear hds
  go_wp2_with fail
  · (with_reducible refine (fail_c b st _ h).mono ?_)
    rintro _ w' ⟨rfl, h', u'⟩
    go_wp2_with fail
    go_ret
    rw [Wire.rNumber_neg (by rw [Hi.out]; assumption)]
    exact ⟨rfl, h', u1.trans u'⟩
  · have hs := Wire.isSome_of_index Hi.out (by assumption)
    have h0i : 0 ≤ i := by assumption
    obtain ⟨hp, ehp⟩ : ∃ hp : ByteArray, hd.extract 0 i.toNat = hp := ⟨_, rfl⟩
    have Hp : Hid (hp.data.toList = (st.getD []).take i.toNat) := by rw [← ehp]; show _ = _; rw [bs_extract_list, Hd.out]; have := Hds.out; simp [List.take_take]; omega
    rw [ehp]
    (with_reducible refine (Atoi_l hp ((st.getD []).take i.toNat) Hp.out _ g (by simp; omega)).mono ?_)
    rintro _ w2 ⟨n, v, rfl, hn, hv, u2⟩
    replace h := h.nw u2
    replace g := g.upd u2
    replace c0 := h.c0
    replace f0 := h.fz 0
    have h1 : i ≤ (hd.size : Int) := by omega
    rcases hv with ⟨rfl, hv⟩ | ⟨⟨tv, pv, rfl⟩, hv⟩
    · by_cases he : Lib.itoa n = (st.getD []).take i.toNat
      · have hb : (Lib.itoa n == hp.toList) = true := by rw [bs_toList, Hp.out, he]; simp
        have Hn := Lib.hid (Wire.rNumber_some (least := least) Hi.out h0i (Wire.numOf_eq hv he))
        have He := Lib.hid he; clear he
        have Hv := Lib.hid hv; clear hv
        by_cases hlt : n < least
        · have hdl : decide (n < least) = true := by simpa using hlt
          go_wp2_with fail
          refine wp_region_nw (by kernel_rfl) (by kernel_rfl) ?_
          repeat (go_big_quiet_step ((go_at_call 113; exact later_call (Itoa_c n _ (g.upd (Later.nw _)) hn))))
          refine wpQuiet_nil ?_
          intro w3 u3
          replace u3 := later_out u3
          replace h := h.nw u3
          go_wp2_with fail
          (with_reducible refine (fail_c b st _ h).mono ?_)
          rintro _ w' ⟨rfl, h', u'⟩
          go_wp2_with fail
          go_ret
          rw [Hn.out, if_pos hlt]
          exact ⟨rfl, h', Nw.trans u1 (Nw.trans u2 (Nw.trans u3 u'))⟩
        · have hdl : decide (n < least) = false := by simpa using hlt
          go_wp2_with fail
          refine wp_region_nw (by kernel_rfl) (by kernel_rfl) ?_
          repeat (go_big_quiet_step ((go_at_call 113; exact later_call (Itoa_c n _ (g.upd (Later.nw _)) hn))))
          refine wpQuiet_nil ?_
          intro w3 u3
          replace u3 := later_out u3
          replace h := h.nw u3
          replace c0 := h.c0
          replace f0 := h.fz 0
          go_wp2_with fail
          go_ret
          rw [Hn.out, if_neg (by omega)]
          exact ⟨rfl, h.set0 _ _ hs (by rw [bs_extract_list, bs_list, List.take_of_length_le (by simp <;> omega)]; congr 1 <;> omega), Nw.trans u1 (Nw.trans u2 (Nw.trans u3 ((Upd.refl _ _).set1 h.1 _ _)))⟩
      · have hb : (Lib.itoa n == hp.toList) = false := by rw [bs_toList, Hp.out]; simpa using he
        have Hn := Lib.hid (Wire.numOf_ne hv he)
        have Hv := Lib.hid hv; clear hv
        have He := Lib.hid he; clear he
        go_wp2_with fail
        refine wp_region_nw (by kernel_rfl) (by kernel_rfl) ?_
        repeat (go_big_quiet_step ((go_at_call 113; exact later_call (Itoa_c n _ (g.upd (Later.nw _)) hn))))
        refine wpQuiet_nil ?_
        intro w3 u3
        replace u3 := later_out u3
        replace h := h.nw u3
        go_wp2_with fail
        (with_reducible refine (fail_c b st _ h).mono ?_)
        rintro _ w' ⟨rfl, h', u'⟩
        go_wp2_with fail
        go_ret
        rw [Wire.rNumber_none Hi.out h0i Hn.out]
        exact ⟨rfl, h', Nw.trans u1 (Nw.trans u2 (Nw.trans u3 u'))⟩
    · go_wp2_with fail
      go_quiet (fail)
      obtain ⟨w3, e3, u3⟩ := nw_drewN w2 nq
      rw [e3]; clear e3
      replace h := h.nw u3
      go_wp2_with fail
      (with_reducible refine (fail_c b st _ h).mono ?_)
      rintro _ w' ⟨rfl, h', u'⟩
      go_wp2_with fail
      go_ret
      rw [Wire.rNumber_none Hi.out (by assumption) (Wire.numOf_none hv)]
      exact ⟨rfl, h', Nw.trans u1 (Nw.trans u2 (Nw.trans u3 u'))⟩

set_option maxHeartbeats 400000 in
theorem close_c (b : Nat) (st : Wire.St) (c : UInt8) (w : World) (h : Rdr tR w b st) :
    Calls Tryz.prog 126 #[.pointer (some ⟨b, 0, none⟩), .string ⟨#[c]⟩] w fun e w' =>
      e = .returned (.tuple #[]) ∧ Rdr tR w' b (Wire.rClose st c) ∧ Upd (· = b) w w' := by
  have c0 := h.c0
  have c1 := h.c1
  have f0 := h.fz 0
  have f1 := h.fz 1
  go_enter Tryz.func126, Tryz.ntmps126
  go_wp2_with fail
  (with_reducible refine (CutPrefix_c _ _ _).mono ?_)
  rintro _ _ ⟨rfl, rfl⟩
  cases hp : Lib.hasPrefix (st.getD []) [c] with
  | false =>
    have ht := Wire.trimPrefix_no hp
    go_wp2_with fail
    (with_reducible refine (fail_c b st _ h.set_same).mono ?_)
    rintro _ w' ⟨rfl, h', u'⟩
    go_wp2_with fail
    go_end0
    rw [Wire.rClose_no hp]
    exact ⟨rfl, h', ((Upd.refl _ _).set1 h.1 _ _).trans u'⟩
  | true =>
    have hr := Wire.rClose_yes hp
    go_wp2_with fail
    go_end0
    rw [hr.2]
    exact ⟨rfl, h.set0 _ _ hr.1 (bs_list _), (Upd.refl _ _).set1 h.1 _ _⟩
end Go.Proofs.YtjlgmoemnhmgmaaGreatDoor
namespace Go.Proofs.YtjlgmoemnhmgmaaGreatDoor
open Go.RowKit
set_option linter.unusedVariables false
set_option linter.unusedSimpArgs false
attribute [local irreducible] Calls

theorem Num_r (b : Nat) (st : Wire.St) (w : World) (g : Gl w) (h : Rdr tR w b st) (hl : (st.getD []).length ≤ 9223372036854775807) :
    Calls Tryz.prog 86 #[.pointer (some ⟨b, 0, none⟩)] w fun e w' =>
      e = .returned (.int .i64 (Wire.rNum st).1) ∧ Rdr tR w' b (Wire.rNum st).2 ∧ Upd (· = b) w w' := by
  go_enter Tryz.func86, Tryz.ntmps86
  go_wp2_with fail
  (with_reducible refine (number_c b st 59 59 _ c59 _ g h hl).mono ?_)
  rintro _ w' ⟨rfl, h', u'⟩
  go_wp2_with fail
  go_ret
  exact ⟨rfl, h', u'⟩
theorem Int_r (b : Nat) (st : Wire.St) (w : World) (g : Gl w) (h : Rdr tR w b st) (hl : (st.getD []).length ≤ 9223372036854775807) :
    Calls Tryz.prog 88 #[.pointer (some ⟨b, 0, none⟩)] w fun e w' =>
      e = .returned (.int .i64 (Wire.rInt st).1) ∧ Rdr tR w' b (Wire.rInt st).2 ∧ Upd (· = b) w w' := by
  go_enter Tryz.func88, Tryz.ntmps88
  go_wp2_with fail
  (with_reducible refine (number_c b st 59 59 _ c59 _ g h hl).mono ?_)
  rintro _ w' ⟨rfl, h', u'⟩
  go_wp2_with fail
  go_ret
  exact ⟨rfl, h', u'⟩
set_option maxHeartbeats 400000 in
theorem Text_r (b : Nat) (st : Wire.St) (w : World) (g : Gl w) (h : Rdr tR w b st) (hl : (st.getD []).length ≤ 9223372036854775807) :
    Calls Tryz.prog 112 #[.pointer (some ⟨b, 0, none⟩)] w fun e w' =>
      e = .returned (.string ⟨(Wire.rText st).1.toArray⟩) ∧ Rdr tR w' b (Wire.rText st).2 ∧ Upd (· = b) w w' := by
  have hle := Wire.rNumber_le st 58 0
  have hn0 := Wire.rNumber_least st 58 0 (Int.le_refl 0)
  go_enter Tryz.func112, Tryz.ntmps112
  go_wp2_with fail
  (with_reducible refine (number_c b st 58 58 _ c58 _ g h hl).mono ?_)
  rintro _ w1 ⟨rfl, h1, u1⟩
  cases hq : Wire.rNumber st 58 0 with
  | mk n s1 =>
  rw [hq] at hle hn0 h1
  have Hq := Lib.hid hq; clear hq
  replace hle : (s1.getD []).length ≤ (st.getD []).length := hle
  replace hn0 : 0 ≤ n := hn0
  replace h1 : Rdr tR w1 b s1 := h1
  have c0 := h1.c0
  have c1 := h1.c1
  have f0 := h1.fz 0
  have f1 := h1.fz 1
  by_cases hfar : ((s1.getD []).length : Int) < n
  · go_wp2_with fail
    (with_reducible refine (fail_c b s1 _ h1).mono ?_)
    rintro _ w2 ⟨rfl, h2, u2⟩
    go_wp2_with fail
    go_ret
    have e : Wire.rText st = ([], none) := by
      cases s1 with
      | none => exact Wire.rText_none Hq.out
      | some r => exact Wire.rText_far Hq.out hfar
    rw [e]
    exact ⟨rfl, h2, u1.trans u2⟩
  · have hs1 : s1 = none → n = 0 := fun e => Wire.rNumber_zero (by rw [Hq.out, e])
    have h2 : ∀ s : ByteArray, s.data.toList = (s1.getD []).drop n.toNat → Rdr tR (w1.setCell ⟨b, 0, none⟩ (.string s)) b (s1.map fun r => r.drop n.toNat) := fun s hs => by
      refine h1.setr s _ (by cases s1 <;> rfl) ?_
      rw [hs]
      cases s1 <;> simp
    have Hs1 := Lib.hid hs1; clear hs1
    have H2 := Lib.hid h2; clear h2
    go_wp2_with fail
    (with_reducible refine (close_c b (s1.map fun r => r.drop n.toNat) 44 _ (H2.out _ (by rw [bs_extract_list, bs_list, List.take_of_length_le (by simp)]))).mono ?_)
    rintro _ w3 ⟨rfl, h3, u3⟩
    have d1 := h3.c1
    have hc : Wire.rText st = ((if (Wire.rClose (s1.map fun r => r.drop n.toNat) 44).isNone then [] else (s1.getD []).take n.toNat), Wire.rClose (s1.map fun r => r.drop n.toNat) 44) := by
      cases s1 with
      | none => exact Wire.rText_none Hq.out
      | some r =>
        cases hx : Wire.rClose (some (r.drop n.toNat)) 44 with
        | none => rw [Wire.rText_open Hq.out (by simpa using hfar) hx]; simp [hx]
        | some r' => rw [Wire.rText_ok Hq.out (by simpa using hfar) hx]; simp [hx]
    have Hc := Lib.hid hc; clear hc
    generalize Wire.rClose (s1.map fun r => r.drop n.toNat) 44 = s3 at *
    cases s3 with
    | none =>
      go_wp2_with fail
      go_ret
      rw [Hc.out]
      exact ⟨rfl, h3, u1.trans (((Upd.refl _ _).set1 h1.1 _ _).trans u3)⟩
    | some r3 =>
      go_wp2_with fail
      go_ret
      rw [Hc.out]
      refine ⟨?_, h3, u1.trans (((Upd.refl _ _).set1 h1.1 _ _).trans u3)⟩
      rw [show (Value.string (ByteArray.extract ⟨(s1.getD []).toArray⟩ 0 n.toNat)) = .string ⟨((s1.getD []).take n.toNat).toArray⟩ by rw [bs_extract]; simp]
      rfl
theorem Left_r (T : TypeId) (b : Nat) (st : Wire.St) (w : World) (h : Rdr tR w b st) :
    Calls Tryz.prog 111 #[.pointer (some ⟨b, 0, none⟩)] w fun e w' => e = .returned (.int .i64 ((st.getD []).length : Int)) ∧ w = w' := by
  have c0 := h.c0
  go_enter Tryz.func111, Tryz.ntmps111
  go_wp2
  go_ret
  exact ⟨rfl, rfl⟩
theorem Done_r (b : Nat) (st : Wire.St) (w : World) (h : Rdr tR w b st) :
    Calls Tryz.prog 89 #[.pointer (some ⟨b, 0, none⟩)] w fun e w' => e = .returned (.bool (decide (st = some []))) ∧ w = w' := by
  have c0 := h.c0
  have c1 := h.c1
  rcases st with _ | r
  · go_enter Tryz.func89, Tryz.ntmps89
    go_wp2
    go_ret
    exact ⟨rfl, rfl⟩
  · go_enter Tryz.func89, Tryz.ntmps89
    go_wp2
    go_ret
    refine ⟨?_, rfl⟩
    cases r <;> rfl
theorem Open_r (s : ByteArray) (l : List UInt8) (hs : s.data.toList = l) (w : World) (g : Gl w) :
    Calls Tryz.prog 85 #[.string s] w fun e w' => ∃ b, e = .returned (.pointer (some ⟨b, 0, none⟩)) ∧ w.heap.size ≤ b ∧ Rdr tR w' b (some l) ∧ Nw w w' := by
  go_enter Tryz.func85, Tryz.ntmps85
  go_wp2
  go_ret
  refine ⟨_, rfl, Nat.le_refl _, ⟨g.big, ?_⟩, (Upd.refl _ _).alloc _⟩
  rw [heap_new, ← bs_eta s, hs]
  rfl
end Go.Proofs.YtjlgmoemnhmgmaaGreatDoor
