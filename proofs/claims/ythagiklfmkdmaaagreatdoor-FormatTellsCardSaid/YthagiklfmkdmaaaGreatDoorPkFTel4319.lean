/- The reference's zero values (ladingref23): zero, Zero. -/
import Derived.Test.YthagiklfmkdmaaaGreatDoorPkFTel4313
import Derived.Test.YthagiklfmkdmaaaGreatDoorPkFTel432
namespace Go.Proofs.YthagiklfmkdmaaaGreatDoor
open Go.RowKit
set_option linter.unusedVariables false
set_option linter.unusedSimpArgs false
attribute [local irreducible] Calls
open Fm (Ty Vl Str nameB rightTy rightVl)

section
variable {B : Nat} {w w' : World} {nv vv : Value} {N : List Str} {C : List VC}
/-- A name more. -/
theorem VB.pushN {wa wb : World} {nv' : Value} {s : Str} (h : VB B w nv vv N C) (hs : s.length ≤ maxLen) (u0 : Nw w wa)
    (o1 : wb.ownsRow B 9 1 nv' (N.length + 1) (N.map sF ++ [sF s])) (ua : Upd (fun k => nv.ownBlock = some k) wa wb) (hb1 : ∀ k, nv'.ownBlock = some k → nv.ownBlock = some k ∨ wa.heap.size ≤ k) :
    VB B wb nv' vv (N ++ [s]) C ∧ Upd (fun k => nv.ownBlock = some k) w wb := by
  have z0 := u0.size
  have U : Upd (fun k => nv.ownBlock = some k) w wb := Nw.trans u0 ua
  refine ⟨⟨?_, ?_, fun c hc => ?_, fun x hx => ?_⟩, U⟩
  · rw [List.length_append, List.map_append]; exact o1
  · exact owns_upd' h.ov U (fun k e e2 => h.ne k e2 e)
  · have e1 := ((h.el c hc).mono (Q := fun k => (B ≤ k ∧ nv.ownBlock ≠ some k ∧ vv.ownBlock ≠ some k) ∧ k < w.heap.size) (fun k hk p => ⟨p, hk⟩)).upd U (fun k p e => p.1.2.1 e)
    refine e1.mono (fun k _ p => ⟨p.1.1, fun e => ?_, p.1.2.2⟩)
    rcases hb1 k e with e2 | e2
    · exact p.1.2.1 e2
    · have := p.2; omega
  · rcases List.mem_append.1 hx with hx | hx
    · exact h.ln x hx
    · rw [List.mem_singleton.1 hx]; exact hs
/-- A value more. -/
theorem VB.pushV {wc wd we : World} {vv' xn xv : Value} {v : Vl} (h : VB B w nv vv N C) (u1 : Nw w wc)
    (hx : VlAt (fun k => B ≤ k ∧ nv.ownBlock ≠ some k ∧ vv.ownBlock ≠ some k) wc xn xv v) (u2 : Nw wc wd)
    (o2 : we.ownsRow B tVl 4 vv' (C.length + 1) ((C.map vcL).flatten ++ vcL ⟨xn, xv, v⟩)) (ue : Upd (fun k => vv.ownBlock = some k) wd we) (hb2 : ∀ k, vv'.ownBlock = some k → vv.ownBlock = some k ∨ wd.heap.size ≤ k) :
    VB B we nv vv' N (C ++ [⟨xn, xv, v⟩]) ∧ Upd (fun k => vv.ownBlock = some k) w we := by
  have z1 := u1.size
  have z2 := u2.size
  have U : Upd (fun k => vv.ownBlock = some k) w we := Nw.trans (u1.trans u2) ue
  refine ⟨⟨?_, ?_, fun c hc => ?_, h.ln⟩, U⟩
  · exact owns_upd' h.on U (fun k e e2 => h.ne k e e2)
  · rw [List.length_append, List.map_append, List.flatten_append]
    simpa using o2
  · rcases List.mem_append.1 hc with hc | hc
    · have e1 := ((h.el c hc).mono (Q := fun k => (B ≤ k ∧ nv.ownBlock ≠ some k ∧ vv.ownBlock ≠ some k) ∧ k < w.heap.size) (fun k hk p => ⟨p, hk⟩)).upd U (fun k p e => p.1.2.2 e)
      refine e1.mono (fun k _ p => ⟨p.1.1, p.1.2.1, fun e => ?_⟩)
      rcases hb2 k e with e2 | e2
      · exact p.1.2.2 e2
      · have := p.2; omega
    · rw [List.mem_singleton.1 hc]
      have e1 := (hx.mono (Q := fun k => (B ≤ k ∧ nv.ownBlock ≠ some k ∧ vv.ownBlock ≠ some k) ∧ k < wc.heap.size) (fun k hk p => ⟨p, hk⟩)).upd (Nw.trans u2 ue) (fun k p e => p.1.2.2 e)
      refine e1.mono (fun k _ p => ⟨p.1.1, p.1.2.1, fun e => ?_⟩)
      rcases hb2 k e with e2 | e2
      · exact p.1.2.2 e2
      · have := p.2; omega
end
theorem rzero_results (tmps : Array Value) (w : World) {r : Nat} {k n : Int} {nv vv : Value} (hr : tmps.getD 2 undef = .pointer (some ⟨r, 0, none⟩)) (hb : w.heap[r]? = some (.cells #[.int .i64 k, .int .i64 n, nv, vv] tVl (0, 0))) :
    (results Tryz.f104 tmps).run Tryz.prog w = .ok (.agg #[.int .i64 k, .int .i64 n, nv, vv]) w := by
  obtain ⟨c0, c1, c2, c3⟩ := cell4F hb
  rw [Array.getD_eq_getD_getElem?] at hr
  simp [results, Tryz.results104, go_sem, hr, c0, c1, c2, c3]
theorem rZero_results (tmps : Array Value) (w : World) {r : Nat} {k n : Int} {nv vv : Value} (hr : tmps.getD 2 undef = .pointer (some ⟨r, 0, none⟩)) (hb : w.heap[r]? = some (.cells #[.int .i64 k, .int .i64 n, nv, vv] tVl (0, 0))) :
    (results Tryz.f56 tmps).run Tryz.prog w = .ok (.agg #[.int .i64 k, .int .i64 n, nv, vv]) w := by
  obtain ⟨c0, c1, c2, c3⟩ := cell4F hb
  rw [Array.getD_eq_getD_getElem?] at hr
  simp [results, Tryz.results56, go_sem, hr, c0, c1, c2, c3]
set_option maxHeartbeats 8000000 in
set_option maxRecDepth 100000 in
theorem rzero_r : ∀ (d : Nat), d ≤ 4 → ∀ (t : Ty) (fv : Value) (w : World), nG ≤ w.heap.size → rightTy d t = true → TyAt w fv t →
    Calls Tryz.prog 104 #[.agg #[.int .i64 t.kind, fv]] w fun e w' => ∃ nv vv, e = .returned (.agg #[.int .i64 (Fm.zero d t).kind, .int .i64 (Fm.zero d t).n, nv, vv]) ∧ VlAt (fun k => w.heap.size ≤ k) w' nv vv (Fm.zero d t) ∧ Nw w w' := by
  intro d
  induction d with
  | zero => intro _ t fv w g h; cases h
  | succ d ih =>
    intro hd t fv w hgb hr ht
    have IH := Lib.hid (ih (by omega))
    have RT := Lib.hid (Fm.rt_iff.1 hr)
    obtain ⟨fa, fc, rfl, hfl, hfc⟩ := ht.cells
    have HFC : Hid (FdC w fa t.fs) := hfc
    have hk := ht.kind
    have n1 := nw_alloc w (.cells #[.int .i64 t.kind, .slice fa t.fs.length fc] tTy)
    have n2 := nw_alloc (w.alloc (.cells #[.int .i64 t.kind, .slice fa t.fs.length fc] tTy)) (.cells #[.int .i64 0, .int .i64 0, .slice none 0 0, .slice none 0 0] tVl)
    have b1 := n2.keep (heap_new w (.cells #[.int .i64 t.kind, .slice fa t.fs.length fc] tTy))
    have b2 := heap_new (w.alloc (.cells #[.int .i64 t.kind, .slice fa t.fs.length fc] tTy)) (.cells #[.int .i64 0, .int .i64 0, .slice none 0 0, .slice none 0 0] tVl)
    rw [World.size_alloc] at b2
    have hN := n1.trans n2
    obtain ⟨W, hW⟩ : ∃ W, W = (w.alloc (.cells #[.int .i64 t.kind, .slice fa t.fs.length fc] tTy)).alloc (.cells #[.int .i64 0, .int .i64 0, .slice none 0 0, .slice none 0 0] tVl) := ⟨_, rfl⟩
    have hz2 : W.heap.size = w.heap.size + 2 := by rw [hW, World.size_alloc, World.size_alloc]
    rw [← hW] at hN b1 b2
    have n3 := nw_alloc W (.cells #[.int .i64 t.kind, .int .i64 0, .slice none 0 0, .slice none 0 0] tVl)
    have b3 := heap_new W (.cells #[.int .i64 t.kind, .int .i64 0, .slice none 0 0, .slice none 0 0] tVl)
    obtain ⟨W3, hW3⟩ : ∃ y, y = W.alloc (.cells #[.int .i64 t.kind, .int .i64 0, .slice none 0 0, .slice none 0 0] tVl) := ⟨_, rfl⟩
    rw [← hW3] at n3 b3
    have HN := Lib.hid hN
    have HW := Lib.hid hW
    have HW3 := Lib.hid hW3
    have U3 := Lib.hid (hN.trans n3)
    have HB13 := Lib.hid (Nw.keep n3 b1)
    have HB23 := Lib.hid (Nw.keep n3 b2)
    have HB3 := Lib.hid b3
    have c0 : W.cell? ⟨w.heap.size, 0, none⟩ = some (.int .i64 t.kind) := by rw [cells_cell b1]; rfl
    have x1 : W3.cell? ⟨w.heap.size, 1, none⟩ = some (.slice fa t.fs.length fc) := by rw [cells_cell HB13.out]; rfl
    have hz3 : W3.heap.size = W.heap.size + 1 := by rw [hW3]; simp
    have HZ := Lib.hid (And.intro (show w.heap.size + 2 ≤ W.heap.size by omega) hz3)
    have hfl1 : (t.fs.length : Int) ≤ 8 := by have := RT.out.len; omega
    have HK := Lib.hid hk
    have HGB := Lib.hid hgb
    clear ih hr hfc n1 n2 b1 b2 hN hW hfl hk ht hz2 n3 b3 hW3 hz3
    go_enter Tryz.func104, Tryz.ntmps104
    go_upto_region 1 with fail
    rw [← HW.out]
    clear HW
    go_upto_region 2 with fail
    rw [← HW3.out]
    clear HW3 c0
    generalize W.heap.size = q at *
    go_wp2_with fail
    clear x1
    go_loopw [4] (fun iv wr => ∃ n : Nat, n ≤ t.fs.length ∧ iv = .int .i64 (n : Int) ∧ Hid (∃ nv vv C, wr.heap[q]? = some (.cells #[.int .i64 t.kind, .int .i64 0, nv, vv] tVl (0, 0)) ∧ VB (q + 1) wr nv vv ((t.fs.take n).map (·.1)) C ∧ C.map VC.v = (t.fs.take n).map (fun f => Fm.zero d f.2)) ∧ Hid (Upd (fun k => k = q) W3 wr)) (fun iv _ => t.fs.length - (intOf iv).toNat)
    case atStart => exact ⟨0, Nat.zero_le _, rfl, ⟨_, _, [], HB3.out, VB.nil _ _, rfl⟩, Upd.refl _ _⟩
    case round =>
      obtain ⟨n, hn, rfl, HV, U⟩ := hrel
      obtain ⟨nv, vv, C, hbq, hvb, hcv⟩ := HV.out
      have hnw : Nw w wr := U3.out.trans' U.out (fun k hk e => by have := HZ.out.1; omega)
      have hCl : C.length = n := by
        have := congrArg List.length hcv
        rw [List.length_map, List.length_map, List.length_take] at this; omega
      have hNl : ((t.fs.take n).map (·.1)).length = n := by rw [List.length_map, List.length_take]; omega
      obtain ⟨na, nc, rfl⟩ := own_slF hvb.on
      obtain ⟨va, vc, rfl⟩ := own_slF hvb.ov
      rw [hNl, hCl] at hbq hvb
      have HVB := Lib.hid hvb
      have HCV := Lib.hid hcv
      have HNW := Lib.hid hnw
      have HBQ := Lib.hid hbq
      have HL := Lib.hid (And.intro hCl hNl)
      have hb13 := U.out.keep HB13.out (fun e => by have := HZ.out.1; omega)
      have HB1r := Lib.hid hb13
      have x1 : wr.cell? ⟨w.heap.size, 1, none⟩ = some (.slice fa t.fs.length fc) := by rw [cells_cell hb13]; rfl
      clear HV hvb hcv hnw hCl hNl hb13
      by_cases hlt : n < t.fs.length
      · have hlt1 : (n : Int) < t.fs.length := by omega
        have hn8 : (n : Int) ≤ 8 := by omega
        rcases HFC.out with hnil | ⟨b, off, rfl, hb, hcell⟩
        · rw [hnil] at hlt; simp at hlt
        obtain ⟨sv, p0, p1, p2, hty, hsl⟩ := hcell n hlt
        obtain ⟨sa, sc, hsv, -⟩ := hty.cells
        subst hsv
        have hstN : (t.fs.take (n + 1)).map (·.1) = (t.fs.take n).map (·.1) ++ [(t.fs[n]).1] := by rw [List.take_succ_eq_append_getElem hlt, List.map_append]; rfl
        have hstV : (t.fs.take (n + 1)).map (fun f => Fm.zero d f.2) = (t.fs.take n).map (fun f => Fm.zero d f.2) ++ [Fm.zero d (t.fs[n]).2] := by rw [List.take_succ_eq_append_getElem hlt, List.map_append]; rfl
        have HST := Lib.hid (And.intro hstN hstV)
        have HSub := Lib.hid (RT.out.sub _ (List.getElem_mem hlt))
        have HTY := Lib.hid hty
        have HSL := Lib.hid hsl
        have HPC : Hid (∀ y, Nw w y → y.cell? ⟨b, off + n * 3, none⟩ = some (.string ⟨(t.fs[n]).1.toArray⟩) ∧ y.cell? ⟨b, off + n * 3 + 1, none⟩ = some (.int .i64 (t.fs[n]).2.kind) ∧ y.cell? ⟨b, off + n * 3 + 2, none⟩ = some (.slice sa (t.fs[n]).2.fs.length sc)) := fun y u => ⟨nw_cellF u p0, nw_cellF u p1, nw_cellF u p2⟩
        clear hcell p0 p1 p2 hstN hstV hty hsl
        generalize (t.fs[n]).1 = s at *
        generalize (t.fs[n]).2 = ft at *
        have hqlt := lt_of_block HBQ.out
        have HQG : Hid (nG ≤ q ∧ q + 1 ≤ wr.heap.size ∧ w.heap.size + 2 ≤ q) := by
          have := HGB.out; have := HZ.out.1; exact ⟨by omega, by omega, by omega⟩
        -- the name
        have HP : Hid (∀ y, Upd (fun k => (Value.slice na n nc).ownBlock = some k) wr y → y.cell? ⟨q, 2, none⟩ = some (.slice na n nc) ∧ y.cell? ⟨w.heap.size, 1, none⟩ = some (.slice (some ⟨b, off, none⟩) t.fs.length fc) ∧ y.cell? ⟨b, off + n * 3, none⟩ = some (.string ⟨s.toArray⟩) ∧ y.frozen? ⟨q, 2, none⟩ = false ∧ True) := fun y u => by
          have hq : ∀ k, (Value.slice na n nc).ownBlock = some k → q < k := fun k e => by have := HVB.out.on.lt k e; omega
          have h1 := u.keep HBQ.out (fun e => by have := hq _ e; omega)
          have h2 := u.keep HB1r.out (fun e => by have := hq _ e; have := HQG.out; omega)
          have h3 := (HPC.out y (HNW.out.trans' u (fun k hk e => by have := hq _ e; have := HQG.out; omega))).1
          exact ⟨by rw [cells_cell h1]; rfl, by rw [cells_cell h2]; rfl, h3, cells_frozen h1 2, trivial⟩
        have HY1 : Hid (Nw wr (wr.alloc (.cells #[.string ⟨s.toArray⟩] 9)).drew) := (nw_alloc wr _).drew
        have HU1 : Hid (Upd (fun k => (Value.slice na n nc).ownBlock = some k) wr (wr.alloc (.cells #[.string ⟨s.toArray⟩] 9)).drew) := Nw.upd _ HY1.out
        have HON : Hid ((wr.alloc (.cells #[.string ⟨s.toArray⟩] 9)).drew.ownsRow (q + 1) 9 1 (.slice na n nc) n (((t.fs.take n).map (·.1)).map sF)) := by
          have := (HVB.out.nw HY1.out).on
          rw [HL.out.2] at this; exact this
        have HNews : Hid (∀ j u, ([.string ⟨s.toArray⟩] : List Value)[j]? = some u → (wr.alloc (.cells #[.string ⟨s.toArray⟩] 9)).drew.cell? ((⟨wr.heap.size, 0, none⟩ : Addr).add j) = some u) := fun j u hu => by
          have := World.news_of_block (cs := #[.string ⟨s.toArray⟩]) (t := 9) (fr := (0, 0)) (heap_new wr (.cells #[.string ⟨s.toArray⟩] 9)) j u hu
          exact nw_cellF (Upd.refl (fun _ => False) _).drew this
        have HQ1 : Hid (q + 1 ≤ (wr.alloc (.cells #[.string ⟨s.toArray⟩] 9)).drew.heap.size ∧ nG ≤ q + 1) := by
          have := HY1.out.size
          have := HQG.out
          exact ⟨by omega, by omega⟩
        have HNum : Hid (0 < 1 ∧ n + 1 ≤ maxLen ∧ (n + 1) * 16 ≤ 140737488355328 ∧ (n + 1) * 64 ≤ 140737488355328) := ⟨by omega, by unfold maxLen; omega, by omega, by omega⟩
        go_upto_region 5 with fail
        clear x1
        have HS0 := Lib.hid (HP.out _ (Upd.refl _ _).drew)
        refine wp_region_G (fun y => y.cell? ⟨q, 2, none⟩ = some (.slice na n nc) ∧ y.cell? ⟨w.heap.size, 1, none⟩ = some (.slice (some ⟨b, off, none⟩) t.fs.length fc) ∧ y.cell? ⟨b, off + n * 3, none⟩ = some (.string ⟨s.toArray⟩) ∧ y.frozen? ⟨q, 2, none⟩ = false ∧ True) 11 (by kernel_rfl) ?_
        refine wpAnyG_pure (i := 0) (v := ?_) rfl (by kernel_rfl) (by kernel_rfl) (by kernel_rfl) (by kernel_rfl) (by kernel_rfl) (fun _ _ _ h => h) (by kernel_rfl) ?_ (fun _ => HS0.out) ?_
        rotate_left 1
        · (intro zz; go_simp; first | done | with_reducible rfl)
        (try simp only [Act.put, List.setIfInBounds_toArray, List.set_cons_zero, List.set_cons_succ])
        refine wpAnyG_pure (i := 2) (v := ?_) rfl (by kernel_rfl) (by kernel_rfl) (by kernel_rfl) (by kernel_rfl) (by kernel_rfl) (fun _ _ _ h => h) (by kernel_rfl) ?_ (fun _ => HS0.out) ?_
        rotate_left 1
        · (intro zz; go_simp; first | done | with_reducible rfl)
        (try simp only [Act.put, List.setIfInBounds_toArray, List.set_cons_zero, List.set_cons_succ])
        refine wpAnyG_pure (i := 4) (v := ?_) rfl (by kernel_rfl) (by kernel_rfl) (by kernel_rfl) (by kernel_rfl) (by kernel_rfl) (fun _ _ _ h => h) (by kernel_rfl) ?_ (fun _ => HS0.out) ?_
        rotate_left 1
        · (intro zz; go_simp; first | done | with_reducible rfl)
        (try simp only [Act.put, List.setIfInBounds_toArray, List.set_cons_zero, List.set_cons_succ])
        refine wpAnyG_load (i := 1) (v := ?_) [] rfl (by kernel_rfl) (by kernel_rfl) (by kernel_rfl) (by kernel_rfl) (by kernel_rfl) (by kernel_rfl) (fun _ _ _ h => h) (by kernel_rfl) ?_ (fun _ => HS0.out) ?_
        rotate_left 1
        · (intro zz hS; obtain ⟨_, _, _, _, _⟩ := hS; go_simp; first | done | with_reducible rfl)
        (try simp only [Act.put, List.setIfInBounds_toArray, List.set_cons_zero, List.set_cons_succ])
        refine wpAnyG_load (i := 3) (v := ?_) [] rfl (by kernel_rfl) (by kernel_rfl) (by kernel_rfl) (by kernel_rfl) (by kernel_rfl) (by kernel_rfl) (fun _ _ _ h => h) (by kernel_rfl) ?_ (fun _ => HS0.out) ?_
        rotate_left 1
        · (intro zz hS; obtain ⟨_, _, _, _, _⟩ := hS; go_simp; first | done | with_reducible rfl)
        (try simp only [Act.put, List.setIfInBounds_toArray, List.set_cons_zero, List.set_cons_succ])
        refine wpAnyG_pure (i := 5) (v := ?_) rfl (by kernel_rfl) (by kernel_rfl) (by kernel_rfl) (by kernel_rfl) (by kernel_rfl) (fun _ _ _ h => h) (by kernel_rfl) ?_ (fun _ => HS0.out) ?_
        rotate_left 1
        · (intro zz; go_simp; first | done | with_reducible rfl)
        (try simp only [Act.put, List.setIfInBounds_toArray, List.set_cons_zero, List.set_cons_succ])
        refine wpAnyG_pure (i := 6) (v := ?_) rfl (by kernel_rfl) (by kernel_rfl) (by kernel_rfl) (by kernel_rfl) (by kernel_rfl) (fun _ _ _ h => h) (by kernel_rfl) ?_ (fun _ => HS0.out) ?_
        rotate_left 1
        · (intro zz; go_simp; first | done | with_reducible rfl)
        (try simp only [Act.put, List.setIfInBounds_toArray, List.set_cons_zero, List.set_cons_succ])
        refine wpAnyG_load (i := 7) (v := ?_) [] rfl (by kernel_rfl) (by kernel_rfl) (by kernel_rfl) (by kernel_rfl) (by kernel_rfl) (by kernel_rfl) (fun _ _ _ h => h) (by kernel_rfl) ?_ (fun _ => HS0.out) ?_
        rotate_left 1
        · (intro zz hS; obtain ⟨_, _, _, _, _⟩ := hS; go_simp; first | done | with_reducible rfl)
        (try simp only [Act.put, List.setIfInBounds_toArray, List.set_cons_zero, List.set_cons_succ])
        refine wpAnyG_ready [8] (by kernel_rfl) (by simp) ?_
        refine AllG.cons rfl (fun K hK => ?_) AllG.nil
        go_simp
        refine hK.out _ _ (fun _ => HP.out _ HU1.out) ?_
        clear hK K
        (try simp only [Act.put, List.setIfInBounds_toArray, List.set_cons_zero, List.set_cons_succ])
        refine wpAnyG_ready [9] (by kernel_rfl) (by simp) ?_
        refine AllG.cons rfl (fun K hK => ?_) AllG.nil
        refine step_catC rfl _ _ 25 rfl 9 _ 1 16 Tryz.underlying25 infoStrF rfl (by decide) (q + 1) HQ1.out.1 HQ1.out.2 _ n _ rfl HON.out ⟨wr.heap.size, 0, none⟩ 1 1 [.string ⟨s.toArray⟩] rfl rfl HNews.out (by intro u hu; rw [List.mem_singleton.1 hu]; rfl) HNum.out.1 HNum.out.2.1 HNum.out.2.2.1 ?_
        intro ga ca wb ob ub0 hbb
        have ub : Hid (Upd (fun k => (Value.slice na n nc).ownBlock = some k) wr wb) := Nw.trans HY1.out ub0
        refine hK.out _ _ (fun _ => HP.out _ ub.out) ?_
        clear hK K
        (try simp only [Act.put, List.setIfInBounds_toArray, List.set_cons_zero, List.set_cons_succ])
        refine wpAnyG_pure (i := 10) (v := ?_) rfl (by kernel_rfl) (by kernel_rfl) (by kernel_rfl) (by kernel_rfl) (by kernel_rfl) (fun _ _ _ h => h) (by kernel_rfl) ?_ (fun _ => HP.out _ ub.out) ?_
        rotate_left 1
        · (intro zz; go_simp; first | done | with_reducible rfl)
        (try simp only [Act.put, List.setIfInBounds_toArray, List.set_cons_zero, List.set_cons_succ])
        obtain ⟨_, _, _, _, -⟩ := HP.out _ ub.out
        refine wpAnyG_ready [11] (by kernel_rfl) (by simp) ?_
        refine AllG.cons rfl (fun K hK => ?_) AllG.nil
        go_simp
        refine hK.out _ _ (fun e => absurd (show true = false from e) (by decide)) ?_
        clear hK K
        (try simp only [Act.put, List.setIfInBounds_toArray, List.set_cons_zero, List.set_cons_succ])
        refine wpAnyG_done (by kernel_rfl) ?_ _
        obtain ⟨hpush, hupd⟩ := VB.pushN HVB.out HSL.out HY1.out (by rw [HL.out.2]; exact ob) ub0 (fun k e => by
          have e' : ga = k := by simpa [Value.ownBlock] using e
          subst e'; exact hbb)
        have hbq1 := ub.out.keep HBQ.out (fun e => by have := (HVB.out.on.lt q e).1; omega)
        have hbq2 := setCell_block hbq1 2 (.slice (some ⟨ga, 0, none⟩) (n + 1) ca)
        have uS := Upd.set1 (Upd.refl _ wb) HQG.out.1 2 (.slice (some ⟨ga, 0, none⟩) (n + 1) ca)
        have hp2 := hpush.upd uS (fun k hk _ e => by omega)
        have uA : Upd (fun k => k = q) W3 wb := U.out.trans' hupd (fun k hk e => by
          have := (HVB.out.on.lt k e).1; have := HZ.out.2; omega)
        have uB := uA.trans' uS (fun k _ e => e)
        obtain ⟨wf, hE⟩ : ∃ wf, wb.setCell ⟨q, 2, none⟩ (.slice (some ⟨ga, 0, none⟩) (n + 1) ca) = wf := ⟨_, rfl⟩
        rw [hE] at hbq2 hp2 uB
        have HE := Lib.hid hE
        have HUB := Lib.hid uB
        have HBQf := Lib.hid hbq2
        have HVBf := Lib.hid hp2
        have HNWf : Hid (Nw w wf) := U3.out.trans' uB (fun k hk e => by have := HZ.out.1; omega)
        have hb13 := uB.keep HB13.out (fun e => by have := HZ.out.1; omega)
        have HB1f := Lib.hid hb13
        have hqlf := lt_of_block hbq2
        have HLf : Hid (((t.fs.take n).map (·.1) ++ [s]).length = n + 1) := by show _ = _; rw [List.length_append, HL.out.2]; rfl
        clear hpush hupd hbq1 hbq2 uS hp2 uA uB hE HBQ HVB HS0 HP HU1 HON HNews HQ1 HY1 ub ub0 ob hbb hb13 hqlt
        go_upto_region 6 with fail
        rw [HE.out]
        clear HE
        -- the value
        have HP : Hid (∀ y, Upd (fun k => (Value.slice va n vc).ownBlock = some k) wf y → y.cell? ⟨q, 3, none⟩ = some (.slice va n vc) ∧ y.cell? ⟨w.heap.size, 1, none⟩ = some (.slice (some ⟨b, off, none⟩) t.fs.length fc) ∧ (y.cell? ⟨b, off + n * 3 + 1, none⟩ = some (.int .i64 ft.kind) ∧ y.cell? ⟨b, off + n * 3 + 2, none⟩ = some (.slice sa ft.fs.length sc)) ∧ y.frozen? ⟨q, 3, none⟩ = false ∧ Nw w y) := fun y u => by
          have hq : ∀ k, (Value.slice va n vc).ownBlock = some k → q < k := fun k e => by have := HVBf.out.ov.lt k e; omega
          have h1 := u.keep HBQf.out (fun e => by have := hq _ e; omega)
          have h2 := u.keep HB1f.out (fun e => by have := hq _ e; have := HQG.out; omega)
          have hn := HNWf.out.trans' u (fun k hk e => by have := hq _ e; have := HQG.out; omega)
          have h3 := (HPC.out y hn).2
          exact ⟨by rw [cells_cell h1]; rfl, by rw [cells_cell h2]; rfl, h3, cells_frozen h1 3, hn⟩
        have HZr : Hid (∀ y, Nw wf y → Calls Tryz.prog 104 #[.agg #[.int .i64 ft.kind, .slice sa ft.fs.length sc]] y fun e z => ∃ xa xl xc ya yl yc, e = .returned (.agg #[.int .i64 (Fm.zero d ft).kind, .int .i64 (Fm.zero d ft).n, .slice xa xl xc, .slice ya yl yc]) ∧ Hid (VlAt (fun k => y.heap.size ≤ k) z (.slice xa xl xc) (.slice ya yl yc) (Fm.zero d ft) ∧ Nw y z)) := fun y u => by
          have uy : Nw w y := HNWf.out.trans u
          refine (IH.out ft _ y (Nat.le_trans HGB.out uy.size) HSub.out (HTY.out.nw uy)).mono ?_
          rintro e z ⟨xn, xv, rfl, hx, ux⟩
          obtain ⟨xa, xc, rfl, -⟩ := hx.names
          obtain ⟨ya, yc, rfl, -⟩ := hx.vals
          exact ⟨xa, _, xc, ya, _, yc, rfl, hx, ux⟩
        have HS0 := Lib.hid (HP.out _ (Upd.refl _ _).drew)
        refine wp_region_G (fun y => y.cell? ⟨q, 3, none⟩ = some (.slice va n vc) ∧ y.cell? ⟨w.heap.size, 1, none⟩ = some (.slice (some ⟨b, off, none⟩) t.fs.length fc) ∧ (y.cell? ⟨b, off + n * 3 + 1, none⟩ = some (.int .i64 ft.kind) ∧ y.cell? ⟨b, off + n * 3 + 2, none⟩ = some (.slice sa ft.fs.length sc)) ∧ y.frozen? ⟨q, 3, none⟩ = false ∧ Nw w y) 12 (by kernel_rfl) ?_
        refine wpAnyG_pure (i := 0) (v := ?_) rfl (by kernel_rfl) (by kernel_rfl) (by kernel_rfl) (by kernel_rfl) (by kernel_rfl) (fun _ _ _ h => h) (by kernel_rfl) ?_ (fun _ => HS0.out) ?_
        rotate_left 1
        · (intro zz; go_simp; first | done | with_reducible rfl)
        (try simp only [Act.put, List.setIfInBounds_toArray, List.set_cons_zero, List.set_cons_succ])
        refine wpAnyG_pure (i := 2) (v := ?_) rfl (by kernel_rfl) (by kernel_rfl) (by kernel_rfl) (by kernel_rfl) (by kernel_rfl) (fun _ _ _ h => h) (by kernel_rfl) ?_ (fun _ => HS0.out) ?_
        rotate_left 1
        · (intro zz; go_simp; first | done | with_reducible rfl)
        (try simp only [Act.put, List.setIfInBounds_toArray, List.set_cons_zero, List.set_cons_succ])
        refine wpAnyG_pure (i := 4) (v := ?_) rfl (by kernel_rfl) (by kernel_rfl) (by kernel_rfl) (by kernel_rfl) (by kernel_rfl) (fun _ _ _ h => h) (by kernel_rfl) ?_ (fun _ => HS0.out) ?_
        rotate_left 1
        · (intro zz; go_simp; first | done | with_reducible rfl)
        (try simp only [Act.put, List.setIfInBounds_toArray, List.set_cons_zero, List.set_cons_succ])
        refine wpAnyG_load (i := 1) (v := ?_) [] rfl (by kernel_rfl) (by kernel_rfl) (by kernel_rfl) (by kernel_rfl) (by kernel_rfl) (by kernel_rfl) (fun _ _ _ h => h) (by kernel_rfl) ?_ (fun _ => HS0.out) ?_
        rotate_left 1
        · (intro zz hS; obtain ⟨_, _, _, _, _⟩ := hS; go_simp; first | done | with_reducible rfl)
        (try simp only [Act.put, List.setIfInBounds_toArray, List.set_cons_zero, List.set_cons_succ])
        refine wpAnyG_load (i := 3) (v := ?_) [] rfl (by kernel_rfl) (by kernel_rfl) (by kernel_rfl) (by kernel_rfl) (by kernel_rfl) (by kernel_rfl) (fun _ _ _ h => h) (by kernel_rfl) ?_ (fun _ => HS0.out) ?_
        rotate_left 1
        · (intro zz hS; obtain ⟨_, _, _, _, _⟩ := hS; go_simp; first | done | with_reducible rfl)
        (try simp only [Act.put, List.setIfInBounds_toArray, List.set_cons_zero, List.set_cons_succ])
        refine wpAnyG_pure (i := 5) (v := ?_) rfl (by kernel_rfl) (by kernel_rfl) (by kernel_rfl) (by kernel_rfl) (by kernel_rfl) (fun _ _ _ h => h) (by kernel_rfl) ?_ (fun _ => HS0.out) ?_
        rotate_left 1
        · (intro zz; go_simp; first | done | with_reducible rfl)
        (try simp only [Act.put, List.setIfInBounds_toArray, List.set_cons_zero, List.set_cons_succ])
        refine wpAnyG_pure (i := 6) (v := ?_) rfl (by kernel_rfl) (by kernel_rfl) (by kernel_rfl) (by kernel_rfl) (by kernel_rfl) (fun _ _ _ h => h) (by kernel_rfl) ?_ (fun _ => HS0.out) ?_
        rotate_left 1
        · (intro zz; go_simp; first | done | with_reducible rfl)
        (try simp only [Act.put, List.setIfInBounds_toArray, List.set_cons_zero, List.set_cons_succ])
        refine wpAnyG_load (i := 7) (v := ?_) [] rfl (by kernel_rfl) (by kernel_rfl) (by kernel_rfl) (by kernel_rfl) (by kernel_rfl) (by kernel_rfl) (fun _ _ _ h => h) (by kernel_rfl) ?_ (fun _ => HS0.out) ?_
        rotate_left 1
        · (intro zz hS; obtain ⟨_, _, ⟨_, _⟩, _, _⟩ := hS; go_simp; first | done | with_reducible rfl)
        (try simp only [Act.put, List.setIfInBounds_toArray, List.set_cons_zero, List.set_cons_succ])
        refine wpAnyG_ready [8] (by kernel_rfl) (by simp) ?_
        refine AllG.cons rfl (fun K hK => ?_) AllG.nil
        have hd0 : Nw wf wf.drew := (Upd.refl _ wf).drew
        have hCC := HZr.out wf.drew hd0
        go_simp
        (with_reducible refine (hCC).mono ?_)
        rintro _ wc ⟨xa, xl, xc, ya, yl, yc, rfl, HX⟩
        clear hCC
        have uc : Hid (Nw wf wc) := Nw.trans hd0 HX.out.2
        have ud : Hid (Nw wf (wc.alloc (.cells #[.int .i64 (Fm.zero d ft).kind, .int .i64 (Fm.zero d ft).n, .slice xa xl xc, .slice ya yl yc] tVl))) := uc.out.trans (nw_alloc _ _)
        have HD : Hid ((wc.alloc (.cells #[.int .i64 (Fm.zero d ft).kind, .int .i64 (Fm.zero d ft).n, .slice xa xl xc, .slice ya yl yc] tVl)).ownsRow (q + 1) tVl 4 (.slice va n vc) n (C.map vcL).flatten) := by
          have h := (HVBf.out.nw ud.out).ov
          rw [HL.out.1] at h; exact h
        have hqd := ud.out.size
        refine hK.out _ _ (fun _ => HP.out _ (Nw.upd _ uc.out)) ?_
        clear hK K
        (try simp only [Act.put, List.setIfInBounds_toArray, List.set_cons_zero, List.set_cons_succ])
        refine wpAnyG_ready [9] (by kernel_rfl) (by simp) ?_
        refine AllG.cons rfl (fun K hK => ?_) AllG.nil
        go_simp
        refine hK.out _ _ (fun _ => HP.out _ (Nw.upd _ ud.out)) ?_
        clear hK K
        (try simp only [Act.put, List.setIfInBounds_toArray, List.set_cons_zero, List.set_cons_succ])
        refine wpAnyG_ready [10] (by kernel_rfl) (by simp) ?_
        refine AllG.cons rfl (fun K hK => ?_) AllG.nil
        refine step_catC rfl _ _ 26 rfl tVl _ 4 64 Tryz.underlying26 infoVlF rfl (by decide) (q + 1) (Nat.le_trans (show q + 1 ≤ wf.heap.size from hqlf) hqd) (by have := HQG.out; omega) _ n _ rfl HD.out ⟨wc.heap.size, 0, none⟩ 1 1 [.int .i64 (Fm.zero d ft).kind, .int .i64 (Fm.zero d ft).n, .slice xa xl xc, .slice ya yl yc] rfl rfl (World.news_of_block (cs := #[.int .i64 (Fm.zero d ft).kind, .int .i64 (Fm.zero d ft).n, .slice xa xl xc, .slice ya yl yc]) (t := tVl) (fr := (0, 0)) (heap_new wc _)) (by intro u hu; simp at hu; rcases hu with rfl | rfl | rfl | rfl <;> rfl) HNum.out.1 HNum.out.2.1 HNum.out.2.2.2 ?_
        intro gd cd we oe ue0 hbe
        have ue : Hid (Upd (fun k => (Value.slice va n vc).ownBlock = some k) wf we) := Nw.trans ud.out ue0
        refine hK.out _ _ (fun _ => HP.out _ ue.out) ?_
        clear hK K
        (try simp only [Act.put, List.setIfInBounds_toArray, List.set_cons_zero, List.set_cons_succ])
        refine wpAnyG_pure (i := 11) (v := ?_) rfl (by kernel_rfl) (by kernel_rfl) (by kernel_rfl) (by kernel_rfl) (by kernel_rfl) (fun _ _ _ h => h) (by kernel_rfl) ?_ (fun _ => HP.out _ ue.out) ?_
        rotate_left 1
        · (intro zz; go_simp; first | done | with_reducible rfl)
        (try simp only [Act.put, List.setIfInBounds_toArray, List.set_cons_zero, List.set_cons_succ])
        obtain ⟨_, _, _, _, -⟩ := HP.out _ ue.out
        refine wpAnyG_ready [12] (by kernel_rfl) (by simp) ?_
        refine AllG.cons rfl (fun K hK => ?_) AllG.nil
        go_simp
        refine hK.out _ _ (fun e => absurd (show true = false from e) (by decide)) ?_
        clear hK K
        (try simp only [Act.put, List.setIfInBounds_toArray, List.set_cons_zero, List.set_cons_succ])
        refine wpAnyG_done (by kernel_rfl) ?_ _
        have hsd : wf.drew.heap.size = wf.heap.size := rfl
        obtain ⟨hpush, hupd⟩ := VB.pushV HVBf.out uc.out ((HX.out.1).mono (fun k hk hp => (by have hp' : wf.heap.size ≤ k := hp; exact ⟨by omega, fun e => by have := (HVBf.out.on.lt k e).2; omega, fun e => by have := (HVBf.out.ov.lt k e).2; omega⟩))) (nw_alloc wc (.cells #[.int .i64 (Fm.zero d ft).kind, .int .i64 (Fm.zero d ft).n, .slice xa xl xc, .slice ya yl yc] tVl)) (by rw [HL.out.1]; exact oe) ue0 (fun k e => by
          have e' : gd = k := by simpa [Value.ownBlock] using e
          subst e'; exact hbe)
        have hbq1 := ue.out.keep HBQf.out (fun e => by have := (HVBf.out.ov.lt q e).1; omega)
        have hbq2 := setCell_block hbq1 3 (.slice (some ⟨gd, 0, none⟩) (n + 1) cd)
        have uS := Upd.set1 (Upd.refl _ we) HQG.out.1 3 (.slice (some ⟨gd, 0, none⟩) (n + 1) cd)
        have hp2 := hpush.upd uS (fun k hk _ e => by omega)
        have uA : Upd (fun k => k = q) W3 we := HUB.out.trans' hupd (fun k hk e => by
          have := (HVBf.out.ov.lt k e).1; have := HZ.out.2; omega)
        have uB := uA.trans' uS (fun k _ e => e)
        obtain ⟨wE, hE⟩ : ∃ wE, we.setCell ⟨q, 3, none⟩ (.slice (some ⟨gd, 0, none⟩) (n + 1) cd) = wE := ⟨_, rfl⟩
        rw [hE] at hbq2 hp2 uB
        have HE := Lib.hid hE
        have HREL : Hid (Hid (∃ nv vv C, wE.heap[q]? = some (.cells #[.int .i64 t.kind, .int .i64 0, nv, vv] tVl (0, 0)) ∧ VB (q + 1) wE nv vv ((t.fs.take (n + 1)).map (·.1)) C ∧ C.map VC.v = (t.fs.take (n + 1)).map (fun f => Fm.zero d f.2)) ∧ Hid (Upd (fun k => k = q) W3 wE)) := by
          refine ⟨⟨_, _, C ++ [⟨.slice xa xl xc, .slice ya yl yc, Fm.zero d ft⟩], hbq2, ?_, ?_⟩, uB⟩
          · exact (by rw [HST.out.1]; exact hp2)
          · rw [HST.out.2, List.map_append, HCV.out]; rfl
        clear hbq1 hbq2 uS hp2 uA uB hE hpush hupd
        go_wp2_with fail
        rw [HE.out]
        go_roundw
        case rel => exact ⟨n + 1, by omega, by go_num, HREL.out⟩
        case measure => simp [intOf]; omega
      · obtain rfl : n = t.fs.length := by omega
        have c0 : wr.cell? ⟨q, 0, none⟩ = some (.int .i64 t.kind) := by rw [cells_cell HBQ.out]; rfl
        have c1 : wr.cell? ⟨q, 1, none⟩ = some (.int .i64 0) := by rw [cells_cell HBQ.out]; rfl
        have c2 : wr.cell? ⟨q, 2, none⟩ = some (.slice na t.fs.length nc) := by rw [cells_cell HBQ.out]; rfl
        have c3 : wr.cell? ⟨q, 3, none⟩ = some (.slice va t.fs.length vc) := by rw [cells_cell HBQ.out]; rfl
        have hbr := U.out.keep HB23.out (fun e => by have := HZ.out.1; omega)
        have hbg : nG ≤ w.heap.size + 1 := by omega
        have uR := Upd.set1 (Upd.set1 (Upd.set1 (Upd.set1 (Upd.refl _ wr) hbg 0 (.int .i64 t.kind)) hbg 1 (.int .i64 0)) hbg 2 (.slice na t.fs.length nc)) hbg 3 (.slice va t.fs.length vc)
        have hbE := setCell_block (setCell_block (setCell_block (setCell_block hbr 0 (.int .i64 t.kind)) 1 (.int .i64 0)) 2 (.slice na t.fs.length nc)) 3 (.slice va t.fs.length vc)
        have hvE := HVB.out.upd uR (fun k hk _ e => by have := HZ.out.1; omega)
        have hnE : Nw w _ := HNW.out.trans' uR (fun k hk e => by omega)
        have d0 : wr.cell? ⟨w.heap.size + 1, 0, none⟩ = some (.int .i64 0) := by rw [cells_cell hbr]; rfl
        have d1 : wr.cell? ⟨w.heap.size + 1, 1, none⟩ = some (.int .i64 0) := by rw [cells_cell hbr]; rfl
        have d2 : wr.cell? ⟨w.heap.size + 1, 2, none⟩ = some (.slice none 0 0) := by rw [cells_cell hbr]; rfl
        have d3 : wr.cell? ⟨w.heap.size + 1, 3, none⟩ = some (.slice none 0 0) := by rw [cells_cell hbr]; rfl
        have f0 := cells_frozen hbr 0
        have f1 := cells_frozen hbr 1
        have f2 := cells_frozen hbr 2
        have f3 := cells_frozen hbr 3
        have HBE := Lib.hid hbE
        have HVE := Lib.hid hvE
        have HNE := Lib.hid hnE
        clear hbr uR hbE hvE hnE
        go_wp2_with fail
        refine bodyPost_ret (rzero_results _ _ ?_ HBE.out) ?_ ?_
        · rfl
        · rfl
        refine ⟨_, _, rfl, ?_, HNE.out⟩
        have hN : (t.fs.take t.fs.length).map (·.1) = t.fs.map (·.1) := by rw [List.take_length]
        have hV : C.map VC.v = t.fs.map (fun f => Fm.zero d f.2) := by have := HCV.out; rwa [List.take_length] at this
        have hd := HVE.out.done (k := t.kind) (n := 0) HK.out (by unfold I64; omega)
        rw [hN, hV] at hd
        exact hd.mono (fun k _ hk => by have := HZ.out.1; omega)
set_option maxHeartbeats 4000000 in
set_option maxRecDepth 100000 in
theorem rZero_r (fv : Value) (t : Ty) (w : World) (hgb : nG ≤ w.heap.size) (hr : rightTy 4 t = true) (ht : TyAt w fv t) :
    Calls Tryz.prog 56 #[.agg #[.int .i64 t.kind, fv]] w fun e w' => ∃ nv vv, e = .returned (.agg #[.int .i64 (Fm.zero 4 t).kind, .int .i64 (Fm.zero 4 t).n, nv, vv]) ∧ Hid (VlAt (fun k => w.heap.size ≤ k) w' nv vv (Fm.zero 4 t) ∧ Nw w w') := by
  obtain ⟨fa, fc, rfl, -, -⟩ := ht.cells
  have n1 := nw_alloc w (.cells #[.int .i64 t.kind, .slice fa t.fs.length fc] tTy)
  have n2 := nw_alloc (w.alloc (.cells #[.int .i64 t.kind, .slice fa t.fs.length fc] tTy)) (.cells #[.int .i64 0, .int .i64 0, .slice none 0 0, .slice none 0 0] tVl)
  have b1 := n2.keep (heap_new w (.cells #[.int .i64 t.kind, .slice fa t.fs.length fc] tTy))
  have b2 := heap_new (w.alloc (.cells #[.int .i64 t.kind, .slice fa t.fs.length fc] tTy)) (.cells #[.int .i64 0, .int .i64 0, .slice none 0 0, .slice none 0 0] tVl)
  rw [World.size_alloc] at b2
  have hN := n1.trans n2
  obtain ⟨W, hW⟩ : ∃ W, W = (w.alloc (.cells #[.int .i64 t.kind, .slice fa t.fs.length fc] tTy)).alloc (.cells #[.int .i64 0, .int .i64 0, .slice none 0 0, .slice none 0 0] tVl) := ⟨_, rfl⟩
  rw [← hW] at hN b1 b2
  have hr1 := tyRight_r _ t W (Nat.le_trans hgb hN.size) (ht.nw hN)
  rw [hr] at hr1
  have HR := Lib.hid hr1
  have HN := Lib.hid hN
  have HW := Lib.hid hW
  have HC : Hid (∀ y, Nw W y → y.cell? ⟨w.heap.size, 0, none⟩ = some (.int .i64 t.kind) ∧ y.cell? ⟨w.heap.size, 1, none⟩ = some (.slice fa t.fs.length fc)) := fun y u => ⟨by rw [cells_cell (Nw.keep u b1)]; rfl, by rw [cells_cell (Nw.keep u b1)]; rfl⟩
  have HB2 := Lib.hid b2
  have HT := Lib.hid (ht.nw hN)
  have HG := Lib.hid (Nat.le_trans hgb hN.size)
  obtain ⟨c0, c1⟩ := HC.out W (Upd.refl _ _)
  clear n1 n2 b1 b2 hN hW ht hr1
  go_enter Tryz.func56, Tryz.ntmps56
  go_upto_region 1 with fail
  rw [← HW.out]
  clear HW
  go_wp2_with fail
  (with_reducible refine (HR.out).mono ?_)
  rintro _ w2 ⟨rfl, u2⟩
  have hz := Lib.hid (rzero_r 4 (Nat.le_refl _) t _ w2 (Nat.le_trans HG.out u2.size) hr (HT.out.nw u2))
  clear c0 c1
  obtain ⟨c0, c1⟩ := HC.out w2 u2
  have U2 := Lib.hid u2
  clear u2 HR
  go_wp2_with fail
  (with_reducible refine (hz.out).mono ?_)
  rintro _ w3 ⟨nv, vv, rfl, hv, u3⟩
  obtain ⟨xa, xc, hxn, -⟩ := hv.names
  obtain ⟨ya, yc, hxv, -⟩ := hv.vals
  subst hxn hxv
  have hb3 := Nw.keep (U2.out.trans u3) HB2.out
  obtain ⟨d0, d1, d2, d3⟩ := cell4F hb3
  obtain ⟨f0, f1, f2, f3⟩ := froz4F hb3
  have hbg : nG ≤ w.heap.size + 1 := by omega
  have uR := Upd.set1 (Upd.set1 (Upd.set1 (Upd.set1 (Upd.refl _ w3) hbg 0 (.int .i64 (Fm.zero 4 t).kind)) hbg 1 (.int .i64 (Fm.zero 4 t).n)) hbg 2 (.slice xa (Fm.zero 4 t).names.length xc)) hbg 3 (.slice ya (Fm.zero 4 t).vals.length yc)
  have hbE := Lib.hid (setCell_block (setCell_block (setCell_block (setCell_block hb3 0 (.int .i64 (Fm.zero 4 t).kind)) 1 (.int .i64 (Fm.zero 4 t).n)) 2 (.slice xa (Fm.zero 4 t).names.length xc)) 3 (.slice ya (Fm.zero 4 t).vals.length yc))
  have hsz : w.heap.size + 2 ≤ w2.heap.size := by have := lt_of_block (Nw.keep U2.out HB2.out); omega
  have HVE := Lib.hid ((hv.mono (Q := fun k => w.heap.size ≤ k ∧ k ≠ w.heap.size + 1) (fun k hk hp => by have hp' : w2.heap.size ≤ k := hp; exact ⟨by omega, by omega⟩)).upd uR (fun k p e => p.2 e))
  have HNE : Hid (Nw w _) := (HN.out.trans (U2.out.trans u3)).trans' uR (fun k hk e => by omega)
  clear hb3 uR hv u3 hz
  go_wp2_with fail
  refine bodyPost_ret (rZero_results _ _ ?_ hbE.out) ?_ ?_
  · rfl
  · rfl
  exact ⟨_, _, rfl, HVE.out.mono (fun k _ p => p.1), HNE.out⟩
end Go.Proofs.YthagiklfmkdmaaaGreatDoor
