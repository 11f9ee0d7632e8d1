/- For format.read of a record. format.read of a type of the kind 2. format.read; format.Write and format.Read. format.Reads, Witness, Both. format.Witness, Both. state.Text of the one value {x=0}; strings.Join of one. ladinglaw43.small. ladinglaw43: parts, typed, values: numbers, whichever. ladinglaw43: exact, agrees, where they hold. ladinglaw43.agrees, where it holds. The walk of FormatBack. The walk of FormatChains. A range over a function whose iterator writes a block of its own (bt) and reads others (S) between two rounds: its contract, and the statement's law, at the wide fence. types.lookup: slices.Backward over fields. As RFn's law, the assignment of the round's variables making memory: 'for _, f := range seq' where f is boxed. -/
import Derived.Test.YtcelfjoopagmlaaGreatDoorPkFKReads1
import Derived.Test.YtcelfjoopagmlaaGreatDoorPkFKReads2
import Derived.Test.YtcelfjoopagmlaaGreatDoorPkFKReads3
import Derived.Test.YtcelfjoopagmlaaGreatDoorPkFKReads0
import Derived.RangeFuncKeeps
import Derived.LoopIn
import Derived.LoopNIn
import Derived.TacticsInMore
import Derived.OwnWalkIn
import Derived.WalkKit
import Derived.Shelf.RegionOpen
import Derived.Shelf.Abstract
import Derived.RangeFuncLeaves
import Derived.RangeFuncCalls
import Derived.RangeFuncBound
import Derived.RangeFuncNested
namespace Go.Proofs.YtcelfjoopagmlaaGreatDoor
open Go.RowKit Go.MapKept
set_option linter.unusedVariables false
set_option linter.unusedSimpArgs false
attribute [local irreducible] Calls
open Fm (Ty Vl Str nameB rightTy rightVl)

theorem vb_push2 {B m : Nat} {y wa wb wd we : World} {nv vv nv' vv' xn xv : Value} {N : List Str} {C : List VC} {s : Str} {v : Vl} (h : VB B y nv vv N C) (hs : s.length ≤ maxLen) (hm : ∀ k, nv.ownBlock = some k ∨ vv.ownBlock = some k → k < m) (hBm : B ≤ m) (hmy : m ≤ y.heap.size)
    (hx : VlAt (fun k => m ≤ k) y xn xv v) (u0 : Nw y wa) (o1 : wb.ownsRow B 9 1 nv' (N.length + 1) (N.map sF ++ [sF s])) (ua : Upd (fun k => nv.ownBlock = some k) wa wb) (hb1 : ∀ k, nv'.ownBlock = some k → nv.ownBlock = some k ∨ wa.heap.size ≤ k)
    (u2 : Nw wb wd) (o2 : we.ownsRow B tVl 4 vv' (C.length + 1) ((C.map vcL).flatten ++ vcL ⟨xn, xv, v⟩)) (ue : Upd (fun k => vv.ownBlock = some k) wd we) (hb2 : ∀ k, vv'.ownBlock = some k → vv.ownBlock = some k ∨ wd.heap.size ≤ k) :
    VB B we nv' vv' (N ++ [s]) (C ++ [⟨xn, xv, v⟩]) ∧ Upd (fun k => nv.ownBlock = some k ∨ vv.ownBlock = some k) y we := by
  have z0 := u0.size
  refine VB.push h hs (Nat.le_trans hBm hmy) u0 o1 ua hb1 (Upd.refl _ _) ?_ u2 o2 ue hb2
  have h1 : VlAt (fun k => m ≤ k ∧ k < wa.heap.size) wa xn xv v := (hx.nw u0).mono (fun k hk hp => ⟨hp, hk⟩)
  refine (h1.upd ua (fun k hp e => by have := hm k (Or.inl e); omega)).mono (fun k hk hp => ⟨by omega, fun e => ?_, fun e => by have := hm k (Or.inr e); omega⟩)
  rcases hb1 k e with e2 | e2
  · have := hm k (Or.inl e2); omega
  · omega
/-- Not all fields are there. -/
theorem all_no {d : Nat} {l : List (Str × Str)} {L : List (Str × Ty)} {f : Str × Ty} (hf : f ∈ L) (h : ((Fm.getE l f.1).isSome && (oneR d l f).isSome) = false) : ¬ (L.all (fun f => (Fm.getE l f.1).isSome && (oneR d l f).isSome) = true) := fun e => by
  rw [List.all_eq_true] at e
  rw [e f hf] at h
  cases h
end Go.Proofs.YtcelfjoopagmlaaGreatDoor
namespace Go.Proofs.YtcelfjoopagmlaaGreatDoor
open Go.RowKit Go.MapKept
set_option linter.unusedVariables false
set_option linter.unusedSimpArgs false
attribute [local irreducible] Calls
open Fm (Ty Vl Str nameB rightTy rightVl)
set_option maxHeartbeats 16000000 in
set_option maxRecDepth 100000 in
theorem fmread_k2 (d : Nat) (hd : d + 1 ≤ 4) (IH : Hid (∀ (t : Ty) (fv : Value) (s : Str) (w : World), Gm w → rightTy d t = true → TyAt w fv t → s.length ≤ 1000000 →
    Calls Tryz.prog 35 #[.agg #[.int .i64 t.kind, fv], .string ⟨s.toArray⟩] w (RdPost d t s w))) (t : Ty) (hk : t.kind = 2) (fv : Value) (s : Str) (w : World) (g : Gm w) (hr : rightTy (d + 1) t = true) (ht : TyAt w fv t) (hs : s.length ≤ 1000000) :
    Calls Tryz.prog 35 #[.agg #[.int .i64 t.kind, fv], .string ⟨s.toArray⟩] w (RdPost (d + 1) t s w) := by
    have HKK := Lib.hid hk
    clear hk
    have RT := Lib.hid (Fm.rt_iff.1 hr)
    have HOK := Lib.hid (fun v (hv : Fm.readF (d + 1) t s = some v) => (Fm.read_ok hr hv).2.2.1)
    have hgb := g.g.big
    obtain ⟨fa, fc, rfl, hfl, hfc⟩ := ht.cells
    have HFC : Hid (FdC w fa t.fs) := hfc
    have hk := ht.kind
    have n1 := nw_alloc w (.cells #[.int .i64 t.kind, .slice fa t.fs.length fc] tTy)
    have n2 := nw_alloc (w.alloc (.cells #[.int .i64 t.kind, .slice fa t.fs.length fc] tTy)) (.cells #[.int .i64 0, .int .i64 0, .slice none 0 0, .slice none 0 0] tVl)
    have b1 := n2.keep (heap_new w (.cells #[.int .i64 t.kind, .slice fa t.fs.length fc] tTy))
    have b2 := heap_new (w.alloc (.cells #[.int .i64 t.kind, .slice fa t.fs.length fc] tTy)) (.cells #[.int .i64 0, .int .i64 0, .slice none 0 0, .slice none 0 0] tVl)
    rw [World.size_alloc] at b2
    have hN := n1.trans n2
    obtain ⟨W, hW⟩ : ∃ W, W = (w.alloc (.cells #[.int .i64 t.kind, .slice fa t.fs.length fc] tTy)).alloc (.cells #[.int .i64 0, .int .i64 0, .slice none 0 0, .slice none 0 0] tVl) := ⟨_, rfl⟩
    have hWs : W.heap.size = w.heap.size + 2 := by rw [hW]; simp
    rw [← hW] at hN b1 b2
    have HN := Lib.hid hN
    have HW := Lib.hid hW
    have HB1 := Lib.hid b1
    have HB2 := Lib.hid b2
    have HWs := Lib.hid hWs
    have HG := Lib.hid (g.upd hN)
    have HGw := Lib.hid g
    have hfl1 : (t.fs.length : Int) ≤ 8 := by have := RT.out.len; omega
    have HK := Lib.hid hk
    have HSL := Lib.hid hs
    have HOPEN : Hid (∀ y, Nw W y → Calls Tryz.prog 57 #[.string ⟨s.toArray⟩] y fun e w' => ∃ b, e = .returned (.pointer (some ⟨b, 0, none⟩)) ∧ y.heap.size ≤ b ∧ Rdr tR w' b (some s) ∧ Nw y w') := fun y u => Open_r _ s (bs_list _) y (HG.out.upd u).g
    have HQ : Hid (∀ y, Nw W y → y.cell? ⟨w.heap.size, 0, none⟩ = some (.int .i64 t.kind) ∧ True ∧ True ∧ True ∧ True) := fun y u => ⟨by rw [cells_cell (Nw.keep u HB1.out)]; rfl, trivial, trivial, trivial, trivial⟩
    clear hr hfc n1 n2 b1 b2 hN hW hfl hk ht hs g hWs
    go_enter Tryz.func35, Tryz.ntmps35
    go_upto_region 1 with fail
    rw [← HW.out]
    clear HW
    go_cut [6, 7] from 17 to 21 (fun a6 a7 wx => ∃ rb q, a6 = .pointer (some ⟨rb, 0, none⟩) ∧ a7 = .pointer (some ⟨q, 0, none⟩) ∧ Hid (Rd1 W wx s t.kind rb q))
    case first =>
      have HS0 := Lib.hid (HQ.out _ (Upd.refl _ W).drew)
      refine wp_region_G (fun y => y.cell? ⟨w.heap.size, 0, none⟩ = some (.int .i64 t.kind) ∧ True ∧ True ∧ True ∧ True) 7 (by kernel_rfl) ?_
      refine wpAnyG_pure (i := 0) (v := ?_) rfl (by kernel_rfl) (by kernel_rfl) (by kernel_rfl) (by kernel_rfl) (by kernel_rfl) (fun _ _ _ h => h) (by kernel_rfl) ?_ (fun _ => HS0.out) ?_
      rotate_left 1
      · (intro zz; go_simp; first | done | with_reducible rfl)
      (try simp only [Act.put, List.setIfInBounds_toArray, List.set_cons_zero, List.set_cons_succ])
      refine wpAnyG_pure (i := 2) (v := ?_) rfl (by kernel_rfl) (by kernel_rfl) (by kernel_rfl) (by kernel_rfl) (by kernel_rfl) (fun _ _ _ h => h) (by kernel_rfl) ?_ (fun _ => HS0.out) ?_
      rotate_left 1
      · (intro zz; go_simp; first | done | with_reducible rfl)
      (try simp only [Act.put, List.setIfInBounds_toArray, List.set_cons_zero, List.set_cons_succ])
      refine wpAnyG_load (i := 3) (v := ?_) [4] rfl (by kernel_rfl) (by kernel_rfl) (by kernel_rfl) (by kernel_rfl) (by kernel_rfl) (by kernel_rfl) (fun _ _ _ h => h) (by kernel_rfl) ?_ (fun _ => HS0.out) ?_
      rotate_left 1
      · (intro zz hS; obtain ⟨_, _, _, _, _⟩ := hS; go_simp; first | done | with_reducible rfl)
      (try simp only [Act.put, List.setIfInBounds_toArray, List.set_cons_zero, List.set_cons_succ])
      refine wpAnyG_pure (i := 4) (v := ?_) rfl (by kernel_rfl) (by kernel_rfl) (by kernel_rfl) (by kernel_rfl) (by kernel_rfl) (fun _ _ _ h => h) (by kernel_rfl) ?_ (fun _ => HS0.out) ?_
      rotate_left 1
      · (intro zz; go_simp; first | done | with_reducible rfl)
      (try simp only [Act.put, List.setIfInBounds_toArray, List.set_cons_zero, List.set_cons_succ])
      refine wpAnyG_ready [1, 5] (by kernel_rfl) (by simp) ?_
      refine AllG.cons rfl (fun K hK => ?_) (AllG.cons rfl (fun K hK => ?_) AllG.nil)
      · have hd0 : Nw W W.drew := (Upd.refl _ W).drew
        have hCC := HOPEN.out W.drew hd0
        go_simp
        (with_reducible refine (hCC).mono ?_)
        rintro _ w1 ⟨rb, rfl, hrb, hrd, u1⟩
        clear hCC
        have HU1 := Lib.hid (Nw.trans hd0 u1)
        refine hK.out _ _ (fun _ => HQ.out _ HU1.out) ?_
        clear hK K
        (try simp only [Act.put, List.setIfInBounds_toArray, List.set_cons_zero, List.set_cons_succ])
        refine wpAnyG_ready [5] (by kernel_rfl) (by simp) ?_
        refine AllG.cons rfl (fun K hK => ?_) AllG.nil
        have n3 := nw_alloc w1 (.cells #[.int .i64 0, .int .i64 0, .slice none 0 0, .slice none 0 0] tVl)
        have b3 := heap_new w1 (.cells #[.int .i64 0, .int .i64 0, .slice none 0 0, .slice none 0 0] tVl)
        obtain ⟨w2, hw2⟩ : ∃ y, y = w1.alloc (.cells #[.int .i64 0, .int .i64 0, .slice none 0 0, .slice none 0 0] tVl) := ⟨_, rfl⟩
        rw [← hw2] at n3 b3
        have HW2 := Lib.hid hw2
        go_simp
        rw [← HW2.out]
        refine hK.out _ _ (fun _ => HQ.out _ (HU1.out.trans n3)) ?_
        clear hK K
        (try simp only [Act.put, List.setIfInBounds_toArray, List.set_cons_zero, List.set_cons_succ])
        obtain ⟨q0, hq0⟩ : ∃ q, q = w1.heap.size := ⟨_, rfl⟩
        rw [← hq0] at b3
        have HQB := Lib.hid b3
        have HUA := Lib.hid (HU1.out.trans n3)
        have HRB := Lib.hid (hrd.nw n3)
        have HNE : Hid (rb ≠ q0) := by have := hrd.lt; show _ ≠ _; omega
        have HLA : Hid (W.heap.size ≤ rb ∧ W.heap.size ≤ q0) := by
          have := HU1.out.size
          have h2 : W.drew.heap.size = W.heap.size := rfl
          exact ⟨by omega, by omega⟩
        rw [← hq0]
        clear hq0 b3 n3 hrd hw2 u1 hrb
        -- behind the call and the alloc: the world w2, the reader's block rb, the value's block q0 (HQB: its cells at w2; HUA: the step from W; HRB: the reader at w2; HNE: rb ≠ q0; HLA: both are new)
        have c0 : (w2).cell? ⟨q0, 0, none⟩ = some (.int .i64 0) := by rw [cells_cell HQB.out]; rfl
        have c1 : (w2).cell? ⟨q0, 1, none⟩ = some (.int .i64 0) := by rw [cells_cell HQB.out]; rfl
        have c2 : (w2).cell? ⟨q0, 2, none⟩ = some (.slice none 0 0) := by rw [cells_cell HQB.out]; rfl
        have c3 : (w2).cell? ⟨q0, 3, none⟩ = some (.slice none 0 0) := by rw [cells_cell HQB.out]; rfl
        have f0 := cells_frozen HQB.out 0
        have f1 := cells_frozen HQB.out 1
        have f2 := cells_frozen HQB.out 2
        have f3 := cells_frozen HQB.out 3
        refine wpAnyG_ready [6] (by kernel_rfl) (by simp) ?_
        refine AllG.cons rfl (fun K hK => ?_) AllG.nil
        go_simp
        refine hK.out _ _ (fun _ => HQ.out _ HUA.out) ?_
        clear hK K
        (try simp only [Act.put, List.setIfInBounds_toArray, List.set_cons_zero, List.set_cons_succ])
        refine wpAnyG_ready [7] (by kernel_rfl) (by simp) ?_
        refine AllG.cons rfl (fun K hK => ?_) AllG.nil
        go_simp
        refine hK.out _ _ (fun e => absurd (show true = false from e) (by decide)) ?_
        clear hK K
        (try simp only [Act.put, List.setIfInBounds_toArray, List.set_cons_zero, List.set_cons_succ])
        refine wpAnyG_done (by kernel_rfl) ?_ _
        go_wp2_with fail
        go_meet
        have hb9 := setCell_block (setCell_block (setCell_block (setCell_block HQB.out 0 (.int .i64 t.kind)) 1 (.int .i64 0)) 2 (.slice none 0 0)) 3 (.slice none 0 0)
        have hqg : nG ≤ q0 := by have := HLA.out.2; have := HWs.out; omega
        have hu9 := Upd.set1 (Upd.set1 (Upd.set1 (Upd.set1 (Upd.refl _ (w2)) hqg 0 (.int .i64 t.kind)) hqg 1 (.int .i64 0)) hqg 2 (.slice none 0 0)) hqg 3 (.slice none 0 0)
        exact ⟨rb, q0, rfl, rfl, HRB.out.upd hu9 HNE.out, hb9, HNE.out, HUA.out.trans' hu9 (fun k hk e => by have := HLA.out.2; omega), HLA.out.1, HLA.out.2⟩
      · have n3 := (nw_alloc W (.cells #[.int .i64 0, .int .i64 0, .slice none 0 0, .slice none 0 0] tVl)).drew
        have b3 := Nw.keep (Upd.refl (fun _ => False) _).drew (heap_new W (.cells #[.int .i64 0, .int .i64 0, .slice none 0 0, .slice none 0 0] tVl))
        obtain ⟨w2, hw2⟩ : ∃ y, y = (W.alloc (.cells #[.int .i64 0, .int .i64 0, .slice none 0 0, .slice none 0 0] tVl)).drew := ⟨_, rfl⟩
        rw [← hw2] at n3 b3
        have HW2 := Lib.hid hw2
        have HU1 := Lib.hid n3
        have hsz : w2.heap.size = W.heap.size + 1 := by rw [hw2]; exact World.size_alloc _ _
        clear hw2
        go_simp
        rw [← HW2.out]
        refine hK.out _ _ (fun _ => HQ.out _ HU1.out) ?_
        clear hK K
        (try simp only [Act.put, List.setIfInBounds_toArray, List.set_cons_zero, List.set_cons_succ])
        refine wpAnyG_ready [1] (by kernel_rfl) (by simp) ?_
        refine AllG.cons rfl (fun K hK => ?_) AllG.nil
        have hCC := HOPEN.out w2 HU1.out
        go_simp
        (with_reducible refine (hCC).mono ?_)
        rintro _ w4 ⟨rb, rfl, hrb, hrd, u4⟩
        clear hCC
        obtain ⟨q0, hq0⟩ : ∃ q, q = W.heap.size := ⟨_, rfl⟩
        have HUA := Lib.hid (HU1.out.trans u4)
        refine hK.out _ _ (fun _ => HQ.out _ HUA.out) ?_
        clear hK K
        (try simp only [Act.put, List.setIfInBounds_toArray, List.set_cons_zero, List.set_cons_succ])
        have b4 := Nw.keep u4 b3
        rw [← hq0] at b4
        have HQB := Lib.hid b4
        have HRB := Lib.hid hrd
        have HNE : Hid (rb ≠ q0) := by show _ ≠ _; omega
        have HLA : Hid (W.heap.size ≤ rb ∧ W.heap.size ≤ q0) := ⟨by omega, by omega⟩
        rw [← hq0]
        clear hq0 b3 n3 hrd u4 hrb b4 hsz
        -- behind the call and the alloc: the world w4, the reader's block rb, the value's block q0 (HQB: its cells at w4; HUA: the step from W; HRB: the reader at w4; HNE: rb ≠ q0; HLA: both are new)
        have c0 : (w4).cell? ⟨q0, 0, none⟩ = some (.int .i64 0) := by rw [cells_cell HQB.out]; rfl
        have c1 : (w4).cell? ⟨q0, 1, none⟩ = some (.int .i64 0) := by rw [cells_cell HQB.out]; rfl
        have c2 : (w4).cell? ⟨q0, 2, none⟩ = some (.slice none 0 0) := by rw [cells_cell HQB.out]; rfl
        have c3 : (w4).cell? ⟨q0, 3, none⟩ = some (.slice none 0 0) := by rw [cells_cell HQB.out]; rfl
        have f0 := cells_frozen HQB.out 0
        have f1 := cells_frozen HQB.out 1
        have f2 := cells_frozen HQB.out 2
        have f3 := cells_frozen HQB.out 3
        refine wpAnyG_ready [6] (by kernel_rfl) (by simp) ?_
        refine AllG.cons rfl (fun K hK => ?_) AllG.nil
        go_simp
        refine hK.out _ _ (fun _ => HQ.out _ HUA.out) ?_
        clear hK K
        (try simp only [Act.put, List.setIfInBounds_toArray, List.set_cons_zero, List.set_cons_succ])
        refine wpAnyG_ready [7] (by kernel_rfl) (by simp) ?_
        refine AllG.cons rfl (fun K hK => ?_) AllG.nil
        go_simp
        refine hK.out _ _ (fun e => absurd (show true = false from e) (by decide)) ?_
        clear hK K
        (try simp only [Act.put, List.setIfInBounds_toArray, List.set_cons_zero, List.set_cons_succ])
        refine wpAnyG_done (by kernel_rfl) ?_ _
        go_wp2_with fail
        go_meet
        have hb9 := setCell_block (setCell_block (setCell_block (setCell_block HQB.out 0 (.int .i64 t.kind)) 1 (.int .i64 0)) 2 (.slice none 0 0)) 3 (.slice none 0 0)
        have hqg : nG ≤ q0 := by have := HLA.out.2; have := HWs.out; omega
        have hu9 := Upd.set1 (Upd.set1 (Upd.set1 (Upd.set1 (Upd.refl _ (w4)) hqg 0 (.int .i64 t.kind)) hqg 1 (.int .i64 0)) hqg 2 (.slice none 0 0)) hqg 3 (.slice none 0 0)
        exact ⟨rb, q0, rfl, rfl, HRB.out.upd hu9 HNE.out, hb9, HNE.out, HUA.out.trans' hu9 (fun k hk e => by have := HLA.out.2; omega), HLA.out.1, HLA.out.2⟩
    case rest =>
      obtain ⟨rb, q, rfl, rfl, HR1⟩ := hcut
      have HGB : Hid (nG ≤ w.heap.size) := hgb
      have HRB0 : Hid (rb ≠ w.heap.size + 1 ∧ q ≠ w.heap.size + 1 ∧ rb ≠ q ∧ rb ≠ w.heap.size ∧ q ≠ w.heap.size ∧ nG ≤ q ∧ w.heap.size + 2 ≤ q ∧ w.heap.size + 2 ≤ rb) := by
        have h1 := HR1.out.lr
        have h2 := HR1.out.lq
        have h3 := HWs.out
        exact ⟨by omega, by omega, HR1.out.ne, by omega, by omega, by omega, by omega, by omega⟩
      -- what stands while only the reader and the value change
      have HST : Hid (∀ y, Upd (fun k => k = rb ∨ k = q) wc y → y.cell? ⟨w.heap.size, 0, none⟩ = some (.int .i64 t.kind) ∧ y.cell? ⟨w.heap.size, 1, none⟩ = some (.slice fa t.fs.length fc) ∧ y.heap[w.heap.size + 1]? = some (.cells #[.int .i64 0, .int .i64 0, .slice none 0 0, .slice none 0 0] tVl (0, 0)) ∧ Nw w y ∧ y.heap[w.heap.size]? = some (.cells #[.int .i64 t.kind, .slice fa t.fs.length fc] tTy (0, 0))) := fun y u => by
        have hh := HRB0.out
        have k1 := u.keep (Nw.keep HR1.out.upd HB1.out) (fun e => by omega)
        have k2 := u.keep (Nw.keep HR1.out.upd HB2.out) (fun e => by omega)
        exact ⟨by rw [cells_cell k1]; rfl, by rw [cells_cell k1]; rfl, k2, (HN.out.trans HR1.out.upd).trans' u (fun k hk e => by omega), k1⟩
      have HGc := Lib.hid (HG.out.upd HR1.out.upd)
      have hnum := Lib.hid (Num_r rb (some s) wc HGc.out.g HR1.out.rdr (by have := HSL.out; show s.length ≤ _; omega))
      have hle := Lib.hid (Nat.le_trans (Wire.rNumber_le (some s) 59 0) HSL.out)
      have HB9 := Lib.hid (readF_bad (d := d) (t := t) (s := s))
      have HZ9 := Lib.hid (readF_zero (d := d) (t := t) (s := s))
      have HO9 := Lib.hid (readF_one (d := d) (t := t) (s := s))
      have HT9 := Lib.hid (fun h1 h2 h0 l hl => readF_two (d := d) (t := t) (s := s) h1 h2 h0 (l := l) hl)
      have HT8 := Lib.hid (readF_two_none (d := d) (t := t) (s := s))
      have HQB := Lib.hid HR1.out.box
      have hle' : Hid (((Wire.rNum (some s)).2.getD []).length ≤ 1000000) := hle.out
      clear hle HB1 HB2 HN HG HWs hgb HOPEN HQ
      generalize Wire.rNum (some s) = KK at *
      obtain ⟨k0, s1⟩ := KK
      dsimp only at *
      go_wp2_with fail
      (with_reducible refine (hnum.out).mono ?_)
      rintro _ w2 ⟨rfl, hr2, u2⟩
      have hf2 := Lib.hid (failed_c rb s1 w2 hr2)
      have HU2 : Hid (Upd (fun k => k = rb ∨ k = q) wc w2) := u2.mono (fun k _ e => Or.inl e)
      have HX2 : Hid (w2.heap[q]? = some (.cells #[.int .i64 t.kind, .int .i64 0, .slice none 0 0, .slice none 0 0] tVl (0, 0))) := u2.keep HQB.out (fun e => HRB0.out.2.2.1 e.symm)
      have HR2 := Lib.hid hr2
      obtain ⟨m0, m1, m2, m3, m4⟩ := HST.out w2 HU2.out
      have HR9 := Lib.hid m2
      have HU9 := Lib.hid m3
      have HX := Lib.hid HX2.out
      clear hnum hr2 u2 HQB m2 m3 m4
      cases hn : s1.isNone with
      | true =>
        rw [hn] at hf2
        have e9 := HB9.out (Or.inl hn)
        have HV : Hid (∀ v, Fm.readF (d + 1) t s = some v → t.kind = v.kind ∧ (0 : Int) = v.n ∧ VlAt (fun j => w.heap.size + 2 ≤ j) w2 (.slice none 0 0) (.slice none 0 0) v) := fun v hv => by rw [e9] at hv; cases hv
        go_wp2_with fail
        (with_reducible refine (hf2.out).mono ?_)
        rintro _ _ ⟨rfl, rfl⟩
        -- the way out: the world w2, the answer's flag false is that of e9 ; HX: the value's cells, HR9: the result's cells, HU9: the step from w, HV: what is read
        obtain ⟨x0, x1, x2, x3⟩ := cell4F HX.out
        obtain ⟨d0, d1, d2, d3⟩ := cell4F HR9.out
        obtain ⟨f0, f1, f2, f3⟩ := froz4F HR9.out
        have hz := rd_exit HGB.out rfl HR9.out HU9.out _ _ _ _ HV.out
        go_wp2_with fail
        obtain ⟨hz1, hz2⟩ := hz
        refine bodyPost_ret (rd_results (b := false) _ _ ?_ ?_ hz1) ?_ ?_
        · rfl
        · rfl
        · rfl
        exact ⟨_, _, _, _, _, _, _, _, by rw [(e9)]; rfl, hz2⟩
      | false =>
      rw [hn] at hf2
      by_cases hk0 : k0 = t.kind
      rotate_left
      · have e9 := HB9.out (Or.inr hk0)
        have b0 : (k0 == t.kind) = false := by simp [hk0]
        have HV : Hid (∀ v, Fm.readF (d + 1) t s = some v → t.kind = v.kind ∧ (0 : Int) = v.n ∧ VlAt (fun j => w.heap.size + 2 ≤ j) w2 (.slice none 0 0) (.slice none 0 0) v) := fun v hv => by rw [e9] at hv; cases hv
        go_wp2_with fail
        (with_reducible refine (hf2.out).mono ?_)
        rintro _ _ ⟨rfl, rfl⟩
        -- the way out: the world w2, the answer's flag false is that of e9 ; HX: the value's cells, HR9: the result's cells, HU9: the step from w, HV: what is read
        obtain ⟨x0, x1, x2, x3⟩ := cell4F HX.out
        obtain ⟨d0, d1, d2, d3⟩ := cell4F HR9.out
        obtain ⟨f0, f1, f2, f3⟩ := froz4F HR9.out
        have hz := rd_exit HGB.out rfl HR9.out HU9.out _ _ _ _ HV.out
        go_wp2_with fail
        obtain ⟨hz1, hz2⟩ := hz
        refine bodyPost_ret (rd_results (b := false) _ _ ?_ ?_ hz1) ?_ ?_
        · rfl
        · rfl
        · rfl
        exact ⟨_, _, _, _, _, _, _, _, by rw [(e9)]; rfl, hz2⟩
      subst hk0
      have b0 : (t.kind == t.kind) = true := by simp
      have hk := HKK.out
      have e2 : (t.kind == 2) = true := by simp [hk]
      have hent := Lib.hid (entries_fm rb s1 w2 (HGc.out.g.upd HU2.out) HR2.out (by have := hle'.out; omega))
      have HT := Lib.hid (fun l hl => HT9.out hn rfl hk l hl)
      have HTn := Lib.hid (fun hl => HT8.out hn rfl hk hl)
      have HEL : Hid (∀ l, Fm.entG [] s1 = some l → ∀ x, ((Fm.getE l x).getD []).length ≤ 1000000) := fun l hl x => Nat.le_trans (getE_len hl x) hle'.out
      clear hk HZ9 HO9 HT9 HT8 HB9
      generalize Fm.entG [] s1 = EG at *
      go_wp2_with fail
      (with_reducible refine (hf2.out).mono ?_)
      rintro _ _ ⟨rfl, rfl⟩
      clear hf2
      go_wp2_with fail
      (with_reducible refine (hent.out).mono ?_)
      rintro _ w3 ⟨mv, rfl, hm, ⟨s4, hr4⟩, u3⟩
      clear hent
      have HU3 : Hid (Upd (fun k => k = rb ∨ k = q) wc w3) := HU2.out.trans' u3 (fun k _ e => Or.inl e)
      have HX3 : Hid (w3.heap[q]? = some (.cells #[.int .i64 t.kind, .int .i64 0, .slice none 0 0, .slice none 0 0] tVl (0, 0))) := u3.keep HX.out (fun e => HRB0.out.2.2.1 e.symm)
      have HW2S := Lib.hid HU2.out.size
      clear HX HR9 HU9 m0 m1
      obtain ⟨m0, m1, m2, m3, m4⟩ := HST.out w3 HU3.out
      have HR9 := Lib.hid m2
      have HU9 := Lib.hid m3
      have HX := Lib.hid HX3.out
      have HU3W := Lib.hid u3
      clear m2 m3 m4 u3
      cases EG with
      | none =>
        have e9 := HTn.out rfl
        have HV : Hid (∀ v, Fm.readF (d + 1) t s = some v → t.kind = v.kind ∧ (0 : Int) = v.n ∧ VlAt (fun j => w.heap.size + 2 ≤ j) w3 (.slice none 0 0) (.slice none 0 0) v) := fun v hv => by rw [e9] at hv; cases hv
        clear hm hr4
        -- the way out: the world w3, the answer's flag false is that of e9 ; HX: the value's cells, HR9: the result's cells, HU9: the step from w, HV: what is read
        obtain ⟨x0, x1, x2, x3⟩ := cell4F HX.out
        obtain ⟨d0, d1, d2, d3⟩ := cell4F HR9.out
        obtain ⟨f0, f1, f2, f3⟩ := froz4F HR9.out
        have hz := rd_exit HGB.out rfl HR9.out HU9.out _ _ _ _ HV.out
        go_wp2_with fail
        obtain ⟨hz1, hz2⟩ := hz
        refine bodyPost_ret (rd_results (b := false) _ _ ?_ ?_ hz1) ?_ ?_
        · rfl
        · rfl
        · rfl
        exact ⟨_, _, _, _, _, _, _, _, by rw [(e9)]; rfl, hz2⟩
      | some l =>
      obtain ⟨mb, rfl, hmb1, hmp⟩ := hm l rfl
      have HMP := Lib.hid hmp
      have hq3 := lt_of_block HX.out
      have hmb2 := hmp.lt
      have hqw : q < w2.heap.size := by
        have h1 := lt_of_block HR1.out.box
        have h2 := HU2.out.size
        omega
      have HLT : Hid (q < w3.heap.size ∧ mb < w3.heap.size ∧ q < mb ∧ w.heap.size + 2 ≤ q ∧ nG ≤ q) := ⟨hq3, hmb2, by omega, HRB0.out.2.2.2.2.2.2.1, HRB0.out.2.2.2.2.2.1⟩
      have HEL1 := Lib.hid (HEL.out l rfl)
      have HT1 := Lib.hid (HT.out l rfl)
      clear hm hr4 hmb1 hmp hq3 hmb2 hqw HEL HT HTn
      go_wp2_with fail
      go_loopw [69] (fun iv wr => ∃ n : Nat, n ≤ t.fs.length ∧ iv = .int .i64 (n : Int) ∧ Hid (∃ nv vv C, wr.heap[q]? = some (.cells #[.int .i64 t.kind, .int .i64 0, nv, vv] tVl (0, 0)) ∧ VB w3.heap.size wr nv vv ((t.fs.take n).map (·.1)) C ∧ C.map VC.v = (t.fs.take n).map (fun f => (oneR d l f).getD Fm.noV)) ∧ Hid (∀ f ∈ t.fs.take n, ((Fm.getE l f.1).isSome && (oneR d l f).isSome) = true) ∧ Hid (Upd (fun k => k = q) w3 wr)) (fun iv _ => t.fs.length - (intOf iv).toNat)
      case atStart => exact ⟨0, Nat.zero_le _, rfl, ⟨_, _, [], HX.out, VB.nil _ _, rfl⟩, (fun f hf => by cases hf), Upd.refl _ _⟩
      case round =>
        obtain ⟨n, hn8, rfl, HV0, HALL, U⟩ := hrel
        obtain ⟨nv, vv, C, hbq, hvb, hcv⟩ := HV0.out
        obtain ⟨g0, g1, g2, g3, g4⟩ := HST.out wr (HU3.out.trans' U.out (fun k _ e => Or.inr e))
        have hCl : C.length = n := by
          have := congrArg List.length hcv
          rw [List.length_map, List.length_map, List.length_take] at this; omega
        have hNl : ((t.fs.take n).map (·.1)).length = n := by rw [List.length_map, List.length_take]; omega
        obtain ⟨na, nc, rfl⟩ := own_slF hvb.on
        obtain ⟨va, vc, rfl⟩ := own_slF hvb.ov
        rw [hNl, hCl] at hbq hvb
        have HVB := Lib.hid hvb
        have HCV := Lib.hid hcv
        have HBQ := Lib.hid hbq
        have HL := Lib.hid (And.intro hCl hNl)
        have HR9r := Lib.hid g2
        have HUr := Lib.hid g3
        clear HV0 hvb hcv hbq hCl hNl HR9 HU9 HX g0 g1 g2 g3 g4
        by_cases hlt : n < t.fs.length
        · have hlt1 : (n : Int) < t.fs.length := by omega
          have hnn : (n : Int) ≤ 8 := by omega
          rcases HFC.out with hnil | ⟨b, off, rfl, hb, hcell⟩
          · rw [hnil] at hlt; simp at hlt
          obtain ⟨sv, p0, p1, p2, hty, hsl⟩ := hcell n hlt
          obtain ⟨sa, sc, hsv, -⟩ := hty.cells
          subst hsv
          have y0 := nw_cellF HUr.out p0
          have y1 := nw_cellF HUr.out p1
          have y2 := nw_cellF HUr.out p2
          have hstT : t.fs.take (n + 1) = t.fs.take n ++ [t.fs[n]] := List.take_succ_eq_append_getElem hlt
          have HSTT := Lib.hid hstT
          have HMEM := Lib.hid (List.getElem_mem hlt)
          have HSub := Lib.hid (RT.out.sub _ (List.getElem_mem hlt))
          have HNM := Lib.hid (Fm.name_len (RT.out.name _ (List.getElem_mem hlt)))
          have HTY := Lib.hid hty
          clear hcell p0 p1 p2 hstT hty hsl
          generalize t.fs[n] = fld at *
          obtain ⟨fn, ft⟩ := fld
          dsimp only at *
          obtain ⟨wo, hwo, n0, hbx⟩ : ∃ z, z = wr.alloc (.cells #[.string ⟨fn.toArray⟩, .int .i64 ft.kind, .slice sa ft.fs.length sc] tFd) ∧ Nw wr z ∧ z.heap[wr.heap.size]? = some (.cells #[.string ⟨fn.toArray⟩, .int .i64 ft.kind, .slice sa ft.fs.length sc] tFd (0, 0)) := ⟨_, rfl, nw_alloc wr _, heap_new wr _⟩
          have HWO := Lib.hid hwo
          have HN0 := Lib.hid n0
          have HBX := Lib.hid hbx
          have HLK := Lib.hid (look_fm ((HMP.out.upd U.out (fun e => by have := HLT.out.2.2.1; omega)).nw n0) (s := fn) (by have := HNM.out; omega))
          have HRD := Lib.hid (IH.out ft _ ((Fm.getE l fn).getD []) wo (HGw.out.upd (HUr.out.trans n0)) HSub.out (HTY.out.nw (HUr.out.trans n0)) (HEL1.out fn))
          have HONE : Hid (oneR d l (fn, ft) = Fm.readF d ft ((Fm.getE l fn).getD [])) := rfl
          obtain ⟨x0, -, -⟩ : wo.cell? ⟨wr.heap.size, 0, none⟩ = some (.string ⟨fn.toArray⟩) ∧ True ∧ True := ⟨by rw [cells_cell hbx]; rfl, trivial, trivial⟩
          have x1 : wo.cell? ⟨wr.heap.size, 1, none⟩ = some (.int .i64 ft.kind) := by rw [cells_cell hbx]; rfl
          have x2 : wo.cell? ⟨wr.heap.size, 2, none⟩ = some (.slice sa ft.fs.length sc) := by rw [cells_cell hbx]; rfl
          have hwos : wo.heap.size = wr.heap.size + 1 := by rw [hwo]; simp
          have HWOS := Lib.hid hwos
          clear hwo n0 hbx hwos HFC
          go_upto_region 16 with fail
          rw [← HWO.out]
          clear HWO y0 y1 y2
          have hok : ∀ b, (Fm.getE l fn).isSome = b → Hid ((Fm.getE l fn).isSome = b) := fun b h => h
          generalize hsx : (Fm.getE l fn).getD [] = sx at *
          generalize hgo : (Fm.getE l fn).isSome = gok at *
          have HGO := Lib.hid hgo
          clear hsx hgo hok
          go_wp2_with (at_lookup; refine wpList_lookL rfl _ _ 75 true rfl _ _ _ rfl rfl HLK.out ?_)
          (with_reducible refine (HRD.out).mono ?_)
          rintro _ w5 ⟨k1, n1, xa, xl, xc, ya, yl, yc, rfl, HP5⟩
          clear HLK HRD
          generalize hro : (Fm.readF d ft sx).isSome = rok at *
          have n5 := nw_alloc w5 (.cells #[.int .i64 k1, .int .i64 n1, .slice xa xl xc, .slice ya yl yc] tVl)
          have b5 := heap_new w5 (.cells #[.int .i64 k1, .int .i64 n1, .slice xa xl xc, .slice ya yl yc] tVl)
          obtain ⟨w6, hw6⟩ : ∃ z, z = w5.alloc (.cells #[.int .i64 k1, .int .i64 n1, .slice xa xl xc, .slice ya yl yc] tVl) := ⟨_, rfl⟩
          rw [← hw6] at n5 b5
          have HW6 := Lib.hid hw6
          have HN56 := Lib.hid n5
          have HO6 : Hid (Nw wo w6) := HP5.out.2.trans n5
          have HP5S : Hid (wo.heap.size ≤ w5.heap.size) := HP5.out.2.size
          have HX6 : Hid (w6.heap[q]? = some (.cells #[.int .i64 t.kind, .int .i64 0, .slice na n nc, .slice va n vc] tVl (0, 0))) := Nw.keep HO6.out (HN0.out.keep HBQ.out)
          have HB5 := Lib.hid b5
          have HBX6 := Lib.hid (Nw.keep HO6.out HBX.out)
          have HR9 : Hid (w6.heap[w.heap.size + 1]? = some (.cells #[.int .i64 0, .int .i64 0, .slice none 0 0, .slice none 0 0] tVl (0, 0))) := Nw.keep HO6.out (HN0.out.keep HR9r.out)
          have HU9 : Hid (Nw w w6) := (HUr.out.trans HN0.out).trans HO6.out
          have HVB6 := Lib.hid ((HVB.out.nw HN0.out).nw HO6.out)
          have HRO : Hid ((Fm.readF d ft sx).isSome = rok) := hro
          have HX := Lib.hid HX6.out
          clear hw6 n5 b5 hro x0 x1 x2
          cases hgr : gok && rok with
          | false =>
            have e9 : Fm.readF (d + 1) t s = none := by
              rw [HT1.out, if_neg (all_no HMEM.out (by rw [HONE.out, HRO.out, HGO.out]; exact hgr))]
            have HV : Hid (∀ v, Fm.readF (d + 1) t s = some v → t.kind = v.kind ∧ (0 : Int) = v.n ∧ VlAt (fun j => w.heap.size + 2 ≤ j) w6 (.slice na n nc) (.slice va n vc) v) := fun v hv => by rw [e9] at hv; cases hv
            go_upto_region 18 with fail
            rw [← HW6.out]
            clear HW6
            cases gok with
            | false =>
              clear hgr
              -- the way out: the world w6, the answer's flag false is that of e9 ; HX: the value's cells, HR9: the result's cells, HU9: the step from w, HV: what is read
              obtain ⟨x0, x1, x2, x3⟩ := cell4F HX.out
              obtain ⟨d0, d1, d2, d3⟩ := cell4F HR9.out
              obtain ⟨f0, f1, f2, f3⟩ := froz4F HR9.out
              have hz := rd_exit HGB.out rfl HR9.out HU9.out _ _ _ _ HV.out
              go_wp2_with fail
              obtain ⟨hz1, hz2⟩ := hz
              refine bodyPost_ret (rd_results (b := false) _ _ ?_ ?_ hz1) ?_ ?_
              · rfl
              · rfl
              · rfl
              exact ⟨_, _, _, _, _, _, _, _, by rw [(e9)]; rfl, hz2⟩
            | true =>
              cases rok with
              | false =>
                clear hgr
                -- the way out: the world w6, the answer's flag false is that of e9 ; HX: the value's cells, HR9: the result's cells, HU9: the step from w, HV: what is read
                obtain ⟨x0, x1, x2, x3⟩ := cell4F HX.out
                obtain ⟨d0, d1, d2, d3⟩ := cell4F HR9.out
                obtain ⟨f0, f1, f2, f3⟩ := froz4F HR9.out
                have hz := rd_exit HGB.out rfl HR9.out HU9.out _ _ _ _ HV.out
                go_wp2_with fail
                obtain ⟨hz1, hz2⟩ := hz
                refine bodyPost_ret (rd_results (b := false) _ _ ?_ ?_ hz1) ?_ ?_
                · rfl
                · rfl
                · rfl
                exact ⟨_, _, _, _, _, _, _, _, by rw [(e9)]; rfl, hz2⟩
              | true => cases hgr
          | true =>
            obtain ⟨rfl, rfl⟩ : gok = true ∧ rok = true := by simpa using hgr
            clear hgr
            obtain ⟨xv, hxv⟩ := Option.isSome_iff_exists.1 HRO.out
            obtain ⟨h1, h2, h3⟩ := HP5.out.1 xv hxv
            subst h1 h2
            have HXV : Hid (oneR d l (fn, ft) = some xv) := by show _ = _; rw [HONE.out, hxv]
            have HVX : Hid (VlAt (fun j => wo.heap.size ≤ j) w6 (.slice xa xl xc) (.slice ya yl yc) xv) := h3.nw HN56.out
            clear hxv h3 HP5 HX HR9
            go_upto_region 20 with fail
            rw [← HW6.out]
            clear HW6
            have hown : Hid (∀ k, ((Value.slice na n nc).ownBlock = some k ∨ (Value.slice va n vc).ownBlock = some k) → k < wo.heap.size ∧ w3.heap.size ≤ k ∧ k ≠ wr.heap.size ∧ k ≠ w5.heap.size) := fun k e => by
              have h9 := HWOS.out
              have h8 := HP5S.out
              rcases e with e | e
              · have := HVB.out.on.lt k e; exact ⟨by omega, by omega, by omega, by omega⟩
              · have := HVB.out.ov.lt k e; exact ⟨by omega, by omega, by omega, by omega⟩
            obtain ⟨y, hy⟩ : ∃ y, y = w6.drew := ⟨_, rfl⟩
            have u6y : Nw w6 y := by rw [hy]; exact (Upd.refl _ _).drew
            have HVBy := Lib.hid (HVB6.out.nw u6y)
            have HVXy := Lib.hid (HVX.out.nw u6y)
            have HYS : Hid (wo.heap.size ≤ y.heap.size ∧ w3.heap.size ≤ wo.heap.size ∧ nG ≤ w3.heap.size) := ⟨(HO6.out.trans u6y).size, Nat.le_trans U.out.size HN0.out.size, by have := HLT.out; omega⟩
            have HUy : Hid (Upd (fun k => k = q) w3 y) := ((U.out.nw HN0.out).nw HO6.out).nw u6y
            have HP : Hid (∀ z, Upd (fun k => (Value.slice na n nc).ownBlock = some k ∨ (Value.slice va n vc).ownBlock = some k) y z → (z.cell? ⟨q, 2, none⟩ = some (.slice na n nc) ∧ z.cell? ⟨q, 3, none⟩ = some (.slice va n vc) ∧ z.cell? ⟨wr.heap.size, 0, none⟩ = some (.string ⟨fn.toArray⟩) ∧ z.cell? ⟨w5.heap.size, 0, none⟩ = some (.int .i64 xv.kind) ∧ z.cell? ⟨w5.heap.size, 1, none⟩ = some (.int .i64 xv.n) ∧ z.cell? ⟨w5.heap.size, 2, none⟩ = some (.slice xa xl xc) ∧ z.cell? ⟨w5.heap.size, 3, none⟩ = some (.slice ya yl yc))) := fun z u => by
              have hq : ∀ k, k = q → ¬ ((Value.slice na n nc).ownBlock = some k ∨ (Value.slice va n vc).ownBlock = some k) := fun k e e2 => by have := (hown.out k e2).2.1; have := HLT.out.1; omega
              have q1 := u.keep (Nw.keep u6y HX6.out) (hq q rfl)
              have q2 := u.keep (Nw.keep u6y HBX6.out) (fun e => (hown.out _ e).2.2.1 rfl)
              have q3 := u.keep (Nw.keep u6y HB5.out) (fun e => (hown.out _ e).2.2.2 rfl)
              obtain ⟨a0, a1, a2, a3⟩ := cell4F q3
              exact ⟨(cell4F q1).2.2.1, (cell4F q1).2.2.2, by rw [cells_cell q2]; rfl, a0, a1, a2, a3⟩
            have HQBy : Hid (∀ z, Upd (fun k => (Value.slice na n nc).ownBlock = some k ∨ (Value.slice va n vc).ownBlock = some k) y z → z.heap[q]? = some (.cells #[.int .i64 t.kind, .int .i64 0, .slice na n nc, .slice va n vc] tVl (0, 0))) := fun z u => u.keep (Nw.keep u6y HX6.out) (fun e2 => by have := (hown.out _ e2).2.1; have := HLT.out.1; omega)
            have HNum : Hid (0 < 1 ∧ n + 1 ≤ maxLen ∧ (n + 1) * 16 ≤ 140737488355328 ∧ (n + 1) * 64 ≤ 140737488355328) := ⟨by omega, by unfold maxLen; omega, by omega, by omega⟩
            have HY := Lib.hid hy
            have HS0 := Lib.hid (HP.out y (Upd.refl _ _))
            clear hy u6y HX6 HVB6 HB5 HBX6 HVX HVB HBQ HO6 HN56
            generalize w5.heap.size = p5 at *
            generalize wr.heap.size = p4 at *
            refine wp_region_G (fun z => z.cell? ⟨q, 2, none⟩ = some (.slice na n nc) ∧ z.cell? ⟨q, 3, none⟩ = some (.slice va n vc) ∧ z.cell? ⟨p4, 0, none⟩ = some (.string ⟨fn.toArray⟩) ∧ z.cell? ⟨p5, 0, none⟩ = some (.int .i64 xv.kind) ∧ z.cell? ⟨p5, 1, none⟩ = some (.int .i64 xv.n) ∧ z.cell? ⟨p5, 2, none⟩ = some (.slice xa xl xc) ∧ z.cell? ⟨p5, 3, none⟩ = some (.slice ya yl yc)) 10 (by kernel_rfl) ?_
            rw [← HY.out]
            clear HY
            refine wpAnyG_pure (i := 0) (v := ?_) rfl (by kernel_rfl) (by kernel_rfl) (by kernel_rfl) (by kernel_rfl) (by kernel_rfl) (fun _ _ _ h => h) (by kernel_rfl) ?_ (fun _ => HS0.out) ?_
            rotate_left 1
            · (intro zz; go_simp; first | done | with_reducible rfl)
            (try simp only [Act.put, List.setIfInBounds_toArray, List.set_cons_zero, List.set_cons_succ])
            refine wpAnyG_pure (i := 2) (v := ?_) rfl (by kernel_rfl) (by kernel_rfl) (by kernel_rfl) (by kernel_rfl) (by kernel_rfl) (fun _ _ _ h => h) (by kernel_rfl) ?_ (fun _ => HS0.out) ?_
            rotate_left 1
            · (intro zz; go_simp; first | done | with_reducible rfl)
            (try simp only [Act.put, List.setIfInBounds_toArray, List.set_cons_zero, List.set_cons_succ])
            refine wpAnyG_pure (i := 6) (v := ?_) rfl (by kernel_rfl) (by kernel_rfl) (by kernel_rfl) (by kernel_rfl) (by kernel_rfl) (fun _ _ _ h => h) (by kernel_rfl) ?_ (fun _ => HS0.out) ?_
            rotate_left 1
            · (intro zz; go_simp; first | done | with_reducible rfl)
            (try simp only [Act.put, List.setIfInBounds_toArray, List.set_cons_zero, List.set_cons_succ])
            refine wpAnyG_load (i := 1) (v := ?_) [5] rfl (by kernel_rfl) (by kernel_rfl) (by kernel_rfl) (by kernel_rfl) (by kernel_rfl) (by kernel_rfl) (fun _ _ _ h => h) (by kernel_rfl) ?_ (fun _ => HS0.out) ?_
            rotate_left 1
            · (intro zz hS; obtain ⟨_, _, _, _, _, _, _⟩ := hS; go_simp; first | done | with_reducible rfl)
            (try simp only [Act.put, List.setIfInBounds_toArray, List.set_cons_zero, List.set_cons_succ])
            refine wpAnyG_load (i := 3) (v := ?_) [5, 4] rfl (by kernel_rfl) (by kernel_rfl) (by kernel_rfl) (by kernel_rfl) (by kernel_rfl) (by kernel_rfl) (fun _ _ _ h => h) (by kernel_rfl) ?_ (fun _ => HS0.out) ?_
            rotate_left 1
            · (intro zz hS; obtain ⟨_, _, _, _, _, _, _⟩ := hS; go_simp; first | done | with_reducible rfl)
            (try simp only [Act.put, List.setIfInBounds_toArray, List.set_cons_zero, List.set_cons_succ])
            refine wpAnyG_load (i := 7) (v := ?_) [] rfl (by kernel_rfl) (by kernel_rfl) (by kernel_rfl) (by kernel_rfl) (by kernel_rfl) (by kernel_rfl) (fun _ _ _ h => h) (by kernel_rfl) ?_ (fun _ => HS0.out) ?_
            rotate_left 1
            · (intro zz hS; obtain ⟨_, _, _, _, _, _, _⟩ := hS; go_simp; first | done | with_reducible rfl)
            (try simp only [Act.put, List.setIfInBounds_toArray, List.set_cons_zero, List.set_cons_succ])
            refine wpAnyG_load (i := 8) (v := ?_) [9] rfl (by kernel_rfl) (by kernel_rfl) (by kernel_rfl) (by kernel_rfl) (by kernel_rfl) (by kernel_rfl) (fun _ _ _ h => h) (by kernel_rfl) ?_ (fun _ => HS0.out) ?_
            rotate_left 1
            · (intro zz hS; obtain ⟨_, _, _, _, _, _, _⟩ := hS; go_simp; first | done | with_reducible rfl)
            (try simp only [Act.put, List.setIfInBounds_toArray, List.set_cons_zero, List.set_cons_succ])
            refine wpAnyG_ready [4, 9] (by kernel_rfl) (by simp) ?_
            refine AllG.cons rfl (fun K hK => ?_) (AllG.cons rfl (fun K hK => ?_) AllG.nil)
            · -- the slice of the one name, made in y: the world za, the block bs
              have nza := nw_alloc (y) (.cells #[.string ⟨fn.toArray⟩] 9)
              have bza := heap_new (y) (.cells #[.string ⟨fn.toArray⟩] 9)
              obtain ⟨za, hza⟩ : ∃ z, z = (y).alloc (.cells #[.string ⟨fn.toArray⟩] 9) := ⟨_, rfl⟩
              rw [← hza] at nza bza
              have Hza := Lib.hid hza
              clear hza
              go_simp
              rw [← Hza.out]
              clear Hza
              obtain ⟨bs, hbs⟩ : ∃ z, z = (y).heap.size := ⟨_, rfl⟩
              rw [← hbs] at bza
              rw [← hbs]
              refine hK.out _ _ (fun _ => HP.out _ (by first | exact Nw.upd _ nza | exact Nw.upd _ (HWA0.out.trans nza))) ?_
              clear hK K
              (try simp only [Act.put, List.setIfInBounds_toArray, List.set_cons_zero, List.set_cons_succ])
              clear hbs
              refine wpAnyG_ready [5, 9] (by kernel_rfl) (by simp) ?_
              refine AllG.cons rfl (fun K hK => ?_) (AllG.cons rfl (fun K hK => ?_) AllG.nil)
              · have HBS := Lib.hid bza
                have HWA := Lib.hid nza
                -- the names' append at the world za (HWA: behind y; HBS: the one name at the block bs): the world wb
                have HON : Hid ((za).ownsRow w3.heap.size 9 1 (.slice na n nc) n (((t.fs.take n).map (·.1)).map sF)) := by
                  have := (HVBy.out.nw HWA.out).on
                  rw [HL.out.2] at this; exact this
                refine step_catC rfl _ _ 25 rfl 9 _ 1 16 Tryz.underlying25 infoStrF rfl (by decide) w3.heap.size (by have := HYS.out; have := HWA.out.size; omega) HYS.out.2.2 _ n _ rfl HON.out ⟨bs, 0, none⟩ 1 1 [.string ⟨fn.toArray⟩] rfl rfl (World.news_of_block (cs := #[.string ⟨fn.toArray⟩]) (t := 9) (fr := (0, 0)) HBS.out) (by intro u hu; rw [List.mem_singleton.1 hu]; rfl) HNum.out.1 HNum.out.2.1 HNum.out.2.2.1 ?_
                intro ga ca wb ob ub0 hbb
                have uyb : Hid (Upd (fun k => (Value.slice na n nc).ownBlock = some k ∨ (Value.slice va n vc).ownBlock = some k) y wb) := Nw.trans HWA.out (ub0.mono (fun k _ e => Or.inl e))
                refine hK.out _ _ (fun _ => HP.out _ uyb.out) ?_
                clear hK K
                (try simp only [Act.put, List.setIfInBounds_toArray, List.set_cons_zero, List.set_cons_succ])
                refine wpAnyG_pure (i := 11) (v := ?_) rfl (by kernel_rfl) (by kernel_rfl) (by kernel_rfl) (by kernel_rfl) (by kernel_rfl) (fun _ _ _ h => h) (by kernel_rfl) ?_ (fun _ => HP.out _ uyb.out) ?_
                rotate_left 1
                · (intro zz; go_simp; first | done | with_reducible rfl)
                (try simp only [Act.put, List.setIfInBounds_toArray, List.set_cons_zero, List.set_cons_succ])
                refine wpAnyG_ready [9] (by kernel_rfl) (by simp) ?_
                refine AllG.cons rfl (fun K hK => ?_) AllG.nil
                -- the slice of the one value, made in wb: the world wd, the block bv
                have nwd := nw_alloc (wb) (.cells #[.int .i64 xv.kind, .int .i64 xv.n, .slice xa xl xc, .slice ya yl yc] tVl)
                have bwd := heap_new (wb) (.cells #[.int .i64 xv.kind, .int .i64 xv.n, .slice xa xl xc, .slice ya yl yc] tVl)
                obtain ⟨wd, hwd⟩ : ∃ z, z = (wb).alloc (.cells #[.int .i64 xv.kind, .int .i64 xv.n, .slice xa xl xc, .slice ya yl yc] tVl) := ⟨_, rfl⟩
                rw [← hwd] at nwd bwd
                have Hwd := Lib.hid hwd
                clear hwd
                go_simp
                rw [← Hwd.out]
                clear Hwd
                obtain ⟨bv, hbv⟩ : ∃ z, z = (wb).heap.size := ⟨_, rfl⟩
                rw [← hbv] at bwd
                rw [← hbv]
                refine hK.out _ _ (fun _ => HP.out _ (by first | exact Nw.upd _ nwd | exact Nw.upd _ (HWA0.out.trans nwd) | exact uyb.out.nw nwd)) ?_
                clear hK K
                (try simp only [Act.put, List.setIfInBounds_toArray, List.set_cons_zero, List.set_cons_succ])
                have Hbv := Lib.hid hbv
                clear hbv
                have hbv := Hbv.out
                clear Hbv
                have HBV := Lib.hid bwd
                have HWD := Lib.hid nwd
                -- the values' append at the world wd (HWD: behind wb; HBV: the one value at the block bv): the world we; the stores; the round's end
                have HOV : Hid ((wd).ownsRow w3.heap.size tVl 4 (.slice va n vc) n (C.map vcL).flatten) := by
                  have h := (HVBy.out.nw HWA.out).ov
                  rw [HL.out.1] at h
                  have hne := (HVBy.out.nw HWA.out).ne
                  exact owns_upd' (owns_upd' h ub0 (fun k e e2 => hne k e2 e)) HWD.out (fun _ _ e => e)
                refine wpAnyG_ready [10] (by kernel_rfl) (by simp) ?_
                refine AllG.cons rfl (fun K hK => ?_) AllG.nil
                refine step_catC rfl _ _ 26 rfl tVl _ 4 64 Tryz.underlying26 infoVlF rfl (by decide) w3.heap.size (by have := HYS.out; have := uyb.out.size; have := HWD.out.size; omega) HYS.out.2.2 _ n _ rfl HOV.out ⟨bv, 0, none⟩ 1 1 [.int .i64 xv.kind, .int .i64 xv.n, .slice xa xl xc, .slice ya yl yc] rfl rfl (World.news_of_block (cs := #[.int .i64 xv.kind, .int .i64 xv.n, .slice xa xl xc, .slice ya yl yc]) (t := tVl) (fr := (0, 0)) HBV.out) (by intro u hu; simp at hu; rcases hu with rfl | rfl | rfl | rfl <;> rfl) HNum.out.1 HNum.out.2.1 HNum.out.2.2.2 ?_
                intro gd cd we oe ue0 hbe
                have ue : Hid (Upd (fun k => (Value.slice na n nc).ownBlock = some k ∨ (Value.slice va n vc).ownBlock = some k) y we) := (uyb.out.nw HWD.out).trans' ue0 (fun k _ e => Or.inr e)
                have HPU := Lib.hid (vb_push2 HVBy.out (Nat.le_trans HNM.out (by unfold maxLen; omega)) (fun k e => (hown.out k e).1) HYS.out.2.1 HYS.out.1 HVXy.out HWA.out (by rw [HL.out.2]; exact ob) ub0 (fun k e => by
                  have e' : ga = k := by simpa [Value.ownBlock] using e
                  subst e'; exact hbb) HWD.out (by rw [HL.out.1]; exact oe) ue0 (fun k e => by
                  have e' : gd = k := by simpa [Value.ownBlock] using e
                  subst e'; exact hbe))
                have hqe := HQBy.out _ ue.out
                obtain ⟨c0, c1, c2, c3⟩ := cell4F hqe
                obtain ⟨f0, f1, f2, f3⟩ := froz4F hqe
                have hbq2 := setCell_block (setCell_block hqe 2 (.slice (some ⟨ga, 0, none⟩) (n + 1) ca)) 3 (.slice (some ⟨gd, 0, none⟩) (n + 1) cd)
                have uS := Upd.set1 (Upd.set1 (Upd.refl _ we) HLT.out.2.2.2.2 2 (.slice (some ⟨ga, 0, none⟩) (n + 1) ca)) HLT.out.2.2.2.2 3 (.slice (some ⟨gd, 0, none⟩) (n + 1) cd)
                have hp2 := HPU.out.1.upd uS (fun k hk _ e => by have := HLT.out.1; omega)
                have uA : Upd (fun k => k = q) w3 we := HUy.out.trans' ue.out (fun k hk e => by have := (hown.out k e).2.1; omega)
                have uB := uA.trans' uS (fun k _ e => e)
                have HREL : Hid (∃ nv vv C', ((we.setCell ⟨q, 2, none⟩ (.slice (some ⟨ga, 0, none⟩) (n + 1) ca)).setCell ⟨q, 3, none⟩ (.slice (some ⟨gd, 0, none⟩) (n + 1) cd)).heap[q]? = some (.cells #[.int .i64 t.kind, .int .i64 0, nv, vv] tVl (0, 0)) ∧ VB w3.heap.size ((we.setCell ⟨q, 2, none⟩ (.slice (some ⟨ga, 0, none⟩) (n + 1) ca)).setCell ⟨q, 3, none⟩ (.slice (some ⟨gd, 0, none⟩) (n + 1) cd)) nv vv ((t.fs.take (n + 1)).map (·.1)) C' ∧ C'.map VC.v = (t.fs.take (n + 1)).map (fun f => (oneR d l f).getD Fm.noV)) := by
                  refine ⟨_, _, C ++ [⟨.slice xa xl xc, .slice ya yl yc, xv⟩], hbq2, ?_, ?_⟩
                  · rw [HSTT.out, List.map_append]; exact hp2
                  · rw [HSTT.out, List.map_append, List.map_append, HCV.out]
                    show _ = _ ++ [(oneR d l (fn, ft)).getD Fm.noV]
                    rw [HXV.out]; rfl
                have HALL2 : Hid (∀ f ∈ t.fs.take (n + 1), ((Fm.getE l f.1).isSome && (oneR d l f).isSome) = true) := fun f hf => by
                  rw [HSTT.out] at hf
                  rcases List.mem_append.1 hf with hf | hf
                  · exact HALL.out f hf
                  · rw [List.mem_singleton.1 hf, HXV.out, HGO.out]; rfl
                have HUB := Lib.hid uB
                clear hqe hbq2 uS hp2 uA uB
                refine hK.out _ _ (fun e => absurd (show true = false from e) (by decide)) ?_
                clear hK K
                (try simp only [Act.put, List.setIfInBounds_toArray, List.set_cons_zero, List.set_cons_succ])
                refine wpAnyG_ready [12] (by kernel_rfl) (by simp) ?_
                refine AllG.cons rfl (fun K hK => ?_) AllG.nil
                go_simp
                refine hK.out _ _ (fun e => absurd (show true = false from e) (by decide)) ?_
                clear hK K
                (try simp only [Act.put, List.setIfInBounds_toArray, List.set_cons_zero, List.set_cons_succ])
                refine wpAnyG_pure (i := 13) (v := ?_) rfl (by kernel_rfl) (by kernel_rfl) (by kernel_rfl) (by kernel_rfl) (by kernel_rfl) (fun _ _ _ h => h) (by kernel_rfl) ?_ (fun e => absurd (show true = false from e) (by decide)) ?_
                rotate_left 1
                · (intro zz; go_simp; first | done | with_reducible rfl)
                (try simp only [Act.put, List.setIfInBounds_toArray, List.set_cons_zero, List.set_cons_succ])
                refine wpAnyG_ready [14] (by kernel_rfl) (by simp) ?_
                refine AllG.cons rfl (fun K hK => ?_) AllG.nil
                go_simp
                refine hK.out _ _ (fun e => absurd (show true = false from e) (by decide)) ?_
                clear hK K
                (try simp only [Act.put, List.setIfInBounds_toArray, List.set_cons_zero, List.set_cons_succ])
                refine wpAnyG_done (by kernel_rfl) ?_ _
                go_wp2_with fail
                go_roundw
                case rel => exact ⟨n + 1, by omega, by go_num, HREL.out, HALL2.out, HUB.out⟩
                case measure => simp [intOf]; omega
              · have HBS0 := Lib.hid bza
                have HWA0 := Lib.hid nza
                clear bza nza
                -- the slice of the one value, made in za: the world zb, the block bv
                have nzb := nw_alloc (za) (.cells #[.int .i64 xv.kind, .int .i64 xv.n, .slice xa xl xc, .slice ya yl yc] tVl)
                have bzb := heap_new (za) (.cells #[.int .i64 xv.kind, .int .i64 xv.n, .slice xa xl xc, .slice ya yl yc] tVl)
                obtain ⟨zb, hzb⟩ : ∃ z, z = (za).alloc (.cells #[.int .i64 xv.kind, .int .i64 xv.n, .slice xa xl xc, .slice ya yl yc] tVl) := ⟨_, rfl⟩
                rw [← hzb] at nzb bzb
                have Hzb := Lib.hid hzb
                clear hzb
                go_simp
                rw [← Hzb.out]
                clear Hzb
                obtain ⟨bv, hbv⟩ : ∃ z, z = (za).heap.size := ⟨_, rfl⟩
                rw [← hbv] at bzb
                rw [← hbv]
                refine hK.out _ _ (fun _ => HP.out _ (by first | exact Nw.upd _ nzb | exact Nw.upd _ (HWA0.out.trans nzb) | exact uyb.out.nw nzb)) ?_
                clear hK K
                (try simp only [Act.put, List.setIfInBounds_toArray, List.set_cons_zero, List.set_cons_succ])
                have Hbv := Lib.hid hbv
                clear hbv
                have hbv := Hbv.out
                clear Hbv
                have HBS := Lib.hid (Nw.keep nzb HBS0.out)
                have HWA := Lib.hid (HWA0.out.trans nzb)
                have HBV0 := Lib.hid bzb
                have hbvlt : Hid (y.heap.size ≤ bv) := by rw [hbv]; exact HWA0.out.size
                clear hbv
                refine wpAnyG_ready [5] (by kernel_rfl) (by simp) ?_
                refine AllG.cons rfl (fun K hK => ?_) AllG.nil
                -- the names' append at the world zb (HWA: behind y; HBS: the one name at the block bs): the world wb
                have HON : Hid ((zb).ownsRow w3.heap.size 9 1 (.slice na n nc) n (((t.fs.take n).map (·.1)).map sF)) := by
                  have := (HVBy.out.nw HWA.out).on
                  rw [HL.out.2] at this; exact this
                refine step_catC rfl _ _ 25 rfl 9 _ 1 16 Tryz.underlying25 infoStrF rfl (by decide) w3.heap.size (by have := HYS.out; have := HWA.out.size; omega) HYS.out.2.2 _ n _ rfl HON.out ⟨bs, 0, none⟩ 1 1 [.string ⟨fn.toArray⟩] rfl rfl (World.news_of_block (cs := #[.string ⟨fn.toArray⟩]) (t := 9) (fr := (0, 0)) HBS.out) (by intro u hu; rw [List.mem_singleton.1 hu]; rfl) HNum.out.1 HNum.out.2.1 HNum.out.2.2.1 ?_
                intro ga ca wb ob ub0 hbb
                have uyb : Hid (Upd (fun k => (Value.slice na n nc).ownBlock = some k ∨ (Value.slice va n vc).ownBlock = some k) y wb) := Nw.trans HWA.out (ub0.mono (fun k _ e => Or.inl e))
                refine hK.out _ _ (fun _ => HP.out _ uyb.out) ?_
                clear hK K
                (try simp only [Act.put, List.setIfInBounds_toArray, List.set_cons_zero, List.set_cons_succ])
                refine wpAnyG_pure (i := 11) (v := ?_) rfl (by kernel_rfl) (by kernel_rfl) (by kernel_rfl) (by kernel_rfl) (by kernel_rfl) (fun _ _ _ h => h) (by kernel_rfl) ?_ (fun _ => HP.out _ uyb.out) ?_
                rotate_left 1
                · (intro zz; go_simp; first | done | with_reducible rfl)
                (try simp only [Act.put, List.setIfInBounds_toArray, List.set_cons_zero, List.set_cons_succ])
                have HBV := Lib.hid (ub0.keep HBV0.out (fun e => by have := (hown.out _ (Or.inl e)).1; have := hbvlt.out; have := HYS.out.1; omega))
                have HWD : Hid (Nw wb wb) := Upd.refl _ _
                -- the values' append at the world wb (HWD: behind wb; HBV: the one value at the block bv): the world we; the stores; the round's end
                have HOV : Hid ((wb).ownsRow w3.heap.size tVl 4 (.slice va n vc) n (C.map vcL).flatten) := by
                  have h := (HVBy.out.nw HWA.out).ov
                  rw [HL.out.1] at h
                  have hne := (HVBy.out.nw HWA.out).ne
                  exact owns_upd' (owns_upd' h ub0 (fun k e e2 => hne k e2 e)) HWD.out (fun _ _ e => e)
                refine wpAnyG_ready [10] (by kernel_rfl) (by simp) ?_
                refine AllG.cons rfl (fun K hK => ?_) AllG.nil
                refine step_catC rfl _ _ 26 rfl tVl _ 4 64 Tryz.underlying26 infoVlF rfl (by decide) w3.heap.size (by have := HYS.out; have := uyb.out.size; have := HWD.out.size; omega) HYS.out.2.2 _ n _ rfl HOV.out ⟨bv, 0, none⟩ 1 1 [.int .i64 xv.kind, .int .i64 xv.n, .slice xa xl xc, .slice ya yl yc] rfl rfl (World.news_of_block (cs := #[.int .i64 xv.kind, .int .i64 xv.n, .slice xa xl xc, .slice ya yl yc]) (t := tVl) (fr := (0, 0)) HBV.out) (by intro u hu; simp at hu; rcases hu with rfl | rfl | rfl | rfl <;> rfl) HNum.out.1 HNum.out.2.1 HNum.out.2.2.2 ?_
                intro gd cd we oe ue0 hbe
                have ue : Hid (Upd (fun k => (Value.slice na n nc).ownBlock = some k ∨ (Value.slice va n vc).ownBlock = some k) y we) := (uyb.out.nw HWD.out).trans' ue0 (fun k _ e => Or.inr e)
                have HPU := Lib.hid (vb_push2 HVBy.out (Nat.le_trans HNM.out (by unfold maxLen; omega)) (fun k e => (hown.out k e).1) HYS.out.2.1 HYS.out.1 HVXy.out HWA.out (by rw [HL.out.2]; exact ob) ub0 (fun k e => by
                  have e' : ga = k := by simpa [Value.ownBlock] using e
                  subst e'; exact hbb) HWD.out (by rw [HL.out.1]; exact oe) ue0 (fun k e => by
                  have e' : gd = k := by simpa [Value.ownBlock] using e
                  subst e'; exact hbe))
                have hqe := HQBy.out _ ue.out
                obtain ⟨c0, c1, c2, c3⟩ := cell4F hqe
                obtain ⟨f0, f1, f2, f3⟩ := froz4F hqe
                have hbq2 := setCell_block (setCell_block hqe 2 (.slice (some ⟨ga, 0, none⟩) (n + 1) ca)) 3 (.slice (some ⟨gd, 0, none⟩) (n + 1) cd)
                have uS := Upd.set1 (Upd.set1 (Upd.refl _ we) HLT.out.2.2.2.2 2 (.slice (some ⟨ga, 0, none⟩) (n + 1) ca)) HLT.out.2.2.2.2 3 (.slice (some ⟨gd, 0, none⟩) (n + 1) cd)
                have hp2 := HPU.out.1.upd uS (fun k hk _ e => by have := HLT.out.1; omega)
                have uA : Upd (fun k => k = q) w3 we := HUy.out.trans' ue.out (fun k hk e => by have := (hown.out k e).2.1; omega)
                have uB := uA.trans' uS (fun k _ e => e)
                have HREL : Hid (∃ nv vv C', ((we.setCell ⟨q, 2, none⟩ (.slice (some ⟨ga, 0, none⟩) (n + 1) ca)).setCell ⟨q, 3, none⟩ (.slice (some ⟨gd, 0, none⟩) (n + 1) cd)).heap[q]? = some (.cells #[.int .i64 t.kind, .int .i64 0, nv, vv] tVl (0, 0)) ∧ VB w3.heap.size ((we.setCell ⟨q, 2, none⟩ (.slice (some ⟨ga, 0, none⟩) (n + 1) ca)).setCell ⟨q, 3, none⟩ (.slice (some ⟨gd, 0, none⟩) (n + 1) cd)) nv vv ((t.fs.take (n + 1)).map (·.1)) C' ∧ C'.map VC.v = (t.fs.take (n + 1)).map (fun f => (oneR d l f).getD Fm.noV)) := by
                  refine ⟨_, _, C ++ [⟨.slice xa xl xc, .slice ya yl yc, xv⟩], hbq2, ?_, ?_⟩
                  · rw [HSTT.out, List.map_append]; exact hp2
                  · rw [HSTT.out, List.map_append, List.map_append, HCV.out]
                    show _ = _ ++ [(oneR d l (fn, ft)).getD Fm.noV]
                    rw [HXV.out]; rfl
                have HALL2 : Hid (∀ f ∈ t.fs.take (n + 1), ((Fm.getE l f.1).isSome && (oneR d l f).isSome) = true) := fun f hf => by
                  rw [HSTT.out] at hf
                  rcases List.mem_append.1 hf with hf | hf
                  · exact HALL.out f hf
                  · rw [List.mem_singleton.1 hf, HXV.out, HGO.out]; rfl
                have HUB := Lib.hid uB
                clear hqe hbq2 uS hp2 uA uB
                refine hK.out _ _ (fun e => absurd (show true = false from e) (by decide)) ?_
                clear hK K
                (try simp only [Act.put, List.setIfInBounds_toArray, List.set_cons_zero, List.set_cons_succ])
                refine wpAnyG_ready [12] (by kernel_rfl) (by simp) ?_
                refine AllG.cons rfl (fun K hK => ?_) AllG.nil
                go_simp
                refine hK.out _ _ (fun e => absurd (show true = false from e) (by decide)) ?_
                clear hK K
                (try simp only [Act.put, List.setIfInBounds_toArray, List.set_cons_zero, List.set_cons_succ])
                refine wpAnyG_pure (i := 13) (v := ?_) rfl (by kernel_rfl) (by kernel_rfl) (by kernel_rfl) (by kernel_rfl) (by kernel_rfl) (fun _ _ _ h => h) (by kernel_rfl) ?_ (fun e => absurd (show true = false from e) (by decide)) ?_
                rotate_left 1
                · (intro zz; go_simp; first | done | with_reducible rfl)
                (try simp only [Act.put, List.setIfInBounds_toArray, List.set_cons_zero, List.set_cons_succ])
                refine wpAnyG_ready [14] (by kernel_rfl) (by simp) ?_
                refine AllG.cons rfl (fun K hK => ?_) AllG.nil
                go_simp
                refine hK.out _ _ (fun e => absurd (show true = false from e) (by decide)) ?_
                clear hK K
                (try simp only [Act.put, List.setIfInBounds_toArray, List.set_cons_zero, List.set_cons_succ])
                refine wpAnyG_done (by kernel_rfl) ?_ _
                go_wp2_with fail
                go_roundw
                case rel => exact ⟨n + 1, by omega, by go_num, HREL.out, HALL2.out, HUB.out⟩
                case measure => simp [intOf]; omega
            · -- the slice of the one value, made in y: the world za, the block bv
              have nza := nw_alloc (y) (.cells #[.int .i64 xv.kind, .int .i64 xv.n, .slice xa xl xc, .slice ya yl yc] tVl)
              have bza := heap_new (y) (.cells #[.int .i64 xv.kind, .int .i64 xv.n, .slice xa xl xc, .slice ya yl yc] tVl)
              obtain ⟨za, hza⟩ : ∃ z, z = (y).alloc (.cells #[.int .i64 xv.kind, .int .i64 xv.n, .slice xa xl xc, .slice ya yl yc] tVl) := ⟨_, rfl⟩
              rw [← hza] at nza bza
              have Hza := Lib.hid hza
              clear hza
              go_simp
              rw [← Hza.out]
              clear Hza
              obtain ⟨bv, hbv⟩ : ∃ z, z = (y).heap.size := ⟨_, rfl⟩
              rw [← hbv] at bza
              rw [← hbv]
              refine hK.out _ _ (fun _ => HP.out _ (by first | exact Nw.upd _ nza | exact Nw.upd _ (HWA0.out.trans nza) | exact uyb.out.nw nza)) ?_
              clear hK K
              (try simp only [Act.put, List.setIfInBounds_toArray, List.set_cons_zero, List.set_cons_succ])
              have Hbv := Lib.hid hbv
              clear hbv
              have hbv := Hbv.out
              clear Hbv
              have HBV0 := Lib.hid bza
              have HWA0 := Lib.hid nza
              have hbvlt : Hid (y.heap.size ≤ bv) := by rw [hbv]; exact Nat.le_refl _
              clear bza nza hbv
              refine wpAnyG_ready [4] (by kernel_rfl) (by simp) ?_
              refine AllG.cons rfl (fun K hK => ?_) AllG.nil
              -- the slice of the one name, made in za: the world zb, the block bs
              have nzb := nw_alloc (za) (.cells #[.string ⟨fn.toArray⟩] 9)
              have bzb := heap_new (za) (.cells #[.string ⟨fn.toArray⟩] 9)
              obtain ⟨zb, hzb⟩ : ∃ z, z = (za).alloc (.cells #[.string ⟨fn.toArray⟩] 9) := ⟨_, rfl⟩
              rw [← hzb] at nzb bzb
              have Hzb := Lib.hid hzb
              clear hzb
              go_simp
              rw [← Hzb.out]
              clear Hzb
              obtain ⟨bs, hbs⟩ : ∃ z, z = (za).heap.size := ⟨_, rfl⟩
              rw [← hbs] at bzb
              rw [← hbs]
              refine hK.out _ _ (fun _ => HP.out _ (by first | exact Nw.upd _ nzb | exact Nw.upd _ (HWA0.out.trans nzb))) ?_
              clear hK K
              (try simp only [Act.put, List.setIfInBounds_toArray, List.set_cons_zero, List.set_cons_succ])
              clear hbs
              have HBS := Lib.hid bzb
              have HWA := Lib.hid (HWA0.out.trans nzb)
              have HBV1 := Lib.hid (Nw.keep nzb HBV0.out)
              refine wpAnyG_ready [5] (by kernel_rfl) (by simp) ?_
              refine AllG.cons rfl (fun K hK => ?_) AllG.nil
              -- the names' append at the world zb (HWA: behind y; HBS: the one name at the block bs): the world wb
              have HON : Hid ((zb).ownsRow w3.heap.size 9 1 (.slice na n nc) n (((t.fs.take n).map (·.1)).map sF)) := by
                have := (HVBy.out.nw HWA.out).on
                rw [HL.out.2] at this; exact this
              refine step_catC rfl _ _ 25 rfl 9 _ 1 16 Tryz.underlying25 infoStrF rfl (by decide) w3.heap.size (by have := HYS.out; have := HWA.out.size; omega) HYS.out.2.2 _ n _ rfl HON.out ⟨bs, 0, none⟩ 1 1 [.string ⟨fn.toArray⟩] rfl rfl (World.news_of_block (cs := #[.string ⟨fn.toArray⟩]) (t := 9) (fr := (0, 0)) HBS.out) (by intro u hu; rw [List.mem_singleton.1 hu]; rfl) HNum.out.1 HNum.out.2.1 HNum.out.2.2.1 ?_
              intro ga ca wb ob ub0 hbb
              have uyb : Hid (Upd (fun k => (Value.slice na n nc).ownBlock = some k ∨ (Value.slice va n vc).ownBlock = some k) y wb) := Nw.trans HWA.out (ub0.mono (fun k _ e => Or.inl e))
              refine hK.out _ _ (fun _ => HP.out _ uyb.out) ?_
              clear hK K
              (try simp only [Act.put, List.setIfInBounds_toArray, List.set_cons_zero, List.set_cons_succ])
              refine wpAnyG_pure (i := 11) (v := ?_) rfl (by kernel_rfl) (by kernel_rfl) (by kernel_rfl) (by kernel_rfl) (by kernel_rfl) (fun _ _ _ h => h) (by kernel_rfl) ?_ (fun _ => HP.out _ uyb.out) ?_
              rotate_left 1
              · (intro zz; go_simp; first | done | with_reducible rfl)
              (try simp only [Act.put, List.setIfInBounds_toArray, List.set_cons_zero, List.set_cons_succ])
              have HBV := Lib.hid (ub0.keep HBV1.out (fun e => by have := (hown.out _ (Or.inl e)).1; have := hbvlt.out; have := HYS.out.1; omega))
              have HWD : Hid (Nw wb wb) := Upd.refl _ _
              -- the values' append at the world wb (HWD: behind wb; HBV: the one value at the block bv): the world we; the stores; the round's end
              have HOV : Hid ((wb).ownsRow w3.heap.size tVl 4 (.slice va n vc) n (C.map vcL).flatten) := by
                have h := (HVBy.out.nw HWA.out).ov
                rw [HL.out.1] at h
                have hne := (HVBy.out.nw HWA.out).ne
                exact owns_upd' (owns_upd' h ub0 (fun k e e2 => hne k e2 e)) HWD.out (fun _ _ e => e)
              refine wpAnyG_ready [10] (by kernel_rfl) (by simp) ?_
              refine AllG.cons rfl (fun K hK => ?_) AllG.nil
              refine step_catC rfl _ _ 26 rfl tVl _ 4 64 Tryz.underlying26 infoVlF rfl (by decide) w3.heap.size (by have := HYS.out; have := uyb.out.size; have := HWD.out.size; omega) HYS.out.2.2 _ n _ rfl HOV.out ⟨bv, 0, none⟩ 1 1 [.int .i64 xv.kind, .int .i64 xv.n, .slice xa xl xc, .slice ya yl yc] rfl rfl (World.news_of_block (cs := #[.int .i64 xv.kind, .int .i64 xv.n, .slice xa xl xc, .slice ya yl yc]) (t := tVl) (fr := (0, 0)) HBV.out) (by intro u hu; simp at hu; rcases hu with rfl | rfl | rfl | rfl <;> rfl) HNum.out.1 HNum.out.2.1 HNum.out.2.2.2 ?_
              intro gd cd we oe ue0 hbe
              have ue : Hid (Upd (fun k => (Value.slice na n nc).ownBlock = some k ∨ (Value.slice va n vc).ownBlock = some k) y we) := (uyb.out.nw HWD.out).trans' ue0 (fun k _ e => Or.inr e)
              have HPU := Lib.hid (vb_push2 HVBy.out (Nat.le_trans HNM.out (by unfold maxLen; omega)) (fun k e => (hown.out k e).1) HYS.out.2.1 HYS.out.1 HVXy.out HWA.out (by rw [HL.out.2]; exact ob) ub0 (fun k e => by
                have e' : ga = k := by simpa [Value.ownBlock] using e
                subst e'; exact hbb) HWD.out (by rw [HL.out.1]; exact oe) ue0 (fun k e => by
                have e' : gd = k := by simpa [Value.ownBlock] using e
                subst e'; exact hbe))
              have hqe := HQBy.out _ ue.out
              obtain ⟨c0, c1, c2, c3⟩ := cell4F hqe
              obtain ⟨f0, f1, f2, f3⟩ := froz4F hqe
              have hbq2 := setCell_block (setCell_block hqe 2 (.slice (some ⟨ga, 0, none⟩) (n + 1) ca)) 3 (.slice (some ⟨gd, 0, none⟩) (n + 1) cd)
              have uS := Upd.set1 (Upd.set1 (Upd.refl _ we) HLT.out.2.2.2.2 2 (.slice (some ⟨ga, 0, none⟩) (n + 1) ca)) HLT.out.2.2.2.2 3 (.slice (some ⟨gd, 0, none⟩) (n + 1) cd)
              have hp2 := HPU.out.1.upd uS (fun k hk _ e => by have := HLT.out.1; omega)
              have uA : Upd (fun k => k = q) w3 we := HUy.out.trans' ue.out (fun k hk e => by have := (hown.out k e).2.1; omega)
              have uB := uA.trans' uS (fun k _ e => e)
              have HREL : Hid (∃ nv vv C', ((we.setCell ⟨q, 2, none⟩ (.slice (some ⟨ga, 0, none⟩) (n + 1) ca)).setCell ⟨q, 3, none⟩ (.slice (some ⟨gd, 0, none⟩) (n + 1) cd)).heap[q]? = some (.cells #[.int .i64 t.kind, .int .i64 0, nv, vv] tVl (0, 0)) ∧ VB w3.heap.size ((we.setCell ⟨q, 2, none⟩ (.slice (some ⟨ga, 0, none⟩) (n + 1) ca)).setCell ⟨q, 3, none⟩ (.slice (some ⟨gd, 0, none⟩) (n + 1) cd)) nv vv ((t.fs.take (n + 1)).map (·.1)) C' ∧ C'.map VC.v = (t.fs.take (n + 1)).map (fun f => (oneR d l f).getD Fm.noV)) := by
                refine ⟨_, _, C ++ [⟨.slice xa xl xc, .slice ya yl yc, xv⟩], hbq2, ?_, ?_⟩
                · rw [HSTT.out, List.map_append]; exact hp2
                · rw [HSTT.out, List.map_append, List.map_append, HCV.out]
                  show _ = _ ++ [(oneR d l (fn, ft)).getD Fm.noV]
                  rw [HXV.out]; rfl
              have HALL2 : Hid (∀ f ∈ t.fs.take (n + 1), ((Fm.getE l f.1).isSome && (oneR d l f).isSome) = true) := fun f hf => by
                rw [HSTT.out] at hf
                rcases List.mem_append.1 hf with hf | hf
                · exact HALL.out f hf
                · rw [List.mem_singleton.1 hf, HXV.out, HGO.out]; rfl
              have HUB := Lib.hid uB
              clear hqe hbq2 uS hp2 uA uB
              refine hK.out _ _ (fun e => absurd (show true = false from e) (by decide)) ?_
              clear hK K
              (try simp only [Act.put, List.setIfInBounds_toArray, List.set_cons_zero, List.set_cons_succ])
              refine wpAnyG_ready [12] (by kernel_rfl) (by simp) ?_
              refine AllG.cons rfl (fun K hK => ?_) AllG.nil
              go_simp
              refine hK.out _ _ (fun e => absurd (show true = false from e) (by decide)) ?_
              clear hK K
              (try simp only [Act.put, List.setIfInBounds_toArray, List.set_cons_zero, List.set_cons_succ])
              refine wpAnyG_pure (i := 13) (v := ?_) rfl (by kernel_rfl) (by kernel_rfl) (by kernel_rfl) (by kernel_rfl) (by kernel_rfl) (fun _ _ _ h => h) (by kernel_rfl) ?_ (fun e => absurd (show true = false from e) (by decide)) ?_
              rotate_left 1
              · (intro zz; go_simp; first | done | with_reducible rfl)
              (try simp only [Act.put, List.setIfInBounds_toArray, List.set_cons_zero, List.set_cons_succ])
              refine wpAnyG_ready [14] (by kernel_rfl) (by simp) ?_
              refine AllG.cons rfl (fun K hK => ?_) AllG.nil
              go_simp
              refine hK.out _ _ (fun e => absurd (show true = false from e) (by decide)) ?_
              clear hK K
              (try simp only [Act.put, List.setIfInBounds_toArray, List.set_cons_zero, List.set_cons_succ])
              refine wpAnyG_done (by kernel_rfl) ?_ _
              go_wp2_with fail
              go_roundw
              case rel => exact ⟨n + 1, by omega, by go_num, HREL.out, HALL2.out, HUB.out⟩
              case measure => simp [intOf]; omega
        · obtain rfl : n = t.fs.length := by omega
          have hN : (t.fs.take t.fs.length).map (·.1) = t.fs.map (·.1) := by rw [List.take_length]
          have hV : C.map VC.v = t.fs.map (fun f => (oneR d l f).getD Fm.noV) := by have := HCV.out; rwa [List.take_length] at this
          have hA : t.fs.all (fun f => (Fm.getE l f.1).isSome && (oneR d l f).isSome) = true := by
            have := HALL.out
            rw [List.take_length] at this
            exact List.all_eq_true.2 this
          have e9 : Fm.readF (d + 1) t s = some (.mk t.kind 0 (t.fs.map (·.1)) (t.fs.map fun f => (oneR d l f).getD Fm.noV)) := by rw [HT1.out, if_pos hA]
          have hd := HVB.out.done (k := t.kind) (n := 0) HK.out (by unfold I64; omega)
          rw [hN, hV] at hd
          have HR9 := Lib.hid HR9r.out
          have HU9 := Lib.hid HUr.out
          have HX := Lib.hid HBQ.out
          have HV : Hid (∀ v, Fm.readF (d + 1) t s = some v → t.kind = v.kind ∧ (0 : Int) = v.n ∧ VlAt (fun j => w.heap.size + 2 ≤ j) wr (.slice na t.fs.length nc) (.slice va t.fs.length vc) v) := fun v hv => by
            rw [e9] at hv
            obtain rfl := Option.some.inj hv
            exact ⟨rfl, rfl, hd.mono (fun k _ hk => by have := HLT.out.1; have := HLT.out.2.2.2.1; omega)⟩
          clear hN hV hA hd
          -- the way out: the world wr, the answer's flag true is that of e9 ; HX: the value's cells, HR9: the result's cells, HU9: the step from w, HV: what is read
          obtain ⟨x0, x1, x2, x3⟩ := cell4F HX.out
          obtain ⟨d0, d1, d2, d3⟩ := cell4F HR9.out
          obtain ⟨f0, f1, f2, f3⟩ := froz4F HR9.out
          have hz := rd_exit HGB.out rfl HR9.out HU9.out _ _ _ _ HV.out
          go_wp2_with fail
          obtain ⟨hz1, hz2⟩ := hz
          refine bodyPost_ret (rd_results (b := true) _ _ ?_ ?_ hz1) ?_ ?_
          · rfl
          · rfl
          · rfl
          exact ⟨_, _, _, _, _, _, _, _, by rw [(e9)]; rfl, hz2⟩
end Go.Proofs.YtcelfjoopagmlaaGreatDoor
namespace Go.Proofs.YtcelfjoopagmlaaGreatDoor
open Go.RowKit Go.MapKept
set_option linter.unusedVariables false
set_option linter.unusedSimpArgs false
attribute [local irreducible] Calls
open Fm (Ty Vl Str nameB rightTy rightVl)

theorem fmread_c : ∀ (d : Nat), d ≤ 4 → ∀ (t : Ty) (fv : Value) (s : Str) (w : World), Gm w → rightTy d t = true → TyAt w fv t → s.length ≤ 1000000 →
    Calls Tryz.prog 35 #[.agg #[.int .i64 t.kind, fv], .string ⟨s.toArray⟩] w (RdPost d t s w) := by
  intro d
  induction d with
  | zero => intro _ t fv s w g h; cases h
  | succ d ih =>
    intro hd t fv s w g hr ht hs
    have hR := Fm.rt_iff.1 hr
    have hkc : t.kind = 0 ∨ t.kind = 1 ∨ t.kind = 2 := by have := hR.k0; have := hR.k3; omega
    rcases hkc with hk | hk | hk
    · exact fmread_k0 d hd (ih (by omega)) t hk fv s w g hr ht hs
    · exact fmread_k1 d hd (ih (by omega)) t hk fv s w g hr ht hs
    · exact fmread_k2 d hd (ih (by omega)) t hk fv s w g hr ht hs
/-- What Write answers. -/
def fWrite (t : Ty) (v : Vl) : Str × Int := if rightTy 4 t = false then ([], 1) else if Fm.has t v = false then ([], 13) else (Fm.writeF 4 t v, 0)
/-- What Read answers: the value, the code. -/
def fRead (t : Ty) (s : Str) : Vl × Int := if rightTy 4 t = false then (Fm.noV, 1) else match Fm.readF 4 t s with
  | none => (Fm.noV, 34)
  | some v => (v, 0)
set_option maxHeartbeats 4000000 in
set_option maxRecDepth 100000 in
theorem Write_c (P : Nat → Prop) (fv : Value) (t : Ty) (nv vv : Value) (v : Vl) (w : World) (g : Gm w) (ht : TyAt w fv t) (h : VlAt P w nv vv v) :
    Calls Tryz.prog 10 #[.agg #[.int .i64 t.kind, fv], .agg #[.int .i64 v.kind, .int .i64 v.n, nv, vv]] w fun e w' => e = .returned (.tuple #[.string ⟨(fWrite t v).1.toArray⟩, .int .i64 (fWrite t v).2]) ∧ Nw w w' := by
  obtain ⟨fa, fc, rfl, -, -⟩ := ht.cells
  obtain ⟨na, nc, rfl, -, -⟩ := h.names
  obtain ⟨va, vc, rfl, -, -⟩ := h.vals
  have n1 := nw_alloc w (.cells #[.int .i64 t.kind, .slice fa t.fs.length fc] tTy)
  have n2 := nw_alloc (w.alloc (.cells #[.int .i64 t.kind, .slice fa t.fs.length fc] tTy)) (.cells #[.int .i64 v.kind, .int .i64 v.n, .slice na v.names.length nc, .slice va v.vals.length vc] tVl)
  have b1 := n2.keep (heap_new w (.cells #[.int .i64 t.kind, .slice fa t.fs.length fc] tTy))
  have b2 := heap_new (w.alloc (.cells #[.int .i64 t.kind, .slice fa t.fs.length fc] tTy)) (.cells #[.int .i64 v.kind, .int .i64 v.n, .slice na v.names.length nc, .slice va v.vals.length vc] tVl)
  rw [World.size_alloc] at b2
  have hN := n1.trans n2
  obtain ⟨W, hW⟩ : ∃ W, W = (w.alloc (.cells #[.int .i64 t.kind, .slice fa t.fs.length fc] tTy)).alloc (.cells #[.int .i64 v.kind, .int .i64 v.n, .slice na v.names.length nc, .slice va v.vals.length vc] tVl) := ⟨_, rfl⟩
  rw [← hW] at hN b1 b2
  have HN := Lib.hid hN
  have HW := Lib.hid hW
  have HC : Hid (∀ y, Nw W y → (y.cell? ⟨w.heap.size, 0, none⟩ = some (.int .i64 t.kind) ∧ y.cell? ⟨w.heap.size, 1, none⟩ = some (.slice fa t.fs.length fc)) ∧ y.cell? ⟨w.heap.size + 1, 0, none⟩ = some (.int .i64 v.kind) ∧ y.cell? ⟨w.heap.size + 1, 1, none⟩ = some (.int .i64 v.n) ∧ y.cell? ⟨w.heap.size + 1, 2, none⟩ = some (.slice na v.names.length nc) ∧ y.cell? ⟨w.heap.size + 1, 3, none⟩ = some (.slice va v.vals.length vc)) := fun y u => ⟨⟨by rw [cells_cell (Nw.keep u b1)]; rfl, by rw [cells_cell (Nw.keep u b1)]; rfl⟩, cell4F (Nw.keep u b2)⟩
  have HG := Lib.hid (g.upd hN)
  have HT := Lib.hid (ht.nw hN)
  have HV := Lib.hid (h.nw hN)
  have hr1 := Lib.hid (types_right_c _ t W HG.out HT.out)
  obtain ⟨⟨x0, x1⟩, y0, y1, y2, y3⟩ := HC.out W (Upd.refl _ _)
  clear n1 n2 b1 b2 hN hW g ht h
  go_enter Tryz.func10, Tryz.ntmps10
  go_upto_region 1 with fail
  rw [← HW.out]
  clear HW
  go_wp2_with fail
  cases h1 : rightTy 4 t with
  | false =>
    rw [h1] at hr1
    have e9 : Hid (fWrite t v = ([], 1)) := by show _ = _; unfold fWrite; rw [if_pos h1]
    (with_reducible refine (hr1.out).mono ?_)
    rintro _ w2 ⟨rfl, u2⟩
    have U2 := Lib.hid u2
    clear u2 x0 x1 y0 y1 y2 y3
    go_wp2_with fail
    go_ret2
    exact ⟨by rw [e9.out]; rfl, HN.out.trans U2.out⟩
  | true =>
  rw [h1] at hr1
  (with_reducible refine (hr1.out).mono ?_)
  rintro _ w2 ⟨rfl, u2⟩
  have hh := Lib.hid (has_c P _ t _ _ v w2 (HG.out.upd u2) (HT.out.nw u2) (HV.out.nw u2))
  have U2 := Lib.hid u2
  clear x0 x1 y0 y1 y2 y3
  obtain ⟨⟨x0, x1⟩, y0, y1, y2, y3⟩ := HC.out w2 u2
  clear u2
  cases h2 : Fm.has t v with
  | false =>
    rw [h2] at hh
    have e9 : Hid (fWrite t v = ([], 13)) := by show _ = _; unfold fWrite; rw [if_neg (by rw [h1]; simp), if_pos h2]
    go_wp2_with fail
    (with_reducible refine (hh.out).mono ?_)
    rintro _ w3 ⟨rfl, u3⟩
    have U3 := Lib.hid (U2.out.trans u3)
    clear u3 x0 x1 y0 y1 y2 y3
    go_wp2_with fail
    go_ret2
    exact ⟨by rw [e9.out]; rfl, HN.out.trans U3.out⟩
  | true =>
    rw [h2] at hh
    have e9 : Hid (fWrite t v = (Fm.writeF 4 t v, 0)) := by show _ = _; unfold fWrite; rw [if_neg (by rw [h1]; simp), if_neg (by rw [h2]; simp)]
    have h3 : rightVl 4 v = true ∧ Fm.fits 4 t v = true := by
      unfold Fm.has at h2
      simp only [Bool.and_eq_true] at h2
      exact ⟨h2.1.2, h2.2⟩
    go_wp2_with fail
    (with_reducible refine (hh.out).mono ?_)
    rintro _ w3 ⟨rfl, u3⟩
    have U3 := Lib.hid (U2.out.trans u3)
    have hw := Lib.hid (fmwrite_c P 4 (Nat.le_refl _) t _ v _ _ w3 (HG.out.upd U3.out) h1 h3.1 h3.2 (HT.out.nw U3.out) (HV.out.nw U3.out))
    clear u3 x0 x1 y0 y1 y2 y3
    obtain ⟨⟨x0, x1⟩, y0, y1, y2, y3⟩ := HC.out w3 U3.out
    go_wp2_with fail
    (with_reducible refine (hw.out).mono ?_)
    rintro _ w4 ⟨rfl, u4⟩
    have U4 := Lib.hid (U3.out.trans u4)
    clear u4 x0 x1 y0 y1 y2 y3
    go_wp2_with fail
    go_ret2
    exact ⟨by rw [e9.out]; rfl, HN.out.trans U4.out⟩
theorem rdp_results (tmps : Array Value) (w : World) {r : Nat} {k n c : Int} {nv vv : Value} (hr : tmps.getD 4 undef = .pointer (some ⟨r, 0, none⟩)) (h5 : tmps.getD 5 undef = .int .i64 c) (hb : w.heap[r]? = some (.cells #[.int .i64 k, .int .i64 n, nv, vv] tVl (0, 0))) :
    (results Tryz.f12 tmps).run Tryz.prog w = .ok (.tuple #[.agg #[.int .i64 k, .int .i64 n, nv, vv], .int .i64 c]) w := by
  obtain ⟨c0, c1, c2, c3⟩ := cell4F hb
  rw [Array.getD_eq_getD_getElem?] at hr h5
  simp [results, Tryz.results12, go_sem, hr, h5, c0, c1, c2, c3]
set_option maxHeartbeats 4000000 in
set_option maxRecDepth 100000 in
theorem Read_c (fv : Value) (t : Ty) (s : Str) (w : World) (g : Gm w) (ht : TyAt w fv t) (hs : s.length ≤ 1000000) :
    Calls Tryz.prog 12 #[.agg #[.int .i64 t.kind, fv], .string ⟨s.toArray⟩] w fun e w' => ∃ xn xv, e = .returned (.tuple #[.agg #[.int .i64 (fRead t s).1.kind, .int .i64 (fRead t s).1.n, xn, xv], .int .i64 (fRead t s).2]) ∧ Hid (VlAt (fun j => w.heap.size ≤ j) w' xn xv (fRead t s).1 ∧ Nw w w') := by
  have hgb := g.g.big
  obtain ⟨fa, fc, rfl, -, -⟩ := ht.cells
  have n1 := nw_alloc w (.cells #[.int .i64 t.kind, .slice fa t.fs.length fc] tTy)
  have n2 := nw_alloc (w.alloc (.cells #[.int .i64 t.kind, .slice fa t.fs.length fc] tTy)) (.cells #[.int .i64 0, .int .i64 0, .slice none 0 0, .slice none 0 0] tVl)
  have b1 := n2.keep (heap_new w (.cells #[.int .i64 t.kind, .slice fa t.fs.length fc] tTy))
  have b2 := heap_new (w.alloc (.cells #[.int .i64 t.kind, .slice fa t.fs.length fc] tTy)) (.cells #[.int .i64 0, .int .i64 0, .slice none 0 0, .slice none 0 0] tVl)
  rw [World.size_alloc] at b2
  have hN := n1.trans n2
  obtain ⟨W, hW⟩ : ∃ W, W = (w.alloc (.cells #[.int .i64 t.kind, .slice fa t.fs.length fc] tTy)).alloc (.cells #[.int .i64 0, .int .i64 0, .slice none 0 0, .slice none 0 0] tVl) := ⟨_, rfl⟩
  rw [← hW] at hN b1 b2
  have HN := Lib.hid hN
  have HW := Lib.hid hW
  have HC : Hid (∀ y, Nw W y → (y.cell? ⟨w.heap.size, 0, none⟩ = some (.int .i64 t.kind) ∧ y.cell? ⟨w.heap.size, 1, none⟩ = some (.slice fa t.fs.length fc)) ∧ y.heap[w.heap.size + 1]? = some (.cells #[.int .i64 0, .int .i64 0, .slice none 0 0, .slice none 0 0] tVl (0, 0))) := fun y u => ⟨⟨by rw [cells_cell (Nw.keep u b1)]; rfl, by rw [cells_cell (Nw.keep u b1)]; rfl⟩, Nw.keep u b2⟩
  have HG := Lib.hid (g.upd hN)
  have HT := Lib.hid (ht.nw hN)
  have hr1 := Lib.hid (types_right_c _ t W HG.out HT.out)
  have HS := Lib.hid hs
  have HGB : Hid (nG ≤ w.heap.size) := hgb
  have hws : Hid (W.heap.size = w.heap.size + 2) := by show _ = _; rw [hW]; simp
  obtain ⟨⟨x0, x1⟩, -⟩ := HC.out W (Upd.refl _ _)
  clear n1 n2 b1 b2 hN hW g ht hs hgb
  go_enter Tryz.func12, Tryz.ntmps12
  go_upto_region 1 with fail
  rw [← HW.out]
  clear HW
  go_wp2_with fail
  cases h1 : rightTy 4 t with
  | false =>
    rw [h1] at hr1
    have e9 : Hid (fRead t s = (Fm.noV, 1)) := by show _ = _; unfold fRead; rw [if_pos h1]
    (with_reducible refine (hr1.out).mono ?_)
    rintro _ w2 ⟨rfl, u2⟩
    obtain ⟨-, hb2⟩ := HC.out w2 u2
    have HU := Lib.hid (HN.out.trans u2)
    have HB := Lib.hid hb2
    obtain ⟨d0, d1, d2, d3⟩ := cell4F hb2
    obtain ⟨f0, f1, f2, f3⟩ := froz4F hb2
    have hg : nG ≤ w.heap.size + 1 := by have := HGB.out; omega
    have hz := Lib.hid (setCell_block (setCell_block (setCell_block (setCell_block hb2 0 (.int .i64 0)) 1 (.int .i64 0)) 2 (.slice none 0 0)) 3 (.slice none 0 0))
    have hu := Lib.hid (Upd.set1 (Upd.set1 (Upd.set1 (Upd.set1 (Upd.refl _ w2) hg 0 (.int .i64 0)) hg 1 (.int .i64 0)) hg 2 (.slice none 0 0)) hg 3 (.slice none 0 0))
    clear u2 x0 x1 hr1 hb2
    go_wp2_with fail
    refine bodyPost_ret (rdp_results (c := 1) _ _ ?_ ?_ hz.out) ?_ ?_
    · rfl
    · rfl
    · rfl
    exact ⟨_, _, by rw [e9.out]; rfl, by rw [e9.out]; exact VlAt.nil _ _ (by unfold I64; omega) (by unfold I64; omega), HU.out.trans' hu.out (fun k hk e => by omega)⟩
  | true =>
  rw [h1] at hr1
  (with_reducible refine (hr1.out).mono ?_)
  rintro _ w2 ⟨rfl, u2⟩
  have hrd := Lib.hid (fmread_c 4 (Nat.le_refl _) t _ s w2 (HG.out.upd u2) h1 (HT.out.nw u2) HS.out)
  have U2 := Lib.hid u2
  clear x0 x1 hr1
  obtain ⟨⟨x0, x1⟩, -⟩ := HC.out w2 u2
  clear u2
  go_wp2_with fail
  (with_reducible refine (hrd.out).mono ?_)
  rintro _ w3 ⟨k1, n1, xa, xl, xc, ya, yl, yc, rfl, HP⟩
  have n3 := nw_alloc w3 (.cells #[.int .i64 k1, .int .i64 n1, .slice xa xl xc, .slice ya yl yc] tVl)
  have b3 := heap_new w3 (.cells #[.int .i64 k1, .int .i64 n1, .slice xa xl xc, .slice ya yl yc] tVl)
  obtain ⟨w4, hw4⟩ : ∃ y, y = w3.alloc (.cells #[.int .i64 k1, .int .i64 n1, .slice xa xl xc, .slice ya yl yc] tVl) := ⟨_, rfl⟩
  rw [← hw4] at n3 b3
  have HW4 := Lib.hid hw4
  have HU4 : Hid (Nw W w4) := (U2.out.trans HP.out.2).trans n3
  have HN3 := Lib.hid n3
  have HS2 : Hid (w.heap.size + 2 ≤ w2.heap.size) := by have := U2.out.size; have := hws.out; show _ ≤ _; omega
  obtain ⟨-, hb4⟩ := HC.out w4 HU4.out
  obtain ⟨c0, c1, c2, c3⟩ := cell4F b3
  obtain ⟨d0, d1, d2, d3⟩ := cell4F hb4
  obtain ⟨f0, f1, f2, f3⟩ := froz4F hb4
  have HB4 := Lib.hid hb4
  have hg : nG ≤ w.heap.size + 1 := by have := HGB.out; omega
  clear hw4 n3 b3 hb4 hrd x0 x1
  go_upto_region 4 with fail
  rw [← HW4.out]
  clear HW4
  generalize w3.heap.size = p3 at *
  cases hr : Fm.readF 4 t s with
  | none =>
    have e9 : Hid (fRead t s = (Fm.noV, 34)) := by show _ = _; unfold fRead; rw [if_neg (by rw [h1]; simp), hr]
    have hz := Lib.hid (setCell_block (setCell_block (setCell_block (setCell_block HB4.out 0 (.int .i64 0)) 1 (.int .i64 0)) 2 (.slice none 0 0)) 3 (.slice none 0 0))
    have hu := Lib.hid (Upd.set1 (Upd.set1 (Upd.set1 (Upd.set1 (Upd.refl _ w4) hg 0 (.int .i64 0)) hg 1 (.int .i64 0)) hg 2 (.slice none 0 0)) hg 3 (.slice none 0 0))
    go_wp2_with fail
    refine bodyPost_ret (rdp_results (c := 34) _ _ ?_ ?_ hz.out) ?_ ?_
    · rfl
    · rfl
    · rfl
    exact ⟨_, _, by rw [e9.out]; rfl, by rw [e9.out]; exact VlAt.nil _ _ (by unfold I64; omega) (by unfold I64; omega), (HN.out.trans HU4.out).trans' hu.out (fun k hk e => by omega)⟩
  | some v =>
    have e9 : Hid (fRead t s = (v, 0)) := by show _ = _; unfold fRead; rw [if_neg (by rw [h1]; simp), hr]
    obtain ⟨q1, q2, q3⟩ := HP.out.1 v hr
    subst q1 q2
    have hz := Lib.hid (setCell_block (setCell_block (setCell_block (setCell_block HB4.out 0 (.int .i64 v.kind)) 1 (.int .i64 v.n)) 2 (.slice xa xl xc)) 3 (.slice ya yl yc))
    have hu := Lib.hid (Upd.set1 (Upd.set1 (Upd.set1 (Upd.set1 (Upd.refl _ w4) hg 0 (.int .i64 v.kind)) hg 1 (.int .i64 v.n)) hg 2 (.slice xa xl xc)) hg 3 (.slice ya yl yc))
    have hv := Lib.hid (((q3.nw HN3.out).upd hu.out (fun k hk e => by have := HS2.out; omega)).mono (Q := fun j => w.heap.size ≤ j) (fun k _ hk => by have := HS2.out; omega))
    clear q3
    go_wp2_with fail
    refine bodyPost_ret (rdp_results (c := 0) _ _ ?_ ?_ hz.out) ?_ ?_
    · rfl
    · rfl
    · rfl
    exact ⟨_, _, by rw [e9.out], by rw [e9.out]; exact hv.out, (HN.out.trans HU4.out).trans' hu.out (fun k hk e => by omega)⟩
end Go.Proofs.YtcelfjoopagmlaaGreatDoor
namespace Go.Proofs.YtcelfjoopagmlaaGreatDoor
open Go.RowKit Go.MapKept
set_option linter.unusedVariables false
set_option linter.unusedSimpArgs false
attribute [local irreducible] Calls
open Fm (Ty Vl Str nameB rightTy rightVl)

/-- What Reads answers. -/
def fReads (a b : Ty) : Bool := rightTy 4 a && rightTy 4 b && Fm.sub 4 a b
theorem reads_eq {a b : Ty} (ha : rightTy 4 a = true) (hb : rightTy 4 b = true) : (Fm.readF 4 b (Fm.writeF 4 a (Fm.zero 4 a))).isSome = Fm.sub 4 a b := by
  obtain ⟨h1, h2, h3⟩ := Fm.zero_ok ha
  rw [Fm.read_write (Nat.le_refl _) ha hb h1 h2 h3]
  cases h : Fm.sub 4 a b with
  | true => rfl
  | false => rfl
set_option maxHeartbeats 8000000 in
set_option maxRecDepth 100000 in
theorem Reads_c (fv gv : Value) (ta tb : Ty) (w : World) (g : Gm w) (ha : TyAt w fv ta) (hb : TyAt w gv tb) :
    Calls Tryz.prog 17 #[.agg #[.int .i64 ta.kind, fv], .agg #[.int .i64 tb.kind, gv]] w fun e w' => e = .returned (.bool (fReads ta tb)) ∧ Nw w w' := by
  have hgb := g.g.big
  obtain ⟨fa, fc, rfl, -, -⟩ := ha.cells
  obtain ⟨ga, gc, rfl, -, -⟩ := hb.cells
  have n1 := nw_alloc w (.cells #[.int .i64 ta.kind, .slice fa ta.fs.length fc] tTy)
  have n2 := nw_alloc (w.alloc (.cells #[.int .i64 ta.kind, .slice fa ta.fs.length fc] tTy)) (.cells #[.int .i64 tb.kind, .slice ga tb.fs.length gc] tTy)
  have b1 := n2.keep (heap_new w (.cells #[.int .i64 ta.kind, .slice fa ta.fs.length fc] tTy))
  have b2 := heap_new (w.alloc (.cells #[.int .i64 ta.kind, .slice fa ta.fs.length fc] tTy)) (.cells #[.int .i64 tb.kind, .slice ga tb.fs.length gc] tTy)
  rw [World.size_alloc] at b2
  have hN := n1.trans n2
  obtain ⟨W0, hW⟩ : ∃ W, W = (w.alloc (.cells #[.int .i64 ta.kind, .slice fa ta.fs.length fc] tTy)).alloc (.cells #[.int .i64 tb.kind, .slice ga tb.fs.length gc] tTy) := ⟨_, rfl⟩
  rw [← hW] at hN b1 b2
  have HN := Lib.hid hN
  have HW := Lib.hid hW
  have HC0 : Hid (∀ y, Nw W0 y → y.cell? ⟨w.heap.size, 0, none⟩ = some (.int .i64 ta.kind) ∧ y.cell? ⟨w.heap.size, 1, none⟩ = some (.slice fa ta.fs.length fc) ∧ y.cell? ⟨w.heap.size + 1, 0, none⟩ = some (.int .i64 tb.kind) ∧ y.cell? ⟨w.heap.size + 1, 1, none⟩ = some (.slice ga tb.fs.length gc)) := fun y u => ⟨by rw [cells_cell (Nw.keep u b1)]; rfl, by rw [cells_cell (Nw.keep u b1)]; rfl, by rw [cells_cell (Nw.keep u b2)]; rfl, by rw [cells_cell (Nw.keep u b2)]; rfl⟩
  have HG := Lib.hid (g.upd hN)
  have HTA := Lib.hid (ha.nw hN)
  have HTB := Lib.hid (hb.nw hN)
  have hr1 := Lib.hid (types_right_c _ ta W0 HG.out HTA.out)
  have HGB0 : Hid (nG ≤ W0.heap.size) := HG.out.g.big
  obtain ⟨x0, x1, x2, x3⟩ := HC0.out W0 (Upd.refl _ _)
  clear n1 n2 b1 b2 hN hW g ha hb hgb
  go_enter Tryz.func17, Tryz.ntmps17
  go_upto_region 1 with fail
  rw [← HW.out]
  clear HW
  go_wp2_with fail
  cases h1 : rightTy 4 ta with
  | false =>
    rw [h1] at hr1
    have e9 : Hid (fReads ta tb = false) := by show _ = _; unfold fReads; rw [h1]; rfl
    (with_reducible refine (hr1.out).mono ?_)
    rintro _ w2 ⟨rfl, u2⟩
    have U2 := Lib.hid u2
    clear u2 x0 x1 x2 x3
    go_wp2_with fail
    go_ret
    exact ⟨by rw [e9.out]; rfl, HN.out.trans U2.out⟩
  | true =>
  rw [h1] at hr1
  (with_reducible refine (hr1.out).mono ?_)
  rintro _ w2 ⟨rfl, u2⟩
  have hr2 := Lib.hid (types_right_c _ tb w2 (HG.out.upd u2) (HTB.out.nw u2))
  have U2 := Lib.hid u2
  clear x0 x1 x2 x3 hr1
  obtain ⟨x0, x1, x2, x3⟩ := HC0.out w2 u2
  clear u2
  cases h2 : rightTy 4 tb with
  | false =>
    rw [h2] at hr2
    have e9 : Hid (fReads ta tb = false) := by show _ = _; unfold fReads; rw [h2]; simp
    go_wp2_with fail
    (with_reducible refine (hr2.out).mono ?_)
    rintro _ w3 ⟨rfl, u3⟩
    have U3 := Lib.hid (U2.out.trans u3)
    clear u3 x0 x1 x2 x3
    go_wp2_with fail
    go_ret
    exact ⟨by rw [e9.out]; rfl, HN.out.trans U3.out⟩
  | true =>
  rw [h2] at hr2
  go_wp2_with fail
  (with_reducible refine (hr2.out).mono ?_)
  rintro _ W ⟨rfl, u3⟩
  have U3 := Lib.hid (U2.out.trans u3)
  have e9 : Hid (fReads ta tb = (Fm.readF 4 tb (Fm.writeF 4 ta (Fm.zero 4 ta))).isSome) := by show _ = _; unfold fReads; rw [h1, h2, reads_eq h1 h2]; rfl
  have HGB : Hid (nG ≤ W.heap.size) := Nat.le_trans HGB0.out U3.out.size
  have HC : Hid (∀ y, Nw W y → y.cell? ⟨w.heap.size, 0, none⟩ = some (.int .i64 ta.kind) ∧ y.cell? ⟨w.heap.size, 1, none⟩ = some (.slice fa ta.fs.length fc) ∧ y.cell? ⟨w.heap.size + 1, 0, none⟩ = some (.int .i64 tb.kind) ∧ y.cell? ⟨w.heap.size + 1, 1, none⟩ = some (.slice ga tb.fs.length gc)) := fun y u => HC0.out y (U3.out.trans u)
  have hzo := Fm.zero_ok h1
  have HZ : Hid (∀ y, Nw W y → Calls Tryz.prog 37 #[.agg #[.int .i64 ta.kind, .slice fa ta.fs.length fc]] y fun e w' => ∃ nv vv, e = .returned (.agg #[.int .i64 (Fm.zero 4 ta).kind, .int .i64 (Fm.zero 4 ta).n, nv, vv]) ∧ VlAt (fun k => y.heap.size ≤ k) w' nv vv (Fm.zero 4 ta) ∧ Nw y w') := fun y u => zero_c 4 (Nat.le_refl _) ta _ y (HG.out.upd (U3.out.trans u)) h1 (HTA.out.nw (U3.out.trans u))
  have HWr : Hid (∀ y, Nw W y → ∀ nv vv, (∃ P, VlAt P y nv vv (Fm.zero 4 ta)) → Calls Tryz.prog 31 #[.agg #[.int .i64 ta.kind, .slice fa ta.fs.length fc], .agg #[.int .i64 (Fm.zero 4 ta).kind, .int .i64 (Fm.zero 4 ta).n, nv, vv]] y fun e w' => e = .returned (.string ⟨(Fm.writeF 4 ta (Fm.zero 4 ta)).toArray⟩) ∧ Nw y w') := fun y u nv vv hv => by
    obtain ⟨P, hv⟩ := hv
    exact fmwrite_c P 4 (Nat.le_refl _) ta _ _ _ _ y (HG.out.upd (U3.out.trans u)) h1 hzo.1 hzo.2.1 (HTA.out.nw (U3.out.trans u)) hv
  have HRd : Hid (∀ y, Nw W y → Calls Tryz.prog 35 #[.agg #[.int .i64 tb.kind, .slice ga tb.fs.length gc], .string ⟨(Fm.writeF 4 ta (Fm.zero 4 ta)).toArray⟩] y (RdPost 4 tb (Fm.writeF 4 ta (Fm.zero 4 ta)) y)) := fun y u => fmread_c 4 (Nat.le_refl _) tb _ _ y (HG.out.upd (U3.out.trans u)) h2 (HTB.out.nw (U3.out.trans u)) (Nat.le_trans (Fm.write_len (Nat.le_refl _) h1 hzo.2.2) (by have := Fm.W4; omega))
  clear x0 x1 x2 x3 hr2 u3 h1 h2 hzo
  go_upto_region 3 with fail
  go_cut [6] from 15 to 23 (fun c wx => c = .bool (fReads ta tb) ∧ Nw W wx)
  case first =>
    have HRE : Hid ((Fm.readF 4 tb (Fm.writeF 4 ta (Fm.zero 4 ta))).isSome = fReads ta tb) := e9.out.symm
    obtain ⟨y, hy⟩ : ∃ y, y = W.drew := ⟨_, rfl⟩
    have HUy : Hid (Nw W y) := by show Nw _ _; rw [hy]; exact (Upd.refl _ _).drew
    have HY := Lib.hid hy
    have HS0 := Lib.hid (HC.out y HUy.out)
    clear hy
    refine wp_region_G (fun y => y.cell? ⟨w.heap.size, 0, none⟩ = some (.int .i64 ta.kind) ∧ y.cell? ⟨w.heap.size, 1, none⟩ = some (.slice fa ta.fs.length fc) ∧ y.cell? ⟨w.heap.size + 1, 0, none⟩ = some (.int .i64 tb.kind) ∧ y.cell? ⟨w.heap.size + 1, 1, none⟩ = some (.slice ga tb.fs.length gc)) 5 (by kernel_rfl) ?_
    rw [← HY.out]
    clear HY
    generalize Fm.writeF 4 ta (Fm.zero 4 ta) = sw at *
    refine wpAnyG_load (i := 0) (v := ?_) [] rfl (by kernel_rfl) (by kernel_rfl) (by kernel_rfl) (by kernel_rfl) (by kernel_rfl) (by kernel_rfl) (fun _ _ _ h => h) (by kernel_rfl) ?_ (fun _ => HS0.out) ?_
    rotate_left 1
    · (intro zz hS; obtain ⟨_, _, _, _⟩ := hS; go_simp; first | done | with_reducible rfl)
    (try simp only [Act.put, List.setIfInBounds_toArray, List.set_cons_zero, List.set_cons_succ])
    refine wpAnyG_load (i := 1) (v := ?_) [4] rfl (by kernel_rfl) (by kernel_rfl) (by kernel_rfl) (by kernel_rfl) (by kernel_rfl) (by kernel_rfl) (fun _ _ _ h => h) (by kernel_rfl) ?_ (fun _ => HS0.out) ?_
    rotate_left 1
    · (intro zz hS; obtain ⟨_, _, _, _⟩ := hS; go_simp; first | done | with_reducible rfl)
    (try simp only [Act.put, List.setIfInBounds_toArray, List.set_cons_zero, List.set_cons_succ])
    refine wpAnyG_load (i := 2) (v := ?_) [4, 3] rfl (by kernel_rfl) (by kernel_rfl) (by kernel_rfl) (by kernel_rfl) (by kernel_rfl) (by kernel_rfl) (fun _ _ _ h => h) (by kernel_rfl) ?_ (fun _ => HS0.out) ?_
    rotate_left 1
    · (intro zz hS; obtain ⟨_, _, _, _⟩ := hS; go_simp; first | done | with_reducible rfl)
    (try simp only [Act.put, List.setIfInBounds_toArray, List.set_cons_zero, List.set_cons_succ])
    refine wpAnyG_ready [3, 9] (by kernel_rfl) (by simp) ?_
    refine AllG.cons rfl (fun K hK => ?_) (AllG.cons rfl (fun K hK => ?_) AllG.nil)
    · -- Zero at y (HUy: behind W): the world y3
      have hCC := HZ.out (y) HUy.out
      go_simp
      (with_reducible refine (hCC).mono ?_)
      rintro _ y3 ⟨xn, xv, rfl, hx3, u3⟩
      clear hCC
      have HUy3 := Lib.hid (HUy.out.trans u3)
      have HVy3 : Hid (∃ P, VlAt P y3 xn xv (Fm.zero 4 ta)) := ⟨_, hx3⟩
      have HSy3 := Lib.hid u3
      clear hx3 u3
      refine hK.out _ _ (fun _ => HC.out _ HUy3.out) ?_
      clear hK K
      (try simp only [Act.put, List.setIfInBounds_toArray, List.set_cons_zero, List.set_cons_succ])
      refine wpAnyG_ready [4, 9] (by kernel_rfl) (by simp) ?_
      refine AllG.cons rfl (fun K hK => ?_) (AllG.cons rfl (fun K hK => ?_) AllG.nil)
      · -- write at y3 (HVy3: the value lies there): the world y4
        have hCC := HWr.out (y3) HUy3.out _ _ HVy3.out
        go_simp
        (with_reducible refine (hCC).mono ?_)
        rintro _ y4 ⟨rfl, u4⟩
        clear hCC
        have HUy4 := Lib.hid (HUy3.out.trans u4)
        have HSy4 := Lib.hid u4
        clear u4
        refine hK.out _ _ (fun _ => HC.out _ HUy4.out) ?_
        clear hK K
        (try simp only [Act.put, List.setIfInBounds_toArray, List.set_cons_zero, List.set_cons_succ])
        refine wpAnyG_ready [5, 9] (by kernel_rfl) (by simp) ?_
        refine AllG.cons rfl (fun K hK => ?_) (AllG.cons rfl (fun K hK => ?_) AllG.nil)
        · -- read at y4: the world y5
          have hCC := HRd.out (y4) HUy4.out
          go_simp
          (with_reducible refine (hCC).mono ?_)
          rintro _ y5 ⟨k1, n1, ra, rl, rc, qa, ql, qc, rfl, HP5⟩
          clear hCC
          have HUy5 := Lib.hid (HUy4.out.trans HP5.out.2)
          have HSy5 := Lib.hid HP5.out.2
          clear HP5
          refine hK.out _ _ (fun e => absurd (show true = false from e) (by decide)) ?_
          clear hK K
          (try simp only [Act.put, List.setIfInBounds_toArray, List.set_cons_zero, List.set_cons_succ])
          refine wpAnyG_pure (i := 6) (v := ?_) rfl (by kernel_rfl) (by kernel_rfl) (by kernel_rfl) (by kernel_rfl) (by kernel_rfl) (fun _ _ _ h => h) (by kernel_rfl) ?_ (fun e => absurd (show true = false from e) (by decide)) ?_
          rotate_left 1
          · (intro zz; go_simp; first | done | with_reducible rfl)
          (try simp only [Act.put, List.setIfInBounds_toArray, List.set_cons_zero, List.set_cons_succ])
          refine wpAnyG_pure (i := 7) (v := ?_) rfl (by kernel_rfl) (by kernel_rfl) (by kernel_rfl) (by kernel_rfl) (by kernel_rfl) (fun _ _ _ h => h) (by kernel_rfl) ?_ (fun e => absurd (show true = false from e) (by decide)) ?_
          rotate_left 1
          · (intro zz; go_simp; first | done | with_reducible rfl)
          (try simp only [Act.put, List.setIfInBounds_toArray, List.set_cons_zero, List.set_cons_succ])
          refine wpAnyG_pure (i := 8) (v := ?_) rfl (by kernel_rfl) (by kernel_rfl) (by kernel_rfl) (by kernel_rfl) (by kernel_rfl) (fun _ _ _ h => h) (by kernel_rfl) ?_ (fun e => absurd (show true = false from e) (by decide)) ?_
          rotate_left 1
          · (intro zz; go_simp; first | done | with_reducible rfl)
          (try simp only [Act.put, List.setIfInBounds_toArray, List.set_cons_zero, List.set_cons_succ])
          refine wpAnyG_ready [9] (by kernel_rfl) (by simp) ?_
          refine AllG.cons rfl (fun K hK => ?_) AllG.nil
          -- the alloc at y5: the world z of the cells at p; (fun e => absurd (show true = false from e) (by decide)) shows S there
          have nz := nw_alloc (y5) (.cells #[.int .i64 0, .int .i64 0, .slice none 0 0, .slice none 0 0] tVl)
          have bz := heap_new (y5) (.cells #[.int .i64 0, .int .i64 0, .slice none 0 0, .slice none 0 0] tVl)
          obtain ⟨z, hz⟩ : ∃ z, z = (y5).alloc (.cells #[.int .i64 0, .int .i64 0, .slice none 0 0, .slice none 0 0] tVl) := ⟨_, rfl⟩
          rw [← hz] at nz bz
          have Hz := Lib.hid hz
          clear hz
          go_simp
          rw [← Hz.out]
          clear Hz
          have HUz := Lib.hid (HUy5.out.trans nz)
          have HNz := Lib.hid nz
          have hp : ∃ p, p = (y5).heap.size := ⟨_, rfl⟩
          obtain ⟨p, hp⟩ := hp
          rw [← hp] at bz
          rw [← hp]
          have HPW : Hid (W.heap.size ≤ p) := by have := HUy5.out.size; show _ ≤ _; omega
          have HBz := Lib.hid bz
          clear hp bz nz
          refine hK.out _ _ (fun e => absurd (show true = false from e) (by decide)) ?_
          clear hK K
          (try simp only [Act.put, List.setIfInBounds_toArray, List.set_cons_zero, List.set_cons_succ])
          have HBE := HBz
          -- the store, the flag, at z (HBE: the cells at p there)
          obtain ⟨d0, d1, d2, d3⟩ := cell4F HBE.out
          obtain ⟨f0, f1, f2, f3⟩ := froz4F HBE.out
          refine wpAnyG_ready [10] (by kernel_rfl) (by simp) ?_
          refine AllG.cons rfl (fun K hK => ?_) AllG.nil
          go_simp
          refine hK.out _ _ (fun e => absurd (show true = false from e) (by decide)) ?_
          clear hK K
          (try simp only [Act.put, List.setIfInBounds_toArray, List.set_cons_zero, List.set_cons_succ])
          refine wpAnyG_ready [11] (by kernel_rfl) (by simp) ?_
          refine AllG.cons rfl (fun K hK => ?_) AllG.nil
          go_simp
          refine hK.out _ _ (fun e => absurd (show true = false from e) (by decide)) ?_
          clear hK K
          (try simp only [Act.put, List.setIfInBounds_toArray, List.set_cons_zero, List.set_cons_succ])
          refine wpAnyG_done (by kernel_rfl) ?_ _
          go_wp2_with fail
          go_meet
          have hg : nG ≤ p := by have := HPW.out; have := HGB.out; omega
          have hu := Upd.set1 (Upd.set1 (Upd.set1 (Upd.set1 (Upd.refl _ (z)) hg 0 (.int .i64 k1)) hg 1 (.int .i64 n1)) hg 2 (.slice ra rl rc)) hg 3 (.slice qa ql qc)
          exact ⟨by rw [HRE.out], HUz.out.trans' hu (fun k hk e => by have := HPW.out; omega)⟩
        · -- the alloc at y4: the world z of the cells at p; (fun _ => HC.out _ HUz.out) shows S there
          have nz := nw_alloc (y4) (.cells #[.int .i64 0, .int .i64 0, .slice none 0 0, .slice none 0 0] tVl)
          have bz := heap_new (y4) (.cells #[.int .i64 0, .int .i64 0, .slice none 0 0, .slice none 0 0] tVl)
          obtain ⟨z, hz⟩ : ∃ z, z = (y4).alloc (.cells #[.int .i64 0, .int .i64 0, .slice none 0 0, .slice none 0 0] tVl) := ⟨_, rfl⟩
          rw [← hz] at nz bz
          have Hz := Lib.hid hz
          clear hz
          go_simp
          rw [← Hz.out]
          clear Hz
          have HUz := Lib.hid (HUy4.out.trans nz)
          have HNz := Lib.hid nz
          have hp : ∃ p, p = (y4).heap.size := ⟨_, rfl⟩
          obtain ⟨p, hp⟩ := hp
          rw [← hp] at bz
          rw [← hp]
          have HPW : Hid (W.heap.size ≤ p) := by have := HUy4.out.size; show _ ≤ _; omega
          have HBz := Lib.hid bz
          clear hp bz nz
          refine hK.out _ _ (fun _ => HC.out _ HUz.out) ?_
          clear hK K
          (try simp only [Act.put, List.setIfInBounds_toArray, List.set_cons_zero, List.set_cons_succ])
          refine wpAnyG_ready [5] (by kernel_rfl) (by simp) ?_
          refine AllG.cons rfl (fun K hK => ?_) AllG.nil
          -- read at z: the world y5
          have hCC := HRd.out (z) HUz.out
          go_simp
          (with_reducible refine (hCC).mono ?_)
          rintro _ y5 ⟨k1, n1, ra, rl, rc, qa, ql, qc, rfl, HP5⟩
          clear hCC
          have HUy5 := Lib.hid (HUz.out.trans HP5.out.2)
          have HSy5 := Lib.hid HP5.out.2
          clear HP5
          refine hK.out _ _ (fun e => absurd (show true = false from e) (by decide)) ?_
          clear hK K
          (try simp only [Act.put, List.setIfInBounds_toArray, List.set_cons_zero, List.set_cons_succ])
          refine wpAnyG_pure (i := 6) (v := ?_) rfl (by kernel_rfl) (by kernel_rfl) (by kernel_rfl) (by kernel_rfl) (by kernel_rfl) (fun _ _ _ h => h) (by kernel_rfl) ?_ (fun e => absurd (show true = false from e) (by decide)) ?_
          rotate_left 1
          · (intro zz; go_simp; first | done | with_reducible rfl)
          (try simp only [Act.put, List.setIfInBounds_toArray, List.set_cons_zero, List.set_cons_succ])
          refine wpAnyG_pure (i := 7) (v := ?_) rfl (by kernel_rfl) (by kernel_rfl) (by kernel_rfl) (by kernel_rfl) (by kernel_rfl) (fun _ _ _ h => h) (by kernel_rfl) ?_ (fun e => absurd (show true = false from e) (by decide)) ?_
          rotate_left 1
          · (intro zz; go_simp; first | done | with_reducible rfl)
          (try simp only [Act.put, List.setIfInBounds_toArray, List.set_cons_zero, List.set_cons_succ])
          refine wpAnyG_pure (i := 8) (v := ?_) rfl (by kernel_rfl) (by kernel_rfl) (by kernel_rfl) (by kernel_rfl) (by kernel_rfl) (fun _ _ _ h => h) (by kernel_rfl) ?_ (fun e => absurd (show true = false from e) (by decide)) ?_
          rotate_left 1
          · (intro zz; go_simp; first | done | with_reducible rfl)
          (try simp only [Act.put, List.setIfInBounds_toArray, List.set_cons_zero, List.set_cons_succ])
          have HBE := Lib.hid (Nw.keep HSy5.out HBz.out)
          -- the store, the flag, at y5 (HBE: the cells at p there)
          obtain ⟨d0, d1, d2, d3⟩ := cell4F HBE.out
          obtain ⟨f0, f1, f2, f3⟩ := froz4F HBE.out
          refine wpAnyG_ready [10] (by kernel_rfl) (by simp) ?_
          refine AllG.cons rfl (fun K hK => ?_) AllG.nil
          go_simp
          refine hK.out _ _ (fun e => absurd (show true = false from e) (by decide)) ?_
          clear hK K
          (try simp only [Act.put, List.setIfInBounds_toArray, List.set_cons_zero, List.set_cons_succ])
          refine wpAnyG_ready [11] (by kernel_rfl) (by simp) ?_
          refine AllG.cons rfl (fun K hK => ?_) AllG.nil
          go_simp
          refine hK.out _ _ (fun e => absurd (show true = false from e) (by decide)) ?_
          clear hK K
          (try simp only [Act.put, List.setIfInBounds_toArray, List.set_cons_zero, List.set_cons_succ])
          refine wpAnyG_done (by kernel_rfl) ?_ _
          go_wp2_with fail
          go_meet
          have hg : nG ≤ p := by have := HPW.out; have := HGB.out; omega
          have hu := Upd.set1 (Upd.set1 (Upd.set1 (Upd.set1 (Upd.refl _ (y5)) hg 0 (.int .i64 k1)) hg 1 (.int .i64 n1)) hg 2 (.slice ra rl rc)) hg 3 (.slice qa ql qc)
          exact ⟨by rw [HRE.out], HUy5.out.trans' hu (fun k hk e => by have := HPW.out; omega)⟩
      · -- the alloc at y3: the world z of the cells at p; (fun _ => HC.out _ HUz.out) shows S there
        have nz := nw_alloc (y3) (.cells #[.int .i64 0, .int .i64 0, .slice none 0 0, .slice none 0 0] tVl)
        have bz := heap_new (y3) (.cells #[.int .i64 0, .int .i64 0, .slice none 0 0, .slice none 0 0] tVl)
        obtain ⟨z, hz⟩ : ∃ z, z = (y3).alloc (.cells #[.int .i64 0, .int .i64 0, .slice none 0 0, .slice none 0 0] tVl) := ⟨_, rfl⟩
        rw [← hz] at nz bz
        have Hz := Lib.hid hz
        clear hz
        go_simp
        rw [← Hz.out]
        clear Hz
        have HUz := Lib.hid (HUy3.out.trans nz)
        have HNz := Lib.hid nz
        have hp : ∃ p, p = (y3).heap.size := ⟨_, rfl⟩
        obtain ⟨p, hp⟩ := hp
        rw [← hp] at bz
        rw [← hp]
        have HPW : Hid (W.heap.size ≤ p) := by have := HUy3.out.size; show _ ≤ _; omega
        have HBz := Lib.hid bz
        clear hp bz nz
        refine hK.out _ _ (fun _ => HC.out _ HUz.out) ?_
        clear hK K
        (try simp only [Act.put, List.setIfInBounds_toArray, List.set_cons_zero, List.set_cons_succ])
        have HVz : Hid (∃ P, VlAt P z xn xv (Fm.zero 4 ta)) := by
          obtain ⟨P, h⟩ := HVy3.out
          exact ⟨P, h.nw HNz.out⟩
        refine wpAnyG_ready [4] (by kernel_rfl) (by simp) ?_
        refine AllG.cons rfl (fun K hK => ?_) AllG.nil
        -- write at z (HVz: the value lies there): the world y4
        have hCC := HWr.out (z) HUz.out _ _ HVz.out
        go_simp
        (with_reducible refine (hCC).mono ?_)
        rintro _ y4 ⟨rfl, u4⟩
        clear hCC
        have HUy4 := Lib.hid (HUz.out.trans u4)
        have HSy4 := Lib.hid u4
        clear u4
        refine hK.out _ _ (fun _ => HC.out _ HUy4.out) ?_
        clear hK K
        (try simp only [Act.put, List.setIfInBounds_toArray, List.set_cons_zero, List.set_cons_succ])
        refine wpAnyG_ready [5] (by kernel_rfl) (by simp) ?_
        refine AllG.cons rfl (fun K hK => ?_) AllG.nil
        -- read at y4: the world y5
        have hCC := HRd.out (y4) HUy4.out
        go_simp
        (with_reducible refine (hCC).mono ?_)
        rintro _ y5 ⟨k1, n1, ra, rl, rc, qa, ql, qc, rfl, HP5⟩
        clear hCC
        have HUy5 := Lib.hid (HUy4.out.trans HP5.out.2)
        have HSy5 := Lib.hid HP5.out.2
        clear HP5
        refine hK.out _ _ (fun e => absurd (show true = false from e) (by decide)) ?_
        clear hK K
        (try simp only [Act.put, List.setIfInBounds_toArray, List.set_cons_zero, List.set_cons_succ])
        refine wpAnyG_pure (i := 6) (v := ?_) rfl (by kernel_rfl) (by kernel_rfl) (by kernel_rfl) (by kernel_rfl) (by kernel_rfl) (fun _ _ _ h => h) (by kernel_rfl) ?_ (fun e => absurd (show true = false from e) (by decide)) ?_
        rotate_left 1
        · (intro zz; go_simp; first | done | with_reducible rfl)
        (try simp only [Act.put, List.setIfInBounds_toArray, List.set_cons_zero, List.set_cons_succ])
        refine wpAnyG_pure (i := 7) (v := ?_) rfl (by kernel_rfl) (by kernel_rfl) (by kernel_rfl) (by kernel_rfl) (by kernel_rfl) (fun _ _ _ h => h) (by kernel_rfl) ?_ (fun e => absurd (show true = false from e) (by decide)) ?_
        rotate_left 1
        · (intro zz; go_simp; first | done | with_reducible rfl)
        (try simp only [Act.put, List.setIfInBounds_toArray, List.set_cons_zero, List.set_cons_succ])
        refine wpAnyG_pure (i := 8) (v := ?_) rfl (by kernel_rfl) (by kernel_rfl) (by kernel_rfl) (by kernel_rfl) (by kernel_rfl) (fun _ _ _ h => h) (by kernel_rfl) ?_ (fun e => absurd (show true = false from e) (by decide)) ?_
        rotate_left 1
        · (intro zz; go_simp; first | done | with_reducible rfl)
        (try simp only [Act.put, List.setIfInBounds_toArray, List.set_cons_zero, List.set_cons_succ])
        have HBE := Lib.hid (Nw.keep (HSy4.out.trans HSy5.out) HBz.out)
        -- the store, the flag, at y5 (HBE: the cells at p there)
        obtain ⟨d0, d1, d2, d3⟩ := cell4F HBE.out
        obtain ⟨f0, f1, f2, f3⟩ := froz4F HBE.out
        refine wpAnyG_ready [10] (by kernel_rfl) (by simp) ?_
        refine AllG.cons rfl (fun K hK => ?_) AllG.nil
        go_simp
        refine hK.out _ _ (fun e => absurd (show true = false from e) (by decide)) ?_
        clear hK K
        (try simp only [Act.put, List.setIfInBounds_toArray, List.set_cons_zero, List.set_cons_succ])
        refine wpAnyG_ready [11] (by kernel_rfl) (by simp) ?_
        refine AllG.cons rfl (fun K hK => ?_) AllG.nil
        go_simp
        refine hK.out _ _ (fun e => absurd (show true = false from e) (by decide)) ?_
        clear hK K
        (try simp only [Act.put, List.setIfInBounds_toArray, List.set_cons_zero, List.set_cons_succ])
        refine wpAnyG_done (by kernel_rfl) ?_ _
        go_wp2_with fail
        go_meet
        have hg : nG ≤ p := by have := HPW.out; have := HGB.out; omega
        have hu := Upd.set1 (Upd.set1 (Upd.set1 (Upd.set1 (Upd.refl _ (y5)) hg 0 (.int .i64 k1)) hg 1 (.int .i64 n1)) hg 2 (.slice ra rl rc)) hg 3 (.slice qa ql qc)
        exact ⟨by rw [HRE.out], HUy5.out.trans' hu (fun k hk e => by have := HPW.out; omega)⟩
    · -- the alloc at y: the world z of the cells at p; (fun _ => HC.out _ HUz.out) shows S there
      have nz := nw_alloc (y) (.cells #[.int .i64 0, .int .i64 0, .slice none 0 0, .slice none 0 0] tVl)
      have bz := heap_new (y) (.cells #[.int .i64 0, .int .i64 0, .slice none 0 0, .slice none 0 0] tVl)
      obtain ⟨z, hz⟩ : ∃ z, z = (y).alloc (.cells #[.int .i64 0, .int .i64 0, .slice none 0 0, .slice none 0 0] tVl) := ⟨_, rfl⟩
      rw [← hz] at nz bz
      have Hz := Lib.hid hz
      clear hz
      go_simp
      rw [← Hz.out]
      clear Hz
      have HUz := Lib.hid (HUy.out.trans nz)
      have HNz := Lib.hid nz
      have hp : ∃ p, p = (y).heap.size := ⟨_, rfl⟩
      obtain ⟨p, hp⟩ := hp
      rw [← hp] at bz
      rw [← hp]
      have HPW : Hid (W.heap.size ≤ p) := by have := HUy.out.size; show _ ≤ _; omega
      have HBz := Lib.hid bz
      clear hp bz nz
      refine hK.out _ _ (fun _ => HC.out _ HUz.out) ?_
      clear hK K
      (try simp only [Act.put, List.setIfInBounds_toArray, List.set_cons_zero, List.set_cons_succ])
      refine wpAnyG_ready [3] (by kernel_rfl) (by simp) ?_
      refine AllG.cons rfl (fun K hK => ?_) AllG.nil
      -- Zero at z (HUz: behind W): the world y3
      have hCC := HZ.out (z) HUz.out
      go_simp
      (with_reducible refine (hCC).mono ?_)
      rintro _ y3 ⟨xn, xv, rfl, hx3, u3⟩
      clear hCC
      have HUy3 := Lib.hid (HUz.out.trans u3)
      have HVy3 : Hid (∃ P, VlAt P y3 xn xv (Fm.zero 4 ta)) := ⟨_, hx3⟩
      have HSy3 := Lib.hid u3
      clear hx3 u3
      refine hK.out _ _ (fun _ => HC.out _ HUy3.out) ?_
      clear hK K
      (try simp only [Act.put, List.setIfInBounds_toArray, List.set_cons_zero, List.set_cons_succ])
      refine wpAnyG_ready [4] (by kernel_rfl) (by simp) ?_
      refine AllG.cons rfl (fun K hK => ?_) AllG.nil
      -- write at y3 (HVy3: the value lies there): the world y4
      have hCC := HWr.out (y3) HUy3.out _ _ HVy3.out
      go_simp
      (with_reducible refine (hCC).mono ?_)
      rintro _ y4 ⟨rfl, u4⟩
      clear hCC
      have HUy4 := Lib.hid (HUy3.out.trans u4)
      have HSy4 := Lib.hid u4
      clear u4
      refine hK.out _ _ (fun _ => HC.out _ HUy4.out) ?_
      clear hK K
      (try simp only [Act.put, List.setIfInBounds_toArray, List.set_cons_zero, List.set_cons_succ])
      refine wpAnyG_ready [5] (by kernel_rfl) (by simp) ?_
      refine AllG.cons rfl (fun K hK => ?_) AllG.nil
      -- read at y4: the world y5
      have hCC := HRd.out (y4) HUy4.out
      go_simp
      (with_reducible refine (hCC).mono ?_)
      rintro _ y5 ⟨k1, n1, ra, rl, rc, qa, ql, qc, rfl, HP5⟩
      clear hCC
      have HUy5 := Lib.hid (HUy4.out.trans HP5.out.2)
      have HSy5 := Lib.hid HP5.out.2
      clear HP5
      refine hK.out _ _ (fun e => absurd (show true = false from e) (by decide)) ?_
      clear hK K
      (try simp only [Act.put, List.setIfInBounds_toArray, List.set_cons_zero, List.set_cons_succ])
      refine wpAnyG_pure (i := 6) (v := ?_) rfl (by kernel_rfl) (by kernel_rfl) (by kernel_rfl) (by kernel_rfl) (by kernel_rfl) (fun _ _ _ h => h) (by kernel_rfl) ?_ (fun e => absurd (show true = false from e) (by decide)) ?_
      rotate_left 1
      · (intro zz; go_simp; first | done | with_reducible rfl)
      (try simp only [Act.put, List.setIfInBounds_toArray, List.set_cons_zero, List.set_cons_succ])
      refine wpAnyG_pure (i := 7) (v := ?_) rfl (by kernel_rfl) (by kernel_rfl) (by kernel_rfl) (by kernel_rfl) (by kernel_rfl) (fun _ _ _ h => h) (by kernel_rfl) ?_ (fun e => absurd (show true = false from e) (by decide)) ?_
      rotate_left 1
      · (intro zz; go_simp; first | done | with_reducible rfl)
      (try simp only [Act.put, List.setIfInBounds_toArray, List.set_cons_zero, List.set_cons_succ])
      refine wpAnyG_pure (i := 8) (v := ?_) rfl (by kernel_rfl) (by kernel_rfl) (by kernel_rfl) (by kernel_rfl) (by kernel_rfl) (fun _ _ _ h => h) (by kernel_rfl) ?_ (fun e => absurd (show true = false from e) (by decide)) ?_
      rotate_left 1
      · (intro zz; go_simp; first | done | with_reducible rfl)
      (try simp only [Act.put, List.setIfInBounds_toArray, List.set_cons_zero, List.set_cons_succ])
      have HBE := Lib.hid (Nw.keep ((HSy3.out.trans HSy4.out).trans HSy5.out) HBz.out)
      -- the store, the flag, at y5 (HBE: the cells at p there)
      obtain ⟨d0, d1, d2, d3⟩ := cell4F HBE.out
      obtain ⟨f0, f1, f2, f3⟩ := froz4F HBE.out
      refine wpAnyG_ready [10] (by kernel_rfl) (by simp) ?_
      refine AllG.cons rfl (fun K hK => ?_) AllG.nil
      go_simp
      refine hK.out _ _ (fun e => absurd (show true = false from e) (by decide)) ?_
      clear hK K
      (try simp only [Act.put, List.setIfInBounds_toArray, List.set_cons_zero, List.set_cons_succ])
      refine wpAnyG_ready [11] (by kernel_rfl) (by simp) ?_
      refine AllG.cons rfl (fun K hK => ?_) AllG.nil
      go_simp
      refine hK.out _ _ (fun e => absurd (show true = false from e) (by decide)) ?_
      clear hK K
      (try simp only [Act.put, List.setIfInBounds_toArray, List.set_cons_zero, List.set_cons_succ])
      refine wpAnyG_done (by kernel_rfl) ?_ _
      go_wp2_with fail
      go_meet
      have hg : nG ≤ p := by have := HPW.out; have := HGB.out; omega
      have hu := Upd.set1 (Upd.set1 (Upd.set1 (Upd.set1 (Upd.refl _ (y5)) hg 0 (.int .i64 k1)) hg 1 (.int .i64 n1)) hg 2 (.slice ra rl rc)) hg 3 (.slice qa ql qc)
      exact ⟨by rw [HRE.out], HUy5.out.trans' hu (fun k hk e => by have := HPW.out; omega)⟩
  case rest =>
    obtain ⟨rfl, hw⟩ := hcut
    have HF := Lib.hid ((HN.out.trans U3.out).trans hw)
    clear hw
    go_wp2_with fail
    go_ret
    exact ⟨rfl, HF.out⟩
end Go.Proofs.YtcelfjoopagmlaaGreatDoor
namespace Go.Proofs.YtcelfjoopagmlaaGreatDoor
open Go.RowKit Go.MapKept
set_option linter.unusedVariables false
set_option linter.unusedSimpArgs false
attribute [local irreducible] Calls
open Fm (Ty Vl Str nameB rightTy rightVl)

/-- What Witness answers. -/
def fWit (a b : Ty) : Vl × Bool := if rightTy 4 a = true ∧ rightTy 4 b = true ∧ Fm.sub 4 a b = false then (Fm.zero 4 a, true) else (Fm.noV, false)
theorem reads_self {a b : Ty} (ha : rightTy 4 a = true) (hb : rightTy 4 b = true) : fReads a b = Fm.sub 4 a b := by unfold fReads; rw [ha, hb]; rfl
theorem wit_results (tmps : Array Value) (w : World) {r : Nat} {k n : Int} {nv vv : Value} {b : Bool} (hr : tmps.getD 4 undef = .pointer (some ⟨r, 0, none⟩)) (h5 : tmps.getD 5 undef = .bool b) (hb : w.heap[r]? = some (.cells #[.int .i64 k, .int .i64 n, nv, vv] tVl (0, 0))) :
    (results Tryz.f14 tmps).run Tryz.prog w = .ok (.tuple #[.agg #[.int .i64 k, .int .i64 n, nv, vv], .bool b]) w := by
  obtain ⟨c0, c1, c2, c3⟩ := cell4F hb
  rw [Array.getD_eq_getD_getElem?] at hr h5
  simp [results, Tryz.results14, go_sem, hr, h5, c0, c1, c2, c3]
set_option maxHeartbeats 4000000 in
set_option maxRecDepth 100000 in
theorem Both_c (fv gv : Value) (ta tb : Ty) (w : World) (g : Gm w) (ha : TyAt w fv ta) (hb : TyAt w gv tb) :
    Calls Tryz.prog 19 #[.agg #[.int .i64 ta.kind, fv], .agg #[.int .i64 tb.kind, gv]] w fun e w' => e = .returned (.bool (fReads ta tb && fReads tb ta)) ∧ Nw w w' := by
  obtain ⟨fa, fc, rfl, -, -⟩ := ha.cells
  obtain ⟨ga, gc, rfl, -, -⟩ := hb.cells
  have n1 := nw_alloc w (.cells #[.int .i64 ta.kind, .slice fa ta.fs.length fc] tTy)
  have n2 := nw_alloc (w.alloc (.cells #[.int .i64 ta.kind, .slice fa ta.fs.length fc] tTy)) (.cells #[.int .i64 tb.kind, .slice ga tb.fs.length gc] tTy)
  have b1 := n2.keep (heap_new w (.cells #[.int .i64 ta.kind, .slice fa ta.fs.length fc] tTy))
  have b2 := heap_new (w.alloc (.cells #[.int .i64 ta.kind, .slice fa ta.fs.length fc] tTy)) (.cells #[.int .i64 tb.kind, .slice ga tb.fs.length gc] tTy)
  rw [World.size_alloc] at b2
  have hN := n1.trans n2
  obtain ⟨W0, hW⟩ : ∃ W, W = (w.alloc (.cells #[.int .i64 ta.kind, .slice fa ta.fs.length fc] tTy)).alloc (.cells #[.int .i64 tb.kind, .slice ga tb.fs.length gc] tTy) := ⟨_, rfl⟩
  rw [← hW] at hN b1 b2
  have HN := Lib.hid hN
  have HW := Lib.hid hW
  have HC0 : Hid (∀ y, Nw W0 y → y.cell? ⟨w.heap.size, 0, none⟩ = some (.int .i64 ta.kind) ∧ y.cell? ⟨w.heap.size, 1, none⟩ = some (.slice fa ta.fs.length fc) ∧ y.cell? ⟨w.heap.size + 1, 0, none⟩ = some (.int .i64 tb.kind) ∧ y.cell? ⟨w.heap.size + 1, 1, none⟩ = some (.slice ga tb.fs.length gc)) := fun y u => ⟨by rw [cells_cell (Nw.keep u b1)]; rfl, by rw [cells_cell (Nw.keep u b1)]; rfl, by rw [cells_cell (Nw.keep u b2)]; rfl, by rw [cells_cell (Nw.keep u b2)]; rfl⟩
  have HG := Lib.hid (g.upd hN)
  have HTA := Lib.hid (ha.nw hN)
  have HTB := Lib.hid (hb.nw hN)
  have hr1 := Lib.hid (Reads_c _ _ ta tb W0 HG.out HTA.out HTB.out)
  obtain ⟨x0, x1, x2, x3⟩ := HC0.out W0 (Upd.refl _ _)
  clear n1 n2 b1 b2 hN hW g ha hb
  go_enter Tryz.func19, Tryz.ntmps19
  go_upto_region 1 with fail
  rw [← HW.out]
  clear HW
  go_wp2_with fail
  (with_reducible refine (hr1.out).mono ?_)
  rintro _ w2 ⟨rfl, u2⟩
  have hr2 := Lib.hid (Reads_c _ _ tb ta w2 (HG.out.upd u2) (HTB.out.nw u2) (HTA.out.nw u2))
  have U2 := Lib.hid u2
  clear x0 x1 x2 x3 hr1
  obtain ⟨x0, x1, x2, x3⟩ := HC0.out w2 u2
  clear u2
  cases h1 : fReads ta tb with
  | false =>
    clear hr2
    go_wp2_with fail
    go_ret
    exact ⟨by rw [h1]; rfl, HN.out.trans U2.out⟩
  | true =>
    go_wp2_with fail
    (with_reducible refine (hr2.out).mono ?_)
    rintro _ w3 ⟨rfl, u3⟩
    have U3 := Lib.hid (U2.out.trans u3)
    clear u3 x0 x1 x2 x3
    go_wp2_with fail
    go_ret
    exact ⟨by rw [h1]; rfl, HN.out.trans U3.out⟩
set_option maxHeartbeats 4000000 in
set_option maxRecDepth 100000 in
theorem Witness_c (fv gv : Value) (ta tb : Ty) (w : World) (g : Gm w) (ha : TyAt w fv ta) (hb : TyAt w gv tb) :
    Calls Tryz.prog 14 #[.agg #[.int .i64 ta.kind, fv], .agg #[.int .i64 tb.kind, gv]] w fun e w' => ∃ xn xv, e = .returned (.tuple #[.agg #[.int .i64 (fWit ta tb).1.kind, .int .i64 (fWit ta tb).1.n, xn, xv], .bool (fWit ta tb).2]) ∧ Hid (VlAt (fun j => w.heap.size ≤ j) w' xn xv (fWit ta tb).1 ∧ Nw w w') := by
  have hgb := g.g.big
  obtain ⟨fa, fc, rfl, -, -⟩ := ha.cells
  obtain ⟨ga, gc, rfl, -, -⟩ := hb.cells
  have n1 := nw_alloc w (.cells #[.int .i64 ta.kind, .slice fa ta.fs.length fc] tTy)
  have n2 := nw_alloc (w.alloc (.cells #[.int .i64 ta.kind, .slice fa ta.fs.length fc] tTy)) (.cells #[.int .i64 tb.kind, .slice ga tb.fs.length gc] tTy)
  have b1 := n2.keep (heap_new w (.cells #[.int .i64 ta.kind, .slice fa ta.fs.length fc] tTy))
  have b2 := heap_new (w.alloc (.cells #[.int .i64 ta.kind, .slice fa ta.fs.length fc] tTy)) (.cells #[.int .i64 tb.kind, .slice ga tb.fs.length gc] tTy)
  rw [World.size_alloc] at b2
  obtain ⟨W1, hW1⟩ : ∃ W, W = (w.alloc (.cells #[.int .i64 ta.kind, .slice fa ta.fs.length fc] tTy)).alloc (.cells #[.int .i64 tb.kind, .slice ga tb.fs.length gc] tTy) := ⟨_, rfl⟩
  have hs1 : W1.heap.size = w.heap.size + 1 + 1 := by rw [hW1]; simp
  have hN1 := n1.trans n2
  rw [← hW1] at hN1 b1 b2
  have n3 := nw_alloc W1 (.cells #[.int .i64 0, .int .i64 0, .slice none 0 0, .slice none 0 0] tVl)
  have b3 := heap_new W1 (.cells #[.int .i64 0, .int .i64 0, .slice none 0 0, .slice none 0 0] tVl)
  rw [hs1] at b3
  replace b1 := n3.keep b1
  replace b2 := n3.keep b2
  have hN := hN1.trans n3
  obtain ⟨W0, hW⟩ : ∃ W, W = W1.alloc (.cells #[.int .i64 0, .int .i64 0, .slice none 0 0, .slice none 0 0] tVl) := ⟨_, rfl⟩
  have hs0 : W0.heap.size = w.heap.size + 3 := by rw [hW]; simp [hs1]
  rw [← hW] at hN b1 b2 b3
  rw [hW1] at hW
  have HN := Lib.hid hN
  have HW := Lib.hid hW
  have HS0 := Lib.hid hs0
  have HGB : Hid (nG ≤ w.heap.size) := hgb
  have HB3 := Lib.hid b3
  have HC0 : Hid (∀ y, Nw W0 y → y.cell? ⟨w.heap.size, 0, none⟩ = some (.int .i64 ta.kind) ∧ y.cell? ⟨w.heap.size, 1, none⟩ = some (.slice fa ta.fs.length fc) ∧ y.cell? ⟨w.heap.size + 1, 0, none⟩ = some (.int .i64 tb.kind) ∧ y.cell? ⟨w.heap.size + 1, 1, none⟩ = some (.slice ga tb.fs.length gc)) := fun y u => ⟨by rw [cells_cell (Nw.keep u b1)]; rfl, by rw [cells_cell (Nw.keep u b1)]; rfl, by rw [cells_cell (Nw.keep u b2)]; rfl, by rw [cells_cell (Nw.keep u b2)]; rfl⟩
  have HG := Lib.hid (g.upd hN)
  have HTA := Lib.hid (ha.nw hN)
  have HTB := Lib.hid (hb.nw hN)
  have hr1 := Lib.hid (types_right_c _ ta W0 HG.out HTA.out)
  obtain ⟨x0, x1, x2, x3⟩ := HC0.out W0 (Upd.refl _ _)
  clear n1 n2 n3 b1 b2 b3 hN hN1 hW hW1 hs1 hs0 g ha hb hgb
  go_enter Tryz.func14, Tryz.ntmps14
  go_upto_region 1 with fail
  rw [← HW.out]
  clear HW
  go_wp2_with fail
  cases h1 : rightTy 4 ta with
  | false =>
    rw [h1] at hr1
    have e9 : Hid (fWit ta tb = (Fm.noV, false)) := by show _ = _; unfold fWit; rw [if_neg (by rw [h1]; simp)]
    (with_reducible refine (hr1.out).mono ?_)
    rintro _ w2 ⟨rfl, u2⟩
    have U2 := Lib.hid u2
    clear u2 x0 x1 x2 x3
    -- the way out, nothing stored but zeros: the world w2, behind W0 by Uw2
    have hb4 := Nw.keep (U2.out) HB3.out
    obtain ⟨d0, d1, d2, d3⟩ := cell4F hb4
    obtain ⟨f0, f1, f2, f3⟩ := froz4F hb4
    have hg : nG ≤ w.heap.size + 1 + 1 := by have := HGB.out; omega
    have hz := Lib.hid (setCell_block (setCell_block (setCell_block (setCell_block hb4 0 (.int .i64 0)) 1 (.int .i64 0)) 2 (.slice none 0 0)) 3 (.slice none 0 0))
    have hu := Lib.hid (Upd.set1 (Upd.set1 (Upd.set1 (Upd.set1 (Upd.refl _ (w2)) hg 0 (.int .i64 0)) hg 1 (.int .i64 0)) hg 2 (.slice none 0 0)) hg 3 (.slice none 0 0))
    clear hb4
    go_wp2_with fail
    refine bodyPost_ret (wit_results (b := false) _ _ ?_ ?_ hz.out) ?_ ?_
    · rfl
    · rfl
    · rfl
    exact ⟨_, _, by rw [e9.out]; rfl, by rw [e9.out]; exact VlAt.nil _ _ (by unfold I64; omega) (by unfold I64; omega), (HN.out.trans (U2.out)).trans' hu.out (fun k hk e => by omega)⟩
  | true =>
  rw [h1] at hr1
  (with_reducible refine (hr1.out).mono ?_)
  rintro _ w2 ⟨rfl, u2⟩
  have hr2 := Lib.hid (types_right_c _ tb w2 (HG.out.upd u2) (HTB.out.nw u2))
  have U2 := Lib.hid u2
  clear x0 x1 x2 x3 hr1
  obtain ⟨x0, x1, x2, x3⟩ := HC0.out w2 u2
  clear u2
  cases h2 : rightTy 4 tb with
  | false =>
    rw [h2] at hr2
    have e9 : Hid (fWit ta tb = (Fm.noV, false)) := by show _ = _; unfold fWit; rw [if_neg (by rw [h2]; simp)]
    go_wp2_with fail
    (with_reducible refine (hr2.out).mono ?_)
    rintro _ w3 ⟨rfl, u3⟩
    have U3 := Lib.hid (U2.out.trans u3)
    clear u3 x0 x1 x2 x3
    -- the way out, nothing stored but zeros: the world w3, behind W0 by Uw3
    have hb4 := Nw.keep (U3.out) HB3.out
    obtain ⟨d0, d1, d2, d3⟩ := cell4F hb4
    obtain ⟨f0, f1, f2, f3⟩ := froz4F hb4
    have hg : nG ≤ w.heap.size + 1 + 1 := by have := HGB.out; omega
    have hz := Lib.hid (setCell_block (setCell_block (setCell_block (setCell_block hb4 0 (.int .i64 0)) 1 (.int .i64 0)) 2 (.slice none 0 0)) 3 (.slice none 0 0))
    have hu := Lib.hid (Upd.set1 (Upd.set1 (Upd.set1 (Upd.set1 (Upd.refl _ (w3)) hg 0 (.int .i64 0)) hg 1 (.int .i64 0)) hg 2 (.slice none 0 0)) hg 3 (.slice none 0 0))
    clear hb4
    go_wp2_with fail
    refine bodyPost_ret (wit_results (b := false) _ _ ?_ ?_ hz.out) ?_ ?_
    · rfl
    · rfl
    · rfl
    exact ⟨_, _, by rw [e9.out]; rfl, by rw [e9.out]; exact VlAt.nil _ _ (by unfold I64; omega) (by unfold I64; omega), (HN.out.trans (U3.out)).trans' hu.out (fun k hk e => by omega)⟩
  | true =>
  rw [h2] at hr2
  go_wp2_with fail
  (with_reducible refine (hr2.out).mono ?_)
  rintro _ w3 ⟨rfl, u3⟩
  have hr3 := Lib.hid (Reads_c _ _ ta tb w3 (HG.out.upd (U2.out.trans u3)) (HTA.out.nw (U2.out.trans u3)) (HTB.out.nw (U2.out.trans u3)))
  rw [reads_self h1 h2] at hr3
  have U3 := Lib.hid (U2.out.trans u3)
  clear x0 x1 x2 x3 hr2 u3
  obtain ⟨x0, x1, x2, x3⟩ := HC0.out w3 U3.out
  go_wp2_with fail
  cases h3 : Fm.sub 4 ta tb with
  | true =>
    rw [h3] at hr3
    have e9 : Hid (fWit ta tb = (Fm.noV, false)) := by show _ = _; unfold fWit; rw [if_neg (by rw [h3]; simp)]
    (with_reducible refine (hr3.out).mono ?_)
    rintro _ w4 ⟨rfl, u4⟩
    have U4 := Lib.hid (U3.out.trans u4)
    clear u4 x0 x1 x2 x3
    -- the way out, nothing stored but zeros: the world w4, behind W0 by Uw4
    have hb4 := Nw.keep (U4.out) HB3.out
    obtain ⟨d0, d1, d2, d3⟩ := cell4F hb4
    obtain ⟨f0, f1, f2, f3⟩ := froz4F hb4
    have hg : nG ≤ w.heap.size + 1 + 1 := by have := HGB.out; omega
    have hz := Lib.hid (setCell_block (setCell_block (setCell_block (setCell_block hb4 0 (.int .i64 0)) 1 (.int .i64 0)) 2 (.slice none 0 0)) 3 (.slice none 0 0))
    have hu := Lib.hid (Upd.set1 (Upd.set1 (Upd.set1 (Upd.set1 (Upd.refl _ (w4)) hg 0 (.int .i64 0)) hg 1 (.int .i64 0)) hg 2 (.slice none 0 0)) hg 3 (.slice none 0 0))
    clear hb4
    go_wp2_with fail
    refine bodyPost_ret (wit_results (b := false) _ _ ?_ ?_ hz.out) ?_ ?_
    · rfl
    · rfl
    · rfl
    exact ⟨_, _, by rw [e9.out]; rfl, by rw [e9.out]; exact VlAt.nil _ _ (by unfold I64; omega) (by unfold I64; omega), (HN.out.trans (U4.out)).trans' hu.out (fun k hk e => by omega)⟩
  | false =>
    rw [h3] at hr3
    have e9 : Hid (fWit ta tb = (Fm.zero 4 ta, true)) := by show _ = _; unfold fWit; rw [if_pos ⟨h1, h2, h3⟩]
    (with_reducible refine (hr3.out).mono ?_)
    rintro _ w4 ⟨rfl, u4⟩
    have hz := Lib.hid (zero_c 4 (Nat.le_refl _) ta _ w4 (HG.out.upd (U3.out.trans u4)) h1 (HTA.out.nw (U3.out.trans u4)))
    have U4 := Lib.hid (U3.out.trans u4)
    clear u4 x0 x1 x2 x3 hr3
    obtain ⟨x0, x1, x2, x3⟩ := HC0.out w4 U4.out
    go_wp2_with fail
    (with_reducible refine (hz.out).mono ?_)
    rintro _ w5 ⟨xn, xv, rfl, hx, u5⟩
    obtain ⟨xa, xc, rfl, -⟩ := hx.names
    obtain ⟨ya, yc, rfl, -⟩ := hx.vals
    have U5 := Lib.hid (U4.out.trans u5)
    have hb4 := Nw.keep U5.out HB3.out
    obtain ⟨d0, d1, d2, d3⟩ := cell4F hb4
    obtain ⟨f0, f1, f2, f3⟩ := froz4F hb4
    have hg : nG ≤ w.heap.size + 1 + 1 := by have := HGB.out; omega
    have hz9 := Lib.hid (setCell_block (setCell_block (setCell_block (setCell_block hb4 0 (.int .i64 (Fm.zero 4 ta).kind)) 1 (.int .i64 (Fm.zero 4 ta).n)) 2 (.slice xa (Fm.zero 4 ta).names.length xc)) 3 (.slice ya (Fm.zero 4 ta).vals.length yc))
    have hu := Lib.hid (Upd.set1 (Upd.set1 (Upd.set1 (Upd.set1 (Upd.refl _ w5) hg 0 (.int .i64 (Fm.zero 4 ta).kind)) hg 1 (.int .i64 (Fm.zero 4 ta).n)) hg 2 (.slice xa (Fm.zero 4 ta).names.length xc)) hg 3 (.slice ya (Fm.zero 4 ta).vals.length yc))
    have hsz : Hid (w.heap.size + 3 ≤ w4.heap.size) := by have := U4.out.size; have := HS0.out; show _ ≤ _; omega
    have hv := Lib.hid ((hx.upd hu.out (fun k hk e => by have := hsz.out; omega)).mono (Q := fun j => w.heap.size ≤ j) (fun k _ hk => by have := hsz.out; omega))
    clear hb4 hx hz u5 x0 x1 x2 x3
    generalize Fm.zero 4 ta = zv at *
    go_wp2_with fail
    refine bodyPost_ret (wit_results (b := true) _ _ ?_ ?_ hz9.out) ?_ ?_
    · rfl
    · rfl
    · rfl
    exact ⟨_, _, by rw [e9.out], by rw [e9.out]; exact hv.out, (HN.out.trans U5.out).trans' hu.out (fun k hk e => by omega)⟩
end Go.Proofs.YtcelfjoopagmlaaGreatDoor
namespace Go.Proofs.YtcelfjoopagmlaaGreatDoor
open Go.RowKit Go.MapKept
set_option linter.unusedVariables false
set_option linter.unusedSimpArgs false
attribute [local irreducible] Calls
open Fm (Ty Vl Str nameB rightTy rightVl)

theorem Join_one (b o cap : Nat) (s : ByteArray) (w : World) (h : w.cell? ⟨b, o, none⟩ = some (.string s)) :
    Calls Tryz.prog 46 #[.slice (some ⟨b, o, none⟩) 1 cap, .string ⟨#[44]⟩] w fun e w' => e = .returned (.string s) ∧ w = w' := by
  go_enter Tryz.func46, Tryz.ntmps46
  go_wp2_with fail
  go_ret
  exact ⟨rfl, rfl⟩
def vX : Vl := .mk 2 0 [[120]] [Fm.noV]
theorem text_zero (P : Nat → Prop) (nv vv : Value) (w : World) (g : Gm w) (h : VlAt P w nv vv Fm.noV) :
    Calls Tryz.prog 29 #[.agg #[.int .i64 0, .int .i64 0, nv, vv]] w fun e w' => e = .returned (.string ⟨#[48]⟩) ∧ Nw w w' := by
  have hv0 := h
  obtain ⟨na, nc, rfl, -, -⟩ := h.names
  obtain ⟨va, vc, rfl, -, -⟩ := h.vals
  have n1 := nw_alloc w (.cells #[.int .i64 0, .int .i64 0, .slice na 0 nc, .slice va 0 vc] tVl)
  have b1 := heap_new w (.cells #[.int .i64 0, .int .i64 0, .slice na 0 nc, .slice va 0 vc] tVl)
  obtain ⟨W, hW⟩ : ∃ W, W = w.alloc (.cells #[.int .i64 0, .int .i64 0, .slice na 0 nc, .slice va 0 vc] tVl) := ⟨_, rfl⟩
  rw [← hW] at n1 b1
  have HW := Lib.hid hW
  have HN := Lib.hid n1
  have HB := Lib.hid b1
  have HG := Lib.hid (g.upd n1)
  obtain ⟨x0, x1, x2, x3⟩ := cell4F b1
  have hR : rightVl 4 Fm.noV = true := by decide +kernel
  have hr1 : Hid (Calls Tryz.prog 40 #[.agg #[.int .i64 0, .int .i64 0, .slice na 0 nc, .slice va 0 vc]] W fun e w' => e = .returned (.bool true) ∧ Nw W w') := by
    have := evright_c P _ _ Fm.noV W (hv0.nw n1)
    rw [hR] at this
    exact this
  clear n1 b1 hW h hv0 g hR
  change Calls Tryz.prog 29 #[.agg #[.int .i64 0, .int .i64 0, .slice na 0 nc, .slice va 0 vc]] w _
  go_enter Tryz.func29, Tryz.ntmps29
  go_upto_region 1 with fail
  rw [← HW.out]
  clear HW
  go_wp2_with fail
  (with_reducible refine (hr1.out).mono ?_)
  rintro _ w2 ⟨rfl, u2⟩
  have U2 := Lib.hid u2
  have hi := Lib.hid (Itoa_c 0 w2 (HG.out.upd u2).g (by unfold I64; omega))
  clear x0 x1 x2 x3
  obtain ⟨x0, x1, x2, x3⟩ := cell4F (Nw.keep u2 HB.out)
  clear u2 hr1
  go_wp2_with fail
  (with_reducible refine (hi.out).mono ?_)
  rintro _ w3 ⟨rfl, u3⟩
  have U3 := Lib.hid ((HN.out.trans U2.out).trans u3)
  clear u3
  go_wp2_with fail
  go_ret
  have e0 : Lib.itoa 0 = [48] := by decide +kernel
  exact ⟨by rw [e0]; rfl, U3.out⟩
set_option maxHeartbeats 4000000 in
set_option maxRecDepth 100000 in
theorem text_x (P : Nat → Prop) (nv vv : Value) (w : World) (g : Gm w) (h : VlAt P w nv vv vX) :
    Calls Tryz.prog 29 #[.agg #[.int .i64 2, .int .i64 0, nv, vv]] w fun e w' => e = .returned (.string ⟨#[123, 120, 61, 48, 125]⟩) ∧ Nw w w' := by
  have hv0 := h
  obtain ⟨na, nc, rfl, -, hn⟩ := h.names
  obtain ⟨va, vc, rfl, -, hv⟩ := h.vals
  rcases hn with hn | ⟨nb, no, rfl, -, hn⟩
  · cases hn
  rcases hv with hv | ⟨vb, vo, rfl, -, hv⟩
  · cases hv
  obtain ⟨hn0, -⟩ := hn 0 (by decide)
  obtain ⟨nv', vv', q0, q1, q2, q3, q4⟩ := hv 0 (by decide)
  have n1 := nw_alloc w (.cells #[.int .i64 2, .int .i64 0, .slice (some ⟨nb, no, none⟩) 1 nc, .slice (some ⟨vb, vo, none⟩) 1 vc] tVl)
  have b1 := heap_new w (.cells #[.int .i64 2, .int .i64 0, .slice (some ⟨nb, no, none⟩) 1 nc, .slice (some ⟨vb, vo, none⟩) 1 vc] tVl)
  obtain ⟨W, hW⟩ : ∃ W, W = w.alloc (.cells #[.int .i64 2, .int .i64 0, .slice (some ⟨nb, no, none⟩) 1 nc, .slice (some ⟨vb, vo, none⟩) 1 vc] tVl) := ⟨_, rfl⟩
  rw [← hW] at n1 b1
  have HW := Lib.hid hW
  have HN := Lib.hid n1
  have HB := Lib.hid b1
  have HG := Lib.hid (g.upd n1)
  have hR : rightVl 4 vX = true := by decide +kernel
  have hr1 : Hid (Calls Tryz.prog 40 #[.agg #[.int .i64 2, .int .i64 0, .slice (some ⟨nb, no, none⟩) 1 nc, .slice (some ⟨vb, vo, none⟩) 1 vc]] W fun e w' => e = .returned (.bool true) ∧ Nw W w') := by
    have := evright_c P _ _ vX W (hv0.nw n1)
    rw [hR] at this
    exact this
  have HGW : Hid (nG ≤ W.heap.size) := HG.out.g.big
  obtain ⟨xa, xc, rfl, -⟩ := q4.names
  obtain ⟨ya, yc, rfl, -⟩ := q4.vals
  have HC : Hid (∀ y, Nw W y → (y.cell? ⟨w.heap.size, 0, none⟩ = some (.int .i64 2) ∧ y.cell? ⟨w.heap.size, 1, none⟩ = some (.int .i64 0) ∧ y.cell? ⟨w.heap.size, 2, none⟩ = some (.slice (some ⟨nb, no, none⟩) 1 nc) ∧ y.cell? ⟨w.heap.size, 3, none⟩ = some (.slice (some ⟨vb, vo, none⟩) 1 vc)) ∧ y.cell? ⟨nb, no, none⟩ = some (.string ⟨#[120]⟩) ∧ y.cell? ⟨vb, vo, none⟩ = some (.int .i64 0) ∧ y.cell? ⟨vb, vo + 1, none⟩ = some (.int .i64 0) ∧ y.cell? ⟨vb, vo + 2, none⟩ = some (.slice xa 0 xc) ∧ y.cell? ⟨vb, vo + 3, none⟩ = some (.slice ya 0 yc)) := fun y u => ⟨cell4F (Nw.keep u HB.out), nw_cellF (HN.out.trans u) hn0, nw_cellF (HN.out.trans u) q0, nw_cellF (HN.out.trans u) q1, nw_cellF (HN.out.trans u) q2, nw_cellF (HN.out.trans u) q3⟩
  have HT : Hid (∀ y, Nw W y → Calls Tryz.prog 29 #[.agg #[.int .i64 0, .int .i64 0, .slice xa 0 xc, .slice ya 0 yc]] y fun e w' => e = .returned (.string ⟨#[48]⟩) ∧ Nw y w') := fun y u => text_zero P _ _ y (HG.out.upd u) (q4.nw (HN.out.trans u))
  obtain ⟨⟨x0, x1, x2, x3⟩, -⟩ := HC.out W (Upd.refl _ _)
  clear n1 b1 hW h hv0 g hR hn hv hn0 q0 q1 q2 q3 q4
  change Calls Tryz.prog 29 #[.agg #[.int .i64 2, .int .i64 0, .slice (some ⟨nb, no, none⟩) 1 nc, .slice (some ⟨vb, vo, none⟩) 1 vc]] w _
  go_enter Tryz.func29, Tryz.ntmps29
  go_upto_region 1 with fail
  rw [← HW.out]
  clear HW
  go_wp2_with fail
  (with_reducible refine (hr1.out).mono ?_)
  rintro _ w2 ⟨rfl, u2⟩
  have U2 := Lib.hid u2
  clear x0 x1 x2 x3 hr1
  obtain ⟨⟨x0, x1, x2, x3⟩, -⟩ := HC.out w2 u2
  clear u2
  go_wp2_with fail
  go_loopw [3, 25] (fun sv iv wr => ∃ n : Nat, n ≤ 1 ∧ iv = .int .i64 (n : Int) ∧ Hid (Nw W wr) ∧ (n = 0 → sv = .slice none 0 0) ∧ (n = 1 → ∃ bb oo cap, sv = .slice (some ⟨bb, oo, none⟩) 1 cap ∧ wr.cell? ⟨bb, oo, none⟩ = some (.string ⟨#[120, 61, 48]⟩))) (fun _ iv _ => 1 - (intOf iv).toNat)
  case atStart => exact ⟨0, by omega, rfl, U2.out, fun _ => rfl, fun h => by cases h⟩
  case round =>
    obtain ⟨n, hn, rfl, hw, h0, h1⟩ := hrel
    clear x0 x1 x2 x3
    obtain ⟨⟨x0, x1, x2, x3⟩, y0, y1, y2, y3, y4⟩ := HC.out wr hw.out
    have hn2 : n = 0 ∨ n = 1 := by omega
    rcases hn2 with rfl | rfl
    · obtain rfl := h0 rfl
      clear h0 h1
      have ht := Lib.hid (HT.out wr hw.out)
      go_wp2_with fail
      (with_reducible refine (ht.out).mono ?_)
      rintro _ w3 ⟨rfl, u3⟩
      have hw3 := Lib.hid (hw.out.trans u3)
      have hgw : nG ≤ w3.heap.size := Nat.le_trans HGW.out hw3.out.size
      clear u3 ht
      go_wp2_with (at_builtin; refine wpList_appL rfl _ _ 25 rfl w3.heap.size 9 _ 1 16 Tryz.underlying25 infoStrF rfl (by decide) (.slice none 0 0) 0 [] rfl (World.ownsRow_nil _ _ _ _) [.string ⟨#[120, 61, 48]⟩] rfl rfl (by intro u hu; rw [List.mem_singleton.1 hu]; rfl) (by unfold maxLen; omega) (by omega) (Nat.le_refl _) hgw ?_)
      intro v' w4 ho hu hb
      obtain ⟨a, cap, rfl, -, ha⟩ := (Sl.of_owns ho).open_
      rcases ha with ⟨_, _, hnil⟩ | ⟨bb, oo, rfl, _, _, _, hcell⟩
      · cases hnil
      have hc := Lib.hid (hcell 0 (by decide))
      have hw4 := Lib.hid (hw3.out.trans' hu (fun k _ e => by cases e))
      clear hcell ho hu hb
      go_wp2_with fail
      go_roundw
      case rel => exact ⟨1, by omega, by go_num, hw4.out, (fun h => by cases h), fun _ => ⟨bb, oo, cap, rfl, hc.out⟩⟩
      case measure => simp [intOf]
    · obtain ⟨bb, oo, cap, rfl, hc⟩ := h1 rfl
      clear h0 h1
      have hj := Lib.hid (Join_one bb oo cap _ wr hc)
      clear hc
      go_wp2_with fail
      (with_reducible refine (hj.out).mono ?_)
      rintro _ _ ⟨rfl, rfl⟩
      go_wp2_with fail
      go_ret
      exact ⟨rfl, HN.out.trans hw.out⟩
end Go.Proofs.YtcelfjoopagmlaaGreatDoor
namespace Go.Proofs.YtcelfjoopagmlaaGreatDoor
open Go.RowKit Go.MapKept
set_option linter.unusedVariables false
set_option linter.unusedSimpArgs false
attribute [local irreducible] Calls
open Fm (Ty Vl Str nameB rightTy rightVl)

def tX : Ty := .mk 2 [([120], .mk 0 [])]
def tXY : Ty := .mk 2 [([120], .mk 0 []), ([121], .mk 1 [])]
def vE : Vl := .mk 2 0 [[120], [121]] [.mk 0 5 [] [], .mk 1 1 [] []]
theorem own_block_row {w : World} {b n sz : Nat} {e : TypeId} {xs : List Value} (hb : w.heap[b]? = some (.cells xs.toArray e (0, 0))) (hl : xs.length = n * sz) (hn : n ≤ maxLen) : w.ownsRow b e sz (.slice (some ⟨b, 0, none⟩) n n) n xs :=
  ⟨hl, Or.inr ⟨b, n, xs.toArray, rfl, Nat.le_refl _, hb, Nat.le_refl _, hn, by simp [hl], by show xs.take (n * sz) = xs; rw [← hl, List.take_length]⟩⟩
theorem ty_nil (w : World) {k : Int} (hk : I64 k) : TyAt w (.slice none 0 0) (.mk k []) :=
  .mk 0 0 [] (Or.inl ⟨_, _, rfl, rfl⟩) hk (fun c h => by cases h) (fun c h => by cases h)
theorem i64_0 : I64 0 := by unfold I64; omega
theorem i64_1 : I64 1 := by unfold I64; omega
theorem i64_2 : I64 2 := by unfold I64; omega
theorem i64_5 : I64 5 := by unfold I64; omega
theorem ty_x {w : World} {b : Nat} (hb : w.heap[b]? = some (.cells #[.string ⟨#[120]⟩, .int .i64 0, .slice none 0 0] tFd (0, 0))) : TyAt w (.slice (some ⟨b, 0, none⟩) 1 1) tX := by
  have h := own_block_row (n := 1) (sz := 3) (xs := [.string ⟨#[120]⟩, .int .i64 0, .slice none 0 0]) hb rfl (by unfold maxLen; omega)
  refine .mk b w.heap.size [([120], .slice none 0 0, .mk 0 [])] (SlS.of_owns (xs := [[.string ⟨#[120]⟩, .int .i64 0, .slice none 0 0]]) h rfl (by omega) (fun y hy => by rw [List.mem_singleton.1 hy]; rfl)) i64_2 (fun c hc => ?_) (fun c hc => ?_)
  · rw [List.mem_singleton.1 hc]; unfold maxLen; simp
  · rw [List.mem_singleton.1 hc]; exact ty_nil w i64_0
theorem ty_xy {w : World} {b : Nat} (hb : w.heap[b]? = some (.cells #[.string ⟨#[120]⟩, .int .i64 0, .slice none 0 0, .string ⟨#[121]⟩, .int .i64 1, .slice none 0 0] tFd (0, 0))) : TyAt w (.slice (some ⟨b, 0, none⟩) 2 2) tXY := by
  have h := own_block_row (n := 2) (sz := 3) (xs := [.string ⟨#[120]⟩, .int .i64 0, .slice none 0 0, .string ⟨#[121]⟩, .int .i64 1, .slice none 0 0]) hb rfl (by unfold maxLen; omega)
  refine .mk b w.heap.size [([120], .slice none 0 0, .mk 0 []), ([121], .slice none 0 0, .mk 1 [])] (SlS.of_owns (xs := [[.string ⟨#[120]⟩, .int .i64 0, .slice none 0 0], [.string ⟨#[121]⟩, .int .i64 1, .slice none 0 0]]) h rfl (by omega) (fun y hy => by simp at hy; rcases hy with rfl | rfl <;> rfl)) i64_2 (fun c hc => ?_) (fun c hc => ?_)
  · simp at hc; rcases hc with rfl | rfl <;> (unfold maxLen; simp)
  · simp at hc; rcases hc with rfl | rfl
    · exact ty_nil w i64_0
    · exact ty_nil w i64_1
theorem vl_e {w : World} {a b : Nat} (ha : w.heap[a]? = some (.cells #[.string ⟨#[120]⟩, .string ⟨#[121]⟩] 9 (0, 0))) (hb : w.heap[b]? = some (.cells #[.int .i64 0, .int .i64 5, .slice none 0 0, .slice none 0 0, .int .i64 1, .int .i64 1, .slice none 0 0, .slice none 0 0] tVl (0, 0))) :
    VlAt (fun _ => True) w (.slice (some ⟨a, 0, none⟩) 2 2) (.slice (some ⟨b, 0, none⟩) 2 2) vE := by
  have h1 := own_block_row (n := 2) (sz := 1) (xs := [.string ⟨#[120]⟩, .string ⟨#[121]⟩]) ha rfl (by unfold maxLen; omega)
  have h2 := own_block_row (n := 2) (sz := 4) (xs := [.int .i64 0, .int .i64 5, .slice none 0 0, .slice none 0 0, .int .i64 1, .int .i64 1, .slice none 0 0, .slice none 0 0]) hb rfl (by unfold maxLen; omega)
  refine .mk (P := fun _ => True) [[120], [121]] [⟨.slice none 0 0, .slice none 0 0, .mk 0 5 [] []⟩, ⟨.slice none 0 0, .slice none 0 0, .mk 1 1 [] []⟩] (SlP.of_sl (Sl.of_owns h1) (fun _ _ _ _ => trivial)) (SlSP.of_sls (SlS.of_owns (xs := [[.int .i64 0, .int .i64 5, .slice none 0 0, .slice none 0 0], [.int .i64 1, .int .i64 1, .slice none 0 0, .slice none 0 0]]) h2 rfl (by omega) (fun y hy => by simp at hy; rcases hy with rfl | rfl <;> rfl)) (fun _ _ _ _ => trivial)) i64_2 i64_0 (fun s hs => ?_) (fun c hc => ?_)
  · simp at hs; rcases hs with rfl | rfl <;> (unfold maxLen; simp)
  · simp at hc; rcases hc with rfl | rfl
    · exact VlAt.nil _ _ i64_0 i64_5
    · exact VlAt.nil _ _ i64_1 i64_1
set_option maxRecDepth 100000 in
theorem ex_write : fWrite tX vE = ([50, 59, 49, 58, 120, 44, 52, 58, 48, 59, 53, 59, 44], 0) := by decide +kernel
set_option maxRecDepth 100000 in
theorem ex_reads : fReads tXY tX = true ∧ fReads tX tXY = false ∧ fReads tXY tXY = true := by decide +kernel
set_option maxRecDepth 100000 in
theorem ex_wit : fWit tX tXY = (vX, true) := by
  have h : rightTy 4 tX = true ∧ rightTy 4 tXY = true ∧ Fm.sub 4 tX tXY = false := by decide +kernel
  unfold fWit
  rw [if_pos h]
  rfl
theorem ex_strs : Wire.numE 2 = [50, 59] ∧ Wire.textE [120] = [49, 58, 120, 44] ∧ Wire.numE 0 = [48, 59] ∧ Wire.intE 5 = [53, 59] ∧ Wire.textE [48, 59, 53, 59] = [52, 58, 48, 59, 53, 59, 44] := by decide +kernel
set_option maxHeartbeats 4000000 in
set_option maxRecDepth 100000 in
theorem small_c (w : World) (g : Gm w) : Calls Tryz.prog 7 #[] w fun e w' => e = .returned (.bool true) ∧ Nw w w' := by
  -- the world w1 from w by the object (.cells #[.string ⟨#[120]⟩, .int .i64 0, .slice none 0 0] tFd) at w.heap.size + 0
  have nw1 := nw_alloc w (.cells #[.string ⟨#[120]⟩, .int .i64 0, .slice none 0 0] tFd)
  have bw1 := heap_new w (.cells #[.string ⟨#[120]⟩, .int .i64 0, .slice none 0 0] tFd)
  obtain ⟨w1, hw1⟩ : ∃ z, z = (w).alloc (.cells #[.string ⟨#[120]⟩, .int .i64 0, .slice none 0 0] tFd) := ⟨_, rfl⟩
  have sw1 : (w1).heap.size = w.heap.size + 0 + 1 := by rw [hw1, World.size_alloc]; first | done | omega
  rw [← hw1] at nw1 bw1
  (try rw [show (w).heap.size = w.heap.size + 0 by omega] at bw1)
  -- the world w2 from w1 by the object (.cells #[.int .i64 2, .slice (some ⟨w.heap.size, 0, none⟩) 1 1] tTy) at w.heap.size + 1
  have nw2 := nw_alloc w1 (.cells #[.int .i64 2, .slice (some ⟨w.heap.size, 0, none⟩) 1 1] tTy)
  have bw2 := heap_new w1 (.cells #[.int .i64 2, .slice (some ⟨w.heap.size, 0, none⟩) 1 1] tTy)
  obtain ⟨w2, hw2⟩ : ∃ z, z = (w1).alloc (.cells #[.int .i64 2, .slice (some ⟨w.heap.size, 0, none⟩) 1 1] tTy) := ⟨_, rfl⟩
  have sw2 : (w2).heap.size = w.heap.size + 1 + 1 := by rw [hw2, World.size_alloc]; first | done | omega
  rw [← hw2] at nw2 bw2
  (try rw [show (w1).heap.size = w.heap.size + 1 by omega] at bw2)
  -- the world w3 from w2 by the object (.cells #[.string ⟨#[120]⟩, .int .i64 0, .slice none 0 0, .string ⟨#[121]⟩, .int .i64 1, .slice none 0 0] tFd) at w.heap.size + 2
  have nw3 := nw_alloc w2 (.cells #[.string ⟨#[120]⟩, .int .i64 0, .slice none 0 0, .string ⟨#[121]⟩, .int .i64 1, .slice none 0 0] tFd)
  have bw3 := heap_new w2 (.cells #[.string ⟨#[120]⟩, .int .i64 0, .slice none 0 0, .string ⟨#[121]⟩, .int .i64 1, .slice none 0 0] tFd)
  obtain ⟨w3, hw3⟩ : ∃ z, z = (w2).alloc (.cells #[.string ⟨#[120]⟩, .int .i64 0, .slice none 0 0, .string ⟨#[121]⟩, .int .i64 1, .slice none 0 0] tFd) := ⟨_, rfl⟩
  have sw3 : (w3).heap.size = w.heap.size + 2 + 1 := by rw [hw3, World.size_alloc]; first | done | omega
  rw [← hw3] at nw3 bw3
  (try rw [show (w2).heap.size = w.heap.size + 2 by omega] at bw3)
  -- the world w4 from w3 by the object (.cells #[.int .i64 2, .slice (some ⟨w.heap.size + 2, 0, none⟩) 2 2] tTy) at w.heap.size + 3
  have nw4 := nw_alloc w3 (.cells #[.int .i64 2, .slice (some ⟨w.heap.size + 2, 0, none⟩) 2 2] tTy)
  have bw4 := heap_new w3 (.cells #[.int .i64 2, .slice (some ⟨w.heap.size + 2, 0, none⟩) 2 2] tTy)
  obtain ⟨w4, hw4⟩ : ∃ z, z = (w3).alloc (.cells #[.int .i64 2, .slice (some ⟨w.heap.size + 2, 0, none⟩) 2 2] tTy) := ⟨_, rfl⟩
  have sw4 : (w4).heap.size = w.heap.size + 3 + 1 := by rw [hw4, World.size_alloc]; first | done | omega
  rw [← hw4] at nw4 bw4
  (try rw [show (w3).heap.size = w.heap.size + 3 by omega] at bw4)
  -- the world w5 from w4 by the object (.cells #[.string ⟨#[120]⟩, .string ⟨#[121]⟩] 9) at w.heap.size + 4
  have nw5 := nw_alloc w4 (.cells #[.string ⟨#[120]⟩, .string ⟨#[121]⟩] 9)
  have bw5 := heap_new w4 (.cells #[.string ⟨#[120]⟩, .string ⟨#[121]⟩] 9)
  obtain ⟨w5, hw5⟩ : ∃ z, z = (w4).alloc (.cells #[.string ⟨#[120]⟩, .string ⟨#[121]⟩] 9) := ⟨_, rfl⟩
  have sw5 : (w5).heap.size = w.heap.size + 4 + 1 := by rw [hw5, World.size_alloc]; first | done | omega
  rw [← hw5] at nw5 bw5
  (try rw [show (w4).heap.size = w.heap.size + 4 by omega] at bw5)
  -- the world w6 from w5 by the object (.cells #[.int .i64 0, .int .i64 5, .slice none 0 0, .slice none 0 0, .int .i64 1, .int .i64 1, .slice none 0 0, .slice none 0 0] tVl) at w.heap.size + 5
  have nw6 := nw_alloc w5 (.cells #[.int .i64 0, .int .i64 5, .slice none 0 0, .slice none 0 0, .int .i64 1, .int .i64 1, .slice none 0 0, .slice none 0 0] tVl)
  have bw6 := heap_new w5 (.cells #[.int .i64 0, .int .i64 5, .slice none 0 0, .slice none 0 0, .int .i64 1, .int .i64 1, .slice none 0 0, .slice none 0 0] tVl)
  obtain ⟨w6, hw6⟩ : ∃ z, z = (w5).alloc (.cells #[.int .i64 0, .int .i64 5, .slice none 0 0, .slice none 0 0, .int .i64 1, .int .i64 1, .slice none 0 0, .slice none 0 0] tVl) := ⟨_, rfl⟩
  have sw6 : (w6).heap.size = w.heap.size + 5 + 1 := by rw [hw6, World.size_alloc]; first | done | omega
  rw [← hw6] at nw6 bw6
  (try rw [show (w5).heap.size = w.heap.size + 5 by omega] at bw6)
  -- the world W from w6 by the object (.cells #[.int .i64 2, .int .i64 0, .slice (some ⟨w.heap.size + 4, 0, none⟩) 2 2, .slice (some ⟨w.heap.size + 5, 0, none⟩) 2 2] tVl) at w.heap.size + 6
  have nW := nw_alloc w6 (.cells #[.int .i64 2, .int .i64 0, .slice (some ⟨w.heap.size + 4, 0, none⟩) 2 2, .slice (some ⟨w.heap.size + 5, 0, none⟩) 2 2] tVl)
  have bW := heap_new w6 (.cells #[.int .i64 2, .int .i64 0, .slice (some ⟨w.heap.size + 4, 0, none⟩) 2 2, .slice (some ⟨w.heap.size + 5, 0, none⟩) 2 2] tVl)
  obtain ⟨W, hW⟩ : ∃ z, z = (w6).alloc (.cells #[.int .i64 2, .int .i64 0, .slice (some ⟨w.heap.size + 4, 0, none⟩) 2 2, .slice (some ⟨w.heap.size + 5, 0, none⟩) 2 2] tVl) := ⟨_, rfl⟩
  have sW : (W).heap.size = w.heap.size + 6 + 1 := by rw [hW, World.size_alloc]; first | done | omega
  rw [← hW] at nW bW
  (try rw [show (w6).heap.size = w.heap.size + 6 by omega] at bW)
  have u1 : Nw w1 W := ((((nw2.trans nw3).trans nw4).trans nw5).trans nw6).trans nW
  have hN : Nw w W := nw1.trans u1
  have c1 := Nw.keep u1 bw1
  have c2 := Nw.keep ((((nw3.trans nw4).trans nw5).trans nw6).trans nW) bw2
  have c3 := Nw.keep (((nw4.trans nw5).trans nw6).trans nW) bw3
  have c4 := Nw.keep ((nw5.trans nw6).trans nW) bw4
  have c5 := Nw.keep (nw6.trans nW) bw5
  have c6 := Nw.keep nW bw6
  have c7 := bW
  rw [hw6, hw5, hw4, hw3, hw2, hw1] at hW
  have HW := Lib.hid hW
  have HN := Lib.hid hN
  have HTX := Lib.hid (ty_x (w := W) (b := w.heap.size) c1)
  have HTY := Lib.hid (ty_xy (w := W) (b := w.heap.size + 2) c3)
  have HVE := Lib.hid (vl_e (w := W) c5 c6)
  have HG := Lib.hid (g.upd hN)
  have HC : Hid (∀ y, Nw W y → (y.cell? ⟨w.heap.size + 1, 0, none⟩ = some (.int .i64 2) ∧ y.cell? ⟨w.heap.size + 1, 1, none⟩ = some (.slice (some ⟨w.heap.size, 0, none⟩) 1 1)) ∧ (y.cell? ⟨w.heap.size + 3, 0, none⟩ = some (.int .i64 2) ∧ y.cell? ⟨w.heap.size + 3, 1, none⟩ = some (.slice (some ⟨w.heap.size + 2, 0, none⟩) 2 2)) ∧ (y.cell? ⟨w.heap.size + 6, 0, none⟩ = some (.int .i64 2) ∧ y.cell? ⟨w.heap.size + 6, 1, none⟩ = some (.int .i64 0) ∧ y.cell? ⟨w.heap.size + 6, 2, none⟩ = some (.slice (some ⟨w.heap.size + 4, 0, none⟩) 2 2) ∧ y.cell? ⟨w.heap.size + 6, 3, none⟩ = some (.slice (some ⟨w.heap.size + 5, 0, none⟩) 2 2))) := fun y u => ⟨⟨by rw [cells_cell (Nw.keep u c2)]; rfl, by rw [cells_cell (Nw.keep u c2)]; rfl⟩, ⟨by rw [cells_cell (Nw.keep u c4)]; rfl, by rw [cells_cell (Nw.keep u c4)]; rfl⟩, cell4F (Nw.keep u c7)⟩
  have HWr : Hid (∀ y, Nw W y → Calls Tryz.prog 10 #[.agg #[.int .i64 2, .slice (some ⟨w.heap.size, 0, none⟩) 1 1], .agg #[.int .i64 2, .int .i64 0, .slice (some ⟨w.heap.size + 4, 0, none⟩) 2 2, .slice (some ⟨w.heap.size + 5, 0, none⟩) 2 2]] y fun e w' => e = .returned (.tuple #[.string ⟨#[50, 59, 49, 58, 120, 44, 52, 58, 48, 59, 53, 59, 44]⟩, .int .i64 0]) ∧ Nw y w') := fun y u => by
    have := Write_c _ _ tX _ _ vE y (HG.out.upd u) (HTX.out.nw u) (HVE.out.nw u)
    rw [ex_write] at this
    exact this
  have HWi : Hid (∀ y, Nw W y → Calls Tryz.prog 14 #[.agg #[.int .i64 2, .slice (some ⟨w.heap.size, 0, none⟩) 1 1], .agg #[.int .i64 2, .slice (some ⟨w.heap.size + 2, 0, none⟩) 2 2]] y fun e w' => ∃ xn xv, e = .returned (.tuple #[.agg #[.int .i64 2, .int .i64 0, xn, xv], .bool true]) ∧ Hid (VlAt (fun j => y.heap.size ≤ j) w' xn xv vX ∧ Nw y w')) := fun y u => by
    have := Witness_c _ _ tX tXY y (HG.out.upd u) (HTX.out.nw u) (HTY.out.nw u)
    rw [ex_wit] at this
    exact this
  obtain ⟨⟨x0, x1⟩, ⟨x2, x3⟩, x4, x5, x6, x7⟩ := HC.out W (Upd.refl _ _)
  clear nw1 nw2 nw3 nw4 nw5 nw6 nW bw1 bw2 bw3 bw4 bw5 bw6 bW u1 hN c1 c2 c3 c4 c5 c6 c7 hW hw1 hw2 hw3 hw4 hw5 hw6 sw1 sw2 sw3 sw4 sw5 sw6 sW g
  go_enter Tryz.func7, Tryz.ntmps7
  go_upto_region 4 with fail
  rw [← HW.out]
  clear HW
  have hw1 := Lib.hid (HWr.out W (Upd.refl _ _))
  go_wp2_with fail
  (with_reducible refine (hw1.out).mono ?_)
  rintro _ y1 ⟨rfl, u1⟩
  have U1 := Lib.hid u1
  have hw2 := Lib.hid (HWi.out y1 u1)
  clear x0 x1 x2 x3 x4 x5 x6 x7 hw1
  obtain ⟨⟨x0, x1⟩, ⟨x2, x3⟩, x4, x5, x6, x7⟩ := HC.out y1 u1
  clear u1
  go_wp2_with fail
  (with_reducible refine (hw2.out).mono ?_)
  rintro _ y2 ⟨xn, xv, rfl, hx⟩
  have hxn : ∃ xa xc, xn = .slice xa 1 xc := by obtain ⟨a, c, h, -⟩ := hx.out.1.names; exact ⟨a, c, h⟩
  have hxv : ∃ xa xc, xv = .slice xa 1 xc := by obtain ⟨a, c, h, -⟩ := hx.out.1.vals; exact ⟨a, c, h⟩
  obtain ⟨xa, xc, rfl⟩ := hxn
  obtain ⟨ya, yc, rfl⟩ := hxv
  have n3 := nw_alloc y2 (.cells #[.int .i64 2, .int .i64 0, .slice xa 1 xc, .slice ya 1 yc] tVl)
  have b3 := heap_new y2 (.cells #[.int .i64 2, .int .i64 0, .slice xa 1 xc, .slice ya 1 yc] tVl)
  obtain ⟨y3, hy3⟩ : ∃ z, z = y2.alloc (.cells #[.int .i64 2, .int .i64 0, .slice xa 1 xc, .slice ya 1 yc] tVl) := ⟨_, rfl⟩
  rw [← hy3] at n3 b3
  have HY3 := Lib.hid hy3
  have U3 := Lib.hid ((U1.out.trans hx.out.2).trans n3)
  have HB3 := Lib.hid b3
  have HVX := Lib.hid (hx.out.1.nw n3)
  clear x0 x1 x2 x3 x4 x5 x6 x7 hw2 hy3 n3 b3 hx
  have HNum : Hid (∀ y, Nw W y → Calls Tryz.prog 26 #[.int .i64 2] y fun e w' => e = .returned (.string ⟨#[50, 59]⟩) ∧ Nw y w') := fun y u => by
    have := Num_e 2 y (HG.out.upd u).g i64_2
    rw [ex_strs.1] at this; exact this
  have HTe : Hid (∀ y, Nw W y → Calls Tryz.prog 27 #[.string ⟨#[120]⟩] y fun e w' => e = .returned (.string ⟨#[49, 58, 120, 44]⟩) ∧ Nw y w') := fun y u => by
    have := Text_e ⟨#[120]⟩ [120] rfl y (HG.out.upd u).g (by simp)
    rw [ex_strs.2.1] at this; exact this
  have HNum0 : Hid (∀ y, Nw W y → Calls Tryz.prog 26 #[.int .i64 0] y fun e w' => e = .returned (.string ⟨#[48, 59]⟩) ∧ Nw y w') := fun y u => by
    have := Num_e 0 y (HG.out.upd u).g i64_0
    rw [ex_strs.2.2.1] at this; exact this
  have HInt : Hid (∀ y, Nw W y → Calls Tryz.prog 28 #[.int .i64 5] y fun e w' => e = .returned (.string ⟨#[53, 59]⟩) ∧ Nw y w') := fun y u => by
    have := Int_e 5 y (HG.out.upd u).g i64_5
    rw [ex_strs.2.2.2.1] at this; exact this
  have HTe2 : Hid (∀ s : ByteArray, s.data.toList = [48, 59, 53, 59] → ∀ y, Nw W y → Calls Tryz.prog 27 #[.string s] y fun e w' => e = .returned (.string ⟨#[52, 58, 48, 59, 53, 59, 44]⟩) ∧ Nw y w') := fun s hs y u => by
    have := Text_e s [48, 59, 53, 59] hs y (HG.out.upd u).g (by simp)
    rw [ex_strs.2.2.2.2] at this; exact this
  have HR1 : Hid (∀ y, Nw W y → Calls Tryz.prog 17 #[.agg #[.int .i64 2, .slice (some ⟨w.heap.size + 2, 0, none⟩) 2 2], .agg #[.int .i64 2, .slice (some ⟨w.heap.size, 0, none⟩) 1 1]] y fun e w' => e = .returned (.bool true) ∧ Nw y w') := fun y u => by
    have := Reads_c _ _ tXY tX y (HG.out.upd u) (HTY.out.nw u) (HTX.out.nw u)
    rw [ex_reads.1] at this; exact this
  have HR2 : Hid (∀ y, Nw W y → Calls Tryz.prog 17 #[.agg #[.int .i64 2, .slice (some ⟨w.heap.size, 0, none⟩) 1 1], .agg #[.int .i64 2, .slice (some ⟨w.heap.size + 2, 0, none⟩) 2 2]] y fun e w' => e = .returned (.bool false) ∧ Nw y w') := fun y u => by
    have := Reads_c _ _ tX tXY y (HG.out.upd u) (HTX.out.nw u) (HTY.out.nw u)
    rw [ex_reads.2.1] at this; exact this
  have HB1 : Hid (∀ y, Nw W y → Calls Tryz.prog 19 #[.agg #[.int .i64 2, .slice (some ⟨w.heap.size, 0, none⟩) 1 1], .agg #[.int .i64 2, .slice (some ⟨w.heap.size + 2, 0, none⟩) 2 2]] y fun e w' => e = .returned (.bool false) ∧ Nw y w') := fun y u => by
    have := Both_c _ _ tX tXY y (HG.out.upd u) (HTX.out.nw u) (HTY.out.nw u)
    rw [ex_reads.2.1] at this; exact this
  have HB2 : Hid (∀ y, Nw W y → Calls Tryz.prog 19 #[.agg #[.int .i64 2, .slice (some ⟨w.heap.size + 2, 0, none⟩) 2 2], .agg #[.int .i64 2, .slice (some ⟨w.heap.size + 2, 0, none⟩) 2 2]] y fun e w' => e = .returned (.bool true) ∧ Nw y w') := fun y u => by
    have := Both_c _ _ tXY tXY y (HG.out.upd u) (HTY.out.nw u) (HTY.out.nw u)
    rw [ex_reads.2.2] at this; exact this
  have HTx : Hid (∀ y, Nw y3 y → Calls Tryz.prog 29 #[.agg #[.int .i64 2, .int .i64 0, .slice xa 1 xc, .slice ya 1 yc]] y fun e w' => e = .returned (.string ⟨#[123, 120, 61, 48, 125]⟩) ∧ Nw y w') := fun y u => text_x _ _ _ y (HG.out.upd (U3.out.trans u)) (HVX.out.nw u)
  go_upto_region 6 with fail
  rw [← HY3.out]
  clear HY3
  generalize y2.heap.size = p3 at *
  have hc := Lib.hid (HNum.out y3 U3.out)
  go_wp2_with fail
  (with_reducible refine (hc.out).mono ?_)
  rintro _ z1 ⟨rfl, v1⟩
  have V1 := Lib.hid (U3.out.trans v1)
  have T1 := Lib.hid v1
  clear v1 hc
  have hc := Lib.hid (HTe.out z1 V1.out)
  go_wp2_with fail
  (with_reducible refine (hc.out).mono ?_)
  rintro _ z2 ⟨rfl, v2⟩
  have V2 := Lib.hid (V1.out.trans v2)
  have T2 := Lib.hid (T1.out.trans v2)
  clear v2 hc
  have hc := Lib.hid (HNum0.out z2 V2.out)
  go_wp2_with fail
  (with_reducible refine (hc.out).mono ?_)
  rintro _ z3 ⟨rfl, v3⟩
  have V3 := Lib.hid (V2.out.trans v3)
  have T3 := Lib.hid (T2.out.trans v3)
  clear v3 hc
  have hc := Lib.hid (HInt.out z3 V3.out)
  go_wp2_with fail
  (with_reducible refine (hc.out).mono ?_)
  rintro _ z4 ⟨rfl, v4⟩
  have V4 := Lib.hid (V3.out.trans v4)
  have T4 := Lib.hid (T3.out.trans v4)
  clear v4 hc
  have hc := Lib.hid (HTe2.out (⟨#[48, 59]⟩ ++ ⟨#[53, 59]⟩) (by decide +kernel) z4 V4.out)
  go_wp2_with fail
  (with_reducible refine (hc.out).mono ?_)
  rintro _ z5 ⟨rfl, v5⟩
  have V5 := Lib.hid (V4.out.trans v5)
  have T5 := Lib.hid (T4.out.trans v5)
  clear v5 hc
  obtain ⟨⟨x0, x1⟩, ⟨x2, x3⟩, -⟩ := HC.out z5 V5.out
  have hc := Lib.hid (HR1.out z5 V5.out)
  have heq : ([50, 59, 49, 58, 120, 44, 52, 58, 48, 59, 53, 59, 44] : List UInt8) = ((⟨#[50, 59]⟩ : ByteArray) ++ ⟨#[49, 58, 120, 44]⟩ ++ ⟨#[52, 58, 48, 59, 53, 59, 44]⟩).toList := by decide +kernel
  go_wp2_with fail
  clear heq
  (with_reducible refine (hc.out).mono ?_)
  rintro _ z6 ⟨rfl, v6⟩
  have V6 := Lib.hid (V5.out.trans v6)
  have T6 := Lib.hid (T5.out.trans v6)
  clear v6 hc x0 x1 x2 x3
  obtain ⟨⟨x0, x1⟩, ⟨x2, x3⟩, -⟩ := HC.out z6 V6.out
  have hc := Lib.hid (HR2.out z6 V6.out)
  go_wp2_with fail
  (with_reducible refine (hc.out).mono ?_)
  rintro _ z7 ⟨rfl, v7⟩
  have V7 := Lib.hid (V6.out.trans v7)
  have T7 := Lib.hid (T6.out.trans v7)
  clear v7 hc x0 x1 x2 x3
  obtain ⟨⟨x0, x1⟩, ⟨x2, x3⟩, -⟩ := HC.out z7 V7.out
  have hc := Lib.hid (HB1.out z7 V7.out)
  go_wp2_with fail
  (with_reducible refine (hc.out).mono ?_)
  rintro _ z8 ⟨rfl, v8⟩
  have V8 := Lib.hid (V7.out.trans v8)
  have T8 := Lib.hid (T7.out.trans v8)
  clear v8 hc x0 x1 x2 x3
  obtain ⟨⟨x0, x1⟩, ⟨x2, x3⟩, -⟩ := HC.out z8 V8.out
  have hc := Lib.hid (HB2.out z8 V8.out)
  go_wp2_with fail
  (with_reducible refine (hc.out).mono ?_)
  rintro _ z9 ⟨rfl, v9⟩
  have V9 := Lib.hid (V8.out.trans v9)
  have T9 := Lib.hid (T8.out.trans v9)
  clear v9 hc x0 x1 x2 x3
  obtain ⟨x0, x1, x2, x3⟩ := cell4F (Nw.keep T9.out HB3.out)
  have hc := Lib.hid (HTx.out z9 T9.out)
  go_wp2_with fail
  (with_reducible refine (hc.out).mono ?_)
  rintro _ z10 ⟨rfl, v10⟩
  have V10 := Lib.hid ((HN.out.trans V9.out).trans v10)
  clear v10 hc x0 x1 x2 x3
  go_wp2_with fail
  go_ret
  exact ⟨rfl, V10.out⟩
end Go.Proofs.YtcelfjoopagmlaaGreatDoor
namespace Go.Proofs.YtcelfjoopagmlaaGreatDoor
open Go.RowKit Go.MapKept
set_option linter.unusedVariables false
set_option linter.unusedSimpArgs false
attribute [local irreducible] Calls
open Fm (Ty Vl Str nameB rightTy rightVl)

set_option maxHeartbeats 4000000 in
set_option maxRecDepth 100000 in
theorem parts_c : ∀ (d : Nat), d ≤ 6 → ∀ (t : Ty) (fv : Value) (m : Int) (w : World), TyAt w fv t →
    Calls Tryz.prog 30 #[.agg #[.int .i64 t.kind, fv], .int .i64 m, .int .i64 (d : Int)] w fun e w' => ∃ r : Int, e = .returned (.int .i64 r) ∧ Nw w w' := by
  intro d
  induction d with
  | zero =>
    intro _ t fv m w ht
    obtain ⟨fa, fc, rfl, -, -⟩ := ht.cells
    have HN := Lib.hid (nw_alloc w (.cells #[.int .i64 t.kind, .slice fa t.fs.length fc] tTy))
    change Calls Tryz.prog 30 #[.agg #[.int .i64 t.kind, .slice fa t.fs.length fc], .int .i64 m, .int .i64 0] w _
    go_enter Tryz.func30, Tryz.ntmps30
    go_wp2_with fail
    go_ret
    first | exact ⟨_, rfl, HN.out⟩ | exact ⟨⟨_, rfl⟩, HN.out⟩
  | succ d ih =>
    intro hd t fv m w ht
    have IH := Lib.hid (ih (by omega))
    obtain ⟨fa, fc, rfl, hfl, hfc⟩ := ht.cells
    have HFC : Hid (FdC w fa t.fs) := hfc
    have n1 := nw_alloc w (.cells #[.int .i64 t.kind, .slice fa t.fs.length fc] tTy)
    have b1 := heap_new w (.cells #[.int .i64 t.kind, .slice fa t.fs.length fc] tTy)
    obtain ⟨W, hW⟩ : ∃ W, W = w.alloc (.cells #[.int .i64 t.kind, .slice fa t.fs.length fc] tTy) := ⟨_, rfl⟩
    rw [← hW] at n1 b1
    have HW := Lib.hid hW
    have HN := Lib.hid n1
    have HC : Hid (∀ y, Nw W y → y.cell? ⟨w.heap.size, 1, none⟩ = some (.slice fa t.fs.length fc)) := fun y u => by rw [cells_cell (Nw.keep u b1)]; rfl
    have x1 := HC.out W (Upd.refl _ _)
    have hl0 : decide (((d + 1 : Nat) : Int) < 1) = false := decide_eq_false (by omega)
    have hl1 : decide ((d : Int) + 1 < 1) = false := decide_eq_false (by omega)
    have hd6 : (d : Int) ≤ 6 := by omega
    have hd0 : (0 : Int) ≤ (d : Int) := by omega
    have hcast : ((d + 1 : Nat) : Int) = (d : Int) + 1 := by omega
    rw [hcast]
    clear ih ht hfc n1 b1 hW
    go_enter Tryz.func30, Tryz.ntmps30
    go_upto_region 1 with fail
    rw [← HW.out]
    clear HW
    by_cases h12 : 12 < t.fs.length
    · have h12' : (12 : Int) < t.fs.length := by omega
      go_wp2_with fail
      go_ret
      first | exact ⟨_, rfl, HN.out⟩ | exact ⟨⟨_, rfl⟩, HN.out⟩
    have h12' : (t.fs.length : Int) ≤ 12 := by omega
    go_wp2_with fail
    go_loopw [7, 8] (fun nv iv wr => ∃ (x : Int) (i : Nat), i ≤ t.fs.length ∧ nv = .int .i64 x ∧ iv = .int .i64 (i : Int) ∧ Hid (Nw W wr)) (fun _ iv _ => t.fs.length - (intOf iv).toNat)
    case atStart => exact ⟨1, 0, Nat.zero_le _, rfl, rfl, Upd.refl _ _⟩
    case round =>
      obtain ⟨x, i, hi, rfl, rfl, hw⟩ := hrel
      clear x1
      have x1 := HC.out wr hw.out
      by_cases hlt : i < t.fs.length
      · have hlt1 : (i : Int) < t.fs.length := by omega
        have hi8 : (i : Int) ≤ 12 := by omega
        by_cases hxm : x ≤ m
        · rcases HFC.out with hnil | ⟨b, off, rfl, hb, hcell⟩
          · rw [hnil] at hlt; simp at hlt
          obtain ⟨sv, p0, p1, p2, hty, hsl⟩ := hcell i hlt
          obtain ⟨sa, sc, hsv, -⟩ := hty.cells
          subst hsv
          have y0 := nw_cellF (HN.out.trans hw.out) p0
          have y1 := nw_cellF (HN.out.trans hw.out) p1
          have y2 := nw_cellF (HN.out.trans hw.out) p2
          have HTY := Lib.hid (hty.nw (HN.out.trans hw.out))
          clear hcell p0 p1 p2 hty
          generalize (t.fs[i]).1 = s at *
          generalize (t.fs[i]).2 = ft at *
          have hcall := Lib.hid (fun m' => IH.out ft _ m' wr HTY.out)
          by_cases h60 : 60 < s.length
          · have h60' : (60 : Int) < s.length := by omega
            go_wp2_with fail
            go_ret
            first | exact ⟨_, rfl, HN.out.trans hw.out⟩ | exact ⟨⟨_, rfl⟩, HN.out.trans hw.out⟩
          · have h60' : (s.length : Int) ≤ 60 := by omega
            go_wp2_with fail
            (with_reducible refine (hcall.out _).mono ?_)
            rintro _ w3 ⟨r, rfl, u3⟩
            have hw3 := Lib.hid (hw.out.trans u3)
            clear u3
            go_wp2_with fail
            go_roundw
            case rel => exact ⟨_, i + 1, by omega, rfl, by go_num, hw3.out⟩
            case measure => simp [intOf]; omega
        · have hxm' : m < x := by omega
          go_wp2_with fail
          go_ret
          first | exact ⟨_, rfl, HN.out.trans hw.out⟩ | exact ⟨⟨_, rfl⟩, HN.out.trans hw.out⟩
      · obtain rfl : i = t.fs.length := by omega
        go_wp2_with fail
        go_ret
        first | exact ⟨_, rfl, HN.out.trans hw.out⟩ | exact ⟨⟨_, rfl⟩, HN.out.trans hw.out⟩
/-- typed: of any list of types, some Bool. -/
theorem typed_c (lo hi : Nat) (v : Value) (C : List (Value × Ty)) (w : World) (hv : SlS 2 lo hi w v (C.map fun c => [.int .i64 c.2.kind, c.1])) (hc : ∀ c ∈ C, TyAt w c.1 c.2) (hl : C.length ≤ 10) :
    Calls Tryz.prog 8 #[v] w fun e w' => ∃ b : Bool, e = .returned (.bool b) ∧ Nw w w' := by
  obtain ⟨a, cap, rfl, hm, hcl⟩ := hv.open_
  rw [List.length_map] at hm ⊢
  have HCL := Lib.hid hcl
  have HC := Lib.hid hc
  have hl1 : (C.length : Int) ≤ 10 := by omega
  clear hcl hc hv
  go_enter Tryz.func8, Tryz.ntmps8
  go_wp2_with fail
  go_loopw [3] (fun iv wr => ∃ i : Nat, i ≤ C.length ∧ iv = .int .i64 (i : Int) ∧ Hid (Nw w wr)) (fun iv _ => C.length - (intOf iv).toNat)
  case atStart => exact ⟨0, Nat.zero_le _, rfl, Upd.refl _ _⟩
  case round =>
    obtain ⟨i, hi, rfl, hw⟩ := hrel
    by_cases hlt : i < C.length
    · have hlt1 : (i : Int) < C.length := by omega
      have hi8 : (i : Int) ≤ 12 := by omega
      rcases HCL.out with hnil | ⟨b, off, rfl, _, _, hb, hcell⟩
      · rw [List.map_eq_nil_iff] at hnil; rw [hnil] at hlt; simp at hlt
      have hci := (hcell i (by simpa using hlt)).2
      simp only [List.getElem_map] at hci
      have p0 := hci 0 (by omega)
      have p1 := hci 1 (by omega)
      have hty := HC.out _ (List.getElem_mem hlt)
      generalize C[i] = c at *
      obtain ⟨sv, ft⟩ := c
      dsimp only at *
      obtain ⟨sa, sc, hsv, -⟩ := hty.cells
      subst hsv
      have y0 : wr.cell? ⟨b, off + i * 2, none⟩ = some (.int .i64 ft.kind) := nw_cellF hw.out p0
      have y1 : wr.cell? ⟨b, off + i * 2 + 1, none⟩ = some (.slice sa ft.fs.length sc) := nw_cellF hw.out p1
      have hcall : Hid (Calls Tryz.prog 30 #[.agg #[.int .i64 ft.kind, .slice sa ft.fs.length sc], .int .i64 40, .int .i64 6] wr fun e w' => ∃ r : Int, e = .returned (.int .i64 r) ∧ Nw wr w') := parts_c 6 (Nat.le_refl _) ft _ 40 wr (hty.nw hw.out)
      clear hci hcell p0 p1 hty
      go_wp2_with fail
      (with_reducible refine (hcall.out).mono ?_)
      rintro _ w3 ⟨r, rfl, u3⟩
      have hw3 := Lib.hid (hw.out.trans u3)
      clear u3
      by_cases hr : 40 < r
      · go_wp2_with fail
        go_ret
        first | exact ⟨_, rfl, hw3.out⟩ | exact ⟨⟨_, rfl⟩, hw3.out⟩
      · have hr' : r ≤ 40 := by omega
        go_wp2_with fail
        go_roundw
        case rel => exact ⟨i + 1, by omega, by go_num, hw3.out⟩
        case measure => simp [intOf]; omega
    · obtain rfl : i = C.length := by omega
      go_wp2_with fail
      go_ret
      first | exact ⟨_, rfl, hw.out⟩ | exact ⟨⟨_, rfl⟩, hw.out⟩
set_option maxHeartbeats 4000000 in
set_option maxRecDepth 100000 in
theorem values_c (P : Nat → Prop) : ∀ (d : Nat), d ≤ 6 → ∀ (v : Vl) (nv vv : Value) (m : Int) (w : World), VlAt P w nv vv v →
    Calls Tryz.prog 9 #[.agg #[.int .i64 v.kind, .int .i64 v.n, nv, vv], .int .i64 m, .int .i64 (d : Int)] w fun e w' => ∃ r : Int, e = .returned (.int .i64 r) ∧ Nw w w' := by
  intro d
  induction d with
  | zero =>
    intro _ v nv vv m w hv
    obtain ⟨na, nc, rfl, -, -⟩ := hv.names
    obtain ⟨va, vc, rfl, -, -⟩ := hv.vals
    have HN := Lib.hid (nw_alloc w (.cells #[.int .i64 v.kind, .int .i64 v.n, .slice na v.names.length nc, .slice va v.vals.length vc] tVl))
    change Calls Tryz.prog 9 #[.agg #[.int .i64 v.kind, .int .i64 v.n, .slice na v.names.length nc, .slice va v.vals.length vc], .int .i64 m, .int .i64 0] w _
    go_enter Tryz.func9, Tryz.ntmps9
    go_wp2_with fail
    go_ret
    first | exact ⟨_, rfl, HN.out⟩ | exact ⟨⟨_, rfl⟩, HN.out⟩
  | succ d ih =>
    intro hd v nv vv m w hv
    have IH := Lib.hid (ih (by omega))
    obtain ⟨na, nc, rfl, hnl, hnc⟩ := hv.names
    obtain ⟨va, vc, rfl, hvl, hvc⟩ := hv.vals
    have HNC : Hid (StrC w na v.names) := hnc
    have HVC : Hid (VsC P w va v.vals) := hvc
    have n1 := nw_alloc w (.cells #[.int .i64 v.kind, .int .i64 v.n, .slice na v.names.length nc, .slice va v.vals.length vc] tVl)
    have b1 := heap_new w (.cells #[.int .i64 v.kind, .int .i64 v.n, .slice na v.names.length nc, .slice va v.vals.length vc] tVl)
    obtain ⟨W, hW⟩ : ∃ W, W = w.alloc (.cells #[.int .i64 v.kind, .int .i64 v.n, .slice na v.names.length nc, .slice va v.vals.length vc] tVl) := ⟨_, rfl⟩
    rw [← hW] at n1 b1
    have HW := Lib.hid hW
    have HN := Lib.hid n1
    have HC : Hid (∀ y, Nw W y → y.cell? ⟨w.heap.size, 2, none⟩ = some (.slice na v.names.length nc) ∧ y.cell? ⟨w.heap.size, 3, none⟩ = some (.slice va v.vals.length vc)) := fun y u => ⟨by rw [cells_cell (Nw.keep u b1)]; rfl, by rw [cells_cell (Nw.keep u b1)]; rfl⟩
    obtain ⟨x1, x2⟩ := HC.out W (Upd.refl _ _)
    have hl1 : decide ((d : Int) + 1 < 1) = false := decide_eq_false (by omega)
    have hd6 : (d : Int) ≤ 6 := by omega
    have hd0 : (0 : Int) ≤ (d : Int) := by omega
    have hcast : ((d + 1 : Nat) : Int) = (d : Int) + 1 := by omega
    rw [hcast]
    unfold maxLen at hvl hnl
    have hvl1 : (v.vals.length : Int) ≤ 9223372036854775807 := by omega
    have HVL := Lib.hid hvl
    clear ih hv hnc hvc n1 b1 hW hvl hnl
    go_enter Tryz.func9, Tryz.ntmps9
    go_upto_region 1 with fail
    rw [← HW.out]
    clear HW
    by_cases h12 : 12 < v.names.length
    · have h12' : (12 : Int) < v.names.length := by omega
      go_wp2_with fail
      go_ret
      first | exact ⟨_, rfl, HN.out⟩ | exact ⟨⟨_, rfl⟩, HN.out⟩
    have h12' : (v.names.length : Int) ≤ 12 := by omega
    go_wp2_with fail
    go_loopw [8] (fun iv wr => ∃ (i : Nat), i ≤ v.names.length ∧ iv = .int .i64 (i : Int) ∧ Hid (Nw W wr)) (fun iv _ => v.names.length - (intOf iv).toNat)
    case atStart => exact ⟨0, Nat.zero_le _, rfl, Upd.refl _ _⟩
    case round =>
      obtain ⟨i, hi, rfl, hw⟩ := hrel
      clear x1 x2
      obtain ⟨x1, x2⟩ := HC.out wr hw.out
      by_cases hlt : i < v.names.length
      · have hlt1 : (i : Int) < v.names.length := by omega
        have hi8 : (i : Int) ≤ 12 := by omega
        rcases HNC.out with hnil | ⟨b, off, rfl, hb, hcell⟩
        · rw [hnil] at hlt; simp at hlt
        have y0 := nw_cellF (HN.out.trans hw.out) (hcell i hlt).1
        have hsl := (hcell i hlt).2
        clear hcell
        generalize v.names[i] = s at *
        by_cases h60 : 60 < s.length
        · have h60' : (60 : Int) < s.length := by omega
          go_wp2_with fail
          go_ret
          first | exact ⟨_, rfl, HN.out.trans hw.out⟩ | exact ⟨⟨_, rfl⟩, HN.out.trans hw.out⟩
        · have h60' : (s.length : Int) ≤ 60 := by omega
          go_wp2_with fail
          go_roundw
          case rel => exact ⟨i + 1, by omega, by go_num, hw⟩
          case measure => simp [intOf]; omega
      · obtain rfl : i = v.names.length := by omega
        go_wp2_with fail
        go_loopw [7, 9] (fun nv iv wr => ∃ (x : Int) (i : Nat), i ≤ v.vals.length ∧ nv = .int .i64 x ∧ iv = .int .i64 (i : Int) ∧ Hid (Nw W wr)) (fun _ iv _ => v.vals.length - (intOf iv).toNat)
        case atStart => exact ⟨1, 0, Nat.zero_le _, rfl, rfl, hw⟩
        case round =>
          obtain ⟨x, i, hi, rfl, rfl, hw⟩ := hrel
          clear x1 x2
          obtain ⟨x1, x2⟩ := HC.out wr hw.out
          by_cases hlt : i < v.vals.length
          · have hlt1 : (i : Int) < v.vals.length := by omega
            by_cases hxm : x ≤ m
            · rcases HVC.out with hnil | ⟨b, off, rfl, hb, hcell⟩
              · rw [hnil] at hlt; simp at hlt
              obtain ⟨nv', vv', q0, q1, q2, q3, q4⟩ := hcell i hlt
              obtain ⟨xa, xc, hxa, -⟩ := q4.names
              obtain ⟨ya, yc, hya, -⟩ := q4.vals
              subst hxa hya
              have y0 := nw_cellF (HN.out.trans hw.out) q0
              have y1 := nw_cellF (HN.out.trans hw.out) q1
              have y2 := nw_cellF (HN.out.trans hw.out) q2
              have y3 := nw_cellF (HN.out.trans hw.out) q3
              have HQ := Lib.hid (q4.nw (HN.out.trans hw.out))
              have hi9 : (i : Int) ≤ 9223372036854775806 := by omega
              clear hcell q0 q1 q2 q3 q4
              generalize v.vals[i] = xv at *
              have hcall := Lib.hid (fun m' => IH.out xv _ _ m' wr HQ.out)
              go_wp2_with fail
              (with_reducible refine (hcall.out _).mono ?_)
              rintro _ w3 ⟨r, rfl, u3⟩
              have hw3 := Lib.hid (hw.out.trans u3)
              clear u3
              go_wp2_with fail
              go_roundw
              case rel => exact ⟨_, i + 1, by omega, rfl, by go_num, hw3.out⟩
              case measure => simp [intOf]; omega
            · have hxm' : m < x := by omega
              go_wp2_with fail
              go_ret
              first | exact ⟨_, rfl, HN.out.trans hw.out⟩ | exact ⟨⟨_, rfl⟩, HN.out.trans hw.out⟩
          · obtain rfl : i = v.vals.length := by omega
            go_wp2_with fail
            go_ret
            first | exact ⟨_, rfl, HN.out.trans hw.out⟩ | exact ⟨⟨_, rfl⟩, HN.out.trans hw.out⟩
end Go.Proofs.YtcelfjoopagmlaaGreatDoor
namespace Go.Proofs.YtcelfjoopagmlaaGreatDoor
open Go.RowKit Go.MapKept
set_option linter.unusedVariables false
set_option linter.unusedSimpArgs false
attribute [local irreducible] Calls
open Fm (Ty Vl Str nameB rightTy rightVl)

theorem getD_lt {l : List Vl} {i : Nat} (h : i < l.length) : l.getD i Fm.noV = l[i] := by simp [h]
set_option maxHeartbeats 4000000 in
set_option maxRecDepth 100000 in
theorem exact_c (P : Nat → Prop) : ∀ (d : Nat) (t : Ty) (fv : Value) (v : Vl) (nv vv : Value) (w : World), Fm.exactP d t v → TyAt w fv t → VlAt P w nv vv v →
    Calls Tryz.prog 24 #[.agg #[.int .i64 t.kind, fv], .agg #[.int .i64 v.kind, .int .i64 v.n, nv, vv]] w fun e w' => e = .returned (.bool true) ∧ Nw w w' := by
  intro d
  induction d with
  | zero => intro t fv v nv vv w h; exact h.elim
  | succ d ih =>
    intro t fv v nv vv w hx ht hva
    have IH := Lib.hid ih
    obtain ⟨hxn, hxv, hxs⟩ := hx
    obtain ⟨fa, fc, rfl, hfl, hfc⟩ := ht.cells
    obtain ⟨na, nc, rfl, hnl, hnc⟩ := hva.names
    obtain ⟨va, vc, rfl, hvl, hvc⟩ := hva.vals
    rw [hxn, hxv]
    have HFC : Hid (FdC w fa t.fs) := hfc
    have HVC : Hid (VsC P w va v.vals) := hvc
    have n1 := nw_alloc w (.cells #[.int .i64 t.kind, .slice fa t.fs.length fc] tTy)
    have n2 := nw_alloc (w.alloc (.cells #[.int .i64 t.kind, .slice fa t.fs.length fc] tTy)) (.cells #[.int .i64 v.kind, .int .i64 v.n, .slice na t.fs.length nc, .slice va t.fs.length vc] tVl)
    have b1 := n2.keep (heap_new w (.cells #[.int .i64 t.kind, .slice fa t.fs.length fc] tTy))
    have b2 := heap_new (w.alloc (.cells #[.int .i64 t.kind, .slice fa t.fs.length fc] tTy)) (.cells #[.int .i64 v.kind, .int .i64 v.n, .slice na t.fs.length nc, .slice va t.fs.length vc] tVl)
    rw [World.size_alloc] at b2
    have hN := n1.trans n2
    obtain ⟨W, hW⟩ : ∃ W, W = (w.alloc (.cells #[.int .i64 t.kind, .slice fa t.fs.length fc] tTy)).alloc (.cells #[.int .i64 v.kind, .int .i64 v.n, .slice na t.fs.length nc, .slice va t.fs.length vc] tVl) := ⟨_, rfl⟩
    rw [← hW] at hN b1 b2
    have HN := Lib.hid hN
    have HW := Lib.hid hW
    have HC : Hid (∀ y, Nw W y → y.cell? ⟨w.heap.size, 1, none⟩ = some (.slice fa t.fs.length fc) ∧ y.cell? ⟨w.heap.size + 1, 2, none⟩ = some (.slice na t.fs.length nc) ∧ y.cell? ⟨w.heap.size + 1, 3, none⟩ = some (.slice va t.fs.length vc)) := fun y u => ⟨by rw [cells_cell (Nw.keep u b1)]; rfl, by rw [cells_cell (Nw.keep u b2)]; rfl, by rw [cells_cell (Nw.keep u b2)]; rfl⟩
    obtain ⟨c1, c2, c3⟩ := HC.out W (Upd.refl _ _)
    unfold maxLen at hfl
    have hfl1 : (t.fs.length : Int) ≤ 9223372036854775807 := by omega
    have HXS := Lib.hid hxs
    have HXV := Lib.hid hxv
    clear ih ht hva hfc hnc hvc n1 n2 b1 b2 hN hW hxs hxn hxv hnl hvl
    go_enter Tryz.func24, Tryz.ntmps24
    go_upto_region 1 with fail
    rw [← HW.out]
    clear HW
    go_wp2_with fail
    go_loopw [5] (fun iv wr => ∃ i : Nat, i ≤ t.fs.length ∧ iv = .int .i64 (i : Int) ∧ Hid (Nw W wr)) (fun iv _ => t.fs.length - (intOf iv).toNat)
    case atStart => exact ⟨0, Nat.zero_le _, rfl, Upd.refl _ _⟩
    case round =>
      obtain ⟨i, hi, rfl, hw⟩ := hrel
      clear c1 c2 c3
      by_cases hlt : i < t.fs.length
      · have hlt1 : (i : Int) < t.fs.length := by omega
        have hi0 : decide ((i : Int) < 0) = false := decide_eq_false (by omega)
        have hi9 : (i : Int) ≤ 9223372036854775806 := by omega
        rcases HFC.out with hnil | ⟨b, off, rfl, hb, hcell⟩
        · rw [hnil] at hlt; simp at hlt
        have hiv : i < v.vals.length := by rw [HXV.out]; exact hlt
        rcases HVC.out with hnil | ⟨b', off', rfl, hb', hc'⟩
        · rw [hnil] at hiv; simp at hiv
        obtain ⟨sv, p0, p1, p2, hty, hsl⟩ := hcell i hlt
        obtain ⟨sa, sc, hsv, -⟩ := hty.cells
        subst hsv
        obtain ⟨nv', vv', q0, q1, q2, q3, q4⟩ := hc' i hiv
        have hrec : Hid (∀ z, Nw wr z → _) := fun z (uz : Nw wr z) => IH.out _ _ v.vals[i] nv' vv' z (by have := HXS.out i hlt; rw [getD_lt hiv] at this; exact this) (hty.nw ((HN.out.trans hw.out).trans uz)) (q4.nw ((HN.out.trans hw.out).trans uz))
        obtain ⟨xa, xc, hxa, -⟩ := q4.names
        obtain ⟨ya, yc, hya, -⟩ := q4.vals
        subst hxa hya
        obtain ⟨c1, c2, c3⟩ := HC.out wr hw.out
        have l1 : ∀ j : Later wr, j.1.cell? ⟨w.heap.size, 1, none⟩ = some (.slice (some ⟨b, off, none⟩) t.fs.length fc) := fun j => (HC.out j.1 (hw.out.trans j.nw)).1
        have l2 : ∀ j : Later wr, j.1.cell? ⟨w.heap.size + 1, 3, none⟩ = some (.slice (some ⟨b', off', none⟩) t.fs.length vc) := fun j => (HC.out j.1 (hw.out.trans j.nw)).2.2
        have l4 : ∀ j : Later wr, j.1.cell? ⟨b, off + i * 3 + 1, none⟩ = some (.int .i64 (t.fs[i]).2.kind) := fun j => nw_cellF ((HN.out.trans hw.out).trans j.nw) p1
        have l5 : ∀ j : Later wr, j.1.cell? ⟨b, off + i * 3 + 2, none⟩ = some (.slice sa (t.fs[i]).2.fs.length sc) := fun j => nw_cellF ((HN.out.trans hw.out).trans j.nw) p2
        have m0 : ∀ j : Later wr, j.1.cell? ⟨b', off' + i * 4, none⟩ = some (.int .i64 (v.vals[i]).kind) := fun j => nw_cellF ((HN.out.trans hw.out).trans j.nw) q0
        have m1 : ∀ j : Later wr, j.1.cell? ⟨b', off' + i * 4 + 1, none⟩ = some (.int .i64 (v.vals[i]).n) := fun j => nw_cellF ((HN.out.trans hw.out).trans j.nw) q1
        have m2 : ∀ j : Later wr, j.1.cell? ⟨b', off' + i * 4 + 2, none⟩ = some (.slice xa (v.vals[i]).names.length xc) := fun j => nw_cellF ((HN.out.trans hw.out).trans j.nw) q2
        have m3 : ∀ j : Later wr, j.1.cell? ⟨b', off' + i * 4 + 3, none⟩ = some (.slice ya (v.vals[i]).vals.length yc) := fun j => nw_cellF ((HN.out.trans hw.out).trans j.nw) q3
        clear hcell hc' p0 p1 p2 q0 q1 q2 q3 q4 hty hsl
        generalize v.vals[i] = xv at *
        generalize t.fs[i] = fld at *
        obtain ⟨fn, ft⟩ := fld
        dsimp only at *
        go_wp2_with fail
        refine wp_region_nw (by kernel_rfl) (by kernel_rfl) ?_
        repeat (go_big_quiet_step ((go_at_call 24; exact later_call (hrec.out _ (Later.nw _)))))
        refine wpQuiet_nil ?_
        intro w3 u3
        replace u3 := later_out u3
        have hw3 := Lib.hid (hw.out.trans u3)
        clear u3 l1 l2 l4 l5 m0 m1 m2 m3
        go_wp2_with fail
        go_roundw
        case rel => exact ⟨i + 1, by omega, by go_num, hw3.out⟩
        case measure => simp [intOf]; omega
      · obtain rfl : i = t.fs.length := by omega
        obtain ⟨c1, c2, c3⟩ := HC.out wr hw.out
        go_wp2_with fail
        go_ret
        exact ⟨rfl, HN.out.trans hw.out⟩
end Go.Proofs.YtcelfjoopagmlaaGreatDoor
namespace Go.Proofs.YtcelfjoopagmlaaGreatDoor
open Go.RowKit Go.MapKept
set_option linter.unusedVariables false
set_option linter.unusedSimpArgs false
attribute [local irreducible] Calls
open Fm (Ty Vl Str nameB rightTy rightVl)

set_option maxHeartbeats 8000000 in
set_option maxRecDepth 100000 in
theorem agrees_c (P P' : Nat → Prop) : ∀ (d : Nat) (v x : Vl) (nv vv mv xv : Value) (w : World), Fm.agreesP d v x → VlAt P w nv vv v → VlAt P' w mv xv x →
    Calls Tryz.prog 23 #[.agg #[.int .i64 v.kind, .int .i64 v.n, nv, vv], .agg #[.int .i64 x.kind, .int .i64 x.n, mv, xv]] w fun e w' => e = .returned (.bool true) ∧ Nw w w' := by
  intro d
  induction d with
  | zero => intro v x nv vv mv xv w h; exact h.elim
  | succ d ih =>
    intro v x nv vv mv xv w hag hva hxa
    have IH := Lib.hid ih
    obtain ⟨hk, hn, hl1, hl2, hnd, hall⟩ := hag
    obtain ⟨na, nc, rfl, hnl, hnc⟩ := hva.names
    obtain ⟨va, vc, rfl, hvl, hvc⟩ := hva.vals
    obtain ⟨ma, mc, rfl, hml, hmc⟩ := hxa.names
    obtain ⟨xa, xc, rfl, hxl, hxc⟩ := hxa.vals
    rw [← hk, ← hn, ← hl1, ← hl2]
    have HNC : Hid (StrC w na v.names) := hnc
    have HVC : Hid (VsC P w va v.vals) := hvc
    have HMC : Hid (StrC w ma x.names) := hmc
    have HXC : Hid (VsC P' w xa x.vals) := hxc
    have HVL : Hid (v.names.length = v.vals.length ∧ x.names.length = x.vals.length) := ⟨hl1, hl2⟩
    have HND := Lib.hid hnd
    have HALL := Lib.hid hall
    have n1 := nw_alloc w (.cells #[.int .i64 v.kind, .int .i64 v.n, .slice na v.names.length nc, .slice va v.names.length vc] tVl)
    have n2 := nw_alloc (w.alloc (.cells #[.int .i64 v.kind, .int .i64 v.n, .slice na v.names.length nc, .slice va v.names.length vc] tVl)) (.cells #[.int .i64 v.kind, .int .i64 v.n, .slice ma x.names.length mc, .slice xa x.names.length xc] tVl)
    have b1 := n2.keep (heap_new w (.cells #[.int .i64 v.kind, .int .i64 v.n, .slice na v.names.length nc, .slice va v.names.length vc] tVl))
    have b2 := heap_new (w.alloc (.cells #[.int .i64 v.kind, .int .i64 v.n, .slice na v.names.length nc, .slice va v.names.length vc] tVl)) (.cells #[.int .i64 v.kind, .int .i64 v.n, .slice ma x.names.length mc, .slice xa x.names.length xc] tVl)
    rw [World.size_alloc] at b2
    have hN := n1.trans n2
    obtain ⟨W, hW⟩ : ∃ W, W = (w.alloc (.cells #[.int .i64 v.kind, .int .i64 v.n, .slice na v.names.length nc, .slice va v.names.length vc] tVl)).alloc (.cells #[.int .i64 v.kind, .int .i64 v.n, .slice ma x.names.length mc, .slice xa x.names.length xc] tVl) := ⟨_, rfl⟩
    rw [← hW] at hN b1 b2
    have HN := Lib.hid hN
    have HW := Lib.hid hW
    have HC : Hid (∀ y, Nw W y → (y.cell? ⟨w.heap.size, 0, none⟩ = some (.int .i64 v.kind) ∧ y.cell? ⟨w.heap.size, 1, none⟩ = some (.int .i64 v.n) ∧ y.cell? ⟨w.heap.size, 2, none⟩ = some (.slice na v.names.length nc) ∧ y.cell? ⟨w.heap.size, 3, none⟩ = some (.slice va v.names.length vc)) ∧ y.cell? ⟨w.heap.size + 1, 0, none⟩ = some (.int .i64 v.kind) ∧ y.cell? ⟨w.heap.size + 1, 1, none⟩ = some (.int .i64 v.n) ∧ y.cell? ⟨w.heap.size + 1, 2, none⟩ = some (.slice ma x.names.length mc) ∧ y.cell? ⟨w.heap.size + 1, 3, none⟩ = some (.slice xa x.names.length xc)) := fun y u => ⟨cell4F (Nw.keep u b1), cell4F (Nw.keep u b2)⟩
    unfold maxLen at hnl hml
    have hnl1 : (v.names.length : Int) ≤ 9223372036854775807 := by omega
    have hml1 : (x.names.length : Int) ≤ 9223372036854775807 := by omega
    obtain ⟨⟨c0, c1, c2, c3⟩, d0, d1, d2, d3⟩ := HC.out W (Upd.refl _ _)
    clear ih hva hxa hnc hvc hmc hxc n1 n2 b1 b2 hN hW hnl hvl hml hxl hk hn hl1 hl2 hnd hall
    go_enter Tryz.func23, Tryz.ntmps23
    go_upto_region 1 with fail
    rw [← HW.out]
    clear HW
    go_wp2_with fail
    go_loopw [5] (fun iv wr => ∃ i : Nat, i ≤ x.names.length ∧ iv = .int .i64 (i : Int) ∧ Hid (Nw W wr)) (fun iv _ => x.names.length - (intOf iv).toNat)
    case atStart => exact ⟨0, Nat.zero_le _, rfl, Upd.refl _ _⟩
    case round =>
      obtain ⟨i, hi, rfl, hw⟩ := hrel
      clear c0 c1 c2 c3 d0 d1 d2 d3
      obtain ⟨⟨c0, c1, c2, c3⟩, d0, d1, d2, d3⟩ := HC.out wr hw.out
      by_cases hlt : i < x.names.length
      · have hlt1 : (i : Int) < x.names.length := by omega
        have hi9 : (i : Int) ≤ 9223372036854775806 := by omega
        have hi0 : decide ((i : Int) < 0) = false := decide_eq_false (by omega)
        obtain ⟨hix, hag⟩ := HALL.out i hlt
        rcases HMC.out with hnil | ⟨mb, mo, rfl, -, hmcell⟩
        · rw [hnil] at hlt; simp at hlt
        have hxlt : i < x.vals.length := by rw [← HVL.out.2]; exact hlt
        rcases HXC.out with hnil | ⟨xb, xo, rfl, -, hxcell⟩
        · rw [hnil] at hxlt; simp at hxlt
        have p0 := (hmcell i hlt).1
        obtain ⟨nv', vv', q0, q1, q2, q3, q4⟩ := hxcell i hxlt
        obtain ⟨ga, gc, hga, -⟩ := q4.names
        obtain ⟨ka, kc, hka, -⟩ := q4.vals
        subst hga hka
        rw [getD_lt hxlt] at hag
        rcases Fm.idx_cases (x.names[i]) v.names with ⟨hx, hno⟩ | ⟨p, hp, hx, he⟩
        · rw [hx] at hix; simp at hix
        have hpv : p < v.vals.length := by rw [← HVL.out.1]; exact hp
        have hat : v.at_ x.names[i] = v.vals[p] := by unfold Fm.Vl.at_; rw [hx]; simp [hpv]
        rw [hat] at hag
        have HAG := Lib.hid hag
        have HE := Lib.hid he
        have HQ4 := Lib.hid q4
        have HMX : Hid (∀ y, Nw w y → y.cell? ⟨mb, mo + i, none⟩ = some (.string ⟨(x.names[i]).toArray⟩) ∧ y.cell? ⟨xb, xo + i * 4, none⟩ = some (.int .i64 (x.vals[i]).kind) ∧ y.cell? ⟨xb, xo + i * 4 + 1, none⟩ = some (.int .i64 (x.vals[i]).n) ∧ y.cell? ⟨xb, xo + i * 4 + 2, none⟩ = some (.slice ga (x.vals[i]).names.length gc) ∧ y.cell? ⟨xb, xo + i * 4 + 3, none⟩ = some (.slice ka (x.vals[i]).vals.length kc)) := fun y u => ⟨nw_cellF u p0, nw_cellF u q0, nw_cellF u q1, nw_cellF u q2, nw_cellF u q3⟩
        clear hmcell hxcell p0 q0 q1 q2 q3 q4 hix hag hx hat he
        go_wp2_with fail
        go_loopw [6, 7] (fun fv kv wz => ∃ k : Nat, k ≤ v.names.length ∧ fv = .bool (decide (p < k)) ∧ kv = .int .i64 (k : Int) ∧ Hid (Nw W wz)) (fun _ kv _ => v.names.length - (intOf kv).toNat)
        case atStart => exact ⟨0, Nat.zero_le _, rfl, rfl, hw⟩
        case round =>
          obtain ⟨k, hk, rfl, rfl, hwz⟩ := hrel
          clear c0 c1 c2 c3 d0 d1 d2 d3
          obtain ⟨⟨c0, c1, c2, c3⟩, d0, d1, d2, d3⟩ := HC.out _ hwz.out
          have huw := Lib.hid (HN.out.trans hwz.out)
          by_cases hkl : k < v.names.length
          · have hkl1 : (k : Int) < v.names.length := by omega
            have hk9 : (k : Int) ≤ 9223372036854775806 := by omega
            have hk0 : decide ((k : Int) < 0) = false := decide_eq_false (by omega)
            rcases HNC.out with hnil | ⟨nb, no, rfl, -, hncell⟩
            · rw [hnil] at hkl; simp at hkl
            have hkv : k < v.vals.length := by rw [← HVL.out.1]; exact hkl
            rcases HVC.out with hnil | ⟨vb, vo, rfl, -, hvcell⟩
            · rw [hnil] at hkv; simp at hkv
            have r0 := (hncell k hkl).1
            have l1 : ∀ j : Later wr, j.1.cell? ⟨w.heap.size, 2, none⟩ = some (.slice (some ⟨nb, no, none⟩) v.names.length nc) := fun j => (HC.out j.1 (hwz.out.trans j.nw)).1.2.2.1
            have l2 : ∀ j : Later wr, j.1.cell? ⟨w.heap.size + 1, 2, none⟩ = some (.slice (some ⟨mb, mo, none⟩) x.names.length mc) := fun j => (HC.out j.1 (hwz.out.trans j.nw)).2.2.2.1
            have l3 : ∀ j : Later wr, j.1.cell? ⟨mb, mo + i, none⟩ = some (.string ⟨(x.names[i]).toArray⟩) := fun j => (HMX.out j.1 (huw.out.trans j.nw)).1
            by_cases hkp : k = p
            · subst hkp
              have l4 : ∀ j : Later wr, j.1.cell? ⟨nb, no + k, none⟩ = some (.string ⟨(x.names[i]).toArray⟩) := fun j => by rw [← HE.out]; exact nw_cellF (huw.out.trans j.nw) r0
              obtain ⟨nv', vv', q0, q1, q2, q3, q4⟩ := hvcell k hkv
              obtain ⟨fa, fc, hfa, -⟩ := q4.names
              obtain ⟨ea, ec, hea, -⟩ := q4.vals
              subst hfa hea
              have hrec : Hid (∀ z, Nw wr z → _) := fun z (uz : Nw wr z) => IH.out v.vals[k] x.vals[i] _ _ _ _ z HAG.out (q4.nw (huw.out.trans uz)) (HQ4.out.nw (huw.out.trans uz))
              have hdk : decide (k < k + 1) = true := decide_eq_true (by omega)
              have HCC : Hid (∀ y, Nw wr y → (∀ j : Later y, j.1.cell? ⟨w.heap.size, 3, none⟩ = some (.slice (some ⟨vb, vo, none⟩) v.names.length vc)) ∧ (∀ j : Later y, j.1.cell? ⟨w.heap.size + 1, 3, none⟩ = some (.slice (some ⟨xb, xo, none⟩) x.names.length xc)) ∧ ((∀ j : Later y, j.1.cell? ⟨vb, vo + k * 4, none⟩ = some (.int .i64 (v.vals[k]).kind)) ∧ (∀ j : Later y, j.1.cell? ⟨vb, vo + k * 4 + 1, none⟩ = some (.int .i64 (v.vals[k]).n)) ∧ (∀ j : Later y, j.1.cell? ⟨vb, vo + k * 4 + 2, none⟩ = some (.slice fa (v.vals[k]).names.length fc)) ∧ (∀ j : Later y, j.1.cell? ⟨vb, vo + k * 4 + 3, none⟩ = some (.slice ea (v.vals[k]).vals.length ec))) ∧ ((∀ j : Later y, j.1.cell? ⟨xb, xo + i * 4, none⟩ = some (.int .i64 (x.vals[i]).kind)) ∧ (∀ j : Later y, j.1.cell? ⟨xb, xo + i * 4 + 1, none⟩ = some (.int .i64 (x.vals[i]).n)) ∧ (∀ j : Later y, j.1.cell? ⟨xb, xo + i * 4 + 2, none⟩ = some (.slice ga (x.vals[i]).names.length gc)) ∧ (∀ j : Later y, j.1.cell? ⟨xb, xo + i * 4 + 3, none⟩ = some (.slice ka (x.vals[i]).vals.length kc)))) := fun y u =>
                ⟨fun j => (HC.out j.1 (hwz.out.trans (u.trans j.nw))).1.2.2.2, fun j => (HC.out j.1 (hwz.out.trans (u.trans j.nw))).2.2.2.2, ⟨fun j => nw_cellF (huw.out.trans (u.trans j.nw)) q0, fun j => nw_cellF (huw.out.trans (u.trans j.nw)) q1, fun j => nw_cellF (huw.out.trans (u.trans j.nw)) q2, fun j => nw_cellF (huw.out.trans (u.trans j.nw)) q3⟩,
                  fun j => (HMX.out j.1 (huw.out.trans (u.trans j.nw))).2.1, fun j => (HMX.out j.1 (huw.out.trans (u.trans j.nw))).2.2.1, fun j => (HMX.out j.1 (huw.out.trans (u.trans j.nw))).2.2.2.1, fun j => (HMX.out j.1 (huw.out.trans (u.trans j.nw))).2.2.2.2⟩
              clear hncell hvcell r0 q0 q1 q2 q3 q4
              generalize x.names[i] = s at *
              generalize v.vals[k] = va' at *
              generalize x.vals[i] = xa' at *
              go_wp2_with fail
              refine wp_region_nw (by kernel_rfl) (by kernel_rfl) ?_
              repeat (go_big_quiet_step ((fail)))
              refine wpQuiet_nil ?_
              intro w3 u3
              replace u3 := later_out u3
              obtain ⟨e1, e2, ⟨e3, e4, e5, e6⟩, e7, e8, e9, e10⟩ := HCC.out w3 u3
              have hrec3 := Lib.hid (fun z (uz : Nw w3 z) => hrec.out z (u3.trans uz))
              have hw3 := Lib.hid (hwz.out.trans u3)
              clear u3 l1 l2 l3 l4 c0 c1 c2 c3 d0 d1 d2 d3 HCC hrec
              go_wp2_with fail
              refine wp_region_nw (by kernel_rfl) (by kernel_rfl) ?_
              repeat (go_big_quiet_step ((go_at_call 23; exact later_call (hrec3.out _ (Later.nw _)))))
              refine wpQuiet_nil ?_
              intro w4 u4
              replace u4 := later_out u4
              have hw4 := Lib.hid (hw3.out.trans u4)
              clear u4 e1 e2 e3 e4 e5 e6 e7 e8 e9 e10
              go_wp2_with fail
              go_roundw
              case rel => exact ⟨k + 1, by omega, by rw [hdk], by go_num, hw4.out⟩
              case measure => simp [intOf]; omega
            · have l4 : ∀ j : Later wr, j.1.cell? ⟨nb, no + k, none⟩ = some (.string ⟨(v.names[k]).toArray⟩) := fun j => nw_cellF (huw.out.trans j.nw) r0
              have hne : v.names[k] ≠ x.names[i] := fun e => hkp (by
                rw [← HE.out] at e
                exact (List.getElem_inj HND.out).1 e)
              have hdk : decide (p < k + 1) = decide (p < k) := by
                by_cases h : p < k
                · rw [decide_eq_true h, decide_eq_true (show p < k + 1 by omega)]
                · rw [decide_eq_false h, decide_eq_false (show ¬ p < k + 1 by omega)]
              clear hncell hvcell r0
              generalize v.names[k] = sk at *
              generalize x.names[i] = s at *
              have ht1 : (sk == s) = false := by simp; exact hne
              clear hne
              go_wp2_with fail
              refine wp_region_nw (by kernel_rfl) (by kernel_rfl) ?_
              repeat (go_big_quiet_step ((fail)))
              refine wpQuiet_nil ?_
              intro w3 u3
              replace u3 := later_out u3
              have hw3 := Lib.hid (hwz.out.trans u3)
              clear u3 l1 l2 l3 l4
              go_wp2_with fail
              go_roundw
              case rel => exact ⟨k + 1, by omega, by rw [hdk], by go_num, hw3.out⟩
              case measure => simp [intOf]; omega
          · obtain rfl : k = v.names.length := by omega
            have hdp : decide (p < v.names.length) = true := decide_eq_true hp
            rw [hdp]
            go_wp2_with fail
            go_roundw
            case rel => exact ⟨i + 1, by omega, by go_num, hwz⟩
            case measure => simp [intOf]; omega
      · obtain rfl : i = x.names.length := by omega
        go_wp2_with fail
        go_ret
        exact ⟨rfl, HN.out.trans hw.out⟩
end Go.Proofs.YtcelfjoopagmlaaGreatDoor
namespace Go.Proofs.YtcelfjoopagmlaaGreatDoor
open Go.RowKit Go.MapKept
set_option linter.unusedVariables false
set_option linter.unusedSimpArgs false
attribute [local irreducible] Calls
open Fm (Ty Vl Str nameB rightTy rightVl)

theorem has_iff {t : Ty} {v : Vl} : Fm.has t v = true ↔ rightTy 4 t = true ∧ rightVl 4 v = true ∧ Fm.fits 4 t v = true := by
  unfold Fm.has
  simp only [Bool.and_eq_true]
  exact ⟨fun h => ⟨h.1.1, h.1.2, h.2⟩, fun h => ⟨⟨h.1, h.2.1⟩, h.2.2⟩⟩
theorem fWrite_has {t : Ty} {v : Vl} (h : Fm.has t v = true) : fWrite t v = (Fm.writeF 4 t v, 0) := by
  unfold fWrite; rw [if_neg (by rw [(has_iff.1 h).1]; simp), if_neg (by rw [h]; simp)]
theorem fRead_none {t : Ty} {s : Str} (h1 : rightTy 4 t = true) (h : Fm.readF 4 t s = none) : fRead t s = (Fm.noV, 34) := by
  unfold fRead; rw [if_neg (by rw [h1]; simp), h]
theorem fRead_some {t : Ty} {s : Str} {v : Vl} (h1 : rightTy 4 t = true) (h : Fm.readF 4 t s = some v) : fRead t s = (v, 0) := by
  unfold fRead; rw [if_neg (by rw [h1]; simp), h]
/-- What is written for a type is read for one that it is a subtype of. -/
theorem back_read {a b : Ty} {v : Vl} (h : Fm.has a v = true) (hok : Fm.okI 4 v) (hb : rightTy 4 b = true) (hs : Fm.sub 4 a b = true) : fRead b (Fm.writeF 4 a v) = (Fm.proj 4 b v, 0) := by
  obtain ⟨h1, h2, h3⟩ := has_iff.1 h
  refine fRead_some hb ?_
  rw [Fm.read_write (Nat.le_refl _) h1 hb h2 h3 hok, if_pos hs]
end Go.Proofs.YtcelfjoopagmlaaGreatDoor
namespace Go.Proofs.YtcelfjoopagmlaaGreatDoor
open Go.RowKit Go.MapKept
set_option linter.unusedVariables false
set_option linter.unusedSimpArgs false
attribute [local irreducible] Calls
open Fm (Ty Vl Str nameB rightTy rightVl)

theorem reads_iff {a b : Ty} : fReads a b = true ↔ rightTy 4 a = true ∧ rightTy 4 b = true ∧ Fm.sub 4 a b = true := by
  unfold fReads
  simp only [Bool.and_eq_true]
  exact ⟨fun h => ⟨h.1.1, h.1.2, h.2⟩, fun h => ⟨⟨h.1, h.2.1⟩, h.2.2⟩⟩
end Go.Proofs.YtcelfjoopagmlaaGreatDoor
namespace Go.Proofs.YtcelfjoopagmlaaGreatDoor
open Go.RowKit

theorem upd_putObj (W : World) (l : Nat) (o : Obj) : nG ≤ l → Upd (fun k => k = l) W (W.putObj l o) := fun hg =>
  ⟨rfl, rfl, rfl, by simp, fun k _ hn => World.putObj_heap_other (by rintro rfl; rcases hn with h | h <;> first | omega | exact h rfl)⟩

/-- The iterator: it yields xs one by one, turning block bt alone between two rounds. -/
def SeqB {α : Type} (P : Program) (gf : Nat) (lb : Array Value) (encs : α → Array Value) (bt : Nat) (S : Nat → Prop) (xs : List α) (w : World) : Prop :=
  ∀ (l : Nat) (J Jx : List α → World → Prop) (W : World), Nw w W →
    (∀ s A B, J s A → Upd (fun k => k = bt) A B → J s B) → (∀ s A B, Jx s A → Upd (fun k => k = bt) A B → Jx s B) →
    (∀ pre x rest W1, xs = pre ++ x :: rest → J pre W1 → YieldAt Fence.wide 0 P l (encs x) W1 fun e W' =>
      (e = .returned (.bool true) ∧ J (pre ++ [x]) W' ∧ ∀ b, S b → W'.heap[b]? = W1.heap[b]?) ∨ (e = .returned (.bool false) ∧ Jx (pre ++ [x]) W')) →
    J [] W →
    Calls P gf (#[.func (.yield l) #[] #[]] ++ lb) W fun e W' => (∃ v, e = .returned v) ∧ (J xs W' ∨ ∃ pre, Jx pre W')

/-- How a round's body may be left: the loop's own blocks lie as they lay, and the iterator's where it goes on. -/
def postB {α : Type} (n : Nat) (S : Nat → Prop) (I : List α → World → Prop) (Ix : Code → List α → World → Prop) (xs : List α) (W : World) : Exit → Act → World → Prop
  | .normal, _, W' => (∀ k o, n ≤ k → W.heap[k]? = some o → o.isCells = false → W'.heap[k]? = some o) ∧ (∀ b, S b → W'.heap[b]? = W.heap[b]?) ∧ I xs W'
  | .ret, _, W' => (∀ k o, n ≤ k → W.heap[k]? = some o → o.isCells = false → W'.heap[k]? = some o) ∧ Ix .ret xs W'
  | .exit id, _, W' => (∀ k o, n ≤ k → W.heap[k]? = some o → o.isCells = false → W'.heap[k]? = some o) ∧ Ix (.exit id) xs W'
  | .goto t, _, W' => (∀ k o, n ≤ k → W.heap[k]? = some o → o.isCells = false → W'.heap[k]? = some o) ∧ Ix (.goto t) xs W'
  | .panic _, _, _ => False
  | .outgrown, _, _ => False

/-- What a caller's word abides: a turn of the iterator's block, or of one that holds no cells and was laid since. -/
def Bears {α : Type} (n bt : Nat) (I : List α → World → Prop) : Prop :=
  ∀ s A B b, I s A → Upd (fun k => k = b) A B → (b = bt ∨ n ≤ b ∧ ∃ o, A.heap[b]? = some o ∧ o.isCells = false) → I s B

end Go.Proofs.YtcelfjoopagmlaaGreatDoor
namespace Go.Proofs.YtcelfjoopagmlaaGreatDoor
open Go.RowKit Go.MapKept
set_option linter.unusedVariables false
set_option linter.unusedSimpArgs false
attribute [local irreducible] Calls
open Fm (Ty Vl Str nameB rightTy rightVl)

/-- Where the fields lie: the block, the offset, the third cells. -/
def sl3 (p : Option Addr × Nat × Nat) : Value := .slice p.1 p.2.1 p.2.2
structure FdK (w : World) (b off : Nat) (l : List (Str × Ty)) (sv : Nat → Option Addr × Nat × Nat) : Prop where
  lt : b < w.heap.size
  at_ : ∀ i (h : i < l.length), w.cell? ⟨b, off + i * 3, none⟩ = some (.string ⟨(l[i]).1.toArray⟩) ∧ w.cell? ⟨b, off + i * 3 + 1, none⟩ = some (.int .i64 (l[i]).2.kind) ∧ w.cell? ⟨b, off + i * 3 + 2, none⟩ = some (sl3 (sv i)) ∧ TyAt w (sl3 (sv i)) (l[i]).2
theorem fdk_of {w : World} {b off : Nat} {l : List (Str × Ty)} (hb : b < w.heap.size) (h : ∀ i (h : i < l.length), ∃ sv, w.cell? ⟨b, off + i * 3, none⟩ = some (.string ⟨(l[i]).1.toArray⟩) ∧ w.cell? ⟨b, off + i * 3 + 1, none⟩ = some (.int .i64 (l[i]).2.kind) ∧ w.cell? ⟨b, off + i * 3 + 2, none⟩ = some sv ∧ TyAt w sv (l[i]).2 ∧ (l[i]).1.length ≤ maxLen) :
    ∃ sv, FdK w b off l sv := by
  have h2 : ∀ i (h : i < l.length), ∃ p : Option Addr × Nat × Nat, w.cell? ⟨b, off + i * 3, none⟩ = some (.string ⟨(l[i]).1.toArray⟩) ∧ w.cell? ⟨b, off + i * 3 + 1, none⟩ = some (.int .i64 (l[i]).2.kind) ∧ w.cell? ⟨b, off + i * 3 + 2, none⟩ = some (sl3 p) ∧ TyAt w (sl3 p) (l[i]).2 := fun i hi => by
    obtain ⟨sv, h1, h2, h3, h4, -⟩ := h i hi
    obtain ⟨sa, sc, e, -⟩ := h4.cells
    subst e
    exact ⟨(sa, _, sc), h1, h2, h3, h4⟩
  exact ⟨fun i => if hi : i < l.length then Classical.choose (h2 i hi) else (none, 0, 0), hb, fun i hi => by
    simp only [hi, dite_true]
    exact Classical.choose_spec (h2 i hi)⟩
def encF (l : List (Str × Ty)) (sv : Nat → Option Addr × Nat × Nat) (i : Nat) : Array Value := #[.int .i64 (i : Int), .agg #[.string ⟨((l[i]?.map (·.1)).getD []).toArray⟩, .int .i64 ((l[i]?.map (·.2.kind)).getD 0), sl3 (sv i)]]
theorem range_rev (m : Nat) : (List.range (m + 1)).reverse = m :: (List.range m).reverse := by rw [List.range_succ, List.reverse_append]; rfl
theorem cell_block {w w' : World} {b : Nat} (h : w'.heap[b]? = w.heap[b]?) (o : Nat) : w'.cell? ⟨b, o, none⟩ = w.cell? ⟨b, o, none⟩ := by simp [World.cell?, h]
set_option maxHeartbeats 4000000 in
set_option maxRecDepth 100000 in
theorem back_seq (bt b off cap : Nat) (l : List (Str × Ty)) (sv : Nat → Option Addr × Nat × Nat) (w : World) (hbt : w.heap[bt]? = some (.cells #[.slice (some ⟨b, off, none⟩) l.length cap] 22 (0, 0)))
    (hf : FdK w b off l sv) (hl : l.length ≤ 8) :
    SeqB Tryz.prog 114 #[.pointer (some ⟨bt, 0, none⟩)] (encF l sv) bt (fun k => k = bt ∨ k = b) (List.range l.length).reverse w := by
  intro lp J Jx W u hJ hJx hY h0
  refine (callsIn_wide (n := 0)).1 ?_
  have e1 := Nw.keep u hbt
  have hn1 : (l.length : Int) ≤ 8 := by omega
  have HF := Lib.hid hf
  have HB0 : Hid (W.heap[b]? = w.heap[b]?) := u.block b hf.lt (Or.inr id)
  clear hf
  refine callsIn_of_wp Tryz.func114 rfl trivial ?_ rfl
  simp only [Tryz.ntmps114, List.size_toArray, List.length_cons, List.length_nil, Nat.reduceAdd, Nat.reduceSub, Array.replicate_succ, Array.replicate_zero, List.push_toArray, List.append_toArray, List.nil_append, List.cons_append]
  have c1 : W.cell? ⟨bt, 0, none⟩ = some (.slice (some ⟨b, off, none⟩) l.length cap) := by rw [cells_cell e1]; rfl
  gi_wp2
  gi_loopw [3] (fun (iv : Value) wr => ∃ (m : Nat) (pre : List Nat), m ≤ l.length ∧ iv = .int .i64 ((m : Int) - 1) ∧ (List.range l.length).reverse = pre ++ (List.range m).reverse ∧ wr.heap[bt]? = some (.cells #[.slice (some ⟨b, off, none⟩) l.length cap] 22 (0, 0)) ∧ wr.heap[b]? = w.heap[b]? ∧ J pre wr)
    (fun (iv : Value) _ => (intOf iv + 1).toNat)
  case atStart => exact ⟨l.length, [], Nat.le_refl _, rfl, rfl, e1, HB0.out, h0⟩
  case round =>
    obtain ⟨m, pre, hm, rfl, hpr, b1, b2, hJs⟩ := hrel
    clear c1
    have c1 : wr.cell? ⟨bt, 0, none⟩ = some (.slice (some ⟨b, off, none⟩) l.length cap) := by rw [cells_cell b1]; rfl
    cases m with
    | zero =>
      gi_wp2
      go_end0
      exact ⟨⟨_, rfl⟩, .inl (by rw [hpr]; simpa using hJs)⟩
    | succ m =>
      have hm1 : ((m + 1 : Nat) : Int) - 1 = (m : Int) := by omega
      rw [hm1]
      have hml : (m : Int) < l.length := by omega
      have hm0 : (0 : Int) ≤ (m : Int) := by omega
      obtain ⟨f0, f1, f2, f3⟩ := HF.out.at_ m (by omega)
      rw [← cell_block b2] at f0 f1 f2
      obtain ⟨fn, tmps, assign, body, hy, hR⟩ := hY pre m (List.range m).reverse wr (by rw [hpr, range_rev]) hJs
      have hl1 : (l[m]?.map (·.1)).getD [] = (l[m]'(by omega)).1 := by simp [show m < l.length by omega]
      have hl2 : (l[m]?.map (·.2.kind)).getD 0 = (l[m]'(by omega)).2.kind := by simp [show m < l.length by omega]
      unfold encF sl3 at hy
      unfold sl3 at f2
      rw [hl1, hl2] at hy
      clear hl1 hl2
      generalize l[m]'(by omega) = fld at *
      have HPR := Lib.hid (show (List.range l.length).reverse = (pre ++ [m]) ++ (List.range m).reverse by rw [hpr, range_rev, List.append_assoc]; rfl)
      clear hpr
      gi_wp2
      refine ⟨rfl, hR.mono ?_⟩
      rintro e W3 (⟨rfl, hJ3, hk3⟩ | ⟨rfl, hJx3⟩)
      · have HB1 := Lib.hid ((hk3 bt (Or.inl rfl)).trans b1)
        have HB2 := Lib.hid ((hk3 b (Or.inr rfl)).trans b2)
        have HJ3 := Lib.hid hJ3
        clear hJ3 hk3 hR hy f0 f1 f2 f3
        gi_wp2
        go_roundw
        case rel => exact ⟨m, _, by omega, by go_num, HPR.out, HB1.out, HB2.out, HJ3.out⟩
        case measure => simp [intOf]
      · have HJX := Lib.hid hJx3
        clear hJx3 hR hy f0 f1 f2 f3
        gi_wp2
        refine bodyPost_ret (results_none rfl _ _ _) rfl ?_
        exact ⟨⟨_, rfl⟩, .inr ⟨_, HJX.out⟩⟩
end Go.Proofs.YtcelfjoopagmlaaGreatDoor
namespace Go.Proofs.YtcelfjoopagmlaaGreatDoor
open Go.RowKit

set_option maxHeartbeats 1000000 in
theorem wp_rangeFuncW {α : Type} {P : Program} {g : Operand} {ps : Array Tmp} {assign body : Code} {Q : Exit → Act → World → Prop} {a : Act} {w : World}
    {gf : Nat} {lb : Array Value} (hg : a.eval g = .func (.func gf) #[] lb) (eg : ∀ args w, (callFunc gf args).run P w = .ok (.enter gf args) w)
    {encs : α → Array Value} {bt : Nat} {S : Nat → Prop} {xs : List α} (hseq : SeqB P gf lb encs bt S xs w) (hbig : nG ≤ w.heap.size) (hbt : bt < w.heap.size) (hS : ∀ b, S b → b < w.heap.size) (hps : ∀ x, (encs x).size = ps.size)
    (I : List α → World → Prop) (Ix : Code → List α → World → Prop) (hI : Bears w.heap.size bt I) (hIx : ∀ c, Bears w.heap.size bt (Ix c)) (h0 : I [] w) (a₁ : α → World → Act) (w₁ : α → World → World) (hw₁ : ∀ x W, Nw W (w₁ x W))
    (hassign : ∀ (l : Nat) (x : α) (W : World) (K : Act → World → Prop), K (a₁ x W) (w₁ x W) →
      assign.wpIn (Fence.wide.inRound l) 0 P (Exit.then K (fun _ _ _ => False)) { tmps := (ps.zip (encs x)).foldl (fun t (p, v) => t.setIfInBounds p v) a.tmps, defers := [] } W)
    (hbody : ∀ (l : Nat) (pre : List α) (x : α) (rest : List α) (W0 W : World), xs = pre ++ x :: rest → I pre W → w.heap.size ≤ W0.heap.size → (∀ (k : Nat) (cs : Array Value) (T : TypeId) (f : Nat × Nat), (w₁ x W0).heap[k]? = some (Obj.cells cs T f) → W.heap[k]? = some (Obj.cells cs T f)) → body.wpIn (Fence.wide.inRound l) 0 P (postB w.heap.size S I Ix (pre ++ [x]) W) (a₁ x W0) W)
    (hdone : ∀ (D : Nat) (W : World), w.heap.size ≤ D → I xs W → W.heap[D]? = some (.deferred (some [])) → Q .normal { a with defers := { target := .collected D, args := #[] } :: a.defers } W)
    (hstop : ∀ (D : Nat) (c : Code) (pre : List α) (W : World), w.heap.size ≤ D → Ix c pre W → W.heap[D]? = some (.deferred (some [])) → c.wp P Q { a with defers := { target := .collected D, args := #[] } :: a.defers } W) :
    (Code.rangeFunc g ps assign body).wp P Q a w := by
  refine (wpIn_wide (n := 0)).1 (wpIn_rangeFunc ?_)
  intro fn hfn
  obtain ⟨rec, hrec⟩ : ∃ rec : LoopState → Option Code → Loop, rec = fun st pe => { state := st, pending := pe, fn, tmps := a.tmps, params := ps, assign, body, defers := w.heap.size } := ⟨_, rfl⟩
  obtain ⟨W1, hW1⟩ : ∃ W1, (w.alloc (.deferred (some []))).alloc (.loop (rec .ready none)) = W1 := ⟨_, rfl⟩
  have hL1 : W1.heap[w.heap.size + 1]? = some (.loop (rec .ready none)) := by
    rw [← hW1]; have := World.alloc_heap_new (w.alloc (.deferred (some []))) (.loop (rec .ready none)); rwa [World.size_alloc] at this
  have hK1 : W1.heap[w.heap.size]? = some (.deferred (some [])) := by
    rw [← hW1]; exact (heap_alloc _ _ _ (by simp)).trans (World.alloc_heap_new w _)
  have hu1 : ∀ T : Nat → Prop, Upd T w W1 := fun T => by rw [← hW1]; exact ((Upd.refl T w).alloc _).alloc _
  have hI1 : I [] W1 := hI _ _ _ bt h0 (hu1 _) (Or.inl rfl)
  refine ⟨w.heap.size + 1, [{ target := .collected w.heap.size, args := #[] }], W1, { target := .fn (.func gf) lb, args := #[.func (.yield (w.heap.size + 1)) #[] #[]] }, W1, gf,
    #[.func (.yield (w.heap.size + 1)) #[] #[]] ++ lb, W1, ?_, ?_, fun _ _ => trivial, ?_, fun h => (by cases h), ?_⟩
  · rw [← hW1, hrec]; exact run_enterLoop_outer _ _ _ _ _
  · simp only [resolve, hg]
    simp [go_sem]
  · simp [invoke, go_sem, eg]
  refine callsIn_wide.2 ?_
  have turn : ∀ {c : List α → World → Prop} (_ : Bears w.heap.size bt c) (s : List α) (A : World) (k : Nat) (o o' : Obj), c s A → w.heap.size ≤ k → A.heap[k]? = some o → o.isCells = false → c s (A.putObj k o') :=
    fun {c} hc s A k o o' hs hk ho hn => hc s A _ k hs (upd_putObj A k o' (by omega)) (Or.inr ⟨hk, o, ho, hn⟩)
  refine (hseq (w.heap.size + 1)
    (fun pre W => I pre W ∧ W.heap[w.heap.size + 1]? = some (.loop (rec .ready none)) ∧ W.heap[w.heap.size]? = some (.deferred (some [])))
    (fun pre W => ∃ c, Ix c pre W ∧ W.heap[w.heap.size + 1]? = some (.loop (rec .done (some c))) ∧ W.heap[w.heap.size]? = some (.deferred (some [])))
    W1 (hu1 _)
    (fun s A B hs u => ⟨hI s A B bt hs.1 u (Or.inl rfl), u.keep hs.2.1 (by omega), u.keep hs.2.2 (by omega)⟩)
    (fun s A B hs u => by
      obtain ⟨c, hc, hl, hk⟩ := hs
      exact ⟨c, hIx c s A B bt hc u (Or.inl rfl), u.keep hl (by omega), u.keep hk (by omega)⟩)
    ?_ ⟨hI1, hL1, hK1⟩).mono ?_
  · rintro pre x rest W hxs ⟨hi, hl, hk⟩
    have hlt : w.heap.size + 1 < W.heap.size := (Array.getElem?_eq_some_iff.1 hl).1
    have hy := run_yield (P := P) (args := encs x) hl (by rw [hrec]; exact hps x)
    rw [hrec] at hy
    obtain ⟨V, hV⟩ : ∃ V, V = w₁ x W := ⟨_, rfl⟩
    have hnV : Nw W V := by rw [hV]; exact hw₁ x W
    have hlV := Nw.keep hnV hl
    have hkV := Nw.keep hnV hk
    have hiV : I pre V := hI _ _ _ bt hi (Nw.upd _ hnV) (Or.inl rfl)
    have hltV : w.heap.size + 1 < V.heap.size := (Array.getElem?_eq_some_iff.1 hlV).1
    refine ⟨fn, _, assign, body, hy, roundIn_of_wpIn hfn (hassign _ x W _ ⟨_, (by rw [← hV]; exact run_beginRound hlV (by rw [hrec])), ?_⟩)⟩
    have hl2 : (V.putObj (w.heap.size + 1) (.loop { rec .ready none with state := .busy })).heap[w.heap.size + 1]? = some (.loop { rec .ready none with state := .busy }) := World.putObj_heap_same hltV
    have hk2 : (V.putObj (w.heap.size + 1) (.loop { rec .ready none with state := .busy })).heap[w.heap.size]? = some (.deferred (some [])) := (World.putObj_heap_other (by omega)).trans hkV
    refine wpIn_mono (hbody _ pre x rest W _ hxs (turn hI _ _ _ _ _ hiV (by omega) hlV rfl) (by omega) (fun k cs T f hc => by
      rw [← hV] at hc
      refine (World.putObj_heap_other ?_).trans hc
      rintro rfl
      rw [hlV] at hc
      cases hc)) ?_
    have fin : ∀ (jump : Option Code) (W3 : World), (∀ k o, w.heap.size ≤ k → (V.putObj (w.heap.size + 1) (.loop { rec .ready none with state := .busy })).heap[k]? = some o → o.isCells = false → W3.heap[k]? = some o) →
        (Instr.endRound (w.heap.size + 1) jump).run P W3 = .ok (.bool jump.isNone) (W3.putObj (w.heap.size + 1) (.loop (rec (if jump.isNone then .ready else .done) jump))) ∧
        W3.heap[w.heap.size + 1]? = some (.loop { rec .ready none with state := .busy }) ∧
        (W3.putObj (w.heap.size + 1) (.loop (rec (if jump.isNone then .ready else .done) jump))).heap[w.heap.size + 1]? = some (.loop (rec (if jump.isNone then .ready else .done) jump)) ∧
        (W3.putObj (w.heap.size + 1) (.loop (rec (if jump.isNone then .ready else .done) jump))).heap[w.heap.size]? = some (.deferred (some [])) := fun jump W3 hk3 => by
      have hl3 := hk3 _ _ (by omega) hl2 rfl
      have := run_endRound (P := P) jump hl3
      rw [hrec] at this ⊢
      exact ⟨this, by rw [hrec] at hl3; exact hl3, World.putObj_heap_same (Array.getElem?_eq_some_iff.1 hl3).1, (World.putObj_heap_other (by omega)).trans (hk3 _ _ (Nat.le_refl _) hk2 rfl)⟩
    rintro e a3 W3 hp
    cases e with
    | normal =>
      obtain ⟨hk3, hs3, hi3⟩ := hp
      obtain ⟨hr, hl3, hl4, hk4⟩ := fin none W3 hk3
      refine ⟨_, _, hr, .inl ⟨rfl, ⟨turn hI _ _ _ _ _ hi3 (by omega) hl3 rfl, hl4, hk4⟩, fun b hb => ?_⟩⟩
      have := hS b hb
      exact (World.putObj_heap_other (by omega)).trans ((hs3 b hb).trans ((World.putObj_heap_other (by omega)).trans (hnV.block b (by omega) (Or.inr id))))
    | ret =>
      obtain ⟨hk3, hi3⟩ := hp
      obtain ⟨hr, hl3, hl4, hk4⟩ := fin (some .ret) W3 hk3
      exact ⟨_, _, hr, .inr ⟨rfl, .ret, turn (hIx _) _ _ _ _ _ hi3 (by omega) hl3 rfl, hl4, hk4⟩⟩
    | exit id =>
      obtain ⟨hk3, hi3⟩ := hp
      obtain ⟨hr, hl3, hl4, hk4⟩ := fin (some (.exit id)) W3 hk3
      exact ⟨_, _, hr, .inr ⟨rfl, .exit id, turn (hIx _) _ _ _ _ _ hi3 (by omega) hl3 rfl, hl4, hk4⟩⟩
    | goto t =>
      obtain ⟨hk3, hi3⟩ := hp
      obtain ⟨hr, hl3, hl4, hk4⟩ := fin (some (.goto t)) W3 hk3
      exact ⟨_, _, hr, .inr ⟨rfl, .goto t, turn (hIx _) _ _ _ _ _ hi3 (by omega) hl3 rfl, hl4, hk4⟩⟩
    | panic ch => exact hp.elim
    | outgrown => exact hp.elim
  · rintro e W2 ⟨⟨v, rfl⟩, (⟨hi, hl, hk⟩ | ⟨pre, c, hi, hl, hk⟩)⟩
    · exact ⟨none, _, by have := run_endLoop (P := P) hl (by rw [hrec]; simp); rw [hrec] at this; exact this, hdone _ _ (Nat.le_refl _) (turn hI _ _ _ _ _ hi (by omega) hl rfl) ((World.putObj_heap_other (by omega)).trans hk)⟩
    · exact ⟨some c, _, by have := run_endLoop (P := P) hl (by rw [hrec]; simp); rw [hrec] at this; exact this, (wpIn_wide (n := 0)).2 (hstop _ c pre _ (Nat.le_refl _) (turn (hIx c) _ _ _ _ _ hi (by omega) hl rfl) ((World.putObj_heap_other (by omega)).trans hk))⟩
end Go.Proofs.YtcelfjoopagmlaaGreatDoor
