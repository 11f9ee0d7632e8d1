/- The reference's reading (ladingref43): read of an int or a bool. -/
import Derived.Test.YthagiklfmkdmaaaGreatDoorPkFTel4318
import Derived.Test.YthagiklfmkdmaaaGreatDoorPkFTel4319
import Derived.Test.YthagiklfmkdmaaaGreatDoorPkFTel432
namespace Go.Proofs.YthagiklfmkdmaaaGreatDoor
open Go.RowKit
set_option linter.unusedVariables false
set_option linter.unusedSimpArgs false
attribute [local irreducible] Calls
open Fm (Ty Vl Str nameB rightTy rightVl)

theorem i64_0 : I64 0 := by unfold I64; omega
theorem i64_1 : I64 1 := by unfold I64; omega
theorem i64_2 : I64 2 := by unfold I64; omega
theorem entF_asc : ∀ (n : Nat) (acc : List (Str × Str)) (st : Wire.St) (l : List (Str × Str)), Fm.asc (acc.map (·.1)) = true → Fm.entF n acc st = some l → Fm.asc (l.map (·.1)) = true := by
  intro n
  induction n with
  | zero => intro acc st l _ h; cases h
  | succ n ih =>
    intro acc st l ha h
    cases st with
    | none => cases h
    | some s =>
      cases s with
      | nil =>
        obtain rfl := Option.some.inj h
        exact ha
      | cons c r =>
        unfold Fm.entF at h
        dsimp only at h
        split at h
        · cases h
        split at h
        · cases h
        · next _ hlow =>
          refine ih _ _ _ ?_ h
          rw [List.map_append]
          exact asc_snoc ha (low_last (by simpa using hlow))
theorem entG_asc {st : Wire.St} {l : List (Str × Str)} (h : Fm.entG [] st = some l) : Fm.asc (l.map (·.1)) = true := entF_asc _ [] _ _ rfl h
/-- What the reference's read answers: some value, whatever is read. -/
def RdPost43 (d : Nat) (t : Ty) (s : Str) (w : World) (e : Ending) (w' : World) : Prop :=
  ∃ (v : Vl) (xa : Option Addr) (xc : Nat) (ya : Option Addr) (yc : Nat), e = .returned (.tuple #[.agg #[.int .i64 v.kind, .int .i64 v.n, .slice xa v.names.length xc, .slice ya v.vals.length yc], .bool (Fm.readF d t s).isSome]) ∧
    Hid ((∀ x, Fm.readF d t s = some x → v = x) ∧ VlAt (fun j => w.heap.size ≤ j) w' (.slice xa v.names.length xc) (.slice ya v.vals.length yc) v ∧ Nw w w')
theorem rd43_results (tmps : Array Value) (w : World) {r : Nat} {k n : Int} {nv vv : Value} {b : Bool} (hr : tmps.getD 4 undef = .pointer (some ⟨r, 0, none⟩)) (h5 : tmps.getD 5 undef = .bool b) (hb : w.heap[r]? = some (.cells #[.int .i64 k, .int .i64 n, nv, vv] tVl (0, 0))) :
    (results Tryz.f54 tmps).run Tryz.prog w = .ok (.tuple #[.agg #[.int .i64 k, .int .i64 n, nv, vv], .bool b]) w := by
  obtain ⟨c0, c1, c2, c3⟩ := cell4F hb
  rw [Array.getD_eq_getD_getElem?] at hr h5
  simp [results, Tryz.results54, go_sem, hr, h5, c0, c1, c2, c3]
/-- The result, stored. -/
theorem rd43_exit {r : Nat} {w y : World} (hg : nG ≤ r) (hw : w.heap.size ≤ r) {a b c d : Value} (hr : y.heap[r]? = some (.cells #[a, b, c, d] tVl (0, 0))) (hu : Nw w y) (k n : Int) (nv vv : Value) {P : Nat → Prop} {v : Vl} (hv : VlAt P y nv vv v) (hP : ∀ j, P j → j ≠ r ∧ w.heap.size ≤ j) :
    ((((y.setCell ⟨r, 0, none⟩ (.int .i64 k)).setCell ⟨r, 1, none⟩ (.int .i64 n)).setCell ⟨r, 2, none⟩ nv).setCell ⟨r, 3, none⟩ vv).heap[r]? = some (.cells #[.int .i64 k, .int .i64 n, nv, vv] tVl (0, 0)) ∧
    Hid (VlAt (fun j => w.heap.size ≤ j) ((((y.setCell ⟨r, 0, none⟩ (.int .i64 k)).setCell ⟨r, 1, none⟩ (.int .i64 n)).setCell ⟨r, 2, none⟩ nv).setCell ⟨r, 3, none⟩ vv) nv vv v ∧ Nw w ((((y.setCell ⟨r, 0, none⟩ (.int .i64 k)).setCell ⟨r, 1, none⟩ (.int .i64 n)).setCell ⟨r, 2, none⟩ nv).setCell ⟨r, 3, none⟩ vv)) := by
  have hu9 := Upd.set1 (Upd.set1 (Upd.set1 (Upd.set1 (Upd.refl _ y) hg 0 (.int .i64 k)) hg 1 (.int .i64 n)) hg 2 nv) hg 3 vv
  refine ⟨setCell_block (setCell_block (setCell_block (setCell_block hr 0 _) 1 _) 2 _) 3 _, ?_, hu.trans' hu9 (fun k hk e => by omega)⟩
  exact (hv.upd hu9 (fun k hk e => (hP k hk).1 e)).mono (fun k _ hk => (hP k hk).2)
set_option maxHeartbeats 8000000 in
set_option maxRecDepth 100000 in
theorem read43_k0 (d : Nat) (t : Ty) (hk : t.kind = 0) (fv : Value) (s : Str) (w : World) (g : Gl w) (hr : rightTy (d + 1) t = true) (ht : TyAt w fv t) (hs : s.length ≤ 1000000) :
    Calls Tryz.prog 54 #[.agg #[.int .i64 t.kind, fv], .string ⟨s.toArray⟩] w (RdPost43 (d + 1) t s w) := by
  have HKK := Lib.hid hk
  clear hk
  have HZ9 := Lib.hid (readF_zero (d := d) (t := t) (s := s))
  have HI9 : Hid (∀ st, I64 (Wire.rInt st).1) := fun st => Wire.rNumber_i64 st 59 (-9223372036854775808)
  have hgb := g.big
  obtain ⟨fa, fc, rfl, hfl, hfc⟩ := ht.cells
  have HFC : Hid (FdC w fa t.fs) := hfc
  have n1 := nw_alloc w (.cells #[.int .i64 t.kind, .slice fa t.fs.length fc] tTy)
  have n2 := nw_alloc (w.alloc (.cells #[.int .i64 t.kind, .slice fa t.fs.length fc] tTy)) (.cells #[.int .i64 0, .int .i64 0, .slice none 0 0, .slice none 0 0] tVl)
  have b1 := n2.keep (heap_new w (.cells #[.int .i64 t.kind, .slice fa t.fs.length fc] tTy))
  have b2 := heap_new (w.alloc (.cells #[.int .i64 t.kind, .slice fa t.fs.length fc] tTy)) (.cells #[.int .i64 0, .int .i64 0, .slice none 0 0, .slice none 0 0] tVl)
  rw [World.size_alloc] at b2
  have hN := n1.trans n2
  obtain ⟨W, hW⟩ : ∃ W, W = (w.alloc (.cells #[.int .i64 t.kind, .slice fa t.fs.length fc] tTy)).alloc (.cells #[.int .i64 0, .int .i64 0, .slice none 0 0, .slice none 0 0] tVl) := ⟨_, rfl⟩
  have hWs : W.heap.size = w.heap.size + 2 := by rw [hW, World.size_alloc, World.size_alloc]
  rw [← hW] at hN b1 b2
  have HN := Lib.hid hN
  have HW := Lib.hid hW
  have HB1 := Lib.hid b1
  have HB2 := Lib.hid b2
  have HGB := Lib.hid hgb
  have HWs := Lib.hid hWs
  have hopen := Lib.hid (OpenQ ⟨s.toArray⟩ s (bs_list _) W (g.upd hN))
  have HRT := Lib.hid (Fm.rt_iff.1 hr)
  have HB9b := Lib.hid (readF_bad (d := d) (t := t) (s := s))
  have HLS := Lib.hid hs
  have HTY := Lib.hid ht
  clear n1 n2 b1 b2 hN hW hWs hfc ht hgb hr hs
  go_enter Tryz.func54, Tryz.ntmps54
  go_upto_region 1 with fail
  rw [← HW.out]
  clear HW
  go_wp2_with fail
  (with_reducible refine (hopen.out).mono ?_)
  rintro _ w1 ⟨rb, rfl, hrb, hrd, u1⟩
  have hrb2 : w.heap.size + 2 ≤ rb := by have := HWs.out; omega
  have hnum := Lib.hid (NumQ rb (some s) w1 hrd (by have := HLS.out; show s.length ≤ _; omega))
  have HB21 := Lib.hid (Nw.keep u1 HB2.out)
  have HB11 := Lib.hid (Nw.keep u1 HB1.out)
  have HU1 := Lib.hid (HN.out.trans u1)
  have hle := Wire.rNumber_le (some s) 59 0
  have hle' : ((Wire.rNum (some s)).2.getD []).length ≤ 1000000 := Nat.le_trans hle HLS.out
  have HLE := Lib.hid hle'
  clear hopen hrd u1 hrb hle hle'
  go_wp2_with fail
  (with_reducible refine (hnum.out).mono ?_)
  rintro _ w2 ⟨rfl, hr2, u2⟩
  have HU2 : Hid (Nw w w2) := HU1.out.trans' u2 (fun k hk e => by omega)
  have hr9 := u2.keep HB21.out (fun e => by omega)
  have hr8 := u2.keep HB11.out (fun e => by omega)
  have HR9 := Lib.hid hr9
  have HR8 := Lib.hid hr8
  have HU9 := HU2
  have HR2 := Lib.hid hr2
  have x0 : w2.cell? ⟨w.heap.size, 0, none⟩ = some (.int .i64 t.kind) := by rw [cells_cell hr8]; rfl
  have r1 := hr2.c1
  clear hnum hr2 u2 HB21 HB11 HU1 hr9 hr8
  generalize Wire.rNum (some s) = KK at *
  obtain ⟨k0, s1⟩ := KK
  dsimp only at *
  cases hn : s1.isNone with
  | true =>
    rw [hn] at r1
    have e9 : Hid ((Fm.readF (d + 1) t s).isSome = false ∧ ∀ x, Fm.readF (d + 1) t s = some x → Fm.noV = x) := by
      have e := HB9b.out (Or.inl hn)
      exact ⟨by rw [e]; rfl, fun x hx => by rw [e] at hx; cases hx⟩
    -- the way out: the world w2 (HR9: the result's box; HU9: the step from w), the value Fm.noV (.mk .. [] []), the flag false, the equation e9.out
    obtain ⟨f0, f1, f2, f3⟩ := froz4F HR9.out
    obtain ⟨z0, z1, z2, z3⟩ := cell4F HR9.out
    obtain ⟨hb9, hz9⟩ := rd43_exit (w := w) (y := w2) (by have := HGB.out; omega) (Nat.le_succ _) HR9.out HU9.out (Vl.kind Fm.noV) (Vl.n Fm.noV) (.slice none 0 0) (.slice none 0 0) (VlAt.nil (fun j => w.heap.size + 2 ≤ j) (w2) (k := Vl.kind Fm.noV) (n := Vl.n Fm.noV) i64_0 i64_0) (fun j hj => ⟨by omega, by omega⟩)
    have HB9 := Lib.hid hb9
    clear hb9
    go_wp2_with fail
    refine bodyPost_ret (rd43_results (b := false) _ _ ?_ ?_ HB9.out) ?_ ?_
    · rfl
    · rfl
    · rfl
    exact ⟨Fm.noV, _, _, _, _, by rw [(e9.out).1]; rfl, (e9.out).2, hz9.out.1, hz9.out.2⟩
  | false =>
  rw [hn] at r1
  by_cases hk0 : k0 = t.kind
  rotate_left
  · have e9 : Hid ((Fm.readF (d + 1) t s).isSome = false ∧ ∀ x, Fm.readF (d + 1) t s = some x → Fm.noV = x) := by
      have e := HB9b.out (Or.inr hk0)
      exact ⟨by rw [e]; rfl, fun x hx => by rw [e] at hx; cases hx⟩
    have b0 : (k0 == t.kind) = false := by simp [hk0]
    have b1 : (k0 != t.kind) = true := by simp [hk0]
    -- the way out: the world w2 (HR9: the result's box; HU9: the step from w), the value Fm.noV (.mk .. [] []), the flag false, the equation e9.out
    obtain ⟨f0, f1, f2, f3⟩ := froz4F HR9.out
    obtain ⟨z0, z1, z2, z3⟩ := cell4F HR9.out
    obtain ⟨hb9, hz9⟩ := rd43_exit (w := w) (y := w2) (by have := HGB.out; omega) (Nat.le_succ _) HR9.out HU9.out (Vl.kind Fm.noV) (Vl.n Fm.noV) (.slice none 0 0) (.slice none 0 0) (VlAt.nil (fun j => w.heap.size + 2 ≤ j) (w2) (k := Vl.kind Fm.noV) (n := Vl.n Fm.noV) i64_0 i64_0) (fun j hj => ⟨by omega, by omega⟩)
    have HB9 := Lib.hid hb9
    clear hb9
    go_wp2_with fail
    refine bodyPost_ret (rd43_results (b := false) _ _ ?_ ?_ HB9.out) ?_ ?_
    · rfl
    · rfl
    · rfl
    exact ⟨Fm.noV, _, _, _, _, by rw [(e9.out).1]; rfl, (e9.out).2, hz9.out.1, hz9.out.2⟩
  subst hk0
  have b0 : (t.kind == t.kind) = true := by simp
  have b1 : (t.kind != t.kind) = false := by simp
  have e0 : (t.kind == 0) = true := by simp [HKK.out]
  have hint := Lib.hid (IntQ rb s1 w2 HR2.out (by have := HLE.out; omega))
  have E9 := Lib.hid (HZ9.out hn rfl HKK.out)
  have HII := Lib.hid (HI9.out s1)
  clear HZ9 HB9b HI9
  generalize Wire.rInt s1 = NN at *
  obtain ⟨nn, s2⟩ := NN
  dsimp only at *
  go_wp2_with fail
  (with_reducible refine (hint.out).mono ?_)
  rintro _ w3 ⟨rfl, hr3, u3⟩
  have hdn := Lib.hid (DoneQ rb s2 w3 hr3)
  have HR10 := Lib.hid (u3.keep HR9.out (fun e => by omega))
  have HU10 : Hid (Nw w w3) := HU9.out.trans' u3 (fun k hk e => by omega)
  clear HR9 HU9 hint u3 hr3 x0 r1
  obtain ⟨HR9, HU9⟩ := And.intro HR10 HU10
  clear HR10 HU10
  go_wp2_with fail
  (with_reducible refine (hdn.out).mono ?_)
  rintro _ _ ⟨rfl, rfl⟩
  cases hd : decide (s2 = some []) with
  | true =>
    have e9 : Hid ((Fm.readF (d + 1) t s).isSome = true ∧ ∀ x, Fm.readF (d + 1) t s = some x → (.mk 0 nn [] [] : Vl) = x) := by
      have e := E9.out
      rw [if_pos (of_decide_eq_true hd)] at e
      exact ⟨by rw [e]; rfl, fun x hx => by rw [e] at hx; exact Option.some.inj hx⟩
    -- the way out: the world w3 (HR9: the result's box; HU9: the step from w), the value (.mk 0 nn [] [] : Vl) (.mk .. [] []), the flag true, the equation e9.out
    obtain ⟨f0, f1, f2, f3⟩ := froz4F HR9.out
    obtain ⟨z0, z1, z2, z3⟩ := cell4F HR9.out
    obtain ⟨hb9, hz9⟩ := rd43_exit (w := w) (y := w3) (by have := HGB.out; omega) (Nat.le_succ _) HR9.out HU9.out (Vl.kind (.mk 0 nn [] [] : Vl)) (Vl.n (.mk 0 nn [] [] : Vl)) (.slice none 0 0) (.slice none 0 0) (VlAt.nil (fun j => w.heap.size + 2 ≤ j) (w3) (k := Vl.kind (.mk 0 nn [] [] : Vl)) (n := Vl.n (.mk 0 nn [] [] : Vl)) i64_0 HII.out) (fun j hj => ⟨by omega, by omega⟩)
    have HB9 := Lib.hid hb9
    clear hb9
    go_wp2_with fail
    refine bodyPost_ret (rd43_results (b := true) _ _ ?_ ?_ HB9.out) ?_ ?_
    · rfl
    · rfl
    · rfl
    exact ⟨(.mk 0 nn [] [] : Vl), _, _, _, _, by rw [(e9.out).1]; rfl, (e9.out).2, hz9.out.1, hz9.out.2⟩
  | false =>
    have e9 : Hid ((Fm.readF (d + 1) t s).isSome = false ∧ ∀ x, Fm.readF (d + 1) t s = some x → (.mk 0 nn [] [] : Vl) = x) := by
      have e := E9.out
      rw [if_neg (of_decide_eq_false hd)] at e
      exact ⟨by rw [e]; rfl, fun x hx => by rw [e] at hx; cases hx⟩
    -- the way out: the world w3 (HR9: the result's box; HU9: the step from w), the value (.mk 0 nn [] [] : Vl) (.mk .. [] []), the flag false, the equation e9.out
    obtain ⟨f0, f1, f2, f3⟩ := froz4F HR9.out
    obtain ⟨z0, z1, z2, z3⟩ := cell4F HR9.out
    obtain ⟨hb9, hz9⟩ := rd43_exit (w := w) (y := w3) (by have := HGB.out; omega) (Nat.le_succ _) HR9.out HU9.out (Vl.kind (.mk 0 nn [] [] : Vl)) (Vl.n (.mk 0 nn [] [] : Vl)) (.slice none 0 0) (.slice none 0 0) (VlAt.nil (fun j => w.heap.size + 2 ≤ j) (w3) (k := Vl.kind (.mk 0 nn [] [] : Vl)) (n := Vl.n (.mk 0 nn [] [] : Vl)) i64_0 HII.out) (fun j hj => ⟨by omega, by omega⟩)
    have HB9 := Lib.hid hb9
    clear hb9
    go_wp2_with fail
    refine bodyPost_ret (rd43_results (b := false) _ _ ?_ ?_ HB9.out) ?_ ?_
    · rfl
    · rfl
    · rfl
    exact ⟨(.mk 0 nn [] [] : Vl), _, _, _, _, by rw [(e9.out).1]; rfl, (e9.out).2, hz9.out.1, hz9.out.2⟩
set_option maxHeartbeats 8000000 in
set_option maxRecDepth 100000 in
theorem read43_k1 (d : Nat) (t : Ty) (hk : t.kind = 1) (fv : Value) (s : Str) (w : World) (g : Gl w) (hr : rightTy (d + 1) t = true) (ht : TyAt w fv t) (hs : s.length ≤ 1000000) :
    Calls Tryz.prog 54 #[.agg #[.int .i64 t.kind, fv], .string ⟨s.toArray⟩] w (RdPost43 (d + 1) t s w) := by
  have HKK := Lib.hid hk
  clear hk
  have HZ9 := Lib.hid (readF_one (d := d) (t := t) (s := s))
  have HI9 : Hid (∀ st, I64 (Wire.rNum st).1) := fun st => Wire.rNumber_i64 st 59 0
  have hgb := g.big
  obtain ⟨fa, fc, rfl, hfl, hfc⟩ := ht.cells
  have HFC : Hid (FdC w fa t.fs) := hfc
  have n1 := nw_alloc w (.cells #[.int .i64 t.kind, .slice fa t.fs.length fc] tTy)
  have n2 := nw_alloc (w.alloc (.cells #[.int .i64 t.kind, .slice fa t.fs.length fc] tTy)) (.cells #[.int .i64 0, .int .i64 0, .slice none 0 0, .slice none 0 0] tVl)
  have b1 := n2.keep (heap_new w (.cells #[.int .i64 t.kind, .slice fa t.fs.length fc] tTy))
  have b2 := heap_new (w.alloc (.cells #[.int .i64 t.kind, .slice fa t.fs.length fc] tTy)) (.cells #[.int .i64 0, .int .i64 0, .slice none 0 0, .slice none 0 0] tVl)
  rw [World.size_alloc] at b2
  have hN := n1.trans n2
  obtain ⟨W, hW⟩ : ∃ W, W = (w.alloc (.cells #[.int .i64 t.kind, .slice fa t.fs.length fc] tTy)).alloc (.cells #[.int .i64 0, .int .i64 0, .slice none 0 0, .slice none 0 0] tVl) := ⟨_, rfl⟩
  have hWs : W.heap.size = w.heap.size + 2 := by rw [hW, World.size_alloc, World.size_alloc]
  rw [← hW] at hN b1 b2
  have HN := Lib.hid hN
  have HW := Lib.hid hW
  have HB1 := Lib.hid b1
  have HB2 := Lib.hid b2
  have HGB := Lib.hid hgb
  have HWs := Lib.hid hWs
  have hopen := Lib.hid (OpenQ ⟨s.toArray⟩ s (bs_list _) W (g.upd hN))
  have HRT := Lib.hid (Fm.rt_iff.1 hr)
  have HB9b := Lib.hid (readF_bad (d := d) (t := t) (s := s))
  have HLS := Lib.hid hs
  have HTY := Lib.hid ht
  clear n1 n2 b1 b2 hN hW hWs hfc ht hgb hr hs
  go_enter Tryz.func54, Tryz.ntmps54
  go_upto_region 1 with fail
  rw [← HW.out]
  clear HW
  go_wp2_with fail
  (with_reducible refine (hopen.out).mono ?_)
  rintro _ w1 ⟨rb, rfl, hrb, hrd, u1⟩
  have hrb2 : w.heap.size + 2 ≤ rb := by have := HWs.out; omega
  have hnum := Lib.hid (NumQ rb (some s) w1 hrd (by have := HLS.out; show s.length ≤ _; omega))
  have HB21 := Lib.hid (Nw.keep u1 HB2.out)
  have HB11 := Lib.hid (Nw.keep u1 HB1.out)
  have HU1 := Lib.hid (HN.out.trans u1)
  have hle := Wire.rNumber_le (some s) 59 0
  have hle' : ((Wire.rNum (some s)).2.getD []).length ≤ 1000000 := Nat.le_trans hle HLS.out
  have HLE := Lib.hid hle'
  clear hopen hrd u1 hrb hle hle'
  go_wp2_with fail
  (with_reducible refine (hnum.out).mono ?_)
  rintro _ w2 ⟨rfl, hr2, u2⟩
  have HU2 : Hid (Nw w w2) := HU1.out.trans' u2 (fun k hk e => by omega)
  have hr9 := u2.keep HB21.out (fun e => by omega)
  have hr8 := u2.keep HB11.out (fun e => by omega)
  have HR9 := Lib.hid hr9
  have HR8 := Lib.hid hr8
  have HU9 := HU2
  have HR2 := Lib.hid hr2
  have x0 : w2.cell? ⟨w.heap.size, 0, none⟩ = some (.int .i64 t.kind) := by rw [cells_cell hr8]; rfl
  have r1 := hr2.c1
  clear hnum hr2 u2 HB21 HB11 HU1 hr9 hr8
  have HQN := Lib.hid (fun (st : Wire.St) (y : World) (h : Rdr tQ y rb st) (hl : (st.getD []).length ≤ 1000000) => NumQ rb st y h (by omega))
  generalize Wire.rNum (some s) = KK at *
  obtain ⟨k0, s1⟩ := KK
  dsimp only at *
  cases hn : s1.isNone with
  | true =>
    rw [hn] at r1
    have e9 : Hid ((Fm.readF (d + 1) t s).isSome = false ∧ ∀ x, Fm.readF (d + 1) t s = some x → Fm.noV = x) := by
      have e := HB9b.out (Or.inl hn)
      exact ⟨by rw [e]; rfl, fun x hx => by rw [e] at hx; cases hx⟩
    -- the way out: the world w2 (HR9: the result's box; HU9: the step from w), the value Fm.noV (.mk .. [] []), the flag false, the equation e9.out
    obtain ⟨f0, f1, f2, f3⟩ := froz4F HR9.out
    obtain ⟨z0, z1, z2, z3⟩ := cell4F HR9.out
    obtain ⟨hb9, hz9⟩ := rd43_exit (w := w) (y := w2) (by have := HGB.out; omega) (Nat.le_succ _) HR9.out HU9.out (Vl.kind Fm.noV) (Vl.n Fm.noV) (.slice none 0 0) (.slice none 0 0) (VlAt.nil (fun j => w.heap.size + 2 ≤ j) (w2) (k := Vl.kind Fm.noV) (n := Vl.n Fm.noV) i64_0 i64_0) (fun j hj => ⟨by omega, by omega⟩)
    have HB9 := Lib.hid hb9
    clear hb9
    go_wp2_with fail
    refine bodyPost_ret (rd43_results (b := false) _ _ ?_ ?_ HB9.out) ?_ ?_
    · rfl
    · rfl
    · rfl
    exact ⟨Fm.noV, _, _, _, _, by rw [(e9.out).1]; rfl, (e9.out).2, hz9.out.1, hz9.out.2⟩
  | false =>
  rw [hn] at r1
  by_cases hk0 : k0 = t.kind
  rotate_left
  · have e9 : Hid ((Fm.readF (d + 1) t s).isSome = false ∧ ∀ x, Fm.readF (d + 1) t s = some x → Fm.noV = x) := by
      have e := HB9b.out (Or.inr hk0)
      exact ⟨by rw [e]; rfl, fun x hx => by rw [e] at hx; cases hx⟩
    have b0 : (k0 == t.kind) = false := by simp [hk0]
    have b1 : (k0 != t.kind) = true := by simp [hk0]
    -- the way out: the world w2 (HR9: the result's box; HU9: the step from w), the value Fm.noV (.mk .. [] []), the flag false, the equation e9.out
    obtain ⟨f0, f1, f2, f3⟩ := froz4F HR9.out
    obtain ⟨z0, z1, z2, z3⟩ := cell4F HR9.out
    obtain ⟨hb9, hz9⟩ := rd43_exit (w := w) (y := w2) (by have := HGB.out; omega) (Nat.le_succ _) HR9.out HU9.out (Vl.kind Fm.noV) (Vl.n Fm.noV) (.slice none 0 0) (.slice none 0 0) (VlAt.nil (fun j => w.heap.size + 2 ≤ j) (w2) (k := Vl.kind Fm.noV) (n := Vl.n Fm.noV) i64_0 i64_0) (fun j hj => ⟨by omega, by omega⟩)
    have HB9 := Lib.hid hb9
    clear hb9
    go_wp2_with fail
    refine bodyPost_ret (rd43_results (b := false) _ _ ?_ ?_ HB9.out) ?_ ?_
    · rfl
    · rfl
    · rfl
    exact ⟨Fm.noV, _, _, _, _, by rw [(e9.out).1]; rfl, (e9.out).2, hz9.out.1, hz9.out.2⟩
  subst hk0
  have b0 : (t.kind == t.kind) = true := by simp
  have b1 : (t.kind != t.kind) = false := by simp
  have e0 : (t.kind == 0) = false := by simp [HKK.out]
  have e1 : (t.kind == 1) = true := by simp [HKK.out]
  have hint := Lib.hid (HQN.out s1 w2 HR2.out HLE.out)
  have E9 := Lib.hid (HZ9.out hn rfl HKK.out)
  have HII := Lib.hid (HI9.out s1)
  clear HZ9 HB9b HI9 HQN
  generalize Wire.rNum s1 = NN at *
  obtain ⟨nn, s2⟩ := NN
  dsimp only at *
  go_wp2_with fail
  (with_reducible refine (hint.out).mono ?_)
  rintro _ w3 ⟨rfl, hr3, u3⟩
  have hdn := Lib.hid (DoneQ rb s2 w3 hr3)
  have HR10 := Lib.hid (u3.keep HR9.out (fun e => by omega))
  have HU10 : Hid (Nw w w3) := HU9.out.trans' u3 (fun k hk e => by omega)
  clear HR9 HU9 hint u3 hr3 x0 r1
  obtain ⟨HR9, HU9⟩ := And.intro HR10 HU10
  clear HR10 HU10
  go_wp2_with fail
  (with_reducible refine (hdn.out).mono ?_)
  rintro _ _ ⟨rfl, rfl⟩
  cases hd : decide (s2 = some []) with
  | true =>
    by_cases h1 : nn ≤ 1
    · have e9 : Hid ((Fm.readF (d + 1) t s).isSome = true ∧ ∀ x, Fm.readF (d + 1) t s = some x → (.mk 1 nn [] [] : Vl) = x) := by
        have e := E9.out
        rw [if_pos ⟨of_decide_eq_true hd, h1⟩] at e
        exact ⟨by rw [e]; rfl, fun x hx => by rw [e] at hx; exact Option.some.inj hx⟩
      -- the way out: the world w3 (HR9: the result's box; HU9: the step from w), the value (.mk 1 nn [] [] : Vl) (.mk .. [] []), the flag true, the equation e9.out
      obtain ⟨f0, f1, f2, f3⟩ := froz4F HR9.out
      obtain ⟨z0, z1, z2, z3⟩ := cell4F HR9.out
      obtain ⟨hb9, hz9⟩ := rd43_exit (w := w) (y := w3) (by have := HGB.out; omega) (Nat.le_succ _) HR9.out HU9.out (Vl.kind (.mk 1 nn [] [] : Vl)) (Vl.n (.mk 1 nn [] [] : Vl)) (.slice none 0 0) (.slice none 0 0) (VlAt.nil (fun j => w.heap.size + 2 ≤ j) (w3) (k := Vl.kind (.mk 1 nn [] [] : Vl)) (n := Vl.n (.mk 1 nn [] [] : Vl)) i64_1 HII.out) (fun j hj => ⟨by omega, by omega⟩)
      have HB9 := Lib.hid hb9
      clear hb9
      go_wp2_with fail
      refine bodyPost_ret (rd43_results (b := true) _ _ ?_ ?_ HB9.out) ?_ ?_
      · rfl
      · rfl
      · rfl
      exact ⟨(.mk 1 nn [] [] : Vl), _, _, _, _, by rw [(e9.out).1]; rfl, (e9.out).2, hz9.out.1, hz9.out.2⟩
    · have e9 : Hid ((Fm.readF (d + 1) t s).isSome = false ∧ ∀ x, Fm.readF (d + 1) t s = some x → (.mk 1 nn [] [] : Vl) = x) := by
        have e := E9.out
        rw [if_neg (fun h => h1 h.2)] at e
        exact ⟨by rw [e]; rfl, fun x hx => by rw [e] at hx; cases hx⟩
      have h1d : decide (nn ≤ 1) = false := decide_eq_false h1
      clear h1
      -- the way out: the world w3 (HR9: the result's box; HU9: the step from w), the value (.mk 1 nn [] [] : Vl) (.mk .. [] []), the flag false, the equation e9.out
      obtain ⟨f0, f1, f2, f3⟩ := froz4F HR9.out
      obtain ⟨z0, z1, z2, z3⟩ := cell4F HR9.out
      obtain ⟨hb9, hz9⟩ := rd43_exit (w := w) (y := w3) (by have := HGB.out; omega) (Nat.le_succ _) HR9.out HU9.out (Vl.kind (.mk 1 nn [] [] : Vl)) (Vl.n (.mk 1 nn [] [] : Vl)) (.slice none 0 0) (.slice none 0 0) (VlAt.nil (fun j => w.heap.size + 2 ≤ j) (w3) (k := Vl.kind (.mk 1 nn [] [] : Vl)) (n := Vl.n (.mk 1 nn [] [] : Vl)) i64_1 HII.out) (fun j hj => ⟨by omega, by omega⟩)
      have HB9 := Lib.hid hb9
      clear hb9
      go_wp2_with fail
      refine bodyPost_ret (rd43_results (b := false) _ _ ?_ ?_ HB9.out) ?_ ?_
      · rfl
      · rfl
      · rfl
      exact ⟨(.mk 1 nn [] [] : Vl), _, _, _, _, by rw [(e9.out).1]; rfl, (e9.out).2, hz9.out.1, hz9.out.2⟩
  | false =>
    have e9 : Hid ((Fm.readF (d + 1) t s).isSome = false ∧ ∀ x, Fm.readF (d + 1) t s = some x → (.mk 1 nn [] [] : Vl) = x) := by
      have e := E9.out
      rw [if_neg (fun h => of_decide_eq_false hd h.1)] at e
      exact ⟨by rw [e]; rfl, fun x hx => by rw [e] at hx; cases hx⟩
    -- the way out: the world w3 (HR9: the result's box; HU9: the step from w), the value (.mk 1 nn [] [] : Vl) (.mk .. [] []), the flag false, the equation e9.out
    obtain ⟨f0, f1, f2, f3⟩ := froz4F HR9.out
    obtain ⟨z0, z1, z2, z3⟩ := cell4F HR9.out
    obtain ⟨hb9, hz9⟩ := rd43_exit (w := w) (y := w3) (by have := HGB.out; omega) (Nat.le_succ _) HR9.out HU9.out (Vl.kind (.mk 1 nn [] [] : Vl)) (Vl.n (.mk 1 nn [] [] : Vl)) (.slice none 0 0) (.slice none 0 0) (VlAt.nil (fun j => w.heap.size + 2 ≤ j) (w3) (k := Vl.kind (.mk 1 nn [] [] : Vl)) (n := Vl.n (.mk 1 nn [] [] : Vl)) i64_1 HII.out) (fun j hj => ⟨by omega, by omega⟩)
    have HB9 := Lib.hid hb9
    clear hb9
    go_wp2_with fail
    refine bodyPost_ret (rd43_results (b := false) _ _ ?_ ?_ HB9.out) ?_ ?_
    · rfl
    · rfl
    · rfl
    exact ⟨(.mk 1 nn [] [] : Vl), _, _, _, _, by rw [(e9.out).1]; rfl, (e9.out).2, hz9.out.1, hz9.out.2⟩
end Go.Proofs.YthagiklfmkdmaaaGreatDoor
