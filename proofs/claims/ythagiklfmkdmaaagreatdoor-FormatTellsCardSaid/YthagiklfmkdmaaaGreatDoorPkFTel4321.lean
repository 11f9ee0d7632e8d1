/- The reference's reading (ladingref43): read of a record, read. -/
import Derived.Test.YthagiklfmkdmaaaGreatDoorPkFTel4320
import Derived.Test.YthagiklfmkdmaaaGreatDoorPkFTel435
namespace Go.Proofs.YthagiklfmkdmaaaGreatDoor
open Go.RowKit
set_option linter.unusedVariables false
set_option linter.unusedSimpArgs false
attribute [local irreducible] Calls
open Fm (Ty Vl Str nameB rightTy rightVl)

def rdOk (d : Nat) (l : List (Str × Str)) (f : Str × Ty) : Bool := (Fm.getE l f.1).isSome && (oneR d l f).isSome
/-- The record as it stands while the entries are looked through for one field. -/
def FdI (q : Nat) (N0 : List Str) (V0 : List Vl) (s : Str) (r : Option Vl) (b : Bool) (wz : World) : Prop :=
  ∃ nv vv C x, wz.heap[q]? = some (.cells #[.int .i64 2, .int .i64 0, nv, vv] tVl (0, 0)) ∧ VB (q + 1) wz nv vv (N0 ++ cond b [s] []) C ∧ C.map VC.v = V0 ++ cond b [x] [] ∧ ∀ y, r = some y → x = y
theorem FdI.keep {q : Nat} {N0 : List Str} {V0 : List Vl} {s : Str} {r : Option Vl} {b : Bool} {w w' : World} (h : FdI q N0 V0 s r b w) (u : Nw w w') : FdI q N0 V0 s r b w' := by
  obtain ⟨nv, vv, C, x, h1, h2, h3, h4⟩ := h
  exact ⟨nv, vv, C, x, Nw.keep u h1, h2.nw u, h3, h4⟩
/-- Where the entry with a name stands. -/
theorem getE_at (l : List (Str × Str)) (hn : (l.map (·.1)).Nodup) (s : Str) : ∃ p, p ≤ l.length ∧ ((Fm.getE l s).isSome = decide (p < l.length)) ∧ ∀ k (h : k < l.length), ((l[k]).1 = s ↔ k = p) ∧ (k = p → Fm.getE l s = some (l[k]).2) := by
  cases hg : Fm.getE l s with
  | none =>
    refine ⟨l.length, Nat.le_refl _, by simp, fun k hk => ⟨⟨fun e => absurd e (Fm.getE_none hg _ (List.getElem_mem hk)), fun e => by omega⟩, fun e => by omega⟩⟩
  | some x =>
    obtain ⟨p, hp, e⟩ := List.mem_iff_getElem.1 (Fm.getE_mem hg)
    refine ⟨p, by omega, by simp [hp], fun k hk => ⟨⟨fun e2 => ?_, fun e2 => ?_⟩, fun e2 => ?_⟩⟩
    · have h1 : (l.map (·.1))[k]'(by simpa using hk) = (l.map (·.1))[p]'(by simpa using hp) := by
        rw [List.getElem_map, List.getElem_map, e2, e]
      exact (List.getElem_inj hn).1 h1
    · subst e2; rw [e]
    · subst e2; rw [e]
set_option maxHeartbeats 16000000 in
set_option maxRecDepth 100000 in
theorem read43_k2 (d : Nat) (IH : Hid (∀ (t : Ty) (fv : Value) (s : Str) (w : World), Gl w → rightTy d t = true → TyAt w fv t → s.length ≤ 1000000 →
    Calls Tryz.prog 54 #[.agg #[.int .i64 t.kind, fv], .string ⟨s.toArray⟩] w (RdPost43 d t s w))) (t : Ty) (hk : t.kind = 2) (fv : Value) (s : Str) (w : World) (g : Gl w) (hr : rightTy (d + 1) t = true) (ht : TyAt w fv t) (hs : s.length ≤ 1000000) :
    Calls Tryz.prog 54 #[.agg #[.int .i64 t.kind, fv], .string ⟨s.toArray⟩] w (RdPost43 (d + 1) t s w) := by
  have HKK := Lib.hid hk
  clear hk
  have HG := Lib.hid g
  have HT9 := Lib.hid (fun h1 h2 h0 l hl => readF_two (d := d) (t := t) (s := s) h1 h2 h0 (l := l) hl)
  have HT8 := Lib.hid (readF_two_none (d := d) (t := t) (s := s))
  have HEN := Lib.hid (fun (b : Nat) (st : Wire.St) (y : World) (h1 : nG ≤ y.heap.size) (h2 : st.isNone = false) (h3 : Rdr tQ y b st) (h4 : (st.getD []).length ≤ 1000000) => Entries_r b st y h1 h2 h3 h4)
  have HEL := Lib.hid (fun (l : List (Str × Str)) (hl : Fm.entG [] (Wire.rNum (some s)).2 = some l) (n : Str) => getE_len hl n)
  have hgb := g.big
  obtain ⟨fa, fc, rfl, hfl, hfc⟩ := ht.cells
  have HFC : Hid (FdC w fa t.fs) := hfc
  have n1 := nw_alloc w (.cells #[.int .i64 t.kind, .slice fa t.fs.length fc] tTy)
  have n2 := nw_alloc (w.alloc (.cells #[.int .i64 t.kind, .slice fa t.fs.length fc] tTy)) (.cells #[.int .i64 0, .int .i64 0, .slice none 0 0, .slice none 0 0] tVl)
  have b1 := n2.keep (heap_new w (.cells #[.int .i64 t.kind, .slice fa t.fs.length fc] tTy))
  have b2 := heap_new (w.alloc (.cells #[.int .i64 t.kind, .slice fa t.fs.length fc] tTy)) (.cells #[.int .i64 0, .int .i64 0, .slice none 0 0, .slice none 0 0] tVl)
  rw [World.size_alloc] at b2
  have hN := n1.trans n2
  obtain ⟨W, hW⟩ : ∃ W, W = (w.alloc (.cells #[.int .i64 t.kind, .slice fa t.fs.length fc] tTy)).alloc (.cells #[.int .i64 0, .int .i64 0, .slice none 0 0, .slice none 0 0] tVl) := ⟨_, rfl⟩
  have hWs : W.heap.size = w.heap.size + 2 := by rw [hW, World.size_alloc, World.size_alloc]
  rw [← hW] at hN b1 b2
  have HN := Lib.hid hN
  have HW := Lib.hid hW
  have HB1 := Lib.hid b1
  have HB2 := Lib.hid b2
  have HGB := Lib.hid hgb
  have HWs := Lib.hid hWs
  have hopen := Lib.hid (OpenQ ⟨s.toArray⟩ s (bs_list _) W (g.upd hN))
  have HRT := Lib.hid (Fm.rt_iff.1 hr)
  have HB9b := Lib.hid (readF_bad (d := d) (t := t) (s := s))
  have HLS := Lib.hid hs
  have HTY := Lib.hid ht
  clear n1 n2 b1 b2 hN hW hWs hfc ht hgb hr hs
  go_enter Tryz.func54, Tryz.ntmps54
  go_upto_region 1 with fail
  rw [← HW.out]
  clear HW
  go_wp2_with fail
  (with_reducible refine (hopen.out).mono ?_)
  rintro _ w1 ⟨rb, rfl, hrb, hrd, u1⟩
  have hrb2 : w.heap.size + 2 ≤ rb := by have := HWs.out; omega
  have hnum := Lib.hid (NumQ rb (some s) w1 hrd (by have := HLS.out; show s.length ≤ _; omega))
  have HB21 := Lib.hid (Nw.keep u1 HB2.out)
  have HB11 := Lib.hid (Nw.keep u1 HB1.out)
  have HU1 := Lib.hid (HN.out.trans u1)
  have hle := Wire.rNumber_le (some s) 59 0
  have hle' : ((Wire.rNum (some s)).2.getD []).length ≤ 1000000 := Nat.le_trans hle HLS.out
  have HLE := Lib.hid hle'
  clear hopen hrd u1 hrb hle hle'
  go_wp2_with fail
  (with_reducible refine (hnum.out).mono ?_)
  rintro _ w2 ⟨rfl, hr2, u2⟩
  have HU2 : Hid (Nw w w2) := HU1.out.trans' u2 (fun k hk e => by omega)
  have hr9 := u2.keep HB21.out (fun e => by omega)
  have hr8 := u2.keep HB11.out (fun e => by omega)
  have HR9 := Lib.hid hr9
  have HR8 := Lib.hid hr8
  have HU9 := HU2
  have HR2 := Lib.hid hr2
  have x0 : w2.cell? ⟨w.heap.size, 0, none⟩ = some (.int .i64 t.kind) := by rw [cells_cell hr8]; rfl
  have r1 := hr2.c1
  clear hnum hr2 u2 HB21 HB11 HU1 hr9 hr8
  generalize Wire.rNum (some s) = KK at *
  obtain ⟨k0, s1⟩ := KK
  dsimp only at *
  cases hn : s1.isNone with
  | true =>
    rw [hn] at r1
    have e9 : Hid ((Fm.readF (d + 1) t s).isSome = false ∧ ∀ x, Fm.readF (d + 1) t s = some x → Fm.noV = x) := by
      have e := HB9b.out (Or.inl hn)
      exact ⟨by rw [e]; rfl, fun x hx => by rw [e] at hx; cases hx⟩
    -- the way out: the world w2 (HR9: the result's box; HU9: the step from w), the value Fm.noV (.mk .. [] []), the flag false, the equation e9.out
    obtain ⟨f0, f1, f2, f3⟩ := froz4F HR9.out
    obtain ⟨z0, z1, z2, z3⟩ := cell4F HR9.out
    obtain ⟨hb9, hz9⟩ := rd43_exit (w := w) (y := w2) (by have := HGB.out; omega) (Nat.le_succ _) HR9.out HU9.out (Vl.kind Fm.noV) (Vl.n Fm.noV) (.slice none 0 0) (.slice none 0 0) (VlAt.nil (fun j => w.heap.size + 2 ≤ j) (w2) (k := Vl.kind Fm.noV) (n := Vl.n Fm.noV) i64_0 i64_0) (fun j hj => ⟨by omega, by omega⟩)
    have HB9 := Lib.hid hb9
    clear hb9
    go_wp2_with fail
    refine bodyPost_ret (rd43_results (b := false) _ _ ?_ ?_ HB9.out) ?_ ?_
    · rfl
    · rfl
    · rfl
    exact ⟨Fm.noV, _, _, _, _, by rw [(e9.out).1]; rfl, (e9.out).2, hz9.out.1, hz9.out.2⟩
  | false =>
  rw [hn] at r1
  by_cases hk0 : k0 = t.kind
  rotate_left
  · have e9 : Hid ((Fm.readF (d + 1) t s).isSome = false ∧ ∀ x, Fm.readF (d + 1) t s = some x → Fm.noV = x) := by
      have e := HB9b.out (Or.inr hk0)
      exact ⟨by rw [e]; rfl, fun x hx => by rw [e] at hx; cases hx⟩
    have b0 : (k0 == t.kind) = false := by simp [hk0]
    have b1 : (k0 != t.kind) = true := by simp [hk0]
    -- the way out: the world w2 (HR9: the result's box; HU9: the step from w), the value Fm.noV (.mk .. [] []), the flag false, the equation e9.out
    obtain ⟨f0, f1, f2, f3⟩ := froz4F HR9.out
    obtain ⟨z0, z1, z2, z3⟩ := cell4F HR9.out
    obtain ⟨hb9, hz9⟩ := rd43_exit (w := w) (y := w2) (by have := HGB.out; omega) (Nat.le_succ _) HR9.out HU9.out (Vl.kind Fm.noV) (Vl.n Fm.noV) (.slice none 0 0) (.slice none 0 0) (VlAt.nil (fun j => w.heap.size + 2 ≤ j) (w2) (k := Vl.kind Fm.noV) (n := Vl.n Fm.noV) i64_0 i64_0) (fun j hj => ⟨by omega, by omega⟩)
    have HB9 := Lib.hid hb9
    clear hb9
    go_wp2_with fail
    refine bodyPost_ret (rd43_results (b := false) _ _ ?_ ?_ HB9.out) ?_ ?_
    · rfl
    · rfl
    · rfl
    exact ⟨Fm.noV, _, _, _, _, by rw [(e9.out).1]; rfl, (e9.out).2, hz9.out.1, hz9.out.2⟩
  subst hk0
  have b0 : (t.kind == t.kind) = true := by simp
  have b1 : (t.kind != t.kind) = false := by simp
  have e0 : (t.kind == 0) = false := by simp [HKK.out]
  have e1 : (t.kind == 1) = false := by simp [HKK.out]
  have hent := Lib.hid (HEN.out rb s1 w2 (Nat.le_trans HGB.out HU2.out.size) hn HR2.out HLE.out)
  have HNN := Lib.hid hn
  clear HEN HB9b hn
  go_wp2_with fail
  (with_reducible refine (hent.out).mono ?_)
  rintro _ w3 ⟨ea, en, ec, rfl, HE⟩
  have HR10 := Lib.hid (HE.out.2.keep HR9.out (fun e => by omega))
  have HR11 := Lib.hid (HE.out.2.keep HR8.out (fun e => by omega))
  have HU10 : Hid (Nw w w3) := HU9.out.trans' HE.out.2 (fun k hk e => by omega)
  have HS23 := Lib.hid HE.out.2.size
  clear HR9 HR8 HU9 HU2 x0 r1 hent
  obtain ⟨HR9, HR8, HU9⟩ := And.intro HR10 (And.intro HR11 HU10)
  clear HR10 HR11 HU10
  cases hl : Fm.entG [] s1 with
  | none =>
    have e9 : Hid ((Fm.readF (d + 1) t s).isSome = false ∧ ∀ x, Fm.readF (d + 1) t s = some x → Fm.noV = x) := by
      have e := HT8.out HNN.out (by first | rfl | trivial) HKK.out hl
      exact ⟨by rw [e]; rfl, fun x hx => by rw [e] at hx; cases hx⟩
    clear hl HE
    -- the way out: the world w3 (HR9: the result's box; HU9: the step from w), the value Fm.noV (.mk .. [] []), the flag false, the equation e9.out
    obtain ⟨f0, f1, f2, f3⟩ := froz4F HR9.out
    obtain ⟨z0, z1, z2, z3⟩ := cell4F HR9.out
    obtain ⟨hb9, hz9⟩ := rd43_exit (w := w) (y := w3) (by have := HGB.out; omega) (Nat.le_succ _) HR9.out HU9.out (Vl.kind Fm.noV) (Vl.n Fm.noV) (.slice none 0 0) (.slice none 0 0) (VlAt.nil (fun j => w.heap.size + 2 ≤ j) (w3) (k := Vl.kind Fm.noV) (n := Vl.n Fm.noV) i64_0 i64_0) (fun j hj => ⟨by omega, by omega⟩)
    have HB9 := Lib.hid hb9
    clear hb9
    go_wp2_with fail
    refine bodyPost_ret (rd43_results (b := false) _ _ ?_ ?_ HB9.out) ?_ ?_
    · rfl
    · rfl
    · rfl
    exact ⟨Fm.noV, _, _, _, _, by rw [(e9.out).1]; rfl, (e9.out).2, hz9.out.1, hz9.out.2⟩
  | some l =>
  obtain ⟨hown, hll0⟩ := HE.out.1 l hl
  obtain ⟨ea', ec', hea⟩ := own_slF hown
  injection hea with q1 q2 q3
  subst q1 q2 q3
  have HRF := Lib.hid (HT9.out HNN.out (by first | rfl | trivial) HKK.out l hl)
  have HLL := Lib.hid (HEL.out l hl)
  have HASC : Hid ((l.map (·.1)).Nodup) := Fm.asc_nodup (entG_asc hl)
  have hec := enC_owns hown rfl
  have HEC := Lib.hid hec
  have hll : l.length ≤ 1000000 := Nat.le_trans hll0 HLE.out
  clear HE hl hown hec HT9 HT8 HEL
  -- the value that is built
  have b4 := heap_new w3 (.cells #[.int .i64 2, .int .i64 0, .slice none 0 0, .slice none 0 0] tVl)
  have n4 := nw_alloc w3 (.cells #[.int .i64 2, .int .i64 0, .slice none 0 0, .slice none 0 0] tVl)
  obtain ⟨w4, hw4⟩ : ∃ y, y = w3.alloc (.cells #[.int .i64 2, .int .i64 0, .slice none 0 0, .slice none 0 0] tVl) := ⟨_, rfl⟩
  have hz4 : w4.heap.size = w3.heap.size + 1 := by rw [hw4, World.size_alloc]
  rw [← hw4] at b4 n4
  have HN4 := Lib.hid n4
  have HW4 := Lib.hid hw4
  have HB4 := Lib.hid b4
  have HR12 := Lib.hid (Nw.keep n4 HR9.out)
  have HR13 := Lib.hid (Nw.keep n4 HR8.out)
  have HU12 := Lib.hid (HU9.out.trans n4)
  clear b4 n4 hw4 HR9 HR8
  go_upto_region 16 with fail
  rw [← HW4.out]
  clear HW4
  obtain ⟨q, hq⟩ : ∃ q, q = w3.heap.size := ⟨_, rfl⟩
  have HQQ : Hid (w2.heap.size ≤ q ∧ rb < q ∧ w.heap.size + 2 ≤ q ∧ w4.heap.size = q + 1 ∧ nG ≤ q) := by
    have h1 := HR2.out.lt
    have h2 := HS23.out
    have h3 := HGB.out
    exact ⟨by omega, by omega, by omega, by omega, by omega⟩
  rw [← hq] at HB4 ⊢
  have hebq : Hid (∀ b off, ea = some ⟨b, off, none⟩ → l ≠ [] → b < q) := fun b off e hne => by
    rcases HEC.out with h | ⟨b', off', e', hb, _⟩
    · exact absurd h hne
    · rw [e] at e'; injection e' with e'; injection e' with e1 _ _; subst e1; omega
  clear hq hz4
  have hfl1 : (t.fs.length : Int) ≤ 8 := by have := HRT.out.len; omega
  have hll1 : (l.length : Int) ≤ 1000000 := by omega
  go_wp2_with fail
  go_loopw [13] (fun iv wr => ∃ n : Nat, n ≤ t.fs.length ∧ iv = .int .i64 (n : Int) ∧ Hid (∀ j (h : j < t.fs.length), j < n → rdOk d l (t.fs[j]) = true) ∧ Hid (∃ nv vv C, wr.heap[q]? = some (.cells #[.int .i64 2, .int .i64 0, nv, vv] tVl (0, 0)) ∧ VB (q + 1) wr nv vv ((t.fs.take n).map (·.1)) C ∧ C.map VC.v = (t.fs.take n).map (fun f => (oneR d l f).getD Fm.noV)) ∧ Hid (Upd (fun k => k = q) w4 wr)) (fun iv _ => t.fs.length - (intOf iv).toNat)
  case atStart => exact ⟨0, Nat.zero_le _, rfl, (fun j h h2 => by omega), ⟨_, _, [], HB4.out, VB.nil _ _, rfl⟩, Upd.refl _ _⟩
  case round =>
    obtain ⟨n, hn, rfl, hA, HV, U⟩ := hrel
    have HNW : Hid (Nw w wr) := HU12.out.trans' U.out (fun k hk e => by have := HQQ.out; omega)
    have hr8 := U.out.keep HR13.out (fun e => by have := HQQ.out; omega)
    have x1 : wr.cell? ⟨w.heap.size, 1, none⟩ = some (.slice fa t.fs.length fc) := by rw [cells_cell hr8]; rfl
    clear hr8
    by_cases hlt : n < t.fs.length
    · have hlt1 : (n : Int) < t.fs.length := by omega
      have hn8 : (n : Int) ≤ 8 := by omega
      rcases HFC.out with hnil | ⟨b, off, rfl, hb, hcell⟩
      · rw [hnil] at hlt; simp at hlt
      obtain ⟨sv, p0, p1, p2, hty, hsl⟩ := hcell n hlt
      obtain ⟨sa, sc, hsv, -⟩ := hty.cells
      subst hsv
      have y0 := nw_cellF HNW.out p0
      have y1 := nw_cellF HNW.out p1
      have y2 := nw_cellF HNW.out p2
      have hstN : (t.fs.take (n + 1)).map (·.1) = (t.fs.take n).map (·.1) ++ [(t.fs[n]).1] := by rw [List.take_succ_eq_append_getElem hlt, List.map_append]; rfl
      have hstV : (t.fs.take (n + 1)).map (fun f => (oneR d l f).getD Fm.noV) = (t.fs.take n).map (fun f => (oneR d l f).getD Fm.noV) ++ [(oneR d l (t.fs[n])).getD Fm.noV] := by rw [List.take_succ_eq_append_getElem hlt, List.map_append]; rfl
      have HST := Lib.hid (And.intro hstN hstV)
      have HSub := Lib.hid (HRT.out.sub _ (List.getElem_mem hlt))
      have HTYF := Lib.hid hty
      have HSL := Lib.hid hsl
      have hnx : Hid (rdOk d l (t.fs[n]) = true → ∀ j (h : j < t.fs.length), j < n + 1 → rdOk d l (t.fs[j]) = true) := fun e j h h2 => by
        by_cases ej : j = n
        · subst ej; exact e
        · exact hA.out j h (by omega)
      have hst : Hid (rdOk d l (t.fs[n]) = false → Fm.readF (d + 1) t s = none) := fun e => by
        rw [HRF.out, if_neg (all_no (List.getElem_mem hlt) e)]
      clear hcell p0 p1 p2 hstN hstV hty hsl
      generalize t.fs[n] = fld at *
      obtain ⟨fn, ft⟩ := fld
      dsimp only at HSub HTYF HSL y0 y1 y2 HST
      obtain ⟨p, hpl, hpi, hpk⟩ := getE_at l HASC.out fn
      have HPK := Lib.hid hpk
      have HOK : Hid (rdOk d l (fn, ft) = (decide (p < l.length) && (oneR d l (fn, ft)).isSome)) := by show _ = _; unfold rdOk; rw [hpi]
      clear hpk hpi
      obtain ⟨wo, hwo, n0, hbx⟩ : ∃ z, z = wr.alloc (.cells #[.string ⟨fn.toArray⟩, .int .i64 ft.kind, .slice sa ft.fs.length sc] tFd) ∧ Nw wr z ∧ z.heap[wr.heap.size]? = some (.cells #[.string ⟨fn.toArray⟩, .int .i64 ft.kind, .slice sa ft.fs.length sc] tFd (0, 0)) := ⟨_, rfl, nw_alloc wr _, heap_new wr _⟩
      have HWO := Lib.hid hwo
      obtain ⟨P14, hP14⟩ : ∃ P, P = wr.heap.size := ⟨_, rfl⟩
      have HP14 : Hid (q < P14 ∧ w4.heap.size ≤ P14) := by have := U.out.size; have := HQQ.out; exact ⟨by omega, by omega⟩
      rw [← hP14] at hbx
      have HFB0 := Lib.hid hbx
      have HF0 : Hid (FdI q ((t.fs.take n).map (·.1)) ((t.fs.take n).map (fun f => (oneR d l f).getD Fm.noV)) fn (oneR d l (fn, ft)) (decide (p < 0)) wo) := by
        obtain ⟨nv, vv, C, h1, h2, h3⟩ := HV.out
        exact ⟨nv, vv, C, (oneR d l (fn, ft)).getD Fm.noV, Nw.keep n0 h1, by simpa using h2.nw n0, by simpa using h3, fun y hy => by rw [hy]; rfl⟩
      have HUo : Hid (Upd (fun k => k = q) w4 wo) := U.out.nw n0
      have HO1 : Hid (∀ k (h : k < l.length), k = p → oneR d l (fn, ft) = Fm.readF d ft (l[k]).2 ∧ (l[k]).2.length ≤ 1000000) := fun k h e => by
        have h1 := (HPK.out k h).2 e
        have h2 := HLL.out fn
        rw [h1] at h2
        exact ⟨by unfold oneR; rw [h1]; rfl, Nat.le_trans h2 HLE.out⟩
      have HN0L : Hid (((t.fs.take n).map (·.1)).length = n ∧ ((t.fs.take n).map (fun f => (oneR d l f).getD Fm.noV)).length = n) := ⟨by rw [List.length_map, List.length_take]; omega, by rw [List.length_map, List.length_take]; omega⟩
      clear hwo n0 hbx
      go_upto_region 20 with fail
      rw [← HWO.out, ← hP14]
      clear HWO y0 y1 y2 x1 hP14 HV
      have hnn8 : n + 1 ≤ 9 := by omega
      have HN9 := Lib.hid hnn8
      generalize (t.fs.take n).map (·.1) = N0 at *
      generalize (t.fs.take n).map (fun f => (oneR d l f).getD Fm.noV) = V0 at *
      obtain ⟨os, hos⟩ : ∃ os, os = (oneR d l (fn, ft)).isSome := ⟨_, rfl⟩
      have HOS := Lib.hid hos
      clear hos hnn8
      go_wp2_with fail
      go_loopw [15, 16] (fun gv kv wz => ∃ k : Nat, k ≤ l.length ∧ gv = .bool (decide (p < k) && os) ∧ kv = .int .i64 (k : Int) ∧ Hid (FdI q N0 V0 fn (oneR d l (fn, ft)) (decide (p < k)) wz) ∧ Hid (wz.heap[P14]? = some (.cells #[.string ⟨fn.toArray⟩, .int .i64 ft.kind, .slice sa ft.fs.length sc] tFd (0, 0))) ∧ Hid (Upd (fun k => k = q) w4 wz)) (fun _ kv _ => l.length - (intOf kv).toNat)
      case atStart => exact ⟨0, Nat.zero_le _, by simp, rfl, HF0, HFB0, HUo⟩
      case round =>
        obtain ⟨k, hk, rfl, rfl, HF, HFB, HUZ⟩ := hrel
        by_cases hkl : k < l.length
        · have hkl1 : (k : Int) < l.length := by omega
          have hk9 : (k : Int) ≤ 1000000 := by omega
          have hk0 : decide ((k : Int) < 0) = false := decide_eq_false (by omega)
          rcases HEC.out with hnil | ⟨eb, eo, hea, hebl, hecell⟩
          · rw [hnil] at hkl; simp at hkl
          subst hea
          have hebq1 := hebq.out eb eo rfl (fun e => by rw [e] at hkl; simp at hkl)
          have HCE : Hid (∀ y, Nw wr y → y.cell? ⟨eb, eo + k * 2, none⟩ = some (.string ⟨(l[k]).1.toArray⟩) ∧ y.cell? ⟨eb, eo + k * 2 + 1, none⟩ = some (.string ⟨(l[k]).2.toArray⟩)) := fun y u => by
            have uu : Upd (fun k => k = q) w3 y := Nw.trans HN4.out (HUZ.out.nw u)
            have hne : ¬ eb = q := by omega
            exact ⟨(World.cell?_of_block (uu.block eb hebl (Or.inr hne))).trans (hecell k hkl).1, (World.cell?_of_block (uu.block eb hebl (Or.inr hne))).trans (hecell k hkl).2⟩
          have m1 : ∀ j : Later wr, j.1.cell? ⟨eb, eo + k * 2, none⟩ = some (.string ⟨(l[k]).1.toArray⟩) := fun j => (HCE.out j.1 j.nw).1
          have m2 : ∀ j : Later wr, j.1.cell? ⟨P14, 0, none⟩ = some (.string ⟨fn.toArray⟩) := fun j => by rw [cells_cell (Nw.keep j.nw HFB.out)]; rfl
          have hki := (HPK.out k hkl).1
          by_cases he : (l[k]).1 = fn
          · have hkp := hki.1 he
            subst hkp
            rw [he] at m1
            have HGZ : Hid (nG ≤ wr.heap.size) := by have := HUZ.out.size; have := HQQ.out; show _ ≤ _; omega
            have HNWZ : Hid (Nw w wr) := HU12.out.trans' HUZ.out (fun k hk e => by have := HQQ.out; omega)
            obtain ⟨hone, hlen2⟩ := HO1.out k hkl rfl
            have HONE := Lib.hid hone
            have HRC : Hid (∀ y, Nw wr y → Calls Tryz.prog 54 #[.agg #[.int .i64 ft.kind, .slice sa ft.fs.length sc], .string ⟨(l[k]).2.toArray⟩] y (RdPost43 d ft (l[k]).2 y)) := fun y u => IH.out ft _ _ y (HG.out.upd (HNWZ.out.trans u)) HSub.out (HTYF.out.nw (HNWZ.out.trans u)) hlen2
            have HOS2 : Hid (os = (Fm.readF d ft (l[k]).2).isSome) := by show _ = _; rw [HOS.out, hone]
            have hff : decide (k < k) = false := decide_eq_false (Nat.lt_irrefl k)
            rw [hff] at HF
            rw [show (decide (k < k) && os) = false by rw [hff]; rfl]
            have HS : Hid (∀ y, Nw wr y → y.cell? ⟨P14, 1, none⟩ = some (.int .i64 ft.kind) ∧ y.cell? ⟨P14, 2, none⟩ = some (.slice sa ft.fs.length sc) ∧ y.cell? ⟨eb, eo + k * 2 + 1, none⟩ = some (.string ⟨(l[k]).2.toArray⟩) ∧ True) := fun y u => ⟨by rw [cells_cell (Nw.keep u HFB.out)]; rfl, by rw [cells_cell (Nw.keep u HFB.out)]; rfl, (HCE.out y u).2, trivial⟩
            have htk : (fn == fn) = true := by simp
            have htk2 : (fn != fn) = false := by simp
            clear hki hecell he hone hlen2 HCE hebq1 HO1 HPK
            generalize (l[k]).2 = ts at *
            go_wp2_with fail
            refine wp_region_nw (by kernel_rfl) (by kernel_rfl) ?_
            repeat (go_big_quiet_step ((fail)))
            refine wpQuiet_nil ?_
            intro w5 u5
            replace u5 := later_out u5
            have HF5 := Lib.hid (HF.out.keep u5)
            have HFB5 := Lib.hid (Nw.keep u5 HFB.out)
            have HUZ5 := Lib.hid (HUZ.out.nw u5)
            have HS5 : Hid (∀ y, Nw w5 y → y.cell? ⟨P14, 1, none⟩ = some (.int .i64 ft.kind) ∧ y.cell? ⟨P14, 2, none⟩ = some (.slice sa ft.fs.length sc) ∧ y.cell? ⟨eb, eo + k * 2 + 1, none⟩ = some (.string ⟨ts.toArray⟩) ∧ True) := fun y u => HS.out y (u5.trans u)
            have HRC5 : Hid (∀ y, Nw w5 y → Calls Tryz.prog 54 #[.agg #[.int .i64 ft.kind, .slice sa ft.fs.length sc], .string ⟨ts.toArray⟩] y (RdPost43 d ft ts y)) := fun y u => HRC.out y (u5.trans u)
            have HGZ5 : Hid (nG ≤ w5.heap.size) := Nat.le_trans HGZ.out u5.size
            clear u5 m1 m2 HF HFB HUZ HS HRC HGZ HNWZ
            obtain ⟨HF, HFB, HUZ⟩ := And.intro HF5 (And.intro HFB5 HUZ5)
            obtain ⟨HS, HRC⟩ := And.intro HS5 HRC5
            have HGZ := HGZ5
            clear HF5 HFB5 HUZ5 HS5 HRC5 HGZ5
            go_upto_region 25 with fail
            go_cut [17, 18] from 91 to 101 (fun a17 a18 wx => ∃ (bx : Nat) (v : Vl) (xa : Option Addr) (xc : Nat) (ya : Option Addr) (yc : Nat) (bb : Bool), a17 = .pointer (some ⟨bx, 0, none⟩) ∧ a18 = .bool bb ∧ bb = (Fm.readF d ft ts).isSome ∧ Hid ((∀ x, Fm.readF d ft ts = some x → v = x) ∧ VlAt (fun j => w5.heap.size ≤ j ∧ j ≠ bx) wx (.slice xa v.names.length xc) (.slice ya v.vals.length yc) v ∧ Nw w5 wx ∧ w5.heap.size ≤ bx ∧ wx.heap[bx]? = some (.cells #[.int .i64 v.kind, .int .i64 v.n, .slice xa v.names.length xc, .slice ya v.vals.length yc] tVl (0, 0))))
            case first =>
              have HS0 := Lib.hid (HS.out _ (Upd.refl _ w5).drew)
              refine wp_region_G (fun y => y.cell? ⟨P14, 1, none⟩ = some (.int .i64 ft.kind) ∧ y.cell? ⟨P14, 2, none⟩ = some (.slice sa ft.fs.length sc) ∧ y.cell? ⟨eb, eo + k * 2 + 1, none⟩ = some (.string ⟨ts.toArray⟩) ∧ True) 12 (by kernel_rfl) ?_
              refine wpAnyG_pure (i := 0) (v := ?_) rfl (by kernel_rfl) (by kernel_rfl) (by kernel_rfl) (by kernel_rfl) (by kernel_rfl) (fun _ _ _ h => h) (by kernel_rfl) ?_ (fun _ => HS0.out) ?_
              rotate_left 1
              · (intro zz; go_simp; first | done | with_reducible rfl)
              (try simp only [Act.put, List.setIfInBounds_toArray, List.set_cons_zero, List.set_cons_succ])
              refine wpAnyG_pure (i := 2) (v := ?_) rfl (by kernel_rfl) (by kernel_rfl) (by kernel_rfl) (by kernel_rfl) (by kernel_rfl) (fun _ _ _ h => h) (by kernel_rfl) ?_ (fun _ => HS0.out) ?_
              rotate_left 1
              · (intro zz; go_simp; first | done | with_reducible rfl)
              (try simp only [Act.put, List.setIfInBounds_toArray, List.set_cons_zero, List.set_cons_succ])
              refine wpAnyG_pure (i := 3) (v := ?_) rfl (by kernel_rfl) (by kernel_rfl) (by kernel_rfl) (by kernel_rfl) (by kernel_rfl) (fun _ _ _ h => h) (by kernel_rfl) ?_ (fun _ => HS0.out) ?_
              rotate_left 1
              · (intro zz; go_simp; first | done | with_reducible rfl)
              (try simp only [Act.put, List.setIfInBounds_toArray, List.set_cons_zero, List.set_cons_succ])
              refine wpAnyG_load (i := 1) (v := ?_) [] rfl (by kernel_rfl) (by kernel_rfl) (by kernel_rfl) (by kernel_rfl) (by kernel_rfl) (by kernel_rfl) (fun _ _ _ h => h) (by kernel_rfl) ?_ (fun _ => HS0.out) ?_
              rotate_left 1
              · (intro zz hS; obtain ⟨_, _, _, _⟩ := hS; go_simp; first | done | with_reducible rfl)
              (try simp only [Act.put, List.setIfInBounds_toArray, List.set_cons_zero, List.set_cons_succ])
              refine wpAnyG_pure (i := 4) (v := ?_) rfl (by kernel_rfl) (by kernel_rfl) (by kernel_rfl) (by kernel_rfl) (by kernel_rfl) (fun _ _ _ h => h) (by kernel_rfl) ?_ (fun _ => HS0.out) ?_
              rotate_left 1
              · (intro zz; go_simp; first | done | with_reducible rfl)
              (try simp only [Act.put, List.setIfInBounds_toArray, List.set_cons_zero, List.set_cons_succ])
              refine wpAnyG_pure (i := 5) (v := ?_) rfl (by kernel_rfl) (by kernel_rfl) (by kernel_rfl) (by kernel_rfl) (by kernel_rfl) (fun _ _ _ h => h) (by kernel_rfl) ?_ (fun _ => HS0.out) ?_
              rotate_left 1
              · (intro zz; go_simp; first | done | with_reducible rfl)
              (try simp only [Act.put, List.setIfInBounds_toArray, List.set_cons_zero, List.set_cons_succ])
              refine wpAnyG_load (i := 6) (v := ?_) [] rfl (by kernel_rfl) (by kernel_rfl) (by kernel_rfl) (by kernel_rfl) (by kernel_rfl) (by kernel_rfl) (fun _ _ _ h => h) (by kernel_rfl) ?_ (fun _ => HS0.out) ?_
              rotate_left 1
              · (intro zz hS; obtain ⟨_, _, _, _⟩ := hS; go_simp; first | done | with_reducible rfl)
              (try simp only [Act.put, List.setIfInBounds_toArray, List.set_cons_zero, List.set_cons_succ])
              refine wpAnyG_ready [7, 11] (by kernel_rfl) (by simp) ?_
              refine AllG.cons rfl (fun K hK => ?_) (AllG.cons rfl (fun K hK => ?_) AllG.nil)
              · have hd0 : Nw w5 w5.drew := (Upd.refl _ w5).drew
                have hCC := HRC.out w5.drew hd0
                go_simp
                (with_reducible refine (hCC).mono ?_)
                rintro _ w1 ⟨v, xa, xc, ya, yc, rfl, HPP⟩
                clear hCC
                have HU1 := Lib.hid (Nw.trans hd0 HPP.out.2.2)
                refine hK.out _ _ (fun _ => HS.out _ HU1.out) ?_
                clear hK K
                (try simp only [Act.put, List.setIfInBounds_toArray, List.set_cons_zero, List.set_cons_succ])
                have HS1 := Lib.hid (HS.out _ HU1.out)
                refine wpAnyG_pure (i := 8) (v := ?_) rfl (by kernel_rfl) (by kernel_rfl) (by kernel_rfl) (by kernel_rfl) (by kernel_rfl) (fun _ _ _ h => h) (by kernel_rfl) ?_ (fun _ => HS1.out) ?_
                rotate_left 1
                · (intro zz; go_simp; first | done | with_reducible rfl)
                (try simp only [Act.put, List.setIfInBounds_toArray, List.set_cons_zero, List.set_cons_succ])
                refine wpAnyG_pure (i := 9) (v := ?_) rfl (by kernel_rfl) (by kernel_rfl) (by kernel_rfl) (by kernel_rfl) (by kernel_rfl) (fun _ _ _ h => h) (by kernel_rfl) ?_ (fun _ => HS1.out) ?_
                rotate_left 1
                · (intro zz; go_simp; first | done | with_reducible rfl)
                (try simp only [Act.put, List.setIfInBounds_toArray, List.set_cons_zero, List.set_cons_succ])
                refine wpAnyG_pure (i := 10) (v := ?_) rfl (by kernel_rfl) (by kernel_rfl) (by kernel_rfl) (by kernel_rfl) (by kernel_rfl) (fun _ _ _ h => h) (by kernel_rfl) ?_ (fun _ => HS1.out) ?_
                rotate_left 1
                · (intro zz; go_simp; first | done | with_reducible rfl)
                (try simp only [Act.put, List.setIfInBounds_toArray, List.set_cons_zero, List.set_cons_succ])
                refine wpAnyG_ready [11] (by kernel_rfl) (by simp) ?_
                refine AllG.cons rfl (fun K hK => ?_) AllG.nil
                have n3 := nw_alloc w1 (.cells #[.int .i64 0, .int .i64 0, .slice none 0 0, .slice none 0 0] tVl)
                have b3 := heap_new w1 (.cells #[.int .i64 0, .int .i64 0, .slice none 0 0, .slice none 0 0] tVl)
                obtain ⟨w2, hw2⟩ : ∃ y, y = w1.alloc (.cells #[.int .i64 0, .int .i64 0, .slice none 0 0, .slice none 0 0] tVl) := ⟨_, rfl⟩
                rw [← hw2] at n3 b3
                have HW2 := Lib.hid hw2
                go_simp
                rw [← HW2.out]
                refine hK.out _ _ (fun _ => HS.out _ (HU1.out.trans n3)) ?_
                clear hK K
                (try simp only [Act.put, List.setIfInBounds_toArray, List.set_cons_zero, List.set_cons_succ])
                obtain ⟨bx, hbx⟩ : ∃ q, q = w1.heap.size := ⟨_, rfl⟩
                rw [← hbx] at b3
                have HQB := Lib.hid b3
                have HUA := Lib.hid (HU1.out.trans n3)
                have hds : w5.drew.heap.size = w5.heap.size := rfl
                have HLA : Hid (w5.heap.size ≤ bx) := by
                  have := HU1.out.size
                  show _ ≤ _; omega
                have HVL : Hid (VlAt (fun j => w5.heap.size ≤ j ∧ j ≠ bx) w2 (.slice xa v.names.length xc) (.slice ya v.vals.length yc) v) := (HPP.out.2.1.mono (Q := fun j => w5.heap.size ≤ j ∧ j ≠ bx) (fun j hj hp => by have hp' : w5.heap.size ≤ j := hp; exact ⟨hp', by omega⟩)).nw n3
                rw [← hbx]
                clear hbx b3 n3 hw2 hds
                -- behind the call and the alloc: the world w2, the box bx (HQB: its cells; HUA: the step from wz; HVL: the value)
                obtain ⟨c0, c1, c2, c3⟩ := cell4F HQB.out
                obtain ⟨f0, f1, f2, f3⟩ := froz4F HQB.out
                refine wpAnyG_ready [12] (by kernel_rfl) (by simp) ?_
                refine AllG.cons rfl (fun K hK => ?_) AllG.nil
                go_simp
                refine hK.out _ _ (fun e => absurd (show true = false from e) (by decide)) ?_
                clear hK K
                (try simp only [Act.put, List.setIfInBounds_toArray, List.set_cons_zero, List.set_cons_succ])
                refine wpAnyG_ready [13] (by kernel_rfl) (by simp) ?_
                refine AllG.cons rfl (fun K hK => ?_) AllG.nil
                go_simp
                refine hK.out _ _ (fun e => absurd (show true = false from e) (by decide)) ?_
                clear hK K
                (try simp only [Act.put, List.setIfInBounds_toArray, List.set_cons_zero, List.set_cons_succ])
                refine wpAnyG_done (by kernel_rfl) ?_ _
                go_wp2_with fail
                go_meet
                have hqg : nG ≤ bx := by have := HLA.out; have := HGZ.out; omega
                have hb9 := setCell_block (setCell_block (setCell_block (setCell_block HQB.out 0 (.int .i64 v.kind)) 1 (.int .i64 v.n)) 2 (.slice xa v.names.length xc)) 3 (.slice ya v.vals.length yc)
                have hu9 := Upd.set1 (Upd.set1 (Upd.set1 (Upd.set1 (Upd.refl _ (w2)) hqg 0 (.int .i64 v.kind)) hqg 1 (.int .i64 v.n)) hqg 2 (.slice xa v.names.length xc)) hqg 3 (.slice ya v.vals.length yc)
                exact ⟨bx, v, xa, xc, ya, yc, _, rfl, rfl, rfl, HPP.out.1, HVL.out.upd hu9 (fun k hk e => hk.2 e), HUA.out.trans' hu9 (fun k hk e => by have := HLA.out; omega), HLA.out, hb9⟩
              · have n3 := (nw_alloc w5 (.cells #[.int .i64 0, .int .i64 0, .slice none 0 0, .slice none 0 0] tVl)).drew
                have b3 := Nw.keep (Upd.refl (fun _ => False) _).drew (heap_new w5 (.cells #[.int .i64 0, .int .i64 0, .slice none 0 0, .slice none 0 0] tVl))
                obtain ⟨w2, hw2⟩ : ∃ y, y = (w5.alloc (.cells #[.int .i64 0, .int .i64 0, .slice none 0 0, .slice none 0 0] tVl)).drew := ⟨_, rfl⟩
                have hsz2 : w2.heap.size = w5.heap.size + 1 := by rw [hw2]; exact World.size_alloc _ _
                rw [← hw2] at n3 b3
                have HW2 := Lib.hid hw2
                have HU1 := Lib.hid n3
                clear hw2
                go_simp
                rw [← HW2.out]
                refine hK.out _ _ (fun _ => HS.out _ HU1.out) ?_
                clear hK K
                (try simp only [Act.put, List.setIfInBounds_toArray, List.set_cons_zero, List.set_cons_succ])
                refine wpAnyG_ready [7] (by kernel_rfl) (by simp) ?_
                refine AllG.cons rfl (fun K hK => ?_) AllG.nil
                have hCC := HRC.out w2 HU1.out
                go_simp
                (with_reducible refine (hCC).mono ?_)
                rintro _ w4' ⟨v, xa, xc, ya, yc, rfl, HPP⟩
                clear hCC
                have HUA := Lib.hid (HU1.out.trans HPP.out.2.2)
                refine hK.out _ _ (fun _ => HS.out _ HUA.out) ?_
                clear hK K
                (try simp only [Act.put, List.setIfInBounds_toArray, List.set_cons_zero, List.set_cons_succ])
                have HS1 := Lib.hid (HS.out _ HUA.out)
                refine wpAnyG_pure (i := 8) (v := ?_) rfl (by kernel_rfl) (by kernel_rfl) (by kernel_rfl) (by kernel_rfl) (by kernel_rfl) (fun _ _ _ h => h) (by kernel_rfl) ?_ (fun _ => HS1.out) ?_
                rotate_left 1
                · (intro zz; go_simp; first | done | with_reducible rfl)
                (try simp only [Act.put, List.setIfInBounds_toArray, List.set_cons_zero, List.set_cons_succ])
                refine wpAnyG_pure (i := 9) (v := ?_) rfl (by kernel_rfl) (by kernel_rfl) (by kernel_rfl) (by kernel_rfl) (by kernel_rfl) (fun _ _ _ h => h) (by kernel_rfl) ?_ (fun _ => HS1.out) ?_
                rotate_left 1
                · (intro zz; go_simp; first | done | with_reducible rfl)
                (try simp only [Act.put, List.setIfInBounds_toArray, List.set_cons_zero, List.set_cons_succ])
                refine wpAnyG_pure (i := 10) (v := ?_) rfl (by kernel_rfl) (by kernel_rfl) (by kernel_rfl) (by kernel_rfl) (by kernel_rfl) (fun _ _ _ h => h) (by kernel_rfl) ?_ (fun _ => HS1.out) ?_
                rotate_left 1
                · (intro zz; go_simp; first | done | with_reducible rfl)
                (try simp only [Act.put, List.setIfInBounds_toArray, List.set_cons_zero, List.set_cons_succ])
                obtain ⟨bx, hbx⟩ : ∃ q, q = w5.heap.size := ⟨_, rfl⟩
                have b4 := Nw.keep HPP.out.2.2 b3
                rw [← hbx] at b4
                have HQB := Lib.hid b4
                have HLA : Hid (w5.heap.size ≤ bx) := by show _ ≤ _; omega
                have HVL : Hid (VlAt (fun j => w5.heap.size ≤ j ∧ j ≠ bx) w4' (.slice xa v.names.length xc) (.slice ya v.vals.length yc) v) := HPP.out.2.1.mono (fun j hj hp => by have hp' : w2.heap.size ≤ j := hp; exact ⟨by omega, by omega⟩)
                rw [← hbx]
                clear hbx b3 n3 b4 hsz2
                -- behind the call and the alloc: the world w4', the box bx (HQB: its cells; HUA: the step from wz; HVL: the value)
                obtain ⟨c0, c1, c2, c3⟩ := cell4F HQB.out
                obtain ⟨f0, f1, f2, f3⟩ := froz4F HQB.out
                refine wpAnyG_ready [12] (by kernel_rfl) (by simp) ?_
                refine AllG.cons rfl (fun K hK => ?_) AllG.nil
                go_simp
                refine hK.out _ _ (fun e => absurd (show true = false from e) (by decide)) ?_
                clear hK K
                (try simp only [Act.put, List.setIfInBounds_toArray, List.set_cons_zero, List.set_cons_succ])
                refine wpAnyG_ready [13] (by kernel_rfl) (by simp) ?_
                refine AllG.cons rfl (fun K hK => ?_) AllG.nil
                go_simp
                refine hK.out _ _ (fun e => absurd (show true = false from e) (by decide)) ?_
                clear hK K
                (try simp only [Act.put, List.setIfInBounds_toArray, List.set_cons_zero, List.set_cons_succ])
                refine wpAnyG_done (by kernel_rfl) ?_ _
                go_wp2_with fail
                go_meet
                have hqg : nG ≤ bx := by have := HLA.out; have := HGZ.out; omega
                have hb9 := setCell_block (setCell_block (setCell_block (setCell_block HQB.out 0 (.int .i64 v.kind)) 1 (.int .i64 v.n)) 2 (.slice xa v.names.length xc)) 3 (.slice ya v.vals.length yc)
                have hu9 := Upd.set1 (Upd.set1 (Upd.set1 (Upd.set1 (Upd.refl _ (w4')) hqg 0 (.int .i64 v.kind)) hqg 1 (.int .i64 v.n)) hqg 2 (.slice xa v.names.length xc)) hqg 3 (.slice ya v.vals.length yc)
                exact ⟨bx, v, xa, xc, ya, yc, _, rfl, rfl, rfl, HPP.out.1, HVL.out.upd hu9 (fun k hk e => hk.2 e), HUA.out.trans' hu9 (fun k hk e => by have := HLA.out; omega), HLA.out, hb9⟩
            obtain ⟨bx, v, xa, xc, ya, yc, bb, rfl, rfl, hbb, HQ⟩ := hcut
            subst hbb
            obtain ⟨z2, hz2⟩ : ∃ z, z = wc := ⟨_, rfl⟩
            obtain ⟨nv, vv, C, xq, hbq, hvb, hcv, -⟩ := HF.out
            have hb2 := HQ.out.2.2.2.2
            have hu2 := HQ.out.2.2.1
            rw [← hz2] at hb2 hu2 HQ ⊢
            simp only [cond, List.append_nil] at hvb hcv
            have hCl : C.length = n := by
              have := congrArg List.length hcv
              rw [List.length_map] at this
              rw [this]; exact HN0L.out.2
            obtain ⟨na, nc, rfl⟩ := own_slF hvb.on
            obtain ⟨va, vc, rfl⟩ := own_slF hvb.ov
            rw [HN0L.out.1, hCl] at hbq hvb
            have HVB := Lib.hid (hvb.nw hu2)
            have HVB5 := Lib.hid hvb
            have HCV := Lib.hid hcv
            have HCL := Lib.hid hCl
            have HBQ := Lib.hid (Nw.keep hu2 hbq)
            have HBX := Lib.hid hb2
            have HFB2 := Lib.hid (Nw.keep hu2 HFB.out)
            have HUZ2 := Lib.hid (HUZ.out.nw hu2)
            have HU2' := Lib.hid hu2
            have hq5 := lt_of_block hbq
            have hz52 := hu2.size
            have HZZ : Hid (q < w5.heap.size ∧ w5.heap.size ≤ z2.heap.size ∧ nG ≤ q ∧ q + 1 ≤ z2.heap.size) := ⟨hq5, hz52, HQQ.out.2.2.2.2, by omega⟩
            have hn8' : n + 1 ≤ 9 := HN9.out
            have k2 : z2.cell? ⟨q, 2, none⟩ = some (.slice na n nc) := (cell4F HBQ.out).2.2.1
            have k5 : z2.cell? ⟨P14, 0, none⟩ = some (.string ⟨fn.toArray⟩) := by rw [cells_cell HFB2.out]; rfl
            have HNum : Hid (n + 1 ≤ maxLen ∧ (n + 1) * 16 ≤ 140737488355328 ∧ (n + 1) * 64 ≤ 140737488355328) := ⟨by unfold maxLen; omega, by omega, by omega⟩
            have HOnN : Hid (z2.ownsRow (q + 1) 9 1 (.slice na n nc) n (N0.map sF)) := by
              have := HVB.out.on
              rw [HN0L.out.1] at this; exact this
            clear hz2 hbq hvb hcv hCl hb2 hu2 HF HFB HUZ hq5 hz52 hn8'
            go_wp2_with (at_builtin; refine wpList_appL rfl _ _ 25 rfl (q + 1) 9 _ 1 16 Tryz.underlying25 infoStrF rfl (by decide) (.slice na n nc) n _ rfl HOnN.out [.string ⟨fn.toArray⟩] rfl rfl (by intro u hu; rw [List.mem_singleton.1 hu]; rfl) HNum.out.1 HNum.out.2.1 HZZ.out.2.2.2 (by have := HZZ.out; omega) ?_)
            intro v' w6 ho6 hu6 hb6
            obtain ⟨ga, gc, rfl⟩ := own_slF ho6
            obtain ⟨hpush, hupd⟩ := VB.pushN HVB.out HSL.out (Upd.refl _ z2) (by rw [HN0L.out.1]; exact ho6) hu6 hb6
            have hnown : ∀ j, (Value.slice na n nc).ownBlock = some j → q < j ∧ j < w5.heap.size := fun j e => by have := HVB5.out.on.lt j e; omega
            have hbq6 := hu6.keep HBQ.out (fun e => by have := hnown _ e; omega)
            have hfb6 := hu6.keep HFB2.out (fun e => by
              obtain ⟨_, c1, h1⟩ := own_block HVB.out.on e
              rw [HFB2.out] at h1
              injection h1 with h1
              injection h1 with _ h1
              exact absurd h1 (by decide))
            have hbx6 := hu6.keep HBX.out (fun e => by
              obtain ⟨_, c1, h1⟩ := own_block HVB.out.on e
              rw [HBX.out] at h1
              injection h1 with h1
              injection h1 with _ h1
              exact absurd h1 (by decide))
            obtain ⟨w7, hw7⟩ : ∃ y, y = w6.setCell ⟨q, 2, none⟩ (.slice ga (n + 1) gc) := ⟨_, rfl⟩
            have u7 : Upd (fun k => k = q) w6 w7 := by rw [hw7]; exact Upd.set1 (Upd.refl _ w6) HZZ.out.2.2.1 2 _
            have hbq7 : w7.heap[q]? = some (.cells #[.int .i64 2, .int .i64 0, .slice ga (n + 1) gc, .slice va n vc] tVl (0, 0)) := by rw [hw7]; exact setCell_block hbq6 2 _
            have hqne : q ≠ bx ∧ q ≠ P14 := by
              refine ⟨fun e => ?_, fun e => by have := HP14.out; omega⟩
              have h1 := HQ.out.2.2.2.1
              have h2 := HZZ.out
              omega
            have hfb7 := u7.keep hfb6 (fun e => hqne.2 e.symm)
            have hbx7 := u7.keep hbx6 (fun e => hqne.1 e.symm)
            have hp7 := hpush.upd u7 (fun j hj _ e => by omega)
            have HE7 := Lib.hid hw7
            have HP7 := Lib.hid hp7
            have HBQ7 := Lib.hid hbq7
            have HFB7 := Lib.hid hfb7
            have HBX7 := Lib.hid hbx7
            have hval7 : VlAt (fun j => w5.heap.size ≤ j ∧ j < z2.heap.size) w7 (.slice xa v.names.length xc) (.slice ya v.vals.length yc) v := by
              have h1 := HQ.out.2.1.mono (Q := fun j => w5.heap.size ≤ j ∧ j < z2.heap.size) (fun j hj hp => ⟨hp.1, hj⟩)
              have h2 := h1.upd hu6 (fun j hp e => by have := hnown j e; omega)
              exact h2.upd u7 (fun j hp e => by have := HZZ.out; omega)
            have HVAL7 := Lib.hid hval7
            have HUZ7 : Hid (Upd (fun k => k = q) w4 w7) := (HUZ2.out.trans' hu6 (fun k hk e => by have := hnown k e; have := HQQ.out; omega)).trans' u7 (fun k _ e => e)
            have HB6 : Hid (∀ j, (Value.slice ga (n + 1) gc).ownBlock = some j → (q < j ∧ j < w5.heap.size) ∨ z2.heap.size ≤ j) := fun j e => by
              rcases hb6 j e with e | e
              · exact Or.inl (hnown j e)
              · exact Or.inr e
            have f2 := cells_frozen hbq6 2
            have d2 : w6.cell? ⟨q, 2, none⟩ = some (.slice na n nc) := by rw [cells_cell hbq6]; rfl
            have HZ7 : Hid (z2.heap.size ≤ w7.heap.size) := Nat.le_trans hu6.size u7.size
            clear ho6 hu6 hb6 hpush hupd hnown hfb6 hbx6 u7 hbq7 hqne hfb7 hbx7 hp7 hw7 hval7 k2 k5
            go_upto_region 28 with fail
            rw [← HE7.out]
            clear HE7 d2 f2 hbq6
            have k3 : w7.cell? ⟨q, 3, none⟩ = some (.slice va n vc) := (cell4F HBQ7.out).2.2.2
            obtain ⟨g0, g1, g2, g3⟩ := cell4F HBX7.out
            have HOnV : Hid (w7.ownsRow (q + 1) tVl 4 (.slice va n vc) n (C.map vcL).flatten) := by
              have := HP7.out.ov
              rw [HCL.out] at this; exact this
            have hqw7 : q + 1 ≤ w7.heap.size := by have := HZZ.out; have := HZ7.out; omega
            go_wp2_with (at_builtin; refine wpList_appL rfl _ _ 26 rfl (q + 1) tVl _ 4 64 Tryz.underlying26 infoVlF rfl (by decide) (.slice va n vc) n _ rfl HOnV.out [.int .i64 v.kind, .int .i64 v.n, .slice xa v.names.length xc, .slice ya v.vals.length yc] rfl rfl (by intro u hu; simp at hu; rcases hu with rfl | rfl | rfl | rfl <;> rfl) HNum.out.1 HNum.out.2.2 hqw7 (by have := HZZ.out; omega) ?_)
            intro v' w8 ho8 hu8 hb8
            obtain ⟨gd, gdc, rfl⟩ := own_slF ho8
            have hvown : ∀ j, (Value.slice va n vc).ownBlock = some j → q < j ∧ j < w5.heap.size := fun j e => by have := HVB5.out.ov.lt j e; omega
            obtain ⟨hpush, hupd⟩ := VB.pushV (xn := .slice xa v.names.length xc) (xv := .slice ya v.vals.length yc) (v := v) HP7.out (Upd.refl _ w7) (HVAL7.out.mono (fun j hj hp => ⟨by have := HZZ.out; omega, fun e => by have := HB6.out j e; omega, fun e => by have := hvown j e; omega⟩)) (Upd.refl _ w7) (by rw [HCL.out]; exact ho8) hu8 hb8
            have hbq8 := hu8.keep HBQ7.out (fun e => by have := hvown _ e; omega)
            have hfb8 := hu8.keep HFB7.out (fun e => by
              obtain ⟨_, c1, h1⟩ := own_block HP7.out.ov e
              rw [HFB7.out] at h1
              injection h1 with h1
              injection h1 with _ h1
              exact absurd h1 (by decide))
            obtain ⟨w9, hw9⟩ : ∃ y, y = w8.setCell ⟨q, 3, none⟩ (.slice gd (n + 1) gdc) := ⟨_, rfl⟩
            have u9 : Upd (fun k => k = q) w8 w9 := by rw [hw9]; exact Upd.set1 (Upd.refl _ w8) HZZ.out.2.2.1 3 _
            have hbq9 : w9.heap[q]? = some (.cells #[.int .i64 2, .int .i64 0, .slice ga (n + 1) gc, .slice gd (n + 1) gdc] tVl (0, 0)) := by rw [hw9]; exact setCell_block hbq8 3 _
            have hfb9 := u9.keep hfb8 (fun e => by have := HP14.out; omega)
            have hp9 := hpush.upd u9 (fun j hj _ e => by omega)
            have HUZ9 : Hid (Upd (fun k => k = q) w4 w9) := (HUZ7.out.trans' hu8 (fun k hk e => by have := hvown k e; have := HQQ.out; omega)).trans' u9 (fun k _ e => e)
            have HFB9 := Lib.hid hfb9
            have hdk : decide (k < k + 1) = true := decide_eq_true (Nat.lt_succ_self k)
            have HF9 : Hid (FdI q N0 V0 fn (oneR d l (fn, ft)) (decide (k < k + 1)) w9) := by
              refine ⟨_, _, C ++ [⟨.slice xa v.names.length xc, .slice ya v.vals.length yc, v⟩], v, hbq9, ?_, ?_, fun y hy => HQ.out.1 y (by rw [← HONE.out]; exact hy)⟩
              · rw [hdk]; exact hp9
              · rw [hdk, List.map_append, HCV.out]; rfl
            have HE9 := Lib.hid hw9
            have f3 := cells_frozen hbq8 3
            have d3 : w8.cell? ⟨q, 3, none⟩ = some (.slice va n vc) := by rw [cells_cell hbq8]; rfl
            have HDK : Hid ((Fm.readF d ft ts).isSome = (decide (k < k + 1) && os)) := by show _ = _; rw [hdk, HOS2.out]; rfl
            clear ho8 hu8 hb8 hvown hpush hupd hbq8 hfb8 u9 hbq9 hfb9 hp9 hw9 hdk g0 g1 g2 g3 k3 hqw7
            go_wp2_with fail
            rw [← HE9.out]
            go_roundw
            case rel => exact ⟨k + 1, by omega, by rw [HDK.out], by go_num, HF9.out, HFB9.out, HUZ9.out⟩
            case measure => simp [intOf]; omega
          · have hpk : p ≠ k := fun e => he (hki.2 e.symm)
            have hdk : Hid (decide (p < k + 1) = decide (p < k)) := by
              show _ = _
              by_cases h : p < k
              · rw [decide_eq_true h, decide_eq_true (show p < k + 1 by omega)]
              · rw [decide_eq_false h, decide_eq_false (show ¬ p < k + 1 by omega)]
            clear hki hpk hecell
            generalize (l[k]).1 = sk at *
            have ht1 : (sk == fn) = false := by simp; exact he
            have ht2 : (sk != fn) = true := by simp; exact he
            clear he
            go_wp2_with fail
            refine wp_region_nw (by kernel_rfl) (by kernel_rfl) ?_
            repeat (go_big_quiet_step ((fail)))
            refine wpQuiet_nil ?_
            intro w5 u5
            replace u5 := later_out u5
            have HF5 := Lib.hid (HF.out.keep u5)
            have HFB5 := Lib.hid (Nw.keep u5 HFB.out)
            have HUZ5 := Lib.hid (HUZ.out.nw u5)
            clear u5 m1 m2
            go_wp2_with fail
            go_roundw
            case rel => exact ⟨k + 1, by omega, by rw [hdk.out], by go_num, by rw [hdk.out]; exact HF5.out, HFB5.out, HUZ5.out⟩
            case measure => simp [intOf]; omega
        · obtain rfl : k = l.length := by omega
          have HNWZ : Hid (Nw w wr) := HU12.out.trans' HUZ.out (fun k hk e => by have := HQQ.out; omega)
          have HR9 := Lib.hid (HUZ.out.keep HR12.out (fun e => by have := HQQ.out; omega))
          have HU9 := HNWZ
          cases hrd : rdOk d l (fn, ft) with
          | false =>
            have hz := HOK.out
            rw [hrd, ← HOS.out] at hz
            rw [← hz]
            have e9 : Hid ((Fm.readF (d + 1) t s).isSome = false ∧ ∀ x, Fm.readF (d + 1) t s = some x → Fm.noV = x) := by
              have e := hst.out hrd
              exact ⟨by rw [e]; rfl, fun x hx => by rw [e] at hx; cases hx⟩
            clear hz hrd
            -- the way out: the world wr (HR9: the result's box; HU9: the step from w), the value Fm.noV (.mk .. [] []), the flag false, the equation e9.out
            obtain ⟨f0, f1, f2, f3⟩ := froz4F HR9.out
            obtain ⟨z0, z1, z2, z3⟩ := cell4F HR9.out
            obtain ⟨hb9, hz9⟩ := rd43_exit (w := w) (y := wr) (by have := HGB.out; omega) (Nat.le_succ _) HR9.out HU9.out (Vl.kind Fm.noV) (Vl.n Fm.noV) (.slice none 0 0) (.slice none 0 0) (VlAt.nil (fun j => w.heap.size + 2 ≤ j) (wr) (k := Vl.kind Fm.noV) (n := Vl.n Fm.noV) i64_0 i64_0) (fun j hj => ⟨by omega, by omega⟩)
            have HB9 := Lib.hid hb9
            clear hb9
            go_wp2_with fail
            refine bodyPost_ret (rd43_results (b := false) _ _ ?_ ?_ HB9.out) ?_ ?_
            · rfl
            · rfl
            · rfl
            exact ⟨Fm.noV, _, _, _, _, by rw [(e9.out).1]; rfl, (e9.out).2, hz9.out.1, hz9.out.2⟩
          | true =>
            have hz := HOK.out
            rw [hrd, ← HOS.out] at hz
            have hB := Lib.hid (hnx.out hrd)
            have hpt : decide (p < l.length) = true := by
              cases h : decide (p < l.length) with
              | true => rfl
              | false => rw [h] at hz; cases hz
            have hot : os = true := by
              cases h : os with
              | true => rfl
              | false => rw [h, Bool.and_false] at hz; cases hz
            have HREL : Hid (Hid (∃ nv vv C, wr.heap[q]? = some (.cells #[.int .i64 2, .int .i64 0, nv, vv] tVl (0, 0)) ∧ VB (q + 1) wr nv vv ((t.fs.take (n + 1)).map (·.1)) C ∧ C.map VC.v = (t.fs.take (n + 1)).map (fun f => (oneR d l f).getD Fm.noV))) := by
              obtain ⟨nv, vv, C, x, h1, h2, h3, h4⟩ := HF.out
              rw [hpt] at h2 h3
              refine ⟨nv, vv, C, h1, by rw [HST.out.1]; exact h2, ?_⟩
              rw [HST.out.2, h3]
              have h5 := HOS.out
              rw [hot] at h5
              cases h6 : oneR d l (fn, ft) with
              | none => rw [h6] at h5; cases h5
              | some y => rw [h4 y h6]; rfl
            rw [← hz]
            clear hz hrd hpt hot
            go_wp2_with fail
            go_roundw
            case rel => exact ⟨n + 1, by omega, by go_num, hB.out, HREL.out.out, HUZ.out⟩
            case measure => simp [intOf]; omega
    · obtain rfl : n = t.fs.length := by omega
      obtain ⟨nv, vv, C, hbq, hvb, hcv⟩ := HV.out
      rw [List.take_length] at hvb hcv
      have hCl : C.length = t.fs.length := by
        have := congrArg List.length hcv
        rw [List.length_map, List.length_map] at this; exact this
      obtain ⟨na, nc, rfl⟩ := own_slF hvb.on
      obtain ⟨va, vc, rfl⟩ := own_slF hvb.ov
      have hd := hvb.done (k := 2) (n := 0) i64_2 i64_0
      rw [hcv] at hd
      rw [List.length_map, hCl] at hbq
      rw [List.length_map, hCl] at hd
      have hr9 := U.out.keep HR12.out (fun e => by have := HQQ.out; omega)
      obtain ⟨hb9, hz9⟩ := rd43_exit (w := w) (y := wr) (by have := HGB.out; omega) (Nat.le_succ _) hr9 HNW.out 2 0 _ _ hd (fun j hj => by have := HQQ.out; exact ⟨by omega, by omega⟩)
      have HB9 := Lib.hid hb9
      obtain ⟨f0, f1, f2, f3⟩ := froz4F hr9
      obtain ⟨z0, z1, z2, z3⟩ := cell4F hr9
      obtain ⟨c0, c1, c2, c3⟩ := cell4F hbq
      have E9 : Hid (Fm.readF (d + 1) t s = some (.mk 2 0 (t.fs.map (·.1)) (t.fs.map fun f => (oneR d l f).getD Fm.noV))) := by
        show _ = _
        rw [HRF.out, if_pos (List.all_eq_true.2 (fun x hx => by obtain ⟨j, hj, rfl⟩ := List.mem_iff_getElem.1 hx; exact hA.out j hj hj)), HKK.out]
      clear hb9 hbq hvb hcv hCl hd hr9 HV
      go_wp2_with fail
      refine bodyPost_ret (rd43_results (b := true) _ _ ?_ ?_ HB9.out) ?_ ?_
      · rfl
      · rfl
      · rfl
      have hlN : (t.fs.map (·.1)).length = t.fs.length := List.length_map _
      have hlV : (t.fs.map fun f => (oneR d l f).getD Fm.noV).length = t.fs.length := List.length_map _
      refine ⟨.mk 2 0 (t.fs.map (·.1)) (t.fs.map fun f => (oneR d l f).getD Fm.noV), na, nc, va, vc, ?_, fun x hx => ?_, ?_, hz9.out.2⟩
      · show Ending.returned (.tuple #[.agg #[.int .i64 2, .int .i64 0, .slice na t.fs.length nc, .slice va t.fs.length vc], .bool true]) = Ending.returned (.tuple #[.agg #[.int .i64 2, .int .i64 0, .slice na (t.fs.map (·.1)).length nc, .slice va (t.fs.map fun f => (oneR d l f).getD Fm.noV).length vc], .bool _])
        rw [hlN, hlV, E9.out]; rfl
      · rw [E9.out] at hx; exact Option.some.inj hx
      · show VlAt _ _ (.slice na (t.fs.map (·.1)).length nc) (.slice va (t.fs.map fun f => (oneR d l f).getD Fm.noV).length vc) _
        rw [hlN, hlV]; exact hz9.out.1
theorem read43_r : ∀ (d : Nat), d ≤ 4 → ∀ (t : Ty) (fv : Value) (s : Str) (w : World), Gl w → rightTy d t = true → TyAt w fv t → s.length ≤ 1000000 →
    Calls Tryz.prog 54 #[.agg #[.int .i64 t.kind, fv], .string ⟨s.toArray⟩] w (RdPost43 d t s w) := by
  intro d
  induction d with
  | zero => intro _ t fv s w g h; cases h
  | succ d ih =>
    intro hd t fv s w g hr ht hs
    have hR := Fm.rt_iff.1 hr
    have hkc : t.kind = 0 ∨ t.kind = 1 ∨ t.kind = 2 := by have := hR.k0; have := hR.k3; omega
    rcases hkc with hk | hk | hk
    · exact read43_k0 d t hk fv s w g hr ht hs
    · exact read43_k1 d t hk fv s w g hr ht hs
    · exact read43_k2 d (Lib.hid (ih (by omega))) t hk fv s w g hr ht hs
end Go.Proofs.YthagiklfmkdmaaaGreatDoor
