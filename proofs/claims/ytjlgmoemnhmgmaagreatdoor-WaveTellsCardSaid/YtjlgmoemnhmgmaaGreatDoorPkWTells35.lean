/- The reference's entries (ladingref43): Entries. The reference's reading (ladingref43): read of a record, read. types.lookup: slices.Backward over fields. types.lookup. types.below, types.Sub. The reference's subtypes (ladingref16): field, sub, Sub. ladingref43: Write, Read, Reads, Both, Witness (printed by wip/tools/gen_rfn.py). -/
import Derived.Test.YtjlgmoemnhmgmaaGreatDoorPkWTells32
import Derived.Test.YtjlgmoemnhmgmaaGreatDoorPkWTells12
import Derived.Test.YtjlgmoemnhmgmaaGreatDoorPkWTells8
import Derived.Test.YtjlgmoemnhmgmaaGreatDoorPkWTells10
import Derived.Test.YtjlgmoemnhmgmaaGreatDoorPkWTells6
import Derived.Test.YtjlgmoemnhmgmaaGreatDoorPkWTells0
import Derived.Test.YtjlgmoemnhmgmaaGreatDoorPkWTells15
import Derived.Test.YtjlgmoemnhmgmaaGreatDoorPkWTells18
import Derived.Test.YtjlgmoemnhmgmaaGreatDoorPkWTells25
import Derived.LoopIn
import Derived.LoopNIn
import Derived.TacticsInMore
import Derived.OwnWalkIn
import Derived.WalkKit
import Derived.Shelf.RegionOpen
import Derived.Shelf.Abstract
import Derived.RangeFuncLeaves
import Derived.RangeFuncCalls
import Derived.RangeFuncBound
import Derived.RangeFuncNested
import Derived.Maps.OwnIn
namespace Go.Proofs.YtjlgmoemnhmgmaaGreatDoor
open Go.RowKit
set_option linter.unusedVariables false
set_option linter.unusedSimpArgs false
attribute [local irreducible] Calls
open Fm (Ty Vl Str nameB rightTy rightVl)

/-- What the walk is told of a slice of entries. -/
abbrev EnC (w : World) (a : Option Addr) (l : List (Str × Str)) : Prop := l = [] ∨ ∃ b off, a = some ⟨b, off, none⟩ ∧ b < w.heap.size ∧ ∀ i (h : i < l.length), w.cell? ⟨b, off + i * 2, none⟩ = some (.string ⟨(l[i]).1.toArray⟩) ∧ w.cell? ⟨b, off + i * 2 + 1, none⟩ = some (.string ⟨(l[i]).2.toArray⟩)
theorem EnC.upd {w w' : World} {S : Nat → Prop} {a : Option Addr} {l : List (Str × Str)} (h : EnC w a l) (u : Upd S w w') (hs : ∀ b off, a = some ⟨b, off, none⟩ → ¬ S b) : EnC w' a l := by
  rcases h with h | ⟨b, off, ha, hb, hc⟩
  · exact Or.inl h
  · refine Or.inr ⟨b, off, ha, Nat.lt_of_lt_of_le hb u.size, fun i hi => ?_⟩
    obtain ⟨h1, h2⟩ := hc i hi
    exact ⟨(World.cell?_of_block (u.block b hb (Or.inr (hs b off ha)))).trans h1, (World.cell?_of_block (u.block b hb (Or.inr (hs b off ha)))).trans h2⟩
end Go.Proofs.YtjlgmoemnhmgmaaGreatDoor
namespace Go.Proofs.YtjlgmoemnhmgmaaGreatDoor
open Go.RowKit
set_option linter.unusedVariables false
set_option linter.unusedSimpArgs false
attribute [local irreducible] Calls
open Fm (Ty Vl Str nameB rightTy rightVl)

/-- The record as it stands while the entries are looked through for one field. -/
def FdI (q : Nat) (N0 : List Str) (V0 : List Vl) (s : Str) (r : Option Vl) (b : Bool) (wz : World) : Prop :=
  ∃ nv vv C x, wz.heap[q]? = some (.cells #[.int .i64 2, .int .i64 0, nv, vv] tVl (0, 0)) ∧ VB (q + 1) wz nv vv (N0 ++ cond b [s] []) C ∧ C.map VC.v = V0 ++ cond b [x] [] ∧ ∀ y, r = some y → x = y
theorem FdI.keep {q : Nat} {N0 : List Str} {V0 : List Vl} {s : Str} {r : Option Vl} {b : Bool} {w w' : World} (h : FdI q N0 V0 s r b w) (u : Nw w w') : FdI q N0 V0 s r b w' := by
  obtain ⟨nv, vv, C, x, h1, h2, h3, h4⟩ := h
  exact ⟨nv, vv, C, x, Nw.keep u h1, h2.nw u, h3, h4⟩
end Go.Proofs.YtjlgmoemnhmgmaaGreatDoor
namespace Go.Proofs.YtjlgmoemnhmgmaaGreatDoor
open Go.RowKit Go.MapKept
set_option linter.unusedVariables false
set_option linter.unusedSimpArgs false
attribute [local irreducible] Calls
open Fm (Ty Vl Str nameB rightTy rightVl)

/-- Where the fields lie: the block, the offset, the third cells. -/
def sl3 (p : Option Addr × Nat × Nat) : Value := .slice p.1 p.2.1 p.2.2
end Go.Proofs.YtjlgmoemnhmgmaaGreatDoor
namespace Go.Proofs.YtjlgmoemnhmgmaaGreatDoor
open Go.RowKit Go.MapKept
set_option linter.unusedVariables false
set_option linter.unusedSimpArgs false
attribute [local irreducible] Calls
open Fm (Ty Vl Str nameB rightTy rightVl)

/-- What the loop holds while it goes on, and where it stops. -/
def LkI (w0 : World) (bt : Nat) (l : List (Str × Ty)) (s : Str) (pre : List Nat) (W : World) : Prop := (∀ j ∈ pre, ∀ h : j < l.length, (l[j]).1 ≠ s) ∧ Upd (fun k => k = bt) w0 W
def LkX (w0 : World) (bt p4 p5 : Nat) (l : List (Str × Ty)) (s : Str) (sv : Nat → Option Addr × Nat × Nat) (c : Code) (pre : List Nat) (W : World) : Prop :=
  c = .ret ∧ ∃ m, ∃ h : m < l.length, (l[m]).1 = s ∧ (∀ j, m < j → ∀ h : j < l.length, (l[j]).1 ≠ s) ∧ Upd (fun k => k = bt ∨ k = p4 ∨ k = p5) w0 W ∧ W.heap[p4]? = some (.cells #[.int .i64 (l[m]).2.kind, sl3 (sv m)] tTy (0, 0)) ∧ W.heap[p5]? = some (.cells #[.bool true] 4 (0, 0))
theorem look_no {l : List (Str × Ty)} {s : Str} (h : ∀ j (h : j < l.length), (l[j]).1 ≠ s) : Fm.lookup l s = none := by
  unfold Fm.lookup
  rw [List.find?_eq_none.2 (fun x hx => ?_)]
  · rfl
  · obtain ⟨j, hj, e⟩ := List.mem_iff_getElem.1 (List.mem_reverse.1 hx)
    have := h j hj
    rw [e] at this
    simpa using this
theorem look_at {l : List (Str × Ty)} {s : Str} {m : Nat} (hm : m < l.length) (he : (l[m]).1 = s) (h : ∀ j, m < j → ∀ h : j < l.length, (l[j]).1 ≠ s) : Fm.lookup l s = some (l[m]).2 := by
  unfold Fm.lookup
  have e : l.reverse.find? (fun f => decide (f.1 = s)) = some l[m] := by
    refine List.find?_eq_some_iff_append.2 ⟨by simpa using he, (l.drop (m + 1)).reverse, (l.take m).reverse, ?_, fun x hx => ?_⟩
    · have h1 : l = l.take m ++ l[m] :: l.drop (m + 1) := by rw [List.getElem_cons_drop, List.take_append_drop]
      conv => lhs; rw [h1]
      simp
    · obtain ⟨j, hj, e⟩ := List.mem_iff_getElem.1 (List.mem_reverse.1 hx)
      rw [List.length_drop] at hj
      rw [List.getElem_drop] at e
      have := h (m + 1 + j) (by omega) (by omega)
      rw [e] at this
      simpa using this
  rw [e]; rfl
theorem LkI.bears {w0 : World} {bt : Nat} {l : List (Str × Ty)} {s : Str} : Bears w0.heap.size bt (LkI w0 bt l s) := fun pre A B k h u hk => by
  refine ⟨h.1, h.2.trans' u (fun j hj e => ?_)⟩
  rcases hk with hk | hk
  · omega
  · omega
theorem LkX.bears {w0 : World} {bt p4 p5 : Nat} {l : List (Str × Ty)} {s : Str} {sv : Nat → Option Addr × Nat × Nat} (h4 : p4 ≠ bt) (h5 : p5 ≠ bt) (c : Code) : Bears w0.heap.size bt (LkX w0 bt p4 p5 l s sv c) := fun pre A B k h u hk => by
  obtain ⟨hc, m, hm, h1, h2, hu, b4, b5⟩ := h
  refine ⟨hc, m, hm, h1, h2, hu.trans' u (fun j hj e => ?_), u.keep b4 (fun e => ?_), u.keep b5 (fun e => ?_)⟩
  · rcases hk with hk | hk
    · exact Or.inl (by omega)
    · omega
  · rcases hk with hk | ⟨_, o, ho, hn⟩
    · omega
    · subst e; rw [b4] at ho; cases ho; cases hn
  · rcases hk with hk | ⟨_, o, ho, hn⟩
    · omega
    · subst e; rw [b5] at ho; cases ho; cases hn
end Go.Proofs.YtjlgmoemnhmgmaaGreatDoor
namespace Go.Proofs.YtjlgmoemnhmgmaaGreatDoor
open Go.RowKit Go.MapKept
set_option linter.unusedVariables false
set_option linter.unusedSimpArgs false
attribute [local irreducible] Calls
open Fm (Ty Vl Str nameB rightTy rightVl)

def subF (d : Nat) (a : Ty) (f : Str × Ty) : Bool := match Fm.lookup a.fs f.1 with
  | none => false
  | some t => Fm.sub d t f.2
end Go.Proofs.YtjlgmoemnhmgmaaGreatDoor
namespace Go.Proofs.YtjlgmoemnhmgmaaGreatDoor
open Go.RowKit
set_option linter.unusedVariables false
set_option linter.unusedSimpArgs false
attribute [local irreducible] Calls
open Fm (Ty Vl Str nameB rightTy rightVl)

/-- What field answers; the type lies where it lay. -/
def Fd16 (w0 : World) (l : List (Str × Ty)) (s : Str) (w : World) (e : Ending) (w' : World) : Prop :=
  ∃ (k : Int) (xa : Option Addr) (xl xc : Nat) (bb : Bool), e = .returned (.tuple #[.agg #[.int .i64 k, .slice xa xl xc], .bool bb]) ∧ Hid (bb = (Fm.lookup l s).isSome ∧ (∀ t, Fm.lookup l s = some t → k = t.kind ∧ TyAt w0 (.slice xa xl xc) t) ∧ Nw w w')
theorem fd_results (tmps : Array Value) (w : World) {r : Nat} {x y : Value} {b : Bool} (hr : tmps.getD 4 undef = .pointer (some ⟨r, 0, none⟩)) (h5 : tmps.getD 5 undef = .bool b) (hb : w.heap[r]? = some (.cells #[x, y] tTy (0, 0))) :
    (results Tryz.f100 tmps).run Tryz.prog w = .ok (.tuple #[.agg #[x, y], .bool b]) w := by
  have c0 : w.cell? ⟨r, 0, none⟩ = some x := by rw [cells_cell hb]; rfl
  have c1 : w.cell? ⟨r, 1, none⟩ = some y := by rw [cells_cell hb]; rfl
  rw [Array.getD_eq_getD_getElem?] at hr h5
  simp [results, Tryz.results100, go_sem, hr, h5, c0, c1]
set_option maxHeartbeats 1000000 in
set_option maxRecDepth 100000 in
theorem field16_r (a : Option Addr) (cap : Nat) (l : List (Str × Ty)) (s : Str) (w0 w : World) (u0 : Nw w0 w) (hgb : nG ≤ w.heap.size) (h : FdC w0 a l) (hl : l.length ≤ 8) :
    Calls Tryz.prog 100 #[.slice a l.length cap, .string ⟨s.toArray⟩] w (Fd16 w0 l s w) := by
  have hl1 : (l.length : Int) ≤ 8 := by omega
  have n1 := nw_alloc w (.cells #[.int .i64 0, .slice none 0 0] tTy)
  have b1 := heap_new w (.cells #[.int .i64 0, .slice none 0 0] tTy)
  obtain ⟨W, hW⟩ : ∃ W, W = w.alloc (.cells #[.int .i64 0, .slice none 0 0] tTy) := ⟨_, rfl⟩
  rw [← hW] at n1 b1
  have HW := Lib.hid hW
  have HN := Lib.hid n1
  have HB := Lib.hid b1
  have HC0 := Lib.hid h
  clear h n1 b1 hW
  go_enter Tryz.func100, Tryz.ntmps100
  go_upto_region 1 with fail
  rw [← HW.out]
  clear HW
  go_wp2_with fail
  go_loopw [6] (fun i wr => ∃ n : Nat, n ≤ l.length ∧ i = .int .i64 ((n : Int) - 1) ∧ Hid (∀ j (h : j < l.length), n ≤ j → (l[j]).1 ≠ s) ∧ Hid (Nw W wr)) (fun i _ => (intOf i + 1).toNat)
  case atStart => exact ⟨l.length, Nat.le_refl _, by first | rfl | go_num, (fun j h h2 => by omega), Upd.refl _ _⟩
  case round =>
    obtain ⟨n, hn, rfl, hall, hw⟩ := hrel
    have hbw := Nw.keep hw.out HB.out
    have f0 := cells_frozen hbw 0
    have f1 := cells_frozen hbw 1
    have c0 : wr.cell? ⟨w.heap.size, 0, none⟩ = some (.int .i64 0) := by rw [cells_cell hbw]; rfl
    have c1 : wr.cell? ⟨w.heap.size, 1, none⟩ = some (.slice none 0 0) := by rw [cells_cell hbw]; rfl
    have HBW := Lib.hid hbw
    clear hbw
    cases n with
    | zero =>
      have hlk := Lib.hid (look_no (l := l) (s := s) (fun j hj => hall.out j hj (Nat.zero_le _)))
      have hz := Lib.hid (setCell_block (setCell_block HBW.out 0 (.int .i64 0)) 1 (.slice none 0 0))
      have hu := Lib.hid (Upd.set1 (Upd.set1 (Upd.refl _ wr) hgb 0 (.int .i64 0)) hgb 1 (.slice none 0 0))
      go_wp2_with fail
      refine bodyPost_ret (fd_results (b := false) _ _ ?_ ?_ hz.out) ?_ ?_
      · rfl
      · rfl
      · rfl
      exact ⟨0, none, 0, 0, false, rfl, by rw [hlk.out]; rfl, (fun t ht => by rw [hlk.out] at ht; cases ht), (HN.out.trans hw.out).trans' hu.out (fun k hk e => by omega)⟩
    | succ m =>
      rw [show ((m + 1 : Nat) : Int) - 1 = (m : Int) by omega]
      have hlt : m < l.length := by omega
      have hlt1 : (m : Int) < l.length := by omega
      have hm9 : (m : Int) ≤ 8 := by omega
      have hm0 : decide ((m : Int) < 0) = false := decide_eq_false (by omega)
      have hm1 : decide ((0 : Int) ≤ (m : Int)) = true := decide_eq_true (by omega)
      rcases HC0.out with hnil | ⟨b, off, rfl, hb, hcell⟩
      · simp [hnil] at hlt
      obtain ⟨sv, p0, p1, p2, hty, hsl⟩ := hcell m hlt
      obtain ⟨sa, sc, hsv, -⟩ := hty.cells
      subst hsv
      have y0 := nw_cellF ((Nw.trans u0 HN.out).trans hw.out) p0
      have y1 := nw_cellF ((Nw.trans u0 HN.out).trans hw.out) p1
      have y2 := nw_cellF ((Nw.trans u0 HN.out).trans hw.out) p2
      have hstop : (l[m]).1 = s → Hid (Fm.lookup l s = some (l[m]).2) := fun e => look_at hlt e (fun j hj h => hall.out j h hj)
      have hnext : (l[m]).1 ≠ s → Hid (∀ j (h : j < l.length), m ≤ j → (l[j]).1 ≠ s) := fun e j h hj => by
        by_cases ej : j = m
        · subst ej; exact e
        · exact hall.out j h (by omega)
      have HTY := Lib.hid hty
      clear hcell p0 p1 p2 hty hsl
      generalize (l[m]).1 = x at *
      generalize (l[m]).2 = t at *
      by_cases he : x = s
      · have hlk := hstop he
        clear hstop hnext
        subst he
        have hz := Lib.hid (setCell_block (setCell_block HBW.out 0 (.int .i64 t.kind)) 1 (.slice sa t.fs.length sc))
        have hu := Lib.hid (Upd.set1 (Upd.set1 (Upd.refl _ wr) hgb 0 (.int .i64 t.kind)) hgb 1 (.slice sa t.fs.length sc))
        go_wp2_with fail
        refine bodyPost_ret (fd_results (b := true) _ _ ?_ ?_ hz.out) ?_ ?_
        · rfl
        · rfl
        · rfl
        have hnw := (HN.out.trans hw.out).trans' hu.out (fun k hk e => by omega)
        exact ⟨_, _, _, _, true, rfl, by rw [hlk.out]; rfl, (fun t' ht => by rw [hlk.out] at ht; obtain rfl := Option.some.inj ht; exact ⟨rfl, HTY.out⟩), hnw⟩
      · have hz := hnext he
        have htt : (x == s) = false := by simp; exact he
        clear hstop hnext he
        go_wp2_with fail
        go_roundw
        case rel => exact ⟨m, by omega, by go_num, hz.out, hw.out⟩
        case measure => simp [intOf]
theorem sub_all {d : Nat} {a b : Ty} (hk : a.kind = b.kind) : Fm.sub (d + 1) a b = b.fs.all (subF d a) := by
  show (decide (a.kind = b.kind) && b.fs.all (subF d a)) = _
  rw [decide_eq_true hk, Bool.true_and]
set_option maxHeartbeats 4000000 in
set_option maxRecDepth 100000 in
theorem sub_r : ∀ (d : Nat) (a b : Ty) (fv gv : Value) (w : World), nG ≤ w.heap.size → rightTy d a = true → rightTy d b = true → TyAt w fv a → TyAt w gv b →
    Calls Tryz.prog 74 #[.agg #[.int .i64 a.kind, fv], .agg #[.int .i64 b.kind, gv]] w fun e w' => e = .returned (.bool (Fm.sub d a b)) ∧ Nw w w' := by
  intro d
  induction d with
  | zero => intro a b fv gv w _ h; cases h
  | succ d ih =>
    intro a b fv gv w hgb hra hrb hta htb
    have IH := Lib.hid ih
    have RA := Lib.hid (Fm.rt_iff.1 hra)
    have RB := Lib.hid (Fm.rt_iff.1 hrb)
    obtain ⟨fa, fc, rfl, hfl, hfc⟩ := hta.cells
    obtain ⟨ga, gc, rfl, hgl, hgc⟩ := htb.cells
    have HFC : Hid (FdC w fa a.fs) := hfc
    have HGC : Hid (FdC w ga b.fs) := hgc
    have n1 := nw_alloc w (.cells #[.int .i64 a.kind, .slice fa a.fs.length fc] tTy)
    have n2 := nw_alloc (w.alloc (.cells #[.int .i64 a.kind, .slice fa a.fs.length fc] tTy)) (.cells #[.int .i64 b.kind, .slice ga b.fs.length gc] tTy)
    have b1 := n2.keep (heap_new w (.cells #[.int .i64 a.kind, .slice fa a.fs.length fc] tTy))
    have b2 := heap_new (w.alloc (.cells #[.int .i64 a.kind, .slice fa a.fs.length fc] tTy)) (.cells #[.int .i64 b.kind, .slice ga b.fs.length gc] tTy)
    rw [World.size_alloc] at b2
    have hN := n1.trans n2
    obtain ⟨W, hW⟩ : ∃ W, W = (w.alloc (.cells #[.int .i64 a.kind, .slice fa a.fs.length fc] tTy)).alloc (.cells #[.int .i64 b.kind, .slice ga b.fs.length gc] tTy) := ⟨_, rfl⟩
    rw [← hW] at hN b1 b2
    have HN := Lib.hid hN
    have HW := Lib.hid hW
    have HGB : Hid (nG ≤ W.heap.size) := Nat.le_trans hgb hN.size
    have HC0 : Hid (∀ y, Nw W y → y.cell? ⟨w.heap.size, 0, none⟩ = some (.int .i64 a.kind) ∧ y.cell? ⟨w.heap.size, 1, none⟩ = some (.slice fa a.fs.length fc) ∧ y.cell? ⟨w.heap.size + 1, 0, none⟩ = some (.int .i64 b.kind) ∧ y.cell? ⟨w.heap.size + 1, 1, none⟩ = some (.slice ga b.fs.length gc)) := fun y u => ⟨by rw [cells_cell (Nw.keep u b1)]; rfl, by rw [cells_cell (Nw.keep u b1)]; rfl, by rw [cells_cell (Nw.keep u b2)]; rfl, by rw [cells_cell (Nw.keep u b2)]; rfl⟩
    obtain ⟨x0, x1, x2, x3⟩ := HC0.out W (Upd.refl _ _)
    have hgl1 : (b.fs.length : Int) ≤ 8 := by have := RB.out.len; omega
    have HAL : Hid (a.fs.length ≤ 8) := RA.out.len
    clear ih hra hrb hta htb hfc hgc n1 n2 b1 b2 hN hW hgb hfl hgl
    go_enter Tryz.func74, Tryz.ntmps74
    go_upto_region 1 with fail
    rw [← HW.out]
    clear HW
    by_cases hk : a.kind = b.kind
    rotate_left
    · have e0 : (a.kind == b.kind) = false := by simp [hk]
      have e9 : Hid (Fm.sub (d + 1) a b = false) := by
        show (decide (a.kind = b.kind) && _) = _
        rw [decide_eq_false hk]; rfl
      clear hk HFC HGC
      go_wp2_with fail
      go_ret
      exact ⟨by rw [e9.out]; rfl, HN.out⟩
    have e0 : (a.kind == b.kind) = true := by simp [hk]
    have e01 : (a.kind != b.kind) = false := by simp [hk]
    have e9 := Lib.hid (sub_all (d := d) hk)
    clear hk
    go_wp2_with fail
    clear x0 x1 x2 x3
    go_loopw [5] (fun iv wr => ∃ n : Nat, n ≤ b.fs.length ∧ iv = .int .i64 (n : Int) ∧ Hid (∀ i (h : i < b.fs.length), i < n → subF d a (b.fs[i]) = true) ∧ Hid (Nw W wr)) (fun iv _ => b.fs.length - (intOf iv).toNat)
    case atStart => exact ⟨0, Nat.zero_le _, rfl, (fun i h h2 => by omega), Upd.refl _ _⟩
    case round =>
      obtain ⟨n, hn, rfl, hA, hw⟩ := hrel
      obtain ⟨x0, x1, x2, x3⟩ := HC0.out wr hw.out
      by_cases hlt : n < b.fs.length
      · have hlt1 : (n : Int) < b.fs.length := by omega
        have hn9 : (n : Int) ≤ 8 := by omega
        have hn0 : decide ((n : Int) < 0) = false := decide_eq_false (by omega)
        rcases HGC.out with hnil | ⟨gb, off, rfl, hb, hcell⟩
        · rw [hnil] at hlt; simp at hlt
        obtain ⟨sv, p0, p1, p2, hty, hsl⟩ := hcell n hlt
        obtain ⟨sa, sc, hsv, -⟩ := hty.cells
        subst hsv
        have y0 := nw_cellF (HN.out.trans hw.out) p0
        have HP : Hid (∀ z, Nw wr z → z.cell? ⟨gb, off + n * 3 + 1, none⟩ = some (.int .i64 (b.fs[n]).2.kind) ∧ z.cell? ⟨gb, off + n * 3 + 2, none⟩ = some (.slice sa (b.fs[n]).2.fs.length sc)) := fun z u => ⟨nw_cellF ((HN.out.trans hw.out).trans u) p1, nw_cellF ((HN.out.trans hw.out).trans u) p2⟩
        have HTF := Lib.hid (hty.nw (HN.out.trans hw.out))
        have HRF := Lib.hid (RB.out.sub _ (List.getElem_mem hlt))
        have hnx : Hid (subF d a (b.fs[n]) = true → ∀ i (h : i < b.fs.length), i < n + 1 → subF d a (b.fs[i]) = true) := fun e i h h2 => by
          by_cases ei : i = n
          · subst ei; exact e
          · exact hA.out i h (by omega)
        have hst : Hid (subF d a (b.fs[n]) = false → Fm.sub (d + 1) a b = false) := fun e => by
          rw [e9.out]
          exact List.all_eq_false.2 ⟨_, List.getElem_mem hlt, by rw [e]; simp⟩
        clear hcell p0 p1 p2 hty hsl
        have hsf : subF d a (b.fs[n]) = match Fm.lookup a.fs (b.fs[n]).1 with | none => false | some t => Fm.sub d t (b.fs[n]).2 := rfl
        rw [hsf] at hnx hst
        clear hsf
        generalize (b.fs[n]).1 = s at *
        generalize (b.fs[n]).2 = ft at *
        have HSR : Hid (∀ t, Fm.lookup a.fs s = some t → rightTy d t = true) := fun t ht => RA.out.sub _ (Fm.lookup_mem ht)
        have hlk : Hid (∀ y, Nw wr y → Calls Tryz.prog 100 #[.slice fa a.fs.length fc, .string ⟨s.toArray⟩] y (Fd16 w a.fs s y)) := fun y u => field16_r fa fc a.fs s w y ((HN.out.trans hw.out).trans u) (Nat.le_trans HGB.out (hw.out.trans u).size) HFC.out HAL.out
        have HGR : Hid (nG ≤ wr.heap.size) := Nat.le_trans HGB.out hw.out.size
        have HS : Hid (∀ y, Nw wr y → y.cell? ⟨w.heap.size, 1, none⟩ = some (.slice fa a.fs.length fc) ∧ y.cell? ⟨w.heap.size + 1, 1, none⟩ = some (.slice (some ⟨gb, off, none⟩) b.fs.length gc) ∧ y.cell? ⟨gb, off + n * 3, none⟩ = some (.string ⟨s.toArray⟩) ∧ True) := fun y u => ⟨(HC0.out y (hw.out.trans u)).2.1, (HC0.out y (hw.out.trans u)).2.2.2, nw_cellF u y0, trivial⟩
        go_upto_region 6 with fail
        clear x0 x1 x2 x3 y0
        go_cut [6, 7] from 21 to 32 (fun a6 a7 wx => ∃ (bx : Nat) (k : Int) (xa : Option Addr) (xl xc : Nat) (bb : Bool), a6 = .pointer (some ⟨bx, 0, none⟩) ∧ a7 = .bool bb ∧ Hid (bb = (Fm.lookup a.fs s).isSome ∧ (∀ t, Fm.lookup a.fs s = some t → k = t.kind ∧ TyAt w (.slice xa xl xc) t) ∧ Nw wr wx ∧ wx.heap[bx]? = some (.cells #[.int .i64 k, .slice xa xl xc] tTy (0, 0))))
        case first =>
          have HS0 := Lib.hid (HS.out _ (Upd.refl _ wr).drew)
          refine wp_region_G (fun y => y.cell? ⟨w.heap.size, 1, none⟩ = some (.slice fa a.fs.length fc) ∧ y.cell? ⟨w.heap.size + 1, 1, none⟩ = some (.slice (some ⟨gb, off, none⟩) b.fs.length gc) ∧ y.cell? ⟨gb, off + n * 3, none⟩ = some (.string ⟨s.toArray⟩) ∧ True) 13 (by kernel_rfl) ?_
          refine wpAnyG_pure (i := 0) (v := ?_) rfl (by kernel_rfl) (by kernel_rfl) (by kernel_rfl) (by kernel_rfl) (by kernel_rfl) (fun _ _ _ h => h) (by kernel_rfl) ?_ (fun _ => HS0.out) ?_
          rotate_left 1
          · (intro zz; go_simp; first | done | with_reducible rfl)
          (try simp only [Act.put, List.setIfInBounds_toArray, List.set_cons_zero, List.set_cons_succ])
          refine wpAnyG_pure (i := 2) (v := ?_) rfl (by kernel_rfl) (by kernel_rfl) (by kernel_rfl) (by kernel_rfl) (by kernel_rfl) (fun _ _ _ h => h) (by kernel_rfl) ?_ (fun _ => HS0.out) ?_
          rotate_left 1
          · (intro zz; go_simp; first | done | with_reducible rfl)
          (try simp only [Act.put, List.setIfInBounds_toArray, List.set_cons_zero, List.set_cons_succ])
          refine wpAnyG_pure (i := 4) (v := ?_) rfl (by kernel_rfl) (by kernel_rfl) (by kernel_rfl) (by kernel_rfl) (by kernel_rfl) (fun _ _ _ h => h) (by kernel_rfl) ?_ (fun _ => HS0.out) ?_
          rotate_left 1
          · (intro zz; go_simp; first | done | with_reducible rfl)
          (try simp only [Act.put, List.setIfInBounds_toArray, List.set_cons_zero, List.set_cons_succ])
          refine wpAnyG_load (i := 1) (v := ?_) [] rfl (by kernel_rfl) (by kernel_rfl) (by kernel_rfl) (by kernel_rfl) (by kernel_rfl) (by kernel_rfl) (fun _ _ _ h => h) (by kernel_rfl) ?_ (fun _ => HS0.out) ?_
          rotate_left 1
          · (intro zz hS; obtain ⟨_, _, _, _⟩ := hS; go_simp; first | done | with_reducible rfl)
          (try simp only [Act.put, List.setIfInBounds_toArray, List.set_cons_zero, List.set_cons_succ])
          refine wpAnyG_load (i := 3) (v := ?_) [] rfl (by kernel_rfl) (by kernel_rfl) (by kernel_rfl) (by kernel_rfl) (by kernel_rfl) (by kernel_rfl) (fun _ _ _ h => h) (by kernel_rfl) ?_ (fun _ => HS0.out) ?_
          rotate_left 1
          · (intro zz hS; obtain ⟨_, _, _, _⟩ := hS; go_simp; first | done | with_reducible rfl)
          (try simp only [Act.put, List.setIfInBounds_toArray, List.set_cons_zero, List.set_cons_succ])
          refine wpAnyG_pure (i := 5) (v := ?_) rfl (by kernel_rfl) (by kernel_rfl) (by kernel_rfl) (by kernel_rfl) (by kernel_rfl) (fun _ _ _ h => h) (by kernel_rfl) ?_ (fun _ => HS0.out) ?_
          rotate_left 1
          · (intro zz; go_simp; first | done | with_reducible rfl)
          (try simp only [Act.put, List.setIfInBounds_toArray, List.set_cons_zero, List.set_cons_succ])
          refine wpAnyG_pure (i := 6) (v := ?_) rfl (by kernel_rfl) (by kernel_rfl) (by kernel_rfl) (by kernel_rfl) (by kernel_rfl) (fun _ _ _ h => h) (by kernel_rfl) ?_ (fun _ => HS0.out) ?_
          rotate_left 1
          · (intro zz; go_simp; first | done | with_reducible rfl)
          (try simp only [Act.put, List.setIfInBounds_toArray, List.set_cons_zero, List.set_cons_succ])
          refine wpAnyG_load (i := 7) (v := ?_) [] rfl (by kernel_rfl) (by kernel_rfl) (by kernel_rfl) (by kernel_rfl) (by kernel_rfl) (by kernel_rfl) (fun _ _ _ h => h) (by kernel_rfl) ?_ (fun _ => HS0.out) ?_
          rotate_left 1
          · (intro zz hS; obtain ⟨_, _, _, _⟩ := hS; go_simp; first | done | with_reducible rfl)
          (try simp only [Act.put, List.setIfInBounds_toArray, List.set_cons_zero, List.set_cons_succ])
          refine wpAnyG_ready [8, 12] (by kernel_rfl) (by simp) ?_
          refine AllG.cons rfl (fun K hK => ?_) (AllG.cons rfl (fun K hK => ?_) AllG.nil)
          · have hd0 : Nw wr wr.drew := (Upd.refl _ wr).drew
            have hCC := hlk.out wr.drew hd0
            go_simp
            (with_reducible refine (hCC).mono ?_)
            rintro _ w1 ⟨k, xa, xl, xc, bb, rfl, HP1⟩
            clear hCC
            have HU1 := Lib.hid (Nw.trans hd0 HP1.out.2.2)
            refine hK.out _ _ (fun _ => HS.out _ HU1.out) ?_
            clear hK K
            (try simp only [Act.put, List.setIfInBounds_toArray, List.set_cons_zero, List.set_cons_succ])
            have HS1 := Lib.hid (HS.out _ HU1.out)
            refine wpAnyG_pure (i := 9) (v := ?_) rfl (by kernel_rfl) (by kernel_rfl) (by kernel_rfl) (by kernel_rfl) (by kernel_rfl) (fun _ _ _ h => h) (by kernel_rfl) ?_ (fun _ => HS1.out) ?_
            rotate_left 1
            · (intro zz; go_simp; first | done | with_reducible rfl)
            (try simp only [Act.put, List.setIfInBounds_toArray, List.set_cons_zero, List.set_cons_succ])
            refine wpAnyG_pure (i := 10) (v := ?_) rfl (by kernel_rfl) (by kernel_rfl) (by kernel_rfl) (by kernel_rfl) (by kernel_rfl) (fun _ _ _ h => h) (by kernel_rfl) ?_ (fun _ => HS1.out) ?_
            rotate_left 1
            · (intro zz; go_simp; first | done | with_reducible rfl)
            (try simp only [Act.put, List.setIfInBounds_toArray, List.set_cons_zero, List.set_cons_succ])
            refine wpAnyG_pure (i := 11) (v := ?_) rfl (by kernel_rfl) (by kernel_rfl) (by kernel_rfl) (by kernel_rfl) (by kernel_rfl) (fun _ _ _ h => h) (by kernel_rfl) ?_ (fun _ => HS1.out) ?_
            rotate_left 1
            · (intro zz; go_simp; first | done | with_reducible rfl)
            (try simp only [Act.put, List.setIfInBounds_toArray, List.set_cons_zero, List.set_cons_succ])
            refine wpAnyG_ready [12] (by kernel_rfl) (by simp) ?_
            refine AllG.cons rfl (fun K hK => ?_) AllG.nil
            have n3 := nw_alloc w1 (.cells #[.int .i64 0, .slice none 0 0] tTy)
            have b3 := heap_new w1 (.cells #[.int .i64 0, .slice none 0 0] tTy)
            obtain ⟨w2, hw2⟩ : ∃ y, y = w1.alloc (.cells #[.int .i64 0, .slice none 0 0] tTy) := ⟨_, rfl⟩
            rw [← hw2] at n3 b3
            have HW2 := Lib.hid hw2
            go_simp
            rw [← HW2.out]
            refine hK.out _ _ (fun _ => HS.out _ (HU1.out.trans n3)) ?_
            clear hK K
            (try simp only [Act.put, List.setIfInBounds_toArray, List.set_cons_zero, List.set_cons_succ])
            obtain ⟨bx, hbx⟩ : ∃ q, q = w1.heap.size := ⟨_, rfl⟩
            rw [← hbx] at b3
            have HQB := Lib.hid b3
            have HUA := Lib.hid (HU1.out.trans n3)
            have HLA : Hid (wr.heap.size ≤ bx) := by
              have := HU1.out.size
              have h2 : wr.drew.heap.size = wr.heap.size := rfl
              show _ ≤ _; omega
            rw [← hbx]
            clear hbx b3 n3 hw2
            -- behind the call and the alloc: the world w2, the box bx (HQB: its cells; HUA: the step from wr)
            have c0 : (w2).cell? ⟨bx, 0, none⟩ = some (.int .i64 0) := by rw [cells_cell HQB.out]; rfl
            have c1 : (w2).cell? ⟨bx, 1, none⟩ = some (.slice none 0 0) := by rw [cells_cell HQB.out]; rfl
            have f0 := cells_frozen HQB.out 0
            have f1 := cells_frozen HQB.out 1
            refine wpAnyG_ready [13] (by kernel_rfl) (by simp) ?_
            refine AllG.cons rfl (fun K hK => ?_) AllG.nil
            go_simp
            refine hK.out _ _ (fun e => absurd (show true = false from e) (by decide)) ?_
            clear hK K
            (try simp only [Act.put, List.setIfInBounds_toArray, List.set_cons_zero, List.set_cons_succ])
            refine wpAnyG_ready [14] (by kernel_rfl) (by simp) ?_
            refine AllG.cons rfl (fun K hK => ?_) AllG.nil
            go_simp
            refine hK.out _ _ (fun e => absurd (show true = false from e) (by decide)) ?_
            clear hK K
            (try simp only [Act.put, List.setIfInBounds_toArray, List.set_cons_zero, List.set_cons_succ])
            refine wpAnyG_done (by kernel_rfl) ?_ _
            go_wp2_with fail
            go_meet
            have hb9 := setCell_block (setCell_block HQB.out 0 (.int .i64 k)) 1 (.slice xa xl xc)
            have hqg : nG ≤ bx := by have := HLA.out; have := HGR.out; omega
            have hu9 := Upd.set1 (Upd.set1 (Upd.refl _ (w2)) hqg 0 (.int .i64 k)) hqg 1 (.slice xa xl xc)
            have hnw := HUA.out.trans' hu9 (fun k hk e => by have := HLA.out; omega)
            exact ⟨bx, k, xa, xl, xc, bb, rfl, rfl, HP1.out.1, HP1.out.2.1, hnw, hb9⟩
          · have n3 := (nw_alloc wr (.cells #[.int .i64 0, .slice none 0 0] tTy)).drew
            have b3 := Nw.keep (Upd.refl (fun _ => False) _).drew (heap_new wr (.cells #[.int .i64 0, .slice none 0 0] tTy))
            obtain ⟨w2, hw2⟩ : ∃ y, y = (wr.alloc (.cells #[.int .i64 0, .slice none 0 0] tTy)).drew := ⟨_, rfl⟩
            rw [← hw2] at n3 b3
            have HW2 := Lib.hid hw2
            have HU1 := Lib.hid n3
            clear hw2
            go_simp
            rw [← HW2.out]
            refine hK.out _ _ (fun _ => HS.out _ HU1.out) ?_
            clear hK K
            (try simp only [Act.put, List.setIfInBounds_toArray, List.set_cons_zero, List.set_cons_succ])
            refine wpAnyG_ready [8] (by kernel_rfl) (by simp) ?_
            refine AllG.cons rfl (fun K hK => ?_) AllG.nil
            have hCC := hlk.out w2 HU1.out
            go_simp
            (with_reducible refine (hCC).mono ?_)
            rintro _ w4 ⟨k, xa, xl, xc, bb, rfl, HP1⟩
            clear hCC
            have HUA := Lib.hid (HU1.out.trans HP1.out.2.2)
            refine hK.out _ _ (fun _ => HS.out _ HUA.out) ?_
            clear hK K
            (try simp only [Act.put, List.setIfInBounds_toArray, List.set_cons_zero, List.set_cons_succ])
            have HS1 := Lib.hid (HS.out _ HUA.out)
            refine wpAnyG_pure (i := 9) (v := ?_) rfl (by kernel_rfl) (by kernel_rfl) (by kernel_rfl) (by kernel_rfl) (by kernel_rfl) (fun _ _ _ h => h) (by kernel_rfl) ?_ (fun _ => HS1.out) ?_
            rotate_left 1
            · (intro zz; go_simp; first | done | with_reducible rfl)
            (try simp only [Act.put, List.setIfInBounds_toArray, List.set_cons_zero, List.set_cons_succ])
            refine wpAnyG_pure (i := 10) (v := ?_) rfl (by kernel_rfl) (by kernel_rfl) (by kernel_rfl) (by kernel_rfl) (by kernel_rfl) (fun _ _ _ h => h) (by kernel_rfl) ?_ (fun _ => HS1.out) ?_
            rotate_left 1
            · (intro zz; go_simp; first | done | with_reducible rfl)
            (try simp only [Act.put, List.setIfInBounds_toArray, List.set_cons_zero, List.set_cons_succ])
            refine wpAnyG_pure (i := 11) (v := ?_) rfl (by kernel_rfl) (by kernel_rfl) (by kernel_rfl) (by kernel_rfl) (by kernel_rfl) (fun _ _ _ h => h) (by kernel_rfl) ?_ (fun _ => HS1.out) ?_
            rotate_left 1
            · (intro zz; go_simp; first | done | with_reducible rfl)
            (try simp only [Act.put, List.setIfInBounds_toArray, List.set_cons_zero, List.set_cons_succ])
            obtain ⟨bx, hbx⟩ : ∃ q, q = wr.heap.size := ⟨_, rfl⟩
            have b4 := Nw.keep HP1.out.2.2 b3
            rw [← hbx] at b4
            have HQB := Lib.hid b4
            have HLA : Hid (wr.heap.size ≤ bx) := by show _ ≤ _; omega
            rw [← hbx]
            clear hbx b3 n3 b4
            -- behind the call and the alloc: the world w4, the box bx (HQB: its cells; HUA: the step from wr)
            have c0 : (w4).cell? ⟨bx, 0, none⟩ = some (.int .i64 0) := by rw [cells_cell HQB.out]; rfl
            have c1 : (w4).cell? ⟨bx, 1, none⟩ = some (.slice none 0 0) := by rw [cells_cell HQB.out]; rfl
            have f0 := cells_frozen HQB.out 0
            have f1 := cells_frozen HQB.out 1
            refine wpAnyG_ready [13] (by kernel_rfl) (by simp) ?_
            refine AllG.cons rfl (fun K hK => ?_) AllG.nil
            go_simp
            refine hK.out _ _ (fun e => absurd (show true = false from e) (by decide)) ?_
            clear hK K
            (try simp only [Act.put, List.setIfInBounds_toArray, List.set_cons_zero, List.set_cons_succ])
            refine wpAnyG_ready [14] (by kernel_rfl) (by simp) ?_
            refine AllG.cons rfl (fun K hK => ?_) AllG.nil
            go_simp
            refine hK.out _ _ (fun e => absurd (show true = false from e) (by decide)) ?_
            clear hK K
            (try simp only [Act.put, List.setIfInBounds_toArray, List.set_cons_zero, List.set_cons_succ])
            refine wpAnyG_done (by kernel_rfl) ?_ _
            go_wp2_with fail
            go_meet
            have hb9 := setCell_block (setCell_block HQB.out 0 (.int .i64 k)) 1 (.slice xa xl xc)
            have hqg : nG ≤ bx := by have := HLA.out; have := HGR.out; omega
            have hu9 := Upd.set1 (Upd.set1 (Upd.refl _ (w4)) hqg 0 (.int .i64 k)) hqg 1 (.slice xa xl xc)
            have hnw := HUA.out.trans' hu9 (fun k hk e => by have := HLA.out; omega)
            exact ⟨bx, k, xa, xl, xc, bb, rfl, rfl, HP1.out.1, HP1.out.2.1, hnw, hb9⟩
        obtain ⟨bx, k, xa, xl, xc, bb, rfl, rfl, HQ⟩ := hcut
        obtain ⟨z2, rfl⟩ : ∃ z, z = wc := ⟨_, rfl⟩
        have hUz := HQ.out.2.2.1
        have b2 := HQ.out.2.2.2
        have HUz := Lib.hid hUz
        have d0 : z2.cell? ⟨bx, 0, none⟩ = some (.int .i64 k) := by rw [cells_cell b2]; rfl
        have d1 : z2.cell? ⟨bx, 1, none⟩ = some (.slice xa xl xc) := by rw [cells_cell b2]; rfl
        obtain ⟨y1, y2⟩ := HP.out z2 HUz.out
        have hU2 := Lib.hid (hw.out.trans HUz.out)
        obtain ⟨x0, x1, x2, x3⟩ := HC0.out z2 hU2.out
        clear b2 hUz hlk
        cases hl : Fm.lookup a.fs s with
        | none =>
          have hbb : bb = false := by rw [HQ.out.1, hl]; rfl
          subst hbb
          have e8 := Lib.hid (hst.out (by rw [hl]))
          clear hnx hst hl
          go_wp2_with fail
          go_ret
          exact ⟨by rw [e8.out]; rfl, HN.out.trans hU2.out⟩
        | some t =>
          have hbb : bb = true := by rw [HQ.out.1, hl]; rfl
          subst hbb
          obtain ⟨hkt, htt⟩ := HQ.out.2.1 t hl
          subst hkt
          have hbl := Lib.hid (fun (z : World) (uz : Nw z2 z) => IH.out t ft _ _ z (Nat.le_trans HGB.out (hU2.out.trans uz).size) (HSR.out t hl) HRF.out (htt.nw (HN.out.trans (hU2.out.trans uz))) (HTF.out.nw (HUz.out.trans uz)))
          have e1 : ∀ j : Later z2, j.1.cell? ⟨bx, 0, none⟩ = some (.int .i64 t.kind) := fun j => nw_cellF j.nw d0
          have e2 : ∀ j : Later z2, j.1.cell? ⟨bx, 1, none⟩ = some (.slice xa xl xc) := fun j => nw_cellF j.nw d1
          have e3 : ∀ j : Later z2, j.1.cell? ⟨w.heap.size + 1, 1, none⟩ = some (.slice (some ⟨gb, off, none⟩) b.fs.length gc) := fun j => nw_cellF j.nw x3
          have e4 : ∀ j : Later z2, j.1.cell? ⟨gb, off + n * 3 + 1, none⟩ = some (.int .i64 ft.kind) := fun j => nw_cellF j.nw y1
          have e5 : ∀ j : Later z2, j.1.cell? ⟨gb, off + n * 3 + 2, none⟩ = some (.slice sa ft.fs.length sc) := fun j => nw_cellF j.nw y2
          have e6 : True := trivial
          clear d0 d1 y1 y2 x0 x1 x2 x3
          rw [hl] at hnx hst
          clear hl htt HQ HSR
          cases hr : Fm.sub d t ft with
          | true =>
            rw [hr] at hbl
            have hB := Lib.hid (hnx.out hr)
            clear hnx hst hr
            go_wp2_with fail
            refine wp_region_nw (by kernel_rfl) (by kernel_rfl) ?_
            repeat (go_big_quiet_step ((go_at_call 74; exact later_call (hbl.out _ (Later.nw _)))))
            refine wpQuiet_nil ?_
            intro z3 u3
            replace u3 := later_out u3
            have U3 := Lib.hid (hU2.out.trans u3)
            clear u3 e1 e2 e3 e4 e5 e6
            go_wp2_with fail
            go_roundw
            case rel => exact ⟨n + 1, by omega, by go_num, hB.out, U3.out⟩
            case measure => simp [intOf]; omega
          | false =>
            rw [hr] at hbl
            have e8 := Lib.hid (hst.out hr)
            clear hnx hst hr
            go_wp2_with fail
            refine wp_region_nw (by kernel_rfl) (by kernel_rfl) ?_
            repeat (go_big_quiet_step ((go_at_call 74; exact later_call (hbl.out _ (Later.nw _)))))
            refine wpQuiet_nil ?_
            intro z3 u3
            replace u3 := later_out u3
            have U3 := Lib.hid (hU2.out.trans u3)
            clear u3 e1 e2 e3 e4 e5 e6
            go_wp2_with fail
            go_ret
            exact ⟨by rw [e8.out]; rfl, HN.out.trans U3.out⟩
      · obtain rfl : n = b.fs.length := by omega
        have e8 : Hid (Fm.sub (d + 1) a b = true) := by
          show _ = _
          rw [e9.out]
          exact List.all_eq_true.2 (fun x hx => by obtain ⟨i, hi, rfl⟩ := List.mem_iff_getElem.1 hx; exact hA.out i hi hi)
        go_wp2_with fail
        go_ret
        exact ⟨by rw [e8.out]; rfl, HN.out.trans hw.out⟩
set_option maxHeartbeats 4000000 in
set_option maxRecDepth 100000 in
theorem Sub16_r (fv gv : Value) (ta tb : Ty) (w : World) (hgb : nG ≤ w.heap.size) (ha : TyAt w fv ta) (hb : TyAt w gv tb) :
    Calls Tryz.prog 55 #[.agg #[.int .i64 ta.kind, fv], .agg #[.int .i64 tb.kind, gv]] w fun e w' => e = .returned (.bool (fReads ta tb)) ∧ Nw w w' := by
  obtain ⟨fa, fc, rfl, -, -⟩ := ha.cells
  obtain ⟨ga, gc, rfl, -, -⟩ := hb.cells
  have n1 := nw_alloc w (.cells #[.int .i64 ta.kind, .slice fa ta.fs.length fc] tTy)
  have n2 := nw_alloc (w.alloc (.cells #[.int .i64 ta.kind, .slice fa ta.fs.length fc] tTy)) (.cells #[.int .i64 tb.kind, .slice ga tb.fs.length gc] tTy)
  have b1 := n2.keep (heap_new w (.cells #[.int .i64 ta.kind, .slice fa ta.fs.length fc] tTy))
  have b2 := heap_new (w.alloc (.cells #[.int .i64 ta.kind, .slice fa ta.fs.length fc] tTy)) (.cells #[.int .i64 tb.kind, .slice ga tb.fs.length gc] tTy)
  rw [World.size_alloc] at b2
  have hN := n1.trans n2
  obtain ⟨W0, hW⟩ : ∃ W, W = (w.alloc (.cells #[.int .i64 ta.kind, .slice fa ta.fs.length fc] tTy)).alloc (.cells #[.int .i64 tb.kind, .slice ga tb.fs.length gc] tTy) := ⟨_, rfl⟩
  rw [← hW] at hN b1 b2
  have HN := Lib.hid hN
  have HW := Lib.hid hW
  have HC0 : Hid (∀ y, Nw W0 y → y.cell? ⟨w.heap.size, 0, none⟩ = some (.int .i64 ta.kind) ∧ y.cell? ⟨w.heap.size, 1, none⟩ = some (.slice fa ta.fs.length fc) ∧ y.cell? ⟨w.heap.size + 1, 0, none⟩ = some (.int .i64 tb.kind) ∧ y.cell? ⟨w.heap.size + 1, 1, none⟩ = some (.slice ga tb.fs.length gc)) := fun y u => ⟨by rw [cells_cell (Nw.keep u b1)]; rfl, by rw [cells_cell (Nw.keep u b1)]; rfl, by rw [cells_cell (Nw.keep u b2)]; rfl, by rw [cells_cell (Nw.keep u b2)]; rfl⟩
  have HG : Hid (nG ≤ W0.heap.size) := Nat.le_trans hgb hN.size
  have HTA := Lib.hid (ha.nw hN)
  have HTB := Lib.hid (hb.nw hN)
  have hr1 := Lib.hid (tyRight_r _ ta W0 HG.out HTA.out)
  obtain ⟨x0, x1, x2, x3⟩ := HC0.out W0 (Upd.refl _ _)
  clear n1 n2 b1 b2 hN hW ha hb hgb
  go_enter Tryz.func55, Tryz.ntmps55
  go_upto_region 1 with fail
  rw [← HW.out]
  clear HW
  go_wp2_with fail
  cases h1 : rightTy 4 ta with
  | false =>
    rw [h1] at hr1
    have e9 : Hid (fReads ta tb = false) := by show _ = _; unfold fReads; rw [h1]; rfl
    (with_reducible refine (hr1.out).mono ?_)
    rintro _ w2 ⟨rfl, u2⟩
    have U2 := Lib.hid u2
    clear u2 x0 x1 x2 x3
    go_wp2_with fail
    go_ret
    exact ⟨by rw [e9.out]; rfl, HN.out.trans U2.out⟩
  | true =>
  rw [h1] at hr1
  (with_reducible refine (hr1.out).mono ?_)
  rintro _ w2 ⟨rfl, u2⟩
  have hr2 := Lib.hid (tyRight_r _ tb w2 (Nat.le_trans HG.out u2.size) (HTB.out.nw u2))
  have U2 := Lib.hid u2
  clear x0 x1 x2 x3 hr1
  obtain ⟨x0, x1, x2, x3⟩ := HC0.out w2 u2
  clear u2
  cases h2 : rightTy 4 tb with
  | false =>
    rw [h2] at hr2
    have e9 : Hid (fReads ta tb = false) := by show _ = _; unfold fReads; rw [h2]; simp
    go_wp2_with fail
    (with_reducible refine (hr2.out).mono ?_)
    rintro _ w3 ⟨rfl, u3⟩
    have U3 := Lib.hid (U2.out.trans u3)
    clear u3 x0 x1 x2 x3
    go_wp2_with fail
    go_ret
    exact ⟨by rw [e9.out]; rfl, HN.out.trans U3.out⟩
  | true =>
  rw [h2] at hr2
  go_wp2_with fail
  (with_reducible refine (hr2.out).mono ?_)
  rintro _ w3 ⟨rfl, u3⟩
  have hbl := Lib.hid (sub_r 4 ta tb _ _ w3 (Nat.le_trans HG.out (U2.out.trans u3).size) h1 h2 (HTA.out.nw (U2.out.trans u3)) (HTB.out.nw (U2.out.trans u3)))
  have U3 := Lib.hid (U2.out.trans u3)
  have e9 : Hid (fReads ta tb = Fm.sub 4 ta tb) := by show _ = _; unfold fReads; rw [h1, h2]; rfl
  clear x0 x1 x2 x3 hr2 u3 h1 h2
  obtain ⟨x0, x1, x2, x3⟩ := HC0.out w3 U3.out
  go_wp2_with fail
  (with_reducible refine (hbl.out).mono ?_)
  rintro _ w4 ⟨rfl, u4⟩
  have U4 := Lib.hid (U3.out.trans u4)
  clear u4 x0 x1 x2 x3
  go_wp2_with fail
  go_ret
  exact ⟨by rw [e9.out]; rfl, HN.out.trans U4.out⟩
end Go.Proofs.YtjlgmoemnhmgmaaGreatDoor
namespace Go.Proofs.YtjlgmoemnhmgmaaGreatDoor
open Go.RowKit Go.MapKept
set_option linter.unusedVariables false
set_option linter.unusedSimpArgs false
attribute [local irreducible] Calls
open Fm (Ty Vl Str nameB rightTy rightVl)

set_option maxRecDepth 100000 in
theorem Reads43_r (fv gv : Value) (ta tb : Ty) (w : World) (g : Gl w) (ha : TyAt w fv ta) (hb : TyAt w gv tb) :
    Calls Tryz.prog 33 #[.agg #[.int .i64 ta.kind, fv], .agg #[.int .i64 tb.kind, gv]] w fun e w' => e = .returned (.bool (fReads ta tb)) ∧ Nw w w' := by
  obtain ⟨fa, fc, rfl, -, -⟩ := ha.cells
  obtain ⟨ga, gc, rfl, -, -⟩ := hb.cells
  have n1 := nw_alloc w (.cells #[.int .i64 ta.kind, .slice fa ta.fs.length fc] tTy)
  have n2 := nw_alloc (w.alloc (.cells #[.int .i64 ta.kind, .slice fa ta.fs.length fc] tTy)) (.cells #[.int .i64 tb.kind, .slice ga tb.fs.length gc] tTy)
  have b1 := n2.keep (heap_new w (.cells #[.int .i64 ta.kind, .slice fa ta.fs.length fc] tTy))
  have b2 := heap_new (w.alloc (.cells #[.int .i64 ta.kind, .slice fa ta.fs.length fc] tTy)) (.cells #[.int .i64 tb.kind, .slice ga tb.fs.length gc] tTy)
  rw [World.size_alloc] at b2
  have hN := n1.trans n2
  obtain ⟨W0, hW⟩ : ∃ W, W = (w.alloc (.cells #[.int .i64 ta.kind, .slice fa ta.fs.length fc] tTy)).alloc (.cells #[.int .i64 tb.kind, .slice ga tb.fs.length gc] tTy) := ⟨_, rfl⟩
  rw [← hW] at hN b1 b2
  have HN := Lib.hid hN
  have HW := Lib.hid hW
  have x0 : W0.cell? ⟨w.heap.size, 0, none⟩ = some (.int .i64 ta.kind) := by rw [cells_cell b1]; rfl
  have x1 : W0.cell? ⟨w.heap.size, 1, none⟩ = some (.slice fa ta.fs.length fc) := by rw [cells_cell b1]; rfl
  have x2 : W0.cell? ⟨w.heap.size + 1, 0, none⟩ = some (.int .i64 tb.kind) := by rw [cells_cell b2]; rfl
  have x3 : W0.cell? ⟨w.heap.size + 1, 1, none⟩ = some (.slice ga tb.fs.length gc) := by rw [cells_cell b2]; rfl
  have hr1 := Lib.hid (Sub16_r _ _ ta tb W0 (g.upd hN).big (ha.nw hN) (hb.nw hN))
  clear n1 n2 b1 b2 hN hW g ha hb
  go_enter Tryz.func33, Tryz.ntmps33
  go_upto_region 1 with fail
  rw [← HW.out]
  clear HW
  go_wp2_with fail
  (with_reducible refine (hr1.out).mono ?_)
  rintro _ w2 ⟨rfl, u2⟩
  have U2 := Lib.hid (HN.out.trans u2)
  clear u2
  go_wp2_with fail
  go_ret
  exact ⟨rfl, U2.out⟩
end Go.Proofs.YtjlgmoemnhmgmaaGreatDoor
