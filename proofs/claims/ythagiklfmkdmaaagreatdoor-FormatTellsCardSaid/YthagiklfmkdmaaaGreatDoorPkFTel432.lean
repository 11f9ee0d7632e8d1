/- Right; slices.Index over strings; slices.ContainsFunc over fields and values with a function that captures one variable. Right values; a value has a type. A value has a type. eval.Right, state.Has. Appends in a region that draws its order: of cells of an own or a known slice, of zeros. A region that draws its order and both reads cells and, later, writes them: a load may be taken first though one of the region's last operations writes its cell, if that operation waits for the load. The condition on the world is asked only until that operation has come up. state.Zero. strings.Builder at this seat's numbers: WriteString (copyCheck first), String; a builder that the call has made itself. The contracts of the encoders of layer 1: Int, Num, Text, list[int], list[string], Nums, Texts. format.write. The reader of layer 1 in memory, and the contracts of its methods that only look at its string: fail, number, close, Num, Int, Text, Left, Done, Rest, Open. The contracts of the reader's methods Num, Int, Text, Left, Done, Rest, and of Open. Maps in memory that are stored into and deleted from, also while they are ranged over: what is in them is said by membership alone. format.entries, format.failed. format.read: its parts in plain words; operations that are not run in a drawn region. -/
import Derived.Test.YthagiklfmkdmaaaGreatDoorPkFTel431
import Derived.Test.YthagiklfmkdmaaaGreatDoorPkFTel430
import Derived.Lib.AppendZerosOnto
import Derived.Deep.RegionHeldLaw
import Derived.OrdersHeld
import Derived.StillTail
import Derived.Deep.AppendLies
import Derived.Deep.CutRange
namespace Go.Proofs.YthagiklfmkdmaaaGreatDoor
open Go.RowKit
set_option linter.unusedVariables false
set_option linter.unusedSimpArgs false
attribute [local irreducible] Calls
open Fm (Ty Vl Str nameB rightTy rightVl)

set_option maxRecDepth 100000 in
theorem types_right_c (fv : Value) (t : Ty) (w : World) (g : Gm w) (h : TyAt w fv t) : Calls Tryz.prog 47 #[.agg #[.int .i64 t.kind, fv]] w fun e w' => e = .returned (.bool (rightTy 4 t)) ∧ Nw w w' := by
  have n1 := nw_alloc w (.cells #[.int .i64 t.kind, fv] tTy)
  have hr : Hid (∀ y, Nw w y → Calls Tryz.prog 81 #[.agg #[.int .i64 t.kind, fv]] y fun e w' => e = .returned (.bool (rightTy 4 t)) ∧ Nw y w') := fun y u => by
    have n1 := nw_alloc y (.cells #[.int .i64 t.kind, fv] tTy)
    have hr : Hid (∀ z, Nw y z → Calls Tryz.prog 122 #[.agg #[.int .i64 t.kind, fv], .int .i64 4] z fun e w' => e = .returned (.bool (rightTy 4 t)) ∧ Nw z w') := fun z u2 => rightType_c 4 (by decide) fv t z (g.upd (u.trans u2)) (h.nw (u.trans u2))
    have HU := Lib.hid n1
    obtain ⟨a, cap, rfl, -⟩ := h.cells
    have hr1 := Lib.hid (hr.out _ n1)
    clear hr n1 h
    go_enter Tryz.func81, Tryz.ntmps81
    go_wp2_with fail
    (with_reducible refine (hr1.out).mono ?_)
    rintro _ w2 ⟨rfl, u2⟩
    have U2 := Lib.hid (HU.out.trans u2)
    clear u2
    go_wp2_with fail
    go_ret
    exact ⟨rfl, U2.out⟩
  have HU := Lib.hid n1
  have hr1 := Lib.hid (hr.out _ n1)
  obtain ⟨a, cap, rfl, -⟩ := h.cells
  clear hr n1 h
  go_enter Tryz.func47, Tryz.ntmps47
  go_wp2_with fail
  (with_reducible refine (hr1.out).mono ?_)
  rintro _ w2 ⟨rfl, u2⟩
  have U2 := Lib.hid (HU.out.trans u2)
  clear u2
  go_wp2_with fail
  go_ret
  exact ⟨rfl, U2.out⟩
/-- What the walk is told of a slice of strings. -/
abbrev StrC (w : World) (a : Option Addr) (l : List Str) : Prop := l = [] ∨ ∃ b off, a = some ⟨b, off, none⟩ ∧ b < w.heap.size ∧ ∀ i (h : i < l.length), w.cell? ⟨b, off + i, none⟩ = some (.string ⟨(l[i]).toArray⟩) ∧ (l[i]).length ≤ maxLen
set_option maxRecDepth 100000 in
theorem index_s (a : Option Addr) (cap : Nat) (l : List Str) (s : Str) (w : World) (h : StrC w a l) (hl : l.length ≤ maxLen) :
    Calls Tryz.prog 84 #[.slice a l.length cap, .string ⟨s.toArray⟩] w fun e w' => e = .returned (.int .i64 (Fm.idx s l)) ∧ w = w' := by
  have HC := Lib.hid h
  unfold maxLen at hl
  have hl1 : (l.length : Int) ≤ 9223372036854775807 := by omega
  clear h
  go_enter Tryz.func84, Tryz.ntmps84
  go_wp2_with fail
  go_loopw [8] (fun i wr => ∃ n : Nat, n ≤ l.length ∧ i = .int .i64 (n : Int) ∧ Hid (∀ j (h : j < l.length), j < n → (decide (l[j] = s)) = false) ∧ w = wr) (fun i _ => l.length - (intOf i).toNat)
  case atStart => exact ⟨0, Nat.zero_le _, rfl, fun j _ h => absurd h (Nat.not_lt_zero _), rfl⟩
  case round =>
    obtain ⟨n, hn, rfl, hall, rfl⟩ := hrel
    by_cases hlt : n < l.length
    · have hlt1 : (n : Int) < l.length := by omega
      rcases HC.out with hnil | ⟨b, off, rfl, _, hcell⟩
      · simp [hnil] at hlt
      have c0 := (hcell n hlt).1
      have hnext : l[n] ≠ s → Hid (∀ j (h : j < l.length), j < n + 1 → (decide (l[j] = s)) = false) := fun e j h hj => by
        by_cases ej : j = n
        · subst ej; exact decide_eq_false e
        · exact hall.out j h (by omega)
      have hstop : l[n] = s → Hid (Fm.idx s l = n) := fun e => idx_hit hlt (decide_eq_true e) hall.out
      clear hcell
      generalize l[n] = x at *
      by_cases he : x = s
      · have hr := hstop he
        clear hstop hnext
        subst he
        go_wp2_with fail
        go_ret
        rw [hr.out]
        exact ⟨rfl, rfl⟩
      · have hz := hnext he
        have htt : (s == x) = false := by simp; exact fun e => he e.symm
        clear hstop hnext he
        go_wp2_with fail
        go_roundw
        case rel => exact ⟨n + 1, by omega, by go_num, hz, by first | rfl | trivial⟩
        case measure => simp [intOf]; omega
    · obtain rfl : n = l.length := by omega
      have hr : Hid (Fm.idx s l = -1) := idx_miss (fun j h => hall.out j h h)
      clear hall
      go_wp2_with fail
      go_ret
      rw [hr.out]
      exact ⟨rfl, rfl⟩
/-- What the walk is told of the fields of a type. -/
abbrev FdC (w : World) (a : Option Addr) (l : List (Str × Ty)) : Prop := l = [] ∨ ∃ b off, a = some ⟨b, off, none⟩ ∧ b < w.heap.size ∧ ∀ i (h : i < l.length), ∃ sv, w.cell? ⟨b, off + i * 3, none⟩ = some (.string ⟨(l[i]).1.toArray⟩) ∧ w.cell? ⟨b, off + i * 3 + 1, none⟩ = some (.int .i64 (l[i]).2.kind) ∧ w.cell? ⟨b, off + i * 3 + 2, none⟩ = some sv ∧ TyAt w sv (l[i]).2 ∧ (l[i]).1.length ≤ maxLen
theorem FdC.nw {w w' : World} {a : Option Addr} {l : List (Str × Ty)} (h : FdC w a l) (u : Nw w w') : FdC w' a l :=
  h.imp id (fun ⟨b, off, e, hb, hc⟩ => ⟨b, off, e, Nat.lt_of_lt_of_le hb u.size, fun i hi => by
    obtain ⟨sv, h1, h2, h3, h4, h5⟩ := hc i hi
    exact ⟨sv, nw_cellF u h1, nw_cellF u h2, nw_cellF u h3, h4.nw u, h5⟩⟩)
set_option maxHeartbeats 1000000 in
set_option maxRecDepth 100000 in
theorem indexFunc_f (gf : Nat) (cb : Nat) (eg : ∀ args w, (callFunc gf args).run Tryz.prog w = .ok (.enter gf args) w) (p : Str × Ty → Bool) (a : Option Addr) (cap : Nat) (l : List (Str × Ty)) (w : World) (h : FdC w a l) (hl : l.length ≤ maxLen)
    (hp : ∀ W (f : Str × Ty) sv, Nw w W → f ∈ l → TyAt W sv f.2 → f.1.length ≤ maxLen → Calls Tryz.prog gf #[.agg #[.string ⟨f.1.toArray⟩, .int .i64 f.2.kind, sv], .pointer (some ⟨cb, 0, none⟩)] W fun e w' => e = .returned (.bool (p f)) ∧ Nw W w') :
    Calls Tryz.prog 152 #[.slice a l.length cap, .func (.func gf) #[] #[.pointer (some ⟨cb, 0, none⟩)]] w fun e w' => e = .returned (.int .i64 (idxI p l)) ∧ Nw w w' := by
  have HC := Lib.hid h
  have Hp := Lib.hid hp
  unfold maxLen at hl
  have hl1 : (l.length : Int) ≤ 9223372036854775807 := by omega
  clear h hp
  go_enter Tryz.func152, Tryz.ntmps152
  go_wp2_with fail
  go_loopw [8] (fun i wr => ∃ n : Nat, n ≤ l.length ∧ i = .int .i64 n ∧ Hid (∀ j (h : j < l.length), j < n → p l[j] = false) ∧ Hid (Nw w wr)) (fun i _ => l.length - (intOf i).toNat)
  case atStart => exact ⟨0, Nat.zero_le _, rfl, fun j _ h => absurd h (Nat.not_lt_zero _), Upd.refl _ _⟩
  case round =>
    obtain ⟨n, hn, rfl, hall, u⟩ := hrel
    by_cases hlt : n < l.length
    · have hlt1 : (n : Int) < l.length := by omega
      rcases HC.out with hnil | ⟨b, o, rfl, hb, hc⟩
      · simp [hnil] at hlt
      obtain ⟨sv, p0, p1, p2, ht, hs⟩ := hc n hlt
      have d0 := nw_cellF u.out p0
      have d1 := nw_cellF u.out p1
      have d2 := nw_cellF u.out p2
      have hcall := Hp.out wr l[n] sv u.out (List.getElem_mem hlt) (ht.nw u.out) hs
      obtain ⟨sa, sc, hsv, -⟩ := ht.cells
      subst hsv
      have hnext : p l[n] = false → Hid (∀ j (h : j < l.length), j < n + 1 → p l[j] = false) := fun e j h hj => by
        by_cases ej : j = n
        · subst ej; exact e
        · exact hall.out j h (by omega)
      have hstop : p l[n] = true → Hid (idxI p l = n) := fun e => idx_hit hlt e hall.out
      clear hc p0 p1 p2 ht hs
      generalize p l[n] = q at *
      generalize l[n] = x at *
      have Hcall := Lib.hid hcall; clear hcall
      cases q with
      | true =>
        have hr := hstop rfl
        clear hstop hnext
        go_wp2_with (go_at_fn gf; (with_reducible refine Hcall.out.mono ?_); rintro _ w2 ⟨rfl, u2⟩)
        go_ret
        exact ⟨ret_int hr.out.symm, u.out.trans u2⟩
      | false =>
        have hr := hnext rfl
        clear hstop hnext
        go_wp2_with (go_at_fn gf; (with_reducible refine Hcall.out.mono ?_); rintro _ w2 ⟨rfl, u2⟩)
        go_roundw
        case rel => exact ⟨n + 1, by omega, by go_num, hr, u.out.trans u2⟩
        case measure => simp [intOf]; omega
    · have hr : Hid (idxI p l = -1) := idx_miss (fun j h => hall.out j h (by omega))
      go_wp2_with fail
      go_ret
      exact ⟨ret_int hr.out.symm, u.out⟩
theorem containsFunc_f (gf : Nat) (cb : Nat) (eg : ∀ args w, (callFunc gf args).run Tryz.prog w = .ok (.enter gf args) w) (p : Str × Ty → Bool) (a : Option Addr) (cap : Nat) (l : List (Str × Ty)) (w : World) (h : FdC w a l) (hl : l.length ≤ maxLen)
    (hp : ∀ W (f : Str × Ty) sv, Nw w W → f ∈ l → TyAt W sv f.2 → f.1.length ≤ maxLen → Calls Tryz.prog gf #[.agg #[.string ⟨f.1.toArray⟩, .int .i64 f.2.kind, sv], .pointer (some ⟨cb, 0, none⟩)] W fun e w' => e = .returned (.bool (p f)) ∧ Nw W w') :
    Calls Tryz.prog 123 #[.slice a l.length cap, .func (.func gf) #[] #[.pointer (some ⟨cb, 0, none⟩)]] w fun e w' => e = .returned (.bool (l.any p)) ∧ Nw w w' := by
  have Q := Lib.hid (indexFunc_f gf cb eg p a cap l w h hl hp)
  have hr := Lib.hid (idx_any p l)
  clear h hp
  generalize idxI p l = m at *
  go_enter Tryz.func123, Tryz.ntmps123
  go_wp2_with fail
  (with_reducible refine (Q.out).mono ?_)
  rintro _ w2 ⟨rfl, u2⟩
  go_wp2_with fail
  all_goals go_ret
  all_goals exact ⟨ret_bool (by first | (rw [← hr.out]; done) | (rw [← hr.out]; simp_all)), u2⟩
/-- What the walk is told of the values of a record. -/
abbrev VsC (P : Nat → Prop) (w : World) (a : Option Addr) (l : List Vl) : Prop := l = [] ∨ ∃ b off, a = some ⟨b, off, none⟩ ∧ b < w.heap.size ∧ ∀ i (h : i < l.length), ∃ nv' vv', w.cell? ⟨b, off + i * 4, none⟩ = some (.int .i64 (l[i]).kind) ∧ w.cell? ⟨b, off + i * 4 + 1, none⟩ = some (.int .i64 (l[i]).n) ∧ w.cell? ⟨b, off + i * 4 + 2, none⟩ = some nv' ∧ w.cell? ⟨b, off + i * 4 + 3, none⟩ = some vv' ∧ VlAt P w nv' vv' (l[i])
set_option maxHeartbeats 1000000 in
set_option maxRecDepth 100000 in
theorem indexFunc_u (gf : Nat) (cb : Nat) (eg : ∀ args w, (callFunc gf args).run Tryz.prog w = .ok (.enter gf args) w) (p : Vl → Bool) (P : Nat → Prop) (a : Option Addr) (cap : Nat) (l : List Vl) (w : World) (h : VsC P w a l) (hl : l.length ≤ maxLen)
    (hp : ∀ W (f : Vl) nv vv, Nw w W → f ∈ l → VlAt P W nv vv f → Calls Tryz.prog gf #[.agg #[.int .i64 f.kind, .int .i64 f.n, nv, vv], .pointer (some ⟨cb, 0, none⟩)] W fun e w' => e = .returned (.bool (p f)) ∧ Nw W w') :
    Calls Tryz.prog 176 #[.slice a l.length cap, .func (.func gf) #[] #[.pointer (some ⟨cb, 0, none⟩)]] w fun e w' => e = .returned (.int .i64 (idxI p l)) ∧ Nw w w' := by
  have HC := Lib.hid h
  have Hp := Lib.hid hp
  unfold maxLen at hl
  have hl1 : (l.length : Int) ≤ 9223372036854775807 := by omega
  clear h hp
  go_enter Tryz.func176, Tryz.ntmps176
  go_wp2_with fail
  go_loopw [8] (fun i wr => ∃ n : Nat, n ≤ l.length ∧ i = .int .i64 n ∧ Hid (∀ j (h : j < l.length), j < n → p l[j] = false) ∧ Hid (Nw w wr)) (fun i _ => l.length - (intOf i).toNat)
  case atStart => exact ⟨0, Nat.zero_le _, rfl, fun j _ h => absurd h (Nat.not_lt_zero _), Upd.refl _ _⟩
  case round =>
    obtain ⟨n, hn, rfl, hall, u⟩ := hrel
    by_cases hlt : n < l.length
    · have hlt1 : (n : Int) < l.length := by omega
      rcases HC.out with hnil | ⟨b, o, rfl, hb, hc⟩
      · simp [hnil] at hlt
      obtain ⟨nv', vv', p0, p1, p2, p3, ht⟩ := hc n hlt
      have d0 := nw_cellF u.out p0
      have d1 := nw_cellF u.out p1
      have d2 := nw_cellF u.out p2
      have d3 := nw_cellF u.out p3
      have hcall := Hp.out wr l[n] nv' vv' u.out (List.getElem_mem hlt) (ht.nw u.out)
      obtain ⟨sa, sc, hsv, -⟩ := ht.names
      obtain ⟨ta, tc, htv, -⟩ := ht.vals
      subst hsv htv
      have hnext : p l[n] = false → Hid (∀ j (h : j < l.length), j < n + 1 → p l[j] = false) := fun e j h hj => by
        by_cases ej : j = n
        · subst ej; exact e
        · exact hall.out j h (by omega)
      have hstop : p l[n] = true → Hid (idxI p l = n) := fun e => idx_hit hlt e hall.out
      clear hc p0 p1 p2 p3 ht
      generalize p l[n] = q at *
      generalize l[n] = x at *
      have Hcall := Lib.hid hcall; clear hcall
      cases q with
      | true =>
        have hr := hstop rfl
        clear hstop hnext
        go_wp2_with (go_at_fn gf; (with_reducible refine Hcall.out.mono ?_); rintro _ w2 ⟨rfl, u2⟩)
        go_ret
        exact ⟨ret_int hr.out.symm, u.out.trans u2⟩
      | false =>
        have hr := hnext rfl
        clear hstop hnext
        go_wp2_with (go_at_fn gf; (with_reducible refine Hcall.out.mono ?_); rintro _ w2 ⟨rfl, u2⟩)
        go_roundw
        case rel => exact ⟨n + 1, by omega, by go_num, hr, u.out.trans u2⟩
        case measure => simp [intOf]; omega
    · have hr : Hid (idxI p l = -1) := idx_miss (fun j h => hall.out j h (by omega))
      go_wp2_with fail
      go_ret
      exact ⟨ret_int hr.out.symm, u.out⟩
theorem containsFunc_u (gf : Nat) (cb : Nat) (eg : ∀ args w, (callFunc gf args).run Tryz.prog w = .ok (.enter gf args) w) (p : Vl → Bool) (P : Nat → Prop) (a : Option Addr) (cap : Nat) (l : List Vl) (w : World) (h : VsC P w a l) (hl : l.length ≤ maxLen)
    (hp : ∀ W (f : Vl) nv vv, Nw w W → f ∈ l → VlAt P W nv vv f → Calls Tryz.prog gf #[.agg #[.int .i64 f.kind, .int .i64 f.n, nv, vv], .pointer (some ⟨cb, 0, none⟩)] W fun e w' => e = .returned (.bool (p f)) ∧ Nw W w') :
    Calls Tryz.prog 149 #[.slice a l.length cap, .func (.func gf) #[] #[.pointer (some ⟨cb, 0, none⟩)]] w fun e w' => e = .returned (.bool (l.any p)) ∧ Nw w w' := by
  have Q := Lib.hid (indexFunc_u gf cb eg p P a cap l w h hl hp)
  have hr := Lib.hid (idx_any p l)
  clear h hp
  generalize idxI p l = m at *
  go_enter Tryz.func149, Tryz.ntmps149
  go_wp2_with fail
  (with_reducible refine (Q.out).mono ?_)
  rintro _ w2 ⟨rfl, u2⟩
  go_wp2_with fail
  all_goals go_ret
  all_goals exact ⟨ret_bool (by first | (rw [← hr.out]; done) | (rw [← hr.out]; simp_all)), u2⟩
end Go.Proofs.YthagiklfmkdmaaaGreatDoor
namespace Go.Proofs.YthagiklfmkdmaaaGreatDoor
open Go.RowKit
set_option linter.unusedVariables false
set_option linter.unusedSimpArgs false
attribute [local irreducible] Calls
open Fm (Ty Vl Str nameB rightTy rightVl)

set_option maxRecDepth 100000 in
theorem ascending_c (a : Option Addr) (cap : Nat) (l : List Str) (w : World) (h : StrC w a l) (hl : l.length ≤ maxLen) :
    Calls Tryz.prog 148 #[.slice a l.length cap] w fun e w' => e = .returned (.bool (Fm.asc l)) ∧ Nw w w' := by
  have HC := Lib.hid h
  unfold maxLen at hl
  have hl1 : (l.length : Int) ≤ 9223372036854775807 := by omega
  clear h
  go_enter Tryz.func148, Tryz.ntmps148
  go_wp2_with fail
  go_loopw [3] (fun i wr => ∃ n : Nat, n ≤ l.length ∧ i = .int .i64 (n + 1 : Nat) ∧ Hid (∀ j (h : j + 1 < l.length), j < n → Op.bytesLess (l[j]'(by omega)) l[j + 1] = true) ∧ Hid (Nw w wr)) (fun i _ => l.length - (intOf i).toNat)
  case atStart => exact ⟨0, Nat.zero_le _, rfl, fun j _ h => absurd h (Nat.not_lt_zero _), Upd.refl _ _⟩
  case round =>
    obtain ⟨n, hn, rfl, HA, U⟩ := hrel
    by_cases hlt : n + 1 < l.length
    · have hlt1 : ((n + 1 : Nat) : Int) < l.length := by omega
      have hlt2 : (n : Int) + 1 < l.length := by omega
      have hlt3 : (n : Int) < l.length := by omega
      rcases HC.out with hnil | ⟨b, off, rfl, _, hcell⟩
      · simp [hnil] at hlt
      have c0 : ∀ i : Later wr, i.1.cell? ⟨b, off + n, none⟩ = some (.string ⟨(l[n]'(by omega)).toArray⟩) := fun i => nw_cellF (U.out.trans i.nw) (hcell n (by omega)).1
      have c1 : ∀ i : Later wr, i.1.cell? ⟨b, off + (n + 1), none⟩ = some (.string ⟨(l[n + 1]).toArray⟩) := fun i => nw_cellF (U.out.trans i.nw) (hcell (n + 1) hlt).1
      have HB : Hid (Op.bytesLess (l[n]'(by omega)) l[n + 1] = false → Fm.asc l = false) := fun e => by
        cases hc : Fm.asc l with
        | false => rfl
        | true => have := Fm.asc_iff.1 hc n hlt; rw [show Op.bytesLess (l[n]'(by omega)) l[n + 1] = true from this] at e; cases e
      have HS : Hid (Op.bytesLess (l[n]'(by omega)) l[n + 1] = true → ∀ j (h : j + 1 < l.length), j < n + 1 → Op.bytesLess (l[j]'(by omega)) l[j + 1] = true) := fun e j hj hjn => by
        by_cases ej : j = n
        · subst ej; exact e
        · exact HA.out j hj (by omega)
      clear hcell HA
      generalize l[n]'(by omega) = x at *
      generalize l[n + 1] = y at *
      cases hb : Op.bytesLess x y with
      | false =>
        have e9 := Lib.hid (HB.out hb)
        clear HB HS
        go_wp2_with fail
        refine wp_region_nw (by kernel_rfl) (by kernel_rfl) ?_
        repeat (go_big_quiet_step ((fail)))
        refine wpQuiet_nil ?_
        intro w3 u3
        replace u3 := later_out u3
        go_wp2_with fail
        go_ret
        exact ⟨by rw [e9.out]; rfl, U.out.trans u3⟩
      | true =>
        have hz := Lib.hid (HS.out hb)
        clear HB HS
        go_wp2_with fail
        refine wp_region_nw (by kernel_rfl) (by kernel_rfl) ?_
        repeat (go_big_quiet_step ((fail)))
        refine wpQuiet_nil ?_
        intro w3 u3
        replace u3 := later_out u3
        go_wp2_with fail
        go_roundw
        case rel => exact ⟨n + 1, by omega, by go_num, hz.out, U.out.trans u3⟩
        case measure => simp [intOf]; omega
    · have e9 : Hid (Fm.asc l = true) := Fm.asc_iff.2 fun i hi => HA.out i hi (by omega)
      have d9 : decide (((n + 1 : Nat) : Int) < l.length) = false := decide_eq_false (by omega)
      have d8 : decide ((n : Int) + 1 < l.length) = false := decide_eq_false (by omega)
      have d7 : ¬ ((n : Int) + 1 < l.length) := by omega
      clear HA
      go_wp2_with fail
      go_ret
      exact ⟨by rw [e9.out]; rfl, U.out⟩
theorem eq0 {n : Nat} (h : n = 0) : ((n : Int) == 0) = true := by subst h; rfl
theorem ne0 {n : Nat} (h : ¬ n = 0) : ((n : Int) == 0) = false := by simp; exact h
theorem rv_no {d : Nat} {v : Vl} (h : Fm.Rv d v → False) : rightVl (d + 1) v = false := by
  cases hc : rightVl (d + 1) v with
  | false => rfl
  | true => exact (h (Fm.rv_iff.1 hc)).elim
theorem rv_last {d : Nat} {v : Vl} (hk : v.kind = 2) (hn : v.n = 0) (hl : v.names.length = v.vals.length) (h8 : v.names.length ≤ 8) (ha : Fm.asc v.names = true) : rightVl (d + 1) v = !(v.vals.any fun x => !rightVl d x) := by
  show (if v.kind = 0 ∨ v.kind = 1 then v.names.isEmpty && v.vals.isEmpty && (decide (v.kind = 0) || decide (v.n = 0) || decide (v.n = 1)) else decide (v.kind = 2) && decide (v.n = 0) && decide (v.names.length = v.vals.length) && decide (v.names.length ≤ 8) && Fm.asc v.names && v.vals.all (rightVl d)) = _
  rw [if_neg (by omega), decide_eq_true hk, decide_eq_true hn, decide_eq_true hl, decide_eq_true h8, ha]
  simp only [Bool.true_and]
  rw [Bool.eq_iff_iff]
  simp
set_option maxHeartbeats 4000000 in
set_option maxRecDepth 100000 in
theorem evfits_c (P : Nat → Prop) : ∀ (d : Nat), d ≤ 4 → ∀ (nv vv : Value) (v : Vl) (w : World), VlAt P w nv vv v →
    Calls Tryz.prog 119 #[.agg #[.int .i64 v.kind, .int .i64 v.n, nv, vv], .int .i64 d] w fun e w' => e = .returned (.bool (rightVl d v)) ∧ Nw w w' := by
  intro d
  induction d with
  | zero =>
    intro _ nv vv v w h
    have n1 := (nw_alloc w (.cells #[.int .i64 v.kind, .int .i64 v.n, nv, vv] tVl)).trans (nw_alloc _ (.cells #[.int .i64 0] 3))
    obtain ⟨na, nc, rfl, -⟩ := h.names
    obtain ⟨va, vc, rfl, -⟩ := h.vals
    clear h
    go_enter Tryz.func119, Tryz.ntmps119
    go_wp2_with fail
    go_ret
    exact ⟨rfl, n1⟩
  | succ d ih =>
    intro hd nv vv v w h
    have IH := Lib.hid (ih (by omega))
    clear ih
    have hd0 : (((d + 1 : Nat) : Int) == 0) = false := by simp; omega
    have hd9 : ((d : Int) + 1 == 0) = false := by simp; omega
    have hd1 : ((d + 1 : Nat) : Int) ≤ 4 := by omega
    obtain ⟨na, nc, rfl, hnl, hnc⟩ := h.names
    obtain ⟨va, vc, rfl, hvl, hvc⟩ := h.vals
    have n1 := nw_alloc w (.cells #[.int .i64 v.kind, .int .i64 v.n, .slice na v.names.length nc, .slice va v.vals.length vc] tVl)
    have n2 := nw_alloc (w.alloc (.cells #[.int .i64 v.kind, .int .i64 v.n, .slice na v.names.length nc, .slice va v.vals.length vc] tVl)) (.cells #[.int .i64 ((d : Int) + 1)] 3)
    have b1 := n2.keep (heap_new w (.cells #[.int .i64 v.kind, .int .i64 v.n, .slice na v.names.length nc, .slice va v.vals.length vc] tVl))
    have b2 := heap_new (w.alloc (.cells #[.int .i64 v.kind, .int .i64 v.n, .slice na v.names.length nc, .slice va v.vals.length vc] tVl)) (.cells #[.int .i64 ((d : Int) + 1)] 3)
    rw [World.size_alloc] at b2
    have hN := n1.trans n2
    obtain ⟨W, hW⟩ : ∃ W, W = (w.alloc (.cells #[.int .i64 v.kind, .int .i64 v.n, .slice na v.names.length nc, .slice va v.vals.length vc] tVl)).alloc (.cells #[.int .i64 ((d : Int) + 1)] 3) := ⟨_, rfl⟩
    rw [← hW] at hN b1 b2
    have HN := Lib.hid hN
    have HW := Lib.hid hW
    have c0 : W.cell? ⟨w.heap.size, 0, none⟩ = some (.int .i64 v.kind) := by rw [cells_cell b1]; rfl
    have c1 : W.cell? ⟨w.heap.size, 1, none⟩ = some (.int .i64 v.n) := by rw [cells_cell b1]; rfl
    have c2 : W.cell? ⟨w.heap.size, 2, none⟩ = some (.slice na v.names.length nc) := by rw [cells_cell b1]; rfl
    have c3 : W.cell? ⟨w.heap.size, 3, none⟩ = some (.slice va v.vals.length vc) := by rw [cells_cell b1]; rfl
    have c4 : W.cell? ⟨w.heap.size + 1, 0, none⟩ = some (.int .i64 ((d : Int) + 1)) := by rw [cells_cell b2]; rfl
    have HB1 := Lib.hid b1
    have HB2 := Lib.hid b2
    unfold maxLen at hnl hvl
    have hnl1 : (v.names.length : Int) ≤ 9223372036854775807 := by omega
    have hvl1 : (v.vals.length : Int) ≤ 9223372036854775807 := by omega
    have HV := Lib.hid h
    have HNC : Hid (StrC w na v.names) := hnc
    have HVC : Hid (VsC P w va v.vals) := hvc
    clear h hnc hvc n1 n2 b1 b2 hN hW
    have hE0 : v.names.length = 0 ↔ v.names = [] := List.length_eq_zero_iff
    have hE1 : v.vals.length = 0 ↔ v.vals = [] := List.length_eq_zero_iff
    have HE := Lib.hid (And.intro hE0 hE1)
    clear hE0 hE1
    go_enter Tryz.func119, Tryz.ntmps119
    go_upto_region 1 with fail
    rw [← HW.out]
    clear HW
    by_cases k0 : v.kind = 0
    · have e0 : (v.kind == 0) = true := by simp [k0]
      by_cases h1 : v.names.length = 0
      · by_cases h2 : v.vals.length = 0
        · have e1 : (((v.names.length : Nat) : Int) == 0) = true := eq0 h1
          have e2 : (((v.vals.length : Nat) : Int) == 0) = true := eq0 h2
          -- true the equation's proof of rightVl
          have e9 : Hid (rightVl (d + 1) v = true) := (Fm.rv_iff.2 ⟨by omega, by omega, by rw [HE.out.1.1 h1]; rfl, fun x hx => (by rw [HE.out.2.1 h2] at hx; cases hx), Or.inl k0, fun _ => ⟨HE.out.1.1 h1, HE.out.2.1 h2⟩, fun e => by omega, fun e => by omega⟩)
          clear HV
          go_wp2_with fail
          go_ret
          exact ⟨by rw [e9.out]; rfl, HN.out⟩
        · have e1 : (((v.names.length : Nat) : Int) == 0) = true := eq0 h1
          have e2 : (((v.vals.length : Nat) : Int) == 0) = false := ne0 h2
          -- false the equation's proof of rightVl
          have e9 : Hid (rightVl (d + 1) v = false) := (rv_no (fun r => h2 (HE.out.2.2 (r.flat (by omega)).2)))
          clear HV
          go_wp2_with fail
          go_ret
          exact ⟨by rw [e9.out]; rfl, HN.out⟩
      · have e1 : (((v.names.length : Nat) : Int) == 0) = false := ne0 h1
        -- false the equation's proof of rightVl
        have e9 : Hid (rightVl (d + 1) v = false) := (rv_no (fun r => h1 (HE.out.1.2 (r.flat (by omega)).1)))
        clear HV
        go_wp2_with fail
        go_ret
        exact ⟨by rw [e9.out]; rfl, HN.out⟩
    have e0 : (v.kind == 0) = false := by simp [k0]
    by_cases k1 : v.kind = 1
    · have e10 : (v.kind == 1) = true := by simp [k1]
      by_cases h1 : v.names.length = 0
      · by_cases h2 : v.vals.length = 0
        · have e1 : (((v.names.length : Nat) : Int) == 0) = true := eq0 h1
          have e2 : (((v.vals.length : Nat) : Int) == 0) = true := eq0 h2
          by_cases h3 : v.n = 0
          · have e3 : (v.n == 0) = true := by simp [h3]
            -- true the equation's proof of rightVl
            have e9 : Hid (rightVl (d + 1) v = true) := (Fm.rv_iff.2 ⟨by omega, by omega, by rw [HE.out.1.1 h1]; rfl, fun x hx => (by rw [HE.out.2.1 h2] at hx; cases hx), Or.inr (Or.inl k1), fun _ => ⟨HE.out.1.1 h1, HE.out.2.1 h2⟩, fun e => Or.inl h3, fun e => by omega⟩)
            clear HV
            go_wp2_with fail
            go_ret
            exact ⟨by rw [e9.out]; rfl, HN.out⟩
          · have e3 : (v.n == 0) = false := by simp [h3]
            by_cases h4 : v.n = 1
            · have e4 : (v.n == 1) = true := by simp [h4]
              -- true the equation's proof of rightVl
              have e9 : Hid (rightVl (d + 1) v = true) := (Fm.rv_iff.2 ⟨by omega, by omega, by rw [HE.out.1.1 h1]; rfl, fun x hx => (by rw [HE.out.2.1 h2] at hx; cases hx), Or.inr (Or.inl k1), fun _ => ⟨HE.out.1.1 h1, HE.out.2.1 h2⟩, fun e => Or.inr h4, fun e => by omega⟩)
              clear HV
              go_wp2_with fail
              go_ret
              exact ⟨by rw [e9.out]; rfl, HN.out⟩
            · have e4 : (v.n == 1) = false := by simp [h4]
              -- false the equation's proof of rightVl
              have e9 : Hid (rightVl (d + 1) v = false) := (rv_no (fun r => by have := r.n1 k1; omega))
              clear HV
              go_wp2_with fail
              go_ret
              exact ⟨by rw [e9.out]; rfl, HN.out⟩
        · have e1 : (((v.names.length : Nat) : Int) == 0) = true := eq0 h1
          have e2 : (((v.vals.length : Nat) : Int) == 0) = false := ne0 h2
          -- false the equation's proof of rightVl
          have e9 : Hid (rightVl (d + 1) v = false) := (rv_no (fun r => h2 (HE.out.2.2 (r.flat (by omega)).2)))
          clear HV
          go_wp2_with fail
          go_ret
          exact ⟨by rw [e9.out]; rfl, HN.out⟩
      · have e1 : (((v.names.length : Nat) : Int) == 0) = false := ne0 h1
        -- false the equation's proof of rightVl
        have e9 : Hid (rightVl (d + 1) v = false) := (rv_no (fun r => h1 (HE.out.1.2 (r.flat (by omega)).1)))
        clear HV
        go_wp2_with fail
        go_ret
        exact ⟨by rw [e9.out]; rfl, HN.out⟩
    have e10 : (v.kind == 1) = false := by simp [k1]
    by_cases k2 : v.kind = 2
    rotate_left
    · have e20 : (v.kind == 2) = false := by simp [k2]
      have e21 : (v.kind != 2) = true := by simp [k2]
      -- false the equation's proof of rightVl
      have e9 : Hid (rightVl (d + 1) v = false) := (rv_no (fun r => by have := r.k; omega))
      clear HV
      go_wp2_with fail
      go_ret
      exact ⟨by rw [e9.out]; rfl, HN.out⟩
    have e20 : (v.kind == 2) = true := by simp [k2]
    have e21 : (v.kind != 2) = false := by simp [k2]
    by_cases h3 : v.n = 0
    rotate_left
    · have e3 : (v.n == 0) = false := by simp [h3]
      have e4 : (v.n != 0) = true := by simp [h3]
      -- false the equation's proof of rightVl
      have e9 : Hid (rightVl (d + 1) v = false) := (rv_no (fun r => h3 (r.n2 k2)))
      clear HV
      go_wp2_with fail
      go_ret
      exact ⟨by rw [e9.out]; rfl, HN.out⟩
    have e3 : (v.n == 0) = true := by simp [h3]
    have e4 : (v.n != 0) = false := by simp [h3]
    by_cases h5 : v.names.length = v.vals.length
    rotate_left
    · have e5 : (((v.names.length : Nat) : Int) == ((v.vals.length : Nat) : Int)) = false := by simp; omega
      have e6 : (((v.names.length : Nat) : Int) != ((v.vals.length : Nat) : Int)) = true := by simp; omega
      have e7 : (v.names.length == v.vals.length) = false := by simp [h5]
      have e8 : (v.names.length != v.vals.length) = true := by simp [h5]
      have e9' : Hid (rightVl (d + 1) v = false) := rv_no (fun r => h5 r.len)
      clear h5
      -- false the equation's proof of rightVl
      have e9 : Hid (rightVl (d + 1) v = false) := e9'.out
      clear HV
      go_wp2_with fail
      go_ret
      exact ⟨by rw [e9.out]; rfl, HN.out⟩
    have e5 : (((v.names.length : Nat) : Int) == ((v.vals.length : Nat) : Int)) = true := by simp; omega
    have e6 : (((v.names.length : Nat) : Int) != ((v.vals.length : Nat) : Int)) = false := by simp; omega
    have e7 : (v.names.length == v.vals.length) = true := by simp [h5]
    have e8 : (v.names.length != v.vals.length) = false := by simp [h5]
    have H5 := Lib.hid h5
    clear h5
    by_cases h8 : (8 : Int) < (v.names.length : Nat)
    · have e11 : decide ((8 : Int) < (v.names.length : Nat)) = true := decide_eq_true h8
      -- false the equation's proof of rightVl
      have e9 : Hid (rightVl (d + 1) v = false) := (rv_no (fun r => by have := r.le; omega))
      clear HV
      go_wp2_with fail
      go_ret
      exact ⟨by rw [e9.out]; rfl, HN.out⟩
    have e11 : decide ((8 : Int) < (v.names.length : Nat)) = false := decide_eq_false h8
    have H8 : Hid (v.names.length ≤ 8) := by show _ ≤ _; omega
    have hasc := Lib.hid (ascending_c na nc v.names W (HNC.out.imp id (fun ⟨b, off, e, hb, hc⟩ => ⟨b, off, e, Nat.lt_of_lt_of_le hb HN.out.size, fun i hi => ⟨nw_cellF HN.out (hc i hi).1, (hc i hi).2⟩⟩)) (by unfold maxLen; omega))
    clear h8
    cases ha : Fm.asc v.names with
    | false =>
      rw [ha] at hasc
      have e9 : Hid (rightVl (d + 1) v = false) := rv_no (fun r => by rw [r.asc] at ha; cases ha)
      clear ha
      go_wp2_with fail
      (with_reducible refine (hasc.out).mono ?_)
      rintro _ w2 ⟨rfl, u2⟩
      have U2 := Lib.hid u2
      clear u2
      go_wp2_with fail
      go_ret
      exact ⟨by rw [e9.out]; rfl, HN.out.trans U2.out⟩
    | true =>
      rw [ha] at hasc
      have e9 := Lib.hid (rv_last (d := d) k2 h3 H5.out H8.out ha)
      clear ha k0 k1 k2 h3
      go_wp2_with fail
      (with_reducible refine (hasc.out).mono ?_)
      rintro _ w2 ⟨rfl, u2⟩
      have hcell2 : Hid (∀ y, Nw w2 y → y.cell? ⟨w.heap.size + 1, 0, none⟩ = some (.int .i64 ((d : Int) + 1))) := fun y u => nw_cellF (u2.trans u) c4
      have hclo : ∀ (y : World) (f : Vl) (nv vv : Value), Nw w2 y → VlAt P y nv vv f → Calls Tryz.prog 150 #[.agg #[.int .i64 f.kind, .int .i64 f.n, nv, vv], .pointer (some ⟨w.heap.size + 1, 0, none⟩)] y fun e w' => e = .returned (.bool (!rightVl d f)) ∧ Nw y w' := fun y f nv vv u hf => by
        have n1 := nw_alloc y (.cells #[.int .i64 f.kind, .int .i64 f.n, nv, vv] tVl)
        have hi := Lib.hid (IH.out nv vv f _ (hf.nw n1))
        have k4 := nw_cellF n1 (hcell2.out y u)
        have HU := Lib.hid n1
        obtain ⟨na', nc', rfl, -⟩ := hf.names
        obtain ⟨va', vc', rfl, -⟩ := hf.vals
        clear hf n1 e9 hasc HNC HVC HE
        generalize rightVl d f = rb at *
        go_enter Tryz.func150, Tryz.ntmps150
        go_wp2_with fail
        (with_reducible refine (hi.out).mono ?_)
        rintro _ w5 ⟨rfl, u5⟩
        have U5 := Lib.hid (HU.out.trans u5)
        clear u5
        go_wp2_with fail
        go_ret
        exact ⟨rfl, U5.out⟩
      have k3 := nw_cellF u2 c3
      have U2 := Lib.hid u2
      have hany := containsFunc_u 150 (w.heap.size + 1) (fun args w => by rfl) (fun x => !rightVl d x) P va vc v.vals w2 (HVC.out.imp id (fun ⟨b, off, e, hb, hc⟩ => ⟨b, off, e, Nat.lt_of_lt_of_le hb (HN.out.trans u2).size, fun i hi => by
        obtain ⟨nv', vv', q0, q1, q2, q3, q4⟩ := hc i hi
        exact ⟨nv', vv', nw_cellF (HN.out.trans u2) q0, nw_cellF (HN.out.trans u2) q1, nw_cellF (HN.out.trans u2) q2, nw_cellF (HN.out.trans u2) q3, q4.nw (HN.out.trans u2)⟩⟩)) (by unfold maxLen; omega) (fun y f nv vv u hf hv => hclo y f nv vv u hv)
      have Hany := Lib.hid hany
      clear u2 hclo hany hasc
      generalize (v.vals.any fun x => !rightVl d x) = ab at *
      go_wp2_with fail
      (with_reducible refine (Hany.out).mono ?_)
      rintro _ w6 ⟨rfl, u6⟩
      have U6 := Lib.hid (HN.out.trans (U2.out.trans u6))
      clear u6
      go_wp2_with fail
      go_ret
      exact ⟨by rw [e9.out]; rfl, U6.out⟩
end Go.Proofs.YthagiklfmkdmaaaGreatDoor
namespace Go.Proofs.YthagiklfmkdmaaaGreatDoor
open Go.RowKit
set_option linter.unusedVariables false
set_option linter.unusedSimpArgs false
attribute [local irreducible] Calls
open Fm (Ty Vl Str nameB rightTy rightVl)

theorem StrC.nw {w w' : World} {a : Option Addr} {l : List Str} (h : StrC w a l) (u : Nw w w') : StrC w' a l :=
  h.imp id (fun ⟨b, off, e, hb, hc⟩ => ⟨b, off, e, Nat.lt_of_lt_of_le hb u.size, fun i hi => ⟨nw_cellF u (hc i hi).1, (hc i hi).2⟩⟩)
theorem VsC.nw {P : Nat → Prop} {w w' : World} {a : Option Addr} {l : List Vl} (h : VsC P w a l) (u : Nw w w') : VsC P w' a l :=
  h.imp id (fun ⟨b, off, e, hb, hc⟩ => ⟨b, off, e, Nat.lt_of_lt_of_le hb u.size, fun i hi => by
    obtain ⟨nv', vv', q0, q1, q2, q3, q4⟩ := hc i hi
    exact ⟨nv', vv', nw_cellF u q0, nw_cellF u q1, nw_cellF u q2, nw_cellF u q3, q4.nw u⟩⟩)
theorem fits_eq {d : Nat} {t : Ty} {v : Vl} (hk : t.kind = v.kind) : Fm.fits (d + 1) t v = !(t.fs.any fun f => !(decide (0 ≤ Fm.idx f.1 v.names) && Fm.fits d f.2 (v.at_ f.1))) := by
  show (decide (t.kind = v.kind) && t.fs.all (fun f => decide (0 ≤ Fm.idx f.1 v.names) && Fm.fits d f.2 (v.at_ f.1))) = _
  rw [decide_eq_true hk, Bool.true_and, Bool.eq_iff_iff]
  simp
set_option maxHeartbeats 4000000 in
set_option maxRecDepth 100000 in
theorem stfits_c (P : Nat → Prop) : ∀ (d : Nat) (t : Ty) (fv : Value) (v : Vl) (nv vv : Value) (w : World), rightTy d t = true → rightVl d v = true → TyAt w fv t → VlAt P w nv vv v →
    Calls Tryz.prog 82 #[.agg #[.int .i64 t.kind, fv], .agg #[.int .i64 v.kind, .int .i64 v.n, nv, vv]] w fun e w' => e = .returned (.bool (Fm.fits d t v)) ∧ Nw w w' := by
  intro d
  induction d with
  | zero => intro t fv v nv vv w h; cases h
  | succ d ih =>
    intro t fv v nv vv w hr hv ht hva
    have IH := Lib.hid ih
    have RT := Lib.hid (Fm.rt_iff.1 hr)
    have RV := Lib.hid (Fm.rv_iff.1 hv)
    obtain ⟨fa, fc, rfl, hfl, hfc⟩ := ht.cells
    obtain ⟨na, nc, rfl, hnl, hnc⟩ := hva.names
    obtain ⟨va, vc, rfl, hvl, hvc⟩ := hva.vals
    have HFC : Hid (FdC w fa t.fs) := hfc
    have HNC : Hid (StrC w na v.names) := hnc
    have HVC : Hid (VsC P w va v.vals) := hvc
    have n1 := nw_alloc w (.cells #[.int .i64 t.kind, .slice fa t.fs.length fc] tTy)
    have n2 := nw_alloc (w.alloc (.cells #[.int .i64 t.kind, .slice fa t.fs.length fc] tTy)) (.cells #[.int .i64 v.kind, .int .i64 v.n, .slice na v.names.length nc, .slice va v.vals.length vc] tVl)
    have b1 := n2.keep (heap_new w (.cells #[.int .i64 t.kind, .slice fa t.fs.length fc] tTy))
    have b2 := heap_new (w.alloc (.cells #[.int .i64 t.kind, .slice fa t.fs.length fc] tTy)) (.cells #[.int .i64 v.kind, .int .i64 v.n, .slice na v.names.length nc, .slice va v.vals.length vc] tVl)
    rw [World.size_alloc] at b2
    have hN := n1.trans n2
    obtain ⟨W, hW⟩ : ∃ W, W = (w.alloc (.cells #[.int .i64 t.kind, .slice fa t.fs.length fc] tTy)).alloc (.cells #[.int .i64 v.kind, .int .i64 v.n, .slice na v.names.length nc, .slice va v.vals.length vc] tVl) := ⟨_, rfl⟩
    rw [← hW] at hN b1 b2
    have HN := Lib.hid hN
    have HW := Lib.hid hW
    have c0 : W.cell? ⟨w.heap.size, 0, none⟩ = some (.int .i64 t.kind) := by rw [cells_cell b1]; rfl
    have c1 : W.cell? ⟨w.heap.size, 1, none⟩ = some (.slice fa t.fs.length fc) := by rw [cells_cell b1]; rfl
    have c2 : W.cell? ⟨w.heap.size + 1, 0, none⟩ = some (.int .i64 v.kind) := by rw [cells_cell b2]; rfl
    have HVB : Hid (∀ y, Nw W y → y.cell? ⟨w.heap.size + 1, 2, none⟩ = some (.slice na v.names.length nc) ∧ y.cell? ⟨w.heap.size + 1, 3, none⟩ = some (.slice va v.vals.length vc)) := fun y u => ⟨by rw [cells_cell (Nw.keep u b2)]; rfl, by rw [cells_cell (Nw.keep u b2)]; rfl⟩
    unfold maxLen at hfl
    have hfl1 : (t.fs.length : Int) ≤ 9223372036854775807 := by omega
    have HNL := Lib.hid (And.intro hnl hvl)
    clear ih hr hv ht hva hfc hnc hvc n1 n2 b1 b2 hN hW hnl hvl
    go_enter Tryz.func82, Tryz.ntmps82
    go_upto_region 1 with fail
    rw [← HW.out]
    clear HW
    by_cases hk : t.kind = v.kind
    rotate_left
    · have e0 : (t.kind == v.kind) = false := by simp [hk]
      have e9 : Hid (Fm.fits (d + 1) t v = false) := by
        show _ = _
        cases hc : Fm.fits (d + 1) t v with
        | false => rfl
        | true => exact absurd (Fm.fit_iff.1 hc).k hk
      clear hk HVC HNC HFC
      go_wp2_with fail
      go_ret
      exact ⟨by rw [e9.out]; rfl, HN.out⟩
    have e0 : (t.kind == v.kind) = true := by simp [hk]
    have e9 := Lib.hid (fits_eq (d := d) hk)
    have hclo : ∀ (y : World) (f : Str × Ty) (sv : Value), Nw W y → f ∈ t.fs → TyAt y sv f.2 → f.1.length ≤ maxLen → Calls Tryz.prog 124 #[.agg #[.string ⟨f.1.toArray⟩, .int .i64 f.2.kind, sv], .pointer (some ⟨w.heap.size + 1, 0, none⟩)] y fun e w' => e = .returned (.bool (!(decide (0 ≤ Fm.idx f.1 v.names) && Fm.fits d f.2 (v.at_ f.1)))) ∧ Nw y w' := fun y f sv u hf hsv hfl => by
      obtain ⟨sa, sc, rfl, -⟩ := hsv.cells
      have n1 := nw_alloc y (.cells #[.string ⟨f.1.toArray⟩, .int .i64 f.2.kind, .slice sa f.2.fs.length sc] tFd)
      have b1 := heap_new y (.cells #[.string ⟨f.1.toArray⟩, .int .i64 f.2.kind, .slice sa f.2.fs.length sc] tFd)
      obtain ⟨Y, hY⟩ : ∃ Y, Y = y.alloc (.cells #[.string ⟨f.1.toArray⟩, .int .i64 f.2.kind, .slice sa f.2.fs.length sc] tFd) := ⟨_, rfl⟩
      rw [← hY] at n1 b1
      have HY := Lib.hid hY
      obtain ⟨k2, k3⟩ := HVB.out Y (u.trans n1)
      have k0 : Y.cell? ⟨y.heap.size, 0, none⟩ = some (.string ⟨f.1.toArray⟩) := by rw [cells_cell b1]; rfl
      have hix := Lib.hid (index_s na nc v.names f.1 Y (HNC.out.nw (HN.out.trans (u.trans n1))) HNL.out.1)
      have HU := Lib.hid n1
      have l1 : ∀ i : Later Y, i.1.cell? ⟨y.heap.size, 1, none⟩ = some (.int .i64 f.2.kind) := fun i => by rw [cells_cell (Nw.keep i.nw b1)]; rfl
      have l2 : ∀ i : Later Y, i.1.cell? ⟨y.heap.size, 2, none⟩ = some (.slice sa f.2.fs.length sc) := fun i => by rw [cells_cell (Nw.keep i.nw b1)]; rfl
      have l3 : ∀ i : Later Y, i.1.cell? ⟨w.heap.size + 1, 3, none⟩ = some (.slice va v.vals.length vc) := fun i => (HVB.out i.1 ((u.trans n1).trans i.nw)).2
      rcases Fm.idx_cases f.1 v.names with ⟨hx, hno⟩ | ⟨i, hi, hx, he⟩
      · rw [hx] at hix ⊢
        clear HVC HNC HFC hno hx n1 b1 hY
        go_enter Tryz.func124, Tryz.ntmps124
        go_upto_region 1 with fail
        rw [← HY.out]
        clear HY
        go_wp2_with fail
        (with_reducible refine (hix.out).mono ?_)
        rintro _ _ ⟨rfl, rfl⟩
        go_wp2_with fail
        refine wp_region_nw (by kernel_rfl) (by kernel_rfl) ?_
        repeat (go_big_quiet_step ((fail)))
        refine wpQuiet_nil ?_
        intro w3 u3
        replace u3 := later_out u3
        go_wp2_with fail
        go_ret
        exact ⟨rfl, HU.out.trans u3⟩
      · have hiv : i < v.vals.length := by have := RV.out.len; omega
        have hat : v.at_ f.1 = v.vals[i] := by unfold Fm.Vl.at_; rw [hx]; simp [hiv]
        rw [hx] at hix
        rw [hx, hat, decide_eq_true (show (0 : Int) ≤ (i : Int) by omega), Bool.true_and]
        rcases HVC.out with hnil | ⟨b, off, rfl, hb, hc⟩
        · rw [hnil] at hiv; simp at hiv
        obtain ⟨nv', vv', q0, q1, q2, q3, q4⟩ := hc i hiv
        have uw := HN.out.trans (u.trans n1)
        have m0 : ∀ j : Later Y, j.1.cell? ⟨b, off + i * 4, none⟩ = some (.int .i64 (v.vals[i]).kind) := fun j => nw_cellF (uw.trans j.nw) q0
        have m1 : ∀ j : Later Y, j.1.cell? ⟨b, off + i * 4 + 1, none⟩ = some (.int .i64 (v.vals[i]).n) := fun j => nw_cellF (uw.trans j.nw) q1
        have m2 : ∀ j : Later Y, j.1.cell? ⟨b, off + i * 4 + 2, none⟩ = some nv' := fun j => nw_cellF (uw.trans j.nw) q2
        have m3 : ∀ j : Later Y, j.1.cell? ⟨b, off + i * 4 + 3, none⟩ = some vv' := fun j => nw_cellF (uw.trans j.nw) q3
        have hrec := Lib.hid (fun z (uz : Nw Y z) => IH.out f.2 _ v.vals[i] nv' vv' z (RT.out.sub f hf) (RV.out.all _ (List.getElem_mem hiv)) (hsv.nw (n1.trans uz)) (q4.nw (uw.trans uz)))
        obtain ⟨xa, xc, rfl, -⟩ := q4.names
        obtain ⟨ya, yc, rfl, -⟩ := q4.vals
        have hiv1 : (i : Int) < v.vals.length := by omega
        have hi0 : decide ((i : Int) < 0) = false := decide_eq_false (by omega)
        clear HVC HNC HFC hx n1 b1 hY hc q0 q1 q2 q3 q4 he hat uw
        generalize Fm.fits d f.2 v.vals[i] = rb at *
        generalize v.vals[i] = xv at *
        go_enter Tryz.func124, Tryz.ntmps124
        go_upto_region 1 with fail
        rw [← HY.out]
        clear HY
        go_wp2_with fail
        (with_reducible refine (hix.out).mono ?_)
        rintro _ _ ⟨rfl, rfl⟩
        go_wp2_with fail
        refine wp_region_nw (by kernel_rfl) (by kernel_rfl) ?_
        repeat (go_big_quiet_step ((go_at_call 82; exact later_call (hrec.out _ (Later.nw _)))))
        refine wpQuiet_nil ?_
        intro w3 u3
        replace u3 := later_out u3
        go_wp2_with fail
        go_ret
        exact ⟨rfl, HU.out.trans u3⟩
    have hany := containsFunc_f 124 (w.heap.size + 1) (fun args w => by rfl) (fun f => !(decide (0 ≤ Fm.idx f.1 v.names) && Fm.fits d f.2 (v.at_ f.1))) fa fc t.fs W (HFC.out.nw HN.out) (by unfold maxLen; omega) (fun y f sv u hf hsv hl => hclo y f sv u hf hsv hl)
    have Hany := Lib.hid hany
    clear hclo hany hk HVC HNC HFC
    generalize (t.fs.any fun f => !(decide (0 ≤ Fm.idx f.1 v.names) && Fm.fits d f.2 (v.at_ f.1))) = ab at *
    go_wp2_with fail
    (with_reducible refine (Hany.out).mono ?_)
    rintro _ w6 ⟨rfl, u6⟩
    have U6 := Lib.hid (HN.out.trans u6)
    clear u6
    go_wp2_with fail
    go_ret
    exact ⟨by rw [e9.out]; rfl, U6.out⟩
end Go.Proofs.YthagiklfmkdmaaaGreatDoor
namespace Go.Proofs.YthagiklfmkdmaaaGreatDoor
open Go.RowKit
set_option linter.unusedVariables false
set_option linter.unusedSimpArgs false
attribute [local irreducible] Calls
open Fm (Ty Vl Str nameB rightTy rightVl)

set_option maxRecDepth 100000 in
theorem evright_c (P : Nat → Prop) (nv vv : Value) (v : Vl) (w : World) (h : VlAt P w nv vv v) : Calls Tryz.prog 78 #[.agg #[.int .i64 v.kind, .int .i64 v.n, nv, vv]] w fun e w' => e = .returned (.bool (rightVl 4 v)) ∧ Nw w w' := by
  have n1 := nw_alloc w (.cells #[.int .i64 v.kind, .int .i64 v.n, nv, vv] tVl)
  have hr : Hid (∀ z, Nw w z → Calls Tryz.prog 119 #[.agg #[.int .i64 v.kind, .int .i64 v.n, nv, vv], .int .i64 4] z fun e w' => e = .returned (.bool (rightVl 4 v)) ∧ Nw z w') := fun z u2 => evfits_c P 4 (by decide) nv vv v z (h.nw u2)
  have HU := Lib.hid n1
  obtain ⟨na, nc, rfl, -⟩ := h.names
  obtain ⟨va, vc, rfl, -⟩ := h.vals
  have hr1 := Lib.hid (hr.out _ n1)
  clear hr n1 h
  go_enter Tryz.func78, Tryz.ntmps78
  go_wp2_with fail
  (with_reducible refine (hr1.out).mono ?_)
  rintro _ w2 ⟨rfl, u2⟩
  have U2 := Lib.hid (HU.out.trans u2)
  clear u2
  go_wp2_with fail
  go_ret
  exact ⟨rfl, U2.out⟩
set_option maxRecDepth 100000 in
theorem has_c (P : Nat → Prop) (fv : Value) (t : Ty) (nv vv : Value) (v : Vl) (w : World) (g : Gm w) (ht : TyAt w fv t) (h : VlAt P w nv vv v) : Calls Tryz.prog 48 #[.agg #[.int .i64 t.kind, fv], .agg #[.int .i64 v.kind, .int .i64 v.n, nv, vv]] w fun e w' => e = .returned (.bool (Fm.has t v)) ∧ Nw w w' := by
  have HR := Lib.hid (fun (z : World) (u : Nw w z) => types_right_c fv t z (g.upd u) (ht.nw u))
  have HE := Lib.hid (fun (z : World) (u : Nw w z) => evright_c P nv vv v z (h.nw u))
  have HF := Lib.hid (fun (z : World) (u : Nw w z) (h1 : rightTy 4 t = true) (h2 : rightVl 4 v = true) => stfits_c P 4 t fv v nv vv z h1 h2 (ht.nw u) (h.nw u))
  have hdef : Fm.has t v = (rightTy 4 t && rightVl 4 v && Fm.fits 4 t v) := rfl
  have HD := Lib.hid hdef
  obtain ⟨fa, fc, rfl, -⟩ := ht.cells
  obtain ⟨na, nc, rfl, -⟩ := h.names
  obtain ⟨va, vc, rfl, -⟩ := h.vals
  have n1 := nw_alloc w (.cells #[.int .i64 t.kind, .slice fa t.fs.length fc] tTy)
  have n2 := nw_alloc (w.alloc (.cells #[.int .i64 t.kind, .slice fa t.fs.length fc] tTy)) (.cells #[.int .i64 v.kind, .int .i64 v.n, .slice na v.names.length nc, .slice va v.vals.length vc] tVl)
  have b1 := n2.keep (heap_new w (.cells #[.int .i64 t.kind, .slice fa t.fs.length fc] tTy))
  have b2 := heap_new (w.alloc (.cells #[.int .i64 t.kind, .slice fa t.fs.length fc] tTy)) (.cells #[.int .i64 v.kind, .int .i64 v.n, .slice na v.names.length nc, .slice va v.vals.length vc] tVl)
  rw [World.size_alloc] at b2
  have hN := n1.trans n2
  obtain ⟨W, hW⟩ : ∃ W, W = (w.alloc (.cells #[.int .i64 t.kind, .slice fa t.fs.length fc] tTy)).alloc (.cells #[.int .i64 v.kind, .int .i64 v.n, .slice na v.names.length nc, .slice va v.vals.length vc] tVl) := ⟨_, rfl⟩
  rw [← hW] at hN b1 b2
  have HN := Lib.hid hN
  have HW := Lib.hid hW
  have HC := Lib.hid (fun (y : World) (u : Nw W y) => (show (y.cell? ⟨w.heap.size, 0, none⟩ = some (.int .i64 t.kind) ∧ y.cell? ⟨w.heap.size, 1, none⟩ = some (.slice fa t.fs.length fc)) ∧ y.cell? ⟨w.heap.size + 1, 0, none⟩ = some (.int .i64 v.kind) ∧ y.cell? ⟨w.heap.size + 1, 1, none⟩ = some (.int .i64 v.n) ∧ y.cell? ⟨w.heap.size + 1, 2, none⟩ = some (.slice na v.names.length nc) ∧ y.cell? ⟨w.heap.size + 1, 3, none⟩ = some (.slice va v.vals.length vc) from ⟨⟨by rw [cells_cell (Nw.keep u b1)]; rfl, by rw [cells_cell (Nw.keep u b1)]; rfl⟩, by rw [cells_cell (Nw.keep u b2)]; rfl, by rw [cells_cell (Nw.keep u b2)]; rfl, by rw [cells_cell (Nw.keep u b2)]; rfl, by rw [cells_cell (Nw.keep u b2)]; rfl⟩))
  have hr1 := Lib.hid (HR.out W hN)
  obtain ⟨⟨c0, c1⟩, _⟩ := HC.out W (Upd.refl _ _)
  clear n1 n2 b1 b2 hN hW ht h HR hdef
  go_enter Tryz.func48, Tryz.ntmps48
  go_upto_region 1 with fail
  rw [← HW.out]
  clear HW
  cases h1 : rightTy 4 t with
  | false =>
    rw [h1] at hr1
    have e9 : Hid (Fm.has t v = false) := by show _ = _; rw [HD.out, h1]; rfl
    clear h1 HE HF
    go_wp2_with fail
    (with_reducible refine (hr1.out).mono ?_)
    rintro _ w2 ⟨rfl, u2⟩
    have U2 := Lib.hid u2
    clear u2
    go_wp2_with fail
    go_ret
    exact ⟨by rw [e9.out]; rfl, HN.out.trans U2.out⟩
  | true =>
  rw [h1] at hr1
  go_wp2_with fail
  (with_reducible refine (hr1.out).mono ?_)
  rintro _ w2 ⟨rfl, u2⟩
  have he1 := Lib.hid (HE.out w2 (HN.out.trans u2))
  obtain ⟨_, d0, d1, d2, d3⟩ := HC.out w2 u2
  have U2 := Lib.hid u2
  clear u2 hr1 c0 c1 HE
  cases h2 : rightVl 4 v with
  | false =>
    rw [h2] at he1
    have e9 : Hid (Fm.has t v = false) := by show _ = _; rw [HD.out, h1, h2]; rfl
    clear h1 h2 HF
    go_wp2_with fail
    (with_reducible refine (he1.out).mono ?_)
    rintro _ w3 ⟨rfl, u3⟩
    have U3 := Lib.hid (U2.out.trans u3)
    clear u3
    go_wp2_with fail
    go_ret
    exact ⟨by rw [e9.out]; rfl, HN.out.trans U3.out⟩
  | true =>
  rw [h2] at he1
  have e9 : Hid (Fm.has t v = Fm.fits 4 t v) := by show _ = _; rw [HD.out, h1, h2]; rfl
  go_wp2_with fail
  (with_reducible refine (he1.out).mono ?_)
  rintro _ w3 ⟨rfl, u3⟩
  have hf1 := Lib.hid (HF.out w3 (HN.out.trans (U2.out.trans u3)) h1 h2)
  obtain ⟨⟨x0, x1⟩, y0, y1, y2, y3⟩ := HC.out w3 (U2.out.trans u3)
  have U3 := Lib.hid (U2.out.trans u3)
  clear u3 he1 d0 d1 d2 d3 HF h1 h2
  generalize Fm.fits 4 t v = fb at *
  go_wp2_with fail
  (with_reducible refine (hf1.out).mono ?_)
  rintro _ w4 ⟨rfl, u4⟩
  have U4 := Lib.hid (U3.out.trans u4)
  clear u4
  go_wp2_with fail
  go_ret
  exact ⟨by rw [e9.out]; rfl, HN.out.trans U4.out⟩
/-! ### A value that is being built -/
structure VB (B : Nat) (w : World) (nv vv : Value) (N : List Str) (C : List VC) : Prop where
  on : w.ownsRow B 9 1 nv N.length (N.map sF)
  ov : w.ownsRow B tVl 4 vv C.length (C.map vcL).flatten
  el : ∀ c ∈ C, VlAt (fun k => B ≤ k ∧ nv.ownBlock ≠ some k ∧ vv.ownBlock ≠ some k) w c.nv c.vv c.v
  ln : ∀ s ∈ N, s.length ≤ maxLen
section
variable {B : Nat} {w w' : World} {nv vv : Value} {N : List Str} {C : List VC}
theorem VB.nil (B : Nat) (w : World) : VB B w (.slice none 0 0) (.slice none 0 0) [] [] :=
  ⟨World.ownsRow_nil _ _ _ _, World.ownsRow_nil _ _ _ _, fun c hc => (by cases hc), fun c hc => (by cases hc)⟩
theorem VB.upd {S : Nat → Prop} (h : VB B w nv vv N C) (u : Upd S w w') (hs : ∀ k, B ≤ k → k < w.heap.size → ¬ S k) : VB B w' nv vv N C :=
  ⟨owns_upd' h.on u (fun k e => hs k (h.on.lt k e).1 (h.on.lt k e).2), owns_upd' h.ov u (fun k e => hs k (h.ov.lt k e).1 (h.ov.lt k e).2), fun c hc => ((h.el c hc).mono (Q := fun k => (B ≤ k ∧ nv.ownBlock ≠ some k ∧ vv.ownBlock ≠ some k) ∧ k < w.heap.size) (fun k hk p => ⟨p, hk⟩)).upd u (fun k p => hs k p.1.1 p.2) |>.mono (fun k _ p => p.1), h.ln⟩
theorem VB.nw (h : VB B w nv vv N C) (u : Nw w w') : VB B w' nv vv N C := h.upd u (fun _ _ _ s => s)
theorem VB.ne (h : VB B w nv vv N C) : ∀ k, nv.ownBlock = some k → vv.ownBlock ≠ some k := fun k e e2 => by
  obtain ⟨_, c1, h1⟩ := own_block h.on e
  obtain ⟨_, c2, h2⟩ := own_block h.ov e2
  rw [h1] at h2
  injection h2 with h2
  injection h2 with _ h2
  exact absurd h2 (by decide)
/-- The value is done. -/
theorem VB.done (h : VB B w nv vv N C) {k n : Int} (hk : I64 k) (hn : I64 n) : VlAt (fun k => B ≤ k) w nv vv (.mk k n N (C.map VC.v)) :=
  .mk N C (SlP.of_sl (Sl.of_owns h.on) (fun k h1 _ _ => h1)) (SlSP.of_sls (SlS.of_owns h.ov (by simp) (by omega) (fun y hy => by
    obtain ⟨c, _, rfl⟩ := List.mem_map.1 hy
    rfl)) (fun k h1 _ _ => h1)) hk hn h.ln (fun c hc => (h.el c hc).mono (fun k _ p => p.1))
/-- A name and a value more. -/
theorem VB.push {wa wb wc wd we : World} {nv' vv' xn xv : Value} {s : Str} {v : Vl} (h : VB B w nv vv N C) (hs : s.length ≤ maxLen) (hB : B ≤ w.heap.size) (u0 : Nw w wa)
    (o1 : wb.ownsRow B 9 1 nv' (N.length + 1) (N.map sF ++ [sF s])) (ua : Upd (fun k => nv.ownBlock = some k) wa wb) (hb1 : ∀ k, nv'.ownBlock = some k → nv.ownBlock = some k ∨ wa.heap.size ≤ k)
    (u1 : Nw wb wc) (hx : VlAt (fun k => B ≤ k ∧ nv'.ownBlock ≠ some k ∧ vv.ownBlock ≠ some k) wc xn xv v) (u2 : Nw wc wd)
    (o2 : we.ownsRow B tVl 4 vv' (C.length + 1) ((C.map vcL).flatten ++ vcL ⟨xn, xv, v⟩)) (ue : Upd (fun k => vv.ownBlock = some k) wd we) (hb2 : ∀ k, vv'.ownBlock = some k → vv.ownBlock = some k ∨ wd.heap.size ≤ k) :
    VB B we nv' vv' (N ++ [s]) (C ++ [⟨xn, xv, v⟩]) ∧ Upd (fun k => nv.ownBlock = some k ∨ vv.ownBlock = some k) w we := by
  have hne := h.ne
  have z0 := u0.size
  have za := ua.size
  have z1 := u1.size
  have z2 := u2.size
  have U : Upd (fun k => nv.ownBlock = some k ∨ vv.ownBlock = some k) w we := (((Nw.trans u0 ua).mono (S' := fun k => nv.ownBlock = some k ∨ vv.ownBlock = some k) (fun k _ e => Or.inl e)).nw (u1.trans u2)).trans' ue (fun k _ e => Or.inr e)
  have nb : ∀ k, nv'.ownBlock = some k → vv.ownBlock ≠ some k := fun k e e2 => by
    rcases hb1 k e with e1 | e1
    · exact hne k e1 e2
    · have := (h.ov.lt k e2).2; omega
  refine ⟨⟨?_, ?_, fun c hc => ?_, fun x hx => ?_⟩, U⟩
  · rw [List.length_append, List.map_append]
    exact owns_upd' (owns_upd' o1 (u1.trans u2) (fun _ _ e => e)) ue (fun k e e2 => nb k e e2)
  · rw [List.length_append, List.map_append, List.flatten_append]
    simpa using o2
  · rcases List.mem_append.1 hc with hc | hc
    · have e1 := ((h.el c hc).mono (Q := fun k => (B ≤ k ∧ nv.ownBlock ≠ some k ∧ vv.ownBlock ≠ some k) ∧ k < w.heap.size) (fun k hk p => ⟨p, hk⟩)).upd U (fun k p e => e.elim p.1.2.1 p.1.2.2)
      refine e1.mono (fun k _ p => ⟨p.1.1, fun e => ?_, fun e => ?_⟩)
      · rcases hb1 k e with e2 | e2
        · exact p.1.2.1 e2
        · have := p.2; omega
      · rcases hb2 k e with e2 | e2
        · exact p.1.2.2 e2
        · have := p.2; omega
    · rw [List.mem_singleton.1 hc]
      have e1 := (hx.mono (Q := fun k => (B ≤ k ∧ nv'.ownBlock ≠ some k ∧ vv.ownBlock ≠ some k) ∧ k < wc.heap.size) (fun k hk p => ⟨p, hk⟩)).upd (Nw.trans u2 ue) (fun k p e => p.1.2.2 e)
      refine e1.mono (fun k _ p => ⟨p.1.1, p.1.2.1, fun e => ?_⟩)
      rcases hb2 k e with e2 | e2
      · exact p.1.2.2 e2
      · have := p.2; omega
  · rcases List.mem_append.1 hx with hx | hx
    · exact h.ln x hx
    · rw [List.mem_singleton.1 hx]; exact hs
end
end Go.Proofs.YthagiklfmkdmaaaGreatDoor
namespace Go.Proofs.YthagiklfmkdmaaaGreatDoor
open Go.RowKit
set_option linter.unusedVariables false
set_option linter.unusedSimpArgs false

theorem step_catC {P : Program} {w : World} {ops : Array Oper} {o : Oper} {a : Act} {K : Act → World → Prop} {Q : Exit → Act → World → Prop} {E : Prop} (hgd : o.guard = none) (s x : Operand) (t : TypeId)
    (ho : o.op = .call { callee := .builtin .append, args := #[s, x], argTypes := #[t, t] })
    (e : TypeId) (z : Value) (size bytes : Nat) (ht : P.underlying t = some (.slice e)) (hinfo : (P.info? e).map (fun i => (i.zero, i.size, i.bytes)) = some (some z, size, bytes)) (hzs : z.cells.size = size) (hsz : 0 < size)
    (B : Nat) (hB : B ≤ w.heap.size) (hg : nG ≤ B) (v : Value) (n : Nat) (xs : List Value) (hs : a.eval s = v) (hown : w.ownsRow B e size v n xs)
    (ad : Addr) (m c : Nat) (news : List Value) (hx : a.eval x = .slice (some ad) m c) (hl : news.length = m * size) (hnews : ∀ j u, news[j]? = some u → w.cell? (ad.add j) = some u) (h1 : ∀ u ∈ news, u.oneCell' = true)
    (hm : 0 < m) (h63 : n + m ≤ maxLen) (hbytes : (n + m) * bytes ≤ 140737488355328)
    (h : ∀ g cap w', w'.ownsRow B e size (.slice (some ⟨g, 0, none⟩) (n + m) cap) (n + m) (xs ++ news) → Upd (fun k => v.ownBlock = some k) w w' → (v.ownBlock = some g ∨ w.heap.size ≤ g) → K (a.put o.dst (.slice (some ⟨g, 0, none⟩) (n + m) cap)) w') :
    if Region.wanted o (yielded ops a.tmps) = true then Oper.wp P o a w K Q else E := by
  obtain ⟨i0, hi, hz0, hz1, hz2⟩ := info_parts hinfo
  refine step_append_lies _ hgd s x t ho B e i0 z size bytes ht hi hz0 hz1 hz2 hzs hsz v n xs hs hown ad m c news hx hl hnews h1 hm h63 hbytes hB w.heap.size rfl fun g cap w' h2 h3 h4 h5 => h g cap w' h2 ((Upd.refl _ _).grown h3 fun k hk => ⟨Or.inl hk, ?_⟩) (h4.imp id (fun e => by omega))
  have := (hown.lt k hk).1; omega
end Go.Proofs.YthagiklfmkdmaaaGreatDoor
namespace Go.Proofs.YthagiklfmkdmaaaGreatDoor
open Go.RowKit
set_option linter.unusedVariables false
set_option linter.unusedSimpArgs false

section
variable {P : Program} {ops : Array Oper} {Q : Exit → Act → World → Prop} {md : Region.Mode} {S : World → Prop} {k : Nat}

/-- What has come up has come up behind all that it waits for. -/
def Closed (md : Region.Mode) (ops : Array Oper) (listed : Array Bool) : Prop := ∀ j oj, ops[j]? = some oj → listed.getD j false = true → ∀ e ∈ oj.after, Region.binds md e = true → listed.getD e.on false = true
def closedB (md : Region.Mode) (ops : Array Oper) (listed : Array Bool) : Bool :=
  (List.range ops.size).all fun j => !listed.getD j false || (match ops[j]? with | some oj => oj.after.all fun e => !Region.binds md e || listed.getD e.on false | none => true)
theorem closed_of {listed : Array Bool} (h : closedB md ops listed = true) : Closed md ops listed := by
  intro j oj hj hl e he hb
  unfold closedB at h
  rw [List.all_eq_true] at h
  have h1 := h j (List.mem_range.2 (Array.getElem?_eq_some_iff.1 hj).1)
  rw [hl, hj] at h1
  simp only [Bool.not_true, Bool.false_or] at h1
  have h2 := Array.all_eq_true'.1 h1 e he
  rw [hb] at h2
  simpa using h2
theorem Closed.set {i : Nat} {listed : Array Bool} (inv : Closed md ops listed) (hi : i ∈ Region.ready md ops listed) : Closed md ops (listed.setIfInBounds i true) := by
  obtain ⟨_, oi, hoi, hall⟩ := mem_ready.1 hi
  intro j oj hj hl e he hb
  by_cases hij : i = j
  · subst hij
    have : oj = oi := Option.some.inj (hj.symm.trans hoi)
    subst this
    exact getD_set_true (hall e he hb)
  · rw [getD_set_ne false hij] at hl
    exact getD_set_true (inv j oj hj hl e he hb)
/-- Number k waits for number i, by way of others. -/
def leads (md : Region.Mode) (ops : Array Oper) : Nat → List Nat → Nat → Bool
  | k, [], i => Region.waitsFor md ops k i
  | k, j :: p, i => Region.waitsFor md ops k j && leads md ops j p i
theorem leads_spec {listed : Array Bool} (hc : Closed md ops listed) {i : Nat} : ∀ (p : List Nat) (k : Nat), leads md ops k p i = true → listed.getD k false = true → listed.getD i false = true
  | [], k, h, hk => by
    obtain ⟨oj, hoj, e, he, hb, hon⟩ := Region.waitsFor_spec h
    have := hc k oj hoj hk e he hb
    rwa [hon] at this
  | j :: p, k, h, hk => by
    unfold leads at h
    rw [Bool.and_eq_true] at h
    obtain ⟨oj, hoj, e, he, hb, hon⟩ := Region.waitsFor_spec h.1
    have := hc k oj hoj hk e he hb
    rw [hon] at this
    exact leads_spec hc p j h.2 this
/-- Whatever order is picked from here on, and S holds behind every operation till number k has come up. -/
def wpAnyG (P : Program) (md : Region.Mode) (ops : Array Oper) (Q : Exit → Act → World → Prop) (S : World → Prop) (k : Nat) : Nat → Array Bool → Act → World → Prop
  | 0, listed, a, w => Region.ready md ops listed = [] ∧ Q .normal a w
  | fuel + 1, listed, a, w =>
    (Region.ready md ops listed = [] → Q .normal a w) ∧
    ∀ i ∈ Region.ready md ops listed, wpOp P ops Q i (fun a' w' => ((listed.setIfInBounds i true).getD k false = false → S w') ∧ wpAnyG P md ops Q S k fuel (listed.setIfInBounds i true) a' w') a w
theorem wpAny_of_G : ∀ (fuel : Nat) (listed : Array Bool) (a : Act) (w : World), wpAnyG P md ops Q S k fuel listed a w → wpAny P md ops Q fuel listed a w
  | 0, _, _, _, h => h
  | fuel + 1, _, _, _, h => ⟨h.1, fun i hi => wpOp_mono (fun a' w' h' => wpAny_of_G fuel _ a' w' h'.2) (h.2 i hi)⟩
theorem wpAnyG_first {S' : World → Prop} {i : Nat} {oi : Oper} {v : Value} (hi : ops[i]? = some oi) (hik : i ≠ k) (hsel : ∀ (j : Nat) (o : Oper) cs b, ops[j]? = some o → o.op ≠ .select cs b)
    (hQ : ∀ c a w, Q (.panic c) (a.put oi.dst v) w → Q (.panic c) a w) (hT : ∀ listed w, Closed md ops listed → listed.getD i true = false → (listed.getD k false = false → S w) → S' w) :
    ∀ (fuel : Nat) (listed : Array Bool) (a : Act) (w : World),
      (∀ j oj, ops[j]? = some oj → j ≠ i → listed.getD j true = false → (∀ e ∈ oj.after, Region.binds md e = true → e.on ≠ i) → oi.apart ops oj = true) →
      Closed md ops listed → i ∈ Region.ready md ops listed → YieldsIf P ops S' oi v a → (listed.getD k false = false → S w) →
      wpAnyG P md ops Q S k fuel (listed.setIfInBounds i true) (a.put oi.dst v) w → wpAnyG P md ops Q S k (fuel + 1) listed a w := by
  intro fuel
  induction fuel with
  | zero =>
    intro listed a w _ hc hr hy hS H
    refine ⟨fun h => (by rw [h] at hr; cases hr), fun j hj => ?_⟩
    by_cases hji : j = i
    · subst hji
      exact hy.wpOp hi (hT _ _ hc (mem_ready.1 hr).1 hS) ⟨fun h => hS (by rwa [getD_set_ne false hik] at h), H⟩
    · have := ready_mono hj hji
      rw [H.1] at this
      cases this
  | succ fuel ih =>
    intro listed a w hfree hc hr hy hS H
    refine ⟨fun h => (by rw [h] at hr; cases hr), fun j hj => ?_⟩
    by_cases hji : j = i
    · subst hji
      exact hy.wpOp hi (hT _ _ hc (mem_ready.1 hr).1 hS) ⟨fun h => hS (by rwa [getD_set_ne false hik] at h), H⟩
    · have h1 := H.2 j (ready_mono hj hji)
      obtain ⟨hjun, oj, hoj, hall⟩ := mem_ready.1 hj
      have hiun := (mem_ready.1 hr).1
      have hnot : ∀ e ∈ oj.after, Region.binds md e = true → e.on ≠ i := fun e he hb heq => by
        have h1 := hall e he hb
        rw [heq, getD_both hiun] at h1
        cases h1
      have h2 := wpOp_putIf hoj (hfree j oj hoj hji hjun hnot) (fun cs b => hsel i oi cs b hi) (fun cs b => hsel j oj cs b hoj) hQ hy h1
      have hfree' : ∀ k ok, ops[k]? = some ok → k ≠ i → (listed.setIfInBounds j true).getD k true = false →
          (∀ e ∈ ok.after, Region.binds md e = true → e.on ≠ i) → oi.apart ops ok = true := fun k ok hk hki hun hno => by
        refine hfree k ok hk hki ?_ hno
        by_cases hjk : j = k
        · subst hjk; exact hjun
        · rw [getD_set_ne true hjk] at hun; exact hun
      refine wpOp_mono (fun a' w' h3 => ?_) h2
      have hS' : (listed.setIfInBounds j true).getD k false = false → S w' := fun h => h3.2.1 (by
        rw [Array.setIfInBounds_comm _ _ (Ne.symm hji), getD_set_ne false hik]
        exact h)
      refine ⟨hS', ih (listed.setIfInBounds j true) a' w' hfree' (hc.set hj) (ready_mono hr (Ne.symm hji)) h3.1 hS' ?_⟩
      rw [Array.setIfInBounds_comm _ _ hji]
      exact h3.2.2
/-- Take number i first: it yields in whatever world. -/
theorem wpAnyG_pure {i : Nat} {oi : Oper} {v : Value} {fuel : Nat} {listed : Array Bool} {a : Act} {w : World} (hi : ops[i]? = some oi) (hik : (i == k) = false)
    (hs : Region.noSelect ops = true) (hf : Region.free md ops listed i = true) (hr : (Region.ready md ops listed).contains i = true) (hc : closedB md ops listed = true)
    (hQ : ∀ c a w, Q (.panic c) (a.put oi.dst v) w → Q (.panic c) a w) (hw : Region.wanted oi (yielded ops a.tmps) = true) (hy : ∀ w, (execOp a.eval oi).run P w = .ok (.value v) w) (hS : listed.getD k false = false → S w)
    (h : wpAnyG P md ops Q S k fuel (listed.setIfInBounds i true) (a.put oi.dst v) w) : wpAnyG P md ops Q S k (fuel + 1) listed a w :=
  wpAnyG_first (S' := fun _ => True) hi (by simpa using hik) (Region.noSelect_spec hs) hQ (fun _ _ _ _ _ => trivial) fuel listed a w (Region.free_spec hi hf) (closed_of hc) (by simpa using hr) (Or.inl ⟨hw, fun w _ => hy w⟩) hS h
/-- Take number i first: it yields in the worlds of S, and number k waits for it. -/
theorem wpAnyG_load {i : Nat} {oi : Oper} {v : Value} {fuel : Nat} {listed : Array Bool} {a : Act} {w : World} (p : List Nat) (hi : ops[i]? = some oi) (hik : (i == k) = false) (hp : leads md ops k p i = true)
    (hs : Region.noSelect ops = true) (hf : Region.free md ops listed i = true) (hr : (Region.ready md ops listed).contains i = true) (hc : closedB md ops listed = true)
    (hQ : ∀ c a w, Q (.panic c) (a.put oi.dst v) w → Q (.panic c) a w) (hw : Region.wanted oi (yielded ops a.tmps) = true) (hy : ∀ w, S w → (execOp a.eval oi).run P w = .ok (.value v) w) (hS : listed.getD k false = false → S w)
    (h : wpAnyG P md ops Q S k fuel (listed.setIfInBounds i true) (a.put oi.dst v) w) : wpAnyG P md ops Q S k (fuel + 1) listed a w :=
  wpAnyG_first (S' := S) hi (by simpa using hik) (Region.noSelect_spec hs) hQ (fun l w hcl hun hSw => hSw (by
    cases hb : l.getD k false with
    | false => rfl
    | true =>
      have := leads_spec hcl p k hp hb
      rw [getD_both hun] at this
      cases this)) fuel listed a w (Region.free_spec hi hf) (closed_of hc) (by simpa using hr) (Or.inl ⟨hw, hy⟩) hS h
/-- The beginning. -/
theorem wp_region_G {id : Nat} {a : Act} {w : World} (S : World → Prop) (k : Nat) (hm : P.follows .mixedOrders = true) (h : wpAnyG P .any ops Q S k ops.size (Array.replicate ops.size false) a w.drew) : (Code.region id ops true).wp P Q a w :=
  wp_region_any hm (wpAny_of_G _ _ _ _ h)
/-- Whichever comes up next. -/
def AllG (P : Program) (md : Region.Mode) (ops : Array Oper) (Q : Exit → Act → World → Prop) (S : World → Prop) (k : Nat) (fuel : Nat) (listed : Array Bool) (a : Act) (w : World) (rs : List Nat) : Prop :=
  ∀ i ∈ rs, wpOp P ops Q i (fun a' w' => ((listed.setIfInBounds i true).getD k false = false → S w') ∧ wpAnyG P md ops Q S k fuel (listed.setIfInBounds i true) a' w') a w
theorem AllG.nil {fuel : Nat} {listed : Array Bool} {a : Act} {w : World} : AllG P md ops Q S k fuel listed a w [] := fun _ h => by cases h
theorem AllG.cons {fuel : Nat} {listed : Array Bool} {a : Act} {w : World} {i : Nat} {o : Oper} {rs : List Nat} (ho : ops[i]? = some o)
    (h : ∀ K' : Act → World → Prop, Hid (∀ a w, ((listed.setIfInBounds i true).getD k false = false → S w) → wpAnyG P md ops Q S k fuel (listed.setIfInBounds i true) a w → K' a w) → if Region.wanted o (yielded ops a.tmps) = true then Oper.wp P o a w K' Q else K' (a.put o.dst undef) w)
    (hs : AllG P md ops Q S k fuel listed a w rs) : AllG P md ops Q S k fuel listed a w (i :: rs) := fun j hj => by
  rcases List.mem_cons.1 hj with rfl | hj
  · exact wpOp_step ho (fun K' hK => h K' (fun a w hS hW => hK a w ⟨hS, hW⟩))
  · exact hs j hj
theorem wpAnyG_ready {fuel : Nat} {listed : Array Bool} {a : Act} {w : World} (rs : List Nat) (hr : Region.ready md ops listed = rs) (hne : rs ≠ [])
    (h : AllG P md ops Q S k fuel listed a w rs) : wpAnyG P md ops Q S k (fuel + 1) listed a w := ⟨fun h0 => absurd (hr ▸ h0) hne, hr ▸ h⟩
theorem wpAnyG_done {listed : Array Bool} {a : Act} {w : World} (hr : Region.ready md ops listed = []) (h : Q .normal a w) :
    ∀ fuel, wpAnyG P md ops Q S k fuel listed a w
  | 0 => ⟨hr, h⟩
  | _ + 1 => ⟨fun _ => h, by rw [hr]; simp⟩
end
end Go.Proofs.YthagiklfmkdmaaaGreatDoor
namespace Go.Proofs.YthagiklfmkdmaaaGreatDoor
open Go.RowKit
set_option linter.unusedVariables false
set_option linter.unusedSimpArgs false
attribute [local irreducible] Calls
open Fm (Ty Vl Str nameB rightTy rightVl)

theorem infoStrF : (Tryz.prog.info? 9).map (fun i => (i.zero, i.size, i.bytes)) = some (some (.string ⟨#[]⟩), 1, 16) := by kernel_rfl
theorem infoVlF : (Tryz.prog.info? tVl).map (fun i => (i.zero, i.size, i.bytes)) = some (some (.agg #[.int .i64 0, .int .i64 0, .slice none 0 0, .slice none 0 0]), 4, 64) := by kernel_rfl
theorem own_slF {w : World} {B : Nat} {e : TypeId} {sz n : Nat} {v : Value} {xs : List Value} (h : w.ownsRow B e sz v n xs) : ∃ a cap, v = .slice a n cap := by
  rcases h.2 with ⟨rfl, rfl⟩ | ⟨g, cap, cur, rfl, _⟩
  · exact ⟨none, 0, rfl⟩
  · exact ⟨_, _, rfl⟩
theorem zero_results (tmps : Array Value) (w : World) {r : Nat} {k n : Int} {nv vv : Value} (hr : tmps.getD 2 undef = .pointer (some ⟨r, 0, none⟩)) (hb : w.heap[r]? = some (.cells #[.int .i64 k, .int .i64 n, nv, vv] tVl (0, 0))) :
    (results Tryz.f55 tmps).run Tryz.prog w = .ok (.agg #[.int .i64 k, .int .i64 n, nv, vv]) w := by
  have c0 : w.cell? ⟨r, 0, none⟩ = some (.int .i64 k) := by rw [cells_cell hb]; rfl
  have c1 : w.cell? ⟨r, 1, none⟩ = some (.int .i64 n) := by rw [cells_cell hb]; rfl
  have c2 : w.cell? ⟨r, 2, none⟩ = some nv := by rw [cells_cell hb]; rfl
  have c3 : w.cell? ⟨r, 3, none⟩ = some vv := by rw [cells_cell hb]; rfl
  rw [Array.getD_eq_getD_getElem?] at hr
  simp [results, Tryz.results55, go_sem, hr, c0, c1, c2, c3]
set_option maxHeartbeats 8000000 in
set_option maxRecDepth 100000 in
theorem zero_c : ∀ (d : Nat), d ≤ 4 → ∀ (t : Ty) (fv : Value) (w : World), Gm w → rightTy d t = true → TyAt w fv t →
    Calls Tryz.prog 55 #[.agg #[.int .i64 t.kind, fv]] w fun e w' => ∃ nv vv, e = .returned (.agg #[.int .i64 (Fm.zero d t).kind, .int .i64 (Fm.zero d t).n, nv, vv]) ∧ VlAt (fun k => w.heap.size ≤ k) w' nv vv (Fm.zero d t) ∧ Nw w w' := by
  intro d
  induction d with
  | zero => intro _ t fv w g h; cases h
  | succ d ih =>
    intro hd t fv w g hr ht
    have IH := Lib.hid (ih (by omega))
    have RT := Lib.hid (Fm.rt_iff.1 hr)
    have hR4 := Fm.right_le hr hd
    have hgb := g.g.big
    obtain ⟨fa, fc, rfl, hfl, hfc⟩ := ht.cells
    have HFC : Hid (FdC w fa t.fs) := hfc
    have hk := ht.kind
    have n1 := nw_alloc w (.cells #[.int .i64 t.kind, .slice fa t.fs.length fc] tTy)
    have n2 := nw_alloc (w.alloc (.cells #[.int .i64 t.kind, .slice fa t.fs.length fc] tTy)) (.cells #[.int .i64 0, .int .i64 0, .slice none 0 0, .slice none 0 0] tVl)
    have b1 := n2.keep (heap_new w (.cells #[.int .i64 t.kind, .slice fa t.fs.length fc] tTy))
    have b2 := heap_new (w.alloc (.cells #[.int .i64 t.kind, .slice fa t.fs.length fc] tTy)) (.cells #[.int .i64 0, .int .i64 0, .slice none 0 0, .slice none 0 0] tVl)
    rw [World.size_alloc] at b2
    have hN := n1.trans n2
    obtain ⟨W, hW⟩ : ∃ W, W = (w.alloc (.cells #[.int .i64 t.kind, .slice fa t.fs.length fc] tTy)).alloc (.cells #[.int .i64 0, .int .i64 0, .slice none 0 0, .slice none 0 0] tVl) := ⟨_, rfl⟩
    rw [← hW] at hN b1 b2
    have hr1 := types_right_c _ t W (g.upd hN) (ht.nw hN)
    rw [hR4] at hr1
    have HR := Lib.hid hr1
    have HN := Lib.hid hN
    have HW := Lib.hid hW
    have c0 : W.cell? ⟨w.heap.size, 0, none⟩ = some (.int .i64 t.kind) := by rw [cells_cell b1]; rfl
    have c1 : W.cell? ⟨w.heap.size, 1, none⟩ = some (.slice fa t.fs.length fc) := by rw [cells_cell b1]; rfl
    have HB1 := Lib.hid b1
    have HB2 := Lib.hid b2
    have hfl1 : (t.fs.length : Int) ≤ 8 := by have := RT.out.len; omega
    have HK := Lib.hid hk
    clear ih hr hfc n1 n2 b1 b2 hN hW hr1 hfl hR4 hk ht
    go_enter Tryz.func55, Tryz.ntmps55
    go_upto_region 1 with fail
    rw [← HW.out]
    clear HW
    go_wp2_with fail
    (with_reducible refine (HR.out).mono ?_)
    rintro _ w2 ⟨rfl, u2⟩
    have k0 := nw_cellF u2 c0
    have U2 := Lib.hid (HN.out.trans u2)
    have hb1 := Nw.keep u2 HB1.out
    have hb2 := Nw.keep u2 HB2.out
    -- the box of the value that is built
    have n3 := nw_alloc w2 (.cells #[.int .i64 t.kind, .int .i64 0, .slice none 0 0, .slice none 0 0] tVl)
    have b3 := heap_new w2 (.cells #[.int .i64 t.kind, .int .i64 0, .slice none 0 0, .slice none 0 0] tVl)
    obtain ⟨W3, hW3⟩ : ∃ y, y = w2.alloc (.cells #[.int .i64 t.kind, .int .i64 0, .slice none 0 0, .slice none 0 0] tVl) := ⟨_, rfl⟩
    rw [← hW3] at n3 b3
    have HW3 := Lib.hid hW3
    have U3 := Lib.hid (U2.out.trans n3)
    have HB13 := Lib.hid (Nw.keep n3 hb1)
    have HB23 := Lib.hid (Nw.keep n3 hb2)
    have HB3 := Lib.hid b3
    have x1 : W3.cell? ⟨w.heap.size, 1, none⟩ = some (.slice fa t.fs.length fc) := by rw [cells_cell HB13.out]; rfl
    have hz2 : w.heap.size + 2 ≤ w2.heap.size := by have := lt_of_block hb2; omega
    have hz3 : W3.heap.size = w2.heap.size + 1 := by rw [hW3]; simp
    have HZ := Lib.hid (And.intro hz2 hz3)
    clear u2 hb1 hb2 n3 b3 hW3 hz2 hz3 HR c0 c1
    go_upto_region 4 with fail
    rw [← HW3.out]
    clear HW3 k0
    generalize w2.heap.size = q at *
    go_wp2_with fail
    go_loopw [16] (fun iv wr => ∃ n : Nat, n ≤ t.fs.length ∧ iv = .int .i64 (n : Int) ∧ Hid (∃ nv vv C, wr.heap[q]? = some (.cells #[.int .i64 t.kind, .int .i64 0, nv, vv] tVl (0, 0)) ∧ VB (q + 1) wr nv vv ((t.fs.take n).map (·.1)) C ∧ C.map VC.v = (t.fs.take n).map (fun f => Fm.zero d f.2)) ∧ Hid (Upd (fun k => k = q) W3 wr)) (fun iv _ => t.fs.length - (intOf iv).toNat)
    case atStart => exact ⟨0, Nat.zero_le _, rfl, ⟨_, _, [], HB3.out, VB.nil _ _, rfl⟩, Upd.refl _ _⟩
    case round =>
      obtain ⟨n, hn, rfl, HV, U⟩ := hrel
      obtain ⟨nv, vv, C, hbq, hvb, hcv⟩ := HV.out
      have hnw : Nw w wr := U3.out.trans' U.out (fun k hk e => by have := HZ.out.1; omega)
      have hCl : C.length = n := by
        have := congrArg List.length hcv
        rw [List.length_map, List.length_map, List.length_take] at this; omega
      have hNl : ((t.fs.take n).map (·.1)).length = n := by rw [List.length_map, List.length_take]; omega
      obtain ⟨na, nc, rfl⟩ := own_slF hvb.on
      obtain ⟨va, vc, rfl⟩ := own_slF hvb.ov
      rw [hNl, hCl] at hbq hvb
      have HVB := Lib.hid hvb
      have HCV := Lib.hid hcv
      have HNW := Lib.hid hnw
      have HBQ := Lib.hid hbq
      have HL := Lib.hid (And.intro hCl hNl)
      clear HV hvb hcv hnw hCl hNl
      by_cases hlt : n < t.fs.length
      · have hlt1 : (n : Int) < t.fs.length := by omega
        have hn8 : (n : Int) ≤ 8 := by omega
        rcases HFC.out with hnil | ⟨b, off, rfl, hb, hcell⟩
        · rw [hnil] at hlt; simp at hlt
        obtain ⟨sv, p0, p1, p2, hty, hsl⟩ := hcell n hlt
        obtain ⟨sa, sc, hsv, -⟩ := hty.cells
        subst hsv
        have y0 := nw_cellF HNW.out p0
        have y1 := nw_cellF HNW.out p1
        have y2 := nw_cellF HNW.out p2
        have hstN : (t.fs.take (n + 1)).map (·.1) = (t.fs.take n).map (·.1) ++ [(t.fs[n]).1] := by rw [List.take_succ_eq_append_getElem hlt, List.map_append]; rfl
        have hstV : (t.fs.take (n + 1)).map (fun f => Fm.zero d f.2) = (t.fs.take n).map (fun f => Fm.zero d f.2) ++ [Fm.zero d (t.fs[n]).2] := by rw [List.take_succ_eq_append_getElem hlt, List.map_append]; rfl
        have HST := Lib.hid (And.intro hstN hstV)
        have HSub := Lib.hid (RT.out.sub _ (List.getElem_mem hlt))
        have HTY := Lib.hid hty
        have HSL := Lib.hid hsl
        clear hcell p0 p1 p2 hstN hstV hty hsl
        generalize (t.fs[n]).1 = s at *
        generalize (t.fs[n]).2 = ft at *
        obtain ⟨wo, hwo, n0, hbx⟩ : ∃ z, z = wr.alloc (.cells #[.string ⟨s.toArray⟩, .int .i64 ft.kind, .slice sa ft.fs.length sc] tFd) ∧ Nw wr z ∧ z.heap[wr.heap.size]? = some (.cells #[.string ⟨s.toArray⟩, .int .i64 ft.kind, .slice sa ft.fs.length sc] tFd (0, 0)) := ⟨_, rfl, nw_alloc wr _, heap_new wr _⟩
        have HWO := Lib.hid hwo
        have HN0 := Lib.hid n0
        have HBX := Lib.hid hbx
        have HBQ0 := Lib.hid (n0.keep HBQ.out)
        have HVB0 := Lib.hid (HVB.out.nw n0)
        have hqlt := lt_of_block HBQ.out
        have hwolt := lt_of_block hbx
        clear hwo n0 hbx
        go_upto_region 7 with fail
        rw [← HWO.out]
        clear HWO y0 y1 y2
        have hP : ∀ y, Upd (fun k => (Value.slice na n nc).ownBlock = some k ∨ (Value.slice va n vc).ownBlock = some k) wo y → (y.cell? ⟨q, 2, none⟩ = some (.slice na n nc) ∧ y.cell? ⟨q, 3, none⟩ = some (.slice va n vc) ∧ y.frozen? ⟨q, 2, none⟩ = false ∧ y.frozen? ⟨q, 3, none⟩ = false ∧ y.cell? ⟨wr.heap.size, 0, none⟩ = some (.string ⟨s.toArray⟩) ∧ y.cell? ⟨wr.heap.size, 1, none⟩ = some (.int .i64 ft.kind) ∧ y.cell? ⟨wr.heap.size, 2, none⟩ = some (.slice sa ft.fs.length sc)) := fun y u => by
          have hq : ∀ k, ((Value.slice na n nc).ownBlock = some k ∨ (Value.slice va n vc).ownBlock = some k) → q < k ∧ k < wr.heap.size := fun k e => by
            rcases e with e | e
            · have := HVB.out.on.lt k e; omega
            · have := HVB.out.ov.lt k e; omega
          have h1 := u.keep HBQ0.out (fun e => by have := hq _ e; omega)
          have h2 := u.keep HBX.out (fun e => by have := hq _ e; omega)
          exact ⟨by rw [cells_cell h1]; rfl, by rw [cells_cell h1]; rfl, cells_frozen h1 2, cells_frozen h1 3, by rw [cells_cell h2]; rfl, by rw [cells_cell h2]; rfl, by rw [cells_cell h2]; rfl⟩
        have HP := Lib.hid hP
        have hy1 : Nw wo (wo.alloc (.cells #[.string ⟨s.toArray⟩] 9)).drew := (nw_alloc wo _).drew
        have HY1 := Lib.hid hy1
        have HU1 : Hid (Upd (fun k => (Value.slice na n nc).ownBlock = some k ∨ (Value.slice va n vc).ownBlock = some k) wo (wo.alloc (.cells #[.string ⟨s.toArray⟩] 9)).drew) := Nw.upd _ hy1
        have HON : Hid ((wo.alloc (.cells #[.string ⟨s.toArray⟩] 9)).drew.ownsRow (q + 1) 9 1 (.slice na n nc) n (((t.fs.take n).map (·.1)).map sF)) := by
          have := (HVB0.out.nw hy1).on
          rw [HL.out.2] at this; exact this
        have HNews : Hid (∀ j u, ([.string ⟨s.toArray⟩] : List Value)[j]? = some u → (wo.alloc (.cells #[.string ⟨s.toArray⟩] 9)).drew.cell? ((⟨wo.heap.size, 0, none⟩ : Addr).add j) = some u) := fun j u hu => by
          have := World.news_of_block (cs := #[.string ⟨s.toArray⟩]) (t := 9) (fr := (0, 0)) (heap_new wo (.cells #[.string ⟨s.toArray⟩] 9)) j u hu
          exact nw_cellF (Upd.refl (fun _ => False) _).drew this
        have HQ1 : Hid (q + 1 ≤ (wo.alloc (.cells #[.string ⟨s.toArray⟩] 9)).drew.heap.size ∧ nG ≤ q + 1) := by
          have := hy1.size
          have := HZ.out.1
          exact ⟨by omega, by omega⟩
        have HNum : Hid (0 < 1 ∧ n + 1 ≤ maxLen ∧ (n + 1) * 16 ≤ 140737488355328 ∧ (n + 1) * 64 ≤ 140737488355328) := ⟨by omega, by unfold maxLen; omega, by omega, by omega⟩
        have HZr : Hid (∀ y, Upd (fun k => (Value.slice na n nc).ownBlock = some k ∨ (Value.slice va n vc).ownBlock = some k) wo y → Calls Tryz.prog 55 #[.agg #[.int .i64 ft.kind, .slice sa ft.fs.length sc]] y fun e z => ∃ xa xl xc ya yl yc, e = .returned (.agg #[.int .i64 (Fm.zero d ft).kind, .int .i64 (Fm.zero d ft).n, .slice xa xl xc, .slice ya yl yc]) ∧ Hid (VlAt (fun k => y.heap.size ≤ k) z (.slice xa xl xc) (.slice ya yl yc) (Fm.zero d ft) ∧ Nw y z)) := fun y u => by
          have uy : Nw w y := (HNW.out.trans HN0.out).trans' u (fun k hk e => by
            rcases e with e | e
            · have := (HVB.out.on.lt k e).1; have := HZ.out.1; omega
            · have := (HVB.out.ov.lt k e).1; have := HZ.out.1; omega)
          refine (IH.out ft _ y (g.upd uy) HSub.out (HTY.out.nw uy)).mono ?_
          rintro e z ⟨xn, xv, rfl, hx, ux⟩
          obtain ⟨xa, xc, rfl, -⟩ := hx.names
          obtain ⟨ya, yc, rfl, -⟩ := hx.vals
          exact ⟨xa, _, xc, ya, _, yc, rfl, hx, ux⟩
        have HVV : Hid (∀ y, Upd (fun k => (Value.slice na n nc).ownBlock = some k) wo y → y.ownsRow (q + 1) tVl 4 (.slice va n vc) n (C.map vcL).flatten) := fun y u => by
          have h := HVB0.out.ov
          rw [HL.out.1] at h
          have hne := HVB0.out.ne
          exact owns_upd' h u (fun k e e2 => hne k e2 e)
        clear hP hy1
        go_wp2_with fail
        have HS0 := Lib.hid (HP.out _ (Upd.refl _ _).drew)
        refine wp_region_G (fun y => y.cell? ⟨q, 2, none⟩ = some (.slice na n nc) ∧ y.cell? ⟨q, 3, none⟩ = some (.slice va n vc) ∧ y.frozen? ⟨q, 2, none⟩ = false ∧ y.frozen? ⟨q, 3, none⟩ = false ∧ y.cell? ⟨wr.heap.size, 0, none⟩ = some (.string ⟨s.toArray⟩) ∧ y.cell? ⟨wr.heap.size, 1, none⟩ = some (.int .i64 ft.kind) ∧ y.cell? ⟨wr.heap.size, 2, none⟩ = some (.slice sa ft.fs.length sc)) 12 (by kernel_rfl) ?_
        refine wpAnyG_pure (i := 0) (v := ?_) rfl (by kernel_rfl) (by kernel_rfl) (by kernel_rfl) (by kernel_rfl) (by kernel_rfl) (fun _ _ _ h => h) (by rfl) ?_ (fun _ => HS0.out) ?_
        rotate_left 1
        · (intro zz; go_simp; first | done | with_reducible rfl)
        (try simp only [Act.put, List.setIfInBounds_toArray, List.set_cons_zero, List.set_cons_succ])
        refine wpAnyG_pure (i := 2) (v := ?_) rfl (by kernel_rfl) (by kernel_rfl) (by kernel_rfl) (by kernel_rfl) (by kernel_rfl) (fun _ _ _ h => h) (by rfl) ?_ (fun _ => HS0.out) ?_
        rotate_left 1
        · (intro zz; go_simp; first | done | with_reducible rfl)
        (try simp only [Act.put, List.setIfInBounds_toArray, List.set_cons_zero, List.set_cons_succ])
        refine wpAnyG_pure (i := 6) (v := ?_) rfl (by kernel_rfl) (by kernel_rfl) (by kernel_rfl) (by kernel_rfl) (by kernel_rfl) (fun _ _ _ h => h) (by rfl) ?_ (fun _ => HS0.out) ?_
        rotate_left 1
        · (intro zz; go_simp; first | done | with_reducible rfl)
        (try simp only [Act.put, List.setIfInBounds_toArray, List.set_cons_zero, List.set_cons_succ])
        refine wpAnyG_pure (i := 8) (v := ?_) rfl (by kernel_rfl) (by kernel_rfl) (by kernel_rfl) (by kernel_rfl) (by kernel_rfl) (fun _ _ _ h => h) (by rfl) ?_ (fun _ => HS0.out) ?_
        rotate_left 1
        · (intro zz; go_simp; first | done | with_reducible rfl)
        (try simp only [Act.put, List.setIfInBounds_toArray, List.set_cons_zero, List.set_cons_succ])
        refine wpAnyG_load (i := 1) (v := ?_) [11, 10, 5] rfl (by kernel_rfl) (by kernel_rfl) (by kernel_rfl) (by kernel_rfl) (by kernel_rfl) (by kernel_rfl) (fun _ _ _ h => h) (by rfl) ?_ (fun _ => HS0.out) ?_
        rotate_left 1
        · (intro zz hS; obtain ⟨_, _, _, _, _, _, _⟩ := hS; go_simp; first | done | with_reducible rfl)
        (try simp only [Act.put, List.setIfInBounds_toArray, List.set_cons_zero, List.set_cons_succ])
        refine wpAnyG_load (i := 3) (v := ?_) [11, 10, 5, 4] rfl (by kernel_rfl) (by kernel_rfl) (by kernel_rfl) (by kernel_rfl) (by kernel_rfl) (by kernel_rfl) (fun _ _ _ h => h) (by rfl) ?_ (fun _ => HS0.out) ?_
        rotate_left 1
        · (intro zz hS; obtain ⟨_, _, _, _, _, _, _⟩ := hS; go_simp; first | done | with_reducible rfl)
        (try simp only [Act.put, List.setIfInBounds_toArray, List.set_cons_zero, List.set_cons_succ])
        refine wpAnyG_load (i := 7) (v := ?_) [] rfl (by kernel_rfl) (by kernel_rfl) (by kernel_rfl) (by kernel_rfl) (by kernel_rfl) (by kernel_rfl) (fun _ _ _ h => h) (by rfl) ?_ (fun _ => HS0.out) ?_
        rotate_left 1
        · (intro zz hS; obtain ⟨_, _, _, _, _, _, _⟩ := hS; go_simp; first | done | with_reducible rfl)
        (try simp only [Act.put, List.setIfInBounds_toArray, List.set_cons_zero, List.set_cons_succ])
        refine wpAnyG_load (i := 9) (v := ?_) [11, 10] rfl (by kernel_rfl) (by kernel_rfl) (by kernel_rfl) (by kernel_rfl) (by kernel_rfl) (by kernel_rfl) (fun _ _ _ h => h) (by rfl) ?_ (fun _ => HS0.out) ?_
        rotate_left 1
        · (intro zz hS; obtain ⟨_, _, _, _, _, _, _⟩ := hS; go_simp; first | done | with_reducible rfl)
        (try simp only [Act.put, List.setIfInBounds_toArray, List.set_cons_zero, List.set_cons_succ])
        refine wpAnyG_ready [4] (by kernel_rfl) (by simp) ?_
        refine AllG.cons rfl (fun K hK => ?_) AllG.nil
        go_simp
        refine hK.out _ _ (fun _ => HP.out _ HU1.out) ?_
        clear hK K
        (try simp only [Act.put, List.setIfInBounds_toArray, List.set_cons_zero, List.set_cons_succ])
        refine wpAnyG_ready [5] (by kernel_rfl) (by simp) ?_
        refine AllG.cons rfl (fun K hK => ?_) AllG.nil
        refine step_catC rfl _ _ 25 rfl 9 _ 1 16 Tryz.underlying25 infoStrF rfl (by decide) (q + 1) HQ1.out.1 HQ1.out.2 _ n _ rfl HON.out ⟨wo.heap.size, 0, none⟩ 1 1 [.string ⟨s.toArray⟩] rfl rfl HNews.out (by intro u hu; rw [List.mem_singleton.1 hu]; rfl) HNum.out.1 HNum.out.2.1 HNum.out.2.2.1 ?_
        intro ga ca wb ob ub0 hbb
        have ub1 : Hid (Upd (fun k => (Value.slice na n nc).ownBlock = some k) wo wb) := Nw.trans HY1.out ub0
        have ub : Hid (Upd (fun k => (Value.slice na n nc).ownBlock = some k ∨ (Value.slice va n vc).ownBlock = some k) wo wb) := ub1.out.mono (fun k _ e => Or.inl e)
        refine hK.out _ _ (fun _ => HP.out _ ub.out) ?_
        clear hK K
        (try simp only [Act.put, List.setIfInBounds_toArray, List.set_cons_zero, List.set_cons_succ])
        refine wpAnyG_pure (i := 13) (v := ?_) rfl (by kernel_rfl) (by kernel_rfl) (by kernel_rfl) (by kernel_rfl) (by kernel_rfl) (fun _ _ _ h => h) (by rfl) ?_ (fun _ => HP.out _ ub.out) ?_
        rotate_left 1
        · (intro zz; go_simp; first | done | with_reducible rfl)
        (try simp only [Act.put, List.setIfInBounds_toArray, List.set_cons_zero, List.set_cons_succ])
        refine wpAnyG_ready [10] (by kernel_rfl) (by simp) ?_
        refine AllG.cons rfl (fun K hK => ?_) AllG.nil
        have hCC := HZr.out wb ub.out
        go_simp
        (with_reducible refine (hCC).mono ?_)
        rintro _ wc ⟨xa, xl, xc, ya, yl, yc, rfl, HX⟩
        clear hCC
        have uc : Hid (Upd (fun k => (Value.slice na n nc).ownBlock = some k ∨ (Value.slice va n vc).ownBlock = some k) wo wc) := ub.out.nw HX.out.2
        have ud : Hid (Upd (fun k => (Value.slice na n nc).ownBlock = some k ∨ (Value.slice va n vc).ownBlock = some k) wo (wc.alloc (.cells #[.int .i64 (Fm.zero d ft).kind, .int .i64 (Fm.zero d ft).n, .slice xa xl xc, .slice ya yl yc] tVl))) := uc.out.nw (nw_alloc _ _)
        have HD : Hid ((wc.alloc (.cells #[.int .i64 (Fm.zero d ft).kind, .int .i64 (Fm.zero d ft).n, .slice xa xl xc, .slice ya yl yc] tVl)).ownsRow (q + 1) tVl 4 (.slice va n vc) n (C.map vcL).flatten) := HVV.out _ ((ub1.out.nw HX.out.2).nw (nw_alloc _ _))
        have hqd := ud.out.size
        refine hK.out _ _ (fun _ => HP.out _ uc.out) ?_
        clear hK K
        (try simp only [Act.put, List.setIfInBounds_toArray, List.set_cons_zero, List.set_cons_succ])
        refine wpAnyG_ready [11] (by kernel_rfl) (by simp) ?_
        refine AllG.cons rfl (fun K hK => ?_) AllG.nil
        go_simp
        refine hK.out _ _ (fun _ => HP.out _ ud.out) ?_
        clear hK K
        (try simp only [Act.put, List.setIfInBounds_toArray, List.set_cons_zero, List.set_cons_succ])
        refine wpAnyG_ready [12] (by kernel_rfl) (by simp) ?_
        refine AllG.cons rfl (fun K hK => ?_) AllG.nil
        refine step_catC rfl _ _ 26 rfl tVl _ 4 64 Tryz.underlying26 infoVlF rfl (by decide) (q + 1) (Nat.le_trans (by have := HN0.out.size; have := HZ.out.2; have := U.out.size; omega) hqd) (by have := HZ.out.1; omega) _ n _ rfl HD.out ⟨wc.heap.size, 0, none⟩ 1 1 [.int .i64 (Fm.zero d ft).kind, .int .i64 (Fm.zero d ft).n, .slice xa xl xc, .slice ya yl yc] rfl rfl (World.news_of_block (cs := #[.int .i64 (Fm.zero d ft).kind, .int .i64 (Fm.zero d ft).n, .slice xa xl xc, .slice ya yl yc]) (t := tVl) (fr := (0, 0)) (heap_new wc _)) (by intro u hu; simp at hu; rcases hu with rfl | rfl | rfl | rfl <;> rfl) HNum.out.1 HNum.out.2.1 HNum.out.2.2.2 ?_
        intro gd cd we oe ue0 hbe
        have ue : Hid (Upd (fun k => (Value.slice na n nc).ownBlock = some k ∨ (Value.slice va n vc).ownBlock = some k) wo we) := ud.out.trans' ue0 (fun k _ e => Or.inr e)
        obtain ⟨_, _, _, _, -, -, -⟩ := HP.out _ ue.out
        refine hK.out _ _ (fun e => absurd (show true = false from e) (by decide)) ?_
        clear hK K
        (try simp only [Act.put, List.setIfInBounds_toArray, List.set_cons_zero, List.set_cons_succ])
        refine wpAnyG_ready [14] (by kernel_rfl) (by simp) ?_
        refine AllG.cons rfl (fun K hK => ?_) AllG.nil
        go_simp
        refine hK.out _ _ (fun e => absurd (show true = false from e) (by decide)) ?_
        clear hK K
        (try simp only [Act.put, List.setIfInBounds_toArray, List.set_cons_zero, List.set_cons_succ])
        refine wpAnyG_pure (i := 15) (v := ?_) rfl (by kernel_rfl) (by kernel_rfl) (by kernel_rfl) (by kernel_rfl) (by kernel_rfl) (fun _ _ _ h => h) (by rfl) ?_ (fun e => absurd (show true = false from e) (by decide)) ?_
        rotate_left 1
        · (intro zz; go_simp; first | done | with_reducible rfl)
        (try simp only [Act.put, List.setIfInBounds_toArray, List.set_cons_zero, List.set_cons_succ])
        refine wpAnyG_ready [16] (by kernel_rfl) (by simp) ?_
        refine AllG.cons rfl (fun K hK => ?_) AllG.nil
        go_simp
        refine hK.out _ _ (fun e => absurd (show true = false from e) (by decide)) ?_
        clear hK K
        (try simp only [Act.put, List.setIfInBounds_toArray, List.set_cons_zero, List.set_cons_succ])
        refine wpAnyG_done (by kernel_rfl) ?_ _
        obtain ⟨hpush, hupd⟩ := VB.push HVB0.out HSL.out (by have := HZ.out.2; have := U.out.size; have := HN0.out.size; omega) HY1.out (by rw [HL.out.2]; exact ob) ub0 (fun k e => by
          have e' : ga = k := by simpa [Value.ownBlock] using e
          subst e'; exact hbb) HX.out.2 ((HX.out.1).mono (fun k hk hp => ⟨by have := ub.out.size; have := HZ.out.2; have := U.out.size; have := HN0.out.size; omega, fun e => by have := (ob.lt k e).2; omega, fun e => by have := (HVB0.out.ov.lt k e).2; have := ub.out.size; omega⟩)) (nw_alloc wc (.cells #[.int .i64 (Fm.zero d ft).kind, .int .i64 (Fm.zero d ft).n, .slice xa xl xc, .slice ya yl yc] tVl)) (by rw [HL.out.1]; exact oe) ue0 (fun k e => by
          have e' : gd = k := by simpa [Value.ownBlock] using e
          subst e'; exact hbe)
        have hbq1 := ue.out.keep HBQ0.out (fun e => by
          rcases e with e | e
          · have := (HVB0.out.on.lt q e).1; omega
          · have := (HVB0.out.ov.lt q e).1; omega)
        have hqg : nG ≤ q := by have := HZ.out.1; omega
        have hbq2 := setCell_block (setCell_block hbq1 2 (.slice (some ⟨ga, 0, none⟩) (n + 1) ca)) 3 (.slice (some ⟨gd, 0, none⟩) (n + 1) cd)
        have uS := Upd.set1 (Upd.set1 (Upd.refl _ we) hqg 2 (.slice (some ⟨ga, 0, none⟩) (n + 1) ca)) hqg 3 (.slice (some ⟨gd, 0, none⟩) (n + 1) cd)
        have hp2 := hpush.upd uS (fun k hk _ e => by omega)
        have uA : Upd (fun k => k = q) W3 we := (U.out.nw HN0.out).trans' hupd (fun k hk e => by
          rcases e with e | e
          · have := (HVB0.out.on.lt k e).1; have := HZ.out.2; omega
          · have := (HVB0.out.ov.lt k e).1; have := HZ.out.2; omega)
        have uB := uA.trans' uS (fun k _ e => e)
        obtain ⟨wE, hE⟩ : ∃ wE, (we.setCell ⟨q, 2, none⟩ (.slice (some ⟨ga, 0, none⟩) (n + 1) ca)).setCell ⟨q, 3, none⟩ (.slice (some ⟨gd, 0, none⟩) (n + 1) cd) = wE := ⟨_, rfl⟩
        rw [hE] at hbq2 hp2 uB
        have HE := Lib.hid hE
        have HREL : Hid (Hid (∃ nv vv C, wE.heap[q]? = some (.cells #[.int .i64 t.kind, .int .i64 0, nv, vv] tVl (0, 0)) ∧ VB (q + 1) wE nv vv ((t.fs.take (n + 1)).map (·.1)) C ∧ C.map VC.v = (t.fs.take (n + 1)).map (fun f => Fm.zero d f.2)) ∧ Hid (Upd (fun k => k = q) W3 wE)) := by
          refine ⟨⟨_, _, C ++ [⟨.slice xa xl xc, .slice ya yl yc, Fm.zero d ft⟩], hbq2, ?_, ?_⟩, uB⟩
          · exact (by rw [HST.out.1]; exact hp2)
          · rw [HST.out.2, List.map_append, HCV.out]; rfl
        clear hbq1 hbq2 uS hp2 uA uB hE hpush hupd
        go_wp2_with fail
        rw [HE.out]
        go_roundw
        case rel => exact ⟨n + 1, by omega, by go_num, HREL.out⟩
        case measure => simp [intOf]; omega
      · obtain rfl : n = t.fs.length := by omega
        have c0 : wr.cell? ⟨q, 0, none⟩ = some (.int .i64 t.kind) := by rw [cells_cell HBQ.out]; rfl
        have c1 : wr.cell? ⟨q, 1, none⟩ = some (.int .i64 0) := by rw [cells_cell HBQ.out]; rfl
        have c2 : wr.cell? ⟨q, 2, none⟩ = some (.slice na t.fs.length nc) := by rw [cells_cell HBQ.out]; rfl
        have c3 : wr.cell? ⟨q, 3, none⟩ = some (.slice va t.fs.length vc) := by rw [cells_cell HBQ.out]; rfl
        have hbr := U.out.keep HB23.out (fun e => by have := HZ.out.1; omega)
        have hbg : nG ≤ w.heap.size + 1 := by omega
        have uR := Upd.set1 (Upd.set1 (Upd.set1 (Upd.set1 (Upd.refl _ wr) hbg 0 (.int .i64 t.kind)) hbg 1 (.int .i64 0)) hbg 2 (.slice na t.fs.length nc)) hbg 3 (.slice va t.fs.length vc)
        have hbE := setCell_block (setCell_block (setCell_block (setCell_block hbr 0 (.int .i64 t.kind)) 1 (.int .i64 0)) 2 (.slice na t.fs.length nc)) 3 (.slice va t.fs.length vc)
        have hvE := HVB.out.upd uR (fun k hk _ e => by have := HZ.out.1; omega)
        have hnE : Nw w _ := HNW.out.trans' uR (fun k hk e => by omega)
        have d0 : wr.cell? ⟨w.heap.size + 1, 0, none⟩ = some (.int .i64 0) := by rw [cells_cell hbr]; rfl
        have d1 : wr.cell? ⟨w.heap.size + 1, 1, none⟩ = some (.int .i64 0) := by rw [cells_cell hbr]; rfl
        have d2 : wr.cell? ⟨w.heap.size + 1, 2, none⟩ = some (.slice none 0 0) := by rw [cells_cell hbr]; rfl
        have d3 : wr.cell? ⟨w.heap.size + 1, 3, none⟩ = some (.slice none 0 0) := by rw [cells_cell hbr]; rfl
        have f0 := cells_frozen hbr 0
        have f1 := cells_frozen hbr 1
        have f2 := cells_frozen hbr 2
        have f3 := cells_frozen hbr 3
        have HBE := Lib.hid hbE
        have HVE := Lib.hid hvE
        have HNE := Lib.hid hnE
        clear hbr uR hbE hvE hnE
        go_wp2_with fail
        refine bodyPost_ret (zero_results _ _ ?_ HBE.out) ?_ ?_
        · rfl
        · rfl
        refine ⟨_, _, rfl, ?_, HNE.out⟩
        have hN : (t.fs.take t.fs.length).map (·.1) = t.fs.map (·.1) := by rw [List.take_length]
        have hV : C.map VC.v = t.fs.map (fun f => Fm.zero d f.2) := by have := HCV.out; rwa [List.take_length] at this
        have hd := HVE.out.done (k := t.kind) (n := 0) HK.out (by unfold I64; omega)
        rw [hN, hV] at hd
        exact hd.mono (fun k _ hk => by have := HZ.out.1; omega)
end Go.Proofs.YthagiklfmkdmaaaGreatDoor
namespace Go.Proofs.YthagiklfmkdmaaaGreatDoor
open Go.RowKit
set_option linter.unusedVariables false
set_option linter.unusedSimpArgs false

/-- A builder in block b (the call's own: from B on) that holds the bytes l. -/
def Bld (B b : Nat) (l : List UInt8) (w : World) : Prop := Lib.IsBuilder 111 5 B b (Lib.byteCells l) w
theorem bSize : (Tryz.prog.info? 111).map (·.size) = some 2 := by kernel_rfl
theorem bLies : liesAt Tryz.prog Tryz.prog.depth 111 (2 / Tryz.prog.cellsOf 111) 0 111 1 = true := by kernel_rfl
theorem bInfoByte : (Tryz.prog.info? 5).map (fun i => (i.zero, i.size, i.bytes)) = some (some (.int .u8 0), 1, 1) := by kernel_rfl

set_option maxHeartbeats 1000000 in
set_option maxRecDepth 100000 in
theorem copyCheck_used (b : Nat) (w : World) (h0 : w.cell? ⟨b, 0, none⟩ = some (.pointer (some ⟨b, 0, none⟩))) :
    Calls Tryz.prog 125 #[.pointer (some ⟨b, 0, none⟩)] w fun e w' => e = .returned (.tuple #[]) ∧ w' = w := by
  obtain ⟨j, hj, _⟩ := Option.map_eq_some_iff.1 bSize
  go_enter Tryz.func125, Tryz.ntmps125
  go_wp2
  rw [Lib.run_neq_ptr_same w _ Tryz.underlying108 hj]
  go_wp2
  go_end0
  exact ⟨rfl, rfl⟩
set_option maxHeartbeats 1000000 in
set_option maxRecDepth 100000 in
theorem copyCheck_fresh (b : Nat) (w : World) (h0 : w.cell? ⟨b, 0, none⟩ = some (.pointer none)) (hsh : w.shape? b = some (111, 2)) (hfz : w.frozen? ⟨b, 0, none⟩ = false) :
    Calls Tryz.prog 125 #[.pointer (some ⟨b, 0, none⟩)] w fun e w' => e = .returned (.tuple #[]) ∧ w' = w.setCell ⟨b, 0, none⟩ (.pointer (some ⟨b, 0, none⟩)) := by
  obtain ⟨j, hj, hjs⟩ := Option.map_eq_some_iff.1 bSize
  go_enter Tryz.func125, Tryz.ntmps125
  go_wp2
  rw [Lib.run_to_unsafe w ⟨b, 0, none⟩ Tryz.underlying108 Tryz.underlying177 hj (by rw [hjs]; decide) hsh (Nat.zero_lt_succ 1)]
  simp only [Result.andThen]
  rw [Oper.upon_value]
  go_wp2
  rw [run_callFunc_extern Tryz.func153 (by kernel_rfl) (by kernel_rfl) (by kernel_rfl) (e := Extern.AbiNoEscape.same) (by kernel_rfl)]
  rw [Lib.run_noEscape]
  simp only [Result.andThen]
  rw [Oper.upon_value]
  go_wp2
  rw [Lib.run_from_unsafe w ⟨b, 0, none⟩ Tryz.underlying177 Tryz.underlying108 hj hsh bLies]
  simp only [Result.andThen]
  rw [Oper.upon_value]
  go_wp2
  go_end0
  exact ⟨rfl, rfl⟩
theorem copyCheck_c (B b : Nat) (bs : List Value) (w : World) (h : Lib.IsBuilder 111 5 B b bs w) :
    Calls Tryz.prog 125 #[.pointer (some ⟨b, 0, none⟩)] w fun e w' => e = .returned (.tuple #[]) ∧ (Lib.BuilderAt 111 5 B b (.pointer (some ⟨b, 0, none⟩)) bs w' ∧ Below B w w') := by
  rcases h with h | h
  · refine (copyCheck_fresh b w h.cell0 h.shape h.frozen0).mono ?_
    rintro e w' ⟨rfl, rfl⟩
    exact ⟨rfl, h.used _, (Below.refl B w).setCell (p := ⟨b, 0, none⟩) h.1 _⟩
  · refine (copyCheck_used b w h.cell0).mono ?_
    rintro e w' ⟨rfl, rfl⟩
    exact ⟨rfl, h, Below.refl B _⟩
set_option maxHeartbeats 1000000 in
set_option maxRecDepth 100000 in
theorem WriteString_c (B b : Nat) (l : List UInt8) (s : ByteArray) (m : List UInt8) (hm : s.data.toList = m) (w : World) (h : Bld B b l w) (hlen : l.length + m.length ≤ 140737488355328) (hBw : B ≤ w.heap.size) :
    Calls Tryz.prog 83 #[.pointer (some ⟨b, 0, none⟩), .string s] w fun e w' => e = .returned (.tuple #[.int .i64 m.length, .nilIface]) ∧ (Bld B b (l ++ m) w' ∧ Below B w w') := by
  obtain ⟨i0, hi, hz0, hz1, hz2⟩ := info_parts bInfoByte
  subst hm
  have Hsz := Lib.hid (bs_size s)
  have Hbl := Lib.hid (Lib.byteCells_length l)
  go_enter Tryz.func83, Tryz.ntmps83
  go_wp2_with (go_at_call 125; refine (copyCheck_c B b _ _ h).mono ?_)
  rintro e w1 ⟨rfl, h1, hb1⟩
  obtain ⟨hB, v, hbk, hown, hne⟩ := h1
  have c0 : w1.cell? ⟨b, 0, none⟩ = some (.pointer (some ⟨b, 0, none⟩)) := by rw [Lib.cell_of_heap hbk]; rfl
  have c1 : w1.cell? ⟨b, 1, none⟩ = some v := by rw [Lib.cell_of_heap hbk]; rfl
  go_wp2_with (at_builtin; refine Lib.wpList_append_own_string _ rfl _ _ 109 9 rfl B 5 i0 Tryz.underlying109 Tryz.underlying9 hi hz0 hz1 hz2 _ _ _ rfl hown s rfl ?c3 ?c4 ?c5 ?_)
  case c3 => unfold maxLen; have := Hsz.out; have := Hbl.out; omega
  case c4 => have := Hsz.out; have := Hbl.out; omega
  case c5 => have := hb1.size; omega
  intro v' w2 hown' hgrow _
  have hlt : b < w1.heap.size := lt_of_block hbk
  have hb2 : w2.heap[b]? = some (.cells #[.pointer (some ⟨b, 0, none⟩), v] 111 (0, 0)) := by
    rw [hgrow.block b hlt (fun e => hne e.symm)]
    exact hbk
  have d0 : w2.cell? ⟨b, 0, none⟩ = some (.pointer (some ⟨b, 0, none⟩)) := by rw [Lib.cell_of_heap hb2]; rfl
  have d1 : w2.cell? ⟨b, 1, none⟩ = some v := by rw [Lib.cell_of_heap hb2]; rfl
  have f1 : w2.frozen? ⟨b, 1, none⟩ = false := Lib.frozen_of_heap hb2 1
  obtain ⟨ao, n', cap, rfl⟩ : ∃ ao n' cap, v' = .slice ao n' cap := by
    rcases hown'.2 with ⟨hv, _⟩ | ⟨g, cap, cur, hv, _⟩
    · exact ⟨_, _, _, hv⟩
    · exact ⟨_, _, _, hv⟩
  go_wp2
  go_ret2
  rw [Hsz.out]
  refine ⟨rfl, Or.inr ?_, ?_⟩
  · refine Lib.BuilderAt.put (T := 111) (e := 5) hB hb2 (bs' := Lib.byteCells (l ++ s.data.toList)) ?_ (by decide)
    rw [Lib.byteCells_length, Lib.byteCells_append, List.length_append, ← Hsz.out, ← Hbl.out]
    exact hown'
  · exact (hb1.grown hgrow (by have := hb1.size; omega) (fun k hk => (hown.lt k hk).1)).setCell (p := ⟨b, 1, none⟩) hB _
theorem String_c (B b : Nat) (l : List UInt8) (w : World) (h : Bld B b l w) (hBw : B ≤ w.heap.size) :
    Calls Tryz.prog 85 #[.pointer (some ⟨b, 0, none⟩)] w fun e w' => e = .returned (.string ⟨l.toArray⟩) ∧ Below B w w' :=
  Tryz.Builder_String_any B b l w h hBw
theorem Bld.fresh (w : World) : Bld w.heap.size w.heap.size [] (w.alloc (.cells #[.pointer none, .slice none 0 0] 111)) :=
  Lib.fresh_isBuilder 111 5 w
theorem builderAt_nw {T e : TypeId} {B b : Nat} {p : Value} {bs : List Value} {w w' : World} (h : Lib.BuilderAt T e B b p bs w) (u : Nw w w') : Lib.BuilderAt T e B b p bs w' := by
  obtain ⟨h1, v, h2, h3, h4⟩ := h
  refine ⟨h1, v, u.keep h2, ⟨h3.1, ?_⟩, h4⟩
  rcases h3.2 with h | ⟨g, cap, cur, r1, r2, r3, r4⟩
  · exact Or.inl h
  · exact Or.inr ⟨g, cap, cur, r1, r2, u.keep r3, r4⟩
theorem Bld.nw {B b : Nat} {l : List UInt8} {w w' : World} (h : Bld B b l w) (u : Nw w w') : Bld B b l w' := by
  rcases h with h | h
  · exact Or.inl (builderAt_nw h u)
  · exact Or.inr (builderAt_nw h u)
theorem Bld.lt {B b : Nat} {l : List UInt8} {w : World} (h : Bld B b l w) : b < w.heap.size := by
  rcases h with h | h <;> exact h.lt
end Go.Proofs.YthagiklfmkdmaaaGreatDoor
namespace Go.Proofs.YthagiklfmkdmaaaGreatDoor
open Go.RowKit
set_option linter.unusedVariables false
set_option linter.unusedSimpArgs false
attribute [local irreducible] Calls

theorem Int_e (n : Int) (w : World) (g : Gl w) (h : I64 n) :
    Calls Tryz.prog 44 #[.int .i64 n] w fun e w' => e = .returned (.string ⟨(Wire.intE n).toArray⟩) ∧ Nw w w' := by
  have hl := itoa_le h
  go_enter Tryz.func44, Tryz.ntmps44
  go_wp2_with fail
  (with_reducible refine (Itoa_c n _ g h).mono ?_)
  rintro _ w1 ⟨rfl, u1⟩
  go_wp2_with fail
  go_ret
  exact ⟨rfl, u1⟩
theorem Num_e (n : Int) (w : World) (g : Gl w) (h : I64 n) :
    Calls Tryz.prog 42 #[.int .i64 n] w fun e w' => e = .returned (.string ⟨(Wire.numE n).toArray⟩) ∧ Nw w w' := by
  by_cases hn : n < 0
  · go_enter Tryz.func42, Tryz.ntmps42
    go_wp2_with fail
    go_ret
    rw [show Wire.numE n = [] from if_pos hn]
    exact ⟨rfl, Upd.refl _ _⟩
  · go_enter Tryz.func42, Tryz.ntmps42
    go_wp2_with fail
    (with_reducible refine (Int_e n _ g h).mono ?_)
    rintro _ w1 ⟨rfl, u1⟩
    go_wp2_with fail
    go_ret
    rw [show Wire.numE n = Wire.intE n from if_neg (by omega)]
    exact ⟨rfl, u1⟩
theorem Text_e (s : ByteArray) (l : List UInt8) (hs : s.data.toList = l) (w : World) (g : Gl w) (h : l.length ≤ 140737488351232) :
    Calls Tryz.prog 43 #[.string s] w fun e w' => e = .returned (.string ⟨(Wire.textE l).toArray⟩) ∧ Nw w w' := by
  have hz := bs_size s
  rw [hs] at hz
  have hi : I64 s.size := by unfold I64; omega
  have hl := itoa_le hi
  have Hz := Lib.hid hz
  replace hz : s.size ≤ 140737488351232 := by omega
  go_enter Tryz.func43, Tryz.ntmps43
  go_wp2_with fail
  (with_reducible refine (Itoa_c _ _ g hi).mono ?_)
  rintro _ w1 ⟨rfl, u1⟩
  go_wp2_with fail
  go_ret
  refine ⟨ret_bs ?_, u1⟩
  simp only [bs_append_list, bs_list, hs, Hz.out]
  rfl
end Go.Proofs.YthagiklfmkdmaaaGreatDoor
namespace Go.Proofs.YthagiklfmkdmaaaGreatDoor
open Go.RowKit
set_option linter.unusedVariables false
set_option linter.unusedSimpArgs false
attribute [local irreducible] Calls
open Fm (Ty Vl Str nameB rightTy rightVl)

/-- One field's bytes. -/
def fdE (d : Nat) (v : Vl) (f : Str × Ty) : Str := Wire.textE f.1 ++ Wire.textE (Fm.writeF d f.2 (v.at_ f.1))
theorem write_two {d : Nat} {t : Ty} {v : Vl} (h0 : ¬ t.kind = 0) (h1 : ¬ t.kind = 1) : Fm.writeF (d + 1) t v = Wire.numE t.kind ++ (t.fs.map (fdE d v)).flatten := by
  show Wire.numE t.kind ++ (if t.kind = 0 then _ else if t.kind = 1 then _ else _) = _
  rw [if_neg h0, if_neg h1]; rfl
theorem write_zero {d : Nat} {t : Ty} {v : Vl} (h0 : t.kind = 0) : Fm.writeF (d + 1) t v = Wire.numE t.kind ++ Wire.intE v.n := by
  show Wire.numE t.kind ++ (if t.kind = 0 then _ else if t.kind = 1 then _ else _) = _
  rw [if_pos h0]
theorem write_one {d : Nat} {t : Ty} {v : Vl} (h1 : t.kind = 1) : Fm.writeF (d + 1) t v = Wire.numE t.kind ++ Wire.numE v.n := by
  show Wire.numE t.kind ++ (if t.kind = 0 then _ else if t.kind = 1 then _ else _) = _
  rw [if_neg (by omega), if_pos h1]
set_option maxHeartbeats 8000000 in
set_option maxRecDepth 100000 in
theorem fmwrite_c (P : Nat → Prop) : ∀ (d : Nat), d ≤ 4 → ∀ (t : Ty) (fv : Value) (v : Vl) (nv vv : Value) (w : World), Gm w → rightTy d t = true → rightVl d v = true → Fm.fits d t v = true → TyAt w fv t → VlAt P w nv vv v →
    Calls Tryz.prog 49 #[.agg #[.int .i64 t.kind, fv], .agg #[.int .i64 v.kind, .int .i64 v.n, nv, vv]] w fun e w' => e = .returned (.string ⟨(Fm.writeF d t v).toArray⟩) ∧ Nw w w' := by
  intro d
  induction d with
  | zero => intro _ t fv v nv vv w _ h; cases h
  | succ d ih =>
    intro hd t fv v nv vv w g hr hv hf ht hva
    have IH := Lib.hid (ih (by omega))
    have RT := Lib.hid (Fm.rt_iff.1 hr)
    have RV := Lib.hid (Fm.rv_iff.1 hv)
    have FT := Lib.hid (Fm.fit_iff.1 hf)
    have HLEN : Hid ((Fm.writeF (d + 1) t v).length ≤ 400000) := Nat.le_trans (Fm.write_len hd hr (hva.okI _)) (Nat.le_trans (Fm.W_mono hd) Fm.W4)
    have hkI := ht.kind
    have hnI := hva.num
    obtain ⟨fa, fc, rfl, hfl, hfc⟩ := ht.cells
    obtain ⟨na, nc, rfl, hnl, hnc⟩ := hva.names
    obtain ⟨va, vc, rfl, hvl, hvc⟩ := hva.vals
    have HFC : Hid (FdC w fa t.fs) := hfc
    have HNC : Hid (StrC w na v.names) := hnc
    have HVC : Hid (VsC P w va v.vals) := hvc
    have n1 := nw_alloc w (.cells #[.int .i64 t.kind, .slice fa t.fs.length fc] tTy)
    have n2 := nw_alloc (w.alloc (.cells #[.int .i64 t.kind, .slice fa t.fs.length fc] tTy)) (.cells #[.int .i64 v.kind, .int .i64 v.n, .slice na v.names.length nc, .slice va v.vals.length vc] tVl)
    have b1 := n2.keep (heap_new w (.cells #[.int .i64 t.kind, .slice fa t.fs.length fc] tTy))
    have b2 := heap_new (w.alloc (.cells #[.int .i64 t.kind, .slice fa t.fs.length fc] tTy)) (.cells #[.int .i64 v.kind, .int .i64 v.n, .slice na v.names.length nc, .slice va v.vals.length vc] tVl)
    rw [World.size_alloc] at b2
    have hN := n1.trans n2
    obtain ⟨W, hW⟩ : ∃ W, W = (w.alloc (.cells #[.int .i64 t.kind, .slice fa t.fs.length fc] tTy)).alloc (.cells #[.int .i64 v.kind, .int .i64 v.n, .slice na v.names.length nc, .slice va v.vals.length vc] tVl) := ⟨_, rfl⟩
    rw [← hW] at hN b1 b2
    have HN := Lib.hid hN
    have HW := Lib.hid hW
    have HC : Hid (∀ y, Nw W y → y.cell? ⟨w.heap.size, 0, none⟩ = some (.int .i64 t.kind) ∧ y.cell? ⟨w.heap.size, 1, none⟩ = some (.slice fa t.fs.length fc) ∧ y.cell? ⟨w.heap.size + 1, 1, none⟩ = some (.int .i64 v.n) ∧ y.cell? ⟨w.heap.size + 1, 2, none⟩ = some (.slice na v.names.length nc) ∧ y.cell? ⟨w.heap.size + 1, 3, none⟩ = some (.slice va v.vals.length vc)) := fun y u => ⟨by rw [cells_cell (Nw.keep u b1)]; rfl, by rw [cells_cell (Nw.keep u b1)]; rfl, by rw [cells_cell (Nw.keep u b2)]; rfl, by rw [cells_cell (Nw.keep u b2)]; rfl, by rw [cells_cell (Nw.keep u b2)]; rfl⟩
    have HNL := Lib.hid (And.intro hnl hvl)
    have HI := Lib.hid hnI
    have HKI := Lib.hid hkI
    have HG := Lib.hid (g.upd hN)
    have hnum := Lib.hid (Num_e t.kind W HG.out.g hkI)
    obtain ⟨c0, -, -, -, -⟩ := HC.out W (Upd.refl _ _)
    clear ih hr hv hf ht hva hfc hnc hvc n1 n2 b1 b2 hN hW hnl hvl hkI hnI g
    go_enter Tryz.func49, Tryz.ntmps49
    go_upto_region 1 with fail
    rw [← HW.out]
    clear HW
    go_wp2_with fail
    (with_reducible refine (hnum.out).mono ?_)
    rintro _ w2 ⟨rfl, u2⟩
    obtain ⟨d0, d1, d2, d3, d4⟩ := HC.out w2 u2
    have U2 := Lib.hid u2
    clear u2 hnum c0
    by_cases h0 : t.kind = 0
    · have e0 : (t.kind == 0) = true := by simp [h0]
      have hi := Lib.hid (Int_e v.n w2 (HG.out.upd U2.out).g HI.out)
      have l1 := Fm.num_len (n := t.kind) HKI.out
      have l2 := Fm.int_len HI.out
      have e9 := Lib.hid (write_zero (d := d) (v := v) h0)
      clear h0 HFC HNC HVC
      go_wp2_with fail
      (with_reducible refine (hi.out).mono ?_)
      rintro _ w3 ⟨rfl, u3⟩
      have U3 := Lib.hid ((HN.out.trans U2.out).trans u3)
      clear u3
      go_wp2_with fail
      go_ret
      refine ⟨ret_bs ?_, U3.out⟩
      rw [e9.out]
      simp only [bs_append_list, bs_list]
    have e0 : (t.kind == 0) = false := by simp [h0]
    by_cases h1 : t.kind = 1
    · have e1 : (t.kind == 1) = true := by simp [h1]
      have hi := Lib.hid (Num_e v.n w2 (HG.out.upd U2.out).g HI.out)
      have l1 := Fm.num_len (n := t.kind) HKI.out
      have l2 := Fm.num_len HI.out
      have e9 := Lib.hid (write_one (d := d) (v := v) h1)
      clear h0 h1 HFC HNC HVC
      go_wp2_with fail
      (with_reducible refine (hi.out).mono ?_)
      rintro _ w3 ⟨rfl, u3⟩
      have U3 := Lib.hid ((HN.out.trans U2.out).trans u3)
      clear u3
      go_wp2_with fail
      go_ret
      refine ⟨ret_bs ?_, U3.out⟩
      rw [e9.out]
      simp only [bs_append_list, bs_list]
    have e1 : (t.kind == 1) = false := by simp [h1]
    have E9 := Lib.hid (write_two (d := d) (v := v) h0 h1)
    have hB0 := Bld.fresh w2
    have nB := nw_alloc w2 (.cells #[.pointer none, .slice none 0 0] 111)
    have HNUM : Hid ((Wire.numE t.kind).length ≤ 400000) := by
      have := HLEN.out
      rw [E9.out, List.length_append] at this
      show _ ≤ _
      omega
    have hWS := Lib.hid (WriteString_c w2.heap.size w2.heap.size [] ⟨(Wire.numE t.kind).toArray⟩ (Wire.numE t.kind) (bs_list _) (w2.alloc (.cells #[.pointer none, .slice none 0 0] 111)) hB0 (by have := HNUM.out; simp; omega) (by simp))
    have HNB := Lib.hid nB
    have hfl1 : (t.fs.length : Int) ≤ 8 := by have := RT.out.len; omega
    clear hB0 nB hfl
    go_wp2_with fail
    (with_reducible refine (hWS.out).mono ?_)
    rintro _ w3 ⟨rfl, hB3, b3⟩
    have BL3 : Hid (Below w2.heap.size w2 w3) := HNB.out.below.trans b3
    have HB3 := Lib.hid hB3
    obtain ⟨d0, d1, d2, d3, d4⟩ := HC.out w3 (U2.out.trans (Upd.of_below _ BL3.out))
    clear hWS hB3 b3 h0 h1
    obtain ⟨Q, hQ⟩ : ∃ Q, Q = w2.heap.size := ⟨_, rfl⟩
    rw [← hQ] at HB3 BL3 ⊢
    have HQ := Lib.hid hQ
    clear hQ
    go_wp2_with fail
    go_loopw [34] (fun iv wr => ∃ n : Nat, n ≤ t.fs.length ∧ iv = .int .i64 (n : Int) ∧ Hid (Bld Q Q (Wire.numE t.kind ++ ((t.fs.take n).map (fdE d v)).flatten) wr) ∧ Hid (Below Q w2 wr)) (fun iv _ => t.fs.length - (intOf iv).toNat)
    case atStart => exact ⟨0, Nat.zero_le _, rfl, by simpa using HB3, BL3⟩
    case round =>
      obtain ⟨n, hn, rfl, HBn, BLn⟩ := hrel
      have hq2 : Nw w2 wr := Upd.of_below _ (by rw [← HQ.out]; exact BLn.out)
      have HNW := Lib.hid (HN.out.trans (U2.out.trans hq2))
      have HNW2 := Lib.hid (U2.out.trans hq2)
      clear hq2
      by_cases hlt : n < t.fs.length
      · have hlt1 : (n : Int) < t.fs.length := by omega
        have hn8 : (n : Int) ≤ 8 := by omega
        rcases HFC.out with hnil | ⟨b, off, rfl, hb, hcell⟩
        · rw [hnil] at hlt; simp at hlt
        obtain ⟨sv, p0, p1, p2, hty, hsl⟩ := hcell n hlt
        obtain ⟨sa, sc, hsv, -⟩ := hty.cells
        subst hsv
        have y0 := nw_cellF HNW.out p0
        have y1 := nw_cellF HNW.out p1
        have y2 := nw_cellF HNW.out p2
        have HS := Lib.hid (Wire.flatten_take_succ (fdE d v) t.fs n hlt)
        have HPRE := Lib.hid (Wire.flatten_take_le (fdE d v) t.fs (n + 1))
        have HSub := Lib.hid (RT.out.sub _ (List.getElem_mem hlt))
        have hix := FT.out.i _ (List.getElem_mem hlt)
        have hfit := FT.out.s _ (List.getElem_mem hlt)
        have HTY := Lib.hid hty
        have HSL := Lib.hid hsl
        clear hcell p0 p1 p2 hty hsl
        generalize t.fs[n] = fld at *
        obtain ⟨s, ft⟩ := fld
        dsimp only at *
        rcases Fm.idx_cases s v.names with ⟨hx, hno⟩ | ⟨i, hi, hx, he⟩
        · rw [hx] at hix; simp at hix
        have hiv : i < v.vals.length := by have := RV.out.len; omega
        have hat : v.at_ s = v.vals[i] := by unfold Fm.Vl.at_; rw [hx]; simp [hiv]
        have HFD : Hid (fdE d v (s, ft) = Wire.textE s ++ Wire.textE (Fm.writeF d ft v.vals[i])) := by
          show _ = _
          unfold fdE; rw [hat]
        rw [hat] at hfit
        rcases HVC.out with hnil | ⟨b', off', rfl, hb', hc'⟩
        · rw [hnil] at hiv; simp at hiv
        obtain ⟨nv', vv', q0, q1, q2, q3, q4⟩ := hc' i hiv
        obtain ⟨xa, xc, rfl, -⟩ := q4.names
        obtain ⟨ya, yc, rfl, -⟩ := q4.vals
        have HRV := Lib.hid (RV.out.all _ (List.getElem_mem hiv))
        have HQ4 := Lib.hid q4
        have HF := Lib.hid hfit
        obtain ⟨wo, hwo, n0, hbx⟩ : ∃ z, z = wr.alloc (.cells #[.string ⟨s.toArray⟩, .int .i64 ft.kind, .slice sa ft.fs.length sc] tFd) ∧ Nw wr z ∧ z.heap[wr.heap.size]? = some (.cells #[.string ⟨s.toArray⟩, .int .i64 ft.kind, .slice sa ft.fs.length sc] tFd (0, 0)) := ⟨_, rfl, nw_alloc wr _, heap_new wr _⟩
        have HWO := Lib.hid hwo
        have HN0 := Lib.hid n0
        have HBX := Lib.hid hbx
        have HBLD := Lib.hid (HBn.out.nw n0)
        have HP : Hid (∀ y, Nw wo y → y.cell? ⟨wr.heap.size, 0, none⟩ = some (.string ⟨s.toArray⟩) ∧ y.cell? ⟨wr.heap.size, 1, none⟩ = some (.int .i64 ft.kind) ∧ y.cell? ⟨wr.heap.size, 2, none⟩ = some (.slice sa ft.fs.length sc) ∧ y.cell? ⟨w.heap.size + 1, 3, none⟩ = some (.slice (some ⟨b', off', none⟩) v.vals.length vc) ∧ y.cell? ⟨b', off' + i * 4, none⟩ = some (.int .i64 (v.vals[i]).kind) ∧ y.cell? ⟨b', off' + i * 4 + 1, none⟩ = some (.int .i64 (v.vals[i]).n) ∧ y.cell? ⟨b', off' + i * 4 + 2, none⟩ = some (.slice xa (v.vals[i]).names.length xc) ∧ y.cell? ⟨b', off' + i * 4 + 3, none⟩ = some (.slice ya (v.vals[i]).vals.length yc)) := fun y u => by
          have h2 := Nw.keep u hbx
          have uy := (HNW.out.trans n0).trans u
          obtain ⟨-, -, -, -, k3⟩ := HC.out y ((HNW2.out.trans n0).trans u)
          exact ⟨by rw [cells_cell h2]; rfl, by rw [cells_cell h2]; rfl, by rw [cells_cell h2]; rfl, k3, nw_cellF uy q0, nw_cellF uy q1, nw_cellF uy q2, nw_cellF uy q3⟩
        obtain ⟨x0, -, -, -, -, -, -, -⟩ := HP.out wo (Upd.refl _ _)
        obtain ⟨-, -, -, x3, -⟩ := HC.out wo (HNW2.out.trans n0)
        have hix1 := Lib.hid (index_s na nc v.names s wo (HNC.out.nw (HNW.out.trans n0)) HNL.out.1)
        rw [hx] at hix1
        have HB1 : Hid ((Wire.numE t.kind ++ ((t.fs.take n).map (fdE d v)).flatten).length + ((Wire.textE s).length + (Wire.textE (Fm.writeF d ft v.vals[i])).length) ≤ 400000) := by
          have h1 := HPRE.out
          have h2 := HLEN.out
          rw [HS.out, HFD.out] at h1
          rw [E9.out] at h2
          simp only [List.length_append] at h1 h2 ⊢
          show _ ≤ _
          omega
        have HSLEN : Hid (s.length ≤ 400000 ∧ (Fm.writeF d ft v.vals[i]).length ≤ 400000) := by
          have h1 := HB1.out
          have h2 : s.length ≤ (Wire.textE s).length := by unfold Wire.textE; simp only [List.length_append]; omega
          have h3 : (Fm.writeF d ft v.vals[i]).length ≤ (Wire.textE (Fm.writeF d ft v.vals[i])).length := by unfold Wire.textE; simp only [List.length_append]; omega
          exact ⟨by omega, by omega⟩
        have hG0 : Hid (Gm wo) := HG.out.upd (HNW2.out.trans n0)
        have HT1 : Hid (∀ y, Nw wo y → Calls Tryz.prog 43 #[.string ⟨s.toArray⟩] y fun e z => e = .returned (.string ⟨(Wire.textE s).toArray⟩) ∧ Nw y z) := fun y u => Text_e _ s (bs_list _) y (hG0.out.upd u).g (by have := HSLEN.out.1; omega)
        have HT2 : Hid (∀ y, Nw wo y → Calls Tryz.prog 49 #[.agg #[.int .i64 ft.kind, .slice sa ft.fs.length sc], .agg #[.int .i64 (v.vals[i]).kind, .int .i64 (v.vals[i]).n, .slice xa (v.vals[i]).names.length xc, .slice ya (v.vals[i]).vals.length yc]] y fun e z => e = .returned (.string ⟨(Fm.writeF d ft v.vals[i]).toArray⟩) ∧ Nw y z) := fun y u => IH.out ft _ v.vals[i] _ _ y (hG0.out.upd u) HSub.out HRV.out HF.out (HTY.out.nw ((HNW.out.trans n0).trans u)) (HQ4.out.nw ((HNW.out.trans n0).trans u))
        have HT3 : Hid (∀ y, Nw wo y → Calls Tryz.prog 43 #[.string ⟨(Fm.writeF d ft v.vals[i]).toArray⟩] y fun e z => e = .returned (.string ⟨(Wire.textE (Fm.writeF d ft v.vals[i])).toArray⟩) ∧ Nw y z) := fun y u => Text_e _ _ (bs_list _) y (hG0.out.upd u).g (by have := HSLEN.out.2; omega)
        have hiv1 : (i : Int) < v.vals.length := by omega
        have l1 : (Wire.textE s).length ≤ 400000 := by have := HB1.out; omega
        have l2 : (Wire.textE (Fm.writeF d ft v.vals[i])).length ≤ 400000 := by have := HB1.out; omega
        have hi0 : decide ((i : Int) < 0) = false := decide_eq_false (by omega)
        clear HFC HNC HVC hix hfit hx he hat hc' q0 q1 q2 q3 q4 hwo n0 hbx
        generalize v.vals[i] = xv at *
        go_upto_region 11 with fail
        rw [← HWO.out]
        clear HWO
        go_wp2_with fail
        (with_reducible refine (hix1.out).mono ?_)
        rintro _ _ ⟨rfl, rfl⟩
        clear hix1
        go_wp2_with fail
        have HS0 := Lib.hid (HP.out _ (Upd.refl _ wo).drew)
        refine wp_region_G (fun y => y.cell? ⟨wr.heap.size, 0, none⟩ = some (.string ⟨s.toArray⟩) ∧ y.cell? ⟨wr.heap.size, 1, none⟩ = some (.int .i64 ft.kind) ∧ y.cell? ⟨wr.heap.size, 2, none⟩ = some (.slice sa ft.fs.length sc) ∧ y.cell? ⟨w.heap.size + 1, 3, none⟩ = some (.slice (some ⟨b', off', none⟩) v.vals.length vc) ∧ y.cell? ⟨b', off' + i * 4, none⟩ = some (.int .i64 xv.kind) ∧ y.cell? ⟨b', off' + i * 4 + 1, none⟩ = some (.int .i64 xv.n) ∧ y.cell? ⟨b', off' + i * 4 + 2, none⟩ = some (.slice xa xv.names.length xc) ∧ y.cell? ⟨b', off' + i * 4 + 3, none⟩ = some (.slice ya xv.vals.length yc)) 13 (by kernel_rfl) ?_
        refine wpAnyG_pure (i := 0) (v := ?_) rfl (by kernel_rfl) (by kernel_rfl) (by kernel_rfl) (by kernel_rfl) (by kernel_rfl) (fun _ _ _ h => h) (by rfl) ?_ (fun _ => HS0.out) ?_
        rotate_left 1
        · (intro zz; go_simp; first | done | with_reducible rfl)
        (try simp only [Act.put, List.setIfInBounds_toArray, List.set_cons_zero, List.set_cons_succ])
        refine wpAnyG_pure (i := 3) (v := ?_) rfl (by kernel_rfl) (by kernel_rfl) (by kernel_rfl) (by kernel_rfl) (by kernel_rfl) (fun _ _ _ h => h) (by rfl) ?_ (fun _ => HS0.out) ?_
        rotate_left 1
        · (intro zz; go_simp; first | done | with_reducible rfl)
        (try simp only [Act.put, List.setIfInBounds_toArray, List.set_cons_zero, List.set_cons_succ])
        refine wpAnyG_pure (i := 5) (v := ?_) rfl (by kernel_rfl) (by kernel_rfl) (by kernel_rfl) (by kernel_rfl) (by kernel_rfl) (fun _ _ _ h => h) (by rfl) ?_ (fun _ => HS0.out) ?_
        rotate_left 1
        · (intro zz; go_simp; first | done | with_reducible rfl)
        (try simp only [Act.put, List.setIfInBounds_toArray, List.set_cons_zero, List.set_cons_succ])
        refine wpAnyG_pure (i := 7) (v := ?_) rfl (by kernel_rfl) (by kernel_rfl) (by kernel_rfl) (by kernel_rfl) (by kernel_rfl) (fun _ _ _ h => h) (by rfl) ?_ (fun _ => HS0.out) ?_
        rotate_left 1
        · (intro zz; go_simp; first | done | with_reducible rfl)
        (try simp only [Act.put, List.setIfInBounds_toArray, List.set_cons_zero, List.set_cons_succ])
        refine wpAnyG_load (i := 1) (v := ?_) [12, 2] rfl (by kernel_rfl) (by kernel_rfl) (by kernel_rfl) (by kernel_rfl) (by kernel_rfl) (by kernel_rfl) (fun _ _ _ h => h) (by rfl) ?_ (fun _ => HS0.out) ?_
        rotate_left 1
        · (intro zz hS; obtain ⟨_, _, _, _, _, _, _, _⟩ := hS; go_simp; first | done | with_reducible rfl)
        (try simp only [Act.put, List.setIfInBounds_toArray, List.set_cons_zero, List.set_cons_succ])
        refine wpAnyG_load (i := 4) (v := ?_) [12, 11, 10] rfl (by kernel_rfl) (by kernel_rfl) (by kernel_rfl) (by kernel_rfl) (by kernel_rfl) (by kernel_rfl) (fun _ _ _ h => h) (by rfl) ?_ (fun _ => HS0.out) ?_
        rotate_left 1
        · (intro zz hS; obtain ⟨_, _, _, _, _, _, _, _⟩ := hS; go_simp; first | done | with_reducible rfl)
        (try simp only [Act.put, List.setIfInBounds_toArray, List.set_cons_zero, List.set_cons_succ])
        refine wpAnyG_load (i := 6) (v := ?_) [12, 11, 10, 9, 8] rfl (by kernel_rfl) (by kernel_rfl) (by kernel_rfl) (by kernel_rfl) (by kernel_rfl) (by kernel_rfl) (fun _ _ _ h => h) (by rfl) ?_ (fun _ => HS0.out) ?_
        rotate_left 1
        · (intro zz hS; obtain ⟨_, _, _, _, _, _, _, _⟩ := hS; go_simp; first | done | with_reducible rfl)
        (try simp only [Act.put, List.setIfInBounds_toArray, List.set_cons_zero, List.set_cons_succ])
        refine wpAnyG_pure (i := 8) (v := ?_) rfl (by kernel_rfl) (by kernel_rfl) (by kernel_rfl) (by kernel_rfl) (by kernel_rfl) (fun _ _ _ h => h) (by rfl) ?_ (fun _ => HS0.out) ?_
        rotate_left 1
        · (intro zz; go_simp; first | done | with_reducible rfl)
        (try simp only [Act.put, List.setIfInBounds_toArray, List.set_cons_zero, List.set_cons_succ])
        refine wpAnyG_load (i := 9) (v := ?_) [12, 11, 10] rfl (by kernel_rfl) (by kernel_rfl) (by kernel_rfl) (by kernel_rfl) (by kernel_rfl) (by kernel_rfl) (fun _ _ _ h => h) (by rfl) ?_ (fun _ => HS0.out) ?_
        rotate_left 1
        · (intro zz hS; obtain ⟨_, _, _, _, _, _, _, _⟩ := hS; go_simp; first | done | with_reducible rfl)
        (try simp only [Act.put, List.setIfInBounds_toArray, List.set_cons_zero, List.set_cons_succ])
        have hd0 : Nw wo wo.drew := (Upd.refl _ wo).drew
        -- the call number 2 by the contract HT1 at the world wo.drew behind wo by hd0: the world w4, the step u4
        refine wpAnyG_ready [2] (by kernel_rfl) (by simp) ?_
        refine AllG.cons rfl (fun K hK => ?_) AllG.nil
        have hCC := (HT1).out (wo.drew) (hd0)
        go_simp
        (with_reducible refine (hCC).mono ?_)
        rintro _ w4 ⟨rfl, u4⟩
        clear hCC
        replace u4 := Nw.trans (hd0) (u4)
        refine hK.out _ _ (fun _ => HP.out _ u4) ?_
        clear hK K
        (try simp only [Act.put, List.setIfInBounds_toArray, List.set_cons_zero, List.set_cons_succ])
        -- the call number 10 by the contract HT2 at the world w4 behind wo by u4: the world w5, the step u5
        refine wpAnyG_ready [10] (by kernel_rfl) (by simp) ?_
        refine AllG.cons rfl (fun K hK => ?_) AllG.nil
        have hCC := (HT2).out (w4) (u4)
        go_simp
        (with_reducible refine (hCC).mono ?_)
        rintro _ w5 ⟨rfl, u5⟩
        clear hCC
        replace u5 := Nw.trans (u4) (u5)
        refine hK.out _ _ (fun _ => HP.out _ u5) ?_
        clear hK K
        (try simp only [Act.put, List.setIfInBounds_toArray, List.set_cons_zero, List.set_cons_succ])
        -- the call number 11 by the contract HT3 at the world w5 behind wo by u5: the world w6, the step u6
        refine wpAnyG_ready [11] (by kernel_rfl) (by simp) ?_
        refine AllG.cons rfl (fun K hK => ?_) AllG.nil
        have hCC := (HT3).out (w5) (u5)
        go_simp
        (with_reducible refine (hCC).mono ?_)
        rintro _ w6 ⟨rfl, u6⟩
        clear hCC
        replace u6 := Nw.trans (u5) (u6)
        refine hK.out _ _ (fun _ => HP.out _ u6) ?_
        clear hK K
        (try simp only [Act.put, List.setIfInBounds_toArray, List.set_cons_zero, List.set_cons_succ])
        have l3 : ¬ 9223372036854775807 < (Wire.textE s).length + (Wire.textE (Fm.writeF d ft xv)).length := by omega
        refine wpAnyG_pure (i := 12) (v := ?_) rfl (by kernel_rfl) (by kernel_rfl) (by kernel_rfl) (by kernel_rfl) (by kernel_rfl) (fun _ _ _ h => h) (by rfl) ?_ (fun _ => HP.out _ u6) ?_
        rotate_left 1
        · (intro zz; go_simp; first | done | with_reducible rfl)
        (try simp only [Act.put, List.setIfInBounds_toArray, List.set_cons_zero, List.set_cons_succ])
        refine wpAnyG_ready [13] (by kernel_rfl) (by simp) ?_
        refine AllG.cons rfl (fun K hK => ?_) AllG.nil
        have hQ0 : Q ≤ wr.heap.size := by have := BLn.out.size; have := HQ.out; omega
        have hWS := WriteString_c Q Q _ (⟨(Wire.textE s).toArray⟩ ++ ⟨(Wire.textE (Fm.writeF d ft xv)).toArray⟩) (Wire.textE s ++ Wire.textE (Fm.writeF d ft xv)) (by simp only [bs_append_list, bs_list]) w6 (HBLD.out.nw u6) (by have := HB1.out; rw [@List.length_append _ (Wire.textE s)]; omega) (by have := u6.size; have := HN0.out.size; omega)
        go_simp
        (with_reducible refine (hWS).mono ?_)
        rintro _ w7 ⟨rfl, hB7, b7⟩
        clear hWS
        refine hK.out _ _ (fun e => absurd (show true = false from e) (by decide)) ?_
        clear hK K
        (try simp only [Act.put, List.setIfInBounds_toArray, List.set_cons_zero, List.set_cons_succ])
        refine wpAnyG_done (by kernel_rfl) ?_ _
        have BL7 : Below Q w2 w7 := (BLn.out.trans (Below.mono (Nw.below (HN0.out.trans u6)) hQ0)).trans b7
        have HB7 : Hid (Bld Q Q (Wire.numE t.kind ++ ((t.fs.take (n + 1)).map (fdE d v)).flatten) w7) := by
          rw [HS.out, HFD.out, ← List.append_assoc]
          exact hB7
        go_wp2_with fail
        go_roundw
        case rel => exact ⟨n + 1, by omega, by go_num, HB7, BL7⟩
        case measure => simp [intOf]; omega
      · obtain rfl : n = t.fs.length := by omega
        have hst := Lib.hid (String_c Q Q _ wr HBn.out (by have := BLn.out.size; rw [HQ.out]; exact this))
        clear HFC HNC HVC
        go_wp2_with fail
        (with_reducible refine (hst.out).mono ?_)
        rintro _ w4 ⟨rfl, b4⟩
        have u4 : Nw w2 w4 := Upd.of_below _ (by rw [← HQ.out]; exact BLn.out.trans b4)
        go_wp2_with fail
        go_ret
        refine ⟨?_, HN.out.trans (U2.out.trans u4)⟩
        rw [E9.out]; rfl
end Go.Proofs.YthagiklfmkdmaaaGreatDoor
namespace Go.Proofs.YthagiklfmkdmaaaGreatDoor
open Go.RowKit
set_option linter.unusedVariables false
set_option linter.unusedSimpArgs false
attribute [local irreducible] Calls

/-- At block b lies a reader (of the type T) in the state st. -/
def Rdr (T : TypeId) (w : World) (b : Nat) (st : Wire.St) : Prop := nG ≤ b ∧ w.heap[b]? = some (.cells #[.string ⟨(st.getD []).toArray⟩, .bool st.isNone] T (0, 0))
abbrev tR : TypeId := 162
theorem Rdr.lt {T : TypeId} {w : World} {b : Nat} {st : Wire.St} (h : Rdr T w b st) : b < w.heap.size := lt_of_block h.2
theorem Rdr.c0 {T : TypeId} {w : World} {b : Nat} {st : Wire.St} (h : Rdr T w b st) : w.cell? ⟨b, 0, none⟩ = some (.string ⟨(st.getD []).toArray⟩) := by rw [cells_cell h.2]; rfl
theorem Rdr.c1 {T : TypeId} {w : World} {b : Nat} {st : Wire.St} (h : Rdr T w b st) : w.cell? ⟨b, 1, none⟩ = some (.bool st.isNone) := by rw [cells_cell h.2]; rfl
theorem Rdr.fz {T : TypeId} {w : World} {b : Nat} {st : Wire.St} (h : Rdr T w b st) (i : Nat) : w.frozen? ⟨b, i, none⟩ = false := cells_frozen h.2 i
theorem Rdr.upd {T : TypeId} {S : Nat → Prop} {w w' : World} {b : Nat} {st : Wire.St} (h : Rdr T w b st) (u : Upd S w w') (hn : ¬ S b) : Rdr T w' b st := ⟨h.1, u.keep h.2 hn⟩
theorem Rdr.nw {T : TypeId} {w w' : World} {b : Nat} {st : Wire.St} (h : Rdr T w b st) (u : Nw w w') : Rdr T w' b st := h.upd u id
theorem Rdr.set0 {T : TypeId} {w : World} {b : Nat} {st : Wire.St} (h : Rdr T w b st) (s : ByteArray) (r : List UInt8) (hs : st.isNone = false) (hr : s.data.toList = r) : Rdr T (w.setCell ⟨b, 0, none⟩ (.string s)) b (some r) := by
  refine ⟨h.1, ?_⟩
  rw [setCell_block h.2, hs, ← bs_eta s, hr]
  rfl
theorem Rdr.setr {T : TypeId} {w : World} {b : Nat} {st : Wire.St} (h : Rdr T w b st) (s : ByteArray) (st' : Wire.St) (hs : st'.isNone = st.isNone) (hr : s.data.toList = st'.getD []) : Rdr T (w.setCell ⟨b, 0, none⟩ (.string s)) b st' := by
  refine ⟨h.1, ?_⟩
  rw [setCell_block h.2, ← hs, ← bs_eta s, hr]
  rfl
theorem Rdr.set_fail {T : TypeId} {w : World} {b : Nat} {st : Wire.St} (h : Rdr T w b st) : Rdr T ((w.setCell ⟨b, 0, none⟩ (.string ⟨#[]⟩)).setCell ⟨b, 1, none⟩ (.bool true)) b none := by
  refine ⟨h.1, ?_⟩
  rw [setCell_block (setCell_block h.2 _ _)]
  rfl
theorem Rdr.set_same {T : TypeId} {w : World} {b : Nat} {st : Wire.St} (h : Rdr T w b st) : Rdr T (w.setCell ⟨b, 0, none⟩ (.string ⟨(st.getD []).toArray⟩)) b st := by
  refine ⟨h.1, ?_⟩
  rw [setCell_block h.2]
  rfl
set_option maxHeartbeats 400000 in
theorem fail_c (b : Nat) (st : Wire.St) (w : World) (h : Rdr tR w b st) :
    Calls Tryz.prog 159 #[.pointer (some ⟨b, 0, none⟩)] w fun e w' => e = .returned (.tuple #[]) ∧ Rdr tR w' b none ∧ Upd (· = b) w w' := by
  have c0 := h.c0
  have c1 := h.c1
  have f0 := h.fz 0
  have f1 := h.fz 1
  go_enter Tryz.func159, Tryz.ntmps159
  go_wp2
  go_end0
  exact ⟨rfl, h.set_fail, ((Upd.refl _ _).set1 h.1 _ _).set1 h.1 _ _⟩
theorem c58 : (58 : Int) = ((58 : UInt8).toNat : Int) := rfl
theorem c59 : (59 : Int) = ((59 : UInt8).toNat : Int) := rfl
theorem c44 : (44 : Int) = ((44 : UInt8).toNat : Int) := rfl
set_option maxHeartbeats 400000 in
theorem number_c (b : Nat) (st : Wire.St) (c : UInt8) (ci least : Int) (hci : ci = c.toNat) (w : World) (g : Gl w) (h : Rdr tR w b st) (hl : (st.getD []).length ≤ 9223372036854775807) :
    Calls Tryz.prog 129 #[.pointer (some ⟨b, 0, none⟩), .int .u8 ci, .int .i64 least] w fun e w' =>
      e = .returned (.int .i64 (Wire.rNumber st c least).1) ∧ Rdr tR w' b (Wire.rNumber st c least).2 ∧ Upd (· = b) w w' := by
  have c0 := h.c0
  have c1 := h.c1
  have f0 := h.fz 0
  have f1 := h.fz 1
  subst hci
  go_enter Tryz.func129, Tryz.ntmps129
  go_wp2
  go_quiet (fail)
  go_wp2_with fail
  obtain ⟨w1, e1, u1⟩ := nw_drewN w nq
  rw [e1]; clear e1
  replace h := h.nw u1
  replace g := g.upd u1
  obtain ⟨hd, ehd⟩ : ∃ hd : ByteArray, ({ data := (Option.getD st []).toArray } : ByteArray).extract 0 (min (↑(Option.getD st []).length) (21 : Int)).toNat = hd := ⟨_, rfl⟩
  have Hd : Hid (hd.data.toList = (st.getD []).take 21) := by rw [← ehd]; show _ = _; rw [bs_extract_list]; simp; omega
  have hds : hd.size = min 21 (st.getD []).length := by rw [bs_size, Hd.out, List.length_take]
  rw [ehd]; clear ehd
  (with_reducible refine (IndexByte_l hd c ((st.getD []).take 21) Hd.out _).mono ?_)
  rintro _ _ ⟨rfl, rfl⟩
  have i0 := Lib.indexByte_ge ((st.getD []).take 21) c
  have i1 := Wire.indexByte_lt ((st.getD []).take 21) c
  generalize hi : Lib.indexByte ((st.getD []).take 21) c = i at *
  have Hi := Lib.hid hi; clear hi
  rw [List.length_take, ← hds] at i1
  have i2 : i ≤ 20 := by omega
  have i3 : i < ((st.getD []).length : Int) := by omega
  have Hds := Lib.hid hds; clear hds
  go_wp2_with fail
  · (with_reducible refine (fail_c b st _ h).mono ?_)
    rintro _ w' ⟨rfl, h', u'⟩
    go_wp2_with fail
    go_ret
    rw [Wire.rNumber_neg (by rw [Hi.out]; assumption)]
    exact ⟨rfl, h', u1.trans u'⟩
  · have hs := Wire.isSome_of_index Hi.out (by assumption)
    have h0i : 0 ≤ i := by assumption
    obtain ⟨hp, ehp⟩ : ∃ hp : ByteArray, hd.extract 0 i.toNat = hp := ⟨_, rfl⟩
    have Hp : Hid (hp.data.toList = (st.getD []).take i.toNat) := by rw [← ehp]; show _ = _; rw [bs_extract_list, Hd.out]; have := Hds.out; simp [List.take_take]; omega
    rw [ehp]
    (with_reducible refine (Atoi_l hp ((st.getD []).take i.toNat) Hp.out _ g (by simp; omega)).mono ?_)
    rintro _ w2 ⟨n, v, rfl, hn, hv, u2⟩
    replace h := h.nw u2
    replace g := g.upd u2
    replace c0 := h.c0
    replace f0 := h.fz 0
    have h1 : i ≤ (hd.size : Int) := by omega
    rcases hv with ⟨rfl, hv⟩ | ⟨⟨tv, pv, rfl⟩, hv⟩
    · by_cases he : Lib.itoa n = (st.getD []).take i.toNat
      · have hb : (Lib.itoa n == hp.toList) = true := by rw [bs_toList, Hp.out, he]; simp
        have Hn := Lib.hid (Wire.rNumber_some (least := least) Hi.out h0i (Wire.numOf_eq hv he))
        have He := Lib.hid he; clear he
        have Hv := Lib.hid hv; clear hv
        by_cases hlt : n < least
        · have hdl : decide (n < least) = true := by simpa using hlt
          go_wp2_with fail
          refine wp_region_nw (by kernel_rfl) (by kernel_rfl) ?_
          repeat (go_big_quiet_step ((go_at_call 77; exact later_call (Itoa_c n _ (g.upd (Later.nw _)) hn))))
          refine wpQuiet_nil ?_
          intro w3 u3
          replace u3 := later_out u3
          replace h := h.nw u3
          go_wp2_with fail
          (with_reducible refine (fail_c b st _ h).mono ?_)
          rintro _ w' ⟨rfl, h', u'⟩
          go_wp2_with fail
          go_ret
          rw [Hn.out, if_pos hlt]
          exact ⟨rfl, h', Nw.trans u1 (Nw.trans u2 (Nw.trans u3 u'))⟩
        · have hdl : decide (n < least) = false := by simpa using hlt
          go_wp2_with fail
          refine wp_region_nw (by kernel_rfl) (by kernel_rfl) ?_
          repeat (go_big_quiet_step ((go_at_call 77; exact later_call (Itoa_c n _ (g.upd (Later.nw _)) hn))))
          refine wpQuiet_nil ?_
          intro w3 u3
          replace u3 := later_out u3
          replace h := h.nw u3
          replace c0 := h.c0
          replace f0 := h.fz 0
          go_wp2_with fail
          go_ret
          rw [Hn.out, if_neg (by omega)]
          exact ⟨rfl, h.set0 _ _ hs (by rw [bs_extract_list, bs_list, List.take_of_length_le (by simp <;> omega)]; congr 1 <;> omega), Nw.trans u1 (Nw.trans u2 (Nw.trans u3 ((Upd.refl _ _).set1 h.1 _ _)))⟩
      · have hb : (Lib.itoa n == hp.toList) = false := by rw [bs_toList, Hp.out]; simpa using he
        have Hn := Lib.hid (Wire.numOf_ne hv he)
        have Hv := Lib.hid hv; clear hv
        have He := Lib.hid he; clear he
        go_wp2_with fail
        refine wp_region_nw (by kernel_rfl) (by kernel_rfl) ?_
        repeat (go_big_quiet_step ((go_at_call 77; exact later_call (Itoa_c n _ (g.upd (Later.nw _)) hn))))
        refine wpQuiet_nil ?_
        intro w3 u3
        replace u3 := later_out u3
        replace h := h.nw u3
        go_wp2_with fail
        (with_reducible refine (fail_c b st _ h).mono ?_)
        rintro _ w' ⟨rfl, h', u'⟩
        go_wp2_with fail
        go_ret
        rw [Wire.rNumber_none Hi.out h0i Hn.out]
        exact ⟨rfl, h', Nw.trans u1 (Nw.trans u2 (Nw.trans u3 u'))⟩
    · go_wp2_with fail
      go_quiet (fail)
      obtain ⟨w3, e3, u3⟩ := nw_drewN w2 nq
      rw [e3]; clear e3
      replace h := h.nw u3
      go_wp2_with fail
      (with_reducible refine (fail_c b st _ h).mono ?_)
      rintro _ w' ⟨rfl, h', u'⟩
      go_wp2_with fail
      go_ret
      rw [Wire.rNumber_none Hi.out (by assumption) (Wire.numOf_none hv)]
      exact ⟨rfl, h', Nw.trans u1 (Nw.trans u2 (Nw.trans u3 u'))⟩

set_option maxHeartbeats 400000 in
theorem close_c (b : Nat) (st : Wire.St) (c : UInt8) (w : World) (h : Rdr tR w b st) :
    Calls Tryz.prog 161 #[.pointer (some ⟨b, 0, none⟩), .string ⟨#[c]⟩] w fun e w' =>
      e = .returned (.tuple #[]) ∧ Rdr tR w' b (Wire.rClose st c) ∧ Upd (· = b) w w' := by
  have c0 := h.c0
  have c1 := h.c1
  have f0 := h.fz 0
  have f1 := h.fz 1
  go_enter Tryz.func161, Tryz.ntmps161
  go_wp2_with fail
  (with_reducible refine (CutPrefix_c _ _ _).mono ?_)
  rintro _ _ ⟨rfl, rfl⟩
  cases hp : Lib.hasPrefix (st.getD []) [c] with
  | false =>
    have ht := Wire.trimPrefix_no hp
    go_wp2_with fail
    (with_reducible refine (fail_c b st _ h.set_same).mono ?_)
    rintro _ w' ⟨rfl, h', u'⟩
    go_wp2_with fail
    go_end0
    rw [Wire.rClose_no hp]
    exact ⟨rfl, h', ((Upd.refl _ _).set1 h.1 _ _).trans u'⟩
  | true =>
    have hr := Wire.rClose_yes hp
    go_wp2_with fail
    go_end0
    rw [hr.2]
    exact ⟨rfl, h.set0 _ _ hr.1 (bs_list _), (Upd.refl _ _).set1 h.1 _ _⟩
end Go.Proofs.YthagiklfmkdmaaaGreatDoor
namespace Go.Proofs.YthagiklfmkdmaaaGreatDoor
open Go.RowKit
set_option linter.unusedVariables false
set_option linter.unusedSimpArgs false
attribute [local irreducible] Calls

theorem Num_r (b : Nat) (st : Wire.St) (w : World) (g : Gl w) (h : Rdr tR w b st) (hl : (st.getD []).length ≤ 9223372036854775807) :
    Calls Tryz.prog 94 #[.pointer (some ⟨b, 0, none⟩)] w fun e w' =>
      e = .returned (.int .i64 (Wire.rNum st).1) ∧ Rdr tR w' b (Wire.rNum st).2 ∧ Upd (· = b) w w' := by
  go_enter Tryz.func94, Tryz.ntmps94
  go_wp2_with fail
  (with_reducible refine (number_c b st 59 59 _ c59 _ g h hl).mono ?_)
  rintro _ w' ⟨rfl, h', u'⟩
  go_wp2_with fail
  go_ret
  exact ⟨rfl, h', u'⟩
theorem Int_r (b : Nat) (st : Wire.St) (w : World) (g : Gl w) (h : Rdr tR w b st) (hl : (st.getD []).length ≤ 9223372036854775807) :
    Calls Tryz.prog 96 #[.pointer (some ⟨b, 0, none⟩)] w fun e w' =>
      e = .returned (.int .i64 (Wire.rInt st).1) ∧ Rdr tR w' b (Wire.rInt st).2 ∧ Upd (· = b) w w' := by
  go_enter Tryz.func96, Tryz.ntmps96
  go_wp2_with fail
  (with_reducible refine (number_c b st 59 59 _ c59 _ g h hl).mono ?_)
  rintro _ w' ⟨rfl, h', u'⟩
  go_wp2_with fail
  go_ret
  exact ⟨rfl, h', u'⟩
set_option maxHeartbeats 400000 in
theorem Text_r (b : Nat) (st : Wire.St) (w : World) (g : Gl w) (h : Rdr tR w b st) (hl : (st.getD []).length ≤ 9223372036854775807) :
    Calls Tryz.prog 131 #[.pointer (some ⟨b, 0, none⟩)] w fun e w' =>
      e = .returned (.string ⟨(Wire.rText st).1.toArray⟩) ∧ Rdr tR w' b (Wire.rText st).2 ∧ Upd (· = b) w w' := by
  have hle := Wire.rNumber_le st 58 0
  have hn0 := Wire.rNumber_least st 58 0 (Int.le_refl 0)
  go_enter Tryz.func131, Tryz.ntmps131
  go_wp2_with fail
  (with_reducible refine (number_c b st 58 58 _ c58 _ g h hl).mono ?_)
  rintro _ w1 ⟨rfl, h1, u1⟩
  cases hq : Wire.rNumber st 58 0 with
  | mk n s1 =>
  rw [hq] at hle hn0 h1
  have Hq := Lib.hid hq; clear hq
  replace hle : (s1.getD []).length ≤ (st.getD []).length := hle
  replace hn0 : 0 ≤ n := hn0
  replace h1 : Rdr tR w1 b s1 := h1
  have c0 := h1.c0
  have c1 := h1.c1
  have f0 := h1.fz 0
  have f1 := h1.fz 1
  by_cases hfar : ((s1.getD []).length : Int) < n
  · go_wp2_with fail
    (with_reducible refine (fail_c b s1 _ h1).mono ?_)
    rintro _ w2 ⟨rfl, h2, u2⟩
    go_wp2_with fail
    go_ret
    have e : Wire.rText st = ([], none) := by
      cases s1 with
      | none => exact Wire.rText_none Hq.out
      | some r => exact Wire.rText_far Hq.out hfar
    rw [e]
    exact ⟨rfl, h2, u1.trans u2⟩
  · have hs1 : s1 = none → n = 0 := fun e => Wire.rNumber_zero (by rw [Hq.out, e])
    have h2 : ∀ s : ByteArray, s.data.toList = (s1.getD []).drop n.toNat → Rdr tR (w1.setCell ⟨b, 0, none⟩ (.string s)) b (s1.map fun r => r.drop n.toNat) := fun s hs => by
      refine h1.setr s _ (by cases s1 <;> rfl) ?_
      rw [hs]
      cases s1 <;> simp
    have Hs1 := Lib.hid hs1; clear hs1
    have H2 := Lib.hid h2; clear h2
    go_wp2_with fail
    (with_reducible refine (close_c b (s1.map fun r => r.drop n.toNat) 44 _ (H2.out _ (by rw [bs_extract_list, bs_list, List.take_of_length_le (by simp)]))).mono ?_)
    rintro _ w3 ⟨rfl, h3, u3⟩
    have d1 := h3.c1
    have hc : Wire.rText st = ((if (Wire.rClose (s1.map fun r => r.drop n.toNat) 44).isNone then [] else (s1.getD []).take n.toNat), Wire.rClose (s1.map fun r => r.drop n.toNat) 44) := by
      cases s1 with
      | none => exact Wire.rText_none Hq.out
      | some r =>
        cases hx : Wire.rClose (some (r.drop n.toNat)) 44 with
        | none => rw [Wire.rText_open Hq.out (by simpa using hfar) hx]; simp [hx]
        | some r' => rw [Wire.rText_ok Hq.out (by simpa using hfar) hx]; simp [hx]
    have Hc := Lib.hid hc; clear hc
    generalize Wire.rClose (s1.map fun r => r.drop n.toNat) 44 = s3 at *
    cases s3 with
    | none =>
      go_wp2_with fail
      go_ret
      rw [Hc.out]
      exact ⟨rfl, h3, u1.trans (((Upd.refl _ _).set1 h1.1 _ _).trans u3)⟩
    | some r3 =>
      go_wp2_with fail
      go_ret
      rw [Hc.out]
      refine ⟨?_, h3, u1.trans (((Upd.refl _ _).set1 h1.1 _ _).trans u3)⟩
      rw [show (Value.string (ByteArray.extract ⟨(s1.getD []).toArray⟩ 0 n.toNat)) = .string ⟨((s1.getD []).take n.toNat).toArray⟩ by rw [bs_extract]; simp]
      rfl
theorem Left_r (T : TypeId) (b : Nat) (st : Wire.St) (w : World) (h : Rdr tR w b st) :
    Calls Tryz.prog 130 #[.pointer (some ⟨b, 0, none⟩)] w fun e w' => e = .returned (.int .i64 ((st.getD []).length : Int)) ∧ w = w' := by
  have c0 := h.c0
  go_enter Tryz.func130, Tryz.ntmps130
  go_wp2
  go_ret
  exact ⟨rfl, rfl⟩
theorem Done_r (b : Nat) (st : Wire.St) (w : World) (h : Rdr tR w b st) :
    Calls Tryz.prog 97 #[.pointer (some ⟨b, 0, none⟩)] w fun e w' => e = .returned (.bool (decide (st = some []))) ∧ w = w' := by
  have c0 := h.c0
  have c1 := h.c1
  rcases st with _ | r
  · go_enter Tryz.func97, Tryz.ntmps97
    go_wp2
    go_ret
    exact ⟨rfl, rfl⟩
  · go_enter Tryz.func97, Tryz.ntmps97
    go_wp2
    go_ret
    refine ⟨?_, rfl⟩
    cases r <;> rfl
theorem Open_r (s : ByteArray) (l : List UInt8) (hs : s.data.toList = l) (w : World) (g : Gl w) :
    Calls Tryz.prog 93 #[.string s] w fun e w' => ∃ b, e = .returned (.pointer (some ⟨b, 0, none⟩)) ∧ w.heap.size ≤ b ∧ Rdr tR w' b (some l) ∧ Nw w w' := by
  go_enter Tryz.func93, Tryz.ntmps93
  go_wp2
  go_ret
  refine ⟨_, rfl, Nat.le_refl _, ⟨g.big, ?_⟩, (Upd.refl _ _).alloc _⟩
  rw [heap_new, ← bs_eta s, hs]
  rfl
end Go.Proofs.YthagiklfmkdmaaaGreatDoor
namespace Go.Proofs.YthagiklfmkdmaaaGreatDoor
open Go.RowKit Go.MapKept
open Go.Maps (Keyed)
open Go.ChangeMaps (setBlock)
set_option linter.unusedVariables false
set_option linter.unusedSimpArgs false

section
variable {P : Program} {k : TypeId} {w : World} {b r : Nat} {l : List (Value × Value)}
/-- The entries' list that a store leaves. -/
theorem store_raw {t e : TypeId} {es : Array MapEntry} {clock : Nat} (K : Keyed P k) (ht : P.underlying t = some (.map k e)) (hb : w.heap[b]? = some (.map es clock)) (hs : Stamped es clock) (hk : ∀ x ∈ es.toList, ∃ l, keyOf P k x.key = some l) {key : Value} {kl : Lit} (hkey : keyOf P k key = some kl) (val : Value) :
    ∃ es' clock', (Instr.mapUpdate t (.map (some b)) key val).run P w = .ok () { w with heap := w.heap.setIfInBounds b (.map es' clock') } ∧ Stamped es' clock' ∧ clock ≤ clock' ∧
      (∀ p, p ∈ es'.toList.map kv ↔ (p ∈ es.toList.map kv ∧ p.1 ≠ key) ∨ p = (key, val)) ∧
      ((∃ x ∈ es.toList, x.key = key) → clock' = clock ∧ (∀ x' ∈ es'.toList, ∃ x ∈ es.toList, x.born = x'.born ∧ x.key = x'.key) ∧ es'.toList.map (·.born) = es.toList.map (·.born)) := by
  have hst := (stamped_iff es clock).1 hs
  rcases K.find w hkey es.toList hk with ⟨h1, h2⟩ | ⟨j, e0, h1, h2, h3⟩
  · refine ⟨es.push ⟨key, val, clock⟩, clock + 1, ?_, stamped_push hs h2, by omega, fun p => ?_, fun ⟨x, hx, e⟩ => absurd e (h2 x hx)⟩
    · simp [Instr.mapUpdate, run_underlying ht, MapKept.run_getObj_map hb, K.check w false hkey, h1, MapKept.run_setObj_map _ hb, Result.andThen]
    · rw [Array.toList_push, List.map_append, List.mem_append]
      constructor
      · rintro (h | h)
        · obtain ⟨x, hx, rfl⟩ := List.mem_map.1 h
          exact Or.inl ⟨h, h2 x hx⟩
        · exact Or.inr (by simpa [kv] using h)
      · rintro (h | h)
        · exact Or.inl h.1
        · exact Or.inr (by simp [kv, h])
  · have hj : es[j]? = some e0 := by simpa using h2
    have hjl : j < es.toList.length := (List.getElem?_eq_some_iff.1 h2).1
    have hje : es.toList[j] = e0 := (List.getElem?_eq_some_iff.1 h2).2
    have hlist : (es.modify j (fun e' => { e' with key := key, val := val })).toList = es.toList.set j { e0 with key := key, val := val } := by rw [Array.toList_modify, Go.ChangeMaps.modify_eq_set _ _ _ _ h2]
    have hoth : ∀ i x, es.toList[i]? = some x → i ≠ j → x.key ≠ key := fun i x hi hne e => by
      have hx := List.mem_of_getElem? hi
      have h0 := List.mem_of_getElem? h2
      have := entry_eq_of_key hst.2.2 hx h0 (by rw [e, h3])
      subst this
      have hnd := stamp_nodup hst.2.1
      have hil := (List.getElem?_eq_some_iff.1 hi).1
      have hie := (List.getElem?_eq_some_iff.1 hi).2
      exact hne ((List.getElem_inj hnd).1 (hie.trans hje.symm))
    refine ⟨es.modify j (fun e' => { e' with key := key, val := val }), clock, ?_, stamped_modify hs j _ (fun _ _ => rfl) (fun e he he' => ?_), Nat.le_refl _, fun p => ?_, fun _ => ⟨rfl, fun x' hx' => ?_, ?_⟩⟩
    · simp [Instr.mapUpdate, run_underlying ht, MapKept.run_getObj_map hb, K.check w false hkey, h1, hj, h3, K.stays w hkey, MapKept.run_setObj_map _ hb, Result.andThen]
    · rw [hj] at he'
      cases he'
      exact h3.symm
    · rw [hlist]
      constructor
      · intro h
        obtain ⟨x, hx, rfl⟩ := List.mem_map.1 h
        obtain ⟨i, hi, ex⟩ := List.getElem_of_mem hx
        rw [List.getElem_set] at ex
        split at ex
        · exact Or.inr (by rw [← ex]; rfl)
        · rename_i hne
          have hi' : i < es.toList.length := by simpa using hi
          have hx2 : es.toList[i]? = some x := by rw [List.getElem?_eq_getElem hi', ex]
          exact Or.inl ⟨List.mem_map.2 ⟨x, List.mem_of_getElem? hx2, rfl⟩, hoth i x hx2 (fun e => hne e.symm)⟩
      · rintro (⟨h, hne⟩ | rfl)
        · obtain ⟨x, hx, rfl⟩ := List.mem_map.1 h
          obtain ⟨i, hi, ex⟩ := List.getElem_of_mem hx
          refine List.mem_map.2 ⟨x, List.mem_iff_getElem.2 ⟨i, by simpa using hi, ?_⟩, rfl⟩
          rw [List.getElem_set_ne, ex]
          rintro rfl
          rw [hje] at ex
          subst ex
          exact hne h3
        · exact List.mem_map.2 ⟨{ e0 with key := key, val := val }, List.mem_iff_getElem.2 ⟨j, by simpa using hjl, by simp⟩, rfl⟩
    · rw [hlist] at hx'
      obtain ⟨i, hi, ex⟩ := List.getElem_of_mem hx'
      rw [List.getElem_set] at ex
      split at ex
      · exact ⟨e0, List.mem_of_getElem? h2, by rw [← ex], by rw [← ex]; exact h3⟩
      · have hi' : i < es.toList.length := by simpa using hi
        exact ⟨x', by rw [← ex]; exact List.getElem_mem hi', rfl, rfl⟩
    · rw [hlist, List.map_set]
      refine List.ext_getElem? (fun i => ?_)
      rw [List.getElem?_set]
      split
      · rename_i e
        subst e
        split
        · rw [List.getElem?_map, h2]; rfl
        · rename_i hn; exact absurd (by simpa using hjl) hn
      · rfl
theorem MapL.uniq (h : MapL P k w b l) {p q : Value × Value} (hp : p ∈ l) (hq : q ∈ l) (e : p.1 = q.1) : p = q := by
  obtain ⟨es, clock, hb, h1, h2, h3⟩ := h
  have hst := (stamped_iff es clock).1 h3
  obtain ⟨x, hx, rfl⟩ := List.mem_map.1 (h1.mem_iff.2 hp)
  obtain ⟨y, hy, rfl⟩ := List.mem_map.1 (h1.mem_iff.2 hq)
  rw [entry_eq_of_key hst.2.2 hx hy e]
/-- 'm[k] = v', the key there or not. -/
theorem MapL.put {t e : TypeId} (h : MapL P k w b l) (K : Keyed P k) (ht : P.underlying t = some (.map k e)) (hg : nG ≤ b) {key : Value} {kl : Lit} (hkey : keyOf P k key = some kl) (val : Value) :
    ∃ w' l', (Instr.mapUpdate t (.map (some b)) key val).run P w = .ok () w' ∧ MapL P k w' b l' ∧ (∀ p, p ∈ l' ↔ (p ∈ l ∧ p.1 ≠ key) ∨ p = (key, val)) ∧ Upd (· = b) w w' := by
  obtain ⟨es, clock, hb, hpm, hk, hs⟩ := h
  have hpm' : (es.toList.map kv).Perm l := hpm
  obtain ⟨es', clock', hrun, hs', _, hm, _⟩ := store_raw K ht hb hs (fun x hx => hk (x.key, x.val) (hpm.mem_iff.1 (List.mem_map.2 ⟨x, hx, rfl⟩))) hkey val
  refine ⟨_, es'.toList.map kv, hrun, ⟨es', clock', by simp [Array.getElem?_setIfInBounds, lt_of_block hb], List.Perm.refl _, fun p hp => ?_, hs'⟩, fun p => by rw [hm, hpm'.mem_iff], Upd.setBlock hg _⟩
  rcases (hm p).1 hp with ⟨h1, _⟩ | rfl
  · exact hk p (hpm'.mem_iff.1 h1)
  · exact ⟨kl, hkey⟩

/-- Block b is a map with the entries l; r is an iterator over it; whatever it has handed out is done. -/
def RangeS (P : Program) (k : TypeId) (w : World) (b r : Nat) (l : List (Value × Value)) (done : Value → Prop) : Prop :=
  ∃ es clock since seen c0, w.heap[b]? = some (.map es clock) ∧ (es.toList.map kv).Perm l ∧ (∀ p ∈ l, ∃ x, keyOf P k p.1 = some x) ∧ Stamped es clock ∧
    w.heap[r]? = some (.mapIter (some b) since seen c0) ∧ (∀ x ∈ es.toList, x.born < since) ∧ since ≤ c0 ∧ since ≤ clock ∧ ∀ x ∈ es.toList, x.born ∈ seen.toList → done x.key
variable {done : Value → Prop}
theorem RangeS.lt (h : RangeS P k w b r l done) : b < w.heap.size ∧ r < w.heap.size ∧ r ≠ b := by
  obtain ⟨es, clock, since, seen, c0, h1, h2, h3, h4, h5, h6⟩ := h
  refine ⟨lt_of_block h1, lt_of_block h5, fun e => ?_⟩
  rw [e, h1] at h5
  cases h5
theorem RangeS.map (h : RangeS P k w b r l done) : MapL P k w b l := by
  obtain ⟨es, clock, since, seen, c0, h1, h2, h3, h4, h5, h6⟩ := h
  exact ⟨es, clock, h1, h2, h3, h4⟩
theorem RangeS.upd {S : Nat → Prop} {w' : World} (h : RangeS P k w b r l done) (u : Upd S w w') (hb : ¬ S b) (hr : ¬ S r) : RangeS P k w' b r l done ∧ w'.rangeLeft b r = w.rangeLeft b r := by
  obtain ⟨es, clock, since, seen, c0, h1, h2, h3, h4, h5, h6⟩ := h
  refine ⟨⟨es, clock, since, seen, c0, u.keep h1 hb, h2, h3, h4, u.keep h5 hr, h6⟩, ?_⟩
  unfold World.rangeLeft
  rw [u.keep h1 hb, h1, u.keep h5 hr, h5]
theorem RangeS.mono {done' : Value → Prop} (h : RangeS P k w b r l done) (hd : ∀ x, done x → done' x) : RangeS P k w b r l done' := by
  obtain ⟨es, clock, since, seen, c0, h1, h2, h3, h4, h5, h6, h7, h8, h9⟩ := h
  exact ⟨es, clock, since, seen, c0, h1, h2, h3, h4, h5, h6, h7, h8, fun x hx hs => hd _ (h9 x hx hs)⟩
/-- THE STEP: all is done; or an entry comes. -/
theorem RangeS.next (h : RangeS P k w b r l done) (hg : nG ≤ r) (ty : TypeId) :
    ((∀ p ∈ l, done p.1) ∧ (Instr.next (.pointer (some ⟨r, 0, none⟩)) false ty).run P w = .ok (.tuple #[.bool false]) w) ∨
    ∃ p, p ∈ l ∧ ∃ w', (Instr.next (.pointer (some ⟨r, 0, none⟩)) false ty).run P w = .ok (.tuple #[.bool true, p.1, p.2]) w' ∧ RangeS P k w' b r l (fun x => done x ∨ x = p.1) ∧ Upd (· = r) w w' ∧
      w'.rangeLeft b r < w.rangeLeft b r ∧ (Instr.entry (.pointer (some ⟨r, 0, none⟩))).run P w' = .ok (.tuple #[p.1, p.2]) w' := by
  have hne := h.lt.2.2
  have hrlt := h.lt.2.1
  obtain ⟨es, clock, since, seen, c0, h1, h2, h3, h4, h5, h6, h7, h8, h9⟩ := h
  have hst := (stamped_iff es clock).1 h4
  rcases run_next_at (P := P) w ty r b since c0 seen es clock h5 h1 h6 h7 with ⟨h0, hrun⟩ | ⟨e, he, w1, hal, hrun⟩
  · refine Or.inl ⟨fun p hp => ?_, hrun⟩
    obtain ⟨x, hx, rfl⟩ := List.mem_map.1 (h2.mem_iff.2 hp)
    have hs := all_seen es seen h0 x hx
    exact h9 x hx (by simpa using hs)
  · obtain ⟨hem, hes⟩ := mem_left he
    have hr1 : w1.heap[r]? = some (.mapIter (some b) since seen c0) := by rcases hal with rfl | rfl <;> exact h5
    have hb1 : w1.heap[b]? = some (.map es clock) := by rcases hal with rfl | rfl <;> exact h1
    have hset := heap_set (o' := .mapIter (some b) since (seen.push e.born) clock) hr1
    have hb' : (setBlock w1 r (.mapIter (some b) since (seen.push e.born) clock)).heap[b]? = some (.map es clock) := (hset.2 b (fun e1 => hne e1.symm)).trans hb1
    refine Or.inr ⟨kv e, h2.mem_iff.1 (List.mem_map.2 ⟨e, hem, rfl⟩), _, hrun, ⟨es, clock, since, seen.push e.born, clock, hb', h2, h3, h4, hset.1, h6, h8, h8, fun x hx hs => ?_⟩, ?_, ?_, run_entry_at _ r b since seen es clock e hset.1 hb' hem hst.2.1⟩
    · rw [Array.toList_push, List.mem_append, List.mem_singleton] at hs
      rcases hs with hs | hs
      · exact Or.inl (h9 x hx hs)
      · rw [born_inj hst.2.1 hx hem hs]; exact Or.inr rfl
    · rcases hal with rfl | rfl <;> exact ⟨rfl, rfl, rfl, by simp [setBlock], fun i _ hi => hset.2 i (fun e1 => by subst e1; rcases hi with hi | hi; omega; exact hi rfl)⟩
    · unfold World.rangeLeft
      have hr' : (setBlock w1 r (.mapIter (some b) since (seen.push e.born) clock)).heap[r]? = some (.mapIter (some b) since (seen.push e.born) clock) := hset.1
      rw [hb', hr', h1, h5]
      exact left_shrinks es seen e he
/-- 'm[k] = v' in the round, the key there. -/
theorem RangeS.put {t e : TypeId} (h : RangeS P k w b r l done) (K : Keyed P k) (ht : P.underlying t = some (.map k e)) (hg : nG ≤ b) {key v : Value} (hin : (key, v) ∈ l) {kl : Lit} (hkey : keyOf P k key = some kl) (val : Value) :
    ∃ w' l', (Instr.mapUpdate t (.map (some b)) key val).run P w = .ok () w' ∧ RangeS P k w' b r l' done ∧ (∀ p, p ∈ l' ↔ (p ∈ l ∧ p.1 ≠ key) ∨ p = (key, val)) ∧ Upd (· = b) w w' ∧ w'.rangeLeft b r = w.rangeLeft b r := by
  have hne := h.lt.2.2
  obtain ⟨es, clock, since, seen, c0, h1, h2, h3, h4, h5, h6, h7, h8, h9⟩ := h
  obtain ⟨x0, hx0, e0⟩ := List.mem_map.1 (h2.mem_iff.2 hin)
  obtain ⟨es', clock', hrun, hs', _, hm, hold⟩ := store_raw K ht h1 h4 (fun x hx => h3 (kv x) (h2.mem_iff.1 (List.mem_map.2 ⟨x, hx, rfl⟩))) hkey val
  obtain ⟨rfl, hb1, hb2⟩ := hold ⟨x0, hx0, (Prod.mk.inj e0).1⟩
  have hset : ∀ o, ({ w with heap := w.heap.setIfInBounds b o } : World).heap[r]? = w.heap[r]? := fun o => by
    simp only [Array.getElem?_setIfInBounds]
    rw [if_neg (fun e => hne e.symm)]
  refine ⟨_, es'.toList.map kv, hrun, ⟨es', clock', since, seen, c0, by simp [Array.getElem?_setIfInBounds, lt_of_block h1], List.Perm.refl _, fun p hp => ?_, hs', by rw [hset]; exact h5, fun x hx => ?_, h7, h8, fun x hx hs => ?_⟩, fun p => by rw [hm, h2.mem_iff], Upd.setBlock hg _, ?_⟩
  · rcases (hm p).1 hp with ⟨q1, _⟩ | rfl
    · exact h3 p (h2.mem_iff.1 q1)
    · exact ⟨kl, hkey⟩
  · obtain ⟨y, hy, e1, e2⟩ := hb1 x hx
    rw [← e1]; exact h6 y hy
  · obtain ⟨y, hy, e1, e2⟩ := hb1 x hx
    rw [← e2]; exact h9 y hy (by rw [e1]; exact hs)
  · unfold World.rangeLeft
    rw [hset, h5, h1]
    have e1 : ({ w with heap := w.heap.setIfInBounds b (.map es' clock') } : World).heap[b]? = some (.map es' clock') := by simp [Array.getElem?_setIfInBounds, lt_of_block h1]
    rw [e1]
    dsimp only
    have e2 : ∀ a : Array MapEntry, (leftOf a seen).size = ((a.toList.map (·.born)).filter fun n => !seen.contains n).length := fun a => by
      unfold leftOf
      rw [← Array.length_toList, Array.toList_filter, List.filter_map, List.length_map]
      rfl
    rw [e2, e2, hb2]
/-- 'delete(m, k)' in the round. -/
theorem RangeS.drop {t e ty : TypeId} (h : RangeS P k w b r l done) (K : Keyed P k) (ht : P.underlying t = some (.map k e)) (hg : nG ≤ b) {key : Value} {kl : Lit} (hkey : keyOf P k key = some kl) :
    ∃ w' l', (Builtin.delete_ #[t, k] ty #[.map (some b), key]).run P w = .ok (.tuple #[]) w' ∧ RangeS P k w' b r l' done ∧ (∀ p, p ∈ l' ↔ p ∈ l ∧ p.1 ≠ key) ∧ Upd (· = b) w w' ∧ w'.rangeLeft b r ≤ w.rangeLeft b r := by
  have hne := h.lt.2.2
  obtain ⟨es, clock, since, seen, c0, h1, h2, h3, h4, h5, h6, h7, h8, h9⟩ := h
  have hst := (stamped_iff es clock).1 h4
  have hset : ∀ o, ({ w with heap := w.heap.setIfInBounds b o } : World).heap[r]? = w.heap[r]? := fun o => by
    simp only [Array.getElem?_setIfInBounds]
    rw [if_neg (fun e => hne e.symm)]
  have hcl : ∀ (es' : Array MapEntry), (Builtin.delete_ #[t, k] ty #[.map (some b), key]).run P w = .ok (.tuple #[]) { w with heap := w.heap.setIfInBounds b (.map es' clock) } → Stamped es' clock → es'.toList.Sublist es.toList → (∀ x, x ∈ es'.toList ↔ x ∈ es.toList ∧ x.key ≠ key) →
      ∃ w' l', (Builtin.delete_ #[t, k] ty #[.map (some b), key]).run P w = .ok (.tuple #[]) w' ∧ RangeS P k w' b r l' done ∧ (∀ p, p ∈ l' ↔ p ∈ l ∧ p.1 ≠ key) ∧ Upd (· = b) w w' ∧ w'.rangeLeft b r ≤ w.rangeLeft b r := fun es' hrun hs' hsub hmem => by
    have hmm : ∀ p, p ∈ es'.toList.map kv ↔ p ∈ l ∧ p.1 ≠ key := fun p => by
      rw [← h2.mem_iff]
      constructor
      · intro hp
        obtain ⟨x, hx, rfl⟩ := List.mem_map.1 hp
        obtain ⟨q1, q2⟩ := (hmem x).1 hx
        exact ⟨List.mem_map.2 ⟨x, q1, rfl⟩, q2⟩
      · rintro ⟨hp, hk⟩
        obtain ⟨x, hx, rfl⟩ := List.mem_map.1 hp
        exact List.mem_map.2 ⟨x, (hmem x).2 ⟨hx, hk⟩, rfl⟩
    refine ⟨_, es'.toList.map kv, hrun, ⟨es', clock, since, seen, c0, by simp [Array.getElem?_setIfInBounds, lt_of_block h1], List.Perm.refl _, fun p hp => h3 p ((hmm p).1 hp).1, hs', by rw [hset]; exact h5, fun x hx => h6 x ((hmem x).1 hx).1, h7, h8, fun x hx hs => h9 x ((hmem x).1 hx).1 hs⟩, hmm, Upd.setBlock hg _, ?_⟩
    unfold World.rangeLeft
    rw [hset, h5, h1]
    have e1 : ({ w with heap := w.heap.setIfInBounds b (.map es' clock) } : World).heap[b]? = some (.map es' clock) := by simp [Array.getElem?_setIfInBounds, lt_of_block h1]
    rw [e1]
    dsimp only
    have e2 : ∀ a : Array MapEntry, (leftOf a seen).size = (a.toList.filter fun e => !seen.contains e.born).length := fun a => by
      unfold leftOf
      rw [← Array.toList_filter, Array.length_toList]
    rw [e2, e2]
    exact (hsub.filter _).length_le
  rcases K.find w hkey es.toList (fun x hx => h3 (kv x) (h2.mem_iff.1 (List.mem_map.2 ⟨x, hx, rfl⟩))) with ⟨q1, q2⟩ | ⟨j, e0, q1, q2, q3⟩
  · refine hcl es ?_ h4 (List.Sublist.refl _) (fun x => ⟨fun hx => ⟨hx, q2 x hx⟩, fun hx => hx.1⟩)
    simp [Builtin.delete_, run_underlying ht, MapKept.run_getObj_map h1, K.check w _ hkey, q1, MapKept.run_setObj_map _ h1, Result.andThen]
  · have hjl : j < es.toList.length := (List.getElem?_eq_some_iff.1 q2).1
    have hjs : j < es.size := by simpa using hjl
    have hsub : (es.eraseIdxIfInBounds j).toList = es.toList.eraseIdx j := by
      unfold Array.eraseIdxIfInBounds
      rw [dif_pos hjs]
      simp
    refine hcl (es.eraseIdxIfInBounds j) ?_ (stamped_erase h4 j) (by rw [hsub]; exact List.eraseIdx_sublist _ _) (fun x => ?_)
    · simp [Builtin.delete_, run_underlying ht, MapKept.run_getObj_map h1, K.check w _ hkey, q1, MapKept.run_setObj_map _ h1, Result.andThen]
    · rw [hsub, List.mem_eraseIdx_iff_getElem?]
      constructor
      · rintro ⟨i, hne2, hi⟩
        refine ⟨List.mem_of_getElem? hi, fun e => hne2 ?_⟩
        have := entry_eq_of_key hst.2.2 (List.mem_of_getElem? hi) (List.mem_of_getElem? q2) (by rw [e, q3])
        subst this
        have hil := (List.getElem?_eq_some_iff.1 hi).1
        have hie := (List.getElem?_eq_some_iff.1 hi).2
        exact (List.getElem_inj (stamp_nodup hst.2.1)).1 (hie.trans (List.getElem?_eq_some_iff.1 q2).2.symm)
      · rintro ⟨hx, hne2⟩
        obtain ⟨i, hi⟩ := List.getElem?_of_mem hx
        refine ⟨i, fun e1 => hne2 ?_, hi⟩
        rw [e1, q2] at hi
        cases hi
        exact q3
end
end Go.Proofs.YthagiklfmkdmaaaGreatDoor
namespace Go.Proofs.YthagiklfmkdmaaaGreatDoor
open Go.RowKit Go.MapKept
open Go.Maps (Keyed)
set_option linter.unusedVariables false
set_option linter.unusedSimpArgs false
attribute [local irreducible] Calls
open Fm (Ty Vl Str nameB rightTy rightVl)

abbrev tStrF : TypeId := 9
theorem strKeyedF : Keyed Tryz.prog tStrF := Maps.string_keyed Tryz.underlying9
theorem sF_inj {a b : Str} (h : sF a = sF b) : a = b := by
  simp [sF] at h
  exact h
def kvS (x : Str × Str) : Value × Value := (sF x.1, sF x.2)
def strQ : Option Value → Nat
  | some (.string s) => s.size
  | _ => 0
theorem failed_c (b : Nat) (st : Wire.St) (w : World) (h : Rdr tR w b st) :
    Calls Tryz.prog 95 #[.pointer (some ⟨b, 0, none⟩)] w fun e w' => e = .returned (.bool st.isNone) ∧ w = w' := by
  have hl := Lib.hid (Left_r tR b st w h)
  have hd := Lib.hid (Done_r b st w h)
  rcases st with _ | _ | ⟨c, r⟩
  · go_enter Tryz.func95, Tryz.ntmps95
    go_wp2_with fail
    (with_reducible refine (hl.out).mono ?_)
    rintro _ _ ⟨rfl, rfl⟩
    go_wp2_with fail
    (with_reducible refine (hd.out).mono ?_)
    rintro _ _ ⟨rfl, rfl⟩
    go_wp2_with fail
    go_ret
    exact ⟨rfl, rfl⟩
  · go_enter Tryz.func95, Tryz.ntmps95
    go_wp2_with fail
    (with_reducible refine (hl.out).mono ?_)
    rintro _ _ ⟨rfl, rfl⟩
    go_wp2_with fail
    (with_reducible refine (hd.out).mono ?_)
    rintro _ _ ⟨rfl, rfl⟩
    go_wp2_with fail
    go_ret
    exact ⟨rfl, rfl⟩
  · have h2 : ((r.length : Int) + 1 == 0) = false := by simp; omega
    go_enter Tryz.func95, Tryz.ntmps95
    go_wp2_with fail
    (with_reducible refine (hl.out).mono ?_)
    rintro _ _ ⟨rfl, rfl⟩
    go_wp2_with fail
    go_ret
    exact ⟨rfl, rfl⟩
theorem asc_snoc : ∀ {l : List Str} {s : Str}, Fm.asc l = true → (∀ z, l.getLast? = some z → Fm.lt z s = true) → Fm.asc (l ++ [s]) = true := by
  intro l
  induction l with
  | nil => intro s _ _; rfl
  | cons a l ih =>
    intro s h hz
    cases l with
    | nil =>
      show (Fm.lt a s && true) = true
      rw [hz a rfl]; rfl
    | cons b r =>
      have h' := h
      unfold Fm.asc at h'
      rw [Bool.and_eq_true] at h'
      show (Fm.lt a b && Fm.asc (b :: r ++ [s])) = true
      rw [h'.1, ih h'.2 (fun z hz' => hz z (by rw [List.getLast?_cons_cons]; exact hz'))]; rfl
theorem asc_new : ∀ {l : List Str} {s : Str}, Fm.asc (l ++ [s]) = true → s ∉ l := by
  intro l s h hm
  have := Fm.asc_nodup h
  rw [List.nodup_append] at this
  exact this.2.2 s hm s (List.mem_singleton.2 rfl) rfl
theorem low_last {acc : List (Str × Str)} {s : Str} (h : Fm.lowE acc s = false) : ∀ z, (acc.map (·.1)).getLast? = some z → Fm.lt z s = true := by
  intro z hz
  rw [List.getLast?_map] at hz
  cases hg : acc.getLast? with
  | none => rw [hg] at hz; cases hz
  | some y =>
    rw [hg] at hz
    cases hz
    unfold Fm.lowE at h
    rw [hg] at h
    simpa using h
theorem rText_len (st : Wire.St) : (Wire.rText st).1.length ≤ (st.getD []).length := by
  unfold Wire.rText
  split
  · next n r he =>
    have h1 := Wire.rNumber_le st 58 0
    rw [he] at h1
    split
    · simp
    · split
      · rw [List.length_take]; simp at h1 ⊢; omega
      · simp
  · simp
theorem low_some {acc : List (Str × Str)} {z : Str × Str} {s : Str} (h : acc.getLast? = some z) : Fm.lowE acc s = !Op.bytesLess z.1 s := by
  unfold Fm.lowE; rw [h]
/-- What the loop holds. -/
structure EntI (w0 W1 : World) (b mb : Nat) (st : Wire.St) (acc : List (Str × Str)) (st' : Wire.St) (wr : World) : Prop where
  map : MapL Tryz.prog tStrF wr mb (acc.map kvS)
  rdr : Rdr tR wr b st'
  go : Fm.entG acc st' = Fm.entG [] st
  asc : Fm.asc (acc.map (·.1)) = true
  len : (st'.getD []).length ≤ (st.getD []).length
  upd : Upd (fun k => k = b ∨ k = mb) W1 wr
set_option maxHeartbeats 4000000 in
set_option maxRecDepth 100000 in
theorem entries_fm (b : Nat) (st : Wire.St) (w : World) (g : Gl w) (h : Rdr tR w b st) (hl : (st.getD []).length ≤ 1000000000) :
    Calls Tryz.prog 98 #[.pointer (some ⟨b, 0, none⟩)] w fun e w' => ∃ m, e = .returned (.tuple #[.map m, .bool (Fm.entG [] st).isSome]) ∧ (∀ l, Fm.entG [] st = some l → ∃ mb, m = some mb ∧ w.heap.size ≤ mb ∧ MapL Tryz.prog tStrF w' mb (l.map kvS)) ∧ (∃ st', Rdr tR w' b st') ∧ Upd (· = b) w w' := by
  have hbl := h.lt
  have hgb := g.big
  have n1 := nw_alloc w (.map #[] 0)
  have hm1 := MapL.made Tryz.prog tStrF w
  obtain ⟨W1, hW⟩ : ∃ y, y = w.alloc (.map #[] 0) := ⟨_, rfl⟩
  rw [← hW] at n1 hm1
  have hI : EntI w W1 b w.heap.size st [] st W1 := ⟨hm1, h.nw n1, rfl, rfl, Nat.le_refl _, Upd.refl _ _⟩
  have HI := Lib.hid hI
  have HW := Lib.hid hW
  have N1 := Lib.hid n1
  have HL := Lib.hid hl
  have GG := Lib.hid g
  clear hI hW n1 hm1 h hl g
  have hmm := @run_makeMap Tryz.prog
  go_enter Tryz.func98, Tryz.ntmps98
  go_upto_region 2 with fail
  rw [← HW.out]
  clear HW
  go_loopw [5] (fun iv wr => ∃ (acc : List (Str × Str)) (st' : Wire.St), iv = .string ⟨((acc.getLast?.map (·.1)).getD []).toArray⟩ ∧ Hid (EntI w W1 b w.heap.size st acc st' wr)) (fun _ wr => strQ (wr.cell? ⟨b, 0, none⟩))
  case atStart => exact ⟨[], st, rfl, HI⟩
  case round =>
    obtain ⟨acc, st', rfl, HE⟩ := hrel
    have hG : Gl wr := GG.out.upd (Nw.trans N1.out HE.out.upd)
    have hl1 := Lib.hid (Left_r tR b st' wr HE.out.rdr)
    have hc0 := HE.out.rdr.c0
    have HC0 := Lib.hid hc0
    clear hc0
    by_cases hlen : (st'.getD []).length = 0
    · have hlz : (decide (((st'.getD []).length : Int) > 0)) = false := decide_eq_false (by omega)
      have hlz2 : ((st'.getD []).length : Int) = 0 := by omega
      have hd1 := Lib.hid (Done_r b st' wr HE.out.rdr)
      have hfin : Hid ((Fm.entG [] st).isSome = decide (st' = some []) ∧ ∀ l, Fm.entG [] st = some l → l = acc) := by
        have e := HE.out.go
        rcases st' with _ | _ | ⟨c, r⟩
        · rw [Fm.entG_none] at e
          rw [← e]
          exact ⟨rfl, fun l h => by cases h⟩
        · rw [Fm.entG_end] at e
          rw [← e]
          exact ⟨rfl, fun l h => by cases h; rfl⟩
        · simp at hlen
      clear hlen
      rw [hlz2] at hl1
      go_wp2_with fail
      (with_reducible refine (hl1.out).mono ?_)
      rintro _ _ ⟨rfl, rfl⟩
      go_wp2_with fail
      (with_reducible refine (hd1.out).mono ?_)
      rintro _ _ ⟨rfl, rfl⟩
      go_wp2_with fail
      go_ret2
      refine ⟨_, by rw [hfin.out.1]; rfl, fun l hl => ⟨_, rfl, Nat.le_refl _, ?_⟩, ⟨_, HE.out.rdr⟩, (Nw.trans N1.out HE.out.upd).mono (fun k hk e => e.resolve_right (by omega))⟩
      rw [hfin.out.2 l hl]; exact HE.out.map
    · have hlz2 : (0 : Int) < ((st'.getD []).length : Int) := by omega
      obtain ⟨c, r, rfl⟩ : ∃ c r, st' = some (c :: r) := by
        rcases st' with _ | _ | ⟨c, r⟩
        · simp at hlen
        · simp at hlen
        · exact ⟨c, r, rfl⟩
      have hE := HE.out
      have hcost : (Wire.rText (Wire.rText (some (c :: r))).2).2.isNone = false → ((Wire.rText (Wire.rText (some (c :: r))).2).2.getD []).length < (c :: r).length := fun hs => by
        have l1 := Wire.rText_cost (Wire.rText (some (c :: r))).2 (by cases h : (Wire.rText (Wire.rText (some (c :: r))).2).2 with | none => rw [h] at hs; cases hs | some _ => rfl)
        have l2 := Wire.rText_le (some (c :: r))
        exact Nat.lt_of_lt_of_le l1 l2
      have hle1 := Wire.rText_le (some (c :: r))
      have hx1 := rText_len (some (c :: r))
      have hst := Fm.entG_step acc c r
      have hlr : (c :: r).length ≤ 1000000000 := Nat.le_trans hE.len HL.out
      have ht1 := Lib.hid (Text_r b (some (c :: r)) wr hG hE.rdr (by show (c :: r).length ≤ _; omega))
      have ht2 : Hid (∀ z, Rdr tR z b (Wire.rText (some (c :: r))).2 → Upd (· = b) wr z → Calls Tryz.prog 131 #[.pointer (some ⟨b, 0, none⟩)] z fun e w' =>
        e = .returned (.string ⟨(Wire.rText (Wire.rText (some (c :: r))).2).1.toArray⟩) ∧ Rdr tR w' b (Wire.rText (Wire.rText (some (c :: r))).2).2 ∧ Upd (· = b) z w') := fun z hz u => Text_r b _ z (hG.upd u) hz (Nat.le_trans hle1 (by show (c :: r).length ≤ _; omega))
      have HX1 : Hid ((Wire.rText (some (c :: r))).1.length ≤ 1000000000) := Nat.le_trans hx1 hlr
      have HST := Lib.hid hst
      have HCO := Lib.hid hcost
      have HLR := Lib.hid hlr
      have HLen : Hid ((c :: r).length ≤ (st.getD []).length) := hE.len
      have HGo : Hid (Fm.entG acc (some (c :: r)) = Fm.entG [] st) := hE.go
      have HMap := Lib.hid hE.map
      have HAsc := Lib.hid hE.asc
      have HUpd := Lib.hid hE.upd
      have HLT : Hid (b < wr.heap.size ∧ w.heap.size < wr.heap.size) := ⟨hE.rdr.lt, hE.map.lt⟩
      clear hE hcost hle1 hx1 hst hlr HE hG
      generalize Wire.rText (some (c :: r)) = X at *
      obtain ⟨nm, s1⟩ := X
      dsimp only at *
      generalize Wire.rText s1 = Y at *
      obtain ⟨tx, s2⟩ := Y
      dsimp only at *
      go_wp2_with fail
      (with_reducible refine (hl1.out).mono ?_)
      rintro _ _ ⟨rfl, rfl⟩
      go_wp2_with fail
      (with_reducible refine (ht1.out).mono ?_)
      rintro _ w2 ⟨rfl, hr2, u2⟩
      have ht3 := Lib.hid (ht2.out w2 hr2 u2)
      have U2 := Lib.hid u2
      clear ht1 ht2 hr2 u2 hl1
      go_wp2_with fail
      (with_reducible refine (ht3.out).mono ?_)
      rintro _ w3 ⟨rfl, hr3, u3⟩
      have hf1 := Lib.hid (failed_c b s2 w3 hr3)
      have U3 : Hid (Upd (· = b) wr w3) := U2.out.trans' u3 (fun k _ e => e)
      have HR3 := Lib.hid hr3
      clear ht3 u3 hr3 U2
      have hmb : MapL Tryz.prog tStrF w3 w.heap.size (acc.map kvS) := HMap.out.upd U3.out (fun e => by omega)
      obtain ⟨es, clock, hhb, hes⟩ := hmb.len
      rw [List.length_map] at hes
      have hln : (Builtin.len_ #[123] 3 #[.map (some w.heap.size)]).run Tryz.prog w3 = .ok (.int .i64 (es.size : Int)) w3 := by
        simp [Builtin.len_, run_underlying Tryz.underlying123, MapKept.run_getObj_map hhb, goInt, Result.andThen]
      have HMB := Lib.hid hmb
      clear hmb
      cases hn : s2.isNone with
      | true =>
        rw [hn] at hf1
        have hno : Hid (Fm.entG [] st = none) := by
          have h1 := HST.out
          rw [if_pos hn, HGo.out] at h1
          exact h1
        go_wp2_with fail
        (with_reducible refine (hf1.out).mono ?_)
        rintro _ _ ⟨rfl, rfl⟩
        go_wp2_with fail
        go_ret2
        refine ⟨_, by rw [hno.out]; rfl, fun l hl => ?_, ⟨_, HR3.out⟩, (Nw.trans N1.out HUpd.out).trans' U3.out (fun k _ e => Or.inl e) |>.mono (fun k hk e => e.resolve_right (by omega))⟩
        rw [hno.out] at hl; cases hl
      | false =>
      rw [hn] at hf1
      have hkl := WideMaps.keyOf_string_mk (P := Tryz.prog) (k := tStrF) Tryz.underlying9 (s := ⟨nm.toArray⟩) (by rw [bs_size, bs_list]; have := HX1.out; unfold maxLen; omega)
      have hstep : Fm.lowE acc nm = false → ∃ w', (Instr.mapUpdate 123 (.map (some w.heap.size)) (sF nm) (sF tx)).run Tryz.prog w3 = .ok () w' ∧ Hid (EntI w W1 b w.heap.size st (acc ++ [(nm, tx)]) s2 w' ∧ (s2.getD []).length < (c :: r).length) := fun hlow => by
        have ha := asc_snoc HAsc.out (low_last hlow)
        obtain ⟨w', r1, r2, r3⟩ := HMB.out.store_new strKeyedF Tryz.underlying123 (by omega) (key := sF nm) hkl (fun p hp e => by
          obtain ⟨x, hx, rfl⟩ := List.mem_map.1 hp
          refine asc_new ha ?_
          rw [← sF_inj e]
          exact List.mem_map.2 ⟨x, hx, rfl⟩) (sF tx)
        refine ⟨w', r1, ⟨?_, ?_, ?_, ?_, ?_, ?_⟩, HCO.out hn⟩
        · rw [List.map_append]; exact r2
        · exact HR3.out.upd r3 (fun e => by omega)
        · have h1 := HST.out
          rw [if_neg (by rw [hn]; simp), if_neg (by rw [hlow]; simp), HGo.out] at h1
          exact h1.symm
        · rw [List.map_append]; exact ha
        · exact Nat.le_trans (Nat.le_of_lt (HCO.out hn)) HLen.out
        · exact (HUpd.out.trans' U3.out (fun k _ e => Or.inl e)).trans' r3 (fun k _ e => Or.inr e)
      have HSTEP := Lib.hid hstep
      have hlow2 : Fm.lowE acc nm = true → Hid (Fm.entG [] st = none) := fun hlow => by
        have h1 := HST.out
        rw [if_neg (by rw [hn]; simp), if_pos hlow, HGo.out] at h1
        exact h1
      have HLOW := Lib.hid hlow2
      clear hkl hstep hlow2
      cases hl : acc.getLast? with
      | none =>
        obtain rfl : acc = [] := List.getLast?_eq_none_iff.1 hl
        have hes0 : es.size = 0 := hes
        obtain ⟨w4, hst, HE4⟩ := HSTEP.out rfl
        have Hst := Lib.hid hst
        clear hst
        go_wp2_with fail
        (with_reducible refine (hf1.out).mono ?_)
        rintro _ _ ⟨rfl, rfl⟩
        go_wp2_with (at_mapUpdate; refine wpList_storeL rfl _ _ _ 123 rfl _ _ _ rfl rfl rfl Hst.out ?_)
        go_roundw
        case rel => exact ⟨_, _, rfl, HE4.out.1⟩
        case measure =>
          rw [HE4.out.1.rdr.c0, HC0.out]
          have := HE4.out.2
          simpa [strQ, bs_size, bs_list] using this
      | some z =>
        have hes1 : 0 < es.size := by
          rw [hes]
          cases acc with
          | nil => cases hl
          | cons a l => simp
        have hes2 : (0 : Int) < (es.size : Int) := by omega
        have hlw := Lib.hid (low_some (s := nm) hl)
        cases hb : Op.bytesLess z.1 nm with
        | true =>
          obtain ⟨q1, q2⟩ := bl_no hb
          obtain ⟨w4, hst, HE4⟩ := HSTEP.out (by rw [hlw.out, hb]; rfl)
          have Hst := Lib.hid hst
          clear hst
          go_wp2_with fail
          (with_reducible refine (hf1.out).mono ?_)
          rintro _ _ ⟨rfl, rfl⟩
          go_wp2_with (at_mapUpdate; refine wpList_storeL rfl _ _ _ 123 rfl _ _ _ rfl rfl rfl Hst.out ?_)
          go_roundw
          case rel => exact ⟨_, _, by rw [List.getLast?_append]; rfl, HE4.out.1⟩
          case measure =>
            rw [HE4.out.1.rdr.c0, HC0.out]
            have := HE4.out.2
            simpa [strQ, bs_size, bs_list] using this
        | false =>
          have q1 := bl_yes hb
          have hno := HLOW.out (by rw [hlw.out, hb]; rfl)
          go_wp2_with fail
          (with_reducible refine (hf1.out).mono ?_)
          rintro _ _ ⟨rfl, rfl⟩
          go_wp2_with fail
          go_ret2
          refine ⟨_, by rw [hno.out]; rfl, fun l hl => ?_, ⟨_, HR3.out⟩, ((Nw.trans N1.out HUpd.out).trans' U3.out (fun k _ e => Or.inl e)).mono (fun k hk e => e.resolve_right (by omega))⟩
          rw [hno.out] at hl; cases hl
end Go.Proofs.YthagiklfmkdmaaaGreatDoor
namespace Go.Proofs.YthagiklfmkdmaaaGreatDoor
open Go.RowKit Go.MapKept
set_option linter.unusedVariables false
set_option linter.unusedSimpArgs false
attribute [local irreducible] Calls
open Fm (Ty Vl Str nameB rightTy rightVl)

theorem wpAnyG_skip {P : Program} {ops : Array Oper} {Q : Exit → Act → World → Prop} {md : Region.Mode} {S : World → Prop} {k : Nat} {i : Nat} {oi : Oper} {fuel : Nat} {listed : Array Bool} {a : Act} {w : World} (hi : ops[i]? = some oi) (hik : (i == k) = false)
    (hs : Region.noSelect ops = true) (hf : Region.free md ops listed i = true) (hr : (Region.ready md ops listed).contains i = true) (hc : closedB md ops listed = true)
    (hQ : ∀ c a w, Q (.panic c) (a.put oi.dst undef) w → Q (.panic c) a w) (hw : Region.wanted oi (yielded ops a.tmps) = false) (hS : listed.getD k false = false → S w)
    (h : wpAnyG P md ops Q S k fuel (listed.setIfInBounds i true) (a.put oi.dst undef) w) : wpAnyG P md ops Q S k (fuel + 1) listed a w :=
  wpAnyG_first (S' := fun _ => True) hi (by simpa using hik) (Region.noSelect_spec hs) hQ (fun _ _ _ _ _ => trivial) fuel listed a w (Region.free_spec hi hf) (closed_of hc) (by simpa using hr) (Or.inr ⟨hw, rfl⟩) hS h
/-! ### What read reads -/
theorem readF_bad {d : Nat} {t : Ty} {s : Str} (h : (Wire.rNum (some s)).2.isNone = true ∨ (Wire.rNum (some s)).1 ≠ t.kind) : Fm.readF (d + 1) t s = none := by
  unfold Fm.readF
  dsimp only
  rw [if_pos h]
theorem readF_zero {d : Nat} {t : Ty} {s : Str} (h1 : (Wire.rNum (some s)).2.isNone = false) (h2 : (Wire.rNum (some s)).1 = t.kind) (h0 : t.kind = 0) :
    Fm.readF (d + 1) t s = if (Wire.rInt (Wire.rNum (some s)).2).2 = some [] then some (.mk 0 (Wire.rInt (Wire.rNum (some s)).2).1 [] []) else none := by
  unfold Fm.readF
  dsimp only
  rw [if_neg (by rw [h1, h2]; simp), if_pos h0]
theorem readF_one {d : Nat} {t : Ty} {s : Str} (h1 : (Wire.rNum (some s)).2.isNone = false) (h2 : (Wire.rNum (some s)).1 = t.kind) (h0 : t.kind = 1) :
    Fm.readF (d + 1) t s = if (Wire.rNum (Wire.rNum (some s)).2).2 = some [] ∧ (Wire.rNum (Wire.rNum (some s)).2).1 ≤ 1 then some (.mk 1 (Wire.rNum (Wire.rNum (some s)).2).1 [] []) else none := by
  unfold Fm.readF
  dsimp only
  rw [if_neg (by rw [h1, h2]; simp), if_neg (by omega), if_pos h0]
/-- One field, read. -/
def oneR (d : Nat) (l : List (Str × Str)) (f : Str × Ty) : Option Vl := Fm.readF d f.2 ((Fm.getE l f.1).getD [])
theorem readF_two {d : Nat} {t : Ty} {s : Str} (h1 : (Wire.rNum (some s)).2.isNone = false) (h2 : (Wire.rNum (some s)).1 = t.kind) (h0 : t.kind = 2) {l : List (Str × Str)} (hl : Fm.entG [] (Wire.rNum (some s)).2 = some l) :
    Fm.readF (d + 1) t s = if t.fs.all (fun f => (Fm.getE l f.1).isSome && (oneR d l f).isSome) then some (.mk t.kind 0 (t.fs.map (·.1)) (t.fs.map fun f => (oneR d l f).getD Fm.noV)) else none := by
  unfold Fm.readF
  dsimp only
  rw [if_neg (by rw [h1, h2]; simp), if_neg (by omega), if_neg (by omega), hl]
  rfl
theorem readF_two_none {d : Nat} {t : Ty} {s : Str} (h1 : (Wire.rNum (some s)).2.isNone = false) (h2 : (Wire.rNum (some s)).1 = t.kind) (h0 : t.kind = 2) (hl : Fm.entG [] (Wire.rNum (some s)).2 = none) :
    Fm.readF (d + 1) t s = none := by
  unfold Fm.readF
  dsimp only
  rw [if_neg (by rw [h1, h2]; simp), if_neg (by omega), if_neg (by omega), hl]
theorem entF_len : ∀ (n : Nat) (acc : List (Str × Str)) (st : Wire.St) (l : List (Str × Str)), Fm.entF n acc st = some l → ∀ x ∈ l, x ∈ acc ∨ (x.1.length ≤ (st.getD []).length ∧ x.2.length ≤ (st.getD []).length) := by
  intro n
  induction n with
  | zero => intro acc st l h; cases h
  | succ n ih =>
    intro acc st l h x hx
    cases st with
    | none => cases h
    | some s =>
      cases s with
      | nil =>
        obtain rfl := Option.some.inj h
        exact Or.inl hx
      | cons c r =>
        unfold Fm.entF at h
        dsimp only at h
        split at h
        · cases h
        split at h
        · cases h
        have l1 := Wire.rText_le (some (c :: r))
        have l2 := Wire.rText_le (Wire.rText (some (c :: r))).2
        have l3 := rText_len (some (c :: r))
        have l4 := rText_len (Wire.rText (some (c :: r))).2
        rcases ih _ _ _ h x hx with h3 | h3
        · rcases List.mem_append.1 h3 with h3 | h3
          · exact Or.inl h3
          · rw [List.mem_singleton.1 h3]
            exact Or.inr ⟨l3, Nat.le_trans l4 l1⟩
        · exact Or.inr ⟨Nat.le_trans h3.1 (Nat.le_trans l2 l1), Nat.le_trans h3.2 (Nat.le_trans l2 l1)⟩
theorem entG_len {st : Wire.St} {l : List (Str × Str)} (h : Fm.entG [] st = some l) : ∀ x ∈ l, x.1.length ≤ (st.getD []).length ∧ x.2.length ≤ (st.getD []).length := fun x hx =>
  (entF_len _ _ _ _ h x hx).resolve_left (fun h => by cases h)
theorem getE_len {st : Wire.St} {l : List (Str × Str)} (h : Fm.entG [] st = some l) (s : Str) : ((Fm.getE l s).getD []).length ≤ (st.getD []).length := by
  cases hg : Fm.getE l s with
  | none => simp
  | some y => exact (entG_len h _ (Fm.getE_mem hg)).2
/-- 'm[s]' of the entries. -/
theorem look_fm {w : World} {mb : Nat} {l : List (Str × Str)} (h : MapL Tryz.prog tStrF w mb (l.map kvS)) {s : Str} (hs : s.length ≤ 1000000) :
    (Instr.lookup 123 (.map (some mb)) (.string ⟨s.toArray⟩) true).run Tryz.prog w = .ok (.tuple #[.string ⟨((Fm.getE l s).getD []).toArray⟩, .bool (Fm.getE l s).isSome]) w := by
  have hz : (zeroValue 9).run Tryz.prog w = .ok (.string ⟨#[]⟩) w := by kernel_rfl
  have hl := WideMaps.keyOf_string_mk (P := Tryz.prog) (k := tStrF) Tryz.underlying9 (s := ⟨s.toArray⟩) (by rw [bs_size, bs_list]; unfold maxLen; omega)
  rcases h.look strKeyedF Tryz.underlying123 hz hl with ⟨v, hm, hrun⟩ | ⟨hno, hrun⟩
  · obtain ⟨x, hx, e⟩ := List.mem_map.1 hm
    have e1 : x.1 = s := sF_inj (Prod.mk.inj e).1
    have e2 : v = sF x.2 := (Prod.mk.inj e).2.symm
    have hg : Fm.getE l s = some x.2 := by
      cases hg : Fm.getE l s with
      | none => exact absurd e1 (Fm.getE_none hg x hx)
      | some y =>
        have hy := Fm.getE_mem hg
        have := h.uniq hm (List.mem_map.2 ⟨_, hy, rfl⟩) rfl
        have h2 := (Prod.mk.inj this).2
        rw [e2] at h2
        rw [sF_inj h2]
    rw [hrun true, e2, hg]
    rfl
  · have hg : Fm.getE l s = none := by
      cases hg : Fm.getE l s with
      | none => rfl
      | some y => exact absurd rfl (hno _ (List.mem_map.2 ⟨_, Fm.getE_mem hg, rfl⟩))
    rw [hrun true, hg]
    rfl
/-- What read answers. -/
def RdPost (d : Nat) (t : Ty) (s : Str) (w : World) (e : Ending) (w' : World) : Prop :=
  ∃ (k n : Int) (xa : Option Addr) (xl xc : Nat) (ya : Option Addr) (yl yc : Nat), e = .returned (.tuple #[.agg #[.int .i64 k, .int .i64 n, .slice xa xl xc, .slice ya yl yc], .bool (Fm.readF d t s).isSome]) ∧
    Hid ((∀ v, Fm.readF d t s = some v → k = v.kind ∧ n = v.n ∧ VlAt (fun j => w.heap.size ≤ j) w' (.slice xa xl xc) (.slice ya yl yc) v) ∧ Nw w w')
/-- Behind the first region: a reader, a value that is begun. -/
structure Rd1 (W wx : World) (s : Str) (kd : Int) (rb q : Nat) : Prop where
  rdr : Rdr tR wx rb (some s)
  box : wx.heap[q]? = some (.cells #[.int .i64 kd, .int .i64 0, .slice none 0 0, .slice none 0 0] tVl (0, 0))
  ne : rb ≠ q
  upd : Nw W wx
  lr : W.heap.size ≤ rb
  lq : W.heap.size ≤ q
theorem rd_results (tmps : Array Value) (w : World) {r : Nat} {k n : Int} {nv vv : Value} {b : Bool} (hr : tmps.getD 4 undef = .pointer (some ⟨r, 0, none⟩)) (h5 : tmps.getD 5 undef = .bool b) (hb : w.heap[r]? = some (.cells #[.int .i64 k, .int .i64 n, nv, vv] tVl (0, 0))) :
    (results Tryz.f53 tmps).run Tryz.prog w = .ok (.tuple #[.agg #[.int .i64 k, .int .i64 n, nv, vv], .bool b]) w := by
  have c0 : w.cell? ⟨r, 0, none⟩ = some (.int .i64 k) := by rw [cells_cell hb]; rfl
  have c1 : w.cell? ⟨r, 1, none⟩ = some (.int .i64 n) := by rw [cells_cell hb]; rfl
  have c2 : w.cell? ⟨r, 2, none⟩ = some nv := by rw [cells_cell hb]; rfl
  have c3 : w.cell? ⟨r, 3, none⟩ = some vv := by rw [cells_cell hb]; rfl
  rw [Array.getD_eq_getD_getElem?] at hr h5
  simp [results, Tryz.results53, go_sem, hr, h5, c0, c1, c2, c3]
/-- The result, stored. -/
theorem rd_exit {d : Nat} {t : Ty} {s : Str} {w y : World} (hgb : nG ≤ w.heap.size) {cs : Array Value} (hc : cs = #[.int .i64 0, .int .i64 0, .slice none 0 0, .slice none 0 0]) (hr : y.heap[w.heap.size + 1]? = some (.cells cs tVl (0, 0))) (hu : Nw w y) (k n : Int) (nv vv : Value)
    (hv : ∀ v, Fm.readF d t s = some v → k = v.kind ∧ n = v.n ∧ VlAt (fun j => w.heap.size + 2 ≤ j) y nv vv v) :
    ((((y.setCell ⟨w.heap.size + 1, 0, none⟩ (.int .i64 k)).setCell ⟨w.heap.size + 1, 1, none⟩ (.int .i64 n)).setCell ⟨w.heap.size + 1, 2, none⟩ nv).setCell ⟨w.heap.size + 1, 3, none⟩ vv).heap[w.heap.size + 1]? = some (.cells #[.int .i64 k, .int .i64 n, nv, vv] tVl (0, 0)) ∧
    Hid ((∀ v, Fm.readF d t s = some v → k = v.kind ∧ n = v.n ∧ VlAt (fun j => w.heap.size ≤ j) ((((y.setCell ⟨w.heap.size + 1, 0, none⟩ (.int .i64 k)).setCell ⟨w.heap.size + 1, 1, none⟩ (.int .i64 n)).setCell ⟨w.heap.size + 1, 2, none⟩ nv).setCell ⟨w.heap.size + 1, 3, none⟩ vv) nv vv v) ∧ Nw w ((((y.setCell ⟨w.heap.size + 1, 0, none⟩ (.int .i64 k)).setCell ⟨w.heap.size + 1, 1, none⟩ (.int .i64 n)).setCell ⟨w.heap.size + 1, 2, none⟩ nv).setCell ⟨w.heap.size + 1, 3, none⟩ vv)) := by
  subst hc
  have hg : nG ≤ w.heap.size + 1 := by omega
  have hu9 := Upd.set1 (Upd.set1 (Upd.set1 (Upd.set1 (Upd.refl _ y) hg 0 (.int .i64 k)) hg 1 (.int .i64 n)) hg 2 nv) hg 3 vv
  refine ⟨setCell_block (setCell_block (setCell_block (setCell_block hr 0 _) 1 _) 2 _) 3 _, fun v h => ?_, hu.trans' hu9 (fun k hk e => by omega)⟩
  obtain ⟨h1, h2, h3⟩ := hv v h
  exact ⟨h1, h2, (h3.upd hu9 (fun k hk e => by omega)).mono (fun k _ hk => by omega)⟩
theorem cell4F {y : World} {q : Nat} {a b c d : Value} {T : TypeId} (h : y.heap[q]? = some (.cells #[a, b, c, d] T (0, 0))) : y.cell? ⟨q, 0, none⟩ = some a ∧ y.cell? ⟨q, 1, none⟩ = some b ∧ y.cell? ⟨q, 2, none⟩ = some c ∧ y.cell? ⟨q, 3, none⟩ = some d :=
  ⟨by rw [cells_cell h]; rfl, by rw [cells_cell h]; rfl, by rw [cells_cell h]; rfl, by rw [cells_cell h]; rfl⟩
theorem froz4F {y : World} {q : Nat} {cs : Array Value} {T : TypeId} (h : y.heap[q]? = some (.cells cs T (0, 0))) : y.frozen? ⟨q, 0, none⟩ = false ∧ y.frozen? ⟨q, 1, none⟩ = false ∧ y.frozen? ⟨q, 2, none⟩ = false ∧ y.frozen? ⟨q, 3, none⟩ = false :=
  ⟨cells_frozen h 0, cells_frozen h 1, cells_frozen h 2, cells_frozen h 3⟩
end Go.Proofs.YthagiklfmkdmaaaGreatDoor
