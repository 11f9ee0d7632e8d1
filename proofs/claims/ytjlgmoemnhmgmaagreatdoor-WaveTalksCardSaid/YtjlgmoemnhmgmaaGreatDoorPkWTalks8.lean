/- Right; slices.Index over strings; slices.ContainsFunc over fields and values with a function that captures one variable. -/
import Derived.Test.YtjlgmoemnhmgmaaGreatDoorPkWTalks7
namespace Go.Proofs.YtjlgmoemnhmgmaaGreatDoor
open Go.RowKit
set_option linter.unusedVariables false
set_option linter.unusedSimpArgs false
attribute [local irreducible] Calls
open Fm (Ty Vl Str nameB rightTy rightVl)

set_option maxRecDepth 100000 in
theorem types_right_c (fv : Value) (t : Ty) (w : World) (g : Gm w) (h : TyAt w fv t) : Calls Tryz.prog 63 #[.agg #[.int .i64 t.kind, fv]] w fun e w' => e = .returned (.bool (rightTy 4 t)) ∧ Nw w w' := by
  have n1 := nw_alloc w (.cells #[.int .i64 t.kind, fv] tTy)
  have hr : Hid (∀ y, Nw w y → Calls Tryz.prog 79 #[.agg #[.int .i64 t.kind, fv]] y fun e w' => e = .returned (.bool (rightTy 4 t)) ∧ Nw y w') := fun y u => by
    have n1 := nw_alloc y (.cells #[.int .i64 t.kind, fv] tTy)
    have hr : Hid (∀ z, Nw y z → Calls Tryz.prog 106 #[.agg #[.int .i64 t.kind, fv], .int .i64 4] z fun e w' => e = .returned (.bool (rightTy 4 t)) ∧ Nw z w') := fun z u2 => rightType_c 4 (by decide) fv t z (g.upd (u.trans u2)) (h.nw (u.trans u2))
    have HU := Lib.hid n1
    obtain ⟨a, cap, rfl, -⟩ := h.cells
    have hr1 := Lib.hid (hr.out _ n1)
    clear hr n1 h
    go_enter Tryz.func79, Tryz.ntmps79
    go_wp2_with fail
    (with_reducible refine (hr1.out).mono ?_)
    rintro _ w2 ⟨rfl, u2⟩
    have U2 := Lib.hid (HU.out.trans u2)
    clear u2
    go_wp2_with fail
    go_ret
    exact ⟨rfl, U2.out⟩
  have HU := Lib.hid n1
  have hr1 := Lib.hid (hr.out _ n1)
  obtain ⟨a, cap, rfl, -⟩ := h.cells
  clear hr n1 h
  go_enter Tryz.func63, Tryz.ntmps63
  go_wp2_with fail
  (with_reducible refine (hr1.out).mono ?_)
  rintro _ w2 ⟨rfl, u2⟩
  have U2 := Lib.hid (HU.out.trans u2)
  clear u2
  go_wp2_with fail
  go_ret
  exact ⟨rfl, U2.out⟩
/-- What the walk is told of a slice of strings. -/
abbrev StrC (w : World) (a : Option Addr) (l : List Str) : Prop := l = [] ∨ ∃ b off, a = some ⟨b, off, none⟩ ∧ b < w.heap.size ∧ ∀ i (h : i < l.length), w.cell? ⟨b, off + i, none⟩ = some (.string ⟨(l[i]).toArray⟩) ∧ (l[i]).length ≤ maxLen
set_option maxRecDepth 100000 in
theorem index_s (a : Option Addr) (cap : Nat) (l : List Str) (s : Str) (w : World) (h : StrC w a l) (hl : l.length ≤ maxLen) :
    Calls Tryz.prog 94 #[.slice a l.length cap, .string ⟨s.toArray⟩] w fun e w' => e = .returned (.int .i64 (Fm.idx s l)) ∧ w = w' := by
  have HC := Lib.hid h
  unfold maxLen at hl
  have hl1 : (l.length : Int) ≤ 9223372036854775807 := by omega
  clear h
  go_enter Tryz.func94, Tryz.ntmps94
  go_wp2_with fail
  go_loopw [8] (fun i wr => ∃ n : Nat, n ≤ l.length ∧ i = .int .i64 (n : Int) ∧ Hid (∀ j (h : j < l.length), j < n → (decide (l[j] = s)) = false) ∧ w = wr) (fun i _ => l.length - (intOf i).toNat)
  case atStart => exact ⟨0, Nat.zero_le _, rfl, fun j _ h => absurd h (Nat.not_lt_zero _), rfl⟩
  case round =>
    obtain ⟨n, hn, rfl, hall, rfl⟩ := hrel
    by_cases hlt : n < l.length
    · have hlt1 : (n : Int) < l.length := by omega
      rcases HC.out with hnil | ⟨b, off, rfl, _, hcell⟩
      · simp [hnil] at hlt
      have c0 := (hcell n hlt).1
      have hnext : l[n] ≠ s → Hid (∀ j (h : j < l.length), j < n + 1 → (decide (l[j] = s)) = false) := fun e j h hj => by
        by_cases ej : j = n
        · subst ej; exact decide_eq_false e
        · exact hall.out j h (by omega)
      have hstop : l[n] = s → Hid (Fm.idx s l = n) := fun e => idx_hit hlt (decide_eq_true e) hall.out
      clear hcell
      generalize l[n] = x at *
      by_cases he : x = s
      · have hr := hstop he
        clear hstop hnext
        subst he
        go_wp2_with fail
        go_ret
        rw [hr.out]
        exact ⟨rfl, rfl⟩
      · have hz := hnext he
        have htt : (s == x) = false := by simp; exact fun e => he e.symm
        clear hstop hnext he
        go_wp2_with fail
        go_roundw
        case rel => exact ⟨n + 1, by omega, by go_num, hz, by first | rfl | trivial⟩
        case measure => simp [intOf]; omega
    · obtain rfl : n = l.length := by omega
      have hr : Hid (Fm.idx s l = -1) := idx_miss (fun j h => hall.out j h h)
      clear hall
      go_wp2_with fail
      go_ret
      rw [hr.out]
      exact ⟨rfl, rfl⟩
/-- What the walk is told of the fields of a type. -/
abbrev FdC (w : World) (a : Option Addr) (l : List (Str × Ty)) : Prop := l = [] ∨ ∃ b off, a = some ⟨b, off, none⟩ ∧ b < w.heap.size ∧ ∀ i (h : i < l.length), ∃ sv, w.cell? ⟨b, off + i * 3, none⟩ = some (.string ⟨(l[i]).1.toArray⟩) ∧ w.cell? ⟨b, off + i * 3 + 1, none⟩ = some (.int .i64 (l[i]).2.kind) ∧ w.cell? ⟨b, off + i * 3 + 2, none⟩ = some sv ∧ TyAt w sv (l[i]).2 ∧ (l[i]).1.length ≤ maxLen
theorem FdC.nw {w w' : World} {a : Option Addr} {l : List (Str × Ty)} (h : FdC w a l) (u : Nw w w') : FdC w' a l :=
  h.imp id (fun ⟨b, off, e, hb, hc⟩ => ⟨b, off, e, Nat.lt_of_lt_of_le hb u.size, fun i hi => by
    obtain ⟨sv, h1, h2, h3, h4, h5⟩ := hc i hi
    exact ⟨sv, nw_cellF u h1, nw_cellF u h2, nw_cellF u h3, h4.nw u, h5⟩⟩)
set_option maxHeartbeats 1000000 in
set_option maxRecDepth 100000 in
theorem indexFunc_f (gf : Nat) (cb : Nat) (eg : ∀ args w, (callFunc gf args).run Tryz.prog w = .ok (.enter gf args) w) (p : Str × Ty → Bool) (a : Option Addr) (cap : Nat) (l : List (Str × Ty)) (w : World) (h : FdC w a l) (hl : l.length ≤ maxLen)
    (hp : ∀ W (f : Str × Ty) sv, Nw w W → f ∈ l → TyAt W sv f.2 → f.1.length ≤ maxLen → Calls Tryz.prog gf #[.agg #[.string ⟨f.1.toArray⟩, .int .i64 f.2.kind, sv], .pointer (some ⟨cb, 0, none⟩)] W fun e w' => e = .returned (.bool (p f)) ∧ Nw W w') :
    Calls Tryz.prog 118 #[.slice a l.length cap, .func (.func gf) #[] #[.pointer (some ⟨cb, 0, none⟩)]] w fun e w' => e = .returned (.int .i64 (idxI p l)) ∧ Nw w w' := by
  have HC := Lib.hid h
  have Hp := Lib.hid hp
  unfold maxLen at hl
  have hl1 : (l.length : Int) ≤ 9223372036854775807 := by omega
  clear h hp
  go_enter Tryz.func118, Tryz.ntmps118
  go_wp2_with fail
  go_loopw [8] (fun i wr => ∃ n : Nat, n ≤ l.length ∧ i = .int .i64 n ∧ Hid (∀ j (h : j < l.length), j < n → p l[j] = false) ∧ Hid (Nw w wr)) (fun i _ => l.length - (intOf i).toNat)
  case atStart => exact ⟨0, Nat.zero_le _, rfl, fun j _ h => absurd h (Nat.not_lt_zero _), Upd.refl _ _⟩
  case round =>
    obtain ⟨n, hn, rfl, hall, u⟩ := hrel
    by_cases hlt : n < l.length
    · have hlt1 : (n : Int) < l.length := by omega
      rcases HC.out with hnil | ⟨b, o, rfl, hb, hc⟩
      · simp [hnil] at hlt
      obtain ⟨sv, p0, p1, p2, ht, hs⟩ := hc n hlt
      have d0 := nw_cellF u.out p0
      have d1 := nw_cellF u.out p1
      have d2 := nw_cellF u.out p2
      have hcall := Hp.out wr l[n] sv u.out (List.getElem_mem hlt) (ht.nw u.out) hs
      obtain ⟨sa, sc, hsv, -⟩ := ht.cells
      subst hsv
      have hnext : p l[n] = false → Hid (∀ j (h : j < l.length), j < n + 1 → p l[j] = false) := fun e j h hj => by
        by_cases ej : j = n
        · subst ej; exact e
        · exact hall.out j h (by omega)
      have hstop : p l[n] = true → Hid (idxI p l = n) := fun e => idx_hit hlt e hall.out
      clear hc p0 p1 p2 ht hs
      generalize p l[n] = q at *
      generalize l[n] = x at *
      have Hcall := Lib.hid hcall; clear hcall
      cases q with
      | true =>
        have hr := hstop rfl
        clear hstop hnext
        go_wp2_with (go_at_fn gf; (with_reducible refine Hcall.out.mono ?_); rintro _ w2 ⟨rfl, u2⟩)
        go_ret
        exact ⟨ret_int hr.out.symm, u.out.trans u2⟩
      | false =>
        have hr := hnext rfl
        clear hstop hnext
        go_wp2_with (go_at_fn gf; (with_reducible refine Hcall.out.mono ?_); rintro _ w2 ⟨rfl, u2⟩)
        go_roundw
        case rel => exact ⟨n + 1, by omega, by go_num, hr, u.out.trans u2⟩
        case measure => simp [intOf]; omega
    · have hr : Hid (idxI p l = -1) := idx_miss (fun j h => hall.out j h (by omega))
      go_wp2_with fail
      go_ret
      exact ⟨ret_int hr.out.symm, u.out⟩
theorem containsFunc_f (gf : Nat) (cb : Nat) (eg : ∀ args w, (callFunc gf args).run Tryz.prog w = .ok (.enter gf args) w) (p : Str × Ty → Bool) (a : Option Addr) (cap : Nat) (l : List (Str × Ty)) (w : World) (h : FdC w a l) (hl : l.length ≤ maxLen)
    (hp : ∀ W (f : Str × Ty) sv, Nw w W → f ∈ l → TyAt W sv f.2 → f.1.length ≤ maxLen → Calls Tryz.prog gf #[.agg #[.string ⟨f.1.toArray⟩, .int .i64 f.2.kind, sv], .pointer (some ⟨cb, 0, none⟩)] W fun e w' => e = .returned (.bool (p f)) ∧ Nw W w') :
    Calls Tryz.prog 98 #[.slice a l.length cap, .func (.func gf) #[] #[.pointer (some ⟨cb, 0, none⟩)]] w fun e w' => e = .returned (.bool (l.any p)) ∧ Nw w w' := by
  have Q := Lib.hid (indexFunc_f gf cb eg p a cap l w h hl hp)
  have hr := Lib.hid (idx_any p l)
  clear h hp
  generalize idxI p l = m at *
  go_enter Tryz.func98, Tryz.ntmps98
  go_wp2_with fail
  (with_reducible refine (Q.out).mono ?_)
  rintro _ w2 ⟨rfl, u2⟩
  go_wp2_with fail
  all_goals go_ret
  all_goals exact ⟨ret_bool (by first | (rw [← hr.out]; done) | (rw [← hr.out]; simp_all)), u2⟩
/-- What the walk is told of the values of a record. -/
abbrev VsC (P : Nat → Prop) (w : World) (a : Option Addr) (l : List Vl) : Prop := l = [] ∨ ∃ b off, a = some ⟨b, off, none⟩ ∧ b < w.heap.size ∧ ∀ i (h : i < l.length), ∃ nv' vv', w.cell? ⟨b, off + i * 4, none⟩ = some (.int .i64 (l[i]).kind) ∧ w.cell? ⟨b, off + i * 4 + 1, none⟩ = some (.int .i64 (l[i]).n) ∧ w.cell? ⟨b, off + i * 4 + 2, none⟩ = some nv' ∧ w.cell? ⟨b, off + i * 4 + 3, none⟩ = some vv' ∧ VlAt P w nv' vv' (l[i])
set_option maxHeartbeats 1000000 in
set_option maxRecDepth 100000 in
theorem indexFunc_u (gf : Nat) (cb : Nat) (eg : ∀ args w, (callFunc gf args).run Tryz.prog w = .ok (.enter gf args) w) (p : Vl → Bool) (P : Nat → Prop) (a : Option Addr) (cap : Nat) (l : List Vl) (w : World) (h : VsC P w a l) (hl : l.length ≤ maxLen)
    (hp : ∀ W (f : Vl) nv vv, Nw w W → f ∈ l → VlAt P W nv vv f → Calls Tryz.prog gf #[.agg #[.int .i64 f.kind, .int .i64 f.n, nv, vv], .pointer (some ⟨cb, 0, none⟩)] W fun e w' => e = .returned (.bool (p f)) ∧ Nw W w') :
    Calls Tryz.prog 129 #[.slice a l.length cap, .func (.func gf) #[] #[.pointer (some ⟨cb, 0, none⟩)]] w fun e w' => e = .returned (.int .i64 (idxI p l)) ∧ Nw w w' := by
  have HC := Lib.hid h
  have Hp := Lib.hid hp
  unfold maxLen at hl
  have hl1 : (l.length : Int) ≤ 9223372036854775807 := by omega
  clear h hp
  go_enter Tryz.func129, Tryz.ntmps129
  go_wp2_with fail
  go_loopw [8] (fun i wr => ∃ n : Nat, n ≤ l.length ∧ i = .int .i64 n ∧ Hid (∀ j (h : j < l.length), j < n → p l[j] = false) ∧ Hid (Nw w wr)) (fun i _ => l.length - (intOf i).toNat)
  case atStart => exact ⟨0, Nat.zero_le _, rfl, fun j _ h => absurd h (Nat.not_lt_zero _), Upd.refl _ _⟩
  case round =>
    obtain ⟨n, hn, rfl, hall, u⟩ := hrel
    by_cases hlt : n < l.length
    · have hlt1 : (n : Int) < l.length := by omega
      rcases HC.out with hnil | ⟨b, o, rfl, hb, hc⟩
      · simp [hnil] at hlt
      obtain ⟨nv', vv', p0, p1, p2, p3, ht⟩ := hc n hlt
      have d0 := nw_cellF u.out p0
      have d1 := nw_cellF u.out p1
      have d2 := nw_cellF u.out p2
      have d3 := nw_cellF u.out p3
      have hcall := Hp.out wr l[n] nv' vv' u.out (List.getElem_mem hlt) (ht.nw u.out)
      obtain ⟨sa, sc, hsv, -⟩ := ht.names
      obtain ⟨ta, tc, htv, -⟩ := ht.vals
      subst hsv htv
      have hnext : p l[n] = false → Hid (∀ j (h : j < l.length), j < n + 1 → p l[j] = false) := fun e j h hj => by
        by_cases ej : j = n
        · subst ej; exact e
        · exact hall.out j h (by omega)
      have hstop : p l[n] = true → Hid (idxI p l = n) := fun e => idx_hit hlt e hall.out
      clear hc p0 p1 p2 p3 ht
      generalize p l[n] = q at *
      generalize l[n] = x at *
      have Hcall := Lib.hid hcall; clear hcall
      cases q with
      | true =>
        have hr := hstop rfl
        clear hstop hnext
        go_wp2_with (go_at_fn gf; (with_reducible refine Hcall.out.mono ?_); rintro _ w2 ⟨rfl, u2⟩)
        go_ret
        exact ⟨ret_int hr.out.symm, u.out.trans u2⟩
      | false =>
        have hr := hnext rfl
        clear hstop hnext
        go_wp2_with (go_at_fn gf; (with_reducible refine Hcall.out.mono ?_); rintro _ w2 ⟨rfl, u2⟩)
        go_roundw
        case rel => exact ⟨n + 1, by omega, by go_num, hr, u.out.trans u2⟩
        case measure => simp [intOf]; omega
    · have hr : Hid (idxI p l = -1) := idx_miss (fun j h => hall.out j h (by omega))
      go_wp2_with fail
      go_ret
      exact ⟨ret_int hr.out.symm, u.out⟩
theorem containsFunc_u (gf : Nat) (cb : Nat) (eg : ∀ args w, (callFunc gf args).run Tryz.prog w = .ok (.enter gf args) w) (p : Vl → Bool) (P : Nat → Prop) (a : Option Addr) (cap : Nat) (l : List Vl) (w : World) (h : VsC P w a l) (hl : l.length ≤ maxLen)
    (hp : ∀ W (f : Vl) nv vv, Nw w W → f ∈ l → VlAt P W nv vv f → Calls Tryz.prog gf #[.agg #[.int .i64 f.kind, .int .i64 f.n, nv, vv], .pointer (some ⟨cb, 0, none⟩)] W fun e w' => e = .returned (.bool (p f)) ∧ Nw W w') :
    Calls Tryz.prog 116 #[.slice a l.length cap, .func (.func gf) #[] #[.pointer (some ⟨cb, 0, none⟩)]] w fun e w' => e = .returned (.bool (l.any p)) ∧ Nw w w' := by
  have Q := Lib.hid (indexFunc_u gf cb eg p P a cap l w h hl hp)
  have hr := Lib.hid (idx_any p l)
  clear h hp
  generalize idxI p l = m at *
  go_enter Tryz.func116, Tryz.ntmps116
  go_wp2_with fail
  (with_reducible refine (Q.out).mono ?_)
  rintro _ w2 ⟨rfl, u2⟩
  go_wp2_with fail
  all_goals go_ret
  all_goals exact ⟨ret_bool (by first | (rw [← hr.out]; done) | (rw [← hr.out]; simp_all)), u2⟩
end Go.Proofs.YtjlgmoemnhmgmaaGreatDoor
