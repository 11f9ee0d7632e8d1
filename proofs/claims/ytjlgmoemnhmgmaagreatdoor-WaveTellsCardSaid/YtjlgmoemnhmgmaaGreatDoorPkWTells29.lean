/- The reference's small fleets (ladingref44.Few, FewWaves), Ints, Same. -/
import Derived.Test.YtjlgmoemnhmgmaaGreatDoorPkWTells28
namespace Go.Proofs.YtjlgmoemnhmgmaaGreatDoor
open Go.RowKit
set_option linter.unusedVariables false
set_option linter.unusedSimpArgs false
attribute [local irreducible] Calls
open Fm (Ty Vl Str)
open Wv (Svc FL)

namespace Wv
def sizeP : Nat → Int → Ty → Int
  | 0, most, _ => most + 1
  | lv + 1, most, t => t.fs.foldl (fun n fd => if n ≤ most then n + sizeP lv (most - n) fd.2 else n) 1
def sizeTo (lv : Nat) (most : Int) (l : List (Str × Ty)) (n : Nat) : Int := (l.take n).foldl (fun n fd => if n ≤ most then n + sizeP lv (most - n) fd.2 else n) 1
theorem sizeTo_succ {lv : Nat} {most : Int} {l : List (Str × Ty)} {n : Nat} (h : n < l.length) : sizeTo lv most l (n + 1) = if sizeTo lv most l n ≤ most then sizeTo lv most l n + sizeP lv (most - sizeTo lv most l n) (l[n]).2 else sizeTo lv most l n := by
  unfold sizeTo
  rw [List.take_succ_eq_append_getElem h, List.foldl_append]; rfl
theorem sizeTo_all (lv : Nat) (most : Int) (t : Ty) : sizeTo lv most t.fs t.fs.length = sizeP (lv + 1) most t := by
  unfold sizeTo
  rw [List.take_length]
  conv => rhs; unfold sizeP
theorem fold_stop {lv : Nat} {most : Int} : ∀ (l : List (Str × Ty)) (x : Int), most < x → l.foldl (fun n fd => if n ≤ most then n + sizeP lv (most - n) fd.2 else n) x = x
  | [], x, _ => rfl
  | a :: l, x, h => by
    rw [List.foldl_cons, if_neg (by omega)]
    exact fold_stop l x h
theorem sizeTo_stop {lv : Nat} {most : Int} {t : Ty} {n : Nat} (h : most < sizeTo lv most t.fs n) : sizeP (lv + 1) most t = sizeTo lv most t.fs n := by
  rw [← sizeTo_all]
  unfold sizeTo at h ⊢
  rw [List.take_length]
  conv => lhs; rw [← List.take_append_drop n t.fs]
  rw [List.foldl_append]
  exact fold_stop _ _ h
theorem sizeP_le : ∀ (lv : Nat) (most : Int) (t : Ty), 0 ≤ most → 1 ≤ sizeP lv most t ∧ sizeP lv most t ≤ most + 1
  | 0, most, t, h => by unfold sizeP; omega
  | lv + 1, most, t, h => by
    have key : ∀ (l : List (Str × Ty)) (x : Int), 1 ≤ x → x ≤ most + 1 → 1 ≤ l.foldl (fun n fd => if n ≤ most then n + sizeP lv (most - n) fd.2 else n) x ∧ l.foldl (fun n fd => if n ≤ most then n + sizeP lv (most - n) fd.2 else n) x ≤ most + 1 := by
      intro l
      induction l with
      | nil => intro x h1 h2; exact ⟨h1, h2⟩
      | cons a l ih =>
        intro x h1 h2
        rw [List.foldl_cons]
        by_cases hx : x ≤ most
        · rw [if_pos hx]
          have := sizeP_le lv (most - x) a.2 (by omega)
          exact ih _ (by omega) (by omega)
        · rw [if_neg hx]; exact ih x h1 h2
    unfold sizeP
    exact key t.fs 1 (by omega) (by omega)
theorem sizeTo_le {lv : Nat} {most : Int} (l : List (Str × Ty)) (n : Nat) (h : 0 ≤ most) : 1 ≤ sizeTo lv most l n ∧ sizeTo lv most l n ≤ most + 1 := by
  have := sizeP_le (lv + 1) most ⟨0, l.take n⟩ h
  unfold sizeP at this
  exact this
def fewT (t : Ty) : Bool := decide (sizeP 6 40 t ≤ 40)
def fewS (s : Svc) : Bool := decide (s.name.length ≤ 40) && decide (s.sends.length ≤ 10) && fewT s.wr && fewT s.rd
def fewSs (l : List Svc) : Bool := (l.take 5).all fewS && decide (l.length ≤ 4)
def fewF (f : FL) : Bool := fewSs f.old && fewSs f.new && decide (f.runs.length ≤ 8)
def fewW (l : List Wave) : Bool := (l.take 11).all (fun w => decide (w.ms.length ≤ 10)) && decide (l.length ≤ 10)
end Wv
set_option maxHeartbeats 4000000 in
set_option maxRecDepth 100000 in
theorem size_c : ∀ (lv : Nat) (most : Int) (fv : Value) (t : Ty) (w : World), lv ≤ 6 → 0 ≤ most → most ≤ 100 → TyAt w fv t →
    Calls Tryz.prog 84 #[.agg #[.int .i64 t.kind, fv], .int .i64 most, .int .i64 (lv : Int)] w fun e w' => e = .returned (.int .i64 (Wv.sizeP lv most t)) ∧ Nw w w' := by
  intro lv
  induction lv with
  | zero =>
    intro most fv t w hlv h0 h1 ht
    obtain ⟨fa, fc, rfl, -, -⟩ := ht.cells
    have n1 := Lib.hid (nw_alloc w (.cells #[.int .i64 t.kind, .slice fa t.fs.length fc] tTy))
    clear ht
    go_enter Tryz.func84, Tryz.ntmps84
    go_wp2_with fail
    go_ret
    exact ⟨rfl, n1.out⟩
  | succ lv ih =>
    intro most fv t w hlv h0 h1 ht
    obtain ⟨fa, fc, rfl, hml, hcs⟩ := ht.cells
    have HCS := Lib.hid hcs
    have HIH : Hid (∀ (m : Int) fv t' y, 0 ≤ m → m ≤ 100 → TyAt y fv t' → Calls Tryz.prog 84 #[.agg #[.int .i64 t'.kind, fv], .int .i64 m, .int .i64 (lv : Int)] y fun e w' => e = .returned (.int .i64 (Wv.sizeP lv m t')) ∧ Nw y w') := fun m fv t' y a b c => ih m fv t' y (by omega) a b c
    have n1 := nw_alloc w (.cells #[.int .i64 t.kind, .slice fa t.fs.length fc] tTy)
    have b1 := heap_new w (.cells #[.int .i64 t.kind, .slice fa t.fs.length fc] tTy)
    obtain ⟨W, hW⟩ : ∃ z, z = w.alloc (.cells #[.int .i64 t.kind, .slice fa t.fs.length fc] tTy) := ⟨_, rfl⟩
    rw [← hW] at n1 b1
    have HW := Lib.hid hW
    have HN := Lib.hid n1
    have HX : Hid (∀ y, Nw W y → y.cell? ⟨w.heap.size, 1, none⟩ = some (.slice fa t.fs.length fc)) := fun y u => by rw [cells_cell (Nw.keep u b1)]; rfl
    unfold maxLen at hml
    have hml1 : (t.fs.length : Int) ≤ 9223372036854775807 := by omega
    have hlv1 : ((lv + 1 : Nat) : Int) ≤ 6 := by omega
    have hlv2 : ¬ ((lv + 1 : Nat) : Int) < 1 := by omega
    have hlv3 : ((lv + 1 : Nat) : Int) - 1 = (lv : Int) := by omega
    clear n1 b1 hW ht hcs ih hlv
    have x1 := HX.out W (Upd.refl _ _)
    go_enter Tryz.func84, Tryz.ntmps84
    go_upto_region 1 with fail
    rw [← HW.out]
    clear HW
    go_wp2_with fail
    clear x1
    go_loopw [7, 8] (fun nv iv wr => ∃ i : Nat, i ≤ t.fs.length ∧ iv = .int .i64 (i : Int) ∧ nv = .int .i64 (Wv.sizeTo lv most t.fs i) ∧ Hid (Nw W wr)) (fun nv iv _ => t.fs.length - (intOf iv).toNat)
    case atStart => exact ⟨0, Nat.zero_le _, rfl, rfl, Upd.refl _ _⟩
    case round =>
      obtain ⟨i, hi, rfl, rfl, HU⟩ := hrel
      have x1 := HX.out wr HU.out
      obtain ⟨hs1, hs2⟩ := Wv.sizeTo_le (lv := lv) t.fs i h0
      by_cases hlt : i < t.fs.length
      · have hlt1 : (i : Int) < t.fs.length := by omega
        have HSS := Lib.hid (Wv.sizeTo_succ (lv := lv) (most := most) hlt)
        have HST : Hid (most < Wv.sizeTo lv most t.fs i → Wv.sizeP (lv + 1) most t = Wv.sizeTo lv most t.fs i) := Wv.sizeTo_stop
        rcases HCS.out with hnil | ⟨b, off, rfl, hb, hcell⟩
        · rw [hnil] at hlt; simp at hlt
        obtain ⟨sv, q0, q1, q2, hty, hnl⟩ := hcell i hlt
        have d1 := nw_cellF (HN.out.trans HU.out) q1
        have d2 := nw_cellF (HN.out.trans HU.out) q2
        obtain ⟨ga, gc, rfl, -, -⟩ := hty.cells
        have HTY := Lib.hid (hty.nw (HN.out.trans HU.out))
        have hin : (i : Int) ≤ 9223372036854775806 := by omega
        clear hcell q0 q1 q2 hty hnl
        generalize (t.fs[i]).2 = ft at *
        generalize hsz : Wv.sizeTo lv most t.fs i = sz at *
        by_cases hle : sz ≤ most
        · have HS2 : Hid (Wv.sizeTo lv most t.fs (i + 1) = sz + Wv.sizeP lv (most - sz) ft) := by show _ = _; rw [HSS.out, if_pos hle]
          have hcl := Lib.hid (HIH.out (most - sz) _ ft wr (by omega) (by omega) HTY.out)
          obtain ⟨g1, g2⟩ := Wv.sizeP_le lv (most - sz) ft (by omega)
          clear HSS HST hsz
          generalize Wv.sizeP lv (most - sz) ft = z at *
          go_wp2_with fail
          (with_reducible refine (hcl.out).mono ?_)
          rintro _ w2 ⟨rfl, u2⟩
          have HU2 := Lib.hid (HU.out.trans u2)
          clear u2
          go_wp2_with fail
          go_roundw
          case rel => exact ⟨i + 1, by omega, by go_num, by rw [HS2.out], HU2.out⟩
          case measure => simp [intOf]; omega
        · have e9 := Lib.hid (HST.out (by omega))
          clear HSS HST hsz
          go_wp2_with fail
          go_ret
          exact ⟨by rw [e9.out]; rfl, HN.out.trans HU.out⟩
      · obtain rfl : i = t.fs.length := by omega
        have e9 := Lib.hid (Wv.sizeTo_all lv most t)
        generalize Wv.sizeTo lv most t.fs t.fs.length = sz at *
        have hlt1 : ¬ ((t.fs.length : Nat) : Int) < t.fs.length := by omega
        go_wp2_with fail
        go_ret
        exact ⟨by rw [← e9.out]; rfl, HN.out.trans HU.out⟩
set_option maxRecDepth 100000 in
theorem fewT_c (fv : Value) (t : Ty) (w : World) (ht : TyAt w fv t) : Calls Tryz.prog 66 #[.agg #[.int .i64 t.kind, fv]] w fun e w' => e = .returned (.bool (Wv.fewT t)) ∧ Nw w w' := by
  obtain ⟨fa, fc, rfl, -, -⟩ := ht.cells
  have n1 := nw_alloc w (.cells #[.int .i64 t.kind, .slice fa t.fs.length fc] tTy)
  have b1 := heap_new w (.cells #[.int .i64 t.kind, .slice fa t.fs.length fc] tTy)
  obtain ⟨W, hW⟩ : ∃ z, z = w.alloc (.cells #[.int .i64 t.kind, .slice fa t.fs.length fc] tTy) := ⟨_, rfl⟩
  rw [← hW] at n1 b1
  have HW := Lib.hid hW
  have HN := Lib.hid n1
  have x0 : W.cell? ⟨w.heap.size, 0, none⟩ = some (.int .i64 t.kind) := by rw [cells_cell b1]; rfl
  have x1 : W.cell? ⟨w.heap.size, 1, none⟩ = some (.slice fa t.fs.length fc) := by rw [cells_cell b1]; rfl
  have hcl : Hid (Calls Tryz.prog 84 #[.agg #[.int .i64 t.kind, .slice fa t.fs.length fc], .int .i64 40, .int .i64 6] W fun e w' => e = .returned (.int .i64 (Wv.sizeP 6 40 t)) ∧ Nw W w') := size_c 6 40 _ t W (by omega) (by omega) (by omega) (ht.nw n1)
  have hfe : Hid (Wv.fewT t = decide (Wv.sizeP 6 40 t ≤ 40)) := rfl
  clear n1 b1 hW ht
  generalize Wv.sizeP 6 40 t = z at *
  go_enter Tryz.func66, Tryz.ntmps66
  go_upto_region 1 with fail
  rw [← HW.out]
  clear HW
  go_wp2_with fail
  (with_reducible refine (hcl.out).mono ?_)
  rintro _ w2 ⟨rfl, u2⟩
  have HU := Lib.hid (HN.out.trans u2)
  clear u2
  go_wp2_with fail
  go_ret
  exact ⟨by rw [hfe.out]; rfl, HU.out⟩
namespace Wv
theorem fewSs_no {l : List Svc} {i : Nat} (h : i < l.length) (h5 : i < 5) (e : fewS l[i] = false) : fewSs l = false := by
  unfold fewSs
  have : (l.take 5).all fewS = false := by
    rw [List.all_eq_false]
    refine ⟨l[i], ?_, by rw [e]; simp⟩
    rw [List.mem_iff_getElem]
    exact ⟨i, by rw [List.length_take]; omega, by rw [List.getElem_take]⟩
  rw [this]; rfl
theorem fewSs_yes {l : List Svc} {i : Nat} (hi : i = l.length ∨ i = 5) (h : ∀ j (h : j < l.length), j < i → fewS l[j] = true) : fewSs l = decide (l.length ≤ 4) := by
  unfold fewSs
  have : (l.take 5).all fewS = true := by
    rw [List.all_eq_true]
    intro x hx
    obtain ⟨j, hj, rfl⟩ := List.mem_iff_getElem.1 hx
    rw [List.length_take] at hj
    rw [List.getElem_take]
    exact h j (by omega) (by omega)
  rw [this]; rfl
theorem fewW_no {l : List Wave} {i : Nat} (h : i < l.length) (h5 : i < 11) (e : 10 < l[i].ms.length) : fewW l = false := by
  unfold fewW
  have : (l.take 11).all (fun w => decide (w.ms.length ≤ 10)) = false := by
    rw [List.all_eq_false]
    refine ⟨l[i], ?_, by simp; omega⟩
    rw [List.mem_iff_getElem]
    exact ⟨i, by rw [List.length_take]; omega, by rw [List.getElem_take]⟩
  rw [this]; rfl
theorem fewW_yes {l : List Wave} {i : Nat} (hi : i = l.length ∨ i = 11) (h : ∀ j (h : j < l.length), j < i → l[j].ms.length ≤ 10) : fewW l = decide (l.length ≤ 10) := by
  unfold fewW
  have : (l.take 11).all (fun w => decide (w.ms.length ≤ 10)) = true := by
    rw [List.all_eq_true]
    intro x hx
    obtain ⟨j, hj, rfl⟩ := List.mem_iff_getElem.1 hx
    rw [List.length_take] at hj
    rw [List.getElem_take]
    exact decide_eq_true (h j (by omega) (by omega))
  rw [this]; rfl
end Wv
set_option maxHeartbeats 4000000 in
set_option maxRecDepth 100000 in
theorem services_c (a : Option Addr) (cap : Nat) (l : List Svc) (w : World) (h : SvC w a l) (hl : l.length ≤ maxLen) :
    Calls Tryz.prog 47 #[.slice a l.length cap] w fun e w' => e = .returned (.bool (Wv.fewSs l)) ∧ Nw w w' := by
  have HC := Lib.hid h
  unfold maxLen at hl
  have hl1 : (l.length : Int) ≤ 9223372036854775807 := by omega
  clear h
  go_enter Tryz.func47, Tryz.ntmps47
  go_wp2_with fail
  go_loopw [3] (fun iv wr => ∃ i : Nat, i ≤ l.length ∧ i ≤ 5 ∧ iv = .int .i64 (i : Int) ∧ Hid (∀ j (h : j < l.length), j < i → Wv.fewS l[j] = true) ∧ Hid (Nw w wr)) (fun iv _ => l.length - (intOf iv).toNat)
  case atStart => exact ⟨0, Nat.zero_le _, Nat.zero_le _, rfl, fun j h h2 => by omega, Upd.refl _ _⟩
  case round =>
    obtain ⟨i, hi, hi5, rfl, HA, HU⟩ := hrel
    by_cases hlt : i < l.length
    · have hlt1 : (i : Int) < l.length := by omega
      by_cases h5 : i < 5
      · have h51 : (i : Int) < 5 := by omega
        have hi0 : decide ((i : Int) < 0) = false := decide_eq_false (by omega)
        rcases HC.out with hnil | ⟨b, off, rfl, hb, hcell⟩
        · rw [hnil] at hlt; simp at hlt
        obtain ⟨sa, fa, ga, sc, fc, gc, hk, hr⟩ := hcell i hlt
        obtain ⟨d0, d1, d2, d3, d4, d5⟩ := hk.nw HU.out
        have HR := Lib.hid (hr.nw HU.out)
        have HNO : Hid (Wv.fewS l[i] = false → Wv.fewSs l = false) := Wv.fewSs_no hlt h5
        have HNX : Hid (Wv.fewS l[i] = true → ∀ j (h : j < l.length), j < i + 1 → Wv.fewS l[j] = true) := fun e j h h2 => by
          by_cases ej : j = i
          · subst ej; exact e
          · exact HA.out j h (by omega)
        clear hcell hk hr
        generalize l[i] = s at *
        have HFS : Hid (Wv.fewS s = (decide (s.name.length ≤ 40) && decide (s.sends.length ≤ 10) && Wv.fewT s.wr && Wv.fewT s.rd)) := rfl
        have hw1 := Lib.hid (fun (y : World) (u : Nw wr y) => fewT_c _ s.wr y (HR.out.wr.nw u))
        have hw2 := Lib.hid (fun (y : World) (u : Nw wr y) => fewT_c _ s.rd y (HR.out.rd.nw u))
        have hnl := HR.out.name
        have hsl := HR.out.few
        unfold maxLen at hnl hsl
        by_cases h1 : s.name.length ≤ 40
        rotate_left
        · have e9 := Lib.hid (HNO.out (by rw [HFS.out, decide_eq_false h1]; rfl))
          have h11 : (40 : Int) < (s.name.length : Int) := by omega
          have h12 : decide (40 < s.name.length) = true := decide_eq_true (by omega)
          clear HNO HNX
          go_wp2_with fail
          go_ret
          exact ⟨by rw [e9.out]; rfl, HU.out⟩
        have h12 : decide (40 < s.name.length) = false := decide_eq_false (by omega)
        by_cases h2 : s.sends.length ≤ 10
        rotate_left
        · have e9 := Lib.hid (HNO.out (by rw [HFS.out, decide_eq_false h2]; simp))
          have h21 : decide (10 < s.sends.length) = true := decide_eq_true (by omega)
          clear HNO HNX
          go_wp2_with fail
          go_ret
          exact ⟨by rw [e9.out]; rfl, HU.out⟩
        have h21 : decide (10 < s.sends.length) = false := decide_eq_false (by omega)
        have HFS2 : Hid (Wv.fewS s = (Wv.fewT s.wr && Wv.fewT s.rd)) := by show _ = _; rw [HFS.out, decide_eq_true h1, decide_eq_true h2]; rfl
        have hc1 := Lib.hid (hw1.out wr (Upd.refl _ _))
        clear HFS
        cases ht1 : Wv.fewT s.wr with
        | false =>
          rw [ht1] at hc1 HFS2
          have e9 := Lib.hid (HNO.out (by rw [HFS2.out]; rfl))
          clear HNO HNX ht1
          go_wp2_with fail
          (with_reducible refine (hc1.out).mono ?_)
          rintro _ w2 ⟨rfl, u2⟩
          have HU2 := Lib.hid (HU.out.trans u2)
          clear u2
          go_wp2_with fail
          go_ret
          exact ⟨by rw [e9.out]; rfl, HU2.out⟩
        | true =>
        rw [ht1] at hc1 HFS2
        clear ht1
        go_wp2_with fail
        (with_reducible refine (hc1.out).mono ?_)
        rintro _ w2 ⟨rfl, u2⟩
        have HU2 := Lib.hid (HU.out.trans u2)
        have hc2 := Lib.hid (hw2.out w2 u2)
        have d4' := nw_cellF u2 d4
        have d5' := nw_cellF u2 d5
        clear u2 d0 d1 d2 d3 d4 d5 hc1
        cases ht2 : Wv.fewT s.rd with
        | false =>
          rw [ht2] at hc2 HFS2
          have e9 := Lib.hid (HNO.out (by rw [HFS2.out]; rfl))
          clear HNO HNX ht2
          go_wp2_with fail
          (with_reducible refine (hc2.out).mono ?_)
          rintro _ w3 ⟨rfl, u3⟩
          have HU3 := Lib.hid (HU2.out.trans u3)
          clear u3
          go_wp2_with fail
          go_ret
          exact ⟨by rw [e9.out]; rfl, HU3.out⟩
        | true =>
        rw [ht2] at hc2 HFS2
        have HN2 := Lib.hid (HNX.out (by rw [HFS2.out]; rfl))
        clear HNO HNX ht2
        go_wp2_with fail
        (with_reducible refine (hc2.out).mono ?_)
        rintro _ w3 ⟨rfl, u3⟩
        have HU3 := Lib.hid (HU2.out.trans u3)
        clear u3
        go_wp2_with fail
        go_roundw
        case rel => exact ⟨i + 1, by omega, by omega, by go_num, HN2.out, HU3.out⟩
        case measure => simp [intOf]; omega
      · have h52 : ¬ (i : Int) < 5 := by omega
        have h53 : decide ((i : Int) < 5) = false := decide_eq_false h52
        have e9 := Lib.hid (Wv.fewSs_yes (Or.inr (by omega)) HA.out)
        have h54 : ¬ l.length ≤ 4 := by omega
        go_wp2_with fail
        go_ret
        exact ⟨by rw [e9.out]; simp; omega, HU.out⟩
    · obtain rfl : i = l.length := by omega
      have hlt1 : ¬ ((l.length : Nat) : Int) < l.length := by omega
      have e9 := Lib.hid (Wv.fewSs_yes (Or.inl rfl) HA.out)
      go_wp2_with fail
      go_ret
      exact ⟨by rw [e9.out]; simp; omega, HU.out⟩
set_option maxHeartbeats 4000000 in
set_option maxRecDepth 100000 in
theorem Few_c (oa na ra : Option Addr) (oc nc rc : Nat) (f : FL) (w : World) (h : FlAt w oa na ra oc nc f) :
    Calls Tryz.prog 23 #[.agg (flV oa na ra oc nc rc f)] w fun e w' => e = .returned (.bool (Wv.fewF f)) ∧ Nw w w' := by
  unfold flV
  have n1 := nw_alloc w (.cells #[.slice oa f.old.length oc, .slice na f.new.length nc, .slice ra f.runs.length rc] tFl)
  have b1 := heap_new w (.cells #[.slice oa f.old.length oc, .slice na f.new.length nc, .slice ra f.runs.length rc] tFl)
  obtain ⟨W, hW⟩ : ∃ z, z = w.alloc (.cells #[.slice oa f.old.length oc, .slice na f.new.length nc, .slice ra f.runs.length rc] tFl) := ⟨_, rfl⟩
  rw [← hW] at n1 b1
  have HW := Lib.hid hW
  have HN := Lib.hid n1
  have HX : Hid (∀ y, Nw W y → y.cell? ⟨w.heap.size, 0, none⟩ = some (.slice oa f.old.length oc) ∧ y.cell? ⟨w.heap.size, 1, none⟩ = some (.slice na f.new.length nc) ∧ y.cell? ⟨w.heap.size, 2, none⟩ = some (.slice ra f.runs.length rc)) := fun y u => ⟨by rw [cells_cell (Nw.keep u b1)]; rfl, by rw [cells_cell (Nw.keep u b1)]; rfl, by rw [cells_cell (Nw.keep u b1)]; rfl⟩
  have hc1 := Lib.hid (services_c oa oc f.old W (SvC.nw h.old n1) h.lo)
  have HC2 := Lib.hid (fun (y : World) (u : Nw W y) => services_c na nc f.new y (SvC.nw h.new (n1.trans u)) h.ln)
  have HFF : Hid (Wv.fewF f = (Wv.fewSs f.old && Wv.fewSs f.new && decide (f.runs.length ≤ 8))) := rfl
  have hlr := h.lr
  unfold maxLen at hlr
  have hlr1 : (f.runs.length : Int) ≤ 9223372036854775807 := by omega
  obtain ⟨x0, x1, x2⟩ := HX.out W (Upd.refl _ _)
  clear n1 b1 hW h
  go_enter Tryz.func23, Tryz.ntmps23
  go_upto_region 1 with fail
  rw [← HW.out]
  clear HW
  cases h1 : Wv.fewSs f.old with
  | false =>
    rw [h1] at hc1 HFF
    go_wp2_with fail
    (with_reducible refine (hc1.out).mono ?_)
    rintro _ w2 ⟨rfl, u2⟩
    have HU := Lib.hid (HN.out.trans u2)
    clear u2
    go_wp2_with fail
    go_ret
    exact ⟨by rw [HFF.out]; rfl, HU.out⟩
  | true =>
  rw [h1] at hc1 HFF
  go_wp2_with fail
  (with_reducible refine (hc1.out).mono ?_)
  rintro _ w2 ⟨rfl, u2⟩
  have HU := Lib.hid (HN.out.trans u2)
  have hc2 := Lib.hid (HC2.out w2 u2)
  have HU2 := Lib.hid u2
  clear x0 x1 x2 hc1 h1
  obtain ⟨x0, x1, x2⟩ := HX.out w2 u2
  clear u2
  cases h2 : Wv.fewSs f.new with
  | false =>
    rw [h2] at hc2 HFF
    go_wp2_with fail
    (with_reducible refine (hc2.out).mono ?_)
    rintro _ w3 ⟨rfl, u3⟩
    have HU3 := Lib.hid (HU.out.trans u3)
    clear u3
    go_wp2_with fail
    go_ret
    exact ⟨by rw [HFF.out]; rfl, HU3.out⟩
  | true =>
  rw [h2] at hc2 HFF
  go_wp2_with fail
  (with_reducible refine (hc2.out).mono ?_)
  rintro _ w3 ⟨rfl, u3⟩
  have HU3 := Lib.hid (HU.out.trans u3)
  clear x0 x1 x2 hc2 h2
  obtain ⟨x0, x1, x2⟩ := HX.out w3 (HU2.out.trans u3)
  clear u3
  go_wp2_with fail
  go_ret
  exact ⟨by rw [HFF.out]; simp; omega, HU3.out⟩
set_option maxHeartbeats 4000000 in
set_option maxRecDepth 100000 in
theorem FewWaves_c (a : Option Addr) (cap : Nat) (l : List Wv.Wave) (w : World) (h : WvC w a l) (hl : l.length ≤ maxLen) :
    Calls Tryz.prog 29 #[.slice a l.length cap] w fun e w' => e = .returned (.bool (Wv.fewW l)) ∧ Nw w w' := by
  have HC := Lib.hid h
  unfold maxLen at hl
  have hl1 : (l.length : Int) ≤ 9223372036854775807 := by omega
  clear h
  go_enter Tryz.func29, Tryz.ntmps29
  go_wp2_with fail
  go_loopw [3] (fun iv wr => ∃ i : Nat, i ≤ l.length ∧ i ≤ 11 ∧ iv = .int .i64 (i : Int) ∧ Hid (∀ j (h : j < l.length), j < i → l[j].ms.length ≤ 10) ∧ Hid (Nw w wr)) (fun iv _ => l.length - (intOf iv).toNat)
  case atStart => exact ⟨0, Nat.zero_le _, Nat.zero_le _, rfl, fun j h h2 => by omega, Upd.refl _ _⟩
  case round =>
    obtain ⟨i, hi, hi5, rfl, HA, HU⟩ := hrel
    by_cases hlt : i < l.length
    · have hlt1 : (i : Int) < l.length := by omega
      by_cases h5 : i < 11
      · have h51 : (i : Int) < 11 := by omega
        have hi0 : decide ((i : Int) < 0) = false := decide_eq_false (by omega)
        rcases HC.out with hnil | ⟨b, off, rfl, hb, hcell⟩
        · rw [hnil] at hlt; simp at hlt
        obtain ⟨ma, mc, q0, q1, hic, hml⟩ := hcell i hlt
        have d0 := nw_cellF HU.out q0
        have HNO : Hid (10 < l[i].ms.length → Wv.fewW l = false) := Wv.fewW_no hlt h5
        have HNX : Hid (l[i].ms.length ≤ 10 → ∀ j (h : j < l.length), j < i + 1 → l[j].ms.length ≤ 10) := fun e j h h2 => by
          by_cases ej : j = i
          · subst ej; exact e
          · exact HA.out j h (by omega)
        unfold maxLen at hml
        clear hcell q0 q1 hic
        generalize l[i] = s at *
        by_cases h1 : s.ms.length ≤ 10
        · have HN2 := Lib.hid (HNX.out h1)
          have h12 : decide (10 < s.ms.length) = false := decide_eq_false (by omega)
          clear HNO HNX
          go_wp2_with fail
          go_roundw
          case rel => exact ⟨i + 1, by omega, by omega, by go_num, HN2.out, HU⟩
          case measure => simp [intOf]; omega
        · have e9 := Lib.hid (HNO.out (by omega))
          have h12 : decide (10 < s.ms.length) = true := decide_eq_true (by omega)
          clear HNO HNX
          go_wp2_with fail
          go_ret
          exact ⟨by rw [e9.out]; rfl, HU.out⟩
      · have h52 : ¬ (i : Int) < 11 := by omega
        have h53 : decide ((i : Int) < 11) = false := decide_eq_false h52
        have e9 := Lib.hid (Wv.fewW_yes (Or.inr (by omega)) HA.out)
        have h54 : ¬ l.length ≤ 10 := by omega
        go_wp2_with fail
        go_ret
        exact ⟨by rw [e9.out]; simp; omega, HU.out⟩
    · obtain rfl : i = l.length := by omega
      have hlt1 : ¬ ((l.length : Nat) : Int) < l.length := by omega
      have e9 := Lib.hid (Wv.fewW_yes (Or.inl rfl) HA.out)
      go_wp2_with fail
      go_ret
      exact ⟨by rw [e9.out]; simp; omega, HU.out⟩
set_option maxHeartbeats 4000000 in
set_option maxRecDepth 100000 in
theorem Ints_c (a a2 : Option Addr) (cap cap2 : Nat) (l l2 : List Int) (w : World) (h : IC w a l) (h2 : IC w a2 l2) (hl : l.length ≤ maxLen) (hl2 : l2.length ≤ maxLen) :
    Calls Tryz.prog 16 #[.slice a l.length cap, .slice a2 l2.length cap2] w fun e w' => e = .returned (.bool (decide (l = l2))) ∧ Nw w w' := by
  have HC := Lib.hid h
  have HC2 := Lib.hid h2
  unfold maxLen at hl hl2
  have hl1 : (l.length : Int) ≤ 9223372036854775807 := by omega
  clear h h2
  by_cases hlen : l.length = l2.length
  rotate_left
  · have e9 : Hid (decide (l = l2) = false) := decide_eq_false (fun e => hlen (by rw [e]))
    have hne : (l.length != l2.length) = true := by simpa using hlen
    go_enter Tryz.func16, Tryz.ntmps16
    go_wp2_with fail
    go_ret
    exact ⟨by rw [e9.out]; rfl, Upd.refl _ _⟩
  have hne : (l.length != l2.length) = false := by simpa using hlen
  have HLEN := Lib.hid hlen
  go_enter Tryz.func16, Tryz.ntmps16
  go_wp2_with fail
  clear hlen hne
  go_loopw [5] (fun iv wr => ∃ i : Nat, i ≤ l.length ∧ iv = .int .i64 (i : Int) ∧ Hid (∀ j (h : j < l.length) (h2 : j < l2.length), j < i → l[j] = l2[j]) ∧ Hid (Nw w wr)) (fun iv _ => l.length - (intOf iv).toNat)
  case atStart => exact ⟨0, Nat.zero_le _, rfl, fun j h h2 h3 => by omega, Upd.refl _ _⟩
  case round =>
    obtain ⟨i, hi, rfl, HA, HU⟩ := hrel
    by_cases hlt : i < l.length
    · have hlt1 : (i : Int) < l.length := by omega
      have hlt2 : i < l2.length := by have := HLEN.out; omega
      have hlt3 : (i : Int) < l2.length := by omega
      have hi0 : decide ((i : Int) < 0) = false := decide_eq_false (by omega)
      rcases HC.out with hnil | ⟨b, off, rfl, hb, hcell⟩
      · rw [hnil] at hlt; simp at hlt
      rcases HC2.out with hnil | ⟨b2, off2, rfl, hb2, hcell2⟩
      · rw [hnil] at hlt2; simp at hlt2
      have k0 : ∀ j : Later wr, j.1.cell? ⟨b, off + i, none⟩ = some (.int .i64 l[i]) := fun j => later_cell j (nw_cellF HU.out (hcell i hlt))
      have k1 : ∀ j : Later wr, j.1.cell? ⟨b2, off2 + i, none⟩ = some (.int .i64 l2[i]) := fun j => later_cell j (nw_cellF HU.out (hcell2 i hlt2))
      have HNO : Hid (l[i] ≠ l2[i] → decide (l = l2) = false) := fun e => decide_eq_false (fun e2 => e (by subst e2; rfl))
      have HNX : Hid (l[i] = l2[i] → ∀ j (h : j < l.length) (h2 : j < l2.length), j < i + 1 → l[j] = l2[j]) := fun e j h h2 h3 => by
        by_cases ej : j = i
        · subst ej; exact e
        · exact HA.out j h h2 (by omega)
      clear hcell hcell2
      generalize l[i] = x at *
      generalize l2[i] = y at *
      go_upto_region 6 with fail
      by_cases hxy : x = y
      · have HN2 := Lib.hid (HNX.out hxy)
        have hb1 : (x != y) = false := by simpa using hxy
        clear HNO HNX
        refine wp_region_nw (by kernel_rfl) (by kernel_rfl) ?_
        repeat (go_big_quiet_step ((fail)))
        refine wpQuiet_nil ?_
        intro w2 u2
        replace u2 := later_out u2
        have HU2 := Lib.hid (HU.out.trans u2)
        clear u2 k0 k1
        go_wp2_with fail
        go_roundw
        case rel => exact ⟨i + 1, by omega, by go_num, HN2.out, HU2.out⟩
        case measure => simp [intOf]; omega
      · have e9 := Lib.hid (HNO.out hxy)
        have hb1 : (x != y) = true := by simpa using hxy
        clear HNO HNX
        refine wp_region_nw (by kernel_rfl) (by kernel_rfl) ?_
        repeat (go_big_quiet_step ((fail)))
        refine wpQuiet_nil ?_
        intro w2 u2
        replace u2 := later_out u2
        have HU2 := Lib.hid (HU.out.trans u2)
        clear u2 k0 k1
        go_wp2_with fail
        go_ret
        exact ⟨by rw [e9.out]; rfl, HU2.out⟩
    · obtain rfl : i = l.length := by omega
      have hlt1 : ¬ ((l.length : Nat) : Int) < l.length := by omega
      have e9 : Hid (decide (l = l2) = true) := decide_eq_true (List.ext_getElem HLEN.out (fun j h h2 => HA.out j h h2 h))
      go_wp2_with fail
      go_ret
      exact ⟨by rw [e9.out]; rfl, HU.out⟩
deriving instance DecidableEq for Wv.Wave
set_option maxHeartbeats 4000000 in
set_option maxRecDepth 100000 in
theorem Same_c (a a2 : Option Addr) (cap cap2 : Nat) (l l2 : List Wv.Wave) (w : World) (h : WvC w a l) (h2 : WvC w a2 l2) (hl : l.length ≤ maxLen) (hl2 : l2.length ≤ maxLen) :
    Calls Tryz.prog 17 #[.slice a l.length cap, .slice a2 l2.length cap2] w fun e w' => e = .returned (.bool (decide (l = l2))) ∧ Nw w w' := by
  have HC := Lib.hid h
  have HC2 := Lib.hid h2
  unfold maxLen at hl hl2
  have hl1 : (l.length : Int) ≤ 9223372036854775807 := by omega
  clear h h2
  by_cases hlen : l.length = l2.length
  rotate_left
  · have e9 : Hid (decide (l = l2) = false) := decide_eq_false (fun e => hlen (by rw [e]))
    have hne : (l.length != l2.length) = true := by simpa using hlen
    go_enter Tryz.func17, Tryz.ntmps17
    go_wp2_with fail
    go_ret
    exact ⟨by rw [e9.out]; rfl, Upd.refl _ _⟩
  have hne : (l.length != l2.length) = false := by simpa using hlen
  have HLEN := Lib.hid hlen
  go_enter Tryz.func17, Tryz.ntmps17
  go_wp2_with fail
  clear hlen hne
  go_loopw [5] (fun iv wr => ∃ i : Nat, i ≤ l.length ∧ iv = .int .i64 (i : Int) ∧ Hid (∀ j (h : j < l.length) (h2 : j < l2.length), j < i → l[j] = l2[j]) ∧ Hid (Nw w wr)) (fun iv _ => l.length - (intOf iv).toNat)
  case atStart => exact ⟨0, Nat.zero_le _, rfl, fun j h h2 h3 => by omega, Upd.refl _ _⟩
  case round =>
    obtain ⟨i, hi, rfl, HA, HU⟩ := hrel
    by_cases hlt : i < l.length
    · have hlt1 : (i : Int) < l.length := by omega
      have hlt2 : i < l2.length := by have := HLEN.out; omega
      have hlt3 : (i : Int) < l2.length := by omega
      have hi0 : decide ((i : Int) < 0) = false := decide_eq_false (by omega)
      rcases HC.out with hnil | ⟨b, off, rfl, hb, hcell⟩
      · rw [hnil] at hlt; simp at hlt
      rcases HC2.out with hnil | ⟨b2, off2, rfl, hb2, hcell2⟩
      · rw [hnil] at hlt2; simp at hlt2
      obtain ⟨ma, mc, q0, q1, hic, hml⟩ := hcell i hlt
      obtain ⟨na, nc, r0, r1, hic2, hml2⟩ := hcell2 i hlt2
      have k0 : ∀ j : Later wr, j.1.cell? ⟨b, off + i * 2, none⟩ = some (.slice ma l[i].ms.length mc) := fun j => later_cell j (nw_cellF HU.out q0)
      have k1 : ∀ j : Later wr, j.1.cell? ⟨b, off + i * 2 + 1, none⟩ = some (.int .i64 l[i].after) := fun j => later_cell j (nw_cellF HU.out q1)
      have k2 : ∀ j : Later wr, j.1.cell? ⟨b2, off2 + i * 2, none⟩ = some (.slice na l2[i].ms.length nc) := fun j => later_cell j (nw_cellF HU.out r0)
      have k3 : ∀ j : Later wr, j.1.cell? ⟨b2, off2 + i * 2 + 1, none⟩ = some (.int .i64 l2[i].after) := fun j => later_cell j (nw_cellF HU.out r1)
      have HNO : Hid (l[i] ≠ l2[i] → decide (l = l2) = false) := fun e => decide_eq_false (fun e2 => e (by subst e2; rfl))
      have HNX : Hid (l[i] = l2[i] → ∀ j (h : j < l.length) (h2 : j < l2.length), j < i + 1 → l[j] = l2[j]) := fun e j h h2 h3 => by
        by_cases ej : j = i
        · subst ej; exact e
        · exact HA.out j h h2 (by omega)
      have HINT := Lib.hid (fun (y : World) (u : Nw wr y) => Ints_c ma na mc nc l[i].ms l2[i].ms y (IC.nw hic (HU.out.trans u)) (IC.nw hic2 (HU.out.trans u)) hml hml2)
      clear hcell hcell2 q0 q1 r0 r1 hic hic2 hml hml2
      generalize l[i] = x at *
      generalize l2[i] = y at *
      obtain ⟨xm, xa⟩ := x
      obtain ⟨ym, ya⟩ := y
      dsimp only at *
      go_upto_region 6 with fail
      by_cases hxy : xa = ya
      rotate_left
      · have e9 := Lib.hid (HNO.out (fun e => hxy (congrArg Wv.Wave.after e)))
        have hb1 : (xa != ya) = true := by simpa using hxy
        clear HNO HNX HINT
        refine wp_region_nw (by kernel_rfl) (by kernel_rfl) ?_
        repeat (go_big_quiet_step ((fail)))
        refine wpQuiet_nil ?_
        intro w2 u2
        replace u2 := later_out u2
        have HU2 := Lib.hid (HU.out.trans u2)
        clear u2 k0 k1 k2 k3
        go_wp2_with fail
        go_ret
        exact ⟨by rw [e9.out]; rfl, HU2.out⟩
      subst hxy
      have hb1 : (xa != xa) = false := by simp
      by_cases hm : xm = ym
      · have HN2 := Lib.hid (HNX.out (by rw [hm]))
        have HI2 : Hid (∀ y, Nw wr y → Calls Tryz.prog 16 #[.slice ma xm.length mc, .slice na ym.length nc] y fun e w' => e = .returned (.bool true) ∧ Nw y w') := fun y u => by have := HINT.out y u; rw [decide_eq_true hm] at this; exact this
        clear HNO HNX HINT hm
        refine wp_region_nw (by kernel_rfl) (by kernel_rfl) ?_
        repeat (go_big_quiet_step ((go_at_call 16; exact later_call (HI2.out _ (Later.nw _)))))
        refine wpQuiet_nil ?_
        intro w2 u2
        replace u2 := later_out u2
        have HU2 := Lib.hid (HU.out.trans u2)
        clear u2 k0 k1 k2 k3
        go_wp2_with fail
        go_roundw
        case rel => exact ⟨i + 1, by omega, by go_num, HN2.out, HU2.out⟩
        case measure => simp [intOf]; omega
      · have e9 := Lib.hid (HNO.out (fun e => hm (congrArg Wv.Wave.ms e)))
        have HI2 : Hid (∀ y, Nw wr y → Calls Tryz.prog 16 #[.slice ma xm.length mc, .slice na ym.length nc] y fun e w' => e = .returned (.bool false) ∧ Nw y w') := fun y u => by have := HINT.out y u; rw [decide_eq_false hm] at this; exact this
        clear HNO HNX HINT hm
        refine wp_region_nw (by kernel_rfl) (by kernel_rfl) ?_
        repeat (go_big_quiet_step ((go_at_call 16; exact later_call (HI2.out _ (Later.nw _)))))
        refine wpQuiet_nil ?_
        intro w2 u2
        replace u2 := later_out u2
        have HU2 := Lib.hid (HU.out.trans u2)
        clear u2 k0 k1 k2 k3
        go_wp2_with fail
        go_ret
        exact ⟨by rw [e9.out]; rfl, HU2.out⟩
    · obtain rfl : i = l.length := by omega
      have hlt1 : ¬ ((l.length : Nat) : Int) < l.length := by omega
      have e9 : Hid (decide (l = l2) = true) := decide_eq_true (List.ext_getElem HLEN.out (fun j h h2 => HA.out j h h2 h))
      go_wp2_with fail
      go_ret
      exact ⟨by rw [e9.out]; rfl, HU.out⟩
end Go.Proofs.YtjlgmoemnhmgmaaGreatDoor
