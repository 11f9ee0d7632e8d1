/- Right types. -/
import Derived.Test.YtjlgmoemnhmgmaaGreatDoorPkWTells6
import Derived.Deep.CutBlock
namespace Go.Proofs.YtjlgmoemnhmgmaaGreatDoor
open Go.RowKit
set_option linter.unusedVariables false
set_option linter.unusedSimpArgs false
attribute [local irreducible] Calls
open Fm (Ty Vl Str nameB rightTy)

theorem bl_total : ∀ a b : Str, Op.bytesLess a b = true ∨ a = b ∨ Op.bytesLess b a = true := by
  intro a
  induction a with
  | nil => intro b; cases b; exact Or.inr (Or.inl rfl); exact Or.inl rfl
  | cons x a ih =>
    intro b
    cases b with
    | nil => exact Or.inr (Or.inr rfl)
    | cons y b =>
      simp only [Op.bytesLess, Bool.or_eq_true, decide_eq_true_eq, Bool.and_eq_true, beq_iff_eq, List.cons.injEq]
      by_cases h1 : x < y
      · exact Or.inl (Or.inl h1)
      · by_cases h2 : y < x
        · exact Or.inr (Or.inr (Or.inl h2))
        · have e : x = y := UInt8.le_antisymm (UInt8.not_lt.1 h2) (UInt8.not_lt.1 h1)
          subst e
          rcases ih b with h | h | h
          · exact Or.inl (Or.inr ⟨rfl, h⟩)
          · exact Or.inr (Or.inl ⟨rfl, h⟩)
          · exact Or.inr (Or.inr (Or.inr ⟨rfl, h⟩))
/-- '<=' the other way around. -/
theorem bl_no {a b : Str} (h : Op.bytesLess b a = true) : Op.bytesLess a b = false ∧ (a == b) = false := by
  refine ⟨?_, ?_⟩
  · cases hc : Op.bytesLess a b with
    | false => rfl
    | true => have := Fm.lt_trans h hc; rw [Fm.lt_irr] at this; cases this
  · cases hc : (a == b) with
    | false => rfl
    | true =>
      obtain rfl := beq_iff_eq.1 hc
      rw [show Op.bytesLess a a = false from Fm.lt_irr a] at h; cases h
theorem bl_yes {a b : Str} (h : Op.bytesLess b a = false) : (Op.bytesLess a b || (a == b)) = true := by
  rcases bl_total a b with h1 | h1 | h1
  · rw [h1]; rfl
  · rw [h1]; simp
  · rw [h] at h1; cases h1
theorem rt_no {d : Nat} {t : Ty} (h : Fm.Rt d t → False) : rightTy (d + 1) t = false := by
  cases hc : rightTy (d + 1) t with
  | false => rfl
  | true => exact (h (Fm.rt_iff.1 hc)).elim
/-- What is right of the first n fields. -/
def RtN (d : Nat) (t : Ty) (n : Nat) : Prop := ∀ i (h : i < t.fs.length), i < n → nameB (t.fs[i]).1 = true ∧ rightTy d (t.fs[i]).2 = true ∧ ∀ hp : 0 < i, Op.bytesLess (t.fs[i - 1]'(by omega)).1 (t.fs[i]).1 = true
theorem rt_all {d : Nat} {t : Ty} (k0 : 0 ≤ t.kind) (k3 : t.kind < 3) (hl : t.fs.length ≤ 8) (hr : t.kind ≠ 2 → t.fs = []) (h : RtN d t t.fs.length) : rightTy (d + 1) t = true := by
  refine Fm.rt_iff.2 ⟨k0, k3, hl, hr, Fm.asc_iff.2 fun i hi => ?_, fun f hf => ?_, fun f hf => ?_⟩
  · have hi' : i + 1 < t.fs.length := by simpa using hi
    have := (h (i + 1) hi' hi').2.2 (by omega)
    simpa using this
  · obtain ⟨i, hi, rfl⟩ := List.mem_iff_getElem.1 hf
    exact (h i hi hi).1
  · obtain ⟨i, hi, rfl⟩ := List.mem_iff_getElem.1 hf
    exact (h i hi hi).2.1
theorem nw_cellF {w w' : World} (u : Nw w w') {a : Addr} {v : Value} (h : w.cell? a = some v) : w'.cell? a = some v := later_cell ⟨w', u⟩ h
theorem rtn_step {d : Nat} {t : Ty} {n : Nat} (h : RtN d t n) (hn : n < t.fs.length) (h1 : nameB (t.fs[n]).1 = true) (h2 : rightTy d (t.fs[n]).2 = true) (h3 : ∀ hp : 0 < n, Op.bytesLess (t.fs[n - 1]'(by omega)).1 (t.fs[n]).1 = true) : RtN d t (n + 1) := fun i hi hin => by
  by_cases e : i = n
  · subst e; exact ⟨h1, h2, h3⟩
  · exact h i hi (by omega)
theorem rt_bad1 {d : Nat} {t : Ty} {n : Nat} (hn : n < t.fs.length) (h : nameB (t.fs[n]).1 = false) : rightTy (d + 1) t = false := rt_no (fun r => by
  rw [r.name _ (List.getElem_mem hn)] at h; cases h)
theorem rt_bad2 {d : Nat} {t : Ty} {n : Nat} (hn : n + 1 < t.fs.length) (h : Op.bytesLess (t.fs[n]).1 (t.fs[n + 1]).1 = false) : rightTy (d + 1) t = false := rt_no (fun r => by
  have := Fm.asc_iff.1 r.asc n (by simpa using hn)
  simp only [List.getElem_map] at this
  rw [show Op.bytesLess (t.fs[n]).1 (t.fs[n + 1]).1 = true from this] at h; cases h)
theorem rt_bad3 {d : Nat} {t : Ty} {n : Nat} (hn : n < t.fs.length) (h : rightTy d (t.fs[n]).2 = false) : rightTy (d + 1) t = false := rt_no (fun r => by
  rw [r.sub _ (List.getElem_mem hn)] at h; cases h)
set_option maxHeartbeats 4000000 in
set_option maxRecDepth 100000 in
theorem rightType_c : ∀ (d : Nat), d ≤ 4 → ∀ (fv : Value) (t : Ty) (w : World), Gm w → TyAt w fv t →
    Calls Tryz.prog 106 #[.agg #[.int .i64 t.kind, fv], .int .i64 d] w fun e w' => e = .returned (.bool (rightTy d t)) ∧ Nw w w' := by
  intro d
  induction d with
  | zero =>
    intro _ fv t w g h
    have n1 := nw_alloc w (.cells #[.int .i64 t.kind, fv] tTy)
    go_enter Tryz.func106, Tryz.ntmps106
    go_wp2_with fail
    go_ret
    exact ⟨rfl, n1⟩
  | succ d ih =>
    intro hd fv t w g h
    have IH := Lib.hid (ih (by omega))
    clear ih
    have n1 := nw_alloc w (.cells #[.int .i64 t.kind, fv] tTy)
    have b1 := heap_new w (.cells #[.int .i64 t.kind, fv] tTy)
    have hd0 : (((d + 1 : Nat) : Int) == 0) = false := by simp; omega
    have hd1 : ((d + 1 : Nat) : Int) ≤ 4 := by omega
    have hk := h.kind
    have HT := Lib.hid h
    obtain ⟨a, cap, rfl, hm, hc⟩ := h.cells
    unfold maxLen at hm
    unfold I64 at hk
    have hm1 : (t.fs.length : Int) ≤ 9223372036854775807 := by omega
    have HC := Lib.hid hc
    have hN := Lib.hid n1
    have hB := Lib.hid b1
    clear h hc n1 b1
    obtain ⟨W, hW⟩ : ∃ W, W = w.alloc (.cells #[.int .i64 t.kind, .slice a t.fs.length cap] tTy) := ⟨_, rfl⟩
    rw [← hW] at hN hB
    have c0 : W.cell? ⟨w.heap.size, 0, none⟩ = some (.int .i64 t.kind) := by rw [cells_cell hB.out]; rfl
    have c1 : W.cell? ⟨w.heap.size, 1, none⟩ = some (.slice a t.fs.length cap) := by rw [cells_cell hB.out]; rfl
    by_cases h0 : t.kind < 0
    · have e : Hid (rightTy (d + 1) t = false) := rt_no (fun r => by have := r.k0; omega)
      have d0 : decide (t.kind < 0) = true := decide_eq_true h0
      clear h0
      go_enter Tryz.func106, Tryz.ntmps106
      go_upto_region 1 with fail
      rw [← hW]
      clear hW
      go_wp2_with fail
      go_ret
      exact ⟨by rw [e.out]; rfl, hN.out⟩
    have d0 : decide (t.kind < 0) = false := decide_eq_false h0
    by_cases h3 : (3 : Int) ≤ t.kind
    · have e : Hid (rightTy (d + 1) t = false) := rt_no (fun r => by have := r.k3; omega)
      have d3 : decide ((3 : Int) ≤ t.kind) = true := decide_eq_true h3
      clear h0 h3
      go_enter Tryz.func106, Tryz.ntmps106
      go_upto_region 1 with fail
      rw [← hW]
      clear hW
      go_wp2_with fail
      go_ret
      exact ⟨by rw [e.out]; rfl, hN.out⟩
    have d3 : decide ((3 : Int) ≤ t.kind) = false := decide_eq_false h3
    by_cases h8 : (8 : Int) < (t.fs.length : Nat)
    · have e : Hid (rightTy (d + 1) t = false) := rt_no (fun r => by have := r.len; omega)
      have d8 : decide ((8 : Int) < (t.fs.length : Nat)) = true := decide_eq_true h8
      clear h0 h3 h8
      go_enter Tryz.func106, Tryz.ntmps106
      go_upto_region 1 with fail
      rw [← hW]
      clear hW
      go_wp2_with fail
      go_ret
      exact ⟨by rw [e.out]; rfl, hN.out⟩
    have d8 : decide ((8 : Int) < (t.fs.length : Nat)) = false := decide_eq_false h8
    by_cases h2 : t.kind ≠ 2 ∧ t.fs ≠ []
    · have e : Hid (rightTy (d + 1) t = false) := rt_no (fun r => h2.2 (r.rec_ h2.1))
      have hpos : 0 < t.fs.length := List.length_pos_iff.2 h2.2
      have d2 : (t.kind == 2) = false := by simp; exact h2.1
      have d2' : (t.kind != 2) = true := by simp; exact h2.1
      have d5 : decide ((0 : Int) < (t.fs.length : Nat)) = true := decide_eq_true (by omega)
      clear h0 h3 h8 h2
      go_enter Tryz.func106, Tryz.ntmps106
      go_upto_region 1 with fail
      rw [← hW]
      clear hW
      go_wp2_with fail
      go_ret
      exact ⟨by rw [e.out]; rfl, hN.out⟩
    have hrec : t.kind ≠ 2 → t.fs = [] := fun hk => Classical.byContradiction fun hn => h2 ⟨hk, hn⟩
    have HDone : Hid (RtN d t t.fs.length → rightTy (d + 1) t = true) := rt_all (by omega) (by omega) (by omega) hrec
    have Hrec := Lib.hid hrec
    have hl8 : (t.fs.length : Int) ≤ 8 := by omega
    clear h0 h3 h8 h2 hrec hk
    have key : ∀ (d2 : Bool), (t.kind == 2) = d2 → (t.kind != 2) = !d2 → (d2 = false → decide ((0 : Int) < (t.fs.length : Nat)) = false ∧ decide (0 < t.fs.length) = false) → Calls Tryz.prog 106 #[.agg #[.int .i64 t.kind, .slice a t.fs.length cap], .int .i64 (d + 1 : Nat)] w fun e w' => e = .returned (.bool (rightTy (d + 1) t)) ∧ Nw w w' := by
      intro d2 e1 e2 e3
      go_enter Tryz.func106, Tryz.ntmps106
      go_upto_region 1 with fail
      rw [← hW]
      clear hW
      cases d2 with
      | true =>
        clear e3
        go_wp2_with fail
        go_loopw [39] (fun iv wr => ∃ n : Nat, n ≤ t.fs.length ∧ iv = .int .i64 (n : Int) ∧ Hid (RtN d t n) ∧ Hid (Nw W wr)) (fun iv _ => t.fs.length - (intOf iv).toNat)
        case atStart => exact ⟨0, Nat.zero_le _, rfl, fun i _ h => absurd h (Nat.not_lt_zero _), Upd.refl _ _⟩
        case round =>
          obtain ⟨n, hn, rfl, HA, U⟩ := hrel
          by_cases hlt : n < t.fs.length
          · have hlt1 : (n : Int) < t.fs.length := by omega
            rcases HC.out with hnil | ⟨b, off, rfl, hb, hcell⟩
            · rw [hnil] at hlt; simp at hlt
            obtain ⟨sv, p0, p1, p2, hty, hsl⟩ := hcell n hlt
            obtain ⟨sa, sc, hsv, -⟩ := hty.cells
            subst hsv
            have uw := hN.out.trans U.out
            have x0 := nw_cellF uw p0
            have x1 := nw_cellF uw p1
            have x2 := nw_cellF uw p2
            obtain ⟨wo, hwo, n0, hbx⟩ : ∃ z, z = wr.alloc (.cells #[.string ⟨(t.fs[n]).1.toArray⟩, .int .i64 (t.fs[n]).2.kind, .slice sa (t.fs[n]).2.fs.length sc] tFd) ∧ Nw wr z ∧ z.heap[wr.heap.size]? = some (.cells #[.string ⟨(t.fs[n]).1.toArray⟩, .int .i64 (t.fs[n]).2.kind, .slice sa (t.fs[n]).2.fs.length sc] tFd (0, 0)) := ⟨_, rfl, nw_alloc wr _, heap_new wr _⟩
            have UO := Lib.hid (U.out.trans n0)
            have hprev : ∀ k, n = k + 1 → ∀ y, Nw wo y → y.cell? ⟨b, off + k * 3, none⟩ = some (.string ⟨((t.fs[k]?).getD ([], Fm.noT)).1.toArray⟩) := fun k hk y u => by
              obtain ⟨sv', p0', _⟩ := hcell k (by omega)
              rw [List.getElem?_eq_getElem (by omega)]
              exact nw_cellF (hN.out.trans (UO.out.trans u)) p0'
            have hown : ∀ y, Nw wo y → y.cell? ⟨wr.heap.size, 0, none⟩ = some (.string ⟨(t.fs[n]).1.toArray⟩) ∧ y.cell? ⟨wr.heap.size, 1, none⟩ = some (.int .i64 (t.fs[n]).2.kind) ∧ y.cell? ⟨wr.heap.size, 2, none⟩ = some (.slice sa (t.fs[n]).2.fs.length sc) ∧ y.cell? ⟨w.heap.size, 1, none⟩ = some (.slice (some ⟨b, off, none⟩) t.fs.length cap) := fun y u => by
              have h := Nw.keep u hbx
              exact ⟨by rw [cells_cell h]; rfl, by rw [cells_cell h]; rfl, by rw [cells_cell h]; rfl, nw_cellF (UO.out.trans u) c1⟩
            have nd : Nw wo wo.drew := (Upd.refl _ _).drew
            have hnm := fun y (u : Nw wo y) => Name_c (t.fs[n]).1 hsl y (g.upd (hN.out.trans (UO.out.trans u)))
            have hrt := fun y (u : Nw wo y) => IH.out _ (t.fs[n]).2 y (g.upd (hN.out.trans (UO.out.trans u))) (hty.nw (hN.out.trans (UO.out.trans u)))
            have HB1 : Hid (nameB (t.fs[n]).1 = false → rightTy (d + 1) t = false) := rt_bad1 hlt
            have HB3 : Hid (rightTy d (t.fs[n]).2 = false → rightTy (d + 1) t = false) := rt_bad3 hlt
            have HWO := Lib.hid hwo
            have HNR := Lib.hid hN.out
            have HOwn := Lib.hid hown
            have HPrev := Lib.hid hprev
            have HNM := Lib.hid hnm
            have HRT := Lib.hid hrt
            clear hwo n0 hbx hprev hown hnm hrt uw p0 p1 p2 hty hsl
            go_upto_region 6 with fail
            rw [← HWO.out]
            clear HWO x0 x1 x2
            have l0 : ∀ i : Later wo, i.1.cell? ⟨wr.heap.size, 0, none⟩ = some (.string ⟨(t.fs[n]).1.toArray⟩) := fun i => (HOwn.out i.1 i.nw).1
            have l1 : ∀ i : Later wo, i.1.cell? ⟨wr.heap.size, 1, none⟩ = some (.int .i64 (t.fs[n]).2.kind) := fun i => (HOwn.out i.1 i.nw).2.1
            have l2 : ∀ i : Later wo, i.1.cell? ⟨wr.heap.size, 2, none⟩ = some (.slice sa (t.fs[n]).2.fs.length sc) := fun i => (HOwn.out i.1 i.nw).2.2.1
            have l3 : ∀ i : Later wo, i.1.cell? ⟨w.heap.size, 1, none⟩ = some (.slice (some ⟨b, off, none⟩) t.fs.length cap) := fun i => (HOwn.out i.1 i.nw).2.2.2
            cases n with
            | zero =>
              have HST : Hid (nameB (t.fs[0]).1 = true → rightTy d (t.fs[0]).2 = true → RtN d t 1) := fun h1 h2 => rtn_step HA.out hlt h1 h2 (fun hp => by omega)
              clear HPrev HA hcell HOwn
              generalize (t.fs[0]).1 = s at *
              generalize (t.fs[0]).2 = ft at *
              cases h1 : nameB s with
              | false =>
                have e9 := Lib.hid (HB1.out h1)
                rw [h1] at HNM
                clear HB1 HB3 h1 HST
                go_wp2_with fail
                refine wp_region_nw (by kernel_rfl) (by kernel_rfl) ?_
                repeat (go_big_quiet_step ((first | (go_at_call 60; exact later_call (HNM.out _ (Later.nw _))) | (go_at_call 106; exact later_call (HRT.out _ (Later.nw _))))))
                refine wpQuiet_nil ?_
                intro w3 u3
                replace u3 := later_out u3
                have U3 := Lib.hid (UO.out.trans u3)
                clear u3
                go_wp2_with fail
                go_ret
                exact ⟨by rw [e9.out]; rfl, HNR.out.trans U3.out⟩
              | true =>
                rw [h1] at HNM
                cases h3 : rightTy d ft with
                | false =>
                  have e9 := Lib.hid (HB3.out h3)
                  rw [h3] at HRT
                  clear HB1 HB3 h1 h3 HST
                  go_wp2_with fail
                  refine wp_region_nw (by kernel_rfl) (by kernel_rfl) ?_
                  repeat (go_big_quiet_step ((first | (go_at_call 60; exact later_call (HNM.out _ (Later.nw _))) | (go_at_call 106; exact later_call (HRT.out _ (Later.nw _))))))
                  refine wpQuiet_nil ?_
                  intro w3 u3
                  replace u3 := later_out u3
                  have U3 := Lib.hid (UO.out.trans u3)
                  clear u3
                  go_wp2_with fail
                  go_ret
                  exact ⟨by rw [e9.out]; rfl, HNR.out.trans U3.out⟩
                | true =>
                  have hz := Lib.hid (HST.out h1 h3)
                  rw [h3] at HRT
                  clear HB1 HB3 h1 h3 HST
                  go_wp2_with fail
                  refine wp_region_nw (by kernel_rfl) (by kernel_rfl) ?_
                  repeat (go_big_quiet_step ((first | (go_at_call 60; exact later_call (HNM.out _ (Later.nw _))) | (go_at_call 106; exact later_call (HRT.out _ (Later.nw _))))))
                  refine wpQuiet_nil ?_
                  intro w3 u3
                  replace u3 := later_out u3
                  have U3 := Lib.hid (UO.out.trans u3)
                  clear u3
                  go_wp2_with fail
                  go_roundw
                  case rel => exact ⟨1, by omega, by go_num, hz.out, U3.out⟩
                  case measure => simp [intOf]; omega
            | succ k =>
              have hk' : k < t.fs.length := by omega
              have HST : Hid (nameB (t.fs[k + 1]).1 = true → rightTy d (t.fs[k + 1]).2 = true → Op.bytesLess (t.fs[k]).1 (t.fs[k + 1]).1 = true → RtN d t (k + 1 + 1)) := fun h1 h2 h3 => rtn_step HA.out hlt h1 h2 (fun hp => h3)
              have HB2 : Hid (Op.bytesLess (t.fs[k]).1 (t.fs[k + 1]).1 = false → rightTy (d + 1) t = false) := rt_bad2 hlt
              have hpv := HPrev.out k rfl
              rw [List.getElem?_eq_getElem hk', Option.getD_some] at hpv
              have l4 : ∀ i : Later wo, i.1.cell? ⟨b, off + k * 3, none⟩ = some (.string ⟨(t.fs[k]).1.toArray⟩) := fun i => hpv i.1 i.nw
              have hk1 : (k : Int) < t.fs.length := by omega
              clear HPrev HA hcell HOwn hpv
              generalize (t.fs[k + 1]).1 = s at *
              generalize (t.fs[k + 1]).2 = ft at *
              generalize (t.fs[k]).1 = pv at *
              cases h1 : nameB s with
              | false =>
                have e9 := Lib.hid (HB1.out h1)
                rw [h1] at HNM
                clear HB1 HB2 HB3 h1 HST
                go_wp2_with fail
                refine wp_region_nw (by kernel_rfl) (by kernel_rfl) ?_
                repeat (go_big_quiet_step ((first | (go_at_call 60; exact later_call (HNM.out _ (Later.nw _))) | (go_at_call 106; exact later_call (HRT.out _ (Later.nw _))))))
                refine wpQuiet_nil ?_
                intro w3 u3
                replace u3 := later_out u3
                have U3 := Lib.hid (UO.out.trans u3)
                clear u3
                go_wp2_with fail
                go_ret
                exact ⟨by rw [e9.out]; rfl, HNR.out.trans U3.out⟩
              | true =>
                rw [h1] at HNM
                cases h2 : Op.bytesLess pv s with
                | false =>
                  have e9 := Lib.hid (HB2.out h2)
                  have hle := bl_yes h2
                  clear HB1 HB2 HB3 h1 h2 HST
                  go_wp2_with fail
                  refine wp_region_nw (by kernel_rfl) (by kernel_rfl) ?_
                  repeat (go_big_quiet_step ((first | (go_at_call 60; exact later_call (HNM.out _ (Later.nw _))) | (go_at_call 106; exact later_call (HRT.out _ (Later.nw _))))))
                  refine wpQuiet_nil ?_
                  intro w3 u3
                  replace u3 := later_out u3
                  have U3 := Lib.hid (UO.out.trans u3)
                  clear u3
                  go_wp2_with fail
                  go_ret
                  exact ⟨by rw [e9.out]; rfl, HNR.out.trans U3.out⟩
                | true =>
                obtain ⟨hn1, hn2⟩ := bl_no h2
                cases h3 : rightTy d ft with
                | false =>
                  have e9 := Lib.hid (HB3.out h3)
                  rw [h3] at HRT
                  clear HB1 HB2 HB3 h1 h3 HST h2
                  go_wp2_with fail
                  refine wp_region_nw (by kernel_rfl) (by kernel_rfl) ?_
                  repeat (go_big_quiet_step ((first | (go_at_call 60; exact later_call (HNM.out _ (Later.nw _))) | (go_at_call 106; exact later_call (HRT.out _ (Later.nw _))))))
                  refine wpQuiet_nil ?_
                  intro w3 u3
                  replace u3 := later_out u3
                  have U3 := Lib.hid (UO.out.trans u3)
                  clear u3
                  go_wp2_with fail
                  go_ret
                  exact ⟨by rw [e9.out]; rfl, HNR.out.trans U3.out⟩
                | true =>
                  have hz := Lib.hid (HST.out h1 h3 h2)
                  rw [h3] at HRT
                  clear HB1 HB2 HB3 h1 h3 HST h2
                  go_wp2_with fail
                  refine wp_region_nw (by kernel_rfl) (by kernel_rfl) ?_
                  repeat (go_big_quiet_step ((first | (go_at_call 60; exact later_call (HNM.out _ (Later.nw _))) | (go_at_call 106; exact later_call (HRT.out _ (Later.nw _))))))
                  refine wpQuiet_nil ?_
                  intro w3 u3
                  replace u3 := later_out u3
                  have U3 := Lib.hid (UO.out.trans u3)
                  clear u3
                  go_wp2_with fail
                  go_roundw
                  case rel => exact ⟨k + 1 + 1, by omega, by go_num, hz.out, U3.out⟩
                  case measure => simp [intOf]; omega
          · obtain rfl : n = t.fs.length := by omega
            have e9 := Lib.hid (HDone.out HA.out)
            go_wp2_with fail
            go_ret
            exact ⟨by rw [e9.out]; rfl, hN.out.trans U.out⟩
      | false =>
        obtain ⟨e3, e4⟩ := e3 rfl
        go_wp2_with fail
        go_loopw [39] (fun iv wr => ∃ n : Nat, n ≤ t.fs.length ∧ iv = .int .i64 (n : Int) ∧ Hid (RtN d t n) ∧ Hid (Nw W wr)) (fun iv _ => t.fs.length - (intOf iv).toNat)
        case atStart => exact ⟨0, Nat.zero_le _, rfl, fun i _ h => absurd h (Nat.not_lt_zero _), Upd.refl _ _⟩
        case round =>
          obtain ⟨n, hn, rfl, HA, U⟩ := hrel
          by_cases hlt : n < t.fs.length
          · have hlt1 : (n : Int) < t.fs.length := by omega
            rcases HC.out with hnil | ⟨b, off, rfl, hb, hcell⟩
            · rw [hnil] at hlt; simp at hlt
            obtain ⟨sv, p0, p1, p2, hty, hsl⟩ := hcell n hlt
            obtain ⟨sa, sc, hsv, -⟩ := hty.cells
            subst hsv
            have uw := hN.out.trans U.out
            have x0 := nw_cellF uw p0
            have x1 := nw_cellF uw p1
            have x2 := nw_cellF uw p2
            obtain ⟨wo, hwo, n0, hbx⟩ : ∃ z, z = wr.alloc (.cells #[.string ⟨(t.fs[n]).1.toArray⟩, .int .i64 (t.fs[n]).2.kind, .slice sa (t.fs[n]).2.fs.length sc] tFd) ∧ Nw wr z ∧ z.heap[wr.heap.size]? = some (.cells #[.string ⟨(t.fs[n]).1.toArray⟩, .int .i64 (t.fs[n]).2.kind, .slice sa (t.fs[n]).2.fs.length sc] tFd (0, 0)) := ⟨_, rfl, nw_alloc wr _, heap_new wr _⟩
            have UO := Lib.hid (U.out.trans n0)
            have hprev : ∀ k, n = k + 1 → ∀ y, Nw wo y → y.cell? ⟨b, off + k * 3, none⟩ = some (.string ⟨((t.fs[k]?).getD ([], Fm.noT)).1.toArray⟩) := fun k hk y u => by
              obtain ⟨sv', p0', _⟩ := hcell k (by omega)
              rw [List.getElem?_eq_getElem (by omega)]
              exact nw_cellF (hN.out.trans (UO.out.trans u)) p0'
            have hown : ∀ y, Nw wo y → y.cell? ⟨wr.heap.size, 0, none⟩ = some (.string ⟨(t.fs[n]).1.toArray⟩) ∧ y.cell? ⟨wr.heap.size, 1, none⟩ = some (.int .i64 (t.fs[n]).2.kind) ∧ y.cell? ⟨wr.heap.size, 2, none⟩ = some (.slice sa (t.fs[n]).2.fs.length sc) ∧ y.cell? ⟨w.heap.size, 1, none⟩ = some (.slice (some ⟨b, off, none⟩) t.fs.length cap) := fun y u => by
              have h := Nw.keep u hbx
              exact ⟨by rw [cells_cell h]; rfl, by rw [cells_cell h]; rfl, by rw [cells_cell h]; rfl, nw_cellF (UO.out.trans u) c1⟩
            have nd : Nw wo wo.drew := (Upd.refl _ _).drew
            have hnm := fun y (u : Nw wo y) => Name_c (t.fs[n]).1 hsl y (g.upd (hN.out.trans (UO.out.trans u)))
            have hrt := fun y (u : Nw wo y) => IH.out _ (t.fs[n]).2 y (g.upd (hN.out.trans (UO.out.trans u))) (hty.nw (hN.out.trans (UO.out.trans u)))
            have HB1 : Hid (nameB (t.fs[n]).1 = false → rightTy (d + 1) t = false) := rt_bad1 hlt
            have HB3 : Hid (rightTy d (t.fs[n]).2 = false → rightTy (d + 1) t = false) := rt_bad3 hlt
            have HWO := Lib.hid hwo
            have HNR := Lib.hid hN.out
            have HOwn := Lib.hid hown
            have HPrev := Lib.hid hprev
            have HNM := Lib.hid hnm
            have HRT := Lib.hid hrt
            clear hwo n0 hbx hprev hown hnm hrt uw p0 p1 p2 hty hsl
            go_upto_region 6 with fail
            rw [← HWO.out]
            clear HWO x0 x1 x2
            have l0 : ∀ i : Later wo, i.1.cell? ⟨wr.heap.size, 0, none⟩ = some (.string ⟨(t.fs[n]).1.toArray⟩) := fun i => (HOwn.out i.1 i.nw).1
            have l1 : ∀ i : Later wo, i.1.cell? ⟨wr.heap.size, 1, none⟩ = some (.int .i64 (t.fs[n]).2.kind) := fun i => (HOwn.out i.1 i.nw).2.1
            have l2 : ∀ i : Later wo, i.1.cell? ⟨wr.heap.size, 2, none⟩ = some (.slice sa (t.fs[n]).2.fs.length sc) := fun i => (HOwn.out i.1 i.nw).2.2.1
            have l3 : ∀ i : Later wo, i.1.cell? ⟨w.heap.size, 1, none⟩ = some (.slice (some ⟨b, off, none⟩) t.fs.length cap) := fun i => (HOwn.out i.1 i.nw).2.2.2
            cases n with
            | zero =>
              have HST : Hid (nameB (t.fs[0]).1 = true → rightTy d (t.fs[0]).2 = true → RtN d t 1) := fun h1 h2 => rtn_step HA.out hlt h1 h2 (fun hp => by omega)
              clear HPrev HA hcell HOwn
              generalize (t.fs[0]).1 = s at *
              generalize (t.fs[0]).2 = ft at *
              cases h1 : nameB s with
              | false =>
                have e9 := Lib.hid (HB1.out h1)
                rw [h1] at HNM
                clear HB1 HB3 h1 HST
                go_wp2_with fail
                refine wp_region_nw (by kernel_rfl) (by kernel_rfl) ?_
                repeat (go_big_quiet_step ((first | (go_at_call 60; exact later_call (HNM.out _ (Later.nw _))) | (go_at_call 106; exact later_call (HRT.out _ (Later.nw _))))))
                refine wpQuiet_nil ?_
                intro w3 u3
                replace u3 := later_out u3
                have U3 := Lib.hid (UO.out.trans u3)
                clear u3
                go_wp2_with fail
                go_ret
                exact ⟨by rw [e9.out]; rfl, HNR.out.trans U3.out⟩
              | true =>
                rw [h1] at HNM
                cases h3 : rightTy d ft with
                | false =>
                  have e9 := Lib.hid (HB3.out h3)
                  rw [h3] at HRT
                  clear HB1 HB3 h1 h3 HST
                  go_wp2_with fail
                  refine wp_region_nw (by kernel_rfl) (by kernel_rfl) ?_
                  repeat (go_big_quiet_step ((first | (go_at_call 60; exact later_call (HNM.out _ (Later.nw _))) | (go_at_call 106; exact later_call (HRT.out _ (Later.nw _))))))
                  refine wpQuiet_nil ?_
                  intro w3 u3
                  replace u3 := later_out u3
                  have U3 := Lib.hid (UO.out.trans u3)
                  clear u3
                  go_wp2_with fail
                  go_ret
                  exact ⟨by rw [e9.out]; rfl, HNR.out.trans U3.out⟩
                | true =>
                  have hz := Lib.hid (HST.out h1 h3)
                  rw [h3] at HRT
                  clear HB1 HB3 h1 h3 HST
                  go_wp2_with fail
                  refine wp_region_nw (by kernel_rfl) (by kernel_rfl) ?_
                  repeat (go_big_quiet_step ((first | (go_at_call 60; exact later_call (HNM.out _ (Later.nw _))) | (go_at_call 106; exact later_call (HRT.out _ (Later.nw _))))))
                  refine wpQuiet_nil ?_
                  intro w3 u3
                  replace u3 := later_out u3
                  have U3 := Lib.hid (UO.out.trans u3)
                  clear u3
                  go_wp2_with fail
                  go_roundw
                  case rel => exact ⟨1, by omega, by go_num, hz.out, U3.out⟩
                  case measure => simp [intOf]; omega
            | succ k =>
              have hk' : k < t.fs.length := by omega
              have HST : Hid (nameB (t.fs[k + 1]).1 = true → rightTy d (t.fs[k + 1]).2 = true → Op.bytesLess (t.fs[k]).1 (t.fs[k + 1]).1 = true → RtN d t (k + 1 + 1)) := fun h1 h2 h3 => rtn_step HA.out hlt h1 h2 (fun hp => h3)
              have HB2 : Hid (Op.bytesLess (t.fs[k]).1 (t.fs[k + 1]).1 = false → rightTy (d + 1) t = false) := rt_bad2 hlt
              have hpv := HPrev.out k rfl
              rw [List.getElem?_eq_getElem hk', Option.getD_some] at hpv
              have l4 : ∀ i : Later wo, i.1.cell? ⟨b, off + k * 3, none⟩ = some (.string ⟨(t.fs[k]).1.toArray⟩) := fun i => hpv i.1 i.nw
              have hk1 : (k : Int) < t.fs.length := by omega
              clear HPrev HA hcell HOwn hpv
              generalize (t.fs[k + 1]).1 = s at *
              generalize (t.fs[k + 1]).2 = ft at *
              generalize (t.fs[k]).1 = pv at *
              cases h1 : nameB s with
              | false =>
                have e9 := Lib.hid (HB1.out h1)
                rw [h1] at HNM
                clear HB1 HB2 HB3 h1 HST
                go_wp2_with fail
                refine wp_region_nw (by kernel_rfl) (by kernel_rfl) ?_
                repeat (go_big_quiet_step ((first | (go_at_call 60; exact later_call (HNM.out _ (Later.nw _))) | (go_at_call 106; exact later_call (HRT.out _ (Later.nw _))))))
                refine wpQuiet_nil ?_
                intro w3 u3
                replace u3 := later_out u3
                have U3 := Lib.hid (UO.out.trans u3)
                clear u3
                go_wp2_with fail
                go_ret
                exact ⟨by rw [e9.out]; rfl, HNR.out.trans U3.out⟩
              | true =>
                rw [h1] at HNM
                cases h2 : Op.bytesLess pv s with
                | false =>
                  have e9 := Lib.hid (HB2.out h2)
                  have hle := bl_yes h2
                  clear HB1 HB2 HB3 h1 h2 HST
                  go_wp2_with fail
                  refine wp_region_nw (by kernel_rfl) (by kernel_rfl) ?_
                  repeat (go_big_quiet_step ((first | (go_at_call 60; exact later_call (HNM.out _ (Later.nw _))) | (go_at_call 106; exact later_call (HRT.out _ (Later.nw _))))))
                  refine wpQuiet_nil ?_
                  intro w3 u3
                  replace u3 := later_out u3
                  have U3 := Lib.hid (UO.out.trans u3)
                  clear u3
                  go_wp2_with fail
                  go_ret
                  exact ⟨by rw [e9.out]; rfl, HNR.out.trans U3.out⟩
                | true =>
                obtain ⟨hn1, hn2⟩ := bl_no h2
                cases h3 : rightTy d ft with
                | false =>
                  have e9 := Lib.hid (HB3.out h3)
                  rw [h3] at HRT
                  clear HB1 HB2 HB3 h1 h3 HST h2
                  go_wp2_with fail
                  refine wp_region_nw (by kernel_rfl) (by kernel_rfl) ?_
                  repeat (go_big_quiet_step ((first | (go_at_call 60; exact later_call (HNM.out _ (Later.nw _))) | (go_at_call 106; exact later_call (HRT.out _ (Later.nw _))))))
                  refine wpQuiet_nil ?_
                  intro w3 u3
                  replace u3 := later_out u3
                  have U3 := Lib.hid (UO.out.trans u3)
                  clear u3
                  go_wp2_with fail
                  go_ret
                  exact ⟨by rw [e9.out]; rfl, HNR.out.trans U3.out⟩
                | true =>
                  have hz := Lib.hid (HST.out h1 h3 h2)
                  rw [h3] at HRT
                  clear HB1 HB2 HB3 h1 h3 HST h2
                  go_wp2_with fail
                  refine wp_region_nw (by kernel_rfl) (by kernel_rfl) ?_
                  repeat (go_big_quiet_step ((first | (go_at_call 60; exact later_call (HNM.out _ (Later.nw _))) | (go_at_call 106; exact later_call (HRT.out _ (Later.nw _))))))
                  refine wpQuiet_nil ?_
                  intro w3 u3
                  replace u3 := later_out u3
                  have U3 := Lib.hid (UO.out.trans u3)
                  clear u3
                  go_wp2_with fail
                  go_roundw
                  case rel => exact ⟨k + 1 + 1, by omega, by go_num, hz.out, U3.out⟩
                  case measure => simp [intOf]; omega
          · obtain rfl : n = t.fs.length := by omega
            have e9 := Lib.hid (HDone.out HA.out)
            go_wp2_with fail
            go_ret
            exact ⟨by rw [e9.out]; rfl, hN.out.trans U.out⟩
    by_cases hk2 : t.kind = 2
    · exact key true (by simp [hk2]) (by simp [hk2]) (fun h => by cases h)
    · have hn := Hrec.out hk2
      exact key false (by simp [hk2]) (by simp [hk2]) (fun _ => ⟨by rw [hn]; rfl, by rw [hn]; rfl⟩)
end Go.Proofs.YtjlgmoemnhmgmaaGreatDoor
