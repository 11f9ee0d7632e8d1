/- The walk of the reference's rest. -/
import Derived.Test.YtjlgmoemnhmgmaaGreatDoorPkWTells41
namespace Go.Proofs.YtjlgmoemnhmgmaaGreatDoor
open Go.RowKit
set_option linter.unusedVariables false
set_option linter.unusedSimpArgs false
attribute [local irreducible] Calls
open Fm (Ty Vl Str)
open Wv (Svc FL)
theorem ic_src {w : World} {a : Option Addr} {o : List Nat} (h : IC w a (o.map fun (n : Nat) => (n : Int))) : o.length = 0 ∨ ∃ ad, a = some ad ∧ ∀ j u, (o.map iN)[j]? = some u → w.cell? (ad.add j) = some u := by
  rcases h with h9 | ⟨b9, o9, e9, hb9, hc9⟩
  · exact Or.inl (by rw [List.map_eq_nil_iff.1 h9]; rfl)
  · refine Or.inr ⟨_, e9, fun j u hu => ?_⟩
    have hj := (List.getElem?_eq_some_iff.1 hu).1
    rw [List.length_map] at hj
    rw [add_plain, hc9 j (by rw [List.length_map]; exact hj), List.getElem_map]
    rw [List.getElem?_map, List.getElem?_eq_getElem hj] at hu
    simpa [iN] using hu
set_option maxHeartbeats 32000000 in
set_option maxRecDepth 100000 in
theorem rest_r (oa na ra ha : Option Addr) (oc nc rc hc : Nat) (f : FL) (quota : Int) (holds : List Int) (W0 : World) (g0 : Gm W0) (h0 : FlAt W0 oa na ra oc nc f) (hs : Sm f) (hr : Wv.right f = true) (hrl : f.runs.length ≤ 8) (ho4 : f.old.length ≤ 4)
    (hq : 1 ≤ quota) (hq2 : quota ≤ 9223372036854775807) (hhc : IC W0 ha holds) (hhl : holds.length ≤ 10) :
    ∀ (n : Nat) (o : List Nat) (wa ca : Option Addr) (wc cc : Nat) (w : World), Nw W0 w → o.length + n ≤ 5 → (Wv.leftO f o).length < n → WvC w wa (Wv.wavesOf f quota holds o) → IC w ca (o.map fun (n : Nat) => (n : Int)) →
    Calls Tryz.prog 41 #[.agg #[.slice oa f.old.length oc, .slice na f.new.length nc, .slice ra f.runs.length rc], .slice wa (Wv.wavesOf f quota holds o).length wc, .slice ca o.length cc, .int .i64 quota, .slice ha holds.length hc] w (RestR w (restRes f quota holds (Wv.refP f quota holds n o))) := by
  intro n
  induction n with
  | zero => intro o wa ca wc cc w u hon hlf; omega
  | succ n ih =>
    intro o wa ca wc cc w u0 hon hlf hwv hic
    have n1 := nw_alloc w (.cells #[.slice oa f.old.length oc, .slice na f.new.length nc, .slice ra f.runs.length rc] tFl)
    have b1 := heap_new w (.cells #[.slice oa f.old.length oc, .slice na f.new.length nc, .slice ra f.runs.length rc] tFl)
    obtain ⟨W, hW⟩ : ∃ z, z = w.alloc (.cells #[.slice oa f.old.length oc, .slice na f.new.length nc, .slice ra f.runs.length rc] tFl) := ⟨_, rfl⟩
    rw [← hW] at n1 b1
    have HW := Lib.hid hW
    have HNW := Lib.hid n1
    have HU0 := Lib.hid (u0.trans n1)
    have HX : Hid (∀ y, Nw W y → y.cell? ⟨w.heap.size, 0, none⟩ = some (.slice oa f.old.length oc) ∧ y.cell? ⟨w.heap.size, 1, none⟩ = some (.slice na f.new.length nc) ∧ y.cell? ⟨w.heap.size, 2, none⟩ = some (.slice ra f.runs.length rc)) := fun y u => ⟨by rw [cells_cell (Nw.keep u b1)]; rfl, by rw [cells_cell (Nw.keep u b1)]; rfl, by rw [cells_cell (Nw.keep u b1)]; rfl⟩
    have HF : Hid (∀ y, Nw W y → FlAt y oa na ra oc nc f) := fun y u => h0.nw (HU0.out.trans u)
    have HG : Hid (∀ y, Nw W y → Gm y) := fun y u => g0.upd (HU0.out.trans u)
    have HHO : Hid (∀ y, Nw W y → IC y ha holds) := fun y u => IC.nw hhc (HU0.out.trans u)
    have HWV : Hid (∀ y, Nw W y → WvC y wa (Wv.wavesOf f quota holds o)) := fun y u => WvC.nw hwv (n1.trans u)
    have HCH : Hid (∀ y, Nw W y → IC y ca (o.map fun (n : Nat) => (n : Int))) := fun y u => IC.nw hic (n1.trans u)
    have HSM := Lib.hid hs
    have HRG := Lib.hid (Wv.rg_of hr)
    have HGW : Hid (nG ≤ W.heap.size ∧ w.heap.size ≤ W.heap.size) := ⟨(HG.out W (Upd.refl _ _)).g.big, n1.size⟩
    have HSZ : Hid (f.runs.length ≤ 8 ∧ f.old.length ≤ 4 ∧ holds.length ≤ 10 ∧ o.length + (n + 1) ≤ 5) := ⟨hrl, ho4, hhl, hon⟩
    have HQ : Hid (1 ≤ quota ∧ quota ≤ 9223372036854775807) := ⟨hq, hq2⟩
    have HOL : Hid (o.length ≤ 5) := by show _ ≤ _; omega
    have HWL : Hid ((Wv.wavesOf f quota holds o).length ≤ 40) := by
      show _ ≤ _
      have h1 := Wv.wavesOf_le f quota holds o
      have h2 : o.length * f.runs.length ≤ 5 * 8 := Nat.mul_le_mul (by omega) hrl
      omega
    have HIH : Hid (∀ (o : List Nat) (wa ca : Option Addr) (wc cc : Nat) (y : World), Nw W y → o.length + n ≤ 5 → (Wv.leftO f o).length < n → WvC y wa (Wv.wavesOf f quota holds o) → IC y ca (o.map fun (n : Nat) => (n : Int)) → Calls Tryz.prog 41 #[.agg #[.slice oa f.old.length oc, .slice na f.new.length nc, .slice ra f.runs.length rc], .slice wa (Wv.wavesOf f quota holds o).length wc, .slice ca o.length cc, .int .i64 quota, .slice ha holds.length hc] y (RestR y (restRes f quota holds (Wv.refP f quota holds n o)))) := fun o wa ca wc cc y u a b c d => ih o wa ca wc cc y (HU0.out.trans u) a b c d
    have hrun : Hid (Calls Tryz.prog 13 #[.agg #[.slice oa f.old.length oc, .slice na f.new.length nc, .slice ra f.runs.length rc], .slice wa (Wv.wavesOf f quota holds o).length wc, .int .i64 quota, .slice ha holds.length hc] W (RunD W (Wv.runF f (Wv.wavesOf f quota holds o) quota holds))) := Run_r oa na ra wa ha oc nc rc wc hc f (Wv.wavesOf f quota holds o) quota holds W (HG.out W (Upd.refl _ _)) (HF.out W (Upd.refl _ _)) hs (by omega) (HWV.out W (Upd.refl _ _)) (by have := HWL.out; omega) (fun x hx => by have := Wv.wavesOf_ms hq hx; omega) (HHO.out W (Upd.refl _ _)) (by omega)
    have HLFT : Hid ((Wv.leftO f o).length < n + 1) := hlf
    obtain ⟨rg, hrg⟩ : ∃ r, r = Wv.runF f (Wv.wavesOf f quota holds o) quota holds := ⟨_, rfl⟩
    rw [← hrg] at hrun
    have hok : Wv.okO f quota holds o = decide (rg.2 = 0) := by rw [hrg]; rfl
    have HOK := Lib.hid hok
    unfold RunD at hrun
    obtain ⟨mm, c⟩ := rg
    dsimp only at hrun
    obtain ⟨x0, x1, x2⟩ := HX.out W (Upd.refl _ _)
    have ho41 : (f.old.length : Int) ≤ 4 := by omega
    clear n1 b1 hW u0 ih hwv hic hok hrg hon hlf hrl hhl hq hq2
    go_enter Tryz.func41, Tryz.ntmps41
    go_upto_region 1 with fail
    rw [← HW.out]
    clear HW
    by_cases hc0 : c = 0
    rotate_left
    · have hcb : (c != 0) = true := by simpa using hc0
      have HRN : Hid (Wv.refP f quota holds (n + 1) o = none) := Wv.refP_bad (by rw [HOK.out]; exact decide_eq_false hc0)
      clear hc0
      go_wp2_with fail
      (with_reducible refine (hrun.out).mono ?_)
      rintro _ w2 ⟨v2, rfl, o2, u2⟩
      have U2 := Lib.hid (HNW.out.trans u2)
      clear u2 o2
      go_wp2_with fail
      refine bodyPost_ret (restr_results _ _) rfl ?_
      rw [HRN.out]
      exact ⟨none, 0, rfl, Or.inl rfl, U2.out⟩
    subst hc0
    have HOK2 : Hid (Wv.okO f quota holds o = true) := by show _ = _; rw [HOK.out]; rfl
    go_wp2_with fail
    (with_reducible refine (hrun.out).mono ?_)
    rintro _ w2 ⟨v2, rfl, o2, u2⟩
    obtain ⟨ma2, mc2, rfl⟩ := own_slW o2
    have U2 := Lib.hid u2
    clear u2 o2 hrun x0 x1 x2 HOK
    go_wp2_with fail
    go_loopw [14, 15] (fun av sv wr => ∃ s : Nat, s ≤ f.old.length ∧ sv = .int .i64 (s : Int) ∧ av = .bool (Wv.noneTo f o s) ∧ Hid (∀ j, j < s → Wv.stepR f quota holds n o j = none) ∧ Hid (Nw W wr)) (fun av sv _ => f.old.length - (intOf sv).toNat)
    case atStart => exact ⟨0, Nat.zero_le _, rfl, rfl, (fun j hj => by omega), U2.out⟩
    case round =>
      obtain ⟨s, hs4, rfl, rfl, HNS, HU⟩ := hrel
      obtain ⟨wr0, hwr0⟩ : ∃ y, y = wr := ⟨_, rfl⟩
      subst hwr0
      obtain ⟨x0, x1, x2⟩ := HX.out wr0 HU.out
      by_cases hsl : s < f.old.length
      · have hsl1 : (s : Int) < f.old.length := by omega
        have hs9 : (s : Int) ≤ 4 := by omega
        have hhc1 : Hid (Calls Tryz.prog 20 #[.slice ca o.length cc, .int .i64 (s : Int)] wr0 fun e w' => e = .returned (.bool (decide (s ∈ o))) ∧ Nw wr0 w') := by
          have := has_ic ca cc (o.map fun (n : Nat) => (n : Int)) (s : Int) wr0 (HCH.out wr0 HU.out) (by rw [List.length_map]; have := HOL.out; unfold maxLen; omega)
          rw [List.length_map] at this
          have e : decide ((s : Int) ∈ o.map fun (n : Nat) => (n : Int)) = decide (s ∈ o) := by
            apply Bool.eq_iff_iff.2
            rw [decide_eq_true_iff, decide_eq_true_iff, List.mem_map]
            exact ⟨fun ⟨x, hx, e⟩ => (show x = s by omega) ▸ hx, fun h => ⟨s, h, rfl⟩⟩
          rw [e] at this
          exact this
        have HH2 : Hid (∀ y, Nw W y → Calls Tryz.prog 20 #[.slice ra f.runs.length rc, .int .i64 (s : Int)] y fun e w' => e = .returned (.bool ((Wv.allBits f).testBit s)) ∧ Nw y w') := fun y u => by
          have := has_ic ra rc f.runs (s : Int) y (HF.out y u).runs (HF.out y u).lr
          rw [Wv.used_runs HRG.out] at this
          exact this
        have HNT := Lib.hid (Wv.noneTo_succ f o s)
        have HST : Hid (Wv.stepR f quota holds n o s = if ((Wv.allBits f).testBit s && !decide (s ∈ o)) = true then Wv.refP f quota holds n (o ++ [s]) else none) := rfl
        have HNX : Hid (Wv.stepR f quota holds n o s = none → ∀ j, j < s + 1 → Wv.stepR f quota holds n o j = none) := fun e j hj => by
          by_cases ej : j = s
          · subst ej; exact e
          · exact HNS.out j (by omega)
        have HIN : Hid ((Wv.allBits f).testBit s = true → ¬ s ∈ o → (Wv.leftO f (o ++ [s])).length < n) := fun h1 h2 => by
          have hm : s ∈ Wv.leftO f o := Wv.left_mem.2 ⟨hsl, h1, h2⟩
          obtain ⟨i, hi, e⟩ := List.mem_iff_getElem.1 hm
          have h3 := Wv.left_erase hi
          rw [e] at h3
          rw [← h3, List.length_eraseIdx_of_lt hi]
          have := HLFT.out
          omega
        have HHITS : Hid (∀ x, Wv.stepR f quota holds n o s = some x → Wv.refP f quota holds (n + 1) o = some x) := fun x hx => Wv.refP_hit HOK2.out hsl HNS.out hx
        generalize Wv.noneTo f o s = al at *
        cases hmo : decide (s ∈ o) with
        | true =>
          rw [hmo] at hhc1 HST HNT
          have hr9 := Lib.hid (HNX.out (by rw [HST.out]; simp))
          have hn9 : Wv.noneTo f o (s + 1) = al := by rw [HNT.out]; simp
          have HN9 := Lib.hid hn9
          clear hmo hn9
          go_wp2_with fail
          (with_reducible refine (hhc1.out).mono ?_)
          rintro _ w3 ⟨rfl, u3⟩
          have HU3 := Lib.hid (HU.out.trans u3)
          clear u3
          go_wp2_with fail
          go_roundw
          case rel => exact ⟨s + 1, by omega, by go_num, by rw [HN9.out], hr9, HU3⟩
          case measure => simp [intOf]; omega
        | false =>
        rw [hmo] at hhc1 HST HNT
        have HSO : Hid (¬ s ∈ o) := of_decide_eq_false hmo
        clear hmo
        cases hub : (Wv.allBits f).testBit s with
        | false =>
          rw [hub] at HH2 HST HNT
          have hr9 := Lib.hid (HNX.out (by rw [HST.out]; simp))
          have hn9 : Wv.noneTo f o (s + 1) = al := by rw [HNT.out]; simp
          have HN9 := Lib.hid hn9
          clear hub hn9
          go_wp2_with fail
          (with_reducible refine (hhc1.out).mono ?_)
          rintro _ w3 ⟨rfl, u3⟩
          have HU3 := Lib.hid (HU.out.trans u3)
          have hh2 := Lib.hid (HH2.out w3 HU3.out)
          clear u3 x0 x1 x2
          obtain ⟨x0, x1, x2⟩ := HX.out w3 HU3.out
          go_wp2_with fail
          (with_reducible refine (hh2.out).mono ?_)
          rintro _ w4 ⟨rfl, u4⟩
          have HU4 := Lib.hid (HU3.out.trans u4)
          clear u4
          go_wp2_with fail
          go_roundw
          case rel => exact ⟨s + 1, by omega, by go_num, by rw [HN9.out], hr9, HU4⟩
          case measure => simp [intOf]; omega
        | true =>
        rw [hub] at HH2 HST HNT
        have HLF := Lib.hid (HIN.out hub HSO.out)
        have hn9 : Wv.noneTo f o (s + 1) = false := by rw [HNT.out]; simp
        have HALN := Lib.hid hn9
        have HST2 : Hid (Wv.stepR f quota holds n o s = Wv.refP f quota holds n (o ++ [s])) := by show _ = _; rw [HST.out]; rfl
        have HHIT : Hid (∀ x, Wv.refP f quota holds n (o ++ [s]) = some x → Wv.refP f quota holds (n + 1) o = some x) := fun x hx => HHITS.out x (by rw [HST2.out]; exact hx)
        have HMISS : Hid (Wv.refP f quota holds n (o ++ [s]) = none → ∀ j, j < s + 1 → Wv.stepR f quota holds n o j = none) := fun hx => HNX.out (by rw [HST2.out]; exact hx)
        have HOL2 : Hid ((o ++ [s]).length + n ≤ 5) := by show _ ≤ _; rw [List.length_append, List.length_singleton]; have := HSZ.out; omega
        clear hub hn9 HNT HST HNX HHITS HIN HNS
        obtain ⟨o2, ho2⟩ : ∃ x, x = o ++ [s] := ⟨_, rfl⟩
        rw [← ho2] at HLF HHIT HMISS HOL2
        have HO2 := Lib.hid ho2
        clear ho2 HST2
        go_wp2_with fail
        (with_reducible refine (hhc1.out).mono ?_)
        rintro _ w3 ⟨rfl, u3⟩
        have HU3 := Lib.hid (HU.out.trans u3)
        have hh2 := Lib.hid (HH2.out w3 HU3.out)
        clear u3 x0 x1 x2
        obtain ⟨x0, x1, x2⟩ := HX.out w3 HU3.out
        go_wp2_with fail
        (with_reducible refine (hh2.out).mono ?_)
        rintro _ w4 ⟨rfl, u4⟩
        have HU4 := Lib.hid (HU3.out.trans u4)
        clear u4 x0 x1 x2 hh2 HH2 hhc1
        go_upto_region 10 with fail
        obtain ⟨we, hwe⟩ : ∃ z, z = w4.drew := ⟨_, rfl⟩
        have HWE : Hid (Nw w4 we) := by rw [hwe]; exact (Upd.refl _ w4).drew
        have HUE := Lib.hid (HU4.out.trans HWE.out)
        have HXS : Hid (∀ y, Nw W y → y.cell? ⟨w.heap.size, 0, none⟩ = some (.slice oa f.old.length oc) ∧ y.cell? ⟨w.heap.size, 1, none⟩ = some (.slice na f.new.length nc) ∧ y.cell? ⟨w.heap.size, 2, none⟩ = some (.slice ra f.runs.length rc)) := HX.out
        have HS0 := Lib.hid (HXS.out we HUE.out)
        refine wp_region_G (fun y => y.cell? ⟨w.heap.size, 0, none⟩ = some (.slice oa f.old.length oc) ∧ y.cell? ⟨w.heap.size, 1, none⟩ = some (.slice na f.new.length nc) ∧ y.cell? ⟨w.heap.size, 2, none⟩ = some (.slice ra f.runs.length rc)) 9 (by kernel_rfl) ?_
        rw [← hwe]
        clear hwe
        refine wpAnyG_pure (i := 1) (v := ?_) rfl (by kernel_rfl) (by kernel_rfl) (by kernel_rfl) (by kernel_rfl) (by kernel_rfl) (fun _ _ _ h => h) (by kernel_rfl) ?_ (fun _ => HS0.out) ?_
        rotate_left 1
        · (intro zz; go_simp; first | done | with_reducible rfl)
        (try simp only [Act.put, List.setIfInBounds_toArray, List.set_cons_zero, List.set_cons_succ])
        refine wpAnyG_load (i := 3) (v := ?_) [] rfl (by kernel_rfl) (by kernel_rfl) (by kernel_rfl) (by kernel_rfl) (by kernel_rfl) (by kernel_rfl) (fun _ _ _ h => h) (by kernel_rfl) ?_ (fun _ => HS0.out) ?_
        rotate_left 1
        · (intro zz hS; obtain ⟨_, _, _⟩ := hS; go_simp; first | done | with_reducible rfl)
        (try simp only [Act.put, List.setIfInBounds_toArray, List.set_cons_zero, List.set_cons_succ])
        refine wpAnyG_pure (i := 4) (v := ?_) rfl (by kernel_rfl) (by kernel_rfl) (by kernel_rfl) (by kernel_rfl) (by kernel_rfl) (fun _ _ _ h => h) (by kernel_rfl) ?_ (fun _ => HS0.out) ?_
        rotate_left 1
        · (intro zz; go_simp; first | done | with_reducible rfl)
        (try simp only [Act.put, List.setIfInBounds_toArray, List.set_cons_zero, List.set_cons_succ])
        refine wpAnyG_pure (i := 5) (v := ?_) rfl (by kernel_rfl) (by kernel_rfl) (by kernel_rfl) (by kernel_rfl) (by kernel_rfl) (fun _ _ _ h => h) (by kernel_rfl) ?_ (fun _ => HS0.out) ?_
        rotate_left 1
        · (intro zz; go_simp; first | done | with_reducible rfl)
        (try simp only [Act.put, List.setIfInBounds_toArray, List.set_cons_zero, List.set_cons_succ])
        refine wpAnyG_pure (i := 6) (v := ?_) rfl (by kernel_rfl) (by kernel_rfl) (by kernel_rfl) (by kernel_rfl) (by kernel_rfl) (fun _ _ _ h => h) (by kernel_rfl) ?_ (fun _ => HS0.out) ?_
        rotate_left 1
        · (intro zz; go_simp; first | done | with_reducible rfl)
        (try simp only [Act.put, List.setIfInBounds_toArray, List.set_cons_zero, List.set_cons_succ])
        refine wpAnyG_ready [0] (by kernel_rfl) (by simp) ?_
        refine AllG.cons rfl (fun K hK => ?_) AllG.nil
        have n0 := nw_alloc we (.cells #[] tWv)
        have oe := owns_empty we tWv 2
        go_simp
        refine hK.out _ _ (fun _ => HXS.out _ (HUE.out.trans n0)) ?_
        clear hK K
        (try simp only [Act.put, List.setIfInBounds_toArray, List.set_cons_zero, List.set_cons_succ])
        refine wpAnyG_ready [2] (by kernel_rfl) (by simp) ?_
        refine AllG.cons rfl (fun K hK => ?_) AllG.nil
        have hgd : nG ≤ we.heap.size := Nat.le_trans HGW.out.1 HUE.out.size
        obtain ⟨C1, hC1, hC1i, hC1s0⟩ := (HWV.out we HUE.out).list
        have hC1s : C1.length = 0 ∨ ∃ ad, wa = some ad ∧ ∀ j u, (C1.map wvc).flatten[j]? = some u → (we.alloc (.cells #[] tWv)).cell? (ad.add j) = some u := hC1s0.imp id (fun ⟨ad, e, hc⟩ => ⟨ad, e, fun j u hu => nw_cellF n0 (hc j u hu)⟩)
        have HC1L : Hid ((Wv.wavesOf f quota holds o).length = C1.length) := by show _ = _; rw [← hC1, List.length_map]
        have hC1b : C1.length ≤ 40 := by rw [← HC1L.out]; exact HWL.out
        have hC1s2 : (Wv.wavesOf f quota holds o).length = 0 ∨ ∃ ad, wa = some ad ∧ ∀ j u, (C1.map wvc).flatten[j]? = some u → (we.alloc (.cells #[] tWv)).cell? (ad.add j) = some u := by rw [HC1L.out]; exact hC1s
        have hC1b2 : (Wv.wavesOf f quota holds o).length ≤ 40 := HWL.out
        refine step_catS rfl _ _ 27 rfl tWv _ 2 32 Tryz.underlying27 infoWvW rfl (by decide) we.heap.size n0.size hgd (.slice (some ⟨we.heap.size, 0, none⟩) 0 0) 0 [] rfl oe wa (Wv.wavesOf f quota holds o).length wc (C1.map wvc).flatten rfl (by rw [cwl_len, HC1L.out]) hC1s2 wvc_one (by unfold maxLen; omega) (by omega) ?_
        intro v5 w5 o5 u5
        simp only [Nat.zero_add, List.nil_append] at o5 ⊢
        rw [HC1L.out] at o5
        have n5 : Nw we w5 := n0.trans' u5 (S := fun _ => False) (fun j (hj : j < we.heap.size) e => by show False; have e2 := Option.some.inj (show some we.heap.size = some j from e); omega)
        obtain ⟨a5, c5, rfl⟩ := own_slW o5
        have HU5 := Lib.hid (HUE.out.trans n5)
        have hone : Hid (Calls Tryz.prog 22 #[.agg #[.slice oa f.old.length oc, .slice na f.new.length nc, .slice ra f.runs.length rc], .int .i64 (s : Int), .int .i64 quota, .slice ha holds.length hc] w5 fun e w' => ∃ v', e = .returned v' ∧ Hid (WvO w5.heap.size w' v' (Wv.oneF f s quota holds) ∧ Nw w5 w')) := One_c oa na ra ha oc nc rc hc f s quota holds w5 (Nat.le_trans HGW.out.1 HU5.out.size) (HF.out w5 HU5.out) HRG.out (by omega) HQ.out.1 HQ.out.2 (HHO.out w5 HU5.out) (by have := HSZ.out; omega)
        refine hK.out _ _ (fun _ => HXS.out _ HU5.out) ?_
        clear hK K
        (try simp only [Act.put, List.setIfInBounds_toArray, List.set_cons_zero, List.set_cons_succ])
        refine wpAnyG_ready [7] (by kernel_rfl) (by simp) ?_
        refine AllG.cons rfl (fun K hK => ?_) AllG.nil
        go_simp
        (with_reducible refine (hone.out).mono ?_)
        rintro _ w6 ⟨v6, rfl, H6⟩
        have HU6 := Lib.hid (HU5.out.trans H6.out.2)
        refine hK.out _ _ (fun _ => HXS.out _ HU6.out) ?_
        clear hK K
        (try simp only [Act.put, List.setIfInBounds_toArray, List.set_cons_zero, List.set_cons_succ])
        obtain ⟨C2, hD1, hD2, hD3⟩ := H6.out.1
        obtain ⟨a6, c6, rfl⟩ := own_slW hD2
        have HD1L : Hid ((Wv.oneF f s quota holds).length = C2.length) := by show _ = _; rw [← hD1, List.length_map]
        have hD2b : C2.length ≤ 8 := by rw [← HD1L.out]; have := Wv.oneF_len f s quota holds; have := HSZ.out; omega
        refine wpAnyG_ready [8] (by kernel_rfl) (by simp) ?_
        refine AllG.cons rfl (fun K hK => ?_) AllG.nil
        have o56 := owns_upd' o5 H6.out.2 (fun _ _ e => e)
        refine step_catS rfl _ _ 27 rfl tWv _ 2 32 Tryz.underlying27 infoWvW rfl (by decide) we.heap.size (n5.trans H6.out.2).size hgd (.slice a5 C1.length c5) C1.length _ rfl o56 a6 C2.length c6 (C2.map wvc).flatten rfl (by rw [cwl_len]) (own_row_src hD2) wvc_one (by unfold maxLen; omega) (by omega) ?_
        intro v7 w7 o7 u7
        have n7 : Nw we w7 := (n5.trans H6.out.2).trans' u7 (S := fun _ => False) (fun j (hj : j < we.heap.size) e => by show False; have := (o56.lt j e).1; omega)
        have hfl : (C1.map wvc).flatten ++ (C2.map wvc).flatten = ((C1 ++ C2).map wvc).flatten := by rw [List.map_append, List.flatten_append]
        have hcl : C1.length + C2.length = (C1 ++ C2).length := by rw [List.length_append]
        have hwm : (C1 ++ C2).map (·.2.2) = Wv.wavesOf f quota holds o2 := by rw [List.map_append, hC1, hD1, HO2.out, Wv.wavesOf_snoc]
        have hwml : (C1 ++ C2).length = (Wv.wavesOf f quota holds o2).length := by rw [← hwm, List.length_map]
        rw [hfl, hcl] at o7
        obtain ⟨ma, mc, rfl⟩ := own_slW o7
        have hmw : WvC w7 ma (Wv.wavesOf f quota holds o2) := by
          rw [← hwm]
          refine wvC_of_own rfl o7 (fun c hc => ?_)
          rcases List.mem_append.1 hc with hc | hc
          · exact ⟨IC.nw (hC1i c hc).1 n7, (hC1i c hc).2⟩
          · have h1 := cw_upd (hD3 c hc) u7 (fun k hk e => by
              obtain ⟨_, c1, q1⟩ := own_block (hD3 c hc).1 hk
              obtain ⟨_, c2, q2⟩ := own_block o56 e
              rw [q1] at q2
              injection q2 with q2
              injection q2 with _ q2
              exact absurd q2 (by decide))
            exact ⟨ic_of_own h1.1, by have := h1.2; unfold maxLen; omega⟩
        rw [hwml]
        have HMWE := Lib.hid hmw
        have HU7 := Lib.hid (HUE.out.trans n7)
        refine hK.out _ _ (fun _ => HXS.out _ HU7.out) ?_
        clear hK K
        (try simp only [Act.put, List.setIfInBounds_toArray, List.set_cons_zero, List.set_cons_succ])
        clear n0 oe o5 u5 n5 H6 hD1 hD2 hD3 o56 o7 u7 n7 hfl hcl hwm hwml hmw hC1 hC1i hC1s hC1s0 hC1s2 hC1b2 HC1L hC1b hgd hone
        refine wpAnyG_ready [9] (by kernel_rfl) (by simp) ?_
        refine AllG.cons rfl (fun K hK => ?_) AllG.nil
        go_simp
        refine hK.out _ _ (fun e => absurd (show true = false from e) (by decide)) ?_
        clear hK K
        (try simp only [Act.put, List.setIfInBounds_toArray, List.set_cons_zero, List.set_cons_succ])
        refine wpAnyG_done (by kernel_rfl) ?_ _
        obtain ⟨wd, hwd⟩ : ∃ z, z = w7.drew := ⟨_, rfl⟩
        have HWD : Hid (Nw w7 wd) := by rw [hwd]; exact (Upd.refl _ w7).drew
        have HUD := Lib.hid (HU7.out.trans HWD.out)
        have HMW := Lib.hid (WvC.nw HMWE.out HWD.out)
        have HGD : Hid (nG ≤ wd.heap.size) := Nat.le_trans HGW.out.1 HUD.out.size
        clear HS0
        have HS0 := Lib.hid (HXS.out wd HUD.out)
        go_upto_region 11 with fail
        refine wp_region_G (fun y => y.cell? ⟨w.heap.size, 0, none⟩ = some (.slice oa f.old.length oc) ∧ y.cell? ⟨w.heap.size, 1, none⟩ = some (.slice na f.new.length nc) ∧ y.cell? ⟨w.heap.size, 2, none⟩ = some (.slice ra f.runs.length rc)) 14 (by kernel_rfl) ?_
        rw [← hwd]
        clear hwd
        refine wpAnyG_load (i := 0) (v := ?_) [] rfl (by kernel_rfl) (by kernel_rfl) (by kernel_rfl) (by kernel_rfl) (by kernel_rfl) (by kernel_rfl) (fun _ _ _ h => h) (by kernel_rfl) ?_ (fun _ => HS0.out) ?_
        rotate_left 1
        · (intro zz hS; obtain ⟨_, _, _⟩ := hS; go_simp; first | done | with_reducible rfl)
        (try simp only [Act.put, List.setIfInBounds_toArray, List.set_cons_zero, List.set_cons_succ])
        refine wpAnyG_pure (i := 1) (v := ?_) rfl (by kernel_rfl) (by kernel_rfl) (by kernel_rfl) (by kernel_rfl) (by kernel_rfl) (fun _ _ _ h => h) (by kernel_rfl) ?_ (fun _ => HS0.out) ?_
        rotate_left 1
        · (intro zz; go_simp; first | done | with_reducible rfl)
        (try simp only [Act.put, List.setIfInBounds_toArray, List.set_cons_zero, List.set_cons_succ])
        refine wpAnyG_pure (i := 3) (v := ?_) rfl (by kernel_rfl) (by kernel_rfl) (by kernel_rfl) (by kernel_rfl) (by kernel_rfl) (fun _ _ _ h => h) (by kernel_rfl) ?_ (fun _ => HS0.out) ?_
        rotate_left 1
        · (intro zz; go_simp; first | done | with_reducible rfl)
        (try simp only [Act.put, List.setIfInBounds_toArray, List.set_cons_zero, List.set_cons_succ])
        refine wpAnyG_pure (i := 5) (v := ?_) rfl (by kernel_rfl) (by kernel_rfl) (by kernel_rfl) (by kernel_rfl) (by kernel_rfl) (fun _ _ _ h => h) (by kernel_rfl) ?_ (fun _ => HS0.out) ?_
        rotate_left 1
        · (intro zz; go_simp; first | done | with_reducible rfl)
        (try simp only [Act.put, List.setIfInBounds_toArray, List.set_cons_zero, List.set_cons_succ])
        refine wpAnyG_pure (i := 8) (v := ?_) rfl (by kernel_rfl) (by kernel_rfl) (by kernel_rfl) (by kernel_rfl) (by kernel_rfl) (fun _ _ _ h => h) (by kernel_rfl) ?_ (fun _ => HS0.out) ?_
        rotate_left 1
        · (intro zz; go_simp; first | done | with_reducible rfl)
        (try simp only [Act.put, List.setIfInBounds_toArray, List.set_cons_zero, List.set_cons_succ])
        refine wpAnyG_pure (i := 9) (v := ?_) rfl (by kernel_rfl) (by kernel_rfl) (by kernel_rfl) (by kernel_rfl) (by kernel_rfl) (fun _ _ _ h => h) (by kernel_rfl) ?_ (fun _ => HS0.out) ?_
        rotate_left 1
        · (intro zz; go_simp; first | done | with_reducible rfl)
        (try simp only [Act.put, List.setIfInBounds_toArray, List.set_cons_zero, List.set_cons_succ])
        have HCA : Hid (∀ y, Nw wd y → o.length = 0 ∨ ∃ ad, ca = some ad ∧ ∀ j u, (o.map iN)[j]? = some u → y.cell? (ad.add j) = some u) := fun y u => ic_src (HCH.out y (HUD.out.trans u))
        refine wpAnyG_ready [2, 6] (by kernel_rfl) (by simp) ?_
        refine AllG.cons rfl (fun K hK => ?_) (AllG.cons rfl (fun K hK => ?_) AllG.nil)
        · have n0 := nw_alloc wd (.cells #[] 3)
          have oe := owns_empty wd 3 1
          go_simp
          refine hK.out _ _ (fun _ => HXS.out _ (HUD.out.trans n0)) ?_
          clear hK K
          (try simp only [Act.put, List.setIfInBounds_toArray, List.set_cons_zero, List.set_cons_succ])
          refine wpAnyG_ready [4, 6] (by kernel_rfl) (by simp) ?_
          refine AllG.cons rfl (fun K hK => ?_) (AllG.cons rfl (fun K hK => ?_) AllG.nil)
          · -- number 4 at world (wd.alloc (.cells #[] 3)) (n0 : Nw wd (wd.alloc (.cells #[] 3))), the empty row at block wd.heap.size (oe)
            have hgd9 : nG ≤ wd.heap.size := HGD.out
            refine step_catS rfl _ _ 23 rfl 3 _ 1 8 Tryz.underlying23 infoIntW rfl (by decide) wd.heap.size (n0).size hgd9 (.slice (some ⟨wd.heap.size, 0, none⟩) 0 0) 0 [] rfl oe ca o.length cc (o.map iN) rfl (by rw [List.length_map]; omega) (HCA.out _ n0) (fun u hu => by obtain ⟨x, _, rfl⟩ := List.mem_map.1 hu; rfl) (by have := HOL.out; unfold maxLen; omega) (by have := HOL.out; omega) ?_
            intro v9 w9 o9 u9
            simp only [Nat.zero_add, List.nil_append] at o9 ⊢
            have n9 : Nw wd w9 := (n0).trans' u9 (S := fun _ => False) (fun j (hj : j < wd.heap.size) e => by show False; have e2 := Option.some.inj (show some (wd.heap.size) = some j from e); omega)
            obtain ⟨a60, c60, rfl⟩ := own_slW o9
            refine hK.out _ _ (fun _ => HXS.out _ (HUD.out.trans n9)) ?_
            clear hK K
            (try simp only [Act.put, List.setIfInBounds_toArray, List.set_cons_zero, List.set_cons_succ])
            obtain ⟨z, hz⟩ : ∃ z, z = w9.alloc (.cells #[.int .i64 (s : Int)] 3) := ⟨_, rfl⟩
            refine wpAnyG_ready [6] (by kernel_rfl) (by simp) ?_
            refine AllG.cons rfl (fun K hK => ?_) AllG.nil
            have ny := nw_alloc w9 (.cells #[.int .i64 (s : Int)] 3)
            have by1 := heap_new w9 (.cells #[.int .i64 (s : Int)] 3)
            have h60 := owns_upd' o9 ny (fun _ _ e => e)
            rw [← hz] at ny by1 h60
            have HZ := Lib.hid hz
            have HNY := Lib.hid (n9.trans ny)
            have H60 := Lib.hid h60
            have HC62 : Hid (z.cell? ⟨w9.heap.size, 0, none⟩ = some (.int .i64 (s : Int))) := by show _ = _; rw [cells_cell by1]; rfl
            have HXZ := Lib.hid (HXS.out _ (HUD.out.trans HNY.out))
            clear hz
            go_simp
            rw [← HZ.out]
            refine hK.out _ _ (fun _ => HXZ.out) ?_
            clear hK K
            (try simp only [Act.put, List.setIfInBounds_toArray, List.set_cons_zero, List.set_cons_succ])
            clear n0 oe o9 n9 ny by1 h60 HXZ HZ u9 hgd9
            obtain ⟨y, hy⟩ : ∃ y, y = z := ⟨_, rfl⟩
            subst hy
            -- world y, HNY : Hid (Nw wd y); the row H60 of t60 = .slice a60 o.length c60 (base wd.heap.size); HC62: the cell at block w9.heap.size
            have hsrc : 1 = 0 ∨ ∃ ad, some (⟨w9.heap.size, 0, none⟩ : Addr) = some ad ∧ ∀ j u, ([iN s] : List Value)[j]? = some u → y.cell? (ad.add j) = some u := Or.inr ⟨_, rfl, fun j u hu => by
              have hj : j = 0 := by have := (List.getElem?_eq_some_iff.1 hu).1; simpa using this
              subst hj
              rw [add_plain, HC62.out]
              simpa [iN] using hu⟩
            refine wpAnyG_ready [7] (by kernel_rfl) (by simp) ?_
            refine AllG.cons rfl (fun K hK => ?_) AllG.nil
            refine step_catS rfl _ _ 23 rfl 3 _ 1 8 Tryz.underlying23 infoIntW rfl (by decide) wd.heap.size HNY.out.size HGD.out (.slice a60 o.length c60) o.length (o.map iN) rfl H60.out (some ⟨w9.heap.size, 0, none⟩) 1 1 [iN s] rfl rfl hsrc (fun u hu => by rw [List.mem_singleton.1 hu]; rfl) (by have := HOL.out; unfold maxLen; omega) (by have := HOL.out; omega) ?_
            intro v7 w7 o7 u7
            have n7 : Nw wd w7 := HNY.out.trans' u7 (S := fun _ => False) (fun j (hj : j < wd.heap.size) e => by show False; have := (H60.out.lt j e).1; omega)
            have hol7 : o.length + 1 = o2.length := by rw [HO2.out, List.length_append]; rfl
            have hom7 : o.map iN ++ [iN s] = o2.map iN := by rw [HO2.out, List.map_append]; rfl
            rw [hol7, hom7] at o7
            obtain ⟨a7, c7, rfl⟩ := own_slW o7
            have HN7 := Lib.hid n7
            have HU7 := Lib.hid (HUD.out.trans n7)
            have HRC : Hid (Calls Tryz.prog 41 #[.agg #[.slice oa f.old.length oc, .slice na f.new.length nc, .slice ra f.runs.length rc], .slice ma (Wv.wavesOf f quota holds o2).length mc, .slice a7 o2.length c7, .int .i64 quota, .slice ha holds.length hc] w7 (RestR w7 (restRes f quota holds (Wv.refP f quota holds n o2)))) := HIH.out o2 ma a7 mc c7 w7 HU7.out HOL2.out HLF.out (WvC.nw HMW.out n7) (own_nats_ic rfl o7)
            refine hK.out _ _ (fun _ => HXS.out _ HU7.out) ?_
            clear hK K
            (try simp only [Act.put, List.setIfInBounds_toArray, List.set_cons_zero, List.set_cons_succ])
            clear n7 o7 u7 hsrc hol7 hom7
            unfold RestR at HRC
            refine wpAnyG_ready [10] (by kernel_rfl) (by simp) ?_
            refine AllG.cons rfl (fun K hK => ?_) AllG.nil
            go_simp
            (with_reducible refine (HRC.out).mono ?_)
            rintro _ w8 ⟨a8, c8, rfl, H8⟩
            refine hK.out _ _ (fun _ => HXS.out _ (HU7.out.trans H8.out.2)) ?_
            clear hK K
            (try simp only [Act.put, List.setIfInBounds_toArray, List.set_cons_zero, List.set_cons_succ])
            have HS8 := Lib.hid (HXS.out _ (HU7.out.trans H8.out.2))
            have HUW8 := Lib.hid (HU7.out.trans H8.out.2)
            refine wpAnyG_pure (i := 11) (v := ?_) rfl (by kernel_rfl) (by kernel_rfl) (by kernel_rfl) (by kernel_rfl) (by kernel_rfl) (fun _ _ _ h => h) (by kernel_rfl) ?_ (fun _ => HS8.out) ?_
            rotate_left 1
            · (intro zz; go_simp; first | done | with_reducible rfl)
            (try simp only [Act.put, List.setIfInBounds_toArray, List.set_cons_zero, List.set_cons_succ])
            refine wpAnyG_pure (i := 12) (v := ?_) rfl (by kernel_rfl) (by kernel_rfl) (by kernel_rfl) (by kernel_rfl) (by kernel_rfl) (fun _ _ _ h => h) (by kernel_rfl) ?_ (fun _ => HS8.out) ?_
            rotate_left 1
            · (intro zz; go_simp; first | done | with_reducible rfl)
            (try simp only [Act.put, List.setIfInBounds_toArray, List.set_cons_zero, List.set_cons_succ])
            refine wpAnyG_pure (i := 13) (v := ?_) rfl (by kernel_rfl) (by kernel_rfl) (by kernel_rfl) (by kernel_rfl) (by kernel_rfl) (fun _ _ _ h => h) (by kernel_rfl) ?_ (fun _ => HS8.out) ?_
            rotate_left 1
            · (intro zz; go_simp; first | done | with_reducible rfl)
            (try simp only [Act.put, List.setIfInBounds_toArray, List.set_cons_zero, List.set_cons_succ])
            refine wpAnyG_ready [14] (by kernel_rfl) (by simp) ?_
            refine AllG.cons rfl (fun K hK => ?_) AllG.nil
            go_simp
            refine hK.out _ _ (fun e => absurd (show true = false from e) (by decide)) ?_
            clear hK K
            (try simp only [Act.put, List.setIfInBounds_toArray, List.set_cons_zero, List.set_cons_succ])
            refine wpAnyG_ready [15] (by kernel_rfl) (by simp) ?_
            refine AllG.cons rfl (fun K hK => ?_) AllG.nil
            go_simp
            refine hK.out _ _ (fun e => absurd (show true = false from e) (by decide)) ?_
            clear hK K
            (try simp only [Act.put, List.setIfInBounds_toArray, List.set_cons_zero, List.set_cons_succ])
            refine wpAnyG_done (by kernel_rfl) ?_ _
            cases hrf : Wv.refP f quota holds n o2 with
            | some x =>
              have HFX := Lib.hid (HHIT.out x hrf)
              rw [hrf] at H8
              unfold restRes at H8 ⊢
              dsimp only at H8 ⊢
              clear hrf
              go_wp2_with fail
              refine bodyPost_ret (restr_results _ _) rfl ?_
              rw [HFX.out]
              exact ⟨a8, c8, rfl, H8.out.1, HNW.out.trans HUW8.out⟩
            | none =>
              have HNN := Lib.hid (HMISS.out hrf)
              unfold restRes
              dsimp only
              clear hrf H8
              go_wp2_with fail
              go_roundw
              case rel => exact ⟨s + 1, by omega, by go_num, by rw [HALN.out], HNN, HUW8⟩
              case measure => simp [intOf]; omega
          · obtain ⟨x1, hx1⟩ : ∃ z, z = wd.alloc (.cells #[] 3) := ⟨_, rfl⟩
            have hxs : x1.heap.size = wd.heap.size + 1 := by rw [hx1]; simp
            rw [← hx1] at n0 oe ⊢
            have HX1 := Lib.hid hx1
            clear hx1
            have n6 := nw_alloc x1 (.cells #[.int .i64 (s : Int)] 3)
            have b6 := heap_new x1 (.cells #[.int .i64 (s : Int)] 3)
            have oe6 := owns_upd' oe n6 (fun _ _ e => e)
            go_simp
            refine hK.out _ _ (fun _ => HXS.out _ (HUD.out.trans (n0.trans n6))) ?_
            clear hK K
            (try simp only [Act.put, List.setIfInBounds_toArray, List.set_cons_zero, List.set_cons_succ])
            refine wpAnyG_ready [4] (by kernel_rfl) (by simp) ?_
            refine AllG.cons rfl (fun K hK => ?_) AllG.nil
            -- number 4 at world (x1.alloc (.cells #[.int .i64 (s : Int)] 3)) ((n0.trans n6) : Nw wd (x1.alloc (.cells #[.int .i64 (s : Int)] 3))), the empty row at block wd.heap.size (oe6)
            have hgd9 : nG ≤ wd.heap.size := HGD.out
            refine step_catS rfl _ _ 23 rfl 3 _ 1 8 Tryz.underlying23 infoIntW rfl (by decide) wd.heap.size ((n0.trans n6)).size hgd9 (.slice (some ⟨wd.heap.size, 0, none⟩) 0 0) 0 [] rfl oe6 ca o.length cc (o.map iN) rfl (by rw [List.length_map]; omega) (HCA.out _ (n0.trans n6)) (fun u hu => by obtain ⟨x, _, rfl⟩ := List.mem_map.1 hu; rfl) (by have := HOL.out; unfold maxLen; omega) (by have := HOL.out; omega) ?_
            intro v9 w9 o9 u9
            simp only [Nat.zero_add, List.nil_append] at o9 ⊢
            have n9 : Nw wd w9 := ((n0.trans n6)).trans' u9 (S := fun _ => False) (fun j (hj : j < wd.heap.size) e => by show False; have e2 := Option.some.inj (show some (wd.heap.size) = some j from e); omega)
            obtain ⟨a60, c60, rfl⟩ := own_slW o9
            refine hK.out _ _ (fun _ => HXS.out _ (HUD.out.trans n9)) ?_
            clear hK K
            (try simp only [Act.put, List.setIfInBounds_toArray, List.set_cons_zero, List.set_cons_succ])
            have HC62 : Hid (w9.cell? ⟨wd.heap.size + 1, 0, none⟩ = some (.int .i64 (s : Int))) := by
              show _ = _
              rw [← hxs, cells_cell (u9.keep b6 (fun e => by have e2 := Option.some.inj (show some wd.heap.size = some x1.heap.size from e); omega))]; rfl
            have HNY := Lib.hid n9
            have H60 := Lib.hid o9
            clear n0 oe n6 b6 oe6 o9 u9 n9 HX1 hxs hgd9
            obtain ⟨y, hy⟩ : ∃ y, y = w9 := ⟨_, rfl⟩
            subst hy
            -- world y, HNY : Hid (Nw wd y); the row H60 of t60 = .slice a60 o.length c60 (base wd.heap.size); HC62: the cell at block (wd.heap.size + 1)
            have hsrc : 1 = 0 ∨ ∃ ad, some (⟨(wd.heap.size + 1), 0, none⟩ : Addr) = some ad ∧ ∀ j u, ([iN s] : List Value)[j]? = some u → y.cell? (ad.add j) = some u := Or.inr ⟨_, rfl, fun j u hu => by
              have hj : j = 0 := by have := (List.getElem?_eq_some_iff.1 hu).1; simpa using this
              subst hj
              rw [add_plain, HC62.out]
              simpa [iN] using hu⟩
            refine wpAnyG_ready [7] (by kernel_rfl) (by simp) ?_
            refine AllG.cons rfl (fun K hK => ?_) AllG.nil
            refine step_catS rfl _ _ 23 rfl 3 _ 1 8 Tryz.underlying23 infoIntW rfl (by decide) wd.heap.size HNY.out.size HGD.out (.slice a60 o.length c60) o.length (o.map iN) rfl H60.out (some ⟨(wd.heap.size + 1), 0, none⟩) 1 1 [iN s] rfl rfl hsrc (fun u hu => by rw [List.mem_singleton.1 hu]; rfl) (by have := HOL.out; unfold maxLen; omega) (by have := HOL.out; omega) ?_
            intro v7 w7 o7 u7
            have n7 : Nw wd w7 := HNY.out.trans' u7 (S := fun _ => False) (fun j (hj : j < wd.heap.size) e => by show False; have := (H60.out.lt j e).1; omega)
            have hol7 : o.length + 1 = o2.length := by rw [HO2.out, List.length_append]; rfl
            have hom7 : o.map iN ++ [iN s] = o2.map iN := by rw [HO2.out, List.map_append]; rfl
            rw [hol7, hom7] at o7
            obtain ⟨a7, c7, rfl⟩ := own_slW o7
            have HN7 := Lib.hid n7
            have HU7 := Lib.hid (HUD.out.trans n7)
            have HRC : Hid (Calls Tryz.prog 41 #[.agg #[.slice oa f.old.length oc, .slice na f.new.length nc, .slice ra f.runs.length rc], .slice ma (Wv.wavesOf f quota holds o2).length mc, .slice a7 o2.length c7, .int .i64 quota, .slice ha holds.length hc] w7 (RestR w7 (restRes f quota holds (Wv.refP f quota holds n o2)))) := HIH.out o2 ma a7 mc c7 w7 HU7.out HOL2.out HLF.out (WvC.nw HMW.out n7) (own_nats_ic rfl o7)
            refine hK.out _ _ (fun _ => HXS.out _ HU7.out) ?_
            clear hK K
            (try simp only [Act.put, List.setIfInBounds_toArray, List.set_cons_zero, List.set_cons_succ])
            clear n7 o7 u7 hsrc hol7 hom7
            unfold RestR at HRC
            refine wpAnyG_ready [10] (by kernel_rfl) (by simp) ?_
            refine AllG.cons rfl (fun K hK => ?_) AllG.nil
            go_simp
            (with_reducible refine (HRC.out).mono ?_)
            rintro _ w8 ⟨a8, c8, rfl, H8⟩
            refine hK.out _ _ (fun _ => HXS.out _ (HU7.out.trans H8.out.2)) ?_
            clear hK K
            (try simp only [Act.put, List.setIfInBounds_toArray, List.set_cons_zero, List.set_cons_succ])
            have HS8 := Lib.hid (HXS.out _ (HU7.out.trans H8.out.2))
            have HUW8 := Lib.hid (HU7.out.trans H8.out.2)
            refine wpAnyG_pure (i := 11) (v := ?_) rfl (by kernel_rfl) (by kernel_rfl) (by kernel_rfl) (by kernel_rfl) (by kernel_rfl) (fun _ _ _ h => h) (by kernel_rfl) ?_ (fun _ => HS8.out) ?_
            rotate_left 1
            · (intro zz; go_simp; first | done | with_reducible rfl)
            (try simp only [Act.put, List.setIfInBounds_toArray, List.set_cons_zero, List.set_cons_succ])
            refine wpAnyG_pure (i := 12) (v := ?_) rfl (by kernel_rfl) (by kernel_rfl) (by kernel_rfl) (by kernel_rfl) (by kernel_rfl) (fun _ _ _ h => h) (by kernel_rfl) ?_ (fun _ => HS8.out) ?_
            rotate_left 1
            · (intro zz; go_simp; first | done | with_reducible rfl)
            (try simp only [Act.put, List.setIfInBounds_toArray, List.set_cons_zero, List.set_cons_succ])
            refine wpAnyG_pure (i := 13) (v := ?_) rfl (by kernel_rfl) (by kernel_rfl) (by kernel_rfl) (by kernel_rfl) (by kernel_rfl) (fun _ _ _ h => h) (by kernel_rfl) ?_ (fun _ => HS8.out) ?_
            rotate_left 1
            · (intro zz; go_simp; first | done | with_reducible rfl)
            (try simp only [Act.put, List.setIfInBounds_toArray, List.set_cons_zero, List.set_cons_succ])
            refine wpAnyG_ready [14] (by kernel_rfl) (by simp) ?_
            refine AllG.cons rfl (fun K hK => ?_) AllG.nil
            go_simp
            refine hK.out _ _ (fun e => absurd (show true = false from e) (by decide)) ?_
            clear hK K
            (try simp only [Act.put, List.setIfInBounds_toArray, List.set_cons_zero, List.set_cons_succ])
            refine wpAnyG_ready [15] (by kernel_rfl) (by simp) ?_
            refine AllG.cons rfl (fun K hK => ?_) AllG.nil
            go_simp
            refine hK.out _ _ (fun e => absurd (show true = false from e) (by decide)) ?_
            clear hK K
            (try simp only [Act.put, List.setIfInBounds_toArray, List.set_cons_zero, List.set_cons_succ])
            refine wpAnyG_done (by kernel_rfl) ?_ _
            cases hrf : Wv.refP f quota holds n o2 with
            | some x =>
              have HFX := Lib.hid (HHIT.out x hrf)
              rw [hrf] at H8
              unfold restRes at H8 ⊢
              dsimp only at H8 ⊢
              clear hrf
              go_wp2_with fail
              refine bodyPost_ret (restr_results _ _) rfl ?_
              rw [HFX.out]
              exact ⟨a8, c8, rfl, H8.out.1, HNW.out.trans HUW8.out⟩
            | none =>
              have HNN := Lib.hid (HMISS.out hrf)
              unfold restRes
              dsimp only
              clear hrf H8
              go_wp2_with fail
              go_roundw
              case rel => exact ⟨s + 1, by omega, by go_num, by rw [HALN.out], HNN, HUW8⟩
              case measure => simp [intOf]; omega
        · obtain ⟨x1, hx1⟩ : ∃ z, z = wd.alloc (.cells #[.int .i64 (s : Int)] 3) := ⟨_, rfl⟩
          have n6 := nw_alloc wd (.cells #[.int .i64 (s : Int)] 3)
          have b6 := heap_new wd (.cells #[.int .i64 (s : Int)] 3)
          have hxs : x1.heap.size = wd.heap.size + 1 := by rw [hx1]; simp
          rw [← hx1] at n6 b6
          have HX1 := Lib.hid hx1
          go_simp
          rw [← HX1.out]
          refine hK.out _ _ (fun _ => HXS.out _ (HUD.out.trans n6)) ?_
          clear hK K
          (try simp only [Act.put, List.setIfInBounds_toArray, List.set_cons_zero, List.set_cons_succ])
          clear hx1 HX1
          refine wpAnyG_ready [2] (by kernel_rfl) (by simp) ?_
          refine AllG.cons rfl (fun K hK => ?_) AllG.nil
          have n0 := nw_alloc x1 (.cells #[] 3)
          have oe := owns_base (owns_empty x1 3 1) (show wd.heap.size ≤ x1.heap.size by omega)
          have b60 := Nw.keep n0 b6
          rw [hxs] at oe
          go_simp
          refine hK.out _ _ (fun _ => HXS.out _ (HUD.out.trans (n6.trans n0))) ?_
          clear hK K
          (try simp only [Act.put, List.setIfInBounds_toArray, List.set_cons_zero, List.set_cons_succ])
          refine wpAnyG_ready [4] (by kernel_rfl) (by simp) ?_
          refine AllG.cons rfl (fun K hK => ?_) AllG.nil
          -- number 4 at world (x1.alloc (.cells #[] 3)) ((n6.trans n0) : Nw wd (x1.alloc (.cells #[] 3))), the empty row at block (wd.heap.size + 1) (oe)
          have hgd9 : nG ≤ wd.heap.size := HGD.out
          refine step_catS rfl _ _ 23 rfl 3 _ 1 8 Tryz.underlying23 infoIntW rfl (by decide) wd.heap.size ((n6.trans n0)).size hgd9 (.slice (some ⟨(wd.heap.size + 1), 0, none⟩) 0 0) 0 [] rfl oe ca o.length cc (o.map iN) rfl (by rw [List.length_map]; omega) (HCA.out _ (n6.trans n0)) (fun u hu => by obtain ⟨x, _, rfl⟩ := List.mem_map.1 hu; rfl) (by have := HOL.out; unfold maxLen; omega) (by have := HOL.out; omega) ?_
          intro v9 w9 o9 u9
          simp only [Nat.zero_add, List.nil_append] at o9 ⊢
          have n9 : Nw wd w9 := ((n6.trans n0)).trans' u9 (S := fun _ => False) (fun j (hj : j < wd.heap.size) e => by show False; have e2 := Option.some.inj (show some ((wd.heap.size + 1)) = some j from e); omega)
          obtain ⟨a60, c60, rfl⟩ := own_slW o9
          refine hK.out _ _ (fun _ => HXS.out _ (HUD.out.trans n9)) ?_
          clear hK K
          (try simp only [Act.put, List.setIfInBounds_toArray, List.set_cons_zero, List.set_cons_succ])
          have HC62 : Hid (w9.cell? ⟨wd.heap.size, 0, none⟩ = some (.int .i64 (s : Int))) := by
            show _ = _
            rw [cells_cell (u9.keep b60 (fun e => by have e2 := Option.some.inj (show some (wd.heap.size + 1) = some wd.heap.size from e); omega))]; rfl
          have HNY := Lib.hid n9
          have H60 := Lib.hid o9
          clear n0 oe n6 b6 b60 o9 u9 n9 hxs hgd9
          obtain ⟨y, hy⟩ : ∃ y, y = w9 := ⟨_, rfl⟩
          subst hy
          -- world y, HNY : Hid (Nw wd y); the row H60 of t60 = .slice a60 o.length c60 (base wd.heap.size); HC62: the cell at block wd.heap.size
          have hsrc : 1 = 0 ∨ ∃ ad, some (⟨wd.heap.size, 0, none⟩ : Addr) = some ad ∧ ∀ j u, ([iN s] : List Value)[j]? = some u → y.cell? (ad.add j) = some u := Or.inr ⟨_, rfl, fun j u hu => by
            have hj : j = 0 := by have := (List.getElem?_eq_some_iff.1 hu).1; simpa using this
            subst hj
            rw [add_plain, HC62.out]
            simpa [iN] using hu⟩
          refine wpAnyG_ready [7] (by kernel_rfl) (by simp) ?_
          refine AllG.cons rfl (fun K hK => ?_) AllG.nil
          refine step_catS rfl _ _ 23 rfl 3 _ 1 8 Tryz.underlying23 infoIntW rfl (by decide) wd.heap.size HNY.out.size HGD.out (.slice a60 o.length c60) o.length (o.map iN) rfl H60.out (some ⟨wd.heap.size, 0, none⟩) 1 1 [iN s] rfl rfl hsrc (fun u hu => by rw [List.mem_singleton.1 hu]; rfl) (by have := HOL.out; unfold maxLen; omega) (by have := HOL.out; omega) ?_
          intro v7 w7 o7 u7
          have n7 : Nw wd w7 := HNY.out.trans' u7 (S := fun _ => False) (fun j (hj : j < wd.heap.size) e => by show False; have := (H60.out.lt j e).1; omega)
          have hol7 : o.length + 1 = o2.length := by rw [HO2.out, List.length_append]; rfl
          have hom7 : o.map iN ++ [iN s] = o2.map iN := by rw [HO2.out, List.map_append]; rfl
          rw [hol7, hom7] at o7
          obtain ⟨a7, c7, rfl⟩ := own_slW o7
          have HN7 := Lib.hid n7
          have HU7 := Lib.hid (HUD.out.trans n7)
          have HRC : Hid (Calls Tryz.prog 41 #[.agg #[.slice oa f.old.length oc, .slice na f.new.length nc, .slice ra f.runs.length rc], .slice ma (Wv.wavesOf f quota holds o2).length mc, .slice a7 o2.length c7, .int .i64 quota, .slice ha holds.length hc] w7 (RestR w7 (restRes f quota holds (Wv.refP f quota holds n o2)))) := HIH.out o2 ma a7 mc c7 w7 HU7.out HOL2.out HLF.out (WvC.nw HMW.out n7) (own_nats_ic rfl o7)
          refine hK.out _ _ (fun _ => HXS.out _ HU7.out) ?_
          clear hK K
          (try simp only [Act.put, List.setIfInBounds_toArray, List.set_cons_zero, List.set_cons_succ])
          clear n7 o7 u7 hsrc hol7 hom7
          unfold RestR at HRC
          refine wpAnyG_ready [10] (by kernel_rfl) (by simp) ?_
          refine AllG.cons rfl (fun K hK => ?_) AllG.nil
          go_simp
          (with_reducible refine (HRC.out).mono ?_)
          rintro _ w8 ⟨a8, c8, rfl, H8⟩
          refine hK.out _ _ (fun _ => HXS.out _ (HU7.out.trans H8.out.2)) ?_
          clear hK K
          (try simp only [Act.put, List.setIfInBounds_toArray, List.set_cons_zero, List.set_cons_succ])
          have HS8 := Lib.hid (HXS.out _ (HU7.out.trans H8.out.2))
          have HUW8 := Lib.hid (HU7.out.trans H8.out.2)
          refine wpAnyG_pure (i := 11) (v := ?_) rfl (by kernel_rfl) (by kernel_rfl) (by kernel_rfl) (by kernel_rfl) (by kernel_rfl) (fun _ _ _ h => h) (by kernel_rfl) ?_ (fun _ => HS8.out) ?_
          rotate_left 1
          · (intro zz; go_simp; first | done | with_reducible rfl)
          (try simp only [Act.put, List.setIfInBounds_toArray, List.set_cons_zero, List.set_cons_succ])
          refine wpAnyG_pure (i := 12) (v := ?_) rfl (by kernel_rfl) (by kernel_rfl) (by kernel_rfl) (by kernel_rfl) (by kernel_rfl) (fun _ _ _ h => h) (by kernel_rfl) ?_ (fun _ => HS8.out) ?_
          rotate_left 1
          · (intro zz; go_simp; first | done | with_reducible rfl)
          (try simp only [Act.put, List.setIfInBounds_toArray, List.set_cons_zero, List.set_cons_succ])
          refine wpAnyG_pure (i := 13) (v := ?_) rfl (by kernel_rfl) (by kernel_rfl) (by kernel_rfl) (by kernel_rfl) (by kernel_rfl) (fun _ _ _ h => h) (by kernel_rfl) ?_ (fun _ => HS8.out) ?_
          rotate_left 1
          · (intro zz; go_simp; first | done | with_reducible rfl)
          (try simp only [Act.put, List.setIfInBounds_toArray, List.set_cons_zero, List.set_cons_succ])
          refine wpAnyG_ready [14] (by kernel_rfl) (by simp) ?_
          refine AllG.cons rfl (fun K hK => ?_) AllG.nil
          go_simp
          refine hK.out _ _ (fun e => absurd (show true = false from e) (by decide)) ?_
          clear hK K
          (try simp only [Act.put, List.setIfInBounds_toArray, List.set_cons_zero, List.set_cons_succ])
          refine wpAnyG_ready [15] (by kernel_rfl) (by simp) ?_
          refine AllG.cons rfl (fun K hK => ?_) AllG.nil
          go_simp
          refine hK.out _ _ (fun e => absurd (show true = false from e) (by decide)) ?_
          clear hK K
          (try simp only [Act.put, List.setIfInBounds_toArray, List.set_cons_zero, List.set_cons_succ])
          refine wpAnyG_done (by kernel_rfl) ?_ _
          cases hrf : Wv.refP f quota holds n o2 with
          | some x =>
            have HFX := Lib.hid (HHIT.out x hrf)
            rw [hrf] at H8
            unfold restRes at H8 ⊢
            dsimp only at H8 ⊢
            clear hrf
            go_wp2_with fail
            refine bodyPost_ret (restr_results _ _) rfl ?_
            rw [HFX.out]
            exact ⟨a8, c8, rfl, H8.out.1, HNW.out.trans HUW8.out⟩
          | none =>
            have HNN := Lib.hid (HMISS.out hrf)
            unfold restRes
            dsimp only
            clear hrf H8
            go_wp2_with fail
            go_roundw
            case rel => exact ⟨s + 1, by omega, by go_num, by rw [HALN.out], HNN, HUW8⟩
            case measure => simp [intOf]; omega
      · obtain rfl : s = f.old.length := by omega
        have hsl1 : ¬ ((f.old.length : Nat) : Int) < f.old.length := by omega
        have HEND := Lib.hid (Wv.refP_end HOK2.out HNS.out)
        cases hal : Wv.noneTo f o f.old.length with
        | true =>
          rw [hal] at HEND
          have hrf : Wv.refP f quota holds (n + 1) o = some o := by rw [HEND.out]; rfl
          have HRF := Lib.hid hrf
          clear hal hrf
          go_wp2_with fail
          refine bodyPost_ret (restr_results _ _) rfl ?_
          rw [HRF.out]
          exact ⟨wa, wc, rfl, HWV.out _ HU.out, HNW.out.trans HU.out⟩
        | false =>
          rw [hal] at HEND
          have hrf : Wv.refP f quota holds (n + 1) o = none := by rw [HEND.out]; rfl
          have HRF := Lib.hid hrf
          clear hal hrf
          go_wp2_with fail
          refine bodyPost_ret (restr_results _ _) rfl ?_
          rw [HRF.out]
          exact ⟨none, 0, rfl, Or.inl rfl, HNW.out.trans HU.out⟩
end Go.Proofs.YtjlgmoemnhmgmaaGreatDoor
