/- The walk of WavePlan. -/
import Derived.Test.YtjlgmoemnhmgmaaGreatDoorPkWPlan33
import Derived.Test.YtjlgmoemnhmgmaaGreatDoorPkWPlan30
namespace Go.Proofs.YtjlgmoemnhmgmaaGreatDoor
open Go.RowKit
set_option linter.unusedVariables false
set_option linter.unusedSimpArgs false
attribute [local irreducible] Calls
open Fm (Ty Vl Str)
open Wv (Svc FL)

namespace Wv
def usedTo (f : FL) (n : Nat) : List Nat := (List.range n).filter fun s => (allBits f).testBit s
theorem usedTo_all (f : FL) : usedTo f f.old.length = usedL f := by
  unfold usedTo usedL leftO
  apply List.filter_congr
  intro s _
  simp
theorem usedTo_succ (f : FL) (n : Nat) : usedTo f (n + 1) = usedTo f n ++ if (allBits f).testBit n then [n] else [] := by
  unfold usedTo
  rw [List.range_succ, List.filter_append]
  cases h : (allBits f).testBit n with
  | true => simp [h]
  | false => simp [h]
theorem usedTo_le (f : FL) (n : Nat) : (usedTo f n).length ≤ n := Nat.le_trans (List.length_filter_le _ _) (by simp)
theorem used_runs {f : FL} (hr : Rg f) (s : Nat) : decide ((s : Int) ∈ f.runs) = (allBits f).testBit s := by
  apply Bool.eq_iff_iff.2
  rw [decide_eq_true_iff, used_iff]
  constructor
  · intro h
    obtain ⟨i, hi, e⟩ := List.mem_iff_getElem.1 h
    refine ⟨i, hi, ?_⟩
    have := (run_lt hr hi).2
    omega
  · rintro ⟨i, hi, e⟩
    have := (run_lt hr hi).2
    rw [e] at this
    rw [← this]
    exact List.getElem_mem hi
theorem find_first {L : List (List Nat)} {p : List Nat → Bool} {i : Nat} (hi : i < L.length) (hp : p L[i] = true) (hno : ∀ j (h : j < L.length), j < i → p L[j] = false) : L.find? p = some L[i] := by
  have e : L = L.take i ++ L[i] :: L.drop (i + 1) := by rw [← List.drop_eq_getElem_cons hi, List.take_append_drop]
  rw [List.find?_eq_some_iff_append]
  refine ⟨hp, L.take i, L.drop (i + 1), e, fun x hx => ?_⟩
  obtain ⟨j, hj, e2⟩ := List.mem_take_iff_getElem.1 hx
  rw [← e2, hno j (by omega) (by omega)]; rfl
theorem find_none {L : List (List Nat)} {p : List Nat → Bool} (hno : ∀ j (h : j < L.length), p L[j] = false) : L.find? p = none :=
  List.find?_eq_none.2 fun x hx => by
    obtain ⟨j, hj, e⟩ := List.mem_iff_getElem.1 hx
    rw [← e, hno j hj]; simp
def badTo (holds : List Int) (n : Nat) : Bool := (holds.take n).any holdB
theorem badTo_succ {holds : List Int} {n : Nat} (h : n < holds.length) : badTo holds (n + 1) = (badTo holds n || holdB holds[n]) := by
  unfold badTo
  rw [List.take_succ_eq_append_getElem h, List.any_append]; simp
theorem badTo_all (holds : List Int) : badTo holds holds.length = !holdsOk holds := by
  unfold badTo
  rw [List.take_length, holdsOk_eq]; simp
end Wv
/-- More waves behind those that there are. -/
theorem wvo_catU {B B2 : Nat} {w w9 : World} {v v' : Value} {C1 C2 : List CW} (hB : B ≤ B2) (h1 : w.ownsRow B tWv 2 v C1.length (C1.map wvc).flatten) (h3 : ∀ c ∈ C1, c.own B w) (k3 : ∀ c ∈ C2, c.own B2 w)
    (u9 : Upd (fun k => v.ownBlock = some k) w w9) (o9 : w9.ownsRow B tWv 2 v' (C1.length + C2.length) ((C1.map wvc).flatten ++ (C2.map wvc).flatten)) : WvO B w9 v' (C1.map (·.2.2) ++ C2.map (·.2.2)) := by
  have hne : ∀ c : CW, c.own B w → c.own B w9 := fun c hc => cw_upd hc u9 (fun k hk e => by
    obtain ⟨_, c1, q1⟩ := own_block hc.1 hk
    obtain ⟨_, c2, q2⟩ := own_block h1 e
    rw [q1] at q2
    injection q2 with q2
    injection q2 with _ q2
    exact absurd q2 (by decide))
  refine ⟨C1 ++ C2, by rw [List.map_append], by rw [List.length_append, List.map_append, List.flatten_append]; exact o9, fun c hc => ?_⟩
  rcases List.mem_append.1 hc with h | h
  · exact hne c (h3 c h)
  · exact hne c ⟨owns_base (k3 c h).1 hB, (k3 c h).2⟩
theorem WvO.lens {B : Nat} {w : World} {v : Value} {ws : List Wv.Wave} (h : WvO B w v ws) : ∀ x ∈ ws, x.ms.length ≤ 100000 := by
  obtain ⟨C, rfl, _, h2⟩ := h
  intro x hx
  obtain ⟨c, hc, rfl⟩ := List.mem_map.1 hx
  exact (h2 c hc).2
theorem own_row_src {B sz n cap : Nat} {e : TypeId} {w : World} {a : Option Addr} {xs : List Value} (h : w.ownsRow B e sz (.slice a n cap) n xs) : n = 0 ∨ ∃ ad, a = some ad ∧ ∀ j u, xs[j]? = some u → w.cell? (ad.add j) = some u := by
  rcases Nat.eq_zero_or_pos n with h0 | h0
  · exact Or.inl h0
  · obtain ⟨g, c, e1, _, _⟩ := h.form h0
    injection e1 with e2 e3 e4
    subst e2
    exact Or.inr ⟨_, rfl, fun j u hu => h.cells (g := g) rfl j u hu⟩
set_option maxHeartbeats 16000000 in
set_option maxRecDepth 100000 in
theorem wavePlan_c (oa na ra ha : Option Addr) (oc nc rc hc : Nat) (f : FL) (quota : Int) (holds : List Int) (w : World) (g : Gm w) (h : FlAt w oa na ra oc nc f)
    (hhc : IC w ha holds) (hhl : holds.length ≤ maxLen) (hq : I64 quota) :
    Calls Tryz.prog 4 #[.agg (flV oa na ra oc nc rc f), .int .i64 quota, .slice ha holds.length hc] w fun e w' => e = .returned (.bool true) ∧ Nw w w' := by
  unfold flV
  have n1 := nw_alloc w (.cells #[.slice oa f.old.length oc, .slice na f.new.length nc, .slice ra f.runs.length rc] tFl)
  have b1 := heap_new w (.cells #[.slice oa f.old.length oc, .slice na f.new.length nc, .slice ra f.runs.length rc] tFl)
  obtain ⟨W, hW⟩ : ∃ z, z = w.alloc (.cells #[.slice oa f.old.length oc, .slice na f.new.length nc, .slice ra f.runs.length rc] tFl) := ⟨_, rfl⟩
  rw [← hW] at n1 b1
  have HW := Lib.hid hW
  have HN := Lib.hid n1
  have HX : Hid (∀ y, Nw W y → y.cell? ⟨w.heap.size, 0, none⟩ = some (.slice oa f.old.length oc) ∧ y.cell? ⟨w.heap.size, 1, none⟩ = some (.slice na f.new.length nc) ∧ y.cell? ⟨w.heap.size, 2, none⟩ = some (.slice ra f.runs.length rc)) := fun y u => ⟨by rw [cells_cell (Nw.keep u b1)]; rfl, by rw [cells_cell (Nw.keep u b1)]; rfl, by rw [cells_cell (Nw.keep u b1)]; rfl⟩
  have HF : Hid (∀ y, Nw W y → FlAt y oa na ra oc nc f) := fun y u => h.nw (n1.trans u)
  have HG : Hid (∀ y, Nw W y → Gm y) := fun y u => g.upd (n1.trans u)
  have HHO : Hid (∀ y, Nw W y → IC y ha holds) := fun y u => IC.nw hhc (n1.trans u)
  have hs1 := Lib.hid (small_c W (g.upd n1))
  have HHL := Lib.hid hhl
  unfold I64 at hq
  unfold maxLen at hhl
  have hhl1 : (holds.length : Int) ≤ 9223372036854775807 := by omega
  clear n1 b1 hW h hhc g
  go_enter Tryz.func4, Tryz.ntmps4
  go_upto_region 1 with fail
  rw [← HW.out]
  clear HW
  go_wp2_with fail
  (with_reducible refine (hs1.out).mono ?_)
  rintro _ w2 ⟨rfl, u2⟩
  have U2 := Lib.hid u2
  have hf1 : Hid (Calls Tryz.prog 9 #[.agg #[.slice oa f.old.length oc, .slice na f.new.length nc, .slice ra f.runs.length rc], .slice none 0 0, .slice ha holds.length hc] w2 fun e w' => e = .returned (.bool (fewL f [] holds)) ∧ Nw w2 w') := few_c oa na ra none ha oc nc rc 0 hc f [] holds w2 (HF.out w2 u2) (Or.inl rfl) (Nat.zero_le _) HHL.out
  obtain ⟨x0, x1, x2⟩ := HX.out w2 u2
  clear u2 hs1
  cases hfe : fewL f [] holds with
  | false =>
    rw [hfe] at hf1
    clear hfe
    go_wp2_with fail
    (with_reducible refine (hf1.out).mono ?_)
    rintro _ w3 ⟨rfl, u3⟩
    have U3 := Lib.hid (HN.out.trans (U2.out.trans u3))
    clear u3
    go_wp2_with fail
    go_ret
    exact ⟨rfl, U3.out⟩
  | true =>
  rw [hfe] at hf1
  unfold fewL at hfe
  simp only [Bool.and_eq_true, decide_eq_true_eq] at hfe
  obtain ⟨⟨hfe1, hfe2⟩, hfe3⟩ := hfe
  obtain ⟨hsm, hrl8, ho4, hnn4⟩ := sm_few hfe1
  have HSM := Lib.hid hsm
  have HSZ : Hid (f.runs.length ≤ 8 ∧ f.old.length ≤ 4 ∧ f.new.length ≤ 4 ∧ holds.length ≤ 10) := ⟨hrl8, ho4, hnn4, hfe3⟩
  have hh10 : (holds.length : Int) ≤ 10 := by omega
  have ho41 : (f.old.length : Int) ≤ 4 := by omega
  clear hsm hrl8 hnn4 hfe1 hfe2 hfe3
  go_wp2_with fail
  (with_reducible refine (hf1.out).mono ?_)
  rintro _ w3 ⟨rfl, u3⟩
  have U3 := Lib.hid (U2.out.trans u3)
  clear u3 hf1 x0 x1 x2
  obtain ⟨x0, x1, x2⟩ := HX.out w3 U3.out
  have hr3 : Hid (Calls Tryz.prog 18 #[.agg #[.slice oa f.old.length oc, .slice na f.new.length nc, .slice ra f.runs.length rc]] w3 fun e w' => e = .returned (.bool (Wv.right f)) ∧ Nw w3 w') := wvRight_c oa na ra oc nc rc f w3 (HG.out w3 U3.out) (HF.out w3 U3.out) HSM.out.o HSM.out.n HSM.out.r HSM.out.so HSM.out.sn
  cases hrt : Wv.right f with
  | false =>
    rw [hrt] at hr3
    clear hrt
    go_wp2_with fail
    (with_reducible refine (hr3.out).mono ?_)
    rintro _ w4 ⟨rfl, u4⟩
    have U4 := Lib.hid (HN.out.trans (U3.out.trans u4))
    clear u4
    go_wp2_with fail
    go_ret
    exact ⟨rfl, U4.out⟩
  | true =>
  rw [hrt] at hr3
  have HRT := Lib.hid hrt
  have HRG := Lib.hid (Wv.rg_of hrt)
  clear hrt
  by_cases hq1 : quota < 1
  · go_wp2_with fail
    (with_reducible refine (hr3.out).mono ?_)
    rintro _ w4 ⟨rfl, u4⟩
    have U4 := Lib.hid (HN.out.trans (U3.out.trans u4))
    clear u4
    go_wp2_with fail
    go_ret
    exact ⟨rfl, U4.out⟩
  have HQ1 : Hid (1 ≤ quota ∧ quota ≤ 9223372036854775807) := by show _ ∧ _; omega
  go_wp2_with fail
  (with_reducible refine (hr3.out).mono ?_)
  rintro _ w4 ⟨rfl, u4⟩
  have U4 := Lib.hid (U3.out.trans u4)
  clear u4 hr3 x0 x1 x2
  have HO0 : Hid (w4.ownsRow w4.heap.size 3 1 (.slice none 0 0) (Wv.usedTo f 0).length ((Wv.usedTo f 0).map iN)) := World.ownsRow_nil _ _ _ _
  have HGB : Hid (nG ≤ w4.heap.size ∧ W.heap.size ≤ w4.heap.size) := ⟨Nat.le_trans (HG.out W (Upd.refl _ _)).g.big U4.out.size, U4.out.size⟩
  have HHAS : Hid (∀ y (s : Nat), Nw W y → Calls Tryz.prog 20 #[.slice ra f.runs.length rc, .int .i64 (s : Int)] y fun e w' => e = .returned (.bool ((Wv.allBits f).testBit s)) ∧ Nw y w') := fun y s u => by
    have := has_ic ra rc f.runs (s : Int) y (HF.out y u).runs (HF.out y u).lr
    rw [Wv.used_runs HRG.out] at this
    exact this
  go_wp2_with fail
  go_loopw [8, 9] (fun uv sv wr => ∃ s : Nat, s ≤ f.old.length ∧ sv = .int .i64 (s : Int) ∧ Hid (wr.ownsRow w4.heap.size 3 1 uv (Wv.usedTo f s).length ((Wv.usedTo f s).map iN)) ∧ Hid (w4.heap.size ≤ wr.heap.size) ∧ Hid (Nw W wr)) (fun uv sv _ => f.old.length - (intOf sv).toNat)
  case atStart => exact ⟨0, Nat.zero_le _, rfl, HO0.out, Nat.le_refl _, U4.out⟩
  case round =>
    obtain ⟨s, hs, rfl, HO, HZ, HU⟩ := hrel
    obtain ⟨ua, uc, rfl⟩ := own_slW HO.out
    obtain ⟨x0, x1, x2⟩ := HX.out wr HU.out
    by_cases hsl : s < f.old.length
    · have hsl1 : (s : Int) < f.old.length := by omega
      have hs9 : (s : Int) ≤ 4 := by omega
      have hha := Lib.hid (HHAS.out wr s HU.out)
      have HSU := Lib.hid (Wv.usedTo_succ f s)
      have hul : (Wv.usedTo f s).length ≤ 4 := Nat.le_trans (Wv.usedTo_le f s) (by omega)
      cases hb : (Wv.allBits f).testBit s with
      | false =>
        rw [hb] at hha HSU
        have hU9 : Wv.usedTo f (s + 1) = Wv.usedTo f s := by rw [HSU.out]; simp
        have HUE := Lib.hid hU9
        clear hb hU9
        go_wp2_with fail
        (with_reducible refine (hha.out).mono ?_)
        rintro _ w5 ⟨rfl, u5⟩
        have HU5 := Lib.hid (HU.out.trans u5)
        have HO5 : Hid (w5.ownsRow w4.heap.size 3 1 (.slice ua (Wv.usedTo f s).length uc) (Wv.usedTo f (s + 1)).length ((Wv.usedTo f (s + 1)).map iN)) := by rw [HUE.out]; exact owns_upd' HO.out u5 (fun _ _ e => e)
        have HZ5 : Hid (w4.heap.size ≤ w5.heap.size) := Nat.le_trans HZ.out u5.size
        clear u5
        go_wp2_with fail
        go_roundw
        case rel => exact ⟨s + 1, by omega, by go_num, HO5, HZ5, HU5⟩
        case measure => simp [intOf]; omega
      | true =>
        rw [hb] at hha HSU
        have hU9 : Wv.usedTo f (s + 1) = Wv.usedTo f s ++ [s] := by rw [HSU.out]; simp
        have HUE := Lib.hid hU9
        clear hb hU9
        go_wp2_with fail
        (with_reducible refine (hha.out).mono ?_)
        rintro _ w5 ⟨rfl, u5⟩
        have HU5 := Lib.hid (HU.out.trans u5)
        have HOB := Lib.hid HO.out
        have HO5 := Lib.hid (owns_upd' HO.out u5 (fun _ _ e => e))
        have hz : w4.heap.size ≤ w5.heap.size := Nat.le_trans HZ.out u5.size
        have hg1 : nG ≤ w4.heap.size := HGB.out.1
        clear u5
        go_wp2_with (at_builtin; refine wpList_appL rfl _ _ 23 rfl w4.heap.size 3 _ 1 8 Tryz.underlying23 infoIntW rfl (by decide) _ _ _ rfl HO5.out [.int .i64 (s : Int)] rfl rfl ?c1 ?c2 ?c3 hz hg1 ?_)
        case c1 => intro u hu; rw [List.mem_singleton.1 hu]; rfl
        case c2 => unfold maxLen; omega
        case c3 => omega
        intro v' w9 hown9 u9 hob
        have hfin : Hid (w9.ownsRow w4.heap.size 3 1 v' (Wv.usedTo f (s + 1)).length ((Wv.usedTo f (s + 1)).map iN)) := by
          show w9.ownsRow _ _ _ _ _ _
          rw [HUE.out, List.length_append, List.length_singleton, List.map_append]
          exact hown9
        have HU9 : Hid (Nw W w9) := HU5.out.trans' u9 (fun j hj e => by have := (own_block HO5.out e).1; have := HGB.out.2; show False; omega)
        have HZ9 : Hid (w4.heap.size ≤ w9.heap.size) := Nat.le_trans hz u9.size
        obtain ⟨a9, cap9, rfl⟩ := own_slW hfin.out
        clear hown9 u9 hob
        go_wp2_with fail
        go_roundw
        case rel => exact ⟨s + 1, by omega, by go_num, hfin, HZ9, HU9⟩
        case measure => simp [intOf]; omega
    · obtain rfl : s = f.old.length := by omega
      have hsl1 : ¬ ((f.old.length : Nat) : Int) < f.old.length := by omega
      have hO := HO.out
      rw [Wv.usedTo_all] at hO
      have HUS := Lib.hid hO
      have hul : (Wv.usedTo f f.old.length).length = (Wv.usedL f).length := by rw [Wv.usedTo_all]
      rw [hul]
      have hule : (Wv.usedL f).length ≤ 4 := by rw [← hul]; exact Nat.le_trans (Wv.usedTo_le f _) (by omega)
      clear hO hul HO
      have hpl := Lib.hid (Plan_c oa na ra ha oc nc rc hc f quota holds wr (HG.out wr HU.out) (HF.out wr HU.out) HSM.out (HHO.out wr HU.out) (by omega) HQ1.out.2)
      unfold PlanW flV at hpl
      obtain ⟨r, hr⟩ : ∃ r, r = Wv.planF f quota holds := ⟨_, rfl⟩
      rw [← hr] at hpl
      have HRR := Lib.hid hr
      clear hr
      obtain ⟨pw, c⟩ := r
      dsimp only at hpl
      go_wp2_with fail
      (with_reducible refine (hpl.out).mono ?_)
      rintro _ w5 ⟨v5, rfl, H5⟩
      obtain ⟨pa, pc, rfl⟩ := H5.out.1.sl
      have HP5 := Lib.hid H5.out.1
      have U5 := Lib.hid (HU.out.trans H5.out.2)
      have HUS5 := Lib.hid (owns_upd' HUS.out H5.out.2 (fun _ _ e => e))
      have HZ5 : Hid (w4.heap.size ≤ w5.heap.size) := Nat.le_trans HZ.out H5.out.2.size
      clear H5 hpl x0 x1 x2 HUS
      by_cases hc1 : c = 1
      · subst hc1
        have hho : Wv.holdsOk holds = false := by
          cases hh : Wv.holdsOk holds with
          | false => rfl
          | true =>
            have h1 := Wv.plan_first HRT.out HQ1.out.1 hh
            rw [← HRR.out] at h1
            exact absurd (congrArg Prod.snd h1).symm (Wv.planRes_code _ _ _ _)
        have hp0 : pw = [] := by
          have h1 := Wv.plan_bad HRT.out HQ1.out.1 hho
          rw [← HRR.out] at h1
          exact congrArg Prod.fst h1
        subst hp0
        have HHB : Hid (Wv.badTo holds holds.length = true) := by show _ = _; rw [Wv.badTo_all, hho]; rfl
        clear hho
        go_wp2_with fail
        go_loopw [12, 13] (fun bv iv wr => ∃ i : Nat, i ≤ holds.length ∧ iv = .int .i64 (i : Int) ∧ bv = .bool (Wv.badTo holds i) ∧ Hid (Nw W wr)) (fun bv iv _ => holds.length - (intOf iv).toNat)
        case atStart => exact ⟨0, Nat.zero_le _, rfl, rfl, U5.out⟩
        case round =>
          obtain ⟨i, hi, rfl, rfl, HUI⟩ := hrel
          by_cases hil : i < holds.length
          · have hil1 : (i : Int) < holds.length := by omega
            have hi9 : (i : Int) ≤ 10 := by omega
            have hi0 : decide ((i : Int) < 0) = false := decide_eq_false (by omega)
            rcases HHO.out wr HUI.out with hnil | ⟨hb, ho, rfl, hb2, hcell⟩
            · rw [hnil] at hil; simp at hil
            have z0 := hcell i hil
            have HBS := Lib.hid (Wv.badTo_succ hil)
            clear hcell
            generalize holds[i]'hil = x at *
            have HHX : Hid (holdB x = (decide (x < 0) || decide (1073741824 < x))) := rfl
            generalize Wv.badTo holds i = bb at *
            cases bb with
            | true =>
              go_wp2_with fail
              go_roundw
              case rel => exact ⟨i + 1, by omega, by go_num, by rw [HBS.out]; rfl, HUI⟩
              case measure => simp [intOf]; omega
            | false =>
              by_cases h1 : x < 0
              · go_wp2_with fail
                go_roundw
                case rel => exact ⟨i + 1, by omega, by go_num, by rw [HBS.out, HHX.out, decide_eq_true h1]; rfl, HUI⟩
                case measure => simp [intOf]; omega
              · by_cases h2 : 1073741824 < x
                · go_wp2_with fail
                  go_roundw
                  case rel => exact ⟨i + 1, by omega, by go_num, by rw [HBS.out, HHX.out, decide_eq_true h2]; simp, HUI⟩
                  case measure => simp [intOf]; omega
                · go_wp2_with fail
                  go_roundw
                  case rel => exact ⟨i + 1, by omega, by go_num, by rw [HBS.out, HHX.out, decide_eq_false h1, decide_eq_false h2]; rfl, HUI⟩
                  case measure => simp [intOf]; omega
          · obtain rfl : i = holds.length := by omega
            have hil1 : ¬ ((holds.length : Nat) : Int) < holds.length := by omega
            have hbb := HHB.out
            rw [hbb]
            clear hbb HHB
            go_wp2_with fail
            go_ret
            exact ⟨rfl, HN.out.trans HUI.out⟩
      have hho : Wv.holdsOk holds = true := by
        cases hh : Wv.holdsOk holds with
        | true => rfl
        | false =>
          have h1 := Wv.plan_bad HRT.out HQ1.out.1 hh
          rw [← HRR.out] at h1
          exact absurd (congrArg Prod.snd h1) hc1
      have hfst := Wv.plan_first HRT.out HQ1.out.1 hho
      rw [← HRR.out] at hfst
      have HFST := Lib.hid hfst
      have hcap := own_cap HUS5.out
      have hor := Lib.hid (orders_c (Wv.usedL f).length (Wv.usedL f) _ _ w5 (Nat.le_trans HGB.out.1 HZ5.out) (Nat.le_refl _) hule hcap.1 hcap.2 (own_nats_ic rfl HUS5.out))
      have HOL : Hid (∀ p ∈ Wv.ordersL (Wv.usedL f).length (Wv.usedL f), p.length ≤ 4 ∧ ∀ s ∈ p, s < f.old.length) := fun p hp => by
        refine ⟨by rw [Wv.orders_len _ _ (Nat.le_refl _) p hp]; exact hule, fun s hs => ?_⟩
        exact (Wv.left_mem.1 (Wv.orders_mem _ _ p hp s hs)).1
      have hLle := (Wv.orders_le (Wv.usedL f).length (Wv.usedL f) hule).1
      have hcb : (c == 1) = false := beq_eq_false_iff_ne.2 hc1
      generalize Wv.ordersL (Wv.usedL f).length (Wv.usedL f) = L at *
      clear hc1 hho hfst hcap HRR
      go_wp2_with fail
      (with_reducible refine (hor.out).mono ?_)
      rintro _ w6 ⟨v6, rfl, H6⟩
      obtain ⟨la, lc, rfl⟩ := H6.out.1.sl
      have HL6 := Lib.hid H6.out.1
      have U6 := Lib.hid (U5.out.trans H6.out.2)
      have HP6 := Lib.hid (HP5.out.nw H6.out.2)
      have HG6 : Hid (nG ≤ w6.heap.size ∧ W.heap.size ≤ w6.heap.size) := by have := HGB.out; have := HZ5.out; have := H6.out.2.size; show _ ∧ _; omega
      have hLl : (L.length : Int) ≤ 256 := by omega
      clear H6 hor HUS5 HP5 HZ5 hLle
      go_wp2_with fail
      go_loopw [15] (fun iv wr => ∃ i : Nat, i ≤ L.length ∧ iv = .int .i64 (i : Int) ∧ Hid (∀ j (h : j < L.length), j < i → Wv.okO f quota holds L[j] = false) ∧ Hid (Nw w6 wr)) (fun iv _ => L.length - (intOf iv).toNat)
      case atStart => exact ⟨0, Nat.zero_le _, rfl, (fun j h hj => by omega), Upd.refl _ _⟩
      case round =>
        obtain ⟨i, hi, rfl, HNO, HUI⟩ := hrel
        obtain ⟨wi, hwi⟩ : ∃ y, y = wr := ⟨_, rfl⟩
        subst hwi
        by_cases hil : i < L.length
        · have hil1 : (i : Int) < L.length := by omega
          have hi9 : (i : Int) ≤ 256 := by omega
          have hi0 : decide ((i : Int) < 0) = false := decide_eq_false (by omega)
          obtain ⟨lb, rra, rrc, rfl, hcl, hric⟩ := HL6.out.at_ hil
          obtain ⟨hp4, hpo⟩ := HOL.out _ (List.getElem_mem hil)
          have HPO := Lib.hid hpo
          have HNX : Hid (Wv.okO f quota holds L[i] = false → ∀ j (h : j < L.length), j < i + 1 → Wv.okO f quota holds L[j] = false) := fun e j h hj => by
            by_cases ej : j = i
            · subst ej; exact e
            · exact HNO.out j h (by omega)
          have HFD : Hid (Wv.okO f quota holds L[i] = true → (pw, c) = (Wv.wavesOf f quota holds L[i], 0)) := fun e => by
            have h1 := HFST.out
            rw [Wv.find_first hil e HNO.out] at h1
            exact h1
          have HCL : Hid (∀ y, Nw w6 y → y.cell? ⟨lb, i, none⟩ = some (.slice rra (L[i]).length rrc)) := fun y u => nw_cellF u hcl
          have HRI : Hid (∀ y, Nw w6 y → IC y rra ((L[i]).map fun (n : Nat) => (n : Int))) := fun y u => IC.nw hric u
          clear hpo hcl hric
          generalize L[i]'hil = o at *
          have hol : (o.length : Int) ≤ 4 := by omega
          have HO0 : Hid (WvO wi.heap.size wi (.slice none 0 0) (Wv.wavesOf f quota holds (o.take 0)) ∧ (Wv.wavesOf f quota holds (o.take 0)).length ≤ 0) := ⟨WvO.nil _ _, Nat.le_refl _⟩
          have y0 := HCL.out wi HUI.out
          go_wp2_with fail
          clear y0
          go_loopw [16, 17] (fun lv kv wr => ∃ k : Nat, k ≤ o.length ∧ kv = .int .i64 (k : Int) ∧ Hid (WvO wi.heap.size wr lv (Wv.wavesOf f quota holds (o.take k)) ∧ (Wv.wavesOf f quota holds (o.take k)).length ≤ 8 * k) ∧ Hid (Nw wi wr)) (fun lv kv _ => o.length - (intOf kv).toNat)
          case atStart => exact ⟨0, Nat.zero_le _, rfl, HO0.out, Upd.refl _ _⟩
          case round =>
            obtain ⟨k, hk, rfl, HO, HK⟩ := hrel
            obtain ⟨ka, kc, rfl⟩ := HO.out.1.sl
            have HUK := Lib.hid (HUI.out.trans HK.out)
            have y0 := HCL.out wr HUK.out
            by_cases hkl : k < o.length
            · have hkl1 : (k : Int) < o.length := by omega
              have hk9 : (k : Int) ≤ 4 := by omega
              have hk0 : decide ((k : Int) < 0) = false := decide_eq_false (by omega)
              obtain ⟨wk, hwk⟩ : ∃ y, y = wr := ⟨_, rfl⟩
              subst hwk
              have hs8 : o[k] < f.old.length := HPO.out _ (List.getElem_mem hkl)
              rcases HRI.out wk HUK.out with hnil | ⟨rb, ro, rfl, hrb, hrcell⟩
              · rw [List.map_eq_nil_iff] at hnil; rw [hnil] at hkl; simp at hkl
              have z0 := hrcell k (by rw [List.length_map]; exact hkl)
              rw [List.getElem_map] at z0
              have HWT := Lib.hid (Wv.wavesOf_take (f := f) (quota := quota) (holds := holds) hkl)
              have hlen1 := Wv.oneF_len f o[k] quota holds
              have HLN : Hid ((Wv.oneF f o[k] quota holds).length ≤ 8) := by show _ ≤ _; have := HSZ.out; omega
              clear hrcell hlen1
              generalize o[k]'hkl = s at *
              obtain ⟨wd, hwd⟩ : ∃ z, z = wk.drew := ⟨_, rfl⟩
              have HWD : Hid (Nw wk wd) := by rw [hwd]; exact (Upd.refl _ wk).drew
              have HUD := Lib.hid (U6.out.trans (HUK.out.trans HWD.out))
              have HS0 : Hid (wd.cell? ⟨w.heap.size, 0, none⟩ = some (.slice oa f.old.length oc) ∧ wd.cell? ⟨w.heap.size, 1, none⟩ = some (.slice na f.new.length nc) ∧ wd.cell? ⟨w.heap.size, 2, none⟩ = some (.slice ra f.runs.length rc) ∧ wd.cell? ⟨lb, i, none⟩ = some (.slice (some ⟨rb, ro, none⟩) o.length rrc) ∧ wd.cell? ⟨rb, ro + k, none⟩ = some (.int .i64 (s : Int))) := ⟨(HX.out wd HUD.out).1, (HX.out wd HUD.out).2.1, (HX.out wd HUD.out).2.2, nw_cellF HWD.out y0, nw_cellF HWD.out z0⟩
              have hone : Hid (Calls Tryz.prog 22 #[.agg #[.slice oa f.old.length oc, .slice na f.new.length nc, .slice ra f.runs.length rc], .int .i64 (s : Int), .int .i64 quota, .slice ha holds.length hc] wd fun e w' => ∃ v', e = .returned v' ∧ Hid (WvO wd.heap.size w' v' (Wv.oneF f s quota holds) ∧ Nw wd w')) := One_c oa na ra ha oc nc rc hc f s quota holds wd (Nat.le_trans HG6.out.1 (HUK.out.trans HWD.out).size) (HF.out wd HUD.out) HRG.out (by omega) HQ1.out.1 HQ1.out.2 (HHO.out wd HUD.out) (by omega)
              obtain ⟨C1, hC1, hC2, hC3⟩ := HO.out.1
              have hC1l : (Wv.wavesOf f quota holds (o.take k)).length = C1.length := by rw [← hC1, List.length_map]
              rw [hC1l]
              rw [hC1l] at hC2
              go_upto_region 26 with fail
              clear y0 z0
              refine wp_region_G (fun y => y.cell? ⟨w.heap.size, 0, none⟩ = some (.slice oa f.old.length oc) ∧ y.cell? ⟨w.heap.size, 1, none⟩ = some (.slice na f.new.length nc) ∧ y.cell? ⟨w.heap.size, 2, none⟩ = some (.slice ra f.runs.length rc) ∧ y.cell? ⟨lb, i, none⟩ = some (.slice (some ⟨rb, ro, none⟩) o.length rrc) ∧ y.cell? ⟨rb, ro + k, none⟩ = some (.int .i64 (s : Int))) 11 (by kernel_rfl) ?_
              rw [← hwd]
              clear hwd
              refine wpAnyG_pure (i := 0) (v := ?_) rfl (by kernel_rfl) (by kernel_rfl) (by kernel_rfl) (by kernel_rfl) (by kernel_rfl) (fun _ _ _ h => h) (by kernel_rfl) ?_ (fun _ => HS0.out) ?_
              rotate_left 1
              · (intro zz; go_simp; first | done | with_reducible rfl)
              (try simp only [Act.put, List.setIfInBounds_toArray, List.set_cons_zero, List.set_cons_succ])
              refine wpAnyG_load (i := 1) (v := ?_) [] rfl (by kernel_rfl) (by kernel_rfl) (by kernel_rfl) (by kernel_rfl) (by kernel_rfl) (by kernel_rfl) (fun _ _ _ h => h) (by kernel_rfl) ?_ (fun _ => HS0.out) ?_
              rotate_left 1
              · (intro zz hS; obtain ⟨_, _, _, _, _⟩ := hS; go_simp; first | done | with_reducible rfl)
              (try simp only [Act.put, List.setIfInBounds_toArray, List.set_cons_zero, List.set_cons_succ])
              refine wpAnyG_pure (i := 2) (v := ?_) rfl (by kernel_rfl) (by kernel_rfl) (by kernel_rfl) (by kernel_rfl) (by kernel_rfl) (fun _ _ _ h => h) (by kernel_rfl) ?_ (fun _ => HS0.out) ?_
              rotate_left 1
              · (intro zz; go_simp; first | done | with_reducible rfl)
              (try simp only [Act.put, List.setIfInBounds_toArray, List.set_cons_zero, List.set_cons_succ])
              refine wpAnyG_pure (i := 3) (v := ?_) rfl (by kernel_rfl) (by kernel_rfl) (by kernel_rfl) (by kernel_rfl) (by kernel_rfl) (fun _ _ _ h => h) (by kernel_rfl) ?_ (fun _ => HS0.out) ?_
              rotate_left 1
              · (intro zz; go_simp; first | done | with_reducible rfl)
              (try simp only [Act.put, List.setIfInBounds_toArray, List.set_cons_zero, List.set_cons_succ])
              refine wpAnyG_pure (i := 4) (v := ?_) rfl (by kernel_rfl) (by kernel_rfl) (by kernel_rfl) (by kernel_rfl) (by kernel_rfl) (fun _ _ _ h => h) (by kernel_rfl) ?_ (fun _ => HS0.out) ?_
              rotate_left 1
              · (intro zz; go_simp; first | done | with_reducible rfl)
              (try simp only [Act.put, List.setIfInBounds_toArray, List.set_cons_zero, List.set_cons_succ])
              refine wpAnyG_load (i := 5) (v := ?_) [8, 7] rfl (by kernel_rfl) (by kernel_rfl) (by kernel_rfl) (by kernel_rfl) (by kernel_rfl) (by kernel_rfl) (fun _ _ _ h => h) (by kernel_rfl) ?_ (fun _ => HS0.out) ?_
              rotate_left 1
              · (intro zz hS; obtain ⟨_, _, _, _, _⟩ := hS; go_simp; first | done | with_reducible rfl)
              (try simp only [Act.put, List.setIfInBounds_toArray, List.set_cons_zero, List.set_cons_succ])
              refine wpAnyG_pure (i := 6) (v := ?_) rfl (by kernel_rfl) (by kernel_rfl) (by kernel_rfl) (by kernel_rfl) (by kernel_rfl) (fun _ _ _ h => h) (by kernel_rfl) ?_ (fun _ => HS0.out) ?_
              rotate_left 1
              · (intro zz; go_simp; first | done | with_reducible rfl)
              (try simp only [Act.put, List.setIfInBounds_toArray, List.set_cons_zero, List.set_cons_succ])
              refine wpAnyG_pure (i := 7) (v := ?_) rfl (by kernel_rfl) (by kernel_rfl) (by kernel_rfl) (by kernel_rfl) (by kernel_rfl) (fun _ _ _ h => h) (by kernel_rfl) ?_ (fun _ => HS0.out) ?_
              rotate_left 1
              · (intro zz; go_simp; first | done | with_reducible rfl)
              (try simp only [Act.put, List.setIfInBounds_toArray, List.set_cons_zero, List.set_cons_succ])
              refine wpAnyG_load (i := 8) (v := ?_) [] rfl (by kernel_rfl) (by kernel_rfl) (by kernel_rfl) (by kernel_rfl) (by kernel_rfl) (by kernel_rfl) (fun _ _ _ h => h) (by kernel_rfl) ?_ (fun _ => HS0.out) ?_
              rotate_left 1
              · (intro zz hS; obtain ⟨_, _, _, _, _⟩ := hS; go_simp; first | done | with_reducible rfl)
              (try simp only [Act.put, List.setIfInBounds_toArray, List.set_cons_zero, List.set_cons_succ])
              refine wpAnyG_pure (i := 9) (v := ?_) rfl (by kernel_rfl) (by kernel_rfl) (by kernel_rfl) (by kernel_rfl) (by kernel_rfl) (fun _ _ _ h => h) (by kernel_rfl) ?_ (fun _ => HS0.out) ?_
              rotate_left 1
              · (intro zz; go_simp; first | done | with_reducible rfl)
              (try simp only [Act.put, List.setIfInBounds_toArray, List.set_cons_zero, List.set_cons_succ])
              refine wpAnyG_pure (i := 10) (v := ?_) rfl (by kernel_rfl) (by kernel_rfl) (by kernel_rfl) (by kernel_rfl) (by kernel_rfl) (fun _ _ _ h => h) (by kernel_rfl) ?_ (fun _ => HS0.out) ?_
              rotate_left 1
              · (intro zz; go_simp; first | done | with_reducible rfl)
              (try simp only [Act.put, List.setIfInBounds_toArray, List.set_cons_zero, List.set_cons_succ])
              refine wpAnyG_ready [11] (by kernel_rfl) (by simp) ?_
              refine AllG.cons rfl (fun K hK => ?_) AllG.nil
              go_simp
              (with_reducible refine (hone.out).mono ?_)
              rintro _ w8 ⟨v8, rfl, H8⟩
              refine hK.out _ _ (fun e => absurd (show true = false from e) (by decide)) ?_
              clear hK K
              (try simp only [Act.put, List.setIfInBounds_toArray, List.set_cons_zero, List.set_cons_succ])
              obtain ⟨C2, hD1, hD2, hD3⟩ := H8.out.1
              obtain ⟨a8, c8, rfl⟩ := own_slW hD2
              have hD1l : (Wv.oneF f s quota holds).length = C2.length := by rw [← hD1, List.length_map]
              have hb1 : C1.length + C2.length ≤ 4000 := by
                have h1 := HO.out.2
                have h2 := HLN.out
                rw [hC1l] at h1
                omega
              have nk8 := HWD.out.trans H8.out.2
              have hown8 := owns_upd' hC2 nk8 (fun _ _ e => e)
              refine wpAnyG_ready [12] (by kernel_rfl) (by simp) ?_
              refine AllG.cons rfl (fun K hK => ?_) AllG.nil
              refine step_catS rfl _ _ 27 rfl tWv _ 2 32 Tryz.underlying27 infoWvW rfl (by decide) wi.heap.size (Nat.le_trans HK.out.size nk8.size) (Nat.le_trans HG6.out.1 HUI.out.size) (.slice ka C1.length kc) C1.length _ rfl hown8 a8 C2.length c8 (C2.map wvc).flatten rfl (by rw [cwl_len]) (own_row_src hD2) wvc_one (by unfold maxLen; omega) (by omega) ?_
              intro v9 w9 o9 u9
              have hcat := wvo_catU (B2 := wd.heap.size) (Nat.le_trans HK.out.size HWD.out.size) hown8 (fun c hc => cw_upd (hC3 c hc) nk8 (fun _ _ e => e)) hD3 u9 o9
              rw [hC1, hD1, ← HWT.out] at hcat
              have HU9 : Hid (Nw wi w9) := (HK.out.trans nk8).trans' u9 (fun j hj e => by
                show False
                have := (own_block hown8 e).1
                omega)
              have HCT : Hid (WvO wi.heap.size w9 v9 (Wv.wavesOf f quota holds (o.take (k + 1))) ∧ (Wv.wavesOf f quota holds (o.take (k + 1))).length ≤ 8 * (k + 1)) := ⟨hcat, by
                have h1 := HO.out.2
                have h2 := HLN.out
                rw [HWT.out, List.length_append]; omega⟩
              obtain ⟨a9, c9, rfl⟩ := own_slW o9
              refine hK.out _ _ (fun e => absurd (show true = false from e) (by decide)) ?_
              clear hK K
              (try simp only [Act.put, List.setIfInBounds_toArray, List.set_cons_zero, List.set_cons_succ])
              clear hcat u9 o9 hown8 nk8 hD1 hD2 hD3 H8 hC2 hC3
              refine wpAnyG_ready [13] (by kernel_rfl) (by simp) ?_
              refine AllG.cons rfl (fun K hK => ?_) AllG.nil
              go_simp
              refine hK.out _ _ (fun e => absurd (show true = false from e) (by decide)) ?_
              clear hK K
              (try simp only [Act.put, List.setIfInBounds_toArray, List.set_cons_zero, List.set_cons_succ])
              refine wpAnyG_done (by kernel_rfl) ?_ _
              go_wp2_with fail
              go_roundw
              case rel => exact ⟨k + 1, by omega, by go_num, HCT, HU9⟩
              case measure => simp [intOf]; omega
            · obtain rfl : k = o.length := by omega
              have hkl1 : ¬ ((o.length : Nat) : Int) < o.length := by omega
              have hfin := HO.out.1
              have hfl := HO.out.2
              rw [List.take_length] at hfin hfl
              rw [List.take_length]
              have HFIN := Lib.hid hfin
              have HUW := Lib.hid (U6.out.trans HUK.out)
              have hwvs := hfin.wvc
              have hlens := hfin.lens
              have hrun := Lib.hid (Run_c oa na ra ka ha oc nc rc kc hc f (Wv.wavesOf f quota holds o) quota holds wr (HG.out wr HUW.out) (HF.out wr HUW.out) HSM.out hwvs.1 (by omega) hlens (HHO.out wr HUW.out) (by omega))
              unfold RunD flV at hrun
              obtain ⟨rg, hrg⟩ : ∃ r, r = Wv.runF f (Wv.wavesOf f quota holds o) quota holds := ⟨_, rfl⟩
              rw [← hrg] at hrun
              have hok : Wv.okO f quota holds o = decide (rg.2 = 0) := by rw [hrg]; rfl
              clear hrg hfin hwvs hlens
              obtain ⟨mm, cc⟩ := rg
              dsimp only at hrun hok
              obtain ⟨x0, x1, x2⟩ := HX.out wr HUW.out
              by_cases hcc : cc = 0
              · subst hcc
                have hfd := HFD.out (by rw [hok]; rfl)
                injection hfd with hf1 hf2
                subst hf1 hf2
                have HNB : Hid (Nw w6 wr) := HUK.out
                clear hok HFD HNX
                go_wp2_with fail
                (with_reducible refine (hrun.out).mono ?_)
                rintro _ w8 ⟨v8, rfl, o8, u8⟩
                have U8 := Lib.hid (HUW.out.trans u8)
                have hsame := Lib.hid (Same_c pa ka pc kc (Wv.wavesOf f quota holds o) (Wv.wavesOf f quota holds o) w8 ((HP6.out.nw (HNB.out.trans u8)).wvc).1 ((HFIN.out.nw u8).wvc).1 (by unfold maxLen; omega) (by unfold maxLen; omega))
                rw [decide_eq_true rfl] at hsame
                clear u8 o8
                go_wp2_with fail
                (with_reducible refine (hsame.out).mono ?_)
                rintro _ w9 ⟨rfl, u9⟩
                have U9 := Lib.hid (U8.out.trans u9)
                clear u9
                go_wp2_with fail
                go_ret
                exact ⟨rfl, HN.out.trans U9.out⟩
              · have hcb2 : (cc == 0) = false := beq_eq_false_iff_ne.2 hcc
                have HN2 := Lib.hid (HNX.out (by rw [hok]; exact decide_eq_false hcc))
                clear hok HFD HNX hcc
                go_wp2_with fail
                (with_reducible refine (hrun.out).mono ?_)
                rintro _ w8 ⟨v8, rfl, o8, u8⟩
                obtain ⟨ma8, mc8, rfl⟩ := own_slW o8
                have HU8 := Lib.hid (HUK.out.trans u8)
                clear u8 o8
                go_wp2_with fail
                go_roundw
                case rel => exact ⟨i + 1, by omega, by go_num, HN2.out, HU8⟩
                case measure => simp [intOf]; omega
        · obtain rfl : i = L.length := by omega
          have hil1 : ¬ ((L.length : Nat) : Int) < L.length := by omega
          have hfin : (pw, c) = ([], 27) := by
            have h1 := HFST.out
            rw [Wv.find_none (fun j h => HNO.out j h h)] at h1
            exact h1
          injection hfin with hf1 hf2
          subst hf1 hf2
          go_wp2_with fail
          go_ret
          exact ⟨rfl, HN.out.trans (U6.out.trans HUI.out)⟩
theorem wavePlan_b (oa na ra : Option Addr) (oc nc rc : Nat) (f : FL) (quota : Int) (hv : Value) (holds : List Int) (w : World) (g : Gm w) (h : FlAt w oa na ra oc nc f)
    (hq : (Lit.int .i64 quota).wf = true) (hh : Sl 0 w.heap.size w hv (holds.map (Value.int .i64))) :
    Calls Tryz.prog 4 #[.agg #[.slice oa f.old.length oc, .slice na f.new.length nc, .slice ra f.runs.length rc], .int .i64 quota, hv] w fun e w' => e = .returned (.bool true) ∧ Nw w w' := by
  obtain ⟨ha, hc, rfl, hl, _, hic⟩ := IC.of_sl hh
  exact wavePlan_c oa na ra ha oc nc rc hc f quota holds w g h hic hl (i64_of_wf hq)
end Go.Proofs.YtjlgmoemnhmgmaaGreatDoor
