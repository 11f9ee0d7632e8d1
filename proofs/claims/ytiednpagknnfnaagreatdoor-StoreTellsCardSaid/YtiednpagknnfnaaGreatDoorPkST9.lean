/- The reference's After of any operation; its Of: what the records lead to. The reference's names and so on. -/
import Derived.Test.YtiednpagknnfnaaGreatDoorPkST7
import Derived.Test.YtiednpagknnfnaaGreatDoorPkST8
import Derived.Test.YtiednpagknnfnaaGreatDoorPkST3
import Derived.Test.YtiednpagknnfnaaGreatDoorPkST2
import Derived.ArgAppend
import Derived.Lib.ConvBytes
import Derived.Deep.RegionHeldLaw
import Derived.Test.YtiednpagknnfnaaGreatDoorPkST0
set_option linter.unusedVariables false
set_option linter.unusedSimpArgs false
namespace Go.Proofs.YtiednpagknnfnaaGreatDoor
open Go.RowKit
open Sg (opE recE Gd)
attribute [local irreducible] Calls CallsIn
theorem there_small {B : Nat} {P : Nat → Prop} {z : World} {v : SvR} {S : Sg.Sta} (h : SvAt B P z v S) {n : Int} (hn : Sg.there S n = true) : 0 ≤ n ∧ n ≤ 1000 := by
  unfold Sg.there at hn
  rw [Bool.and_eq_true, decide_eq_true_eq] at hn
  have h1 := Sg.thereN_lt hn.2
  have h2 := h.len
  omega
theorem rAfter_c {B : Nat} {P : Nat → Prop} {z : World} {v : SvR} {S : Sg.Sta} (hgB : nG ≤ B) (hBz : B ≤ z.heap.size) (g : Gl z) (h : SvAt B P z v S) {o : Sg.Ops} (ha : Sg.adm S o) (hb : Sg.big S + 1 ≤ 1000) (ho : (opE o).length ≤ 20000) :
    Calls Tryz.prog 66 #[v.val, .string ⟨(opE o).toArray⟩] z (AfD B P z (Sg.after S o)) := by
  cases o with
  | put t => exact rAfter_put hgB hBz h ha (by simp [opE] at ho; omega) hb
  | set p =>
    refine rAfter_set hgB hBz g h ha hb (fun x hx => ?_)
    obtain ⟨q1, q2, q3, q4, q5⟩ := (right_len ha.1).2.2 x hx
    have := there_small h (ha.2 x hx)
    exact ⟨by omega, q2, q3, q4, by omega⟩
  | drop n => exact rAfter_drop hgB hBz h n
  | sweep => exact rAfter_sweep hgB hBz h
theorem of_results (tmps : Array Value) (w : World) {r : Nat} {a b c : Value} {T : TypeId} (hr : tmps.getD 2 undef = .pointer (some ⟨r, 0, none⟩)) (hb : w.heap[r]? = some (.cells #[a, b, c] T (0, 0))) :
    (results Tryz.f35 tmps).run Tryz.prog w = .ok (.agg #[a, b, c]) w := by
  have c0 : w.cell? ⟨r, 0, none⟩ = some a := by rw [cells_cell hb]; rfl
  have c1 : w.cell? ⟨r, 1, none⟩ = some b := by rw [cells_cell hb]; rfl
  have c2 : w.cell? ⟨r, 2, none⟩ = some c := by rw [cells_cell hb]; rfl
  rw [Array.getD_eq_getD_getElem?] at hr
  simp [results, Tryz.results35, go_sem, hr, c0, c1, c2]
structure OfI (B : Nat) (z w2 : World) (q3 : Nat) (rs : List (Option Sg.Ops)) (i : Nat) (wr : World) : Prop where
  ex : ∃ v : SvR, wr.heap[q3]? = some (.cells #[v.tv, v.hv, v.pv] tSta (0, 0)) ∧ SvAt B (fun k => z.heap.size + 2 ≤ k) wr v (Sg.of (rs.take (i + 1)))
  upd : Upd (fun k => k = q3) w2 wr
set_option maxHeartbeats 8000000 in
set_option maxRecDepth 100000 in
theorem rOf_c {B B5 : Nat} {z : World} {av : Value} {rs : List (Option Sg.Ops)} (hgB : nG ≤ B) (hBz : B ≤ z.heap.size) (g : Gl z) (hown : z.ownsRow B5 9 1 av rs.length ((rs.map recE).map bsV)) (hgd : Gd rs) (hln : rs.length ≤ 400) (hsz : ∀ r ∈ rs, (recE r).length ≤ 2000) :
    Calls Tryz.prog 35 #[av] z fun e z' => ∃ v : SvR, e = .returned v.val ∧ SvAt B (fun k => z.heap.size ≤ k ∧ k < z'.heap.size) z' v (Sg.of rs) ∧ Nw z z' := by
  obtain ⟨aa, ac, rfl⟩ := own_slS hown
  have n1 := nw_alloc z (.cells #[.slice none 0 0, .slice none 0 0, .slice none 0 0] tSta)
  have b1 := heap_new z (.cells #[.slice none 0 0, .slice none 0 0, .slice none 0 0] tSta)
  have n2 := nw_alloc (z.alloc (.cells #[.slice none 0 0, .slice none 0 0, .slice none 0 0] tSta)) (.cells #[.slice none 0 0, .slice none 0 0, .slice none 0 0] tSta)
  have b2 := heap_new (z.alloc (.cells #[.slice none 0 0, .slice none 0 0, .slice none 0 0] tSta)) (.cells #[.slice none 0 0, .slice none 0 0, .slice none 0 0] tSta)
  obtain ⟨w2, hw2⟩ : ∃ y, y = (z.alloc (.cells #[.slice none 0 0, .slice none 0 0, .slice none 0 0] tSta)).alloc (.cells #[.slice none 0 0, .slice none 0 0, .slice none 0 0] tSta) := ⟨_, rfl⟩
  have b1' := Nw.keep n2 b1
  have n12 := n1.trans n2
  rw [World.size_alloc] at b2
  rw [← hw2] at n12 b1' b2
  have hs2 : w2.heap.size = z.heap.size + 2 := by rw [hw2, World.size_alloc, World.size_alloc]
  have HW2 := Lib.hid hw2
  have HN := Lib.hid n12
  have HB1 := Lib.hid b1'
  have HG := Lib.hid hgd
  have HSz := Lib.hid hsz
  have HOw := Lib.hid (owns_upd' hown n12 (fun _ _ s => s))
  have HOl := Lib.hid (fun k hk => (hown.lt k hk).2)
  have HLn := Lib.hid hln
  have hl1 : (rs.length : Int) ≤ 400 := by omega
  have HI0 := Lib.hid (show OfI B z w2 (z.heap.size + 1) rs 0 w2 from ⟨⟨⟨.slice none 0 0, .slice none 0 0, .slice none 0 0⟩, b2, by
    rw [Nat.zero_add, Sg.of_one]
    refine ⟨Sg.g_nil, by decide, (fun t ht => by cases ht), World.ownsRow_nil _ _ _ _, World.ownsRow_nil _ _ _ _, ⟨[], rfl, World.ownsRow_nil _ _ _ _, fun q hq => by cases hq⟩, fun k hk => ?_⟩
    rcases hk with hk | hk | hk <;> cases hk⟩, Upd.refl _ _⟩)
  clear hown n1 b1 n2 b2 b1' n12 hw2 hgd hsz hln
  go_enter Tryz.func35, Tryz.ntmps35
  go_upto_region 2 with fail
  rw [← HW2.out]
  clear HW2
  go_wp2_with fail
  go_loopw [4] (fun iv wr => ∃ i : Nat, i ≤ rs.length ∧ iv = .int .i64 (i : Int) ∧ Hid (OfI B z w2 (z.heap.size + 1) rs i wr)) (fun iv _ => rs.length - (intOf iv).toNat)
  case atStart => exact ⟨0, Nat.zero_le _, rfl, HI0⟩
  case round =>
    obtain ⟨i, hi, rfl, hI⟩ := hrel
    obtain ⟨⟨v, hblk, hsv⟩, hup⟩ := hI.out
    obtain ⟨tv, hv, pv⟩ := v
    have hzr := hup.size
    have hown := owns_upd' HOw.out hup (fun k hk e => by have := HOl.out k hk; omega)
    obtain ⟨ta, tc, et⟩ := own_slS hsv.t
    obtain ⟨ha, hc, eh⟩ := own_slS hsv.h
    obtain ⟨C, eC, hpo, hit⟩ := hsv.p
    obtain ⟨pa, pc, ep⟩ := own_slS hpo
    dsimp only at et eh ep hblk
    subst et eh ep
    generalize hn1 : (Sg.of (rs.take (i + 1))).tx.length = nt at *
    generalize hn2 : (Sg.of (rs.take (i + 1))).th.length = nh at *
    generalize hn3 : C.length = np at *
    have HBlk := Lib.hid hblk
    have HUp := Lib.hid hup
    by_cases hlt : i + 1 < rs.length
    · rcases hown.2 with ⟨e, hn⟩ | ⟨gb, cap, cur, e, _⟩
      · omega
      cases e
      have hc0 := hown.cells (g := gb) rfl i (.string ⟨(recE rs[i]).toArray⟩) (by rw [List.map_map, List.getElem?_map, List.getElem?_eq_getElem (by omega)]; rfl)
      have hc1 := hown.cells (g := gb) rfl (i + 1) (.string ⟨(recE rs[i + 1]).toArray⟩) (by rw [List.map_map, List.getElem?_map, List.getElem?_eq_getElem hlt]; rfl)
      rw [add_plain, Nat.zero_add] at hc0 hc1
      have hga := Sg.gd_all (rs.take (i + 1)) (Sg.gd_take HG.out (i + 1))
      have hadm : ∀ o, rs[i] = some o → Sg.adm (Sg.of (rs.take (i + 1))) o := fun o ho => hga.2.1 o (by rw [Sg.fold_last (by omega), ho])
      have hbg : Sg.big (Sg.of (rs.take (i + 1))) + 1 ≤ 1000 := by have := hga.2.2; rw [List.length_take] at this; have := HLn.out; omega
      have hsz : ∀ o, rs[i] = some o → (opE o).length ≤ 20000 := fun o ho => by
        have := HSz.out _ (List.getElem_mem (show i < rs.length by omega))
        rw [ho] at this
        exact Nat.le_trans this (by omega)
      have hnext : Sg.of (rs.take (i + 2)) = Sg.of (rs.take (i + 1)) → OfI B z w2 (z.heap.size + 1) rs (i + 1) wr := fun e => ⟨⟨⟨_, _, _⟩, hblk, by rw [show i + 1 + 1 = i + 2 from rfl, e]; exact hsv⟩, hup⟩
      have hso := fun o => Sg.of_some2 hlt (o := o)
      have hno := Sg.of_none2 hlt
      have hdo := fun o => Sg.of_done2 hlt (o := o)
      have HNext := Lib.hid hnext
      have HLt := Lib.hid hlt
      have HSv := Lib.hid hsv
      have HAd := Lib.hid hadm
      have HBg := Lib.hid hbg
      have HOz := Lib.hid hsz
      have hi1 : (i : Int) + 1 < rs.length := by omega
      have hi64 : I64 ((i : Int) + 1) := by unfold I64; omega
      clear hblk hup hsv hown hpo hit eC hga hadm hbg hsz hnext hI HI0 HOw
      generalize rs[i] = r0 at *
      generalize rs[i + 1] = r1 at *
      have h0 := rec_eq r0
      have h1 := rec_eq r1
      cases r1 with
      | some o1 =>
        have HNx := Lib.hid (HNext.out (hso o1 rfl))
        rw [Option.isNone_some] at h1
        clear hso hno hdo h0
        generalize (⟨(recE (some o1)).toArray⟩ : ByteArray) = ra at *
        generalize (⟨(recE r0).toArray⟩ : ByteArray) = rb at *
        go_wp2_with fail
        go_roundw
        case rel => exact ⟨i + 1, by omega, by simp, HNx⟩
        case measure =>
          simp only [intOf]
          omega
      | none =>
        rw [Option.isNone_none] at h1
        cases r0 with
        | none =>
          have HNx := Lib.hid (HNext.out (hno rfl rfl))
          rw [Option.isNone_none] at h0
          clear hso hno hdo
          generalize (⟨(recE none).toArray⟩ : ByteArray) = ra at *
          go_wp2_with fail
          go_roundw
          case rel => exact ⟨i + 1, by omega, by simp, HNx⟩
          case measure =>
            simp only [intOf]
            omega
        | some o =>
          have HDo := Lib.hid (hdo o rfl rfl)
          rw [Option.isNone_some] at h0
          have HAf := Lib.hid (fun y (u : Nw wr y) => rAfter_c hgB (by have := u.size; omega) (g.upd ((Nw.upd' HN.out HUp.out (fun k hk => by omega)).trans u)) (HSv.out.nw u) (HAd.out o rfl) HBg.out (HOz.out o rfl))
          clear hso hno hdo
          have HDn := Lib.hid (Nw.upd' HN.out HUp.out (fun k hk => by omega))
          generalize (⟨(recE none).toArray⟩ : ByteArray) = ra at *
          have hro : recE (some o) = opE o := rfl
          rw [hro] at h0 hc0
          generalize hrb : (⟨(opE o).toArray⟩ : ByteArray) = rb at *
          unfold AfD SvR.val at HAf
          dsimp only at HAf
          have e0 : ∀ j : Later wr, j.1.cell? ⟨z.heap.size + 1, 0, none⟩ = some (.slice ta nt tc) := fun j => by rw [cells_cell (Nw.keep j.nw HBlk.out)]; rfl
          have e1 : ∀ j : Later wr, j.1.cell? ⟨z.heap.size + 1, 1, none⟩ = some (.slice ha nh hc) := fun j => by rw [cells_cell (Nw.keep j.nw HBlk.out)]; rfl
          have e2 : ∀ j : Later wr, j.1.cell? ⟨z.heap.size + 1, 2, none⟩ = some (.slice pa np pc) := fun j => by rw [cells_cell (Nw.keep j.nw HBlk.out)]; rfl
          have c0 : ∀ j : Later wr, j.1.cell? ⟨gb, i, none⟩ = some (.string rb) := fun j => nw_cellS j.nw hc0
          go_upto_region 6 with fail
          refine wp_region_nw_tail 5 (by kernel_rfl) (by kernel_rfl) ?_
          simp only [List.take_succ_cons, List.take_zero, List.drop_succ_cons, List.drop_zero]
          repeat (go_big_quiet_step ((fail)))
          refine wpQuiet_nil ?_
          intro w5 u5
          replace u5 := later_out u5
          have HAf5 := Lib.hid (HAf.out w5 u5)
          clear HAf
          go_wp2_with fail
          (with_reducible refine (HAf5.out).mono ?_)
          rintro _ w6 ⟨⟨tv6, hv6, pv6⟩, rfl, hs6, u6⟩
          obtain ⟨ta6, tc6, et⟩ := own_slS hs6.t
          obtain ⟨ha6, hc6, eh⟩ := own_slS hs6.h
          obtain ⟨C6, eC6, hpo6, hit6⟩ := hs6.p
          obtain ⟨pa6, pc6, ep⟩ := own_slS hpo6
          dsimp only at et eh ep
          subst et eh ep
          generalize hm1 : (Sg.after (Sg.of (rs.take (i + 1))) o).tx.length = mt at *
          generalize hm2 : (Sg.after (Sg.of (rs.take (i + 1))) o).th.length = mh at *
          generalize hm3 : C6.length = mp at *
          have hz5 := u5.size
          have hz6 := u6.size
          have hb6 := Nw.keep (u5.trans u6) HBlk.out
          have HN6 := Lib.hid (u5.trans u6)
          have x0 : w6.cell? ⟨z.heap.size + 1, 0, none⟩ = some (.slice ta nt tc) := by rw [cells_cell hb6]; rfl
          have x1 : w6.cell? ⟨z.heap.size + 1, 1, none⟩ = some (.slice ha nh hc) := by rw [cells_cell hb6]; rfl
          have x2 : w6.cell? ⟨z.heap.size + 1, 2, none⟩ = some (.slice pa np pc) := by rw [cells_cell hb6]; rfl
          have f0 := cells_frozen hb6 0
          have f1 := cells_frozen hb6 1
          have f2 := cells_frozen hb6 2
          have HBf := Lib.hid (setCell_block (setCell_block (setCell_block hb6 0 (.slice ta6 mt tc6)) 1 (.slice ha6 mh hc6)) 2 (.slice pa6 mp pc6))
          have HUf := Lib.hid (Upd.set1 (Upd.set1 (Upd.set1 (Upd.refl _ w6) (b := z.heap.size + 1) (by omega) 0 (.slice ta6 mt tc6)) (b := z.heap.size + 1) (by omega) 1 (.slice ha6 mh hc6)) (b := z.heap.size + 1) (by omega) 2 (.slice pa6 mp pc6))
          have HS6 := Lib.hid hs6
          clear hb6 e0 e1 e2 c0 hs6 eC6 hpo6 hit6 u5 u6 HAf5
          go_wp2_with fail
          go_roundw
          case rel =>
            refine ⟨i + 1, by omega, by simp, ⟨⟨⟨_, _, _⟩, HBf.out, ?_⟩, (HUp.out.nw HN6.out).trans HUf.out⟩⟩
            rw [show i + 1 + 1 = i + 2 from rfl, HDo.out]
            refine (HS6.out.upd HUf.out (fun k hk e => ?_)).mono (fun k hk h => ?_)
            · rcases hk with hk | hk <;> omega
            · rcases h with h | h <;> omega
          case measure =>
            simp only [intOf]
            omega
    · have e : rs.take (i + 1) = rs := List.take_of_length_le (by omega)
      rw [e] at hsv
      have HSv := Lib.hid hsv
      have hb2 := hup.keep HB1.out (show ¬ z.heap.size = z.heap.size + 1 by omega)
      have e0 : wr.cell? ⟨z.heap.size + 1, 0, none⟩ = some (.slice ta nt tc) := by rw [cells_cell HBlk.out]; rfl
      have e1 : wr.cell? ⟨z.heap.size + 1, 1, none⟩ = some (.slice ha nh hc) := by rw [cells_cell HBlk.out]; rfl
      have e2 : wr.cell? ⟨z.heap.size + 1, 2, none⟩ = some (.slice pa np pc) := by rw [cells_cell HBlk.out]; rfl
      have r0 : wr.cell? ⟨z.heap.size, 0, none⟩ = some (.slice none 0 0) := by rw [cells_cell hb2]; rfl
      have r1 : wr.cell? ⟨z.heap.size, 1, none⟩ = some (.slice none 0 0) := by rw [cells_cell hb2]; rfl
      have r2 : wr.cell? ⟨z.heap.size, 2, none⟩ = some (.slice none 0 0) := by rw [cells_cell hb2]; rfl
      have f0 := cells_frozen hb2 0
      have f1 := cells_frozen hb2 1
      have f2 := cells_frozen hb2 2
      have HBf := Lib.hid (setCell_block (setCell_block (setCell_block hb2 0 (.slice ta nt tc)) 1 (.slice ha nh hc)) 2 (.slice pa np pc))
      have HUf := Lib.hid (Upd.set1 (Upd.set1 (Upd.set1 (Upd.refl _ wr) (b := z.heap.size) (by omega) 0 (.slice ta nt tc)) (b := z.heap.size) (by omega) 1 (.slice ha nh hc)) (b := z.heap.size) (by omega) 2 (.slice pa np pc))
      have hi1 : ¬ (i : Int) + 1 < rs.length := by omega
      clear hb2 hsv hown hpo hit eC hblk hup hI HI0 HOw
      go_wp2_with fail
      refine bodyPost_ret (of_results _ _ (by simp) HBf.out) rfl ⟨⟨_, _, _⟩, rfl, ?_, Nw.upd' (Nw.upd' HN.out HUp.out (fun k hk => by omega)) HUf.out (fun k hk => by omega)⟩
      have hsf := HUf.out.size
      refine (HSv.out.upd HUf.out (fun k hk e => ?_)).mono (fun k hk h => ⟨?_, ?_⟩)
      · omega
      · omega
      · exact hk
end Go.Proofs.YtiednpagknnfnaaGreatDoor
namespace Go.Proofs.YtiednpagknnfnaaGreatDoor
open Go.RowKit
open Sg (letterB digitB refB refName)
attribute [local irreducible] Calls CallsIn
theorem rletter_c (c : UInt8) (w : World) : Calls Tryz.prog 143 #[.int .u8 c.toNat] w fun e w' => e = .returned (.bool (letterB c)) ∧ w = w' := by
  have h1 : (c.toNat : Int) ≤ 255 := by have := c.toNat_lt; omega
  have h2 : (0 : Int) ≤ c.toNat := by omega
  have hr := Lib.hid (letterB_iff c)
  by_cases ha : 97 ≤ c.toNat
  · have d1 : decide ((97 : Int) ≤ (c.toNat : Int)) = true := decide_eq_true (by omega)
    by_cases hb : c.toNat ≤ 122
    · have d2 : decide ((c.toNat : Int) ≤ 122) = true := decide_eq_true (by omega)
      have e : Hid (letterB c = true) := hr.out.2 ⟨by omega, by omega⟩
      clear ha hb hr
      go_enter Tryz.func143, Tryz.ntmps143
      go_wp2_with fail
      go_ret
      exact ⟨by rw [e.out]; rfl, rfl⟩
    · have d2 : decide ((c.toNat : Int) ≤ 122) = false := decide_eq_false (by omega)
      have e : Hid (letterB c = false) := Bool.eq_false_iff.2 fun h => by have := hr.out.1 h; omega
      clear ha hb hr
      go_enter Tryz.func143, Tryz.ntmps143
      go_wp2_with fail
      go_ret
      exact ⟨by rw [e.out]; rfl, rfl⟩
  · have d1 : decide ((97 : Int) ≤ (c.toNat : Int)) = false := decide_eq_false (by omega)
    have e : Hid (letterB c = false) := Bool.eq_false_iff.2 fun h => by have := hr.out.1 h; omega
    clear ha hr
    go_enter Tryz.func143, Tryz.ntmps143
    go_wp2_with fail
    go_ret
    exact ⟨by rw [e.out]; rfl, rfl⟩
theorem ref_no {s : List UInt8} {i : Nat} (hi : i < s.length) (h : refB s i = false) : refName s = false := by
  unfold refName
  cases hh : (List.range s.length).all (refB s) with
  | false => rw [Bool.and_false]
  | true => have := List.all_eq_true.1 hh i (List.mem_range.2 hi); rw [h] at this; cases this
set_option maxHeartbeats 4000000 in
set_option maxRecDepth 100000 in
theorem rName_c (s : List UInt8) (hs : s.length ≤ 1000000) (w : World) : Calls Tryz.prog 115 #[.string ⟨s.toArray⟩] w fun e w' => e = .returned (.bool (Sg.nameR s)) ∧ w = w' := by
  rw [← Sg.refName_eq]
  have hsz : (⟨s.toArray⟩ : ByteArray).size = s.length := by show s.toArray.size = _; simp
  have hby : ∀ i (h : i < (⟨s.toArray⟩ : ByteArray).size), (⟨s.toArray⟩ : ByteArray)[i] = s.getD i 0 := fun i h => by
    rw [hsz] at h
    rw [List.getD_eq_getElem?_getD, List.getElem?_eq_getElem h]
    show s.toArray[i] = s[i]
    simp
  have HRf := Lib.hid (show refName s = (decide (1 ≤ s.length) && decide (s.length ≤ 20) && (List.range s.length).all (refB s)) from rfl)
  have hrefB : ∀ i, refB s i = ((letterB (s.getD i 0) || (decide (i ≠ 0) && (digitB (s.getD i 0) || s.getD i 0 == 45))) && !(s.getD i 0 == 45 && (decide (i + 1 = s.length) || s.getD (i - 1) 0 == 45))) := fun i => rfl
  have HRb := Lib.hid hrefB
  have HRno := Lib.hid (fun i (h1 : i < s.length) h2 => ref_no h1 h2)
  generalize hn : s.length = n at *
  generalize hr : refName s = r at *
  generalize refB s = rb at *
  clear hrefB hr
  generalize (⟨s.toArray⟩ : ByteArray) = bs at *
  obtain ⟨f, hf⟩ : ∃ f, f = fun i => s.getD i 0 := ⟨_, rfl⟩
  have hfi : ∀ i, s.getD i 0 = f i := fun i => by rw [hf]
  simp only [hfi] at hby HRb
  clear hf hfi hn
  by_cases h1 : n < 1
  · have e : Hid (r = false) := by show _ = _; rw [HRf.out, decide_eq_false (by omega)]; rfl
    go_enter Tryz.func115, Tryz.ntmps115
    go_wp2_with fail
    go_ret
    exact ⟨by rw [e.out]; rfl, rfl⟩
  by_cases h2 : 20 < n
  · have e : Hid (r = false) := by show _ = _; rw [HRf.out, decide_eq_false (show ¬ n ≤ 20 by omega), Bool.and_false]; rfl
    go_enter Tryz.func115, Tryz.ntmps115
    go_wp2_with fail
    go_ret
    exact ⟨by rw [e.out]; rfl, rfl⟩
  have e : Hid (r = (List.range n).all rb) := by show _ = _; rw [HRf.out, decide_eq_true (by omega), decide_eq_true (by omega)]; rfl
  have h1' : decide ((n : Int) < 1) = false := decide_eq_false (by omega)
  have h2' : decide ((20 : Int) < (n : Int)) = false := decide_eq_false (by omega)
  have hn20 : (n : Int) ≤ 20 := by omega
  have HBy := Lib.hid hby
  clear hby HRf h1 h2
  go_enter Tryz.func115, Tryz.ntmps115
  go_wp2_with fail
  go_loopw [3] (fun iv wr => ∃ i : Nat, i ≤ n ∧ iv = .int .i64 (i : Int) ∧ Hid (∀ j, j < i → rb j = true) ∧ w = wr) (fun iv _ => n - (intOf iv).toNat)
  case atStart => exact ⟨0, Nat.zero_le _, rfl, (fun j hj => by omega), rfl⟩
  case round =>
    obtain ⟨i, hi, rfl, hok, rfl⟩ := hrel
    by_cases hlt : i < n
    · have hib : i < bs.size := by omega
      have hpb : i - 1 < bs.size := by omega
      have hc := HBy.out i hib
      have hp := HBy.out (i - 1) hpb
      have HLe := Lib.hid (rletter_c (f i) w)
      have HNo := Lib.hid (fun h => HRno.out i hlt h)
      have HYes := Lib.hid (show rb i = true → ∀ j, j < i + 1 → rb j = true from fun h j hj => by
        rcases Nat.lt_or_ge j i with h1 | h1
        · exact hok.out j h1
        · obtain rfl : j = i := by omega
          exact h)
      have HB := Lib.hid (HRb.out i)
      have HLt := Lib.hid hlt
      have hL := letterB_iff (f i)
      have hD := digitB_iff (f i)
      have h45 : (f i == 45) = decide ((f i).toNat = 45) := by
        rw [Bool.eq_iff_iff, beq_iff_eq, decide_eq_true_eq, ← UInt8.toNat_inj]; rfl
      have hp45 : (f (i - 1) == 45) = decide ((f (i - 1)).toNat = 45) := by
        rw [Bool.eq_iff_iff, beq_iff_eq, decide_eq_true_eq, ← UInt8.toNat_inj]; rfl
      have hcl : ((f i).toNat : Int) ≤ 255 := by have := (f i).toNat_lt; omega
      have hpl : ((f (i - 1)).toNat : Int) ≤ 255 := by have := (f (i - 1)).toNat_lt; omega
      have HOk := Lib.hid hok
      clear hok HRno HBy HRb
      cases hLb : letterB (f i) with
      | true =>
        rw [hLb] at HLe
        obtain ⟨q1, q2⟩ := hL.1 hLb
        have hY := Lib.hid (HYes.out (by rw [HB.out, hLb, h45, decide_eq_false (show ¬ (f i).toNat = 45 by omega)]; rfl))
        have d48 : decide ((48 : Int) ≤ ((f i).toNat : Int)) = true := decide_eq_true (by omega)
        have d57 : decide (((f i).toNat : Int) ≤ 57) = false := decide_eq_false (by omega)
        have d45 : (((f i).toNat : Int) == 45) = false := beq_eq_false_iff_ne.2 (by omega)
        clear hL hD h45 hp45 hLb q1 q2 HB HNo HYes hp
        go_wp2_with (go_at_call 143; with_reducible refine HLe.out.mono ?_; rintro _ _ ⟨rfl, rfl⟩)
        go_roundw
        case rel => exact ⟨i + 1, HLt.out, by simp, hY, by first | rfl | trivial⟩
        case measure =>
          have := HLt.out
          simp only [intOf]
          omega
      | false =>
        rw [hLb] at HLe
        by_cases h0 : i = 0
        · have hN := Lib.hid (HNo.out (by rw [HB.out, hLb, decide_eq_false (show ¬ i ≠ 0 by omega)]; rfl))
          have d0 : ((i : Int) == 0) = true := beq_iff_eq.2 (by omega)
          clear h0 hL hD h45 hp45 hLb HB HNo HYes hp
          go_wp2_with (go_at_call 143; with_reducible refine HLe.out.mono ?_; rintro _ _ ⟨rfl, rfl⟩)
          all_goals go_ret
          all_goals exact ⟨by rw [hN.out]; rfl, rfl⟩
        · obtain ⟨k, hk⟩ : ∃ k, k + 1 = i := ⟨i - 1, by omega⟩
          have d0 : ((i : Int) == 0) = false := beq_eq_false_iff_ne.2 (by omega)
          have hik : (i : Int) - 1 = (k : Int) := by omega
          cases hDb : digitB (f i) with
          | true =>
            obtain ⟨q1, q2⟩ := hD.1 hDb
            have hY := Lib.hid (HYes.out (by rw [HB.out, hLb, hDb, h45, decide_eq_false (show ¬ (f i).toNat = 45 by omega), decide_eq_true (show i ≠ 0 by omega)]; rfl))
            have d48 : decide ((48 : Int) ≤ ((f i).toNat : Int)) = true := decide_eq_true (by omega)
            have d57 : decide (((f i).toNat : Int) ≤ 57) = true := decide_eq_true (by omega)
            have d45 : (((f i).toNat : Int) == 45) = false := beq_eq_false_iff_ne.2 (by omega)
            have d46 : (((f i).toNat : Int) != 45) = true := by rw [bne, d45]; rfl
            clear hL hD h45 hp45 hLb hDb q1 q2 HB HNo HYes hp h0
            go_wp2_with (go_at_call 143; with_reducible refine HLe.out.mono ?_; rintro _ _ ⟨rfl, rfl⟩)
            go_roundw
            case rel => exact ⟨i + 1, HLt.out, by simp, hY, by first | rfl | trivial⟩
            case measure =>
              have := HLt.out
              simp only [intOf]
              omega
          | false =>
            by_cases e45 : (f i).toNat = 45
            · have d48 : decide ((48 : Int) ≤ ((f i).toNat : Int)) = false := decide_eq_false (by omega)
              have d45 : (((f i).toNat : Int) == 45) = true := beq_iff_eq.2 (by omega)
              have d46 : (((f i).toNat : Int) != 45) = false := by rw [bne, d45]; rfl
              by_cases hla : i + 1 = n
              · have hN := Lib.hid (HNo.out (by rw [HB.out, h45, decide_eq_true e45, decide_eq_true hla]; simp))
                have dla : ((i : Int) == (n : Int) - 1) = true := beq_iff_eq.2 (by omega)
                clear hL hD h45 hp45 hLb hDb HB HNo HYes hp h0 hla e45
                have HK := Lib.hid hk
                clear hk
                go_wp2_with (go_at_call 143; with_reducible refine HLe.out.mono ?_; rintro _ _ ⟨rfl, rfl⟩)
                go_ret
                exact ⟨by rw [hN.out]; rfl, rfl⟩
              · have dla : ((i : Int) == (n : Int) - 1) = false := beq_eq_false_iff_ne.2 (by omega)
                have hk1 : i - 1 = k := by omega
                rw [hk1] at HB hp45 hpl
                have hkb : k < bs.size := by omega
                have hp' : bs[k] = f k := by
                  have e := hp
                  simp only [hk1] at e
                  exact e
                by_cases hpr : (f k).toNat = 45
                · have hN := Lib.hid (HNo.out (by rw [HB.out, h45, hp45, decide_eq_true e45, decide_eq_true hpr]; simp))
                  have dpr : (((f k).toNat : Int) == 45) = true := beq_iff_eq.2 (by omega)
                  clear hL hD h45 hp45 hLb hDb HB HNo HYes hp h0 hla e45 hk1 hk hpr
                  go_wp2_with (go_at_call 143; with_reducible refine HLe.out.mono ?_; rintro _ _ ⟨rfl, rfl⟩)
                  go_ret
                  exact ⟨by rw [hN.out]; rfl, rfl⟩
                · have hY := Lib.hid (HYes.out (by rw [HB.out, h45, hp45, hLb, hDb, decide_eq_true e45, decide_eq_false hpr, decide_eq_false hla, decide_eq_true h0]; rfl))
                  have dpr : (((f k).toNat : Int) == 45) = false := beq_eq_false_iff_ne.2 (by omega)
                  clear hL hD h45 hp45 hLb hDb HB HNo HYes hp h0 hla e45 hk1 hk hpr
                  go_wp2_with (go_at_call 143; with_reducible refine HLe.out.mono ?_; rintro _ _ ⟨rfl, rfl⟩)
                  go_roundw
                  case rel => exact ⟨i + 1, HLt.out, by simp, hY, by first | rfl | trivial⟩
                  case measure =>
                    have := HLt.out
                    simp only [intOf]
                    omega
            · have hN := Lib.hid (HNo.out (by rw [HB.out, h45, hLb, hDb, decide_eq_false e45]; simp))
              have d45 : (((f i).toNat : Int) == 45) = false := beq_eq_false_iff_ne.2 (by omega)
              have d46 : (((f i).toNat : Int) != 45) = true := by rw [bne, d45]; rfl
              clear hp
              by_cases h48 : 48 ≤ (f i).toNat
              · have d57 : decide (((f i).toNat : Int) ≤ 57) = false := decide_eq_false fun h => by
                  have := hD.2 ⟨by omega, h⟩
                  rw [hDb] at this; cases this
                have d48 : decide ((48 : Int) ≤ ((f i).toNat : Int)) = true := decide_eq_true (by omega)
                clear hL hD h45 hp45 hLb hDb HB HNo HYes h0 e45 h48 hk
                go_wp2_with (go_at_call 143; with_reducible refine HLe.out.mono ?_; rintro _ _ ⟨rfl, rfl⟩)
                go_ret
                exact ⟨by rw [hN.out]; rfl, rfl⟩
              · have d48 : decide ((48 : Int) ≤ ((f i).toNat : Int)) = false := decide_eq_false (by omega)
                clear hL hD h45 hp45 hLb hDb HB HNo HYes h0 e45 h48 hk
                go_wp2_with (go_at_call 143; with_reducible refine HLe.out.mono ?_; rintro _ _ ⟨rfl, rfl⟩)
                go_ret
                exact ⟨by rw [hN.out]; rfl, rfl⟩
    · have hE := Lib.hid (e.out.trans (List.all_eq_true.2 fun j hj => hok.out j (by have := List.mem_range.1 hj; omega)))
      clear hok
      go_wp2_with fail
      go_ret
      exact ⟨by rw [hE.out]; rfl, rfl⟩
theorem rVersion_c (a b c : Int) (w : World) (ha : I64 a) (hb : I64 b) (hc : I64 c) :
    Calls Tryz.prog 116 #[.agg #[.int .i64 a, .int .i64 b, .int .i64 c]] w fun e w' => e = .returned (.bool (Sg.part a && Sg.part b && Sg.part c)) ∧ Nw w w' := by
  unfold I64 at ha hb hc
  go_enter Tryz.func116, Tryz.ntmps116
  go_wp2_with fail
  all_goals (go_ret; refine ⟨congrArg (fun b => Ending.returned (.bool b)) ?_, nw_alloc _ _⟩; rw [Bool.eq_iff_iff]; simp only [Sg.part, Bool.and_eq_true, decide_eq_true_eq, Bool.false_eq_true]; first | omega | (simp; omega))
end Go.Proofs.YtiednpagknnfnaaGreatDoor
namespace Go.Proofs.YtiednpagknnfnaaGreatDoor
open Go.RowKit
attribute [local irreducible] Calls CallsIn
set_option maxHeartbeats 4000000 in
set_option maxRecDepth 100000 in
theorem rRight_c {p : Sg.Pf} {z : World} {v : Value} {lo hi : Nat} (hv : SlS 5 lo hi z v (p.its.map itC)) (hn : p.nm.length ≤ 1000000) (hl : p.its.length ≤ 1000) (hx : ∀ x ∈ p.its, ItArg x) :
    Calls Tryz.prog 71 #[.agg #[.string ⟨p.nm.toArray⟩, v]] z fun e z' => e = .returned (.bool (Sg.rightP p)) ∧ Nw z z' := by
  obtain ⟨va, vc, rfl, hm, hcl⟩ := items_open hv
  have n1 := nw_alloc z (.cells #[.string ⟨p.nm.toArray⟩, .slice va p.its.length vc] 47)
  have b1 := heap_new z (.cells #[.string ⟨p.nm.toArray⟩, .slice va p.its.length vc] 47)
  obtain ⟨w1, hw1⟩ : ∃ y, y = z.alloc (.cells #[.string ⟨p.nm.toArray⟩, .slice va p.its.length vc] 47) := ⟨_, rfl⟩
  rw [← hw1] at n1 b1
  have hN := Lib.hid (rName_c p.nm hn w1)
  have HN1 := Lib.hid n1
  have HB1 := Lib.hid b1
  have HW1 := Lib.hid hw1
  have HX := Lib.hid hx
  have HCl := Lib.hid hcl
  have hl1 : (p.its.length : Int) ≤ 1000 := by omega
  have hq := Lib.hid (rightP_eq p)
  have c0 : w1.cell? ⟨z.heap.size, 0, none⟩ = some (.string ⟨p.nm.toArray⟩) := by rw [cells_cell b1]; rfl
  clear n1 b1 hw1 hx hcl hv hm hl
  cases hnb : Sg.nameR p.nm with
  | false =>
    rw [hnb] at hN
    have hE := Lib.hid (show Sg.rightP p = false by rw [hq.out, hnb]; rfl)
    go_enter Tryz.func71, Tryz.ntmps71
    go_upto_region 1 with fail
    rw [← HW1.out]
    go_wp2_with fail
    (with_reducible refine (hN.out).mono ?_)
    rintro _ _ ⟨rfl, rfl⟩
    go_wp2_with fail
    go_ret
    rw [hE.out]
    exact ⟨rfl, HN1.out⟩
  | true =>
    rw [hnb] at hN
    by_cases h60 : 60 < p.its.length
    · have hE := Lib.hid (show Sg.rightP p = false by rw [hq.out, hnb, decide_eq_false (by omega)]; rfl)
      go_enter Tryz.func71, Tryz.ntmps71
      go_upto_region 1 with fail
      rw [← HW1.out]
      go_wp2_with fail
      (with_reducible refine (hN.out).mono ?_)
      rintro _ _ ⟨rfl, rfl⟩
      have c1 : w1.cell? ⟨z.heap.size, 1, none⟩ = some (.slice va p.its.length vc) := by rw [cells_cell HB1.out]; rfl
      have d1 : decide ((60 : Int) < p.its.length) = true := decide_eq_true (by omega)
      go_wp2_with fail
      go_ret
      rw [hE.out]
      exact ⟨rfl, HN1.out⟩
    · have hq2 := Lib.hid (show Sg.rightP p = (List.range p.its.length).all (itemOk p.its) by rw [hq.out, hnb, decide_eq_true (by omega)]; rfl)
      have d1 : decide ((60 : Int) < p.its.length) = false := decide_eq_false (by omega)
      go_enter Tryz.func71, Tryz.ntmps71
      go_upto_region 1 with fail
      rw [← HW1.out]
      clear HW1
      go_wp2_with fail
      (with_reducible refine (hN.out).mono ?_)
      rintro _ _ ⟨rfl, rfl⟩
      have c1 : w1.cell? ⟨z.heap.size, 1, none⟩ = some (.slice va p.its.length vc) := by rw [cells_cell HB1.out]; rfl
      clear hN c0 hq
      go_wp2_with fail
      go_loopw [4] (fun iv wr => ∃ i : Nat, i ≤ p.its.length ∧ iv = .int .i64 (i : Int) ∧ Hid (∀ j, j < i → itemOk p.its j = true) ∧ Hid (Nw w1 wr)) (fun iv _ => p.its.length - (intOf iv).toNat)
      case atStart => exact ⟨0, Nat.zero_le _, rfl, (fun j hj => by omega), Upd.refl _ _⟩
      case round =>
        obtain ⟨i, hi, rfl, hok, hu⟩ := hrel
        by_cases hlt : i < p.its.length
        · rcases HCl.out with h | ⟨ib, ioff, rfl, hib, hc⟩
          · omega
          have U := HN1.out.trans hu.out
          obtain ⟨d0, d1', d2, d3, d4⟩ := hc i hlt
          have e0 := nw_cellS U d0
          have e1 := nw_cellS U d1'
          have e2 := nw_cellS U d2
          have e3 := nw_cellS U d3
          have e4 := nw_cellS U d4
          have hno := fun h => right_no (p := p) hlt h
          have hyes : itemOk p.its i = true → ∀ j, j < i + 1 → itemOk p.its j = true := fun h j hj => by
            rcases Nat.lt_or_ge j i with h1 | h1
            · exact hok.out j h1
            · obtain rfl : j = i := by omega
              exact h
          have hprev : ∀ k, (h : k + 1 = i) → wr.cell? ⟨ib, ioff + k * 5, none⟩ = some (.string ⟨(p.its[k]'(by omega)).nm.toArray⟩) := fun k h => nw_cellS U (hc k (by omega)).1
          have hitem0 : i = 0 → itemOk p.its i = Sg.itR p.its[i] := fun h => by subst h; exact itemOk_zero hlt
          have hitem1 : ∀ k, (h : k + 1 = i) → itemOk p.its i = (Sg.itR p.its[i] && Fm.lt (p.its[k]'(by omega)).nm p.its[i].nm) := fun k h => by subst h; exact itemOk_succ hlt
          have harg := HX.out _ (List.getElem_mem hlt)
          generalize p.its[i] = x at *
          obtain ⟨nm, a, b, c, pr⟩ := x
          obtain ⟨q0, q1, q2, q3, q4⟩ := harg
          dsimp only at *
          have n3 := nw_alloc wr (.cells #[.string ⟨nm.toArray⟩, .int .i64 a, .int .i64 b, .int .i64 c, .int .i64 pr] tPl)
          have b3 := heap_new wr (.cells #[.string ⟨nm.toArray⟩, .int .i64 a, .int .i64 b, .int .i64 c, .int .i64 pr] tPl)
          obtain ⟨w3, hw3⟩ : ∃ y, y = wr.alloc (.cells #[.string ⟨nm.toArray⟩, .int .i64 a, .int .i64 b, .int .i64 c, .int .i64 pr] tPl) := ⟨_, rfl⟩
          rw [← hw3] at n3 b3
          have HNm := Lib.hid (rName_c nm q0 w3)
          have HVr := Lib.hid (rVersion_c a b c w3 q1 q2 q3)
          have x0 : w3.cell? ⟨wr.heap.size, 0, none⟩ = some (.string ⟨nm.toArray⟩) := by rw [cells_cell b3]; rfl
          have x1 : w3.cell? ⟨wr.heap.size, 1, none⟩ = some (.int .i64 a) := by rw [cells_cell b3]; rfl
          have x2 : w3.cell? ⟨wr.heap.size, 2, none⟩ = some (.int .i64 b) := by rw [cells_cell b3]; rfl
          have x3 : w3.cell? ⟨wr.heap.size, 3, none⟩ = some (.int .i64 c) := by rw [cells_cell b3]; rfl
          have c1' := nw_cellS hu.out c1
          have hW3 := Lib.hid hw3
          have HLt := Lib.hid hlt
          have HNo := Lib.hid hno
          have HYes := Lib.hid hyes
          have HI0 := Lib.hid hitem0
          have HI1 := Lib.hid hitem1
          have HB3 := Lib.hid b3
          have HBp := Lib.hid (Nw.keep (hu.out.trans n3) HB1.out)
          have HPv := Lib.hid (fun k h (y : World) (u : Nw w3 y) => nw_cellS (n3.trans u) (hprev k h))
          have HU3 := Lib.hid (hu.out.trans n3)
          have hcn : (i : Int) ≤ 60 := by omega
          have HOk := Lib.hid hok
          have HIt := Lib.hid (show Sg.itR ⟨nm, a, b, c, pr⟩ = ((Sg.nameR nm && (Sg.part a && Sg.part b && Sg.part c)) && decide (0 ≤ pr)) from rfl)
          have HBad := Lib.hid (show Sg.itR ⟨nm, a, b, c, pr⟩ = false → Sg.rightP p = false from fun h => by
            refine HNo.out ?_
            rcases Nat.eq_zero_or_pos i with h0 | h0
            · rw [HI0.out h0]; exact h
            · obtain ⟨k, hk⟩ : ∃ k, k + 1 = i := ⟨i - 1, by omega⟩
              rw [HI1.out k hk, h]; rfl)
          generalize Sg.nameR nm = bn at *
          generalize (Sg.part a && Sg.part b && Sg.part c) = bv at *
          clear hok hu hc U d1' d2 d3 d4 hprev hitem0 hitem1 n3 b3 hw3 hno hyes q0 q1 q2 q3 q4
          go_upto_region 8 with fail
          rw [← hW3.out]
          clear hW3
          go_wp2_with fail
          (with_reducible refine (HNm.out).mono ?_)
          rintro _ _ ⟨rfl, rfl⟩
          go_wp2_with fail
          (with_reducible refine (HVr.out).mono ?_)
          rintro _ w4 ⟨rfl, u4⟩
          have l0 : ∀ j : Later w4, j.1.cell? ⟨wr.heap.size, 0, none⟩ = some (.string ⟨nm.toArray⟩) := fun j => by rw [cells_cell (Nw.keep (u4.trans j.nw) HB3.out)]; rfl
          have l4 : ∀ j : Later w4, j.1.cell? ⟨wr.heap.size, 4, none⟩ = some (.int .i64 pr) := fun j => by rw [cells_cell (Nw.keep (u4.trans j.nw) HB3.out)]; rfl
          have l5 : ∀ j : Later w4, j.1.cell? ⟨z.heap.size, 1, none⟩ = some (.slice (some ⟨ib, ioff, none⟩) p.its.length vc) := fun j => by rw [cells_cell (Nw.keep (u4.trans j.nw) HBp.out)]; rfl
          have HU4 := Lib.hid (HU3.out.trans u4)
          have HPw := Lib.hid (fun k h (y : World) (u : Nw w4 y) => HPv.out k h y (u4.trans u))
          clear HPv HBp HB3 u4 x0 x1 x2 x3 c1' HU3
          cases bn with
          | false =>
            have hR := Lib.hid (HBad.out (by rw [HIt.out]; rfl))
            go_upto_region 10 with fail
            refine wp_region_nw (by kernel_rfl) (by kernel_rfl) ?_
            repeat (go_big_quiet_step ((fail)))
            refine wpQuiet_nil ?_
            intro w5 u5
            replace u5 := later_out u5
            go_wp2_with fail
            go_ret
            rw [hR.out]
            exact ⟨rfl, (HN1.out.trans HU4.out).trans u5⟩
          | true =>
            cases bv with
            | false =>
              have hR := Lib.hid (HBad.out (by rw [HIt.out]; rfl))
              go_upto_region 10 with fail
              refine wp_region_nw (by kernel_rfl) (by kernel_rfl) ?_
              repeat (go_big_quiet_step ((fail)))
              refine wpQuiet_nil ?_
              intro w5 u5
              replace u5 := later_out u5
              go_wp2_with fail
              go_ret
              rw [hR.out]
              exact ⟨rfl, (HN1.out.trans HU4.out).trans u5⟩
            | true =>
              by_cases hp : pr < 0
              · have hR := Lib.hid (HBad.out (by rw [HIt.out, decide_eq_false (by omega), Bool.and_false]))
                have d5 : decide (pr < 0) = true := decide_eq_true hp
                go_upto_region 10 with fail
                refine wp_region_nw (by kernel_rfl) (by kernel_rfl) ?_
                repeat (go_big_quiet_step ((fail)))
                refine wpQuiet_nil ?_
                intro w5 u5
                replace u5 := later_out u5
                go_wp2_with fail
                go_ret
                rw [hR.out]
                exact ⟨rfl, (HN1.out.trans HU4.out).trans u5⟩
              · have d5 : decide (pr < 0) = false := decide_eq_false hp
                have hit : Hid (Sg.itR ⟨nm, a, b, c, pr⟩ = true) := by show _ = true; rw [HIt.out, decide_eq_true (by omega)]; rfl
                rcases Nat.eq_zero_or_pos i with h0 | h0
                · have d6 : decide (0 < i) = false := decide_eq_false (by omega)
                  have hR := Lib.hid (HYes.out (by rw [HI0.out h0]; exact hit.out))
                  clear h0
                  go_upto_region 10 with fail
                  refine wp_region_nw (by kernel_rfl) (by kernel_rfl) ?_
                  repeat (go_big_quiet_step ((fail)))
                  refine wpQuiet_nil ?_
                  intro w5 u5
                  replace u5 := later_out u5
                  go_wp2_with fail
                  go_roundw
                  case rel => exact ⟨i + 1, HLt.out, by simp, hR, HU4.out.trans u5⟩
                  case measure =>
                    have := HLt.out
                    simp only [intOf]
                    omega
                · obtain ⟨k, hk⟩ : ∃ k, k + 1 = i := ⟨i - 1, by omega⟩
                  have d6 : decide (0 < i) = true := decide_eq_true (by omega)
                  have hik : (i : Int) - 1 = (k : Int) := by omega
                  have hkl : k < p.its.length := by have := HLt.out; omega
                  have l6 : ∀ j : Later w4, j.1.cell? ⟨ib, ioff + k * 5, none⟩ = some (.string ⟨(p.its[k]'hkl).nm.toArray⟩) := fun j => HPw.out k hk _ j.nw
                  have hi1 := HI1.out k hk
                  rw [hit.out, Bool.true_and] at hi1
                  generalize (p.its[k]'hkl).nm = pn at *
                  have HHi1 := Lib.hid hi1
                  clear hi1 hk h0
                  cases hlt2 : Fm.lt pn nm with
                  | false =>
                    have hR := Lib.hid (HNo.out (by rw [HHi1.out, hlt2]))
                    have d7 : Op.bytesLess pn nm = false := hlt2
                    clear hlt2
                    go_upto_region 10 with fail
                    refine wp_region_nw (by kernel_rfl) (by kernel_rfl) ?_
                    repeat (go_big_quiet_step ((fail)))
                    refine wpQuiet_nil ?_
                    intro w5 u5
                    replace u5 := later_out u5
                    go_wp2_with fail
                    go_ret
                    rw [hR.out]
                    exact ⟨rfl, (HN1.out.trans HU4.out).trans u5⟩
                  | true =>
                    have hR := Lib.hid (HYes.out (by rw [HHi1.out, hlt2]))
                    have d7 : Op.bytesLess pn nm = true := hlt2
                    clear hlt2
                    go_upto_region 10 with fail
                    refine wp_region_nw (by kernel_rfl) (by kernel_rfl) ?_
                    repeat (go_big_quiet_step ((fail)))
                    refine wpQuiet_nil ?_
                    intro w5 u5
                    replace u5 := later_out u5
                    go_wp2_with fail
                    go_roundw
                    case rel => exact ⟨i + 1, HLt.out, by simp, hR, HU4.out.trans u5⟩
                    case measure =>
                      have := HLt.out
                      simp only [intOf]
                      omega
        · have hE := Lib.hid (hq2.out.trans (List.all_eq_true.2 fun j hj => hok.out j (by have := List.mem_range.1 hj; omega)))
          have c1' := nw_cellS hu.out c1
          clear hok
          go_wp2_with fail
          go_ret
          rw [hE.out]
          exact ⟨rfl, HN1.out.trans hu.out⟩
end Go.Proofs.YtiednpagknnfnaaGreatDoor
namespace Go.Proofs.YtiednpagknnfnaaGreatDoor
open Go.RowKit
open Sg (itE itsE pfE opE)
open Wire (textE numE)
attribute [local irreducible] Calls CallsIn
theorem accI_succ (p : Sg.Pf) (i : Nat) (h : i < p.its.length) : accI p (i + 1) = accI p i ++ itE p.its[i] := by
  unfold accI itsE
  rw [List.take_succ_eq_append_getElem h, List.map_append, List.flatten_append]
  simp only [List.map_cons, List.map_nil, List.flatten_cons, List.flatten_nil, List.append_nil, List.append_assoc]
theorem accI_all (p : Sg.Pf) : accI p p.its.length = pfE p := by
  unfold accI pfE
  rw [List.take_length]
theorem accI_zero (p : Sg.Pf) : accI p 0 = textE p.nm ++ numE p.its.length := by
  simp [accI, itsE]
set_option maxHeartbeats 8000000 in
set_option maxRecDepth 100000 in
theorem rSetText_c {p : Sg.Pf} {z : World} {v : Value} {lo hi : Nat} (hv : SlS 5 lo hi z v (p.its.map itC)) (hn : p.nm.length ≤ 100) (hl : p.its.length ≤ 60) (hx : ∀ x ∈ p.its, ItOk x) :
    Calls Tryz.prog 73 #[.agg #[.string ⟨p.nm.toArray⟩, v]] z fun e z' => e = .returned (.string ⟨(opE (.set p)).toArray⟩) ∧ Nw z z' := by
  obtain ⟨va, vc, rfl, hm, hcl⟩ := items_open hv
  have n1 := nw_alloc z (.cells #[.string ⟨p.nm.toArray⟩, .slice va p.its.length vc] 47)
  have b1 := heap_new z (.cells #[.string ⟨p.nm.toArray⟩, .slice va p.its.length vc] 47)
  obtain ⟨w1, hw1⟩ : ∃ y, y = z.alloc (.cells #[.string ⟨p.nm.toArray⟩, .slice va p.its.length vc] 47) := ⟨_, rfl⟩
  rw [← hw1] at n1 b1
  have hI : I64 (p.its.length : Int) := by unfold I64; omega
  have TF := Lib.hid (fun (i : Later w1) => Text_q ⟨p.nm.toArray⟩ p.nm (bs_list _) i.1 (by omega))
  have NF := Lib.hid (fun (i : Later w1) => Num_q (p.its.length : Int) i.1 hI)
  have HAl := Lib.hid (accI_len hn hl hx)
  have HX := Lib.hid hx
  have HCl := Lib.hid hcl
  have hl1 : (p.its.length : Int) ≤ 60 := by omega
  have hl0 := accI_len hn hl hx 0
  have hz := Lib.hid (accI_zero p)
  have l0 : ∀ j : Later w1, j.1.cell? ⟨z.heap.size, 0, none⟩ = some (.string ⟨p.nm.toArray⟩) := fun j => by rw [cells_cell (Nw.keep j.nw b1)]; rfl
  have l1 : ∀ j : Later w1, j.1.cell? ⟨z.heap.size, 1, none⟩ = some (.slice va p.its.length vc) := fun j => by rw [cells_cell (Nw.keep j.nw b1)]; rfl
  rw [accI_zero, List.length_append] at hl0
  have HN1 := Lib.hid n1
  have HB1 := Lib.hid b1
  have HW1 := Lib.hid hw1
  have hy0 : (⟨#[115]⟩ : ByteArray).size = 1 := rfl
  have hy1 : (ByteArray.mk (textE p.nm).toArray).size = (textE p.nm).length := by simp [bs_size]
  have hy2 : (ByteArray.mk (numE (p.its.length : Int)).toArray).size = (numE (p.its.length : Int)).length := by simp [bs_size]
  clear hx hcl hm hv n1 b1 hw1 hI hl
  generalize textE p.nm = y1 at *
  generalize numE (p.its.length : Int) = y2 at *
  go_enter Tryz.func73, Tryz.ntmps73
  go_upto_region 1 with fail
  rw [← HW1.out]
  clear HW1
  refine wp_region_nw (by kernel_rfl) (by kernel_rfl) ?_
  repeat (go_big_quiet_step ((first | (go_at_call 117; exact later_call (TF.out _)) | (go_at_call 118; exact later_call (NF.out _)))))
  refine wpQuiet_nil ?_
  intro w2 u2
  replace u2 := later_out u2
  have HU2 := Lib.hid u2
  clear u2 TF NF l0 l1
  go_wp2_with fail
  go_loopw [3, 4] (fun sv iv wr => ∃ i : Nat, i ≤ p.its.length ∧ iv = .int .i64 (i : Int) ∧ (∃ s : ByteArray, sv = .string s ∧ Hid (s.data.toList = 115 :: accI p i)) ∧ Hid (Nw w1 wr)) (fun _ iv _ => p.its.length - (intOf iv).toNat)
  case atStart => exact ⟨0, Nat.zero_le _, rfl, ⟨_, rfl, by show _ = _; rw [hz.out]; simp [bs_append_list, bs_list]⟩, HU2.out⟩
  case round =>
    obtain ⟨i, hi, rfl, ⟨s, rfl, hsl⟩, hu⟩ := hrel
    have c1 : wr.cell? ⟨z.heap.size, 1, none⟩ = some (.slice va p.its.length vc) := by rw [cells_cell (Nw.keep hu.out HB1.out)]; rfl
    by_cases hlt : i < p.its.length
    · rcases HCl.out with h | ⟨ib, ioff, rfl, hib, hc⟩
      · omega
      have U := HN1.out.trans hu.out
      obtain ⟨d0, d1, d2, d3, d4⟩ := hc i hlt
      have e0 := nw_cellS U d0
      have e1 := nw_cellS U d1
      have e2 := nw_cellS U d2
      have e3 := nw_cellS U d3
      have e4 := nw_cellS U d4
      have hal := HAl.out (i + 1)
      have hsu := accI_succ p i hlt
      have harg := HX.out _ (List.getElem_mem hlt)
      have hit : itE p.its[i] = textE p.its[i].nm ++ (numE p.its[i].a ++ (numE p.its[i].b ++ (numE p.its[i].c ++ numE p.its[i].pr))) := rfl
      rw [hit] at hsu
      rw [hsu] at hal
      have hsz : s.size = (accI p i).length + 1 := by rw [bs_size, hsl.out, List.length_cons]
      simp only [List.length_append] at hal
      have HSu := Lib.hid hsu
      have HSl := Lib.hid hsl.out
      have HLt := Lib.hid hlt
      clear d0 d1 d2 d3 d4 hc hit hsu hsl
      generalize p.its[i] = x at *
      obtain ⟨nm, a, b, c, pr⟩ := x
      obtain ⟨q0, q1, q2, q3, q4⟩ := harg
      dsimp only at *
      have n3 := nw_alloc wr (.cells #[.string ⟨nm.toArray⟩, .int .i64 a, .int .i64 b, .int .i64 c, .int .i64 pr] tPl)
      have b3 := heap_new wr (.cells #[.string ⟨nm.toArray⟩, .int .i64 a, .int .i64 b, .int .i64 c, .int .i64 pr] tPl)
      obtain ⟨w3, hw3⟩ : ∃ y, y = wr.alloc (.cells #[.string ⟨nm.toArray⟩, .int .i64 a, .int .i64 b, .int .i64 c, .int .i64 pr] tPl) := ⟨_, rfl⟩
      rw [← hw3] at n3 b3
      have l0 : ∀ j : Later w3, j.1.cell? ⟨wr.heap.size, 0, none⟩ = some (.string ⟨nm.toArray⟩) := fun j => by rw [cells_cell (Nw.keep j.nw b3)]; rfl
      have l1 : ∀ j : Later w3, j.1.cell? ⟨wr.heap.size, 1, none⟩ = some (.int .i64 a) := fun j => by rw [cells_cell (Nw.keep j.nw b3)]; rfl
      have l2 : ∀ j : Later w3, j.1.cell? ⟨wr.heap.size, 2, none⟩ = some (.int .i64 b) := fun j => by rw [cells_cell (Nw.keep j.nw b3)]; rfl
      have l3 : ∀ j : Later w3, j.1.cell? ⟨wr.heap.size, 3, none⟩ = some (.int .i64 c) := fun j => by rw [cells_cell (Nw.keep j.nw b3)]; rfl
      have l4 : ∀ j : Later w3, j.1.cell? ⟨wr.heap.size, 4, none⟩ = some (.int .i64 pr) := fun j => by rw [cells_cell (Nw.keep j.nw b3)]; rfl
      have TF := Lib.hid (fun (j : Later w3) => Text_q ⟨nm.toArray⟩ nm (bs_list _) j.1 (by omega))
      have NA := Lib.hid (fun (j : Later w3) => Num_q a j.1 (by unfold I64; omega))
      have NB := Lib.hid (fun (j : Later w3) => Num_q b j.1 (by unfold I64; omega))
      have NC := Lib.hid (fun (j : Later w3) => Num_q c j.1 (by unfold I64; omega))
      have NP := Lib.hid (fun (j : Later w3) => Num_q pr j.1 (by unfold I64; omega))
      have z0 : (ByteArray.mk (textE nm).toArray).size = (textE nm).length := by simp [bs_size]
      have z1 : (ByteArray.mk (numE a).toArray).size = (numE a).length := by simp [bs_size]
      have z2 : (ByteArray.mk (numE b).toArray).size = (numE b).length := by simp [bs_size]
      have z3 : (ByteArray.mk (numE c).toArray).size = (numE c).length := by simp [bs_size]
      have z4 : (ByteArray.mk (numE pr).toArray).size = (numE pr).length := by simp [bs_size]
      have HWr := Lib.hid hw3
      have HU3 := Lib.hid (hu.out.trans n3)
      clear hw3 n3 b3 hu U q0 q1 q2 q3 q4
      generalize textE nm = y0 at *
      generalize numE a = ya at *
      generalize numE b = yb at *
      generalize numE c = yc at *
      generalize numE pr = yp at *
      have hfin : Hid ((((((s ++ ByteArray.mk y0.toArray) ++ ByteArray.mk ya.toArray) ++ ByteArray.mk yb.toArray) ++ ByteArray.mk yc.toArray) ++ ByteArray.mk yp.toArray).data.toList = 115 :: accI p (i + 1)) := by
        show _ = _
        rw [HSu.out]
        simp only [bs_append_list, bs_list, HSl.out, List.append_assoc, List.cons_append]
      have hal2 : s.size + y0.length + ya.length + yb.length + yc.length + yp.length ≤ 20000 := by omega
      clear hal
      go_upto_region 6 with fail
      rw [← HWr.out]
      clear HWr
      refine wp_region_nw (by kernel_rfl) (by kernel_rfl) ?_
      repeat (go_big_quiet_step ((first | (go_at_call 117; exact later_call (TF.out _)) | (go_at_call 118; first | exact later_call (NA.out _) | exact later_call (NB.out _) | exact later_call (NC.out _) | exact later_call (NP.out _)))))
      refine wpQuiet_nil ?_
      intro w6 u6
      replace u6 := later_out u6
      go_wp2_with fail
      go_roundw
      case rel => exact ⟨i + 1, HLt.out, by go_num, ⟨_, rfl, hfin⟩, HU3.out.trans u6⟩
      case measure =>
        have := HLt.out
        simp only [intOf]
        omega
    · obtain rfl : i = p.its.length := by omega
      have hE := Lib.hid (show s.data.toList = opE (.set p) by rw [hsl.out, accI_all]; rfl)
      clear hsl
      go_wp2_with fail
      go_ret
      exact ⟨ret_bs hE.out, HN1.out.trans hu.out⟩
end Go.Proofs.YtiednpagknnfnaaGreatDoor
namespace Go.Proofs.YtiednpagknnfnaaGreatDoor
open Go.RowKit
attribute [local irreducible] Calls
abbrev tRDisk : TypeId := 79
abbrev tRSec : TypeId := 109
abbrev tRFile : TypeId := 111
def rfL (p : Int × Dk.Fil) : List Value := [.int .i64 p.1, .string ⟨p.2.now.toArray⟩, .string ⟨p.2.last.toArray⟩]
def flatR (l : List (Int × Dk.Fil)) : List Value := (l.map rfL).flatten
theorem flatR_snoc (l : List (Int × Dk.Fil)) (p : Int × Dk.Fil) : flatR (l ++ [p]) = flatR l ++ rfL p := by simp [flatR]
structure SaysR (l : List (Int × Dk.Fil)) (fs : Int → Dk.Fil) : Prop where
  nd : (l.map (·.1)).Nodup
  each : ∀ p ∈ l, (0 ≤ p.1 ∧ p.1 < 16) ∧ fs p.1 = p.2
  none : ∀ f, (∀ p ∈ l, p.1 ≠ f) → fs f = Dk.noFil
theorem SaysR.new : SaysR [] (fun _ => Dk.noFil) := ⟨List.nodup_nil, (fun p hp => by cases hp), fun _ _ => rfl⟩
theorem SaysR.len {l : List (Int × Dk.Fil)} {fs : Int → Dk.Fil} (h : SaysR l fs) : l.length ≤ 16 := by
  have := Dk.nodup_le 16 (l.map fun p => p.1.toNat) (by
    have h1 := h.nd
    rw [List.nodup_iff_pairwise_ne, List.pairwise_map] at h1 ⊢
    refine h1.imp_of_mem fun {a b} ha hb hab e => hab ?_
    have := (h.each a ha).1
    have := (h.each b hb).1
    omega) (fun x hx => by
      obtain ⟨p, hp, rfl⟩ := List.mem_map.1 hx
      have := (h.each p hp).1
      omega)
  rwa [List.length_map] at this
def putR (l : List (Int × Dk.Fil)) (f : Int) (x : Dk.Fil) : List (Int × Dk.Fil) := l.filter (fun p => !(p.1 == f)) ++ [(f, x)]
theorem SaysR.put {l : List (Int × Dk.Fil)} {fs : Int → Dk.Fil} (h : SaysR l fs) {f : Int} (hf : 0 ≤ f ∧ f < 16) (x : Dk.Fil) : SaysR (putR l f x) (Dk.setF fs f x) := by
  have hm : ∀ p, p ∈ putR l f x ↔ (p ∈ l ∧ p.1 ≠ f) ∨ p = (f, x) := fun p => by simp [putR]
  refine ⟨?_, fun p hp => ?_, fun g hg => ?_⟩
  · unfold putR
    rw [List.map_append, List.nodup_append]
    refine ⟨List.Nodup.sublist ((List.filter_sublist).map _) h.nd, by simp, fun a ha b hb e => ?_⟩
    obtain ⟨p, hp, rfl⟩ := List.mem_map.1 ha
    simp at hp hb
    exact hp.2 (by omega)
  · rcases (hm p).1 hp with ⟨h1, h2⟩ | rfl
    · exact ⟨(h.each p h1).1, by rw [Dk.setF_ne _ _ h2]; exact (h.each p h1).2⟩
    · exact ⟨hf, by rw [Dk.setF_self]⟩
  · have hne : g ≠ f := fun e => hg (f, x) ((hm _).2 (Or.inr rfl)) e.symm
    rw [Dk.setF_ne _ _ hne]
    refine h.none g (fun p hp e => ?_)
    by_cases hpf : p.1 = f
    · exact hne (by omega)
    · exact hg p ((hm p).2 (Or.inl ⟨hp, hpf⟩)) e
structure RdR where
  rb : Nat
  fv : Value
  qv : Value
  kv : Value
def RdR.foot (r : RdR) (k : Nat) : Prop := k = r.rb ∨ r.fv.ownBlock = some k ∨ r.qv.ownBlock = some k ∨ r.kv.ownBlock = some k
def rdC (r : RdR) (D : Dk.Disk) : Array Value := #[r.fv, r.qv, .int .i64 D.lost, .bool D.down, .int .i64 D.armed, r.kv]
def FilesR (B : Nat) (w : World) (v : Value) (fs : Int → Dk.Fil) : Prop := ∃ l, w.ownsRow B tRFile 3 v l.length (flatR l) ∧ SaysR l fs
structure RDAt (B : Nat) (w : World) (r : RdR) (D : Dk.Disk) : Prop where
  hb : nG ≤ B
  rb : B ≤ r.rb
  blk : w.heap[r.rb]? = some (.cells (rdC r D) tRDisk (0, 0))
  files : FilesR B w r.fv D.fs
  queue : w.ownsRow B tRSec 2 r.qv D.q.length (flatQ D.q)
  keep : w.ownsRow B tIntD 1 r.kv D.keep.length (D.keep.map intD)
  ok : Dk.Ok D
  kI : ∀ x ∈ D.keep, I64 x
section
variable {B : Nat} {w w' : World} {r : RdR} {D D' : Dk.Disk}
theorem RDAt.foot_lt (h : RDAt B w r D) {k : Nat} (hk : r.foot k) : B ≤ k ∧ k < w.heap.size := by
  rcases hk with rfl | hk | hk | hk
  · exact ⟨h.rb, lt_of_block h.blk⟩
  · obtain ⟨l, h1, _⟩ := h.files
    exact h1.lt k hk
  · exact h.queue.lt k hk
  · exact h.keep.lt k hk
theorem FilesR.upd {S : Nat → Prop} {v : Value} {fs : Int → Dk.Fil} (h : FilesR B w v fs) (u : Upd S w w') (hs : ∀ k, v.ownBlock = some k → ¬ S k) : FilesR B w' v fs := by
  obtain ⟨l, h1, h2⟩ := h
  exact ⟨l, owns_updD h1 u hs, h2⟩
theorem RDAt.upd {S : Nat → Prop} (h : RDAt B w r D) (u : Upd S w w') (hs : ∀ k, r.foot k → ¬ S k) : RDAt B w' r D :=
  ⟨h.hb, h.rb, u.keep h.blk (hs _ (Or.inl rfl)), h.files.upd u (fun k hk => hs k (Or.inr (Or.inl hk))), owns_updD h.queue u (fun k hk => hs k (Or.inr (Or.inr (Or.inl hk)))),
    owns_updD h.keep u (fun k hk => hs k (Or.inr (Or.inr (Or.inr hk)))), h.ok, h.kI⟩
theorem RDAt.nw (h : RDAt B w r D) (u : Nw w w') : RDAt B w' r D := h.upd u (fun _ _ s => s)
theorem RDAt.cells (h : RDAt B w r D) :
    w.cell? ⟨r.rb, 0, none⟩ = some r.fv ∧ w.cell? ⟨r.rb, 1, none⟩ = some r.qv ∧ w.cell? ⟨r.rb, 2, none⟩ = some (.int .i64 D.lost) ∧ w.cell? ⟨r.rb, 3, none⟩ = some (.bool D.down) ∧
    w.cell? ⟨r.rb, 4, none⟩ = some (.int .i64 D.armed) ∧ w.cell? ⟨r.rb, 5, none⟩ = some r.kv := by
  refine ⟨?_, ?_, ?_, ?_, ?_, ?_⟩ <;> (rw [cells_cell h.blk]; rfl)
theorem RDAt.frozen (h : RDAt B w r D) (i : Nat) : w.frozen? ⟨r.rb, i, none⟩ = false := cells_frozen h.blk i
theorem own_typ {T T' : TypeId} {sz sz' : Nat} {v v' : Value} {n n' : Nat} {xs xs' : List Value} (h : w.ownsRow B T sz v n xs) (h' : w.ownsRow B T' sz' v' n' xs') (hT : T ≠ T') {k : Nat} (hk : v.ownBlock = some k) : v'.ownBlock ≠ some k := fun e => by
  obtain ⟨_, cs, e1⟩ := own_blockD h hk
  obtain ⟨_, cs', e2⟩ := own_blockD h' e
  rw [e1] at e2
  injection e2 with e2
  injection e2 with _ e2
  exact hT e2
theorem own_blk {T T' : TypeId} {sz : Nat} {v : Value} {n : Nat} {xs : List Value} {b : Nat} {cs : Array Value} (h : w.ownsRow B T sz v n xs) (h' : w.heap[b]? = some (.cells cs T' (0, 0))) (hT : T ≠ T') : v.ownBlock ≠ some b := fun e => by
  obtain ⟨_, cs', e2⟩ := own_blockD h e
  rw [h'] at e2
  injection e2 with e2
  injection e2 with _ e2
  exact hT e2.symm
def RDTo (B : Nat) (r : RdR) (D' : Dk.Disk) (w w' : World) : Prop :=
  ∃ r', RDAt B w' r' D' ∧ r'.rb = r.rb ∧ Upd r.foot w w' ∧ ∀ j, r'.foot j → r.foot j ∨ w.heap.size ≤ j
theorem RDTo.of_nw (h : RDAt B w r D) (u : Nw w w') : RDTo B r D w w' := ⟨r, h.nw u, rfl, Nw.upd _ u, fun j hj => Or.inl hj⟩
theorem RDTo.after {w0 : World} (u : Nw w0 w) (h : RDTo B r D' w w') : RDTo B r D' w0 w' := by
  obtain ⟨r', h1, h2, h3, h4⟩ := h
  exact ⟨r', h1, h2, Nw.trans u h3, fun j hj => (h4 j hj).imp id (fun e => by have := u.size; omega)⟩
theorem RDTo.then_ {w2 : World} {r1 : RdR} {D1 : Dk.Disk} (h0 : RDAt B w r D) (h1 : RDAt B w' r1 D1) (e : r1.rb = r.rb) (u1 : Upd r.foot w w') (f1 : ∀ j, r1.foot j → r.foot j ∨ w.heap.size ≤ j) (h2 : RDTo B r1 D' w' w2) : RDTo B r D' w w2 := by
  obtain ⟨r', k1, k2, k3, k4⟩ := h2
  have hz := u1.size
  refine ⟨r', k1, k2.trans e, u1.trans' k3 (fun k hk s => (f1 k s).resolve_right (by omega)), fun j hj => ?_⟩
  rcases k4 j hj with a | a
  · exact f1 j a
  · exact Or.inr (by omega)
end
theorem rfL_cells {lo hi : Nat} {w : World} {v : Value} {X : List (Int × Dk.Fil)} (h : SlS 3 lo hi w v (X.map rfL)) :
    ∃ a cap, v = .slice a X.length cap ∧ X.length ≤ maxLen ∧ (X = [] ∨ ∃ b off, a = some ⟨b, off, none⟩ ∧ b < hi ∧ b < w.heap.size ∧ ∀ i (h : i < X.length), w.cell? ⟨b, off + i * 3, none⟩ = some (.int .i64 X[i].1) ∧ w.cell? ⟨b, off + i * 3 + 1, none⟩ = some (.string ⟨X[i].2.now.toArray⟩) ∧ w.cell? ⟨b, off + i * 3 + 2, none⟩ = some (.string ⟨X[i].2.last.toArray⟩)) := by
  obtain ⟨a, cap, rfl, hm, h⟩ := h.open_
  rw [List.length_map] at hm
  refine ⟨a, cap, by rw [List.length_map], hm, ?_⟩
  rcases h with h | ⟨b, off, rfl, _, hb1, hb, hc⟩
  · exact Or.inl (List.map_eq_nil_iff.1 h)
  · refine Or.inr ⟨b, off, rfl, hb1, hb, fun i hi => ?_⟩
    have h2 := (hc i (by simpa using hi)).2
    simp only [List.getElem_map] at h2
    exact ⟨by rw [← Nat.add_zero (off + i * 3), h2 0 (by simp [rfL])]; rfl, by rw [h2 1 (by simp [rfL])]; rfl, by rw [h2 2 (by simp [rfL])]; rfl⟩
theorem rf_sls {B : Nat} {w : World} {v : Value} {L : List (Int × Dk.Fil)} (h : w.ownsRow B tRFile 3 v L.length (flatR L)) : SlS 3 B w.heap.size w v (L.map rfL) :=
  SlS.of_owns h (by simp) (by omega) (fun y hy => by
    obtain ⟨z, _, rfl⟩ := List.mem_map.1 hy
    rfl)
theorem rs_sls {B : Nat} {w : World} {v : Value} {L : List (Int × Int)} (h : w.ownsRow B tRSec 2 v L.length (flatQ L)) : SlS 2 B w.heap.size w v (L.map secL) :=
  SlS.of_owns h (by simp) (by omega) (fun y hy => by
    obtain ⟨z, _, rfl⟩ := List.mem_map.1 hy
    rfl)
section
variable {B : Nat} {w : World} {r : RdR} {D : Dk.Disk}
theorem get_results {w : World} {bp : Nat} {tmps : Array Value} {v0 v1 v2 : Value} {T : TypeId} {fz : Nat × Nat} (h : w.heap[bp]? = some (.cells #[v0, v1, v2] T fz)) (ht : tmps.getD 4 undef = .pointer (some ⟨bp, 0, none⟩)) :
    (results Tryz.f49 tmps).run Tryz.prog w = .ok (.agg #[v0, v1, v2]) w := by
  have c0 : w.cell? ⟨bp, 0, none⟩ = some v0 := by rw [cells_cell h]; rfl
  have c1 : w.cell? ⟨bp, 1, none⟩ = some v1 := by rw [cells_cell h]; rfl
  have c2 : w.cell? ⟨bp, 2, none⟩ = some v2 := by rw [cells_cell h]; rfl
  clear h
  have ht2 : tmps[4]?.getD undef = .pointer (some ⟨bp, 0, none⟩) := by simpa using ht
  clear ht
  simp [results, Tryz.results49, go_sem, ht2, c0, c1, c2]
set_option maxRecDepth 100000 in
theorem get_r (h : RDAt B w r D) (f : Int) :
    Calls Tryz.prog 49 #[.pointer (some ⟨r.rb, 0, none⟩), .int .i64 f] w fun e w' => e = .returned (.agg #[.int .i64 f, .string ⟨(D.fs f).now.toArray⟩, .string ⟨(D.fs f).last.toArray⟩]) ∧ Nw w w' := by
  have n1 := nw_alloc w (.cells #[.int .i64 0, .string ⟨#[]⟩, .string ⟨#[]⟩] tRFile)
  have k1 := heap_new w (.cells #[.int .i64 0, .string ⟨#[]⟩, .string ⟨#[]⟩] tRFile)
  have h1' := h.nw n1
  obtain ⟨l, h1, h2⟩ := h1'.files
  obtain ⟨c0, _⟩ := h1'.cells
  obtain ⟨a, cap, hv, _, hc⟩ := rfL_cells (rf_sls h1)
  have hl := h2.len
  have hl1 : (l.length : Int) ≤ 16 := by omega
  have hl0 : (0 : Int) ≤ l.length := by omega
  rw [hv] at c0
  have Hc := Lib.hid hc
  have H2 := Lib.hid h2
  have hI0 : Hid (∀ j (h : j < l.length), j < 0 → l[j].1 ≠ f) := fun j h hj => by omega
  clear h h1 h2 hc hv hl h1' k1 n1
  go_enter Tryz.func49, Tryz.ntmps49
  go_wp2_with fail
  go_loop [5] (fun iv => ∃ n : Nat, n ≤ l.length ∧ iv = .int .i64 n ∧ Hid (∀ j (h : j < l.length), j < n → l[j].1 ≠ f)) (fun iv => l.length - (intOf iv).toNat)
  case atStart => exact ⟨0, Nat.zero_le _, rfl, hI0.out⟩
  case round =>
    obtain ⟨n, hn, rfl, hno⟩ := hrel
    by_cases hlt : n < l.length
    · rcases Hc.out with hnil | ⟨b, off, rfl, _, _, hcell⟩
      · rw [hnil] at hlt; simp at hlt
      obtain ⟨d0, d1, d2⟩ := hcell n hlt
      have hfirst : Hid (l[n].1 = f → D.fs f = l[n].2) := fun e => by
        have := (H2.out.each l[n] (List.getElem_mem hlt)).2
        rw [e] at this
        exact this
      have hnext : Hid (l[n].1 ≠ f → ∀ j (h : j < l.length), j < n + 1 → l[j].1 ≠ f) := fun e j h hj => by
        by_cases ej : j = n
        · subst ej; exact e
        · exact hno.out j h (by omega)
      clear hcell
      generalize l[n] = x at *
      obtain ⟨xf, xn, xl⟩ := x
      dsimp only at d0 d1 d2
      by_cases hk : xf = f
      · have hkb : (xf == f) = true := beq_iff_eq.2 hk
        have hr := Lib.hid (hfirst.out hk)
        clear hnext hfirst
        subst hk
        go_wp2_with fail
        (try simp only [Exit.inBlock, Exit.then])
        refine bodyPost_ret (get_results (heap_new w _) rfl) rfl ⟨by rw [hr.out], nw_alloc w _⟩
      · have hkb : (xf == f) = false := beq_eq_false_iff_ne.2 hk
        have hr := Lib.hid (hnext.out hk)
        clear hfirst hnext hk
        go_wp2_with fail
        go_round
        case rel => exact ⟨n + 1, by omega, by go_num, hr⟩
        case measure => simp [intOf]; omega
    · have hr : Hid (D.fs f = Dk.noFil) := H2.out.none f (fun p hp e => by
        obtain ⟨j, hj, rfl⟩ := List.mem_iff_getElem.1 hp
        exact hno.out j hj (by omega) e)
      go_wp2_with fail
      (try simp only [Exit.inBlock, Exit.then])
      refine bodyPost_ret (get_results (heap_new w _) rfl) rfl ⟨by rw [hr.out]; rfl, nw_alloc w _⟩
set_option maxRecDepth 100000 in
theorem may_r (h : RDAt B w r D) (f : Int) :
    Calls Tryz.prog 51 #[.pointer (some ⟨r.rb, 0, none⟩), .int .i64 f] w fun e w' => e = .returned (.int .i64 (Dk.may D f)) ∧ w = w' := by
  obtain ⟨_, _, _, c3, _⟩ := h.cells
  cases hd : D.down with
  | true =>
    have hr : Hid (Dk.may D f = 8) := by show _ = _; unfold Dk.may; rw [hd]; rfl
    rw [hd] at c3
    clear h hd
    go_enter Tryz.func51, Tryz.ntmps51
    go_wp2_with fail
    go_ret
    exact ⟨by rw [hr.out] <;> rfl, rfl⟩
  | false =>
    rw [hd] at c3
    by_cases h1 : f < 0
    · have hr : Hid (Dk.may D f = 1) := by show _ = _; unfold Dk.may; rw [hd, if_neg (by decide), if_pos (Or.inl h1)]
      clear h hd
      go_enter Tryz.func51, Tryz.ntmps51
      go_wp2_with fail
      go_ret
      exact ⟨by rw [hr.out] <;> rfl, rfl⟩
    by_cases h2 : 15 < f
    · have hr : Hid (Dk.may D f = 1) := by show _ = _; unfold Dk.may; rw [hd, if_neg (by decide), if_pos (Or.inr (by omega))]
      clear h hd
      go_enter Tryz.func51, Tryz.ntmps51
      go_wp2_with fail
      go_ret
      exact ⟨by rw [hr.out] <;> rfl, rfl⟩
    · have hr : Hid (Dk.may D f = 0) := by show _ = _; unfold Dk.may; rw [hd, if_neg (by decide), if_neg (by omega)]
      clear h hd
      go_enter Tryz.func51, Tryz.ntmps51
      go_wp2_with fail
      go_ret
      exact ⟨by rw [hr.out] <;> rfl, rfl⟩
theorem rfield1 (f : Int) (x : Dk.Fil) (w : World) : (Instr.field tRFile (.agg #[.int .i64 f, .string ⟨x.now.toArray⟩, .string ⟨x.last.toArray⟩]) 1).run Tryz.prog w = .ok (.string ⟨x.now.toArray⟩) w := by kernel_rfl
set_option maxRecDepth 100000 in
theorem size_r (h : RDAt B w r D) (f : Int) :
    Calls Tryz.prog 22 #[.pointer (some ⟨r.rb, 0, none⟩), .int .i64 f] w fun e w' => e = .returned (.int .i64 (Dk.size D f)) ∧ Nw w w' := by
  have hg := Lib.hid (get_r h f)
  have hl := (h.ok.now f)
  have hl1 : ((D.fs f).now.length : Int) ≤ 16777216 := by omega
  have hr : Hid (Dk.size D f = (D.fs f).now.length) := rfl
  have hf1 := rfield1 f (D.fs f)
  have Hf := Lib.hid hf1
  clear h hl hf1
  generalize (D.fs f).now = N at *
  generalize (D.fs f).last = M at *
  rw [hr.out]
  clear hr
  go_enter Tryz.func22, Tryz.ntmps22
  go_wp2_with fail
  (with_reducible refine (hg.out).mono ?_)
  rintro _ w1 ⟨rfl, u1⟩
  go_wp2_with (with_reducible refine wpList_fieldL (o := ⟨some 8, _, _, _, _, _⟩) rfl _ tRFile 1 rfl _ _ (Hf.out _) (by with_unfolding_all rfl) ?_)
  go_ret
  exact ⟨rfl, u1⟩
theorem fits_r (i : Int) (hi : I64 i) (s : List UInt8) (hs : s.length ≤ 1000000000) (w : World) :
    Calls Tryz.prog 135 #[.int .i64 i, .string ⟨s.toArray⟩] w fun e w' => e = .returned (.bool (decide (Dk.wErr i s.length = 0))) ∧ w = w' := by
  by_cases h1 : i < 0
  · have hr : Hid (decide (Dk.wErr i s.length = 0) = false) := by show _ = _; unfold Dk.wErr; rw [if_pos h1]; rfl
    go_enter Tryz.func135, Tryz.ntmps135
    go_wp2_with fail
    go_ret
    exact ⟨by rw [hr.out] <;> rfl, rfl⟩
  have h1' : 0 ≤ i := by omega
  by_cases h2 : 16777216 < i
  · have hr : Hid (decide (Dk.wErr i s.length = 0) = false) := by show _ = _; unfold Dk.wErr; rw [if_neg h1, if_pos (Or.inl h2)]; rfl
    go_enter Tryz.func135, Tryz.ntmps135
    go_wp2_with fail
    go_ret
    exact ⟨by rw [hr.out] <;> rfl, rfl⟩
  have h2' : i ≤ 16777216 := by omega
  have hsl : (s.length : Int) ≤ 1000000000 := by omega
  by_cases h3 : i + s.length ≤ 16777216
  · have hr : Hid (decide (Dk.wErr i s.length = 0) = true) := by show _ = _; unfold Dk.wErr; rw [if_neg h1, if_neg (by omega)]; rfl
    clear h1 h2
    go_enter Tryz.func135, Tryz.ntmps135
    go_wp2_with fail
    go_ret
    exact ⟨by rw [hr.out] <;> rfl, rfl⟩
  · have hr : Hid (decide (Dk.wErr i s.length = 0) = false) := by show _ = _; unfold Dk.wErr; rw [if_neg h1, if_pos (Or.inr (by omega))]; rfl
    clear h1 h2
    go_enter Tryz.func135, Tryz.ntmps135
    go_wp2_with fail
    go_ret
    exact ⟨by rw [hr.out] <;> rfl, rfl⟩
set_option maxHeartbeats 1000000 in
set_option maxRecDepth 100000 in
theorem pending_r (h : RDAt B w r D) (f n : Int) :
    Calls Tryz.prog 165 #[.pointer (some ⟨r.rb, 0, none⟩), .int .i64 f, .int .i64 n] w fun e w' => e = .returned (.bool (decide ((f, n) ∈ D.q))) ∧ w = w' := by
  obtain ⟨_, c1, _⟩ := h.cells
  obtain ⟨a, cap, hv, _, hc⟩ := secD_cells (rs_sls h.queue)
  have hl := h.ok.q_len
  have hl1 : (D.q.length : Int) ≤ 4194304 := by omega
  have hl0 : (0 : Int) ≤ D.q.length := by omega
  rw [hv] at c1
  have Hc := Lib.hid hc
  generalize D.q = q at *
  have hI0 : Hid (∀ j (h : j < q.length), j < 0 → q[j] ≠ (f, n)) := fun j h hj => by omega
  clear h hc hv hl
  go_enter Tryz.func165, Tryz.ntmps165
  go_wp2_with fail
  go_loop [7] (fun iv => ∃ m : Nat, m ≤ q.length ∧ iv = .int .i64 m ∧ Hid (∀ j (h : j < q.length), j < m → q[j] ≠ (f, n))) (fun iv => q.length - (intOf iv).toNat)
  case atStart => exact ⟨0, Nat.zero_le _, rfl, hI0.out⟩
  case round =>
    obtain ⟨m, hm, rfl, hno⟩ := hrel
    by_cases hlt : m < q.length
    · rcases Hc.out with hnil | ⟨b, off, rfl, _, _, hcell⟩
      · rw [hnil] at hlt; simp at hlt
      obtain ⟨d0, d1⟩ := hcell m hlt
      have hfirst : Hid (q[m] = (f, n) → decide ((f, n) ∈ q) = true) := fun e => decide_eq_true (e ▸ List.getElem_mem hlt)
      have hnext : Hid (q[m] ≠ (f, n) → ∀ j (h : j < q.length), j < m + 1 → q[j] ≠ (f, n)) := fun e j h hj => by
        by_cases ej : j = m
        · subst ej; exact e
        · exact hno.out j h (by omega)
      clear hcell
      generalize q[m] = x at *
      obtain ⟨xf, xn⟩ := x
      dsimp only at d0 d1
      by_cases hk : xf = f
      · have hkb : (xf == f) = true := beq_iff_eq.2 hk
        by_cases hk2 : xn = n
        · have hkb2 : (xn == n) = true := beq_iff_eq.2 hk2
          have hr := Lib.hid (hfirst.out (by rw [hk, hk2]))
          clear hnext hfirst
          subst hk hk2
          go_wp2_with fail
          go_ret
          exact ⟨by rw [hr.out] <;> rfl, rfl⟩
        · have hkb2 : (xn == n) = false := beq_eq_false_iff_ne.2 hk2
          have hr := Lib.hid (hnext.out (fun e => hk2 (Prod.mk.inj e).2))
          clear hfirst hnext hk hk2
          go_wp2_with fail
          go_round
          case rel => exact ⟨m + 1, by omega, by go_num, hr⟩
          case measure => simp [intOf]; omega
      · have hkb : (xf == f) = false := beq_eq_false_iff_ne.2 hk
        have hr := Lib.hid (hnext.out (fun e => hk (Prod.mk.inj e).1))
        clear hfirst hnext hk
        go_wp2_with fail
        go_round
        case rel => exact ⟨m + 1, by omega, by go_num, hr⟩
        case measure => simp [intOf]; omega
    · have hr : Hid (decide ((f, n) ∈ q) = false) := by
        refine decide_eq_false fun hp => ?_
        obtain ⟨j, hj, e⟩ := List.mem_iff_getElem.1 hp
        exact hno.out j hj (by omega) e
      go_wp2_with fail
      go_ret
      exact ⟨by rw [hr.out] <;> rfl, rfl⟩
end
abbrev tByte : TypeId := 5
def ByC (z : World) (b cap : Nat) (x : List UInt8) : Prop :=
  ∃ (cs : Array Value) (fz : Nat × Nat), z.heap[b]? = some (.cells cs tByte fz) ∧ cs.size = cap ∧ x.length ≤ cap ∧ (∀ i, i < cap → ¬ (fz.1 ≤ i ∧ i < fz.2)) ∧ ∀ i (h : i < x.length), cs[i]? = some (.int .u8 (x[i].toNat : Int))
section
variable {w w' : World} {b cap : Nat} {x : List UInt8}
theorem ByC.upd {S : Nat → Prop} (h : ByC w b cap x) (u : Upd S w w') (hs : ¬ S b) : ByC w' b cap x := by
  obtain ⟨cs, m, h1, h2⟩ := h
  exact ⟨cs, m, u.keep h1 hs, h2⟩
theorem ByC.le (h : ByC w b cap x) : x.length ≤ cap := by obtain ⟨cs, m, _, _, h, _⟩ := h; exact h
theorem ByC.cell (h : ByC w b cap x) (i : Nat) (hi : i < x.length) : w.cell? ⟨b, i, none⟩ = some (.int .u8 (x[i].toNat : Int)) := by
  obtain ⟨cs, m, h1, h2, h3, h4, h5⟩ := h
  rw [cells_cell h1, h5 i hi]
theorem ByC.there (h : ByC w b cap x) (i : Nat) (hi : i < cap) : (w.cell? ⟨b, i, none⟩).isSome = true := by
  obtain ⟨cs, m, h1, h2, h3, h4, h5⟩ := h
  rw [cells_cell h1]
  simp [h2, hi]
theorem ByC.free (h : ByC w b cap x) (i : Nat) (hi : i < cap) : w.frozen? ⟨b, i, none⟩ = false := by
  obtain ⟨cs, m, h1, h2, h3, h4, h5⟩ := h
  have := h4 i hi
  simp [World.frozen?, h1]
  omega
theorem ByC.set (h : ByC w b cap x) (hg : nG ≤ b) (i : Nat) (c : UInt8) : ByC (w.setCell ⟨b, i, none⟩ (.int .u8 (c.toNat : Int))) b cap (x.set i c) ∧ Upd (fun k => k = b) w (w.setCell ⟨b, i, none⟩ (.int .u8 (c.toNat : Int))) := by
  obtain ⟨cs, m, h1, h2, h3, h4, h5⟩ := h
  refine ⟨⟨_, m, setCell_block h1 i _, by simp [h2], by rw [List.length_set]; exact h3, h4, fun k hk => ?_⟩, Upd.set1 (Upd.refl _ _) hg i _⟩
  rw [List.length_set] at hk
  rw [Array.getElem?_setIfInBounds]
  by_cases e : i = k
  · subst e
    rw [if_pos rfl, if_pos (by omega)]
    simp
  · rw [if_neg e, h5 k hk]
    simp [List.getElem_set, e]
theorem ByC.snoc (h : ByC w b cap x) (hg : nG ≤ b) (hr : x.length < cap) (c : UInt8) : ByC (w.setCell ⟨b, x.length, none⟩ (.int .u8 (c.toNat : Int))) b cap (x ++ [c]) ∧ Upd (fun k => k = b) w (w.setCell ⟨b, x.length, none⟩ (.int .u8 (c.toNat : Int))) := by
  obtain ⟨cs, m, h1, h2, h3, h4, h5⟩ := h
  refine ⟨⟨_, m, setCell_block h1 x.length _, by simp [h2], by rw [List.length_append]; simp; omega, h4, fun k hk => ?_⟩, Upd.set1 (Upd.refl _ _) hg _ _⟩
  rw [List.length_append] at hk
  simp at hk
  rw [Array.getElem?_setIfInBounds]
  by_cases e : x.length = k
  · subst e
    rw [if_pos rfl, if_pos (by omega)]
    simp
  · rw [if_neg e, h5 k (by omega), List.getElem_append_left (by omega)]
end
theorem byC_of {s : List UInt8} (w : World) : ∃ cap z, (convert 9 135 (.string ⟨s.toArray⟩)).run Tryz.prog w = .ok (.slice (some ⟨w.heap.size, 0, none⟩) s.length cap) z ∧ ByC z w.heap.size cap s ∧ Nw w z := by
  have hsz : (⟨s.toArray⟩ : ByteArray).size = s.length := by simp [ByteArray.size]
  have hrun := Lib.run_convert_string_bytes (P := Tryz.prog) w 9 135 5 ⟨s.toArray⟩ Tryz.underlying9 Tryz.underlying135 Tryz.underlying5
  rw [hsz] at hrun
  have hc : s.length ≤ grownCap w s.length 0 tByte := grownCap_ge w s.length 0 tByte
  have hs : (Lib.bytesCells w tByte ⟨s.toArray⟩).size = grownCap w s.length 0 tByte := by
    simp [Lib.bytesCells]
    rw [hsz]
    omega
  refine ⟨_, _, hrun, ⟨_, _, Lib.bytesWorld_at_new w 5 ⟨s.toArray⟩, hs, hc, fun i hi => ?_, fun i hi => ?_⟩, ?_⟩
  · have hi' : i < grownCap w s.length 0 tByte := hi
    dsimp only
    rw [hs]; omega
  · simp [Lib.bytesCells, Array.getElem?_append, hi]
  · exact ⟨rfl, rfl, rfl, by rw [Lib.bytesWorld_size]; omega, fun k hk _ => Lib.bytesWorld_at_old w _ _ k hk⟩
theorem byC_string {w : World} {b cap : Nat} {x : List UInt8} (h : ByC w b cap x) : (convert 135 9 (.slice (some ⟨b, 0, none⟩) x.length cap)).run Tryz.prog w = .ok (.string ⟨x.toArray⟩) w :=
  run_convert_bytes_back (P := Tryz.prog) w 135 9 5 ⟨b, 0, none⟩ cap x Tryz.underlying135 Tryz.underlying5 Tryz.underlying9 (fun j hj => by
    rw [add_plain, Nat.zero_add, h.cell j hj])
theorem wpList_appB {w : World} {ops : Array Oper} {rest : List Oper} {o : Oper} {a : Act} {Q : Exit → Act → World → Prop} (hgd : o.guard = none) (s y : Operand)
    (ho : o.op = .call { callee := .builtin .append, args := #[s, y], argTypes := #[135, 135] })
    (b cap : Nat) (x : List UInt8) (hs : a.eval s = .slice (some ⟨b, 0, none⟩) x.length cap) (h : ByC w b cap x) (hg : nG ≤ b) (c : UInt8) (H : Nat) (hy : a.eval y = .slice (some ⟨H, 0, none⟩) 1 1) (hH : w.heap[H]? = some (.cells #[.int .u8 (c.toNat : Int)] tByte (0, 0)))
    (hx : x.length ≤ 100000000)
    (hK : ∀ b' cap' w', ByC w' b' cap' (x ++ [c]) → Upd (fun k => k = b) w w' → (b' = b ∨ w.heap.size ≤ b') → wpList Tryz.prog ops Q rest (a.put o.dst (.slice (some ⟨b', 0, none⟩) (x.length + 1) cap')) w') : wpList Tryz.prog ops Q (o :: rest) a w := by
  obtain ⟨i0, hi, hz0, hz1, hz2⟩ := info_parts infoByte
  have hnews : ∀ (j : Nat) (u : Value), ([Value.int .u8 (c.toNat : Int)] : List Value)[j]? = some u → w.cell? ((⟨H, 0, none⟩ : Addr).add j) = some u := fun j u hu => by
    rw [add_plain, cells_cell hH, Nat.zero_add]
    simpa using hu
  refine wpList_plain hgd fun K hKK => ?_
  unfold Oper.wp execOp
  by_cases hr : x.length + 1 ≤ cap
  · have hrun := run_append_room_cells (P := Tryz.prog) w 135 o.type 5 i0 Tryz.underlying135 hi b 0 x.length cap ⟨H, 0, none⟩ 1 1 [.int .u8 (c.toNat : Int)] (by rw [hz1]; rfl) hnews (by intro u hu; rw [List.mem_singleton.1 hu]; rfl) hr
      (fun j hj => by
        have : j = 0 := by simpa using hj
        subst this
        exact h.there _ (by rw [hz1]; omega)) (fun j hj => by
        have : j = 0 := by simpa using hj
        subst this
        exact h.free _ (by rw [hz1]; omega))
    rw [hz1, Nat.zero_add, Nat.mul_one] at hrun
    obtain ⟨h1, h2⟩ := h.snoc hg (by omega) c
    simp only [ho, resolve, invoke, builtin, Sem.run_bind, Sem.run_pure, Result.andThen_ok, List.map_toArray, List.map_cons, List.map_nil, hs, hy, hrun]
    exact hKK _ _ (hK b cap _ h1 h2 (Or.inl rfl))
  · obtain ⟨v', w', hrun, hown, hgr⟩ := run_append_arg_grows (P := Tryz.prog) w 135 o.type 5 i0 (.int .u8 0) 1 1 Tryz.underlying135 hi hz0 hz1 hz2 rfl (by decide) ⟨b, 0, none⟩ x.length cap (Lib.byteCells x) (by simp [Lib.byteCells])
      (fun j u hu => by
        have hj : j < x.length := by have := (List.getElem?_eq_some_iff.1 hu).1; simpa [Lib.byteCells] using this
        rw [byteCells_get x j hj] at hu
        rw [add_plain, Nat.zero_add, h.cell j hj, hu]) ⟨H, 0, none⟩ 1 1 [.int .u8 (c.toNat : Int)] rfl hnews (by omega) (by unfold maxLen; omega) (by omega)
    simp only [ho, resolve, invoke, builtin, Sem.run_bind, Sem.run_pure, Result.andThen_ok, List.map_toArray, List.map_cons, List.map_nil, hs, hy, hrun]
    obtain ⟨hl, hcase⟩ := hown
    rcases hcase with ⟨_, e⟩ | ⟨g, cap', cur, rfl, hb, hgc, hn, hm, hsz, htk⟩
    · omega
    · refine hKK _ _ (hK g cap' w' ⟨cur, (0, 0), hgc, by rw [hsz, Nat.mul_one], by rw [List.length_append]; exact hn, (fun i hi e => by omega), fun i hi => ?_⟩ ((Upd.refl _ _).grown hgr fun k hk => by cases hk) (Or.inr hb))
      have e1 : cur.toList.take (x.length + 1) = Lib.byteCells (x ++ [c]) := by
        rw [Nat.mul_one] at htk
        rw [htk, byteCells_append]; rfl
      have e2 := congrArg (fun l : List Value => l[i]?) e1
      rw [List.length_append] at hi
      simp at hi
      rw [List.getElem?_take, if_pos (by omega), byteCells_get (x ++ [c]) i (by simp; omega)] at e2
      simpa using e2
def PtA (w : World) (s : List UInt8) (m : Nat) (v : Value) (n : Nat) (z : World) : Prop :=
  ∃ b cap, v = .slice (some ⟨b, 0, none⟩) n cap ∧ ByC z b cap (s ++ List.replicate (n - s.length) 0) ∧ s.length ≤ n ∧ n ≤ max s.length m ∧ Nw w z ∧ w.heap.size ≤ b
def PtB (w : World) (x t : List UInt8) (i b cap j : Nat) (z : World) : Prop := ByC z b cap (x.take i ++ t.take j ++ x.drop (i + j)) ∧ Nw w z
theorem set_step {x t : List UInt8} {i j : Nat} (hx : i + t.length ≤ x.length) (hj : j < t.length) : (x.take i ++ t.take j ++ x.drop (i + j)).set (i + j) t[j] = x.take i ++ t.take (j + 1) ++ x.drop (i + (j + 1)) := by
  have hl : (x.take i ++ t.take j).length = i + j := by rw [List.length_append, List.length_take, List.length_take]; omega
  rw [List.set_append_right _ _ (by omega), hl, Nat.sub_self, List.drop_eq_getElem_cons (show i + j < x.length by omega), List.set_cons_zero, List.take_succ_eq_append_getElem hj, show i + (j + 1) = i + j + 1 by omega]
  simp only [List.append_assoc, List.cons_append, List.nil_append]
def lenOfSl : Value → Nat
  | .slice _ n _ => n
  | _ => 0
set_option maxHeartbeats 2000000 in
set_option maxRecDepth 100000 in
theorem Put_r (s t : List UInt8) (i : Nat) (w : World) (g : Gl w) (hs : s.length ≤ 16777216) (hi : i + t.length ≤ 16777216) :
    Calls Tryz.prog 76 #[.string ⟨s.toArray⟩, .int .i64 i, .string ⟨t.toArray⟩] w fun e w' => e = .returned (.string ⟨(Dk.put s i t).toArray⟩) ∧ Nw w w' := by
  have hgb := g.big
  by_cases ht : t = []
  · subst ht
    have hr : Hid (Dk.put s i [] = s) := by show _ = _; unfold Dk.put; rw [if_pos rfl]
    go_enter Tryz.func76, Tryz.ntmps76
    go_wp2_with fail
    go_ret
    exact ⟨by rw [hr.out]; rfl, Upd.refl _ _⟩
  have hte : t.isEmpty = false := by cases t with | nil => exact absurd rfl ht | cons _ _ => rfl
  have hte2 : (t == ([] : List UInt8)) = false := by cases t with | nil => exact absurd rfl ht | cons _ _ => rfl
  have Ht : Hid (t ≠ []) := ht
  obtain ⟨m, hm⟩ : ∃ m, m = i + t.length := ⟨_, rfl⟩
  have hmi : (i : Int) + t.length = (m : Int) := by omega
  have hm1 : m ≤ 16777216 := by omega
  have hm2 : (m : Int) ≤ 16777216 := by omega
  have hs2 : (s.length : Int) ≤ 16777216 := by omega
  obtain ⟨cap, z, hcv, hby, uz⟩ := byC_of (s := s) w
  have hI0 : Hid (PtA w s m (.slice (some ⟨w.heap.size, 0, none⟩) s.length cap) s.length z) := ⟨_, _, rfl, by rw [Nat.sub_self, List.replicate_zero, List.append_nil]; exact hby, Nat.le_refl _, by omega, uz, Nat.le_refl _⟩
  have HM := Lib.hid hm
  have HS := Lib.hid (And.intro hs hi)
  clear ht hby uz hm hs hi
  go_enter Tryz.func76, Tryz.ntmps76
  go_wp2_with fail
  go_loopw [7] (fun v wr => ∃ n : Nat, Hid (PtA w s m v n wr)) (fun v _ => max s.length m - lenOfSl v)
  case atStart => exact ⟨_, hI0.out⟩
  case round =>
    obtain ⟨n, HI⟩ := hrel
    obtain ⟨b, cap1, rfl, P1, P2, P3, P4, P5⟩ := HI.out
    have HP := Lib.hid (And.intro P1 (And.intro P2 (And.intro P3 (And.intro P4 P5))))
    obtain ⟨x, hx⟩ : ∃ x, x = s ++ List.replicate (n - s.length) 0 := ⟨_, rfl⟩
    obtain rfl : n = x.length := by rw [hx, List.length_append, List.length_replicate]; omega
    rw [← hx] at HP
    have hn1 : (x.length : Int) ≤ 16777216 := by have := HS.out.1; omega
    have HX := Lib.hid hx
    clear P1 P2 P3 P4 P5 HI hx
    by_cases hlt : x.length < m
    · have hlt1 : (x.length : Int) < m := by omega
      have hgw : nG ≤ wr.heap.size := (g.upd HP.out.2.2.2.1).big
      go_wp2_with (at_builtin; refine wpList_appB rfl _ _ rfl b cap1 x rfl (HP.out.1.upd (nw_alloc wr (.cells #[.int .u8 0] tByte)) id) (by have := HP.out.2.2.2.2; omega) 0 wr.heap.size rfl (heap_new wr _) (by omega) ?_)
      intro b2 cap2 w2 hb2 u2 ho2
      have hsz : wr.heap.size ≤ (wr.alloc (.cells #[.int .u8 0] tByte)).heap.size := (nw_alloc wr _).size
      have hz : Hid (PtA w s m (.slice (some ⟨b2, 0, none⟩) (x.length + 1) cap2) (x.length + 1) w2) := by
        refine ⟨b2, cap2, rfl, ?_, by have := HP.out.2.1; omega, by have := HP.out.2.1; omega, ((HP.out.2.2.2.1.trans (nw_alloc wr _)).trans' u2 (fun k hk e => by have := HP.out.2.2.2.2; omega)), ?_⟩
        · have := HX.out
          have hl := congrArg List.length this
          rw [List.length_append, List.length_replicate] at hl
          rw [show x.length + 1 - s.length = (x.length - s.length) + 1 by omega, List.replicate_succ', ← List.append_assoc, ← this]
          exact hb2
        · have := HP.out.2.2.2.2
          have := HP.out.2.2.2.1.size
          rcases ho2 with e | e <;> omega
      clear hb2 u2 ho2
      go_wp2_with fail
      go_roundw
      case rel => exact ⟨_, hz.out⟩
      case measure => simp [lenOfSl]; omega
    · have hge1 : ¬ (x.length : Int) < m := by omega
      rename World => w3
      have hJ0 : Hid (PtB w x t i b cap1 0 w3) := ⟨by rw [List.take_zero, List.append_nil, Nat.add_zero, List.take_append_drop]; exact HP.out.1, HP.out.2.2.2.1⟩
      have ht1 : (t.length : Int) ≤ 16777216 := by omega
      have hfill := Dk.put_fill s t i x.length Ht.out (by have := HP.out.2.2.1; have := HP.out.2.1; have := HM.out; omega)
      rw [← HX.out] at hfill
      have Hf := Lib.hid hfill
      have hxm : Hid (i + t.length ≤ x.length) := by show _ ≤ _; have := HM.out; omega
      have hbg : nG ≤ b := by have := HP.out.2.2.2.2; omega
      clear hfill
      go_wp2_with fail
      go_loopw [8] (fun iv wr => ∃ j : Nat, j ≤ t.length ∧ iv = .int .i64 j ∧ Hid (PtB w x t i b cap1 j wr)) (fun iv _ => t.length - (intOf iv).toNat)
      case atStart => exact ⟨0, Nat.zero_le _, rfl, hJ0.out⟩
      case round =>
        obtain ⟨j, hj, rfl, HJ⟩ := hrel
        by_cases hjt : j < t.length
        · have hjt1 : (j : Int) < t.length := by omega
          have hlen : (x.take i ++ t.take j ++ x.drop (i + j)).length = x.length := by
            have := hxm.out
            simp only [List.length_append, List.length_take, List.length_drop]; omega
          obtain ⟨cv, xc⟩ : ∃ cv, wr.cell? ⟨b, i + j, none⟩ = some cv := ⟨_, HJ.out.1.cell (i + j) (by have := hxm.out; omega)⟩
          have xf := HJ.out.1.free (i + j) (by have := HJ.out.1.le; have := hxm.out; omega)
          have hst := HJ.out.1.set hbg (i + j) t[j]
          rw [set_step hxm.out hjt] at hst
          have hz : Hid (PtB w x t i b cap1 (j + 1) (wr.setCell ⟨b, i + j, none⟩ (.int .u8 (t[j].toNat : Int)))) := ⟨hst.1, HJ.out.2.trans' hst.2 (fun k hk e => by have := HP.out.2.2.2.2; omega)⟩
          have hij : (i : Int) + j < x.length := by have := hxm.out; omega
          clear hst hlen
          go_wp2_with fail
          go_roundw
          case rel => exact ⟨j + 1, by omega, by go_num, hz.out⟩
          case measure => simp [intOf]; omega
        · obtain rfl : j = t.length := by omega
          have hlen : (x.take i ++ t.take t.length ++ x.drop (i + t.length)).length = x.length := by
            have := hxm.out
            simp only [List.length_append, List.length_take, List.length_drop]; omega
          have hcv2 := byC_string HJ.out.1
          rw [hlen, List.take_length, Hf.out] at hcv2
          have hfin := Lib.hid HJ.out.2
          clear hlen HJ
          go_wp2_with fail
          go_ret
          exact ⟨rfl, hfin.out⟩
theorem infoRFile : (Tryz.prog.info? tRFile).map (fun i => (i.zero, i.size, i.bytes)) = some (some (.agg #[.int .i64 0, .string ⟨#[]⟩, .string ⟨#[]⟩]), 3, 40) := by kernel_rfl
theorem rfL_one (p : Int × Dk.Fil) : ∀ u ∈ rfL p, u.oneCell' = true := by
  intro u hu
  simp only [rfL, List.mem_cons, List.not_mem_nil, or_false] at hu
  rcases hu with rfl | rfl | rfl <;> rfl
section
variable {B : Nat} {w w1 : World} {r : RdR} {D D' : Dk.Disk}
def RDS (B : Nat) (r : RdR) (D' : Dk.Disk) (w w' : World) : Prop :=
  ∃ fv', RDAt B w' ⟨r.rb, fv', r.qv, r.kv⟩ D' ∧ Upd (fun k => k = r.rb) w w' ∧ ∀ k, fv'.ownBlock = some k → r.fv.ownBlock = some k ∨ w.heap.size ≤ k
theorem RDS.to (h : RDS B r D' w w1) : RDTo B r D' w w1 := by
  obtain ⟨fv', h1, h2, h3⟩ := h
  refine ⟨_, h1, rfl, h2.mono (fun k _ e => Or.inl e), ?_⟩
  rintro j (e | e | e | e)
  · exact Or.inl (Or.inl e)
  · exact (h3 j e).imp (fun e => Or.inr (Or.inl e)) id
  · exact Or.inl (Or.inr (Or.inr (Or.inl e)))
  · exact Or.inl (Or.inr (Or.inr (Or.inr e)))
theorem RDS.after {w0 : World} (u : Nw w0 w) (h : RDS B r D' w w1) : RDS B r D' w0 w1 := by
  obtain ⟨fv', h1, h2, h3⟩ := h
  exact ⟨fv', h1, Nw.trans u h2, fun k hk => (h3 k hk).imp id (fun e => by have := u.size; omega)⟩
theorem files_done {v' : Value} {B0 : Nat} {l' : List (Int × Dk.Fil)} (h : RDAt B w r D) (u : Nw w w1) (hB0 : w.heap.size ≤ B0) (hown : w1.ownsRow B0 tRFile 3 v' l'.length (flatR l')) (hB : B ≤ w.heap.size) (hs : SaysR l' D'.fs)
    (e1 : D'.q = D.q) (e2 : D'.lost = D.lost) (e3 : D'.down = D.down) (e4 : D'.armed = D.armed) (e5 : D'.keep = D.keep) (hk : Dk.Ok D') : RDS B r D' w (w1.setCell ⟨r.rb, 0, none⟩ v') := by
  have h1 := h.nw u
  have hg : nG ≤ r.rb := Nat.le_trans h.hb h.rb
  have us : Upd (fun k => k = r.rb) w1 (w1.setCell ⟨r.rb, 0, none⟩ v') := Upd.set1 (Upd.refl _ _) hg 0 _
  have hrw := (h.foot_lt (Or.inl rfl)).2
  refine ⟨v', ⟨h.hb, h.rb, ?_, ?_, ?_, ?_, hk, by rw [e5]; exact h.kI⟩, Nw.trans u us, fun j e => Or.inr (Nat.le_trans hB0 (hown.lt j e).1)⟩
  · have := setCell_block h1.blk 0 v'
    unfold rdC at this ⊢
    rw [e2, e3, e4]
    exact this
  · exact ⟨l', owns_base (owns_updD hown us (fun k hk e => by have := (hown.lt k hk).1; omega)) (Nat.le_trans hB hB0), hs⟩
  · rw [e1]
    exact owns_updD h1.queue us (fun k hk e => own_blk h1.queue h1.blk (by decide) (by rw [← e]; exact hk))
  · rw [e5]
    exact owns_updD h1.keep us (fun k hk e => own_blk h1.keep h1.blk (by decide) (by rw [← e]; exact hk))
def SetI (w : World) (l : List (Int × Dk.Fil)) (f : Int) (k : Nat) (v : Value) (z : World) : Prop :=
  z.ownsRow (w.heap.size + 1) tRFile 3 v ((l.take k).filter (fun p => !(p.1 == f))).length (flatR ((l.take k).filter (fun p => !(p.1 == f)))) ∧ Nw w z
set_option maxHeartbeats 2000000 in
set_option maxRecDepth 100000 in
theorem set_r (h : RDAt B w r D) (g : Gl w) (hB : B ≤ w.heap.size) {f : Int} (hf : 0 ≤ f ∧ f < 16) (x : Dk.Fil) (hk : Dk.Ok { D with fs := Dk.setF D.fs f x }) :
    Calls Tryz.prog 77 #[.pointer (some ⟨r.rb, 0, none⟩), .agg #[.int .i64 f, .string ⟨x.now.toArray⟩, .string ⟨x.last.toArray⟩]] w fun e w' => e = .returned (.tuple #[]) ∧ RDS B r { D with fs := Dk.setF D.fs f x } w w' := by
  have hgb := g.big
  obtain ⟨l, hl, hsl⟩ := h.files
  have hl16 := hsl.len
  obtain ⟨a, cap, hv, _, _⟩ := rfL_cells (rf_sls hl)
  have hl1 : (l.length : Int) ≤ 16 := by omega
  have n1 := nw_alloc w (.cells #[.int .i64 f, .string ⟨x.now.toArray⟩, .string ⟨x.last.toArray⟩] tRFile)
  have k1 := heap_new w (.cells #[.int .i64 f, .string ⟨x.now.toArray⟩, .string ⟨x.last.toArray⟩] tRFile)
  have hI0 : Hid (SetI w l f 0 (.slice none 0 0) (w.alloc (.cells #[.int .i64 f, .string ⟨x.now.toArray⟩, .string ⟨x.last.toArray⟩] tRFile))) := ⟨World.ownsRow_nil _ _ _ _, n1⟩
  have H := Lib.hid (And.intro h (And.intro hl (And.intro hsl (And.intro hB hk))))
  have K1 : Hid (∀ z, Nw (w.alloc (.cells #[.int .i64 f, .string ⟨x.now.toArray⟩, .string ⟨x.last.toArray⟩] tRFile)) z → z.heap[w.heap.size]? = some (.cells #[.int .i64 f, .string ⟨x.now.toArray⟩, .string ⟨x.last.toArray⟩] tRFile (0, 0))) := fun z u => u.keep k1
  have hbx := Lib.hid k1
  have Hv := Lib.hid hv
  clear h hl hsl hB hk n1 k1 hv hl16
  go_enter Tryz.func77, Tryz.ntmps77
  go_wp2_with fail
  go_loopw [4, 5] (fun v iv wr => ∃ k : Nat, k ≤ l.length ∧ iv = .int .i64 k ∧ Hid (SetI w l f k v wr ∧ wr.heap[w.heap.size]? = some (.cells #[.int .i64 f, .string ⟨x.now.toArray⟩, .string ⟨x.last.toArray⟩] tRFile (0, 0)))) (fun _ iv _ => l.length - (intOf iv).toNat)
  case atStart => exact ⟨0, Nat.zero_le _, rfl, hI0.out, hbx.out⟩
  case round =>
    obtain ⟨k, hk, rfl, HI⟩ := hrel
    obtain ⟨av, cv, rfl⟩ := own_slD HI.out.1.1
    have h' := H.out.1.nw HI.out.1.2
    obtain ⟨c0, _⟩ := h'.cells
    have f0 := h'.frozen 0
    rw [Hv.out] at c0
    obtain ⟨a', cap', ev, _, hcell⟩ := rfL_cells (rf_sls (owns_updD H.out.2.1 HI.out.1.2 (fun _ _ e => e)))
    rw [Hv.out] at ev
    simp only [Value.slice.injEq, true_and] at ev
    obtain ⟨rfl, rfl⟩ := ev
    clear h'
    by_cases hlt : k < l.length
    · rcases hcell with hnil | ⟨b, off, rfl, _, _, hc⟩
      · rw [hnil] at hlt; simp at hlt
      obtain ⟨d0, d1, d2⟩ := hc k hlt
      have htk : l.take (k + 1) = l.take k ++ [l[k]] := List.take_succ_eq_append_getElem hlt
      have Htk := Lib.hid htk
      have hfl : ((l.take k).filter (fun p => !(p.1 == f))).length ≤ 16 := Nat.le_trans (List.length_filter_le _ _) (by rw [List.length_take]; omega)
      have Hfl := Lib.hid hfl
      have y0 := fun i : Later wr => later_cell i d0
      have yc := fun i : Later wr => later_cell i c0
      have yb := fun i : Later wr => (show i.1.cell? ⟨w.heap.size, 0, none⟩ = some (.int .i64 f) by rw [cells_cell (i.nw.keep HI.out.2)]; rfl)
      clear hc htk hfl
      generalize l[k] = y at *
      obtain ⟨yf, yn, yl⟩ := y
      dsimp only at d0 d1 d2 y0
      by_cases hyf : yf = f
      · have hz : Hid (∀ z, Nw wr z → SetI w l f (k + 1) (.slice av ((l.take k).filter (fun p => !(p.1 == f))).length cv) z) := fun z u => by
          unfold SetI
          rw [Htk.out, List.filter_append]
          have : List.filter (fun p : Int × Dk.Fil => !(p.1 == f)) [(yf, ⟨yn, yl⟩)] = [] := by simp [hyf]
          rw [this, List.append_nil]
          exact ⟨owns_updD HI.out.1.1 u (fun _ _ e => e), HI.out.1.2.trans u⟩
        have hb : (yf != f) = false := by simp [hyf]
        have hb2 : (yf == f) = true := by simp [hyf]
        clear hyf
        go_wp2_with fail
        refine wp_region_nw (by kernel_rfl) (by kernel_rfl) ?_
        repeat (go_big_quiet_step ((fail)))
        refine wpQuiet_nil ?_
        intro wq uq
        replace uq := later_out uq
        have hz2 := Lib.hid (And.intro (hz.out wq uq) (uq.keep HI.out.2))
        clear hz uq
        go_wp2_with fail
        go_roundw
        case rel => exact ⟨k + 1, by omega, by go_num, hz2.out⟩
        case measure => simp [intOf]; omega
      · have hz : Hid (∀ v' z', z'.ownsRow (w.heap.size + 1) tRFile 3 v' (((l.take k).filter (fun p => !(p.1 == f))).length + 1) (flatR ((l.take k).filter (fun p => !(p.1 == f))) ++ rfL (yf, ⟨yn, yl⟩)) → Nw w z' → SetI w l f (k + 1) v' z') := fun v' z' h1 h2 => by
          unfold SetI
          rw [Htk.out, List.filter_append]
          have : List.filter (fun p : Int × Dk.Fil => !(p.1 == f)) [(yf, ⟨yn, yl⟩)] = [(yf, ⟨yn, yl⟩)] := by simp [hyf]
          rw [this, List.length_append, flatR_snoc]
          exact ⟨h1, h2⟩
        have hb : (yf != f) = true := by simp [hyf]
        have hb2 : (yf == f) = false := by simp [hyf]
        clear hyf
        go_wp2_with fail
        refine wp_region_nw (by kernel_rfl) (by kernel_rfl) ?_
        repeat (go_big_quiet_step ((fail)))
        refine wpQuiet_nil ?_
        intro wq uq
        replace uq := later_out uq
        have c0q := (⟨wq, uq⟩ : Later wr)
        have e0 := yc ⟨wq, uq⟩
        have e1 := y0 ⟨wq, uq⟩
        have e2 := later_cell (⟨wq, uq⟩ : Later wr) d1
        have e3 := later_cell (⟨wq, uq⟩ : Later wr) d2
        dsimp only at e0 e1 e2 e3
        have Hq := Lib.hid (And.intro (owns_updD HI.out.1.1 uq (fun _ _ e => e)) (And.intro (HI.out.1.2.trans uq) (uq.keep HI.out.2)))
        have hWq : w.heap.size + 1 ≤ wq.heap.size := lt_of_block Hq.out.2.2
        have hgb1 : nG ≤ w.heap.size + 1 := by omega
        clear uq y0 yc yb c0q c0 d0 d1 d2
        go_wp2_with (at_builtin; refine wpList_appL rfl _ _ 76 rfl (w.heap.size + 1) tRFile _ 3 40 Tryz.underlying76 infoRFile rfl (by decide) _ _ _ rfl Hq.out.1 (rfL (yf, ⟨yn, yl⟩)) rfl rfl (rfL_one _) ?c2 ?c3 hWq hgb1 ?_)
        case c2 => have := Hfl.out; unfold maxLen; omega
        case c3 => have := Hfl.out; omega
        intro v' w6 o6 u6 hob
        have hz2 : Hid (SetI w l f (k + 1) v' w6 ∧ w6.heap[w.heap.size]? = some (.cells #[.int .i64 f, .string ⟨x.now.toArray⟩, .string ⟨x.last.toArray⟩] tRFile (0, 0))) :=
          ⟨hz.out v' w6 o6 (Hq.out.2.1.trans' u6 (fun j hj e => by have := (Hq.out.1.lt j e).1; omega)), u6.keep Hq.out.2.2 (fun e => by have := (Hq.out.1.lt _ e).1; omega)⟩
        clear hz o6 u6 hob
        go_wp2_with fail
        go_roundw
        case rel => exact ⟨k + 1, by omega, by go_num, hz2.out⟩
        case measure => simp [intOf]; omega
    · obtain rfl : k = l.length := by omega
      have hgw : nG ≤ w.heap.size + 1 := by omega
      obtain ⟨q0, q1, q2⟩ : wr.cell? ⟨w.heap.size, 0, none⟩ = some (.int .i64 f) ∧ wr.cell? ⟨w.heap.size, 1, none⟩ = some (.string ⟨x.now.toArray⟩) ∧ wr.cell? ⟨w.heap.size, 2, none⟩ = some (.string ⟨x.last.toArray⟩) := by
        refine ⟨?_, ?_, ?_⟩ <;> (rw [cells_cell HI.out.2]; rfl)
      have hWr : w.heap.size + 1 ≤ wr.heap.size := lt_of_block HI.out.2
      have hfl : ((l.take l.length).filter (fun p => !(p.1 == f))).length ≤ 16 := Nat.le_trans (List.length_filter_le _ _) (by rw [List.length_take]; omega)
      have Hfl := Lib.hid hfl
      have hrbg : nG ≤ r.rb := Nat.le_trans H.out.1.hb H.out.1.rb
      clear hcell hfl
      go_wp2_with (at_builtin; refine wpList_appL rfl _ _ 76 rfl (w.heap.size + 1) tRFile _ 3 40 Tryz.underlying76 infoRFile rfl (by decide) _ _ _ rfl HI.out.1.1 (rfL (f, x)) rfl rfl (rfL_one _) ?c2 ?c3 hWr hgw ?_)
      case c2 => have := Hfl.out; unfold maxLen; omega
      case c3 => have := Hfl.out; omega
      intro v' w6 o6 u6 hob
      obtain ⟨a6, c6, rfl⟩ := own_slD o6
      have hI1 := HI.out.1.1
      rw [List.take_length] at hI1
      have U6 : Nw w w6 := HI.out.1.2.trans' u6 (fun j hj e => by have := (hI1.lt j e).1; omega)
      have c06 := (H.out.1.nw U6).cells.1
      have f06 := (H.out.1.nw U6).frozen 0
      have hdone := files_done (D' := { D with fs := Dk.setF D.fs f x }) (l' := putR l f x) H.out.1 U6 (Nat.le_succ _) (by unfold putR; rw [flatR_snoc, List.length_append]; exact o6) H.out.2.2.2.1 (H.out.2.2.1.put hf x) rfl rfl rfl rfl rfl H.out.2.2.2.2
      have Hd := Lib.hid hdone
      clear hdone o6 u6 hob U6 HI q0 q1 q2 hI1
      go_wp2_with fail
      go_end0
      exact ⟨rfl, Hd.out⟩
theorem note_done_r {ws : World} {v' : Value} {p : Int × Int} {T : Nat → Prop} (h : RDAt B w r D) (us : Upd (fun k => r.qv.ownBlock = some k) w ws) (hown : ws.ownsRow B tRSec 2 v' (D.q.length + 1) (flatQ D.q ++ secL p)) (hob : ∀ k, v'.ownBlock = some k → r.qv.ownBlock = some k ∨ w.heap.size ≤ k)
    (hk : Dk.Ok { D with q := D.q ++ [p] }) : RDTo B r { D with q := D.q ++ [p] } w (ws.setCell ⟨r.rb, 1, none⟩ v') := by
  have hg : nG ≤ r.rb := Nat.le_trans h.hb h.rb
  have e2 : Upd (fun k => k = r.rb) ws (ws.setCell ⟨r.rb, 1, none⟩ v') := Upd.set1 (Upd.refl _ _) hg 1 _
  have hrq : r.qv.ownBlock ≠ some r.rb := own_blk h.queue h.blk (by decide)
  obtain ⟨lf, hlf, hsf⟩ := h.files
  have hrf : r.fv.ownBlock ≠ some r.rb := own_blk hlf h.blk (by decide)
  have hrk : r.kv.ownBlock ≠ some r.rb := own_blk h.keep h.blk (by decide)
  have hvr : v'.ownBlock ≠ some r.rb := fun e => by
    rcases hob _ e with e | e
    · exact hrq e
    · have := (h.foot_lt (Or.inl rfl)).2; omega
  refine ⟨⟨r.rb, r.fv, v', r.kv⟩, ⟨h.hb, h.rb, ?_, ?_, ?_, ?_, hk, h.kI⟩, rfl, ?_, ?_⟩
  · exact setCell_block (us.keep h.blk hrq) 1 v'
  · exact ⟨lf, owns_updD (owns_updD hlf us (fun k hk e => own_typ hlf h.queue (by decide) hk e)) e2 (fun k hk e => hrf (by rw [← e]; exact hk)), hsf⟩
  · have := owns_updD hown e2 (fun k hk e => hvr (by rw [← e]; exact hk))
    dsimp only
    rw [List.length_append, flatQ_snoc]
    exact this
  · exact owns_updD (owns_updD h.keep us (fun k hk e => own_typ h.keep h.queue (by decide) hk e)) e2 (fun k hk e => hrk (by rw [← e]; exact hk))
  · exact (us.mono (fun k _ e => Or.inr (Or.inr (Or.inl e)))).trans' e2 (fun k _ e => Or.inl e)
  · rintro j (e | e | e | e)
    · exact Or.inl (Or.inl e)
    · exact Or.inl (Or.inr (Or.inl e))
    · exact (hob j e).imp (fun e => Or.inr (Or.inr (Or.inl e))) id
    · exact Or.inl (Or.inr (Or.inr (Or.inr e)))
theorem infoRSec : (Tryz.prog.info? tRSec).map (fun i => (i.zero, i.size, i.bytes)) = some (some (.agg #[.int .i64 0, .int .i64 0]), 2, 16) := by kernel_rfl
set_option maxHeartbeats 4000000 in
set_option maxRecDepth 100000 in
theorem add_r (h : RDAt B w r D) (g : Gl w) (hB : B ≤ w.heap.size) {f : Int} (hf : 0 ≤ f ∧ f < 16) {i : Nat} (s : List UInt8) (hi : i + s.length ≤ 16777216) :
    Calls Tryz.prog 136 #[.pointer (some ⟨r.rb, 0, none⟩), .int .i64 f, .int .i64 i, .string ⟨s.toArray⟩] w fun e w' => e = .returned (.tuple #[]) ∧ RDTo B r (Dk.add D f i s) w w' := by
  have hgb := g.big
  by_cases hs : s = []
  · subst hs
    have hr : Hid (RDTo B r (Dk.add D f i []) w w) := RDTo.of_nw h (Upd.refl _ _)
    clear h
    go_enter Tryz.func136, Tryz.ntmps136
    go_wp2_with fail
    (try simp only [Exit.inBlock, Exit.then])
    refine bodyPost_ret (results_none rfl _ _ _) rfl ?_
    exact ⟨rfl, hr.out⟩
  have hse : s.isEmpty = false := by cases s with | nil => exact absurd rfl hs | cons _ _ => rfl
  have hse2 : (s == ([] : List UInt8)) = false := by cases s with | nil => exact absurd rfl hs | cons _ _ => rfl
  have hsl := List.length_pos_iff.2 hs
  have HK := Lib.hid (fun k => Dk.addK_ok h.ok (f := f) hs hf hi k)
  have Hall := Lib.hid (Dk.addK_all (D := D) (f := f) (i := i) hs)
  have hg1 := Lib.hid (get_r h f)
  have H := Lib.hid (And.intro h (And.intro hB hi))
  have hnl : Hid ((D.fs f).now.length ≤ 16777216) := h.ok.now f
  obtain ⟨fi, hfe⟩ : ∃ x, x = D.fs f := ⟨_, rfl⟩
  have Hfe := Lib.hid hfe
  rw [← hfe] at hg1 hnl
  obtain ⟨N, M⟩ := fi
  dsimp only at hg1 hnl
  obtain ⟨m, hm⟩ : ∃ m, m = (Dk.secs i s.length).length := ⟨_, rfl⟩
  have hml := hm
  rw [Dk.secs_len] at hml
  have hme : ((i : Int) + s.length - 1) / 64 = (((i + s.length - 1) / 64 : Nat) : Int) := by omega
  have hms : Hid (i / 64 + m = (i + s.length - 1) / 64 + 1) := by show _ = _; rw [hml]; omega
  have hm3 : (i + s.length - 1) / 64 ≤ 262144 := by omega
  obtain ⟨la, hla⟩ : ∃ la, la = (i + s.length - 1) / 64 := ⟨_, rfl⟩
  rw [← hla] at hme hms hm3
  have hla3 : (la : Int) ≤ 262144 := by omega
  have hi6 : (i : Int) / 64 = ((i / 64 : Nat) : Int) := by omega
  obtain ⟨fa, hfa⟩ : ∃ fa, fa = i / 64 := ⟨_, rfl⟩
  rw [← hfa] at hi6 hms
  have hfa3 : (fa : Int) ≤ 262144 := by omega
  have Hfa := Lib.hid hfa
  have Hm := Lib.hid hm
  have hbi : (i : Int) + s.length ≤ 16777216 := by omega
  have hb1 : (1 : Int) ≤ s.length := by omega
  clear h hs hm hml hla hfe hfa hi hsl
  go_enter Tryz.func136, Tryz.ntmps136
  go_wp2_with fail
  (with_reducible refine (hg1.out).mono ?_)
  rintro _ w1 ⟨rfl, u1⟩
  have n2 := nw_alloc w1 (.cells #[.int .i64 f, .string ⟨N.toArray⟩, .string ⟨M.toArray⟩] tRFile)
  have k2 := heap_new w1 (.cells #[.int .i64 f, .string ⟨N.toArray⟩, .string ⟨M.toArray⟩] tRFile)
  have K2 := Lib.hid (And.intro n2 k2)
  have U1 := Lib.hid u1
  have hgl1 := g.upd u1
  have hP := Lib.hid (Put_r N s i _ (hgl1.upd n2) hnl.out H.out.2.2)
  clear n2 k2 u1 hg1
  go_wp2_with fail
  (with_reducible refine (hP.out).mono ?_)
  rintro _ w3 ⟨rfl, u3⟩
  have B3 := u3.keep K2.out.2
  obtain ⟨b30, b31, b32⟩ : w3.cell? ⟨w1.heap.size, 0, none⟩ = some (.int .i64 f) ∧ w3.cell? ⟨w1.heap.size, 1, none⟩ = some (.string ⟨N.toArray⟩) ∧ w3.cell? ⟨w1.heap.size, 2, none⟩ = some (.string ⟨M.toArray⟩) := by
    refine ⟨?_, ?_, ?_⟩ <;> (rw [cells_cell B3]; rfl)
  have b3f := cells_frozen B3 1
  have hG3 := hgl1.upd (K2.out.1.trans u3)
  have hgw1 : nG ≤ w1.heap.size := hgl1.big
  obtain ⟨w4, hw4⟩ : ∃ z, z = w3.setCell ⟨w1.heap.size, 1, none⟩ (.string ⟨(Dk.put N i s).toArray⟩) := ⟨_, rfl⟩
  have u4 : Nw w w4 := ((U1.out.trans K2.out.1).trans u3).trans' (by rw [hw4]; exact Upd.set1 (Upd.refl _ _) hgw1 1 _) (fun k hk e => by have := U1.out.size; omega)
  have hk0 : Dk.Ok { D with fs := Dk.setF D.fs f ⟨Dk.put N i s, M⟩ } := by
    have := HK.out 0
    unfold Dk.addK at this
    rw [← Hfe.out] at this
    exact this
  have hset := set_r (H.out.1.nw u4) (g.upd u4) (Nat.le_trans H.out.2.1 u4.size) hf ⟨Dk.put N i s, M⟩ hk0
  have he0 : ({ D with fs := Dk.setF D.fs f ⟨Dk.put N i s, M⟩ } : Dk.Disk) = Dk.addK D f i s 0 := by
    unfold Dk.addK
    rw [← Hfe.out]
    rfl
  rw [he0, hw4] at hset
  have Hset := Lib.hid hset
  have U4 := Lib.hid u4
  rw [hw4] at U4
  clear hset he0 hk0 u4 hw4 u3 B3 hP K2
  go_wp2_with fail
  (with_reducible refine (Hset.out).mono ?_)
  rintro _ w5 ⟨rfl, h5⟩
  have hI0 : Hid (RDTo B r (Dk.addK D f i s 0) w w5) := RDTo.after U4.out h5.to
  clear Hset h5 U4 b30 b31 b32 b3f
  go_wp2_with fail
  go_loopw [9] (fun iv wr => ∃ k n : Nat, Hid (n = fa + k) ∧ k ≤ m ∧ iv = .int .i64 (n : Nat) ∧ Hid (RDTo B r (Dk.addK D f i s k) w wr)) (fun iv _ => la + 1 - (intOf iv).toNat)
  case atStart => exact ⟨0, fa, rfl, Nat.zero_le _, rfl, hI0.out⟩
  case round =>
    obtain ⟨k, n, Hn, hk, rfl, HI⟩ := hrel
    obtain ⟨⟨rb1, fv, qv, kv⟩, h1, h2, h3, h4⟩ := HI.out
    dsimp only at h2
    subst h2
    obtain ⟨aq, cq, hqv⟩ := own_slD h1.queue
    dsimp only at hqv
    subst hqv
    obtain ⟨_, c1, _⟩ := h1.cells
    dsimp only at c1
    have hBw := Nat.le_trans H.out.2.1 h3.size
    have hgB := h1.hb
    have hq4 := h1.ok.q_len
    have HH := Lib.hid (And.intro h1 (And.intro h3 h4))
    have hp := pending_r h1 f (n : Int)
    dsimp only at hp
    have Hq4 := Lib.hid hq4
    clear h1 h3 h4 hq4
    by_cases hlt : k < m
    · have hn1 : (n : Int) ≤ la := by have := hms.out; have := Hn.out; omega
      have hsucc := Dk.addK_succ (D := D) (f := f) (i := i) (s := s) (k := k) (by rw [← Hm.out]; exact hlt)
      rw [← Hfa.out, ← Hn.out] at hsucc
      cases hin : decide ((f, (n : Int)) ∈ (Dk.addK D f i s k).q) with
      | true =>
        rw [hin] at hp
        rw [Dk.addS_in (of_decide_eq_true hin)] at hsucc
        have Hp := Lib.hid hp
        have hz : Hid (RDTo B r (Dk.addK D f i s (k + 1)) w wr) := by
          show RDTo _ _ _ _ _
          rw [hsucc]; exact HI.out
        clear hp hin hsucc
        generalize Dk.addK D f i s k = Dk1 at *
        go_wp2_with fail
        (with_reducible refine (Hp.out).mono ?_)
        rintro _ _ ⟨rfl, rfl⟩
        go_wp2_with fail
        go_roundw
        case rel => exact ⟨k + 1, n + 1, (by show _ = _; have := Hn.out; omega), by omega, by go_num, hz.out⟩
        case measure => simp [intOf]; omega
      | false =>
        rw [hin] at hp
        rw [Dk.addS_out (of_decide_eq_false hin)] at hsucc
        have Hp := Lib.hid hp
        have hk1 := HK.out (k + 1)
        rw [hsucc] at hk1
        have Hs := Lib.hid (And.intro hsucc hk1)
        clear hp hin hsucc hk1
        generalize hE : Dk.addK D f i s (k + 1) = Dk2 at *
        have HE := Lib.hid hE
        clear hE
        generalize Dk.addK D f i s k = Dk1 at *
        go_wp2_with fail
        (with_reducible refine (Hp.out).mono ?_)
        rintro _ _ ⟨rfl, rfl⟩
        go_wp2_with (at_builtin; refine wpList_appL rfl _ _ 77 rfl B tRSec _ 2 16 Tryz.underlying77 infoRSec rfl (by decide) _ _ _ rfl HH.out.1.queue (secL (f, (n : Int))) rfl rfl ?c1 ?c2 ?c3 hBw hgB ?_)
        case c1 =>
          intro u hu
          simp only [secL, List.mem_cons, List.not_mem_nil, or_false] at hu
          rcases hu with rfl | rfl <;> rfl
        case c2 => have := Hq4.out; unfold maxLen; omega
        case c3 => have := Hq4.out; omega
        intro v' w6 o6 u6 hob
        obtain ⟨a6, c6, rfl⟩ := own_slD o6
        have b6 := u6.keep HH.out.1.blk (own_blk HH.out.1.queue HH.out.1.blk (by decide))
        have f16 := cells_frozen b6 1
        have c16 : w6.cell? ⟨r.rb, 1, none⟩ = some (.slice aq Dk1.q.length cq) := by rw [cells_cell b6]; rfl
        have hd := note_done_r (T := fun _ => True) HH.out.1 u6 o6 hob Hs.out.2
        have hz : Hid (RDTo B r Dk2 w (w6.setCell ⟨r.rb, 1, none⟩ (.slice a6 (Dk1.q.length + 1) c6))) := by
          show RDTo _ _ _ _ _
          rw [Hs.out.1]
          exact RDTo.then_ H.out.1 HH.out.1 rfl HH.out.2.1 HH.out.2.2 hd
        clear hd b6 o6 u6 hob
        go_wp2_with fail
        go_roundw
        case rel => exact ⟨k + 1, n + 1, (by show _ = _; have := Hn.out; omega), by omega, by go_num, (by show RDTo _ _ _ _ _; rw [HE.out]; exact hz.out)⟩
        case measure => simp [intOf]; omega
    · obtain rfl : k = m := by omega
      have hn1 : ¬ (n : Int) ≤ la := by have := hms.out; have := Hn.out; omega
      have hz : Hid (RDTo B r (Dk.add D f i s) w wr) := by
        show RDTo _ _ _ _ _
        rw [← Hall.out, ← Hm.out]; exact HI.out
      clear hp
      go_wp2_with fail
      go_end0
      exact ⟨rfl, hz.out⟩
end
end Go.Proofs.YtiednpagknnfnaaGreatDoor
namespace Go.Proofs.YtiednpagknnfnaaGreatDoor
open Go.RowKit
attribute [local irreducible] Calls
namespace Dk
def surv1 (fs : Int → Fil) (p : Int × Int) : Int → Fil :=
  if 64 * p.2.toNat < (fs p.1).now.length then setF fs p.1 ⟨(fs p.1).now, put (fs p.1).last (64 * p.2.toNat) (((fs p.1).now.drop (64 * p.2.toNat)).take 64)⟩ else fs
theorem setF_same (fs : Int → Fil) (f : Int) : setF fs f (fs f) = fs := by
  funext g
  unfold setF
  split
  · rename_i e; rw [e]
  · rfl
theorem survive_odd {keep : List Int} {i : Nat} {fs : Int → Fil} {p : Int × Int} (h : odd keep i = true) : survive keep fs p i = surv1 fs p := by
  unfold survive surv1
  by_cases hl : 64 * p.2.toNat < (fs p.1).now.length
  · rw [if_pos ⟨h, hl⟩, if_pos hl]
  · rw [if_neg (fun e => hl e.2), if_neg hl]
end Dk
theorem Put_g (sb tb : ByteArray) (s t : List UInt8) (i' : Int) (i : Nat) (h1 : sb.data.toList = s) (h2 : tb.data.toList = t) (h3 : i' = i) (w : World) (g : Gl w) (hs : s.length ≤ 16777216) (hi : i + t.length ≤ 16777216) :
    Calls Tryz.prog 76 #[.string sb, .int .i64 i', .string tb] w fun e w' => e = .returned (.string ⟨(Dk.put s i t).toArray⟩) ∧ Nw w w' := by
  subst h1 h2 h3
  rw [← bs_eta sb, ← bs_eta tb, bs_list, bs_list]
  exact Put_r sb.data.toList tb.data.toList i w g hs hi
section
variable {B : Nat} {w w1 : World} {r : RdR} {D D' : Dk.Disk}
set_option maxHeartbeats 4000000 in
set_option maxRecDepth 100000 in
theorem survive_r (h : RDAt B w r D) (g : Gl w) (hB : B ≤ w.heap.size) {f : Int} (hf : 0 ≤ f ∧ f < 16) {n : Nat} (hn : n ≤ 262144) (hk : Dk.Ok { D with fs := Dk.surv1 D.fs (f, (n : Int)) }) :
    Calls Tryz.prog 48 #[.pointer (some ⟨r.rb, 0, none⟩), .agg #[.int .i64 f, .int .i64 n]] w fun e w' => e = .returned (.tuple #[]) ∧ RDS B r { D with fs := Dk.surv1 D.fs (f, (n : Int)) } w w' := by
  have hgb := g.big
  have n1 := nw_alloc w (.cells #[.int .i64 f, .int .i64 n] tRSec)
  have k1 := heap_new w (.cells #[.int .i64 f, .int .i64 n] tRSec)
  have hg1 := Lib.hid (get_r (h.nw n1) f)
  have hnl := h.ok.now f
  have hll := h.ok.last f
  obtain ⟨fi, hfe⟩ : ∃ x, x = D.fs f := ⟨_, rfl⟩
  have hsv : Dk.surv1 D.fs (f, (n : Int)) = Dk.setF D.fs f (if 64 * n < fi.now.length then ⟨fi.now, Dk.put fi.last (64 * n) ((fi.now.drop (64 * n)).take 64)⟩ else fi) := by
    unfold Dk.surv1
    dsimp only
    rw [hfe, Int.toNat_natCast]
    split
    · rfl
    · rw [Dk.setF_same]
  rw [hsv] at hk
  have Hsv := Lib.hid hsv
  rw [← hfe] at hg1 hnl hll
  obtain ⟨N, M⟩ := fi
  dsimp only at hg1 hnl hll hk
  have H := Lib.hid (And.intro h (And.intro hB hk))
  have K1 := Lib.hid (And.intro n1 k1)
  have Hnl := Lib.hid (And.intro hnl hll)
  have hn1 : (n : Int) ≤ 262144 := by omega
  have hN1 : (N.length : Int) ≤ 16777216 := by omega
  clear h hB n1 k1 hfe hsv hk hnl hll
  go_enter Tryz.func48, Tryz.ntmps48
  go_wp2_with fail
  (with_reducible refine (hg1.out).mono ?_)
  rintro _ w2 ⟨rfl, u2⟩
  have n3 := nw_alloc w2 (.cells #[.int .i64 f, .string ⟨N.toArray⟩, .string ⟨M.toArray⟩] tRFile)
  have k3 := heap_new w2 (.cells #[.int .i64 f, .string ⟨N.toArray⟩, .string ⟨M.toArray⟩] tRFile)
  have b2 := u2.keep K1.out.2
  obtain ⟨w3, hw3⟩ : ∃ z, z = w2.alloc (.cells #[.int .i64 f, .string ⟨N.toArray⟩, .string ⟨M.toArray⟩] tRFile) := ⟨_, rfl⟩
  rw [← hw3] at n3 k3
  have b3 := n3.keep b2
  have U3 := Lib.hid ((K1.out.1.trans u2).trans n3)
  have hw2 : w.heap.size < w2.heap.size := lt_of_block b2
  have hgw2 : nG ≤ w2.heap.size := by omega
  obtain ⟨c0, c1⟩ := cell2D b2
  have K3 := Lib.hid (And.intro k3 b3)
  have HW3 := Lib.hid hw3
  clear n3 k3 b2 b3 hw3 u2 hg1
  by_cases hlt : 64 * n < N.length
  rotate_left
  · have h1 : ¬ (64 : Int) * n < N.length := by omega
    have hset := set_r (H.out.1.nw U3.out) (g.upd U3.out) (Nat.le_trans H.out.2.1 U3.out.size) hf ⟨N, M⟩ (by have := H.out.2.2; rw [if_neg hlt] at this; exact this)
    have hres : Hid (∀ z, RDS B r { D with fs := Dk.setF D.fs f ⟨N, M⟩ } w3 z → RDS B r { D with fs := Dk.surv1 D.fs (f, (n : Int)) } w z) := fun z hz => by
      rw [Hsv.out, if_neg hlt]
      exact hz.after U3.out
    rw [HW3.out] at hset
    have Hset := Lib.hid hset
    rw [HW3.out] at hres
    clear hset hlt
    go_wp2_with fail
    (with_reducible refine (Hset.out).mono ?_)
    rintro _ w5 ⟨rfl, h5⟩
    have hz := Lib.hid (hres.out _ h5)
    clear h5
    go_wp2_with fail
    go_end0
    exact ⟨rfl, hz.out⟩
  · have h1 : (64 : Int) * n < N.length := by omega
    have Hlt := Lib.hid hlt
    have hset := fun (z : World) (u : Nw w z) => set_r (H.out.1.nw u) (g.upd u) (Nat.le_trans H.out.2.1 u.size) hf ⟨N, Dk.put M (64 * n) ((N.drop (64 * n)).take 64)⟩ (by have := H.out.2.2; rw [if_pos hlt] at this; exact this)
    have hres : Hid (∀ w4 z, Nw w w4 → RDS B r { D with fs := Dk.setF D.fs f ⟨N, Dk.put M (64 * n) ((N.drop (64 * n)).take 64)⟩ } w4 z → RDS B r { D with fs := Dk.surv1 D.fs (f, (n : Int)) } w z) := fun w4 z u hz => by
      rw [Hsv.out, if_pos hlt]
      exact hz.after u
    have hext : (({ data := N.toArray } : ByteArray).extract ((64 : Int) * n).toNat (min ((64 : Int) * n + 64) (N.length : Int)).toNat).data.toList = (N.drop (64 * n)).take 64 := by
      rw [bs_extract, bs_list]
      rw [show ((64 : Int) * n).toNat = 64 * n by omega]
      by_cases hc : n * 64 + 64 ≤ N.length
      · rw [show (min ((64 : Int) * n + 64) (N.length : Int)).toNat - 64 * n = 64 by omega]
      · rw [List.take_of_length_le (by rw [List.length_drop]; omega), List.take_of_length_le (by rw [List.length_drop]; omega)]
    have Hset := Lib.hid hset
    have Hext := Lib.hid hext
    clear hset hext hlt
    go_upto_region 3 with fail
    rw [← HW3.out]
    obtain ⟨e0, e1, e2⟩ : w3.cell? ⟨w2.heap.size, 0, none⟩ = some (.int .i64 f) ∧ w3.cell? ⟨w2.heap.size, 1, none⟩ = some (.string ⟨N.toArray⟩) ∧ w3.cell? ⟨w2.heap.size, 2, none⟩ = some (.string ⟨M.toArray⟩) := by
      refine ⟨?_, ?_, ?_⟩ <;> (rw [cells_cell K3.out.1]; rfl)
    obtain ⟨_, e3⟩ := cell2D K3.out.2
    have y1 := fun i : Later w3 => later_cell i e1
    have y2 := fun i : Later w3 => later_cell i e2
    have y3 := fun i : Later w3 => later_cell i e3
    have hs0 : 0 ≤ (64 : Int) * n := by omega
    have hs1 : (64 : Int) * n ≤ min ((64 : Int) * n + 64) N.length := by omega
    have hs2 : min ((64 : Int) * n + 64) (N.length : Int) ≤ N.length := by omega
    have hw1 : IntKind.i64.wrap ((64 : Int) * n) = (64 : Int) * n := by rw [IntKind.wrap_i64]; omega
    have hw2' : IntKind.i64.wrap ((64 : Int) * n + 64) = (64 : Int) * n + 64 := by rw [IntKind.wrap_i64]; omega
    have hput := fun j : Later w3 => Put_g ⟨M.toArray⟩ _ M ((N.drop (64 * n)).take 64) ((64 : Int) * n) (64 * n) (bs_list M) Hext.out (by omega) j.1 (g.upd (U3.out.trans j.nw)) (by have := Hnl.out.2; omega) (by rw [List.length_take, List.length_drop]; omega)
    have Hput := Lib.hid hput
    clear hput e0 e1 e2 e3 c0 c1
    refine wp_region_nw_tail 20 (by kernel_rfl) (by kernel_rfl) ?_
    simp only [List.take_succ_cons, List.take_zero, List.drop_succ_cons, List.drop_zero]
    repeat (go_big_quiet_step ((go_at_call 76; exact later_call (Hput.out _))))
    refine wpQuiet_nil ?_
    intro w4 u4
    replace u4 := later_out u4
    have k4 := u4.keep K3.out.1
    obtain ⟨e0, e1, e2⟩ : w4.cell? ⟨w2.heap.size, 0, none⟩ = some (.int .i64 f) ∧ w4.cell? ⟨w2.heap.size, 1, none⟩ = some (.string ⟨N.toArray⟩) ∧ w4.cell? ⟨w2.heap.size, 2, none⟩ = some (.string ⟨M.toArray⟩) := by
      refine ⟨?_, ?_, ?_⟩ <;> (rw [cells_cell k4]; rfl)
    have f2 := cells_frozen k4 2
    generalize Dk.put M (64 * n) ((N.drop (64 * n)).take 64) = P at *
    have u5 : Nw w (w4.setCell ⟨w2.heap.size, 2, none⟩ (.string ⟨P.toArray⟩)) := (U3.out.trans u4).trans' (Upd.set1 (Upd.refl _ _) hgw2 2 _) (fun k hk e => by omega)
    have hset := Lib.hid (Hset.out _ u5)
    have U5 := Lib.hid u5
    clear k4 u4 u5 y1 y2 y3 Hput Hset
    go_wp2_with fail
    (with_reducible refine (hset.out).mono ?_)
    rintro _ w6 ⟨rfl, h6⟩
    have hz := Lib.hid (hres.out _ _ U5.out h6)
    clear h6
    go_wp2_with fail
    go_end0
    exact ⟨rfl, hz.out⟩
theorem RDAt.scal (h : RDAt B w r D) (i : Nat) (v : Value) (he : (rdC r D).setIfInBounds i v = rdC r D') (e1 : D'.fs = D.fs) (e2 : D'.q = D.q) (e3 : D'.keep = D.keep) (hk : Dk.Ok D') :
    RDAt B (w.setCell ⟨r.rb, i, none⟩ v) r D' ∧ Upd (fun k => k = r.rb) w (w.setCell ⟨r.rb, i, none⟩ v) := by
  have hg : nG ≤ r.rb := Nat.le_trans h.hb h.rb
  have us : Upd (fun k => k = r.rb) w (w.setCell ⟨r.rb, i, none⟩ v) := Upd.set1 (Upd.refl _ _) hg i _
  obtain ⟨l, hl, hs⟩ := h.files
  refine ⟨⟨h.hb, h.rb, by rw [← he]; exact setCell_block h.blk i v, ?_, ?_, ?_, hk, by rw [e3]; exact h.kI⟩, us⟩
  · rw [e1]; exact h.files.upd us (fun k hk e => own_blk hl h.blk (by decide) (by rw [← e]; exact hk))
  · rw [e2]; exact owns_updD h.queue us (fun k hk e => own_blk h.queue h.blk (by decide) (by rw [← e]; exact hk))
  · rw [e3]; exact owns_updD h.keep us (fun k hk e => own_blk h.keep h.blk (by decide) (by rw [← e]; exact hk))
def CrI (B : Nat) (w : World) (r : RdR) (D : Dk.Disk) (keep : List Int) (k : Nat) (z : World) : Prop :=
  ∃ fv, RDAt B z ⟨r.rb, fv, r.qv, r.kv⟩ (Dk.crashK D keep k) ∧ Upd (fun k => k = r.rb) w z ∧ ∀ k, fv.ownBlock = some k → r.fv.ownBlock = some k ∨ w.heap.size ≤ k
def lastR (l : List (Int × Dk.Fil)) : List (Int × Dk.Fil) := l.map fun p => (p.1, ⟨p.2.last, p.2.last⟩)
theorem lastR_says {l : List (Int × Dk.Fil)} {fs : Int → Dk.Fil} (h : SaysR l fs) : SaysR (lastR l) (fun f => ⟨(fs f).last, (fs f).last⟩) := by
  refine ⟨?_, fun p hp => ?_, fun f hf => ?_⟩
  · unfold lastR
    rw [List.map_map]
    exact h.nd
  · obtain ⟨q, hq, rfl⟩ := List.mem_map.1 hp
    obtain ⟨h1, h2⟩ := h.each q hq
    exact ⟨h1, by dsimp only; rw [h2]⟩
  · have := h.none f (fun p hp e => hf _ (List.mem_map.2 ⟨p, hp, rfl⟩) e)
    rw [this]; rfl
def OutI (w3 : World) (l : List (Int × Dk.Fil)) (k : Nat) (v : Value) (z : World) : Prop :=
  z.ownsRow w3.heap.size tRFile 3 v k (flatR (lastR (l.take k))) ∧ Nw w3 z
theorem survives_no (fs : Int → Dk.Fil) : ∀ (q : List (Int × Int)) (i : Nat), Dk.survives [] q i fs = fs := by
  intro q
  induction q with
  | nil => intro i; rfl
  | cons p q ih =>
    intro i
    show Dk.survives [] q (i + 1) (Dk.survive [] fs p i) = fs
    rw [Dk.odd_not (by unfold Dk.odd; rfl)]
    exact ih (i + 1)
theorem crash_fin {v' : Value} {B0 : Nat} {l' : List (Int × Dk.Fil)} (h : RDAt B w r D) (u : Nw w w1) (hB0 : w.heap.size ≤ B0) (hown : w1.ownsRow B0 tRFile 3 v' l'.length (flatR l')) (hB : B ≤ w.heap.size) (hs : SaysR l' D'.fs)
    (e1 : D'.q = []) (e2 : D'.lost = D.lost) (e3 : D'.down = D.down) (e4 : D'.armed = D.armed) (e5 : D'.keep = D.keep) (hk : Dk.Ok D') :
    RDTo B r D' w ((w1.setCell ⟨r.rb, 0, none⟩ v').setCell ⟨r.rb, 1, none⟩ (.slice none 0 0)) := by
  have h1 := h.nw u
  have hg : nG ≤ r.rb := Nat.le_trans h.hb h.rb
  have us : Upd (fun k => k = r.rb) w1 (w1.setCell ⟨r.rb, 0, none⟩ v') := Upd.set1 (Upd.refl _ _) hg 0 _
  have us2 : Upd (fun k => k = r.rb) (w1.setCell ⟨r.rb, 0, none⟩ v') ((w1.setCell ⟨r.rb, 0, none⟩ v').setCell ⟨r.rb, 1, none⟩ (.slice none 0 0)) := Upd.set1 (Upd.refl _ _) hg 1 _
  have hU := us.trans us2
  have hrw := (h.foot_lt (Or.inl rfl)).2
  refine ⟨⟨r.rb, v', .slice none 0 0, r.kv⟩, ⟨h.hb, h.rb, ?_, ?_, ?_, ?_, hk, by rw [e5]; exact h.kI⟩, rfl, (Nw.trans u hU).mono (fun k _ e => Or.inl e), ?_⟩
  · have := setCell_block (setCell_block h1.blk 0 v') 1 (.slice none 0 0)
    unfold rdC at this ⊢
    rw [e2, e3, e4]
    exact this
  · exact ⟨l', owns_base (owns_updD hown hU (fun k hk e => by have := (hown.lt k hk).1; omega)) (Nat.le_trans hB hB0), hs⟩
  · rw [e1]; exact World.ownsRow_nil _ _ _ _
  · rw [e5]
    exact owns_updD h1.keep hU (fun k hk e => own_blk h1.keep h1.blk (by decide) (by rw [← e]; exact hk))
  · rintro j (e | e | e | e)
    · exact Or.inl (Or.inl e)
    · exact Or.inr (Nat.le_trans hB0 (hown.lt j e).1)
    · cases e
    · exact Or.inl (Or.inr (Or.inr (Or.inr e)))
set_option maxHeartbeats 4000000 in
set_option maxRecDepth 100000 in
theorem crash_r (h : RDAt B w r D) (g : Gl w) (hB : B ≤ w.heap.size) (lo hi : Nat) (kvv : Value) (keep : List Int) (hk : ∀ z, Upd (fun j => j = r.rb) w z → Sl lo hi z kvv (keep.map intD)) (hkI : ∀ x ∈ keep, I64 x) :
    Calls Tryz.prog 18 #[.pointer (some ⟨r.rb, 0, none⟩), kvv] w fun e w' => e = .returned (.tuple #[]) ∧ RDTo B r (Dk.crash D keep) w w' := by
  have hgb := g.big
  obtain ⟨_, _, _, c3, c4, _⟩ := h.cells
  have f3 := h.frozen 3
  have H := Lib.hid h
  cases hd : D.down with
  | true =>
    have hr : Hid (RDTo B r (Dk.crash D keep) w w) := by
      show RDTo _ _ _ _ _
      unfold Dk.crash
      rw [hd, if_pos rfl]
      exact RDTo.of_nw h (Upd.refl _ _)
    rw [hd] at c3
    clear h hd
    go_enter Tryz.func18, Tryz.ntmps18
    go_wp2_with fail
    (try simp only [Exit.inBlock, Exit.then])
    refine bodyPost_ret (results_none rfl _ _ _) rfl ?_
    exact ⟨rfl, hr.out⟩
  | false =>
    rw [hd] at c3
    have Hce := Lib.hid (Dk.crash_eq hd keep)
    have hrbg : nG ≤ r.rb := Nat.le_trans h.hb h.rb
    obtain ⟨ak, ck, hkv, hkm, _⟩ := int_cells (hk w (Upd.refl _ _))
    subst hkv
    unfold maxLen at hkm
    have hkl : (keep.length : Int) ≤ 9223372036854775807 := by omega
    have hql := h.ok.q_len
    have hql1 : (D.q.length : Int) ≤ 4194304 := by omega
    obtain ⟨s1, v1⟩ := h.scal (D' := { D with down := true }) 3 (.bool true) rfl rfl rfl rfl ⟨h.ok.now, h.ok.last, h.ok.q, h.ok.nd, h.ok.lost, h.ok.armed⟩
    obtain ⟨s2, v2⟩ := s1.scal (D' := Dk.crashK D keep 0) 4 (.int .i64 0) rfl rfl rfl rfl (Dk.crashK_ok h.ok keep 0)
    have e4 : (w.setCell ⟨r.rb, 3, none⟩ (.bool true)).cell? ⟨r.rb, 4, none⟩ = some (.int .i64 D.armed) := s1.cells.2.2.2.2.1
    have e4f : (w.setCell ⟨r.rb, 3, none⟩ (.bool true)).frozen? ⟨r.rb, 4, none⟩ = false := s1.frozen 4
    have H0 : Hid (CrI B w r D keep 0 ((w.setCell ⟨r.rb, 3, none⟩ (.bool true)).setCell ⟨r.rb, 4, none⟩ (.int .i64 0))) := ⟨r.fv, s2, v1.trans v2, fun k hk => Or.inl hk⟩
    have Hk := Lib.hid hk
    have HkI := Lib.hid hkI
    have HB := Lib.hid hB
    clear h hd hk hkI hB hkm hql s1 s2 v1 v2
    go_enter Tryz.func18, Tryz.ntmps18
    go_wp2_with fail
    go_loopw [4] (fun iv wr => ∃ k : Nat, k ≤ D.q.length ∧ iv = .int .i64 k ∧ Hid (CrI B w r D keep k wr)) (fun iv _ => D.q.length - (intOf iv).toNat)
    case atStart => exact ⟨0, Nat.zero_le _, rfl, H0.out⟩
    case round =>
      obtain ⟨k, hk, rfl, HI⟩ := hrel
      obtain ⟨fv, h1, h2, h3⟩ := HI.out
      obtain ⟨aq, cq, hqv, _, hcell⟩ := secD_cells (rs_sls h1.queue)
      obtain ⟨_, c1, _⟩ := h1.cells
      dsimp only at hqv c1
      rw [hqv] at c1
      have hlen : (Dk.crashK D keep k).q.length = D.q.length := rfl
      rw [hlen] at c1
      have HH := Lib.hid (And.intro h1 (And.intro h2 h3))
      obtain ⟨ak2, ck2, e2, _, hkc⟩ := int_cells (Hk.out wr h2)
      simp only [Value.slice.injEq, true_and] at e2
      obtain ⟨rfl, rfl⟩ := e2
      clear h1 h2 h3 HI hlen hqv
      by_cases hgo : k < D.q.length ∧ 0 < keep.length
      · obtain ⟨hlt, hk0⟩ := hgo
        have hk1 : (0 : Int) < keep.length := by omega
        rcases hcell with hnil | ⟨b, off, rfl, _, _, hc⟩
        · exfalso
          have : D.q = [] := hnil
          rw [this] at hlt; simp at hlt
        obtain ⟨d0, d1⟩ := hc k hlt
        have e0 : (Dk.crashK D keep k).q[k] = D.q[k] := rfl
        rw [e0] at d0 d1
        rcases hkc with hnil | ⟨bk, ok, rfl, _, _, hkc⟩
        · rw [hnil] at hk0; simp at hk0
        have hklt : k % keep.length < keep.length := Nat.mod_lt _ (by omega)
        have z0 := hkc _ hklt
        have hke : ((keep.length : Int) == 0) = false := beq_eq_false_iff_ne.2 (by omega)
        have hbx := and1 keep[k % keep.length]
        have hodd : Dk.odd keep k = decide (keep[k % keep.length] % 2 = 1) := by
          unfold Dk.odd
          rw [decide_eq_true (show keep ≠ [] from fun e => by rw [e] at hk0; simp at hk0), Bool.true_and, List.getD_eq_getElem?_getD, List.getElem?_eq_getElem hklt]
          rfl
        have hfs := Dk.crashK_succ (keep := keep) hlt
        have hnext : Hid (Dk.crashK D keep (k + 1) = { Dk.crashK D keep k with fs := Dk.survive keep (Dk.crashK D keep k).fs D.q[k] k }) := by
          show _ = _
          rw [← hfs]; rfl
        have hp := H.out.ok.q (D.q[k]) (List.getElem_mem hlt)
        have hOk1 := Lib.hid (Dk.crashK_ok H.out.ok keep (k + 1))
        clear hkc hc e0 hfs
        generalize keep[k % keep.length] = x at *
        generalize D.q[k] = p at *
        obtain ⟨pf, pn⟩ := p
        dsimp only at d0 d1 hp
        by_cases hx : x % 2 = 1
        rotate_left
        · have hod : Hid (Dk.odd keep k = false) := by show _ = _; rw [hodd, decide_eq_false hx]
          have hb0 : bits .and .i64 x 1 = 0 := by rw [hbx]; omega
          have hz : Hid (CrI B w r D keep (k + 1) wr) := by
            refine ⟨fv, ?_, HH.out.2.1, HH.out.2.2⟩
            rw [hnext.out, Dk.odd_not hod.out]
            exact HH.out.1
          clear hodd hx hbx hp hnext
          go_wp2_with fail
          go_roundw
          case rel => exact ⟨k + 1, by omega, by go_num, hz.out⟩
          case measure => simp [intOf]; omega
        · have hod : Hid (Dk.odd keep k = true) := by show _ = _; rw [hodd, decide_eq_true hx]
          have hb0 : bits .and .i64 x 1 = 1 := by rw [hbx]; omega
          obtain ⟨m, rfl⟩ : ∃ m : Nat, pn = m := ⟨pn.toNat, by omega⟩
          have hsv := survive_r HH.out.1 (g.upd HH.out.2.1) (Nat.le_trans HB.out HH.out.2.1.size) (f := pf) ⟨hp.1, hp.2.1⟩ (n := m) (by omega) (by have := hOk1.out; rw [hnext.out, Dk.survive_odd hod.out] at this; exact this)
          have hz : Hid (∀ z, RDS B ⟨r.rb, fv, r.qv, r.kv⟩ { Dk.crashK D keep k with fs := Dk.surv1 (Dk.crashK D keep k).fs (pf, (m : Int)) } wr z → CrI B w r D keep (k + 1) z) := fun z hz => by
            obtain ⟨fv', k1, k2, k3⟩ := hz
            refine ⟨fv', ?_, HH.out.2.1.trans k2, fun j hj => ?_⟩
            · rw [hnext.out, Dk.survive_odd hod.out]
              exact k1
            · rcases k3 j hj with e | e
              · exact HH.out.2.2 j e
              · exact Or.inr (Nat.le_trans HH.out.2.1.size e)
          have Hsv := Lib.hid hsv
          clear hodd hx hbx hp hnext hsv
          go_wp2_with fail
          (with_reducible refine (Hsv.out).mono ?_)
          rintro _ w6 ⟨rfl, h6⟩
          have hz2 := Lib.hid (hz.out _ h6)
          clear h6 hz
          go_wp2_with fail
          go_roundw
          case rel => exact ⟨k + 1, by omega, by go_num, hz2.out⟩
          case measure => simp [intOf]; omega
      · have hfs : (Dk.crashK D keep D.q.length).fs = (Dk.crashK D keep k).fs := by
          by_cases hkq : k < D.q.length
          · have : keep = [] := List.length_eq_zero_iff.1 (by omega)
            subst this
            unfold Dk.crashK
            dsimp only
            rw [survives_no, survives_no]
          · obtain rfl : k = D.q.length := by omega
            rfl
        have hcr := Hce.out
        rw [hfs] at hcr
        have Hcr := Lib.hid hcr
        obtain ⟨l, hl, hsl⟩ := HH.out.1.files
        have hl16 := hsl.len
        obtain ⟨af, cf, hfv, _, hcF⟩ := rfL_cells (rf_sls hl)
        have HcF := Lib.hid hcF
        clear hcF
        dsimp only at hfv
        have hl1 : (l.length : Int) ≤ 16 := by omega
        have HL := Lib.hid (And.intro hl (And.intro hsl hfv))
        have hJ0 : Hid (OutI wr l 0 (.slice none 0 0) wr) := ⟨World.ownsRow_nil _ _ _ _, Upd.refl _ _⟩
        have hgX : nG ≤ wr.heap.size := (g.upd HH.out.2.1).big
        have hgo2 : ¬ (k : Int) < D.q.length ∨ ((k : Int) < D.q.length ∧ (keep.length : Int) = 0) := by omega
        obtain ⟨wX, rfl⟩ : ∃ x, x = wr := ⟨_, rfl⟩
        clear hcell hkc hfs hcr hl hsl hl16 hfv hgo
        rcases hgo2 with hgo2 | ⟨hgo2, hgo3⟩
        · go_wp2_with fail
          go_loopw [5, 6] (fun v iv wr => ∃ m : Nat, m ≤ l.length ∧ iv = .int .i64 m ∧ Hid (OutI wX l m v wr)) (fun _ iv _ => l.length - (intOf iv).toNat)
          case atStart => exact ⟨0, Nat.zero_le _, rfl, hJ0.out⟩
          case round =>
            obtain ⟨m, hm, rfl, HJ⟩ := hrel
            clear c1
            obtain ⟨av, cv, rfl⟩ := own_slD HJ.out.1
            have h' := HH.out.1.nw HJ.out.2
            obtain ⟨c0, c1, _⟩ := h'.cells
            have f0 := h'.frozen 0
            dsimp only at c0 c1 f0
            rw [HL.out.2.2] at c0
            by_cases hlt : m < l.length
            · rcases HcF.out with hnil | ⟨b, off, rfl, hbX, _, hc⟩
              · rw [hnil] at hlt; simp at hlt
              obtain ⟨d0, d1, d2⟩ := hc m hlt
              have htk : l.take (m + 1) = l.take m ++ [l[m]] := List.take_succ_eq_append_getElem hlt
              have Htk := Lib.hid htk
              have hml : m ≤ 16 := by omega
              have hrbX := (HH.out.1.foot_lt (Or.inl rfl)).2
              have hne : ∀ k, k < wX.heap.size → ¬ (Value.slice av m cv).ownBlock = some k := fun k hk e => by have := (HJ.out.1.lt k e).1; omega
              have HS : Hid (∀ z, Upd (fun k => (Value.slice av m cv).ownBlock = some k) wr z → z.cell? ⟨r.rb, 0, none⟩ = some (.slice (some ⟨b, off, none⟩) l.length cf) ∧ z.cell? ⟨b, off + m * 3, none⟩ = some (.int .i64 l[m].1) ∧ z.cell? ⟨b, off + m * 3 + 2, none⟩ = some (.string ⟨l[m].2.last.toArray⟩)) := fun z uz => by
                have hX : ∀ i, z.cell? ⟨b, i, none⟩ = wX.cell? ⟨b, i, none⟩ := fun i => (World.cell?_of_block (a := ⟨b, i, none⟩) (uz.block b (by have := HJ.out.2.size; omega) (Or.inr (hne b hbX)))).trans (World.cell?_of_block (a := ⟨b, i, none⟩) (HJ.out.2.block b hbX (Or.inr id)))
                refine ⟨?_, (hX _).trans d0, (hX _).trans d2⟩
                rw [cells_cell (uz.keep h'.blk (hne _ hrbX)), ← HL.out.2.2]; rfl
              clear hc htk h' c1 f0 d0 d1 d2 hne hrbX
              generalize l[m] = y at *
              obtain ⟨yf, yn, yl⟩ := y
              dsimp only at HS
              go_wp2_with fail
              go_region_held_law (fun z => z.cell? ⟨r.rb, 0, none⟩ = some (.slice (some ⟨b, off, none⟩) l.length cf) ∧ z.cell? ⟨b, off + m * 3, none⟩ = some (.int .i64 yf) ∧ z.cell? ⟨b, off + m * 3 + 2, none⟩ = some (.string ⟨yl.toArray⟩)) (with_reducible first | exact HS.out _ (by repeat (first | exact Upd.refl _ _ | assumption | refine Upd.drew ?_ | refine Upd.alloc ?_ _))) (first | (refine step_appD rfl _ _ 76 rfl wX.heap.size tRFile _ 3 40 Tryz.underlying76 infoRFile rfl (by decide) (.slice av m cv) m (flatR (lastR (l.take m))) rfl wr (fun _ => False) HJ.out.1 ((Upd.refl _ _).drew.alloc _) (fun _ _ e => e) _ (rfL (yf, ⟨yl, yl⟩)) rfl (heap_new _ _) rfl (rfL_one _) (by unfold maxLen; omega) (by omega) HJ.out.2.size hgX ?_; intro gs cs ws hownS uS oS; have tS : Upd (fun k => (Value.slice av m cv).ownBlock = some k) wr ws := Upd.trans (((Upd.refl _ wr).drew).alloc _) uS))
              have hz2 : Hid (OutI wX l (m + 1) (.slice (some ⟨gs, 0, none⟩) (m + 1) cs) ws) := by
                refine ⟨?_, HJ.out.2.trans' tS (fun j hj e => by have := (HJ.out.1.lt j e).1; omega)⟩
                rw [Htk.out]
                have : lastR (l.take m ++ [(yf, ⟨yn, yl⟩)]) = lastR (l.take m) ++ [(yf, ⟨yl, yl⟩)] := by simp [lastR]
                rw [this, flatR_snoc]
                exact hownS
              clear hownS uS tS oS
              go_wp2_with fail
              go_roundw
              case rel => exact ⟨m + 1, by omega, by go_num, hz2.out⟩
              case measure => simp [intOf]; omega
            · obtain rfl : m = l.length := by omega
              have hI1 := HJ.out.1
              rw [List.take_length] at hI1
              have b1 := setCell_block h'.blk 0 (.slice av l.length cv)
              have e1 : (wr.setCell ⟨r.rb, 0, none⟩ (.slice av l.length cv)).cell? ⟨r.rb, 1, none⟩ = some r.qv := by rw [cells_cell b1]; rfl
              have e1f : (wr.setCell ⟨r.rb, 0, none⟩ (.slice av l.length cv)).frozen? ⟨r.rb, 1, none⟩ = false := cells_frozen b1 1
              have hlr : (lastR l).length = l.length := by simp [lastR]
              have hok : Dk.Ok (Dk.crash D keep) := Dk.crash_ok H.out.ok keep
              have hfin := crash_fin (D' := Dk.crash D keep) (l' := lastR l) (v' := .slice av l.length cv) HH.out.1 HJ.out.2 (Nat.le_refl _) (by rw [hlr]; exact hI1) (Nat.le_trans HB.out HH.out.2.1.size) (by rw [Hcr.out]; exact lastR_says HL.out.2.1) (by rw [Hcr.out]) (by rw [Hcr.out]; rfl) (by rw [Hcr.out]; rfl) (by rw [Hcr.out]; rfl) (by rw [Hcr.out]; rfl) hok
              have hdone := Lib.hid (RDTo.then_ H.out HH.out.1 rfl (HH.out.2.1.mono (fun k _ e => Or.inl e)) (by
                rintro j (e | e | e | e)
                · exact Or.inl (Or.inl e)
                · exact (HH.out.2.2 j e).imp (fun e => Or.inr (Or.inl e)) id
                · exact Or.inl (Or.inr (Or.inr (Or.inl e)))
                · exact Or.inl (Or.inr (Or.inr (Or.inr e)))) hfin)
              clear hI1 b1 hlr hok hfin h' HJ
              go_wp2_with fail
              go_end0
              exact ⟨rfl, hdone.out⟩
        · go_wp2_with fail
          go_loopw [5, 6] (fun v iv wr => ∃ m : Nat, m ≤ l.length ∧ iv = .int .i64 m ∧ Hid (OutI wX l m v wr)) (fun _ iv _ => l.length - (intOf iv).toNat)
          case atStart => exact ⟨0, Nat.zero_le _, rfl, hJ0.out⟩
          case round =>
            obtain ⟨m, hm, rfl, HJ⟩ := hrel
            clear c1
            obtain ⟨av, cv, rfl⟩ := own_slD HJ.out.1
            have h' := HH.out.1.nw HJ.out.2
            obtain ⟨c0, c1, _⟩ := h'.cells
            have f0 := h'.frozen 0
            dsimp only at c0 c1 f0
            rw [HL.out.2.2] at c0
            by_cases hlt : m < l.length
            · rcases HcF.out with hnil | ⟨b, off, rfl, hbX, _, hc⟩
              · rw [hnil] at hlt; simp at hlt
              obtain ⟨d0, d1, d2⟩ := hc m hlt
              have htk : l.take (m + 1) = l.take m ++ [l[m]] := List.take_succ_eq_append_getElem hlt
              have Htk := Lib.hid htk
              have hml : m ≤ 16 := by omega
              have hrbX := (HH.out.1.foot_lt (Or.inl rfl)).2
              have hne : ∀ k, k < wX.heap.size → ¬ (Value.slice av m cv).ownBlock = some k := fun k hk e => by have := (HJ.out.1.lt k e).1; omega
              have HS : Hid (∀ z, Upd (fun k => (Value.slice av m cv).ownBlock = some k) wr z → z.cell? ⟨r.rb, 0, none⟩ = some (.slice (some ⟨b, off, none⟩) l.length cf) ∧ z.cell? ⟨b, off + m * 3, none⟩ = some (.int .i64 l[m].1) ∧ z.cell? ⟨b, off + m * 3 + 2, none⟩ = some (.string ⟨l[m].2.last.toArray⟩)) := fun z uz => by
                have hX : ∀ i, z.cell? ⟨b, i, none⟩ = wX.cell? ⟨b, i, none⟩ := fun i => (World.cell?_of_block (a := ⟨b, i, none⟩) (uz.block b (by have := HJ.out.2.size; omega) (Or.inr (hne b hbX)))).trans (World.cell?_of_block (a := ⟨b, i, none⟩) (HJ.out.2.block b hbX (Or.inr id)))
                refine ⟨?_, (hX _).trans d0, (hX _).trans d2⟩
                rw [cells_cell (uz.keep h'.blk (hne _ hrbX)), ← HL.out.2.2]; rfl
              clear hc htk h' c1 f0 d0 d1 d2 hne hrbX
              generalize l[m] = y at *
              obtain ⟨yf, yn, yl⟩ := y
              dsimp only at HS
              go_wp2_with fail
              go_region_held_law (fun z => z.cell? ⟨r.rb, 0, none⟩ = some (.slice (some ⟨b, off, none⟩) l.length cf) ∧ z.cell? ⟨b, off + m * 3, none⟩ = some (.int .i64 yf) ∧ z.cell? ⟨b, off + m * 3 + 2, none⟩ = some (.string ⟨yl.toArray⟩)) (with_reducible first | exact HS.out _ (by repeat (first | exact Upd.refl _ _ | assumption | refine Upd.drew ?_ | refine Upd.alloc ?_ _))) (first | (refine step_appD rfl _ _ 76 rfl wX.heap.size tRFile _ 3 40 Tryz.underlying76 infoRFile rfl (by decide) (.slice av m cv) m (flatR (lastR (l.take m))) rfl wr (fun _ => False) HJ.out.1 ((Upd.refl _ _).drew.alloc _) (fun _ _ e => e) _ (rfL (yf, ⟨yl, yl⟩)) rfl (heap_new _ _) rfl (rfL_one _) (by unfold maxLen; omega) (by omega) HJ.out.2.size hgX ?_; intro gs cs ws hownS uS oS; have tS : Upd (fun k => (Value.slice av m cv).ownBlock = some k) wr ws := Upd.trans (((Upd.refl _ wr).drew).alloc _) uS))
              have hz2 : Hid (OutI wX l (m + 1) (.slice (some ⟨gs, 0, none⟩) (m + 1) cs) ws) := by
                refine ⟨?_, HJ.out.2.trans' tS (fun j hj e => by have := (HJ.out.1.lt j e).1; omega)⟩
                rw [Htk.out]
                have : lastR (l.take m ++ [(yf, ⟨yn, yl⟩)]) = lastR (l.take m) ++ [(yf, ⟨yl, yl⟩)] := by simp [lastR]
                rw [this, flatR_snoc]
                exact hownS
              clear hownS uS tS oS
              go_wp2_with fail
              go_roundw
              case rel => exact ⟨m + 1, by omega, by go_num, hz2.out⟩
              case measure => simp [intOf]; omega
            · obtain rfl : m = l.length := by omega
              have hI1 := HJ.out.1
              rw [List.take_length] at hI1
              have b1 := setCell_block h'.blk 0 (.slice av l.length cv)
              have e1 : (wr.setCell ⟨r.rb, 0, none⟩ (.slice av l.length cv)).cell? ⟨r.rb, 1, none⟩ = some r.qv := by rw [cells_cell b1]; rfl
              have e1f : (wr.setCell ⟨r.rb, 0, none⟩ (.slice av l.length cv)).frozen? ⟨r.rb, 1, none⟩ = false := cells_frozen b1 1
              have hlr : (lastR l).length = l.length := by simp [lastR]
              have hok : Dk.Ok (Dk.crash D keep) := Dk.crash_ok H.out.ok keep
              have hfin := crash_fin (D' := Dk.crash D keep) (l' := lastR l) (v' := .slice av l.length cv) HH.out.1 HJ.out.2 (Nat.le_refl _) (by rw [hlr]; exact hI1) (Nat.le_trans HB.out HH.out.2.1.size) (by rw [Hcr.out]; exact lastR_says HL.out.2.1) (by rw [Hcr.out]) (by rw [Hcr.out]; rfl) (by rw [Hcr.out]; rfl) (by rw [Hcr.out]; rfl) (by rw [Hcr.out]; rfl) hok
              have hdone := Lib.hid (RDTo.then_ H.out HH.out.1 rfl (HH.out.2.1.mono (fun k _ e => Or.inl e)) (by
                rintro j (e | e | e | e)
                · exact Or.inl (Or.inl e)
                · exact (HH.out.2.2 j e).imp (fun e => Or.inr (Or.inl e)) id
                · exact Or.inl (Or.inr (Or.inr (Or.inl e)))
                · exact Or.inl (Or.inr (Or.inr (Or.inr e)))) hfin)
              clear hI1 b1 hlr hok hfin h' HJ
              go_wp2_with fail
              go_end0
              exact ⟨rfl, hdone.out⟩
end
end Go.Proofs.YtiednpagknnfnaaGreatDoor
namespace Go.Proofs.YtiednpagknnfnaaGreatDoor
open Go.RowKit
attribute [local irreducible] Calls
def comesD (D : Dk.Disk) (f i : Int) (s : List UInt8) : Dk.Disk := if Dk.ends D = true then Dk.crash (Dk.write0 (Dk.counted D) f i s).1 D.keep else Dk.counted D
theorem comesD_come (D : Dk.Disk) : comesD D 0 0 [] = Dk.come D := by
  unfold comesD Dk.come
  split
  · rename_i he
    have hw : (Dk.write0 (Dk.counted D) 0 0 []).1 = Dk.counted D := by
      unfold Dk.write0
      split
      · rfl
      · split
        · rfl
        · rfl
    rw [hw]
  · rfl
structure RCame (B : Nat) (w : World) (r : RdR) (D D1 : Dk.Disk) (w1 : World) (r1 : RdR) : Prop where
  at0 : RDAt B w r D
  at1 : RDAt B w1 r1 D1
  rb : r1.rb = r.rb
  upd : Upd r.foot w w1
  foot : ∀ j, r1.foot j → r.foot j ∨ w.heap.size ≤ j
section
variable {B : Nat} {w w1 w2 : World} {r r1 : RdR} {D D' D1 D2 : Dk.Disk}
theorem RCame.to (h : RCame B w r D D1 w1 r1) : RDTo B r D1 w w1 := ⟨r1, h.at1, h.rb, h.upd, h.foot⟩
theorem RCame.then_ (h : RCame B w r D D1 w1 r1) (h2 : RDTo B r1 D2 w1 w2) : RDTo B r D2 w w2 := RDTo.then_ h.at0 h.at1 h.rb h.upd h.foot h2
theorem RDTo.came (h0 : RDAt B w r D) (h : RDTo B r D1 w w1) : ∃ r1, RCame B w r D D1 w1 r1 := by
  obtain ⟨r1, a, b, c, d⟩ := h
  exact ⟨r1, h0, a, b, c, d⟩
theorem keep_slR (h : RDAt B w r D) : ∀ z, Upd (fun j => j = r.rb) w z → Sl B w.heap.size z r.kv (D.keep.map intD) := fun z u => by
  have ho := owns_updD h.keep u (fun k hk e => by subst e; exact own_blk h.keep h.blk (by decide) hk)
  rcases Sl.of_owns ho with e | ⟨b, off, cap, h1, h2, h3, h4, h5, h6, h7⟩
  · exact Or.inl e
  · refine Or.inr ⟨b, off, cap, h1, h2, h3, h4, ?_, h6, h7⟩
    refine (h.foot_lt (k := b) (Or.inr (Or.inr (Or.inr ?_)))).2
    obtain ⟨hl, ho2⟩ := ho
    rcases ho2 with ⟨e, _⟩ | ⟨gb, cp, cur, e, _⟩
    · rw [e] at h1; simp at h1
    · rw [e] at h1 ⊢
      simp at h1
      simp [Value.ownBlock, h1]
theorem queue_done {v' : Value} {B0 : Nat} (h : RDAt B w r D) (u : Nw w w1) (hB0 : w.heap.size ≤ B0) (hown : w1.ownsRow B0 tRSec 2 v' D'.q.length (flatQ D'.q)) (hB : B ≤ w.heap.size)
    (e1 : D'.fs = D.fs) (e2 : D'.lost = D.lost) (e3 : D'.down = D.down) (e4 : D'.armed = D.armed) (e5 : D'.keep = D.keep) (hk : Dk.Ok D') : RDTo B r D' w (w1.setCell ⟨r.rb, 1, none⟩ v') := by
  have h1 := h.nw u
  have hg : nG ≤ r.rb := Nat.le_trans h.hb h.rb
  have us : Upd (fun k => k = r.rb) w1 (w1.setCell ⟨r.rb, 1, none⟩ v') := Upd.set1 (Upd.refl _ _) hg 1 _
  have hrw := (h.foot_lt (Or.inl rfl)).2
  obtain ⟨l, hl, _⟩ := h1.files
  refine ⟨⟨r.rb, r.fv, v', r.kv⟩, ⟨h.hb, h.rb, ?_, ?_, ?_, ?_, hk, by rw [e5]; exact h.kI⟩, rfl, (Nw.trans u us).mono (fun k _ e => Or.inl e), ?_⟩
  · have := setCell_block h1.blk 1 v'
    unfold rdC at this ⊢
    rw [e2, e3, e4]
    exact this
  · rw [e1]
    exact h1.files.upd us (fun k hk e => own_blk hl h1.blk (by decide) (by rw [← e]; exact hk))
  · exact owns_base (owns_updD hown us (fun k hk e => by have := (hown.lt k hk).1; omega)) (Nat.le_trans hB hB0)
  · rw [e5]
    exact owns_updD h1.keep us (fun k hk e => own_blk h1.keep h1.blk (by decide) (by rw [← e]; exact hk))
  · rintro j (e | e | e | e)
    · exact Or.inl (Or.inl e)
    · exact Or.inl (Or.inr (Or.inl e))
    · exact Or.inr (Nat.le_trans hB0 (hown.lt j e).1)
    · exact Or.inl (Or.inr (Or.inr (Or.inr e)))
def SetQ (w : World) (q : List (Int × Int)) (f : Int) (k : Nat) (v : Value) (z : World) : Prop :=
  z.ownsRow w.heap.size tRSec 2 v ((q.take k).filter (fun p => !decide (p.1 = f))).length (flatQ ((q.take k).filter (fun p => !decide (p.1 = f)))) ∧ Nw w z
set_option maxHeartbeats 2000000 in
set_option maxRecDepth 100000 in
theorem settle_r (h : RDAt B w r D) (g : Gl w) (hB : B ≤ w.heap.size) {f : Int} (hf : 0 ≤ f ∧ f < 16) (s : List UInt8) (hs : s.length ≤ 16777216) :
    Calls Tryz.prog 100 #[.pointer (some ⟨r.rb, 0, none⟩), .int .i64 f, .string ⟨s.toArray⟩] w fun e w' => e = .returned (.tuple #[]) ∧ RDTo B r (Dk.settle D f s) w w' := by
  have hgb := g.big
  have hok := Dk.settle_ok h.ok f hs
  have hset := Lib.hid (set_r h g hB hf ⟨s, s⟩ ⟨hok.now, hok.last, h.ok.q, h.ok.nd, h.ok.lost, h.ok.armed⟩)
  have hql := h.ok.q_len
  have hql1 : (D.q.length : Int) ≤ 4194304 := by omega
  have H := Lib.hid (And.intro h (And.intro hB hok))
  clear h hB hok hs
  go_enter Tryz.func100, Tryz.ntmps100
  go_wp2_with fail
  (with_reducible refine (hset.out).mono ?_)
  rintro _ w1 ⟨rfl, h1⟩
  obtain ⟨r1, C1⟩ := RDTo.came H.out.1 h1.to
  obtain ⟨aq, cq, hqv, _, hcF⟩ := secD_cells (rs_sls C1.at1.queue)
  have hlq : ({ D with fs := Dk.setF D.fs f ⟨s, s⟩ } : Dk.Disk).q.length = D.q.length := rfl
  have HC := Lib.hid C1
  have Hqv := Lib.hid hqv
  have HcF := Lib.hid hcF
  have hI0 : Hid (SetQ w1 D.q f 0 (.slice none 0 0) w1) := ⟨World.ownsRow_nil _ _ _ _, Upd.refl _ _⟩
  have hg1 : nG ≤ w1.heap.size := (g.upd C1.upd).big
  have hrb : Hid (r1.rb = r.rb) := C1.rb
  clear C1 hqv hcF h1 hset hlq
  go_wp2_with fail
  go_loopw [6, 7] (fun v iv wr => ∃ k : Nat, k ≤ D.q.length ∧ iv = .int .i64 k ∧ Hid (SetQ w1 D.q f k v wr)) (fun _ iv _ => D.q.length - (intOf iv).toNat)
  case atStart => exact ⟨0, Nat.zero_le _, rfl, hI0.out⟩
  case round =>
    obtain ⟨k, hk, rfl, HI⟩ := hrel
    obtain ⟨av, cv, rfl⟩ := own_slD HI.out.1
    have h' := HC.out.at1.nw HI.out.2
    obtain ⟨_, c1, _⟩ := h'.cells
    have f1 := h'.frozen 1
    have q0 : (w1.heap.size ≤ wr.heap.size) := HI.out.2.size
    rw [Hqv.out, hrb.out] at c1
    rw [hrb.out] at f1
    change wr.cell? ⟨r.rb, 1, none⟩ = some (.slice aq D.q.length cq) at c1
    by_cases hlt : k < D.q.length
    · rcases HcF.out with hnil | ⟨b, off, rfl, hbX, _, hc⟩
      · exfalso
        have : D.q = [] := hnil
        rw [this] at hlt; simp at hlt
      obtain ⟨d0, d1⟩ := hc k hlt
      have e0 : ({ D with fs := Dk.setF D.fs f ⟨s, s⟩ } : Dk.Disk).q[k] = D.q[k] := rfl
      rw [e0] at d0 d1
      have d0' := (World.cell?_of_block (a := ⟨b, off + k * 2, none⟩) (HI.out.2.block b hbX (Or.inr id))).trans d0
      have d1' := (World.cell?_of_block (a := ⟨b, off + k * 2 + 1, none⟩) (HI.out.2.block b hbX (Or.inr id))).trans d1
      have htk : D.q.take (k + 1) = D.q.take k ++ [D.q[k]] := List.take_succ_eq_append_getElem hlt
      have Htk := Lib.hid htk
      have hfl : ((D.q.take k).filter (fun p => !decide (p.1 = f))).length ≤ 4194304 := Nat.le_trans (List.length_filter_le _ _) (by rw [List.length_take]; omega)
      have Hfl := Lib.hid hfl
      clear hc htk hfl h' d0 d1 e0
      generalize D.q[k] = y at *
      obtain ⟨yf, yn⟩ := y
      dsimp only at d0' d1'
      by_cases hyf : yf = f
      · have hz : Hid (SetQ w1 D.q f (k + 1) (.slice av ((D.q.take k).filter (fun p => !decide (p.1 = f))).length cv) wr) := by
          unfold SetQ
          show _ ∧ _
          rw [Htk.out, List.filter_append]
          have : List.filter (fun p : Int × Int => !decide (p.1 = f)) [(yf, yn)] = [] := by simp [hyf]
          rw [this, List.append_nil]
          exact HI.out
        have hb : (yf != f) = false := by simp [hyf]
        have hb2 : (yf == f) = true := by simp [hyf]
        clear hyf
        go_wp2_with fail
        go_roundw
        case rel => exact ⟨k + 1, by omega, by go_num, hz.out⟩
        case measure => simp [intOf]; omega
      · have hz : Hid (∀ v' z', z'.ownsRow w1.heap.size tRSec 2 v' (((D.q.take k).filter (fun p => !decide (p.1 = f))).length + 1) (flatQ ((D.q.take k).filter (fun p => !decide (p.1 = f))) ++ secL (yf, yn)) → Nw w1 z' → SetQ w1 D.q f (k + 1) v' z') := fun v' z' h1 h2 => by
          unfold SetQ
          rw [Htk.out, List.filter_append]
          have : List.filter (fun p : Int × Int => !decide (p.1 = f)) [(yf, yn)] = [(yf, yn)] := by simp [hyf]
          rw [this, List.length_append, flatQ_snoc]
          exact ⟨h1, h2⟩
        have hb : (yf != f) = true := by simp [hyf]
        have hb2 : (yf == f) = false := by simp [hyf]
        clear hyf
        go_wp2_with (at_builtin; refine wpList_appL rfl _ _ 77 rfl w1.heap.size tRSec _ 2 16 Tryz.underlying77 infoRSec rfl (by decide) _ _ _ rfl HI.out.1 (secL (yf, yn)) rfl rfl ?c1 ?c2 ?c3 q0 hg1 ?_)
        case c1 =>
          intro u hu
          simp only [secL, List.mem_cons, List.not_mem_nil, or_false] at hu
          rcases hu with rfl | rfl <;> rfl
        case c2 => have := Hfl.out; unfold maxLen; omega
        case c3 => have := Hfl.out; omega
        intro v' w6 o6 u6 hob
        have hz2 := Lib.hid (hz.out v' w6 o6 (HI.out.2.trans' u6 (fun j hj e => by have := (HI.out.1.lt j e).1; omega)))
        clear hz o6 u6 hob
        go_wp2_with fail
        go_roundw
        case rel => exact ⟨k + 1, by omega, by go_num, hz2.out⟩
        case measure => simp [intOf]; omega
    · obtain rfl : k = D.q.length := by omega
      have hI1 := HI.out.1
      rw [List.take_length] at hI1
      have hd := queue_done (D' := Dk.settle D f s) HC.out.at1 HI.out.2 (Nat.le_refl _) hI1 (Nat.le_trans H.out.2.1 HC.out.upd.size) rfl rfl rfl rfl rfl H.out.2.2
      rw [hrb.out] at hd
      (try rw [List.take_length] at hd)
      have hd2 := HC.out.then_ hd
      clear hd hI1 h' HI
      (try rw [List.take_length])
      generalize (D.q.filter (fun p => !decide (p.1 = f))).length = nn at *
      have Hd := Lib.hid hd2
      clear hd2
      go_wp2_with fail
      go_end0
      exact ⟨rfl, Hd.out⟩
set_option maxHeartbeats 2000000 in
set_option maxRecDepth 100000 in
theorem comes_r (h : RDAt B w r D) (g : Gl w) (hB : B ≤ w.heap.size) {f i : Int} (hf : I64 f) (hi : I64 i) (s : List UInt8) (hs : s.length ≤ 1000000000) :
    Calls Tryz.prog 99 #[.pointer (some ⟨r.rb, 0, none⟩), .int .i64 f, .int .i64 i, .string ⟨s.toArray⟩] w fun e w' => e = .returned (.tuple #[]) ∧ RDTo B r (comesD D f i s) w w' := by
  have hgb := g.big
  obtain ⟨_, _, _, c3, c4, _⟩ := h.cells
  have f4 := h.frozen 4
  cases hd : D.down with
  | true =>
    have hr : Hid (RDTo B r (comesD D f i s) w w) := by
      have : comesD D f i s = D := by unfold comesD Dk.ends Dk.counted; rw [hd]; simp
      show RDTo _ _ _ _ _
      rw [this]; exact RDTo.of_nw h (Upd.refl _ _)
    rw [hd] at c3
    clear h hd
    go_enter Tryz.func99, Tryz.ntmps99
    go_wp2_with fail
    (try simp only [Exit.inBlock, Exit.then])
    refine bodyPost_ret (results_none rfl _ _ _) rfl ?_
    exact ⟨rfl, hr.out⟩
  | false =>
  rw [hd] at c3
  by_cases h0 : D.armed = 0
  · have hr : Hid (RDTo B r (comesD D f i s) w w) := by
      have : comesD D f i s = D := by unfold comesD Dk.ends Dk.counted; rw [hd, h0]; simp
      show RDTo _ _ _ _ _
      rw [this]; exact RDTo.of_nw h (Upd.refl _ _)
    rw [h0] at c4
    clear h hd h0
    go_enter Tryz.func99, Tryz.ntmps99
    go_wp2_with fail
    (try simp only [Exit.inBlock, Exit.then])
    refine bodyPost_ret (results_none rfl _ _ _) rfl ?_
    exact ⟨rfl, hr.out⟩
  have harm := h.ok.armed
  have hcd : Dk.counted D = { D with armed := D.armed - 1 } := by unfold Dk.counted; rw [hd]; simp [h0]
  obtain ⟨s1, u1⟩ := h.scal (D' := { D with armed := D.armed - 1 }) 4 (.int .i64 (D.armed - 1)) rfl rfl rfl rfl ⟨h.ok.now, h.ok.last, h.ok.q, h.ok.nd, h.ok.lost, ⟨by dsimp only; omega, by dsimp only; omega⟩⟩
  rw [← hcd] at s1
  by_cases h1 : D.armed = 1
  rotate_left
  · have hr : Hid (RDTo B r (comesD D f i s) w (w.setCell ⟨r.rb, 4, none⟩ (.int .i64 (D.armed - 1)))) := by
      have : comesD D f i s = Dk.counted D := by unfold comesD Dk.ends; rw [hd]; simp [h1]
      show RDTo _ _ _ _ _
      rw [this]; exact ⟨r, s1, rfl, u1.mono (fun k _ e => Or.inl e), fun j e => Or.inl e⟩
    have a0 : (D.armed == 0) = false := beq_eq_false_iff_ne.2 h0
    have a1 : 0 < D.armed - 1 := by omega
    have a2 : D.armed ≤ 9223372036854775807 := harm.2
    clear h hd h0 h1 s1 u1 hcd harm
    go_enter Tryz.func99, Tryz.ntmps99
    go_wp2_with fail
    (try simp only [Exit.inBlock, Exit.then])
    refine bodyPost_ret (results_none rfl _ _ _) rfl ?_
    exact ⟨rfl, hr.out⟩
  rw [h1] at c4
  rw [h1, show ((1 : Int) - 1) = 0 from rfl] at s1 u1
  have hce : Hid (comesD D f i s = Dk.crash (Dk.write0 (Dk.counted D) f i s).1 D.keep) := by
    show _ = _
    unfold comesD Dk.ends
    rw [hd, h1]; simp
  have hmay : Dk.may (Dk.counted D) f = if f < 0 ∨ 16 ≤ f then 1 else 0 := by
    rw [hcd]; unfold Dk.may; dsimp only; rw [hd]; rfl
  have S1 := Lib.hid (And.intro h (And.intro s1 u1))
  have HB := Lib.hid hB
  have Hk : Hid ((Dk.counted D).keep = D.keep) := counted_keep D
  have hfits := Lib.hid (fits_r i hi s hs (w.setCell ⟨r.rb, 4, none⟩ (.int .i64 0)))
  clear h hd h0 h1 s1 u1 hcd harm hB
  generalize hDc : Dk.counted D = Dc at *
  clear hDc
  by_cases hf0 : 0 ≤ f
  rotate_left
  · have hwe : Hid ((Dk.write0 Dc f i s).1 = Dc) := by
      show _ = _
      unfold Dk.write0
      rw [if_pos (by rw [hmay, if_pos (Or.inl (by omega))]; decide)]
    have C2 : Hid (RCame B w r D Dc (w.setCell ⟨r.rb, 4, none⟩ (.int .i64 0)) r) := ⟨S1.out.1, S1.out.2.1, rfl, S1.out.2.2.mono (fun k _ e => Or.inl e), fun j e => Or.inl e⟩
    have Hk2 : Hid (Dc.keep = D.keep) := Hk.out
    have hc := crash_r C2.out.at1 (g.upd C2.out.upd) (Nat.le_trans HB.out C2.out.upd.size) B _ _ _ (keep_slR C2.out.at1) C2.out.at1.kI
    rw [C2.out.rb] at hc
    have c5 := C2.out.at1.cells.2.2.2.2.2
    rw [C2.out.rb] at c5
    obtain ⟨ak, ck, hkv⟩ := own_slD C2.out.at1.keep
    rw [hkv] at hc c5
    have Hc := Lib.hid hc
    clear hc hkv
    clear hmay
    go_enter Tryz.func99, Tryz.ntmps99
    go_wp2_with fail
    (with_reducible refine Hc.out.mono ?_)
    rintro _ w3 ⟨rfl, hT3⟩
    have hfin := C2.out.then_ hT3
    rw [Hk2.out] at hfin
    have Hfin := Lib.hid hfin
    clear hT3 hfin
    go_wp2_with fail
    go_end0
    exact ⟨rfl, by rw [hce.out, hwe.out]; exact Hfin.out⟩
  by_cases hf1 : f ≤ 15
  rotate_left
  · have hwe : Hid ((Dk.write0 Dc f i s).1 = Dc) := by
      show _ = _
      unfold Dk.write0
      rw [if_pos (by rw [hmay, if_pos (Or.inr (by omega))]; decide)]
    have C2 : Hid (RCame B w r D Dc (w.setCell ⟨r.rb, 4, none⟩ (.int .i64 0)) r) := ⟨S1.out.1, S1.out.2.1, rfl, S1.out.2.2.mono (fun k _ e => Or.inl e), fun j e => Or.inl e⟩
    have Hk2 : Hid (Dc.keep = D.keep) := Hk.out
    have hc := crash_r C2.out.at1 (g.upd C2.out.upd) (Nat.le_trans HB.out C2.out.upd.size) B _ _ _ (keep_slR C2.out.at1) C2.out.at1.kI
    rw [C2.out.rb] at hc
    have c5 := C2.out.at1.cells.2.2.2.2.2
    rw [C2.out.rb] at c5
    obtain ⟨ak, ck, hkv⟩ := own_slD C2.out.at1.keep
    rw [hkv] at hc c5
    have Hc := Lib.hid hc
    clear hc hkv
    clear hmay
    go_enter Tryz.func99, Tryz.ntmps99
    go_wp2_with fail
    (with_reducible refine Hc.out.mono ?_)
    rintro _ w3 ⟨rfl, hT3⟩
    have hfin := C2.out.then_ hT3
    rw [Hk2.out] at hfin
    have Hfin := Lib.hid hfin
    clear hT3 hfin
    go_wp2_with fail
    go_end0
    exact ⟨rfl, by rw [hce.out, hwe.out]; exact Hfin.out⟩
  rw [if_neg (by omega)] at hmay
  by_cases hw : Dk.wErr i s.length = 0
  rotate_left
  · rw [decide_eq_false hw] at hfits
    have hwe : Hid ((Dk.write0 Dc f i s).1 = Dc) := by
      show _ = _
      unfold Dk.write0
      rw [if_neg (by rw [hmay]; decide), if_pos hw]
    have C2 : Hid (RCame B w r D Dc (w.setCell ⟨r.rb, 4, none⟩ (.int .i64 0)) r) := ⟨S1.out.1, S1.out.2.1, rfl, S1.out.2.2.mono (fun k _ e => Or.inl e), fun j e => Or.inl e⟩
    have Hk2 : Hid (Dc.keep = D.keep) := Hk.out
    have hc := crash_r C2.out.at1 (g.upd C2.out.upd) (Nat.le_trans HB.out C2.out.upd.size) B _ _ _ (keep_slR C2.out.at1) C2.out.at1.kI
    rw [C2.out.rb] at hc
    have c5 := C2.out.at1.cells.2.2.2.2.2
    rw [C2.out.rb] at c5
    obtain ⟨ak, ck, hkv⟩ := own_slD C2.out.at1.keep
    rw [hkv] at hc c5
    have Hc := Lib.hid hc
    clear hc hkv
    clear hmay hw
    go_enter Tryz.func99, Tryz.ntmps99
    go_wp2_with fail
    (with_reducible refine (hfits.out).mono ?_)
    rintro _ _ ⟨rfl, rfl⟩
    go_wp2_with fail
    (with_reducible refine Hc.out.mono ?_)
    rintro _ w3 ⟨rfl, hT3⟩
    have hfin := C2.out.then_ hT3
    rw [Hk2.out] at hfin
    have Hfin := Lib.hid hfin
    clear hT3 hfin
    go_wp2_with fail
    go_end0
    exact ⟨rfl, by rw [hce.out, hwe.out]; exact Hfin.out⟩
  · rw [decide_eq_true hw] at hfits
    have hwe : Hid ((Dk.write0 Dc f i s).1 = Dk.add Dc f i.toNat s) := by
      show _ = _
      unfold Dk.write0
      rw [if_neg (by rw [hmay]; decide), if_neg (by rw [hw]; decide)]
    have hwo := Dk.wErr_ok hw
    obtain ⟨i, rfl⟩ : ∃ m : Nat, i = m := ⟨i.toNat, by omega⟩
    rw [Int.toNat_natCast] at hwo hwe
    have had := add_r S1.out.2.1 (g.upd S1.out.2.2) (Nat.le_trans HB.out S1.out.2.2.size) (f := f) ⟨hf0, by omega⟩ s hwo.2
    have Had := Lib.hid had
    have Hk2 : Hid ((Dk.add Dc f i s).keep = D.keep) := by
      show _ = _
      rw [← Hk.out]; unfold Dk.add; split <;> rfl
    clear had hmay hw hwo
    go_enter Tryz.func99, Tryz.ntmps99
    go_wp2_with fail
    (with_reducible refine (hfits.out).mono ?_)
    rintro _ _ ⟨rfl, rfl⟩
    go_wp2_with fail
    (with_reducible refine (Had.out).mono ?_)
    rintro _ w2 ⟨rfl, hT2⟩
    obtain ⟨r2, C2⟩ := RDTo.came S1.out.1 (RDTo.then_ S1.out.1 S1.out.2.1 rfl (S1.out.2.2.mono (fun k _ e => Or.inl e)) (fun j e => Or.inl e) hT2)
    replace C2 := Lib.hid C2
    clear hT2 Had
    have hc := crash_r C2.out.at1 (g.upd C2.out.upd) (Nat.le_trans HB.out C2.out.upd.size) B _ _ _ (keep_slR C2.out.at1) C2.out.at1.kI
    rw [C2.out.rb] at hc
    have c5 := C2.out.at1.cells.2.2.2.2.2
    rw [C2.out.rb] at c5
    obtain ⟨ak, ck, hkv⟩ := own_slD C2.out.at1.keep
    rw [hkv] at hc c5
    have Hc := Lib.hid hc
    clear hc hkv
    go_wp2_with fail
    (with_reducible refine Hc.out.mono ?_)
    rintro _ w3 ⟨rfl, hT3⟩
    have hfin := C2.out.then_ hT3
    rw [Hk2.out] at hfin
    have Hfin := Lib.hid hfin
    clear hT3 hfin
    go_wp2_with fail
    go_end0
    exact ⟨rfl, by rw [hce.out, hwe.out]; exact Hfin.out⟩
end
theorem crash_down (D : Dk.Disk) (keep : List Int) : (Dk.crash D keep).down = true := by
  unfold Dk.crash
  split
  · assumption
  · rfl
theorem may_down {D : Dk.Disk} (h : D.down = true) (f : Int) : Dk.may D f = 8 := by unfold Dk.may; rw [if_pos h]
theorem write_comes (D : Dk.Disk) (f i : Int) (s : List UInt8) : Dk.write D f i s = Dk.write0 (comesD D f i s) f i s := by
  unfold Dk.write comesD
  by_cases he : Dk.ends D = true
  · rw [if_pos he, if_pos he, counted_keep]
    have hm := may_down (crash_down (Dk.write0 (Dk.counted D) f i s).1 D.keep) f
    have e0 : ∀ X : Dk.Disk, Dk.may X f ≠ 0 → Dk.write0 X f i s = (X, Dk.may X f) := fun X h => by unfold Dk.write0; rw [if_pos h]
    have e1 := e0 _ (show Dk.may (Dk.crash (Dk.write0 (Dk.counted D) f i s).1 D.keep) f ≠ 0 by rw [hm]; decide)
    rw [hm] at e1
    exact e1.symm
  · rw [if_neg he, if_neg he]
theorem new_rd (w : World) (g : Gl w) : Calls Tryz.prog 7 #[] w fun e w' => ∃ r, e = .returned (.pointer (some ⟨r.rb, 0, none⟩)) ∧ RDAt w.heap.size w' r Dk.new ∧ Nw w w' := by
  have hgb := g.big
  have n1 := nw_alloc w (.cells #[.slice none 0 0, .slice none 0 0, .int .i64 0, .bool false, .int .i64 0, .slice none 0 0] tRDisk)
  have k1 := heap_new w (.cells #[.slice none 0 0, .slice none 0 0, .int .i64 0, .bool false, .int .i64 0, .slice none 0 0] tRDisk)
  have K := Lib.hid (And.intro n1 k1)
  clear n1 k1
  go_enter Tryz.func7, Tryz.ntmps7
  go_wp2_with fail
  go_ret
  exact ⟨⟨w.heap.size, .slice none 0 0, .slice none 0 0, .slice none 0 0⟩, rfl, ⟨hgb, Nat.le_refl _, K.out.2, ⟨[], World.ownsRow_nil _ _ _ _, SaysR.new⟩, World.ownsRow_nil _ _ _ _, World.ownsRow_nil _ _ _ _, Dk.new_ok, fun x hx => by cases hx⟩, K.out.1⟩
section
variable {B : Nat} {w w1 w2 : World} {r r1 : RdR} {D D' D1 D2 : Dk.Disk}
theorem i64_max {n : Int} (h : I64 n) : max n 0 ≤ 9223372036854775807 := by unfold I64 at h; omega
theorem lose_rd (h : RDAt B w r D) {n : Int} (hn : I64 n) : Calls Tryz.prog 14 #[.pointer (some ⟨r.rb, 0, none⟩), .int .i64 n] w fun e w' => e = .returned (.tuple #[]) ∧ RDTo B r (Dk.lose D n) w w' := by
  obtain ⟨_, _, c2, _⟩ := h.cells
  have f2 := h.frozen 2
  obtain ⟨s1, u1⟩ := h.scal (D' := Dk.lose D n) 2 (.int .i64 (max n 0)) rfl rfl rfl rfl (Dk.lose_ok h.ok hn.2)
  have hT : Hid (RDTo B r (Dk.lose D n) w (w.setCell ⟨r.rb, 2, none⟩ (.int .i64 (max n 0)))) := ⟨r, s1, rfl, u1.mono (fun k _ e => Or.inl e), fun j e => Or.inl e⟩
  clear h s1 u1
  go_enter Tryz.func14, Tryz.ntmps14
  go_wp2_with fail
  go_end0
  exact ⟨rfl, hT.out⟩
theorem start_rd (h : RDAt B w r D) : Calls Tryz.prog 20 #[.pointer (some ⟨r.rb, 0, none⟩)] w fun e w' => e = .returned (.tuple #[]) ∧ RDTo B r (Dk.start D) w w' := by
  obtain ⟨_, _, _, c3, _⟩ := h.cells
  have f3 := h.frozen 3
  obtain ⟨s1, u1⟩ := h.scal (D' := Dk.start D) 3 (.bool false) rfl rfl rfl rfl (Dk.start_ok h.ok)
  have hT : Hid (RDTo B r (Dk.start D) w (w.setCell ⟨r.rb, 3, none⟩ (.bool false))) := ⟨r, s1, rfl, u1.mono (fun k _ e => Or.inl e), fun j e => Or.inl e⟩
  clear h s1 u1
  go_enter Tryz.func20, Tryz.ntmps20
  go_wp2_with fail
  go_end0
  exact ⟨rfl, hT.out⟩
theorem keep_done_r {z : World} (h : RDAt B w r D) (u : Nw w z) {keep : List Int} (hkI : ∀ x ∈ keep, I64 x) {v' : Value} {B0 : Nat} (hB0 : w.heap.size ≤ B0) (ho : z.ownsRow B0 tIntD 1 v' keep.length (keep.map intD)) :
    RDTo B r { D with keep := keep } w (z.setCell ⟨r.rb, 5, none⟩ v') := by
  have hz := h.nw u
  have hrw := (h.foot_lt (Or.inl rfl)).2
  have hrB := (h.foot_lt (Or.inl rfl)).1
  have hg : nG ≤ r.rb := Nat.le_trans h.hb h.rb
  have hv : ∀ k, v'.ownBlock = some k → w.heap.size ≤ k := fun k e => Nat.le_trans hB0 (own_blockD ho e).1
  have U : Upd (fun k => k = r.rb) z (z.setCell ⟨r.rb, 5, none⟩ v') := Upd.set1 (Upd.refl _ _) hg 5 _
  obtain ⟨l, hl, _⟩ := hz.files
  refine ⟨⟨r.rb, r.fv, r.qv, v'⟩, ⟨h.hb, h.rb, ?_, ?_, ?_, ?_, ⟨h.ok.now, h.ok.last, h.ok.q, h.ok.nd, h.ok.lost, h.ok.armed⟩, hkI⟩, rfl, (Nw.trans u U).mono (fun k _ e => Or.inl e), ?_⟩
  · have := setCell_block hz.blk 5 v'
    unfold rdC at this ⊢
    exact this
  · exact hz.files.upd U (fun k hk e => own_blk hl hz.blk (by decide) (by rw [← e]; exact hk))
  · exact owns_updD hz.queue U (fun k hk e => own_blk hz.queue hz.blk (by decide) (by rw [← e]; exact hk))
  · exact owns_base (owns_updD ho U (fun k hk e => by subst e; have := hv _ hk; omega)) (by omega)
  · rintro j (e | e | e | e)
    · exact Or.inl (Or.inl e)
    · exact Or.inl (Or.inr (Or.inl e))
    · exact Or.inl (Or.inr (Or.inr (Or.inl e)))
    · exact Or.inr (hv j e)
set_option maxRecDepth 100000 in
theorem arm_rd (h : RDAt B w r D) (g : Gl w) {n : Int} (hn : I64 n) (lo hi : Nat) (hhi : hi ≤ B) (v : Value) (keep : List Int) (hkI : ∀ x ∈ keep, I64 x) (hs : Sl lo hi w v (keep.map intD)) (hL : keep.length ≤ 1000000000) :
    Calls Tryz.prog 16 #[.pointer (some ⟨r.rb, 0, none⟩), .int .i64 n, v] w fun e w' => e = .returned (.tuple #[]) ∧ RDTo B r (Dk.arm D n keep) w w' := by
  have hgb := g.big
  obtain ⟨_, _, _, _, c4, _⟩ := h.cells
  have f4 := h.frozen 4
  have hrB := (h.foot_lt (Or.inl rfl)).1
  obtain ⟨s1, u1⟩ := h.scal (D' := { D with armed := max n 0 }) 4 (.int .i64 (max n 0)) rfl rfl rfl rfl ⟨h.ok.now, h.ok.last, h.ok.q, h.ok.nd, h.ok.lost, ⟨by dsimp only; omega, by dsimp only; exact i64_max hn⟩⟩
  obtain ⟨a, cap, rfl, _, hc⟩ := int_cells hs
  have n1 := nw_alloc (w.setCell ⟨r.rb, 4, none⟩ (.int .i64 (max n 0))) (.cells #[] tIntD)
  have o1 := owns_emptyD (w.setCell ⟨r.rb, 4, none⟩ (.int .i64 (max n 0))) tIntD 1
  have hsz : (w.setCell ⟨r.rb, 4, none⟩ (.int .i64 (max n 0))).heap.size = w.heap.size := by simp
  rw [hsz] at o1
  have Hsz := Lib.hid hsz
  have Hs := Lib.hid ((hs.upd u1 (fun k _ hk s => by have := s; omega)).nw n1)
  have H := Lib.hid (And.intro h (And.intro s1 (And.intro u1 hkI)))
  have N1 := Lib.hid n1
  have HL := Lib.hid hL
  clear h s1 u1 hkI n1 hL hc hsz
  go_enter Tryz.func16, Tryz.ntmps16
  go_wp2_with (at_builtin; go_loud (refine wpList_catA rfl _ _ 48 rfl w.heap.size lo hi tIntD _ 8 Tryz.underlying48 infoIntD rfl _ _ _ _ _ rfl o1 rfl Hs.out ?c1 ?c2 ?c3 ?c4 ?_))
  case c1 =>
    intro u hu
    obtain ⟨x, _, rfl⟩ := List.mem_map.1 hu
    rfl
  case c2 => have := HL.out; unfold maxLen; rw [List.length_map]; omega
  case c3 => have := HL.out; rw [List.length_map]; omega
  case c4 => simp
  intro v' w2 hown hgrow hob
  have u2 : Nw (w.setCell ⟨r.rb, 4, none⟩ (.int .i64 (max n 0))) w2 := N1.out.grown hgrow (fun k hk => ⟨Or.inr (by rw [Hsz.out]; exact (hob k hk).1), by have := (hob k hk).1; have := Hsz.out; omega⟩)
  (try simp only [List.nil_append, List.length_map, Nat.zero_add] at hown)
  have c5 := (H.out.2.1.nw u2).cells.2.2.2.2.2
  have f5 := (H.out.2.1.nw u2).frozen 5
  have hT := keep_done_r H.out.2.1 u2 H.out.2.2.2 (Nat.le_of_eq Hsz.out) hown
  have hz : Hid (RDTo B r (Dk.arm D n keep) w (w2.setCell ⟨r.rb, 5, none⟩ v')) := RDTo.then_ H.out.1 H.out.2.1 rfl (H.out.2.2.1.mono (fun k _ e => Or.inl e)) (fun j e => Or.inl e) hT
  obtain ⟨a2, c2, rfl⟩ := own_slD hown
  clear hT hown hgrow hob u2
  go_wp2_with fail
  go_end0
  exact ⟨rfl, hz.out⟩
set_option maxHeartbeats 1000000 in
set_option maxRecDepth 100000 in
theorem read_rd (h : RDAt B w r D) {f i n : Int} (hf : I64 f) (hi : I64 i) (hn : I64 n) :
    Calls Tryz.prog 24 #[.pointer (some ⟨r.rb, 0, none⟩), .int .i64 f, .int .i64 i, .int .i64 n] w fun e w' => e = .returned (.tuple #[.string ⟨(Dk.read D f i n).1.toArray⟩, .int .i64 (Dk.read D f i n).2]) ∧ Nw w w' := by
  have hm := Lib.hid (may_r h f)
  have hg := Lib.hid (get_r h f)
  have hnow := h.ok.now f
  have hf1 := rfield1 f (D.fs f)
  have Hf := Lib.hid hf1
  clear hf1
  generalize hA : (D.fs f).now = s at *
  generalize (D.fs f).last = s2 at *
  have Hnow := Lib.hid hnow
  clear h hnow
  by_cases hm0 : Dk.may D f = 0
  rotate_left
  · have hr : Hid (Dk.read D f i n = ([], Dk.may D f)) := by show _ = _; unfold Dk.read; rw [if_pos hm0]
    have d0 : (Dk.may D f == 0) = false := beq_eq_false_iff_ne.2 hm0
    have d1 : (Dk.may D f != 0) = true := by simp [hm0]
    clear hm0 hA
    go_enter Tryz.func24, Tryz.ntmps24
    go_wp2_with fail
    (with_reducible refine (hm.out).mono ?_)
    rintro _ _ ⟨rfl, rfl⟩
    go_wp2_with fail
    go_ret2
    exact ⟨by rw [hr.out]; rfl, Upd.refl _ _⟩
  have hr0 : Dk.read D f i n = if i < 0 ∨ n < 0 then ([], 1) else ((s.drop i.toNat).take n.toNat, 0) := by unfold Dk.read; rw [if_neg (by omega), hA]
  rw [hm0] at hm
  clear hA hm0
  by_cases h1 : i < 0
  · have hr : Hid (Dk.read D f i n = ([], 1)) := by show _ = _; rw [hr0, if_pos (Or.inl h1)]
    clear hr0
    go_enter Tryz.func24, Tryz.ntmps24
    go_wp2_with fail
    (with_reducible refine (hm.out).mono ?_)
    rintro _ _ ⟨rfl, rfl⟩
    go_wp2_with fail
    go_ret2
    exact ⟨by rw [hr.out]; rfl, Upd.refl _ _⟩
  by_cases h2 : n < 0
  · have hr : Hid (Dk.read D f i n = ([], 1)) := by show _ = _; rw [hr0, if_pos (Or.inr h2)]
    clear hr0
    go_enter Tryz.func24, Tryz.ntmps24
    go_wp2_with fail
    (with_reducible refine (hm.out).mono ?_)
    rintro _ _ ⟨rfl, rfl⟩
    go_wp2_with fail
    go_ret2
    exact ⟨by rw [hr.out]; rfl, Upd.refl _ _⟩
  have hr : Hid (Dk.read D f i n = ((s.drop i.toNat).take n.toNat, 0)) := by show _ = _; rw [hr0, if_neg (by omega)]
  clear hr0
  obtain ⟨i, rfl⟩ : ∃ m : Nat, i = m := ⟨i.toNat, by omega⟩
  obtain ⟨n, rfl⟩ : ∃ m : Nat, n = m := ⟨n.toNat, by omega⟩
  have hsl : (s.length : Int) ≤ 16777216 := by have := Hnow.out; omega
  by_cases h3 : s.length ≤ i
  · have hr2 : Hid ((s.drop ((i : Int)).toNat).take ((n : Int)).toNat = []) := by
      show _ = _
      rw [List.drop_of_length_le (by omega), List.take_nil]
    have h3' : (s.length : Int) ≤ i := by omega
    clear h1 h2 h3
    go_enter Tryz.func24, Tryz.ntmps24
    go_wp2_with fail
    (with_reducible refine (hm.out).mono ?_)
    rintro _ _ ⟨rfl, rfl⟩
    go_wp2_with fail
    (with_reducible refine (hg.out).mono ?_)
    rintro _ w1 ⟨rfl, u1⟩
    go_wp2_with (with_reducible refine wpList_fieldL (o := ⟨some 27, _, _, _, _, _⟩) rfl _ tRFile 1 rfl _ _ (Hf.out _) (by with_unfolding_all rfl) ?_)
    go_ret2
    exact ⟨by rw [hr.out, hr2.out]; rfl, u1⟩
  · obtain ⟨m, hm1⟩ : ∃ m, m = min n (s.length - i) := ⟨_, rfl⟩
    have hmi : min (n : Int) ((s.length : Int) - i) = m := by omega
    have hb1 : (i : Int) + m ≤ s.length := by omega
    have h3' : ¬ (s.length : Int) ≤ i := by omega
    have hr2 : Hid ((s.drop ((i : Int)).toNat).take ((n : Int)).toNat = (s.drop i).take m) := by
      show _ = _
      rw [Int.toNat_natCast, Int.toNat_natCast]
      rw [hm1, ← List.length_drop, ← List.take_eq_take_min]
    have hsl2 : ∀ z : World, (Instr.slice 9 (.string ⟨s.toArray⟩) (some (.int .i64 i)) (some (.int .i64 ((i : Int) + m))) none).run Tryz.prog z = .ok (.string ⟨((s.drop i).take m).toArray⟩) z := fun z => by
      have := run_slice_string (P := Tryz.prog) z 9 ⟨s.toArray⟩ .i64 .i64 (i : Int) ((i : Int) + m) Tryz.underlying9 (by omega) (by omega) (by rw [bs_size, bs_list]; exact hb1)
      rw [show ((i : Int) + m).toNat = i + m by omega, Int.toNat_natCast, ← bs_eta ((⟨s.toArray⟩ : ByteArray).extract i (i + m)), bs_extract, bs_list, Nat.add_sub_cancel_left] at this
      exact this
    clear h1 h2 h3 hm1
    go_enter Tryz.func24, Tryz.ntmps24
    go_wp2_with fail
    (with_reducible refine (hm.out).mono ?_)
    rintro _ _ ⟨rfl, rfl⟩
    go_wp2_with fail
    (with_reducible refine (hg.out).mono ?_)
    rintro _ w1 ⟨rfl, u1⟩
    go_wp2_with (with_reducible refine wpList_fieldL (o := ⟨some 27, _, _, _, _, _⟩) rfl _ tRFile 1 rfl _ _ (Hf.out _) (by with_unfolding_all rfl) ?_)
    go_ret2
    exact ⟨by rw [hr.out, hr2.out] <;> rfl, u1⟩
set_option maxHeartbeats 1000000 in
set_option maxRecDepth 100000 in
theorem write_rd (h : RDAt B w r D) (g : Gl w) (hB : B ≤ w.heap.size) {f i : Int} (hf : I64 f) (hi : I64 i) (s : List UInt8) (hs : s.length ≤ 1000000000) :
    Calls Tryz.prog 142 #[.pointer (some ⟨r.rb, 0, none⟩), .int .i64 f, .int .i64 i, .string ⟨s.toArray⟩] w fun e w' => e = .returned (.int .i64 (Dk.write D f i s).2) ∧ RDTo B r (Dk.write D f i s).1 w w' := by
  have hgb := g.big
  have hcm := Lib.hid (comes_r h g hB hf hi s hs)
  have hwe : Hid (Dk.write D f i s = Dk.write0 (comesD D f i s) f i s) := write_comes D f i s
  have H := Lib.hid (And.intro h hB)
  generalize comesD D f i s = D1 at *
  clear h hB
  go_enter Tryz.func142, Tryz.ntmps142
  go_wp2_with fail
  (with_reducible refine (hcm.out).mono ?_)
  rintro _ w1 ⟨rfl, hT⟩
  obtain ⟨r1, hC⟩ := RDTo.came H.out.1 hT
  have C1 := Lib.hid hC
  have hm := may_r C1.out.at1 f
  rw [C1.out.rb] at hm
  have Hm := Lib.hid hm
  have hfits := Lib.hid (fits_r i hi s hs w1)
  clear hT hC hm hcm
  by_cases hm0 : Dk.may D1 f = 0
  rotate_left
  · have hr : Hid (Dk.write D f i s = (D1, Dk.may D1 f)) := by show _ = _; rw [hwe.out]; unfold Dk.write0; rw [if_pos hm0]
    have d0 : (Dk.may D1 f == 0) = false := beq_eq_false_iff_ne.2 hm0
    have d1 : (Dk.may D1 f != 0) = true := by simp [hm0]
    clear hm0
    go_wp2_with fail
    (with_reducible refine (Hm.out).mono ?_)
    rintro _ _ ⟨rfl, rfl⟩
    go_wp2_with fail
    go_ret
    exact ⟨by rw [hr.out] <;> rfl, by rw [hr.out]; exact C1.out.to⟩
  have hwr : Dk.write D f i s = if Dk.wErr i s.length ≠ 0 then (D1, Dk.wErr i s.length) else (Dk.add D1 f i.toNat s, 0) := by rw [hwe.out]; unfold Dk.write0; rw [if_neg (by omega)]
  have hfile := Dk.may_file hm0
  rw [hm0] at Hm
  clear hwe hm0
  by_cases hi0 : i < 0
  · have hr : Hid (Dk.write D f i s = (D1, 1)) := by
      have : Dk.wErr i s.length = 1 := by unfold Dk.wErr; rw [if_pos hi0]
      show _ = _; rw [hwr, this, if_pos (by decide)]
    clear hwr
    go_wp2_with fail
    (with_reducible refine (Hm.out).mono ?_)
    rintro _ _ ⟨rfl, rfl⟩
    go_wp2_with fail
    go_ret
    exact ⟨by rw [hr.out] <;> rfl, by rw [hr.out]; exact C1.out.to⟩
  by_cases hw : Dk.wErr i s.length = 0
  rotate_left
  · have hr : Hid (Dk.write D f i s = (D1, 6)) := by
      have : Dk.wErr i s.length = 6 := by
        unfold Dk.wErr at hw ⊢
        rw [if_neg hi0] at hw ⊢
        split at hw
        · rw [if_pos (by assumption)]
        · exact absurd rfl hw
      show _ = _; rw [hwr, this, if_pos (by decide)]
    rw [decide_eq_false hw] at hfits
    clear hwr hw
    go_wp2_with fail
    (with_reducible refine (Hm.out).mono ?_)
    rintro _ _ ⟨rfl, rfl⟩
    go_wp2_with fail
    (with_reducible refine (hfits.out).mono ?_)
    rintro _ _ ⟨rfl, rfl⟩
    go_wp2_with fail
    go_ret
    exact ⟨by rw [hr.out] <;> rfl, by rw [hr.out]; exact C1.out.to⟩
  · rw [decide_eq_true hw] at hfits
    have hwo := Dk.wErr_ok hw
    have hr : Hid (Dk.write D f i s = (Dk.add D1 f i.toNat s, 0)) := by show _ = _; rw [hwr, if_neg (by omega)]
    obtain ⟨i, rfl⟩ : ∃ m : Nat, i = m := ⟨i.toNat, by omega⟩
    rw [Int.toNat_natCast] at hwo hr
    have had := add_r C1.out.at1 (g.upd C1.out.upd) (Nat.le_trans H.out.2 C1.out.upd.size) hfile.2 s hwo.2
    rw [C1.out.rb] at had
    have Had := Lib.hid had
    clear had hwr hw hwo
    go_wp2_with fail
    (with_reducible refine (Hm.out).mono ?_)
    rintro _ _ ⟨rfl, rfl⟩
    go_wp2_with fail
    (with_reducible refine (hfits.out).mono ?_)
    rintro _ _ ⟨rfl, rfl⟩
    go_wp2_with fail
    (with_reducible refine (Had.out).mono ?_)
    rintro _ w2 ⟨rfl, hT2⟩
    have HT2 := Lib.hid (C1.out.then_ hT2)
    clear hT2 Had
    go_wp2_with fail
    go_ret
    exact ⟨by rw [hr.out] <;> rfl, by rw [hr.out]; exact HT2.out⟩
set_option maxHeartbeats 1000000 in
set_option maxRecDepth 100000 in
theorem sync_rd (h : RDAt B w r D) (g : Gl w) (hB : B ≤ w.heap.size) {f : Int} (hf : I64 f) :
    Calls Tryz.prog 62 #[.pointer (some ⟨r.rb, 0, none⟩), .int .i64 f] w fun e w' => e = .returned (.int .i64 (Dk.sync D f).2) ∧ RDTo B r (Dk.sync D f).1 w w' := by
  have hgb := g.big
  have hcm := comes_r h g hB (f := 0) (i := 0) (by unfold I64; omega) (by unfold I64; omega) [] (by simp)
  rw [comesD_come] at hcm
  have Hcm := Lib.hid hcm
  have H := Lib.hid (And.intro h hB)
  clear h hB hcm
  have hr0 : Dk.sync D f = if Dk.may (Dk.come D) f ≠ 0 then (Dk.come D, Dk.may (Dk.come D) f) else if 0 < (Dk.come D).lost then ({ Dk.come D with lost := (Dk.come D).lost - 1 }, 9) else (Dk.settle (Dk.come D) f ((Dk.come D).fs f).now, 0) := rfl
  generalize Dk.come D = D1 at *
  go_enter Tryz.func62, Tryz.ntmps62
  go_wp2_with fail
  (with_reducible refine (Hcm.out).mono ?_)
  rintro _ w1 ⟨rfl, hT⟩
  obtain ⟨r1, hC⟩ := RDTo.came H.out.1 hT
  have C1 := Lib.hid hC
  have hm := may_r C1.out.at1 f
  rw [C1.out.rb] at hm
  have Hm := Lib.hid hm
  clear hT hC hm Hcm
  by_cases hm0 : Dk.may D1 f = 0
  rotate_left
  · have hr : Hid (Dk.sync D f = (D1, Dk.may D1 f)) := by show _ = _; rw [hr0, if_pos hm0]
    have d0 : (Dk.may D1 f == 0) = false := beq_eq_false_iff_ne.2 hm0
    have d1 : (Dk.may D1 f != 0) = true := by simp [hm0]
    clear hm0 hr0
    go_wp2_with fail
    (with_reducible refine (Hm.out).mono ?_)
    rintro _ _ ⟨rfl, rfl⟩
    go_wp2_with fail
    go_ret
    exact ⟨by rw [hr.out] <;> rfl, by rw [hr.out]; exact C1.out.to⟩
  rw [hm0] at Hm
  rw [if_neg (by omega)] at hr0
  have hfile := Dk.may_file hm0
  have c2 := C1.out.at1.cells.2.2.1
  have f2 := C1.out.at1.frozen 2
  rw [C1.out.rb] at c2 f2
  have hlo := C1.out.at1.ok.lost
  clear hm0
  by_cases hl : 0 < D1.lost
  · have hr : Hid (Dk.sync D f = ({ D1 with lost := D1.lost - 1 }, 9)) := by show _ = _; rw [hr0, if_pos hl]
    obtain ⟨s1, u1⟩ := C1.out.at1.scal (D' := { D1 with lost := D1.lost - 1 }) 2 (.int .i64 (D1.lost - 1)) rfl rfl rfl rfl ⟨C1.out.at1.ok.now, C1.out.at1.ok.last, C1.out.at1.ok.q, C1.out.at1.ok.nd, ⟨by dsimp only; omega, by dsimp only; omega⟩, C1.out.at1.ok.armed⟩
    have hTT := C1.out.then_ (D2 := { D1 with lost := D1.lost - 1 }) ⟨r1, s1, rfl, u1.mono (fun k _ e => Or.inl e), fun j e => Or.inl e⟩
    rw [C1.out.rb] at hTT
    have HT := Lib.hid hTT
    have hl1 : 0 ≤ D1.lost - 1 := by omega
    have hl2 : D1.lost ≤ 9223372036854775807 := hlo.2
    clear hTT hr0 hlo s1 u1
    go_wp2_with fail
    (with_reducible refine (Hm.out).mono ?_)
    rintro _ _ ⟨rfl, rfl⟩
    go_wp2_with fail
    go_ret
    exact ⟨by rw [hr.out] <;> rfl, by rw [hr.out]; exact HT.out⟩
  have hr : Hid (Dk.sync D f = (Dk.settle D1 f (D1.fs f).now, 0)) := by show _ = _; rw [hr0, if_neg hl]
  have hg := get_r C1.out.at1 f
  have hf1 := rfield1 f (D1.fs f)
  have hst := fun (z : World) (u : Nw w1 z) => settle_r (C1.out.at1.nw u) (g.upd (C1.out.upd.nw u)) (Nat.le_trans H.out.2 (C1.out.upd.nw u).size) hfile.2 (D1.fs f).now (C1.out.at1.ok.now f)
  rw [C1.out.rb] at hg hst
  have Hst := Lib.hid hst
  have Hg := Lib.hid hg
  have Hf := Lib.hid hf1
  clear hg hst hr0 hf1 hlo
  go_wp2_with fail
  (with_reducible refine (Hm.out).mono ?_)
  rintro _ _ ⟨rfl, rfl⟩
  go_wp2_with fail
  (with_reducible refine (Hg.out).mono ?_)
  rintro _ w2 ⟨rfl, u2⟩
  go_wp2_with (with_reducible refine wpList_fieldL (o := ⟨some 31, _, _, _, _, _⟩) rfl _ tRFile 1 rfl _ _ (Hf.out _) (by with_unfolding_all rfl) ?_)
  (with_reducible refine (Hst.out _ u2).mono ?_)
  rintro _ w3 ⟨rfl, hT3⟩
  have HT3 := Lib.hid (C1.out.then_ (RDTo.after u2 hT3))
  clear hT3
  go_wp2_with fail
  go_ret
  exact ⟨by rw [hr.out] <;> rfl, by rw [hr.out]; exact HT3.out⟩
set_option maxHeartbeats 1000000 in
set_option maxRecDepth 100000 in
theorem truncate_rd (h : RDAt B w r D) (g : Gl w) (hB : B ≤ w.heap.size) {f n : Int} (hf : I64 f) (hn : I64 n) :
    Calls Tryz.prog 65 #[.pointer (some ⟨r.rb, 0, none⟩), .int .i64 f, .int .i64 n] w fun e w' => e = .returned (.int .i64 (Dk.truncate D f n).2) ∧ RDTo B r (Dk.truncate D f n).1 w w' := by
  have hgb := g.big
  have hcm := comes_r h g hB (f := 0) (i := 0) (by unfold I64; omega) (by unfold I64; omega) [] (by simp)
  rw [comesD_come] at hcm
  have Hcm := Lib.hid hcm
  have H := Lib.hid (And.intro h hB)
  clear h hB hcm
  have hr0 : Dk.truncate D f n = if Dk.may (Dk.come D) f ≠ 0 then (Dk.come D, Dk.may (Dk.come D) f) else if n < 0 ∨ ((((Dk.come D).fs f).now.length : Nat) : Int) < n then (Dk.come D, 1) else (Dk.settle (Dk.come D) f (((Dk.come D).fs f).now.take n.toNat), 0) := rfl
  generalize Dk.come D = D1 at *
  go_enter Tryz.func65, Tryz.ntmps65
  go_wp2_with fail
  (with_reducible refine (Hcm.out).mono ?_)
  rintro _ w1 ⟨rfl, hT⟩
  obtain ⟨r1, hC⟩ := RDTo.came H.out.1 hT
  have C1 := Lib.hid hC
  have hm := may_r C1.out.at1 f
  rw [C1.out.rb] at hm
  have Hm := Lib.hid hm
  clear hT hC hm Hcm
  by_cases hm0 : Dk.may D1 f = 0
  rotate_left
  · have hr : Hid (Dk.truncate D f n = (D1, Dk.may D1 f)) := by show _ = _; rw [hr0, if_pos hm0]
    have d0 : (Dk.may D1 f == 0) = false := beq_eq_false_iff_ne.2 hm0
    have d1 : (Dk.may D1 f != 0) = true := by simp [hm0]
    clear hm0 hr0
    go_wp2_with fail
    (with_reducible refine (Hm.out).mono ?_)
    rintro _ _ ⟨rfl, rfl⟩
    go_wp2_with fail
    go_ret
    exact ⟨by rw [hr.out] <;> rfl, by rw [hr.out]; exact C1.out.to⟩
  rw [hm0] at Hm
  rw [if_neg (by omega)] at hr0
  have hfile := Dk.may_file hm0
  clear hm0
  have hg := get_r C1.out.at1 f
  have hf1 := rfield1 f (D1.fs f)
  have hnow := C1.out.at1.ok.now f
  have hst := fun (z : World) (u : Nw w1 z) => settle_r (C1.out.at1.nw u) (g.upd (C1.out.upd.nw u)) (Nat.le_trans H.out.2 (C1.out.upd.nw u).size) hfile.2 ((D1.fs f).now.take n.toNat) (by rw [List.length_take]; omega)
  rw [C1.out.rb] at hg hst
  generalize (D1.fs f).now = s at *
  generalize (D1.fs f).last = s2 at *
  have Hst := Lib.hid hst
  have Hg := Lib.hid hg
  have Hf := Lib.hid hf1
  have hsl : (s.length : Int) ≤ 16777216 := by omega
  clear hg hst hf1 hnow
  by_cases hn0 : n < 0
  · have hr : Hid (Dk.truncate D f n = (D1, 1)) := by show _ = _; rw [hr0, if_pos (Or.inl hn0)]
    have HT := Lib.hid (fun (z : World) (u : Nw w1 z) => C1.out.then_ (RDTo.of_nw C1.out.at1 u))
    clear hr0
    go_wp2_with fail
    (with_reducible refine (Hm.out).mono ?_)
    rintro _ _ ⟨rfl, rfl⟩
    go_wp2_with fail
    (with_reducible refine (Hg.out).mono ?_)
    rintro _ w2 ⟨rfl, u2⟩
    go_wp2_with (with_reducible refine wpList_fieldL (o := ⟨some 20, _, _, _, _, _⟩) rfl _ tRFile 1 rfl _ _ (Hf.out _) (by with_unfolding_all rfl) ?_)
    go_ret
    exact ⟨by rw [hr.out] <;> rfl, by rw [hr.out]; exact HT.out _ u2⟩
  by_cases hn1 : (s.length : Int) < n
  · have hr : Hid (Dk.truncate D f n = (D1, 1)) := by show _ = _; rw [hr0, if_pos (Or.inr hn1)]
    have HT := Lib.hid (fun (z : World) (u : Nw w1 z) => C1.out.then_ (RDTo.of_nw C1.out.at1 u))
    clear hr0
    go_wp2_with fail
    (with_reducible refine (Hm.out).mono ?_)
    rintro _ _ ⟨rfl, rfl⟩
    go_wp2_with fail
    (with_reducible refine (Hg.out).mono ?_)
    rintro _ w2 ⟨rfl, u2⟩
    go_wp2_with (with_reducible refine wpList_fieldL (o := ⟨some 20, _, _, _, _, _⟩) rfl _ tRFile 1 rfl _ _ (Hf.out _) (by with_unfolding_all rfl) ?_)
    go_ret
    exact ⟨by rw [hr.out] <;> rfl, by rw [hr.out]; exact HT.out _ u2⟩
  have hr : Hid (Dk.truncate D f n = (Dk.settle D1 f (s.take n.toNat), 0)) := by show _ = _; rw [hr0, if_neg (by omega)]
  obtain ⟨n, rfl⟩ : ∃ m : Nat, n = m := ⟨n.toNat, by omega⟩
  have hx : (({ data := s.toArray } : ByteArray).extract 0 n) = ⟨(s.take ((n : Int)).toNat).toArray⟩ := by rw [bs_extract]; simp
  rw [← hx] at Hst
  clear hr0 hx
  go_wp2_with fail
  (with_reducible refine (Hm.out).mono ?_)
  rintro _ _ ⟨rfl, rfl⟩
  go_wp2_with fail
  (with_reducible refine (Hg.out).mono ?_)
  rintro _ w2 ⟨rfl, u2⟩
  go_wp2_with (with_reducible refine wpList_fieldL (o := ⟨some 20, _, _, _, _, _⟩) rfl _ tRFile 1 rfl _ _ (Hf.out _) (by with_unfolding_all rfl) ?_)
  (with_reducible refine (Hst.out _ u2).mono ?_)
  rintro _ w3 ⟨rfl, hT3⟩
  have HT3 := Lib.hid (C1.out.then_ (RDTo.after u2 hT3))
  clear hT3
  go_wp2_with fail
  go_ret
  exact ⟨by rw [hr.out] <;> rfl, by rw [hr.out]; exact HT3.out⟩
end
theorem I64_s {n : Int} (h : -1000000 ≤ n ∧ n ≤ 1000000) : I64 n := by unfold I64; omega
end Go.Proofs.YtiednpagknnfnaaGreatDoor
namespace Go.Proofs.YtiednpagknnfnaaGreatDoor
open Go.ChangeShapes Go.WideShapes Go.ChangeAt Go.RowKit Go.Joins
attribute [local irreducible] Calls
section
variable {H : Type} {enc : TypeId × Value → H} {w : World} {base : Nat} {sp : Nat → Bool} {held : Bool} {n : Nat} {x : DataW H × List MemPlace}
end
theorem str_cells {lo hi : Nat} {w : World} {v : Value} {l : List (List UInt8)} (h : Sl lo hi w v (l.map (fun s => Value.string ⟨s.toArray⟩))) :
    ∃ a cap, v = .slice a l.length cap ∧ l.length ≤ maxLen ∧ (l = [] ∨ ∃ b off, a = some ⟨b, off, none⟩ ∧ b < hi ∧ b < w.heap.size ∧ ∀ i (h : i < l.length), w.cell? ⟨b, off + i, none⟩ = some (.string ⟨l[i].toArray⟩)) := by
  obtain ⟨a, cap, rfl, hm, h⟩ := h.open_
  rw [List.length_map] at hm
  refine ⟨a, cap, by rw [List.length_map], hm, ?_⟩
  rcases h with ⟨_, _, h⟩ | ⟨b, off, rfl, _, hb1, hb, hc⟩
  · exact Or.inl (by simpa using h)
  · refine Or.inr ⟨b, off, rfl, hb1, hb, fun i hi => ?_⟩
    have h2 := hc i (by simpa using hi)
    rw [h2, List.getElem?_map, List.getElem?_eq_getElem hi]; rfl
end Go.Proofs.YtiednpagknnfnaaGreatDoor
namespace Go.Proofs.YtiednpagknnfnaaGreatDoor
open Go.RowKit
attribute [local irreducible] Calls
set_option maxRecDepth 100000 in
theorem Sum_q (s : List UInt8) (hs : s.length ≤ 1000000000) (w : World) :
    Calls Tryz.prog 105 #[.string ⟨s.toArray⟩] w fun e w' => e = .returned (.int .i64 (Jr.sumN s)) ∧ w = w' := by
  have hs1 : (s.length : Int) ≤ 1000000000 := by omega
  have hs0 : (0 : Int) ≤ s.length := by omega
  clear hs
  go_enter Tryz.func105, Tryz.ntmps105
  go_wp2_with fail
  go_loopw [3, 4] (fun nv iv wr => ∃ k : Nat, k ≤ s.length ∧ iv = .int .i64 k ∧ nv = .int .i64 (Jr.sumN (s.take k)) ∧ w = wr) (fun _ iv _ => s.length - (intOf iv).toNat)
  case atStart => exact ⟨0, Nat.zero_le _, rfl, rfl, rfl⟩
  case round =>
    obtain ⟨k, hk, rfl, rfl, rfl⟩ := hrel
    have hb := Jr.sumN_bd (s.take k)
    by_cases hlt : k < s.length
    · have hn : Jr.sumN (s.take (k + 1)) = (Jr.sumN (s.take k) + s[k].toNat * ((k : Int) + 1)) % 2147483647 := by
        rw [List.take_succ_eq_append_getElem hlt, Jr.sumN_snoc, List.length_take, Nat.min_eq_left (Nat.le_of_lt hlt)]
      have hc : s[k].toNat < 256 := s[k].toNat_lt
      go_wp2_with fail
      go_roundw
      case rel => 
        refine ⟨k + 1, by omega, by go_num, ?_, trivial⟩
        rw [hn]
        exact congrArg (Value.int .i64) (sum_step hb.1 hb.2 s[k].toNat hc k (by omega))
      case measure => simp [intOf]; omega
    · obtain rfl : k = s.length := by omega
      have ht : s.take s.length = s := List.take_length
      rw [ht]
      go_wp2_with fail
      go_ret
      exact ⟨rfl, rfl⟩
set_option maxRecDepth 100000 in
theorem Form_q (s : List UInt8) (hs : s.length ≤ 1000000000) (w : World) :
    Calls Tryz.prog 106 #[.string ⟨s.toArray⟩] w fun e w' => e = .returned (.string ⟨(Jr.form s).toArray⟩) ∧ Nw w w' := by
  have ht := Lib.hid (Text_q ⟨s.toArray⟩ s (bs_list s) w (by omega))
  have hb := Jr.sumN_bd s
  have hf := Jr.form_len s (by omega)
  unfold Jr.form at hf
  rw [List.length_append] at hf
  have hf1 : (Wire.textE s).length ≤ 1000000043 := by omega
  have hf2 : (Wire.numE (Jr.sumN s)).length ≤ 1000000043 := by omega
  have hu := Lib.hid (fun z => Sum_q s hs z)
  have hI : Hid (I64 (Jr.sumN s)) := by show I64 _; unfold I64; omega
  clear hs hb hf
  go_enter Tryz.func106, Tryz.ntmps106
  go_wp2_with fail
  (with_reducible refine (ht.out).mono ?_)
  rintro _ w1 ⟨rfl, u1⟩
  go_wp2_with fail
  (with_reducible refine (hu.out _).mono ?_)
  rintro _ _ ⟨rfl, rfl⟩
  go_wp2_with fail
  (with_reducible refine (Num_q _ _ hI.out).mono ?_)
  rintro _ w2 ⟨rfl, u2⟩
  go_wp2_with fail
  go_ret
  refine ⟨ret_bs ?_, u1.trans u2⟩
  simp only [bs_append_list, bs_list]
  rfl
theorem val_bs {s : ByteArray} {l : List UInt8} (h : s.data.toList = l) : Value.string s = .string ⟨l.toArray⟩ := by rw [← h, bs_eta]
theorem forms_take_le (L : List (List UInt8)) (k : Nat) : (Jr.forms (L.take k)).length ≤ (Jr.forms L).length := by
  conv => rhs; rw [← List.take_append_drop k L, Jr.forms_append, List.length_append]
  omega
set_option maxHeartbeats 1000000 in
set_option maxRecDepth 100000 in
theorem Forms_q (lo hi : Nat) (v : Value) (L : List (List UInt8)) (w : World) (h : Sl lo hi w v (L.map (fun s => Value.string ⟨s.toArray⟩))) (hL : (Jr.forms L).length ≤ 16777216) :
    Calls Tryz.prog 64 #[v] w fun e w' => e = .returned (.string ⟨(Jr.forms L).toArray⟩) ∧ Nw w w' := by
  obtain ⟨a, cap, rfl, hm, hc⟩ := str_cells h
  have hlf := Jr.len_forms L
  have hl1 : (L.length : Int) ≤ 16777216 := by omega
  have hl0 : (0 : Int) ≤ L.length := by omega
  have Hc := Lib.hid hc
  have HL := Lib.hid hL
  clear h hc hlf hL hm
  go_enter Tryz.func64, Tryz.ntmps64
  go_wp2_with fail
  go_loopw [3, 4] (fun sv iv wr => ∃ k : Nat, k ≤ L.length ∧ iv = .int .i64 k ∧ sv = .string ⟨(Jr.forms (L.take k)).toArray⟩ ∧ Hid (Nw w wr)) (fun _ iv _ => L.length - (intOf iv).toNat)
  case atStart => exact ⟨0, Nat.zero_le _, rfl, rfl, Upd.refl _ _⟩
  case round =>
    obtain ⟨k, hk, rfl, rfl, HU⟩ := hrel
    by_cases hlt : k < L.length
    · rcases Hc.out with hnil | ⟨b, off, rfl, hb1, hbw, hcell⟩
      · rw [hnil] at hlt; simp at hlt
      have d0 := (World.cell?_of_block (a := ⟨b, off + k, none⟩) (HU.out.block b hbw (Or.inr id))).trans (hcell k hlt)
      have hfk : (Jr.forms (L.take (k + 1))) = Jr.forms (L.take k) ++ Jr.form L[k] := by rw [List.take_succ_eq_append_getElem hlt, Jr.forms_snoc]
      have hle := forms_take_le L (k + 1)
      have hle2 := congrArg List.length hfk
      rw [List.length_append] at hle2
      have hge := Jr.form_ge L[k]
      have hz := Lib.hid (Form_q L[k] (by have := HL.out; omega) wr)
      have Hfk := Lib.hid hfk
      have q1 : (Jr.forms (L.take k)).length ≤ 16777216 := by have := HL.out; omega
      have q2 : (Jr.form L[k]).length ≤ 16777216 := by have := HL.out; omega
      clear hcell hfk hle hle2 hge
      generalize L[k] = y at *
      go_wp2_with fail
      (with_reducible refine (hz.out).mono ?_)
      rintro _ w1 ⟨rfl, u1⟩
      have hN := Lib.hid (HU.out.trans u1)
      clear u1 hz
      go_wp2_with fail
      go_roundw
      case rel => exact ⟨k + 1, by omega, by go_num, (by rw [Hfk.out]; exact val_bs (by simp only [bs_append_list, bs_list])), hN.out⟩
      case measure => simp [intOf]; omega
    · obtain rfl : k = L.length := by omega
      have ht : L.take L.length = L := List.take_length
      rw [ht]
      go_wp2_with fail
      go_ret
      exact ⟨rfl, HU.out⟩
def RecI (s : List UInt8) (B0 : Nat) (b : Nat) (w : World) (v : Value) (k : Nat) (z : World) : Prop :=
  ∃ (R : List (List UInt8)) (rest : List UInt8), R.length = k ∧ Jr.recs s = R ++ Jr.recs rest ∧ k + rest.length ≤ s.length ∧ Rdr tQ z b (some rest) ∧ z.ownsRow B0 tStrJ 1 v k (R.map bsV) ∧ Nw w z
theorem one_gives {rest t : List UInt8} (h : Jr.one rest = some t) : t = (Wire.rText (some rest)).1 ∧ ∃ r, (Wire.rNum (Wire.rText (some rest)).2).2 = some r ∧ rest = Jr.form t ++ r := by
  refine ⟨one_is h, ?_⟩
  obtain ⟨r, e, hl⟩ := Jr.one_inv h
  obtain ⟨h1, h2⟩ := Jr.rForm (t := t) (r := r) (by omega)
  refine ⟨r, ?_, e⟩
  rw [e, h1]
  exact congrArg Prod.snd h2
set_option maxHeartbeats 2000000 in
set_option maxRecDepth 100000 in
theorem Records_q (s : List UInt8) (hs : s.length ≤ 16777216) (w : World) (g : Gl w) :
    Calls Tryz.prog 63 #[.string ⟨s.toArray⟩] w fun e w' => ∃ v', e = .returned v' ∧ w'.ownsRow w.heap.size tStrJ 1 v' (Jr.recs s).length ((Jr.recs s).map bsV) ∧ Nw w w' := by
  have hgb := g.big
  have hop := Lib.hid (OpenQ _ s (bs_list s) w g)
  have HS := Lib.hid hs
  clear hs
  go_enter Tryz.func63, Tryz.ntmps63
  go_wp2_with fail
  (with_reducible refine (hop.out).mono ?_)
  rintro _ w1 ⟨b, rfl, hb, hr1, n1⟩
  have hbl := hr1.lt
  have hI0 : Hid (RecI s (b + 1) b w (.slice none 0 0) 0 w1) := ⟨[], s, rfl, rfl, by omega, hr1, World.ownsRow_nil _ _ _ _, n1⟩
  have HB := Lib.hid (And.intro hb hbl)
  clear hr1 n1 hop hb hbl
  go_wp2_with fail
  go_loopw [3] (fun v wr => ∃ k : Nat, Hid (RecI s (b + 1) b w v k wr)) (fun v _ => s.length + 1 - lenOfSl v)
  case atStart => exact ⟨_, hI0.out⟩
  case round =>
    obtain ⟨k, HI⟩ := hrel
    obtain ⟨R, rest, rfl, e1, e2, hr, ho, hu⟩ := HI.out
    obtain ⟨al, cl, rfl⟩ := own_slD ho
    have hlf := Lib.hid (LeftQ b (some rest) wr hr)
    have E1 := Lib.hid e1
    have HH := Lib.hid (And.intro hr (And.intro ho hu))
    have gr := g.upd hu
    have hk1 : R.length ≤ 16777216 := by have := HS.out; omega
    have hk2 : rest.length ≤ 16777216 := by have := HS.out; omega
    have E2 := Lib.hid e2
    have HK := Lib.hid (And.intro hk1 hk2)
    clear e1 e2 hr ho hu hk1 hk2
    by_cases hne : rest = []
    · subst hne
      have hfin : Hid (wr.ownsRow w.heap.size tStrJ 1 (.slice al R.length cl) (Jr.recs s).length ((Jr.recs s).map bsV) ∧ Nw w wr) := by
        show _ ∧ _
        rw [E1.out, show Jr.recs [] = [] from rfl, List.append_nil]
        exact ⟨owns_base HH.out.2.1 (by have := HB.out.1; omega), HH.out.2.2⟩
      clear HI HH
      go_wp2_with fail
      (with_reducible refine (hlf.out).mono ?_)
      rintro _ _ ⟨rfl, rfl⟩
      go_wp2_with fail
      go_ret
      exact ⟨_, rfl, hfin.out.1, hfin.out.2⟩
    have hpos : 0 < rest.length := List.length_pos_iff.2 hne
    have hpos1 : (0 : Int) < rest.length := by omega
    clear hne
    go_wp2_with fail
    (with_reducible refine (hlf.out).mono ?_)
    rintro _ _ ⟨rfl, rfl⟩
    have htq := Lib.hid (TextQ b (some rest) wr HH.out.1 (by have := HK.out.2; simp only [Option.getD_some]; omega))
    go_wp2_with fail
    (with_reducible refine (htq.out).mono ?_)
    rintro _ w2 ⟨rfl, hr2, u2⟩
    have htl := rText_fst (some rest)
    have hst := Wire.rText_le (some rest)
    simp only [Option.getD_some] at htl hst
    have hnq := Lib.hid (NumQ b _ w2 hr2 (by have := HK.out.2; omega))
    clear hr2 htq hlf
    go_wp2_with fail
    (with_reducible refine (hnq.out).mono ?_)
    rintro _ w3 ⟨rfl, hr3, u3⟩
    have hU3 := Lib.hid (u2.trans u3)
    have c1 := hr3.c1
    have hone : Hid (Jr.one rest = if (Wire.rNum (Wire.rText (some rest)).2).2.isSome = true ∧ (Wire.rText (some rest)).1.length ≤ 20000 ∧ (Wire.rNum (Wire.rText (some rest)).2).1 = Jr.sumN (Wire.rText (some rest)).1 then some (Wire.rText (some rest)).1 else none) := rfl
    have hgv : Hid (∀ t, Jr.one rest = some t → t = (Wire.rText (some rest)).1 ∧ ∃ r, (Wire.rNum (Wire.rText (some rest)).2).2 = some r ∧ rest = Jr.form t ++ r) := fun t h => one_gives h
    have Hr3 := Lib.hid hr3
    have htl1 : ((Wire.rText (some rest)).1.length : Int) ≤ 16777216 := by have := HK.out.2; omega
    clear hnq u2 u3 hst htl hr3
    generalize (Wire.rNum (Wire.rText (some rest)).2).1 = nn at *
    generalize (Wire.rNum (Wire.rText (some rest)).2).2 = st at *
    generalize (Wire.rText (some rest)).1 = t at *
    have hsum := Lib.hid (Sum_q t (by omega) w3)
    have hdone : Hid (Jr.one rest = none → w3.ownsRow w.heap.size tStrJ 1 (.slice al R.length cl) (Jr.recs s).length ((Jr.recs s).map bsV) ∧ Nw w w3) := fun h => by
      rw [E1.out, Jr.recs_none h, List.append_nil]
      refine ⟨owns_base (owns_updD HH.out.2.1 hU3.out (fun k hk e => by have := (HH.out.2.1.lt k hk).1; omega)) (by have := HB.out.1; omega), HH.out.2.2.trans' hU3.out (fun k hk e => by have := HB.out.1; omega)⟩
    cases st with
    | none =>
      have hfin := Lib.hid (hdone.out (by rw [hone.out, if_neg (fun e => by cases e.1)]))
      clear hdone hone hgv HI HH
      go_wp2_with fail
      go_ret
      exact ⟨_, rfl, hfin.out.1, hfin.out.2⟩
    | some r =>
    by_cases h1 : 20000 < t.length
    · have h1' : (20000 : Int) < t.length := by omega
      have hfin := Lib.hid (hdone.out (by rw [hone.out, if_neg (fun e => by omega)]))
      clear hdone hone hgv HI HH
      go_wp2_with fail
      go_ret
      exact ⟨_, rfl, hfin.out.1, hfin.out.2⟩
    have h1' : ¬ (20000 : Int) < t.length := by omega
    by_cases h2 : nn = Jr.sumN t
    rotate_left
    · have hb1 : (nn == Jr.sumN t) = false := beq_eq_false_iff_ne.2 h2
      have hb2 : (nn != Jr.sumN t) = true := by simp [h2]
      have hfin := Lib.hid (hdone.out (by rw [hone.out, if_neg (fun e => h2 e.2.2)]))
      clear hdone hone hgv HI HH
      clear h2
      go_wp2_with fail
      (with_reducible refine (hsum.out).mono ?_)
      rintro _ _ ⟨rfl, rfl⟩
      go_wp2_with fail
      go_ret
      exact ⟨_, rfl, hfin.out.1, hfin.out.2⟩
    have hb1 : (nn == Jr.sumN t) = true := beq_iff_eq.2 h2
    have hb2 : (nn != Jr.sumN t) = false := by simp [h2]
    have ho1 : Jr.one rest = some t := by rw [hone.out, if_pos ⟨rfl, by omega, h2⟩]
    obtain ⟨_, r', e3, e4⟩ := hgv.out t ho1
    obtain rfl := Option.some.inj e3
    have hfp := Jr.form_pos t
    have hrl : rest.length = (Jr.form t).length + r.length := by rw [e4, List.length_append]
    have ho3 := Lib.hid (owns_updD HH.out.2.1 hU3.out (fun k hk e => by have := (HH.out.2.1.lt k hk).1; omega))
    have hr5 : Jr.recs s = R ++ [t] ++ Jr.recs r := by
      rw [E1.out, Jr.recs_some ho1, e4, List.drop_left]; simp
    have hnext : Hid (∀ v' w5, w5.ownsRow (b + 1) tStrJ 1 v' (R.length + 1) (R.map bsV ++ [bsV t]) → Upd (fun k => (Value.slice al R.length cl).ownBlock = some k) w3 w5 → RecI s (b + 1) b w v' (R.length + 1) w5) := fun v' w5 o5 u5 => by
      have hne : ∀ k, (Value.slice al R.length cl).ownBlock = some k → b + 1 ≤ k := fun k hk => (HH.out.2.1.lt k hk).1
      refine ⟨R ++ [t], r, by simp, hr5, by have := E2.out; omega, Hr3.out.upd u5 (fun e => by have := hne b e; omega), by rw [List.map_append]; exact o5, ?_⟩
      exact (HH.out.2.2.trans' hU3.out (fun k hk e => by have := HB.out.1; omega)).trans' u5 (fun k hk e => by have := hne k e; have := HB.out.1; omega)
    have hW : b + 1 ≤ w3.heap.size := by have := HB.out.2; have := HH.out.2.2.size; have := hU3.out.size; have := Hr3.out.lt; omega
    have hgB : nG ≤ b + 1 := by have := HB.out.1; omega
    have hRm : R.length + 1 ≤ s.length := by have := E2.out; omega
    clear hdone hone hgv ho1 h2 e3 e4 hr5 hfp
    go_wp2_with (first | (go_at_call 105; ((with_reducible refine hsum.out.mono ?_); rintro _ _ ⟨rfl, rfl⟩)) | (at_builtin; refine wpList_appL rfl _ _ 38 rfl (b + 1) tStrJ _ 1 16 Tryz.underlying38 infoStrJ rfl (by decide) _ _ _ rfl ho3.out [bsV t] rfl rfl ?c1 ?c2 ?c3 hW hgB ?_))
    case c1 => intro u hu; rw [List.mem_singleton.1 hu]; rfl
    case c2 => have := HK.out.1; unfold maxLen; omega
    case c3 => have := HK.out.1; omega
    intro v' w5 o5 u5 hob
    have hn5 := Lib.hid (hnext.out v' w5 o5 u5)
    obtain ⟨a5, c5, rfl⟩ := own_slD o5
    clear o5 u5 hob
    go_wp2_with fail
    go_roundw
    case rel => exact ⟨_, hn5.out⟩
    case measure => simp [lenOfSl]; omega
abbrev tRJrn : TypeId := 94
structure RjR where
  kb : Nat
  lv : Value
def RjR.foot (x : RjR) (k : Nat) : Prop := k = x.kb ∨ x.lv.ownBlock = some k
def rjC (rb : Nat) (x : RjR) (j : Jr.Jn) : Array Value := #[.pointer (some ⟨rb, 0, none⟩), .int .i64 j.file, x.lv, .bool j.broken]
structure RJAt (B : Nat) (w : World) (rb : Nat) (x : RjR) (j : Jr.Jn) : Prop where
  hb : nG ≤ B
  kb : B ≤ x.kb
  blk : w.heap[x.kb]? = some (.cells (rjC rb x j) tRJrn (0, 0))
  own : w.ownsRow B tStrJ 1 x.lv j.recs.length (j.recs.map bsV)
  ok : JrnOk j
section
variable {B rb : Nat} {w w' : World} {x : RjR} {j : Jr.Jn} {r : RdR} {D D' : Dk.Disk}
theorem RJAt.foot_lt (h : RJAt B w rb x j) {k : Nat} (hk : x.foot k) : B ≤ k ∧ k < w.heap.size := by
  rcases hk with rfl | hk
  · exact ⟨h.kb, lt_of_block h.blk⟩
  · obtain ⟨h1, cs, h2⟩ := own_blockD h.own hk
    exact ⟨h1, lt_of_block h2⟩
theorem RJAt.upd {S : Nat → Prop} (h : RJAt B w rb x j) (u : Upd S w w') (hs : ∀ k, x.foot k → ¬ S k) : RJAt B w' rb x j :=
  ⟨h.hb, h.kb, u.keep h.blk (hs _ (Or.inl rfl)), owns_updD h.own u (fun k hk => hs k (Or.inr hk)), h.ok⟩
theorem RJAt.nw (h : RJAt B w rb x j) (u : Nw w w') : RJAt B w' rb x j := h.upd u (fun _ _ s => s)
theorem RJAt.ne (h : RJAt B w rb x j) : x.lv.ownBlock ≠ some x.kb := own_blk h.own h.blk (by decide)
theorem RJAt.cells (h : RJAt B w rb x j) :
    w.cell? ⟨x.kb, 0, none⟩ = some (.pointer (some ⟨rb, 0, none⟩)) ∧ w.cell? ⟨x.kb, 1, none⟩ = some (.int .i64 j.file) ∧ w.cell? ⟨x.kb, 2, none⟩ = some x.lv ∧ w.cell? ⟨x.kb, 3, none⟩ = some (.bool j.broken) := by
  refine ⟨?_, ?_, ?_, ?_⟩ <;> (rw [cells_cell h.blk]; rfl)
theorem RJAt.len (h : RJAt B w rb x j) : j.recs.length ≤ 16777216 := Nat.le_trans (Jr.len_forms _) h.ok.bytes
theorem blk_typ {k : Nat} {cs cs' : Array Value} {T T' : TypeId} {fz fz' : Nat × Nat} (h : w.heap[k]? = some (.cells cs T fz)) (h' : w.heap[k]? = some (.cells cs' T' fz')) (hT : T ≠ T') : False := by
  rw [h] at h'
  injection h' with h'
  injection h' with _ h'
  exact hT h'
theorem rd_typ (h : RDAt B w r D) {k : Nat} (hk : r.foot k) : ∃ cs T fz, w.heap[k]? = some (.cells cs T fz) ∧ (T = tRDisk ∨ T = tRFile ∨ T = tRSec ∨ T = tIntD) := by
  rcases hk with rfl | hk | hk | hk
  · exact ⟨_, _, _, h.blk, Or.inl rfl⟩
  · obtain ⟨l, h1, _⟩ := h.files
    obtain ⟨_, cs, e⟩ := own_blockD h1 hk
    exact ⟨_, _, _, e, Or.inr (Or.inl rfl)⟩
  · obtain ⟨_, cs, e⟩ := own_blockD h.queue hk
    exact ⟨_, _, _, e, Or.inr (Or.inr (Or.inl rfl))⟩
  · obtain ⟨_, cs, e⟩ := own_blockD h.keep hk
    exact ⟨_, _, _, e, Or.inr (Or.inr (Or.inr rfl))⟩
theorem rj_apart (h : RDAt B w r D) (h2 : RJAt B w rb x j) {k : Nat} (hk : r.foot k) : ¬ x.foot k := fun e => by
  obtain ⟨cs, T, fz, h1, hT⟩ := rd_typ h hk
  rcases e with rfl | e
  · refine blk_typ h1 h2.blk ?_
    rcases hT with rfl | rfl | rfl | rfl <;> decide
  · obtain ⟨_, cs', e2⟩ := own_blockD h2.own e
    refine blk_typ h1 e2 ?_
    rcases hT with rfl | rfl | rfl | rfl <;> decide
end
structure RSys (B : Nat) (w : World) (r : RdR) (x : RjR) (D : Dk.Disk) (j : Jr.Jn) : Prop where
  disk : RDAt B w r D
  jrn : RJAt B w r.rb x j
def RSTo (B : Nat) (r : RdR) (x : RjR) (D' : Dk.Disk) (j' : Jr.Jn) (w w' : World) : Prop :=
  ∃ r' x', RSys B w' r' x' D' j' ∧ r'.rb = r.rb ∧ x'.kb = x.kb ∧ Upd (fun k => r.foot k ∨ x.foot k) w w' ∧ ∀ k, r'.foot k ∨ x'.foot k → (r.foot k ∨ x.foot k) ∨ w.heap.size ≤ k
section
variable {B : Nat} {w w' w2 : World} {r : RdR} {x : RjR} {D D' : Dk.Disk} {j j' : Jr.Jn}
theorem RSys.nw (h : RSys B w r x D j) (u : Nw w w') : RSys B w' r x D j := ⟨h.disk.nw u, h.jrn.nw u⟩
theorem RSTo.of_nw (h : RSys B w r x D j) (u : Nw w w') : RSTo B r x D j w w' := ⟨r, x, h.nw u, rfl, rfl, Nw.upd _ u, fun k hk => Or.inl hk⟩
theorem RSTo.disk (h : RSys B w r x D j) (t : RDTo B r D' w w') : ∃ r', RSys B w' r' x D' j ∧ r'.rb = r.rb ∧ Upd r.foot w w' ∧ ∀ k, r'.foot k → r.foot k ∨ w.heap.size ≤ k := by
  obtain ⟨r', k1, k2, k3, k4⟩ := t
  exact ⟨r', ⟨k1, by rw [k2]; exact h.jrn.upd k3 (fun k hk e => rj_apart h.disk h.jrn e hk)⟩, k2, k3, k4⟩
theorem RSTo.disk_only (h : RSys B w r x D j) (t : RDTo B r D' w w') : RSTo B r x D' j w w' := by
  obtain ⟨r', k1, k2, k3, k4⟩ := RSTo.disk h t
  refine ⟨r', x, k1, k2, rfl, k3.mono (fun k _ e => Or.inl e), fun k hk => ?_⟩
  rcases hk with e | e
  · exact (k4 k e).imp Or.inl id
  · exact Or.inl (Or.inr e)
theorem RSTo.then_ {D1 D2 : Dk.Disk} {j1 j2 : Jr.Jn} (h1 : RSTo B r x D1 j1 w w') (h2 : ∀ r1 x1, RSys B w' r1 x1 D1 j1 → r1.rb = r.rb → x1.kb = x.kb → RSTo B r1 x1 D2 j2 w' w2) : RSTo B r x D2 j2 w w2 := by
  obtain ⟨r1, x1, a, b, c, d, e⟩ := h1
  obtain ⟨r2, x2, a2, b2, c2, d2, e2⟩ := h2 r1 x1 a b c
  have hz := d.size
  refine ⟨r2, x2, a2, b2.trans b, c2.trans c, d.trans' d2 (fun k hk s => (e k s).resolve_right (by omega)), fun k hk => ?_⟩
  rcases e2 k hk with s | s
  · exact e k s
  · exact Or.inr (by omega)
theorem RSTo.after {w0 : World} (u : Nw w0 w) (h : RSTo B r x D' j' w w') : RSTo B r x D' j' w0 w' := by
  obtain ⟨r', x', a, b, c, d, e⟩ := h
  exact ⟨r', x', a, b, c, Nw.trans u d, fun k hk => (e k hk).imp id (fun e => by have := u.size; omega)⟩
theorem RSTo.bad (h : RSys B w r x D j) (b : Bool) : RSTo B r x D { j with broken := b } w (w.setCell ⟨x.kb, 3, none⟩ (.bool b)) := by
  have hg : nG ≤ x.kb := Nat.le_trans h.jrn.hb h.jrn.kb
  have us : Upd (fun k => k = x.kb) w (w.setCell ⟨x.kb, 3, none⟩ (.bool b)) := Upd.set1 (Upd.refl _ _) hg 3 _
  refine ⟨r, x, ⟨h.disk.upd us (fun k hk e => rj_apart h.disk h.jrn hk (Or.inl e)), ⟨h.jrn.hb, h.jrn.kb, ?_, owns_updD h.jrn.own us (fun k hk e => by subst e; exact h.jrn.ne hk), ⟨h.jrn.ok.file, h.jrn.ok.bytes⟩⟩⟩, rfl, rfl, us.mono (fun k _ e => Or.inr (Or.inl e)), fun k hk => Or.inl hk⟩
  have := setCell_block h.jrn.blk 3 (.bool b)
  unfold rjC at this ⊢
  exact this
theorem RSTo.recs {v' : Value} {B0 : Nat} {z : World} {R : List (List UInt8)} (h : RSys B w r x D j) (u : Nw w z) (hB0 : w.heap.size ≤ B0) (hB : B ≤ w.heap.size) (ho : z.ownsRow B0 tStrJ 1 v' R.length (R.map bsV)) (hl : (Jr.forms R).length ≤ 16777216) : RSTo B r x D { j with recs := R } w (z.setCell ⟨x.kb, 2, none⟩ v') := by
  have hz := h.nw u
  have hg : nG ≤ x.kb := Nat.le_trans h.jrn.hb h.jrn.kb
  have hkw := (h.jrn.foot_lt (Or.inl rfl)).2
  have us : Upd (fun k => k = x.kb) z (z.setCell ⟨x.kb, 2, none⟩ v') := Upd.set1 (Upd.refl _ _) hg 2 _
  have hv : ∀ k, v'.ownBlock = some k → w.heap.size ≤ k := fun k hk => Nat.le_trans hB0 (own_blockD ho hk).1
  refine ⟨r, ⟨x.kb, v'⟩, ⟨hz.disk.upd us (fun k hk e => rj_apart hz.disk hz.jrn hk (Or.inl e)), ⟨h.jrn.hb, h.jrn.kb, ?_, owns_base (owns_updD ho us (fun k hk e => by subst e; have := hv _ hk; omega)) (by omega), ⟨h.jrn.ok.file, hl⟩⟩⟩, rfl, rfl, (Nw.trans u us).mono (fun k _ e => Or.inr (Or.inl e)), fun k hk => ?_⟩
  · have := setCell_block hz.jrn.blk 2 v'
    unfold rjC at this ⊢
    exact this
  · rcases hk with e | e | e
    · exact Or.inl (Or.inl e)
    · exact Or.inl (Or.inr (Or.inl e))
    · exact Or.inr (hv k e)
set_option maxHeartbeats 1000000 in
set_option maxRecDepth 100000 in
theorem JSync_q (h : RSys B w r x D j) (g : Gl w) (hB : B ≤ w.heap.size) :
    Calls Tryz.prog 114 #[.pointer (some ⟨x.kb, 0, none⟩)] w fun e w' => e = .returned (.int .i64 (Jr.syncJ D j).2.2) ∧ RSTo B r x (Jr.syncJ D j).1 (Jr.syncJ D j).2.1 w w' := by
  obtain ⟨c0, c1, c2, c3⟩ := h.jrn.cells
  cases hb : j.broken with
  | true =>
    rw [hb] at c3
    have hr : Hid (Jr.syncJ D j = (D, j, 7)) := by show _ = _; unfold Jr.syncJ; rw [if_pos hb]
    have hz : Hid (RSTo B r x D j w w) := RSTo.of_nw h (Upd.refl _ _)
    clear h hb
    go_enter Tryz.func114, Tryz.ntmps114
    go_wp2_with fail
    go_ret
    exact ⟨by rw [hr.out] <;> rfl, by rw [hr.out]; exact hz.out⟩
  | false =>
    rw [hb] at c3
    have hr : Hid (Jr.syncJ D j = ((Dk.sync D j.file).1, { j with broken := decide ((Dk.sync D j.file).2 ≠ 0) }, (Dk.sync D j.file).2)) := by
      show _ = _; unfold Jr.syncJ; rw [if_neg (by rw [hb]; decide)]
    have hf := h.jrn.ok.file
    have hs := Lib.hid (fun (z : World) (u : Nw w z) => sync_rd (h.disk.nw u) (g.upd u) (Nat.le_trans hB u.size) (f := j.file) (by unfold I64; omega))
    have H := Lib.hid h
    have l0 : ∀ i : Later w, i.1.cell? ⟨x.kb, 0, none⟩ = some (.pointer (some ⟨r.rb, 0, none⟩)) := fun i => (h.jrn.nw i.nw).cells.1
    have l1 : ∀ i : Later w, i.1.cell? ⟨x.kb, 1, none⟩ = some (.int .i64 j.file) := fun i => (h.jrn.nw i.nw).cells.2.1
    clear h hb hf
    generalize (Dk.sync D j.file).2 = E at *
    generalize (Dk.sync D j.file).1 = D1 at *
    go_enter Tryz.func114, Tryz.ntmps114
    go_wp2_with fail
    refine wp_region_nw_tail 8 (by kernel_rfl) (by kernel_rfl) ?_
    simp only [List.take_succ_cons, List.take_zero, List.drop_succ_cons, List.drop_zero]
    repeat (go_big_quiet_step ((fail)))
    refine wpQuiet_nil ?_
    intro w3 u3
    replace u3 := later_out u3
    have H3 := Lib.hid (H.out.nw u3)
    have U3 := Lib.hid u3
    clear l0 l1 c0 c1 c2 c3 u3
    go_wp2_with fail
    (with_reducible refine (hs.out _ U3.out).mono ?_)
    rintro _ w1 ⟨rfl, hT⟩
    obtain ⟨r1, k1, k2, k3, k4⟩ := RSTo.disk H3.out hT
    have hz : Hid (∀ b : Bool, RSTo B r x D1 { j with broken := b } w (w1.setCell ⟨x.kb, 3, none⟩ (.bool b))) := fun b => RSTo.then_ (RSTo.after U3.out (RSTo.disk_only H3.out hT)) (fun r2 x2 a e1 e2 => by
      have := RSTo.bad a b
      rw [e2] at this
      exact this)
    have c3' := k1.jrn.cells.2.2.2
    have f3 := cells_frozen k1.jrn.blk 3
    clear hT k1 k3 k4 hs
    by_cases h0 : E = 0
    · have b1 : (E == 0) = true := beq_iff_eq.2 h0
      have b2 : (E != 0) = false := by simp [h0]
      have hd : decide (E ≠ 0) = false := by simp [h0]
      rw [hd] at hr
      have hz1 := Lib.hid (hz.out false)
      clear h0 hz hd
      go_wp2_with fail
      go_ret
      exact ⟨by rw [hr.out] <;> rfl, by rw [hr.out]; exact hz1.out⟩
    · have b1 : (E == 0) = false := beq_eq_false_iff_ne.2 h0
      have b2 : (E != 0) = true := by simp [h0]
      have hd : decide (E ≠ 0) = true := by simp [h0]
      rw [hd] at hr
      have hz1 := Lib.hid (hz.out true)
      clear h0 hz hd
      go_wp2_with fail
      go_ret
      exact ⟨by rw [hr.out] <;> rfl, by rw [hr.out]; exact hz1.out⟩
end
end Go.Proofs.YtiednpagknnfnaaGreatDoor
