/- The reference's entries (ladingref43): Entries. -/
import Derived.Test.YthagiklfmkdmaaaGreatDoorPkFTel4317
import Derived.Test.YthagiklfmkdmaaaGreatDoorPkFTel432
namespace Go.Proofs.YthagiklfmkdmaaaGreatDoor
open Go.RowKit
set_option linter.unusedVariables false
set_option linter.unusedSimpArgs false
attribute [local irreducible] Calls
open Fm (Ty Vl Str nameB rightTy rightVl)

abbrev tEn : TypeId := 135
theorem infoEn : (Tryz.prog.info? tEn).map (fun i => (i.zero, i.size, i.bytes)) = some (some (.agg #[.string ⟨#[]⟩, .string ⟨#[]⟩]), 2, 32) := by kernel_rfl
def enL (x : Str × Str) : List Value := [sF x.1, sF x.2]
/-- What the walk is told of a slice of entries. -/
abbrev EnC (w : World) (a : Option Addr) (l : List (Str × Str)) : Prop := l = [] ∨ ∃ b off, a = some ⟨b, off, none⟩ ∧ b < w.heap.size ∧ ∀ i (h : i < l.length), w.cell? ⟨b, off + i * 2, none⟩ = some (.string ⟨(l[i]).1.toArray⟩) ∧ w.cell? ⟨b, off + i * 2 + 1, none⟩ = some (.string ⟨(l[i]).2.toArray⟩)
theorem EnC.upd {w w' : World} {S : Nat → Prop} {a : Option Addr} {l : List (Str × Str)} (h : EnC w a l) (u : Upd S w w') (hs : ∀ b off, a = some ⟨b, off, none⟩ → ¬ S b) : EnC w' a l := by
  rcases h with h | ⟨b, off, ha, hb, hc⟩
  · exact Or.inl h
  · refine Or.inr ⟨b, off, ha, Nat.lt_of_lt_of_le hb u.size, fun i hi => ?_⟩
    obtain ⟨h1, h2⟩ := hc i hi
    exact ⟨(World.cell?_of_block (u.block b hb (Or.inr (hs b off ha)))).trans h1, (World.cell?_of_block (u.block b hb (Or.inr (hs b off ha)))).trans h2⟩
theorem enC_owns {w : World} {base n : Nat} {a : Option Addr} {cap : Nat} {l : List (Str × Str)} (h : w.ownsRow base tEn 2 (.slice a n cap) n (l.map enL).flatten) (hn : n = l.length) : EnC w a l := by
  obtain ⟨a', cap', e, hm, hc⟩ := (SlS.of_owns (xs := l.map enL) h (by simpa using hn) (by omega) (fun x hx => by obtain ⟨y, _, rfl⟩ := List.mem_map.1 hx; rfl)).open_
  rw [List.length_map] at e hm
  injection e with e1 e2 e3
  subst e1
  rcases hc with h0 | ⟨b, off, rfl, _, _, hb, hcl⟩
  · exact Or.inl (List.map_eq_nil_iff.1 h0)
  · refine Or.inr ⟨b, off, rfl, hb, fun i hi => ?_⟩
    have h2 := (hcl i (by simpa using hi)).2
    simp only [List.getElem_map] at h2
    exact ⟨h2 0 (by simp [enL]), h2 1 (by simp [enL])⟩
/-- What the loop of Entries holds. -/
structure EnI (w : World) (b : Nat) (st : Wire.St) (acc : List (Str × Str)) (st' : Wire.St) (ov : Value) (wr : World) : Prop where
  own : wr.ownsRow w.heap.size tEn 2 ov acc.length (acc.map enL).flatten
  rdr : Rdr tQ wr b st'
  ok : st'.isNone = false
  go : Fm.entG acc st' = Fm.entG [] st
  len : (st'.getD []).length ≤ (st.getD []).length
  upd : Upd (· = b) w wr
  few : acc.length + (st'.getD []).length ≤ (st.getD []).length
def EnPost (b : Nat) (st : Wire.St) (w : World) (e : Ending) (w' : World) : Prop :=
  ∃ (a : Option Addr) (n c : Nat), e = .returned (.tuple #[.slice a n c, .bool (Fm.entG [] st).isSome]) ∧ Hid ((∀ l, Fm.entG [] st = some l → w'.ownsRow w.heap.size tEn 2 (.slice a n c) l.length (l.map enL).flatten ∧ l.length ≤ (st.getD []).length) ∧ Upd (· = b) w w')
set_option maxHeartbeats 4000000 in
set_option maxRecDepth 100000 in
theorem Entries_r (b : Nat) (st : Wire.St) (w : World) (hgb : nG ≤ w.heap.size) (hs : st.isNone = false) (h : Rdr tQ w b st) (hl : (st.getD []).length ≤ 1000000) :
    Calls Tryz.prog 103 #[.pointer (some ⟨b, 0, none⟩)] w (EnPost b st w) := by
  have hbl := h.lt
  have HI : Hid (EnI w b st [] st (.slice none 0 0) w) := ⟨World.ownsRow_nil _ _ _ _, h, hs, rfl, Nat.le_refl _, Upd.refl _ _, by simp⟩
  have HL := Lib.hid hl
  have HGB := Lib.hid hgb
  have HBL := Lib.hid hbl
  clear h hl hs hgb hbl
  go_enter Tryz.func103, Tryz.ntmps103
  go_wp2_with fail
  go_loopw [4] (fun ov wr => ∃ (acc : List (Str × Str)) (st' : Wire.St), Hid (EnI w b st acc st' ov wr)) (fun _ wr => strQ (wr.cell? ⟨b, 0, none⟩))
  case atStart => exact ⟨[], st, HI⟩
  case round =>
    obtain ⟨acc, st', HE⟩ := hrel
    obtain ⟨oa, oc, rfl⟩ := own_slF HE.out.own
    have hl1 := Lib.hid (LeftQ b st' wr HE.out.rdr)
    have HC0 := Lib.hid HE.out.rdr.c0
    by_cases hlen : (st'.getD []).length = 0
    · have hlz2 : ((st'.getD []).length : Int) = 0 := by omega
      have hfin : Hid (Fm.entG [] st = some acc) := by
        have e := HE.out.go
        have e2 := HE.out.ok
        rcases st' with _ | _ | ⟨c, r⟩
        · cases e2
        · rw [Fm.entG_end] at e; exact e.symm
        · simp at hlen
      clear hlen
      rw [hlz2] at hl1
      go_wp2_with fail
      (with_reducible refine (hl1.out).mono ?_)
      rintro _ _ ⟨rfl, rfl⟩
      go_wp2_with fail
      go_ret2
      refine ⟨_, _, _, by rw [hfin.out]; rfl, fun l hl => ?_, HE.out.upd⟩
      rw [hfin.out] at hl
      obtain rfl := Option.some.inj hl
      exact ⟨HE.out.own, by have := HE.out.few; omega⟩
    · have hlz2 : (0 : Int) < ((st'.getD []).length : Int) := by omega
      obtain ⟨c, r, rfl⟩ : ∃ c r, st' = some (c :: r) := by
        rcases st' with _ | _ | ⟨c, r⟩
        · simp at hlen
        · simp at hlen
        · exact ⟨c, r, rfl⟩
      have hE := HE.out
      have hcost : (Wire.rText (Wire.rText (some (c :: r))).2).2.isNone = false → ((Wire.rText (Wire.rText (some (c :: r))).2).2.getD []).length < (c :: r).length := fun hs => by
        have l1 := Wire.rText_cost (Wire.rText (some (c :: r))).2 (by cases h : (Wire.rText (Wire.rText (some (c :: r))).2).2 with | none => rw [h] at hs; cases hs | some _ => rfl)
        have l2 := Wire.rText_le (some (c :: r))
        exact Nat.lt_of_lt_of_le l1 l2
      have hle1 := Wire.rText_le (some (c :: r))
      have hx1 := rText_len (some (c :: r))
      have hst := Fm.entG_step acc c r
      have hlr : (c :: r).length ≤ 1000000 := Nat.le_trans hE.len HL.out
      have ht1 := Lib.hid (TextQ b (some (c :: r)) wr hE.rdr (by show (c :: r).length ≤ _; omega))
      have ht2 : Hid (∀ z, Rdr tQ z b (Wire.rText (some (c :: r))).2 → Upd (· = b) wr z → Calls Tryz.prog 135 #[.pointer (some ⟨b, 0, none⟩)] z fun e w' =>
        e = .returned (.string ⟨(Wire.rText (Wire.rText (some (c :: r))).2).1.toArray⟩) ∧ Rdr tQ w' b (Wire.rText (Wire.rText (some (c :: r))).2).2 ∧ Upd (· = b) z w') := fun z hz u => TextQ b _ z hz (Nat.le_trans hle1 (by show (c :: r).length ≤ _; omega))
      have HST := Lib.hid hst
      have HCO := Lib.hid hcost
      have HLR := Lib.hid hlr
      have HLen : Hid ((c :: r).length ≤ (st.getD []).length) := hE.len
      have HGo : Hid (Fm.entG acc (some (c :: r)) = Fm.entG [] st) := hE.go
      have HOwn := Lib.hid hE.own
      have HUpd := Lib.hid hE.upd
      have HFew : Hid (acc.length + (c :: r).length ≤ (st.getD []).length) := hE.few
      clear hE hcost hle1 hx1 hst hlr HE
      generalize Wire.rText (some (c :: r)) = X at *
      obtain ⟨nm, s1⟩ := X
      dsimp only at *
      generalize Wire.rText s1 = Y at *
      obtain ⟨tx, s2⟩ := Y
      dsimp only at *
      go_wp2_with fail
      (with_reducible refine (hl1.out).mono ?_)
      rintro _ _ ⟨rfl, rfl⟩
      go_wp2_with fail
      (with_reducible refine (ht1.out).mono ?_)
      rintro _ w2 ⟨rfl, hr2, u2⟩
      have ht3 := Lib.hid (ht2.out w2 hr2 u2)
      have U2 := Lib.hid u2
      clear ht1 ht2 hr2 u2 hl1
      go_wp2_with fail
      (with_reducible refine (ht3.out).mono ?_)
      rintro _ w3 ⟨rfl, hr3, u3⟩
      have U3 : Hid (Upd (· = b) wr w3) := U2.out.trans' u3 (fun k _ e => e)
      obtain ⟨w4, hw4, n4, b4⟩ : ∃ z, z = w3.alloc (.cells #[.string ⟨nm.toArray⟩, .string ⟨tx.toArray⟩] tEn) ∧ Nw w3 z ∧ z.heap[w3.heap.size]? = some (.cells #[.string ⟨nm.toArray⟩, .string ⟨tx.toArray⟩] tEn (0, 0)) := ⟨_, rfl, nw_alloc w3 _, heap_new w3 _⟩
      have HW4 := Lib.hid hw4
      have HR4 := Lib.hid (hr3.nw n4)
      have U4 : Hid (Upd (· = b) wr w4) := U3.out.nw n4
      have HB4 := Lib.hid b4
      have HZ4 : Hid (w.heap.size ≤ w4.heap.size ∧ nG ≤ w.heap.size ∧ b < w.heap.size) := ⟨(HUpd.out.trans' U4.out (fun k _ e => e)).size, HGB.out, HBL.out⟩
      have hn4 : acc.length ≤ 1000000 := by have := HFew.out; have := HL.out; omega
      have HO4 : Hid (w4.ownsRow w.heap.size tEn 2 (.slice oa acc.length oc) acc.length (acc.map enL).flatten) := owns_upd' HOwn.out U4.out (fun k e e2 => by have := (HOwn.out.lt k e).1; have := HBL.out; omega)
      have m1 : ∀ j : Later w4, j.1.cell? ⟨b, 1, none⟩ = some (.bool s2.isNone) := fun j => (HR4.out.nw j.nw).c1
      have m2 : ∀ j : Later w4, j.1.cell? ⟨w3.heap.size, 0, none⟩ = some (.string ⟨nm.toArray⟩) := fun j => by rw [cells_cell (Nw.keep j.nw b4)]; rfl
      have m3 : w4.cell? ⟨w3.heap.size, 0, none⟩ = some (.string ⟨nm.toArray⟩) := by rw [cells_cell b4]; rfl
      have m4 : w4.cell? ⟨w3.heap.size, 1, none⟩ = some (.string ⟨tx.toArray⟩) := by rw [cells_cell b4]; rfl
      have hstep : Fm.lowE acc nm = false → s2.isNone = false → ∀ v' w', w'.ownsRow w.heap.size tEn 2 v' (acc.length + 1) ((acc.map enL).flatten ++ enL (nm, tx)) → Upd (fun k => (Value.slice oa acc.length oc).ownBlock = some k) w4 w' → EnI w b st (acc ++ [(nm, tx)]) s2 v' w' ∧ (s2.getD []).length < (c :: r).length := fun hlow hn v' w' ho hu => by
        have hcc := HCO.out hn
        have hnb : ¬ (Value.slice oa acc.length oc).ownBlock = some b := fun e => by have := (HO4.out.lt b e).1; have := HBL.out; omega
        refine ⟨⟨?_, HR4.out.upd hu hnb, hn, ?_, ?_, ?_, ?_⟩, hcc⟩
        · rw [List.length_append, List.map_append, List.flatten_append]
          simpa using ho
        · have h1 := HST.out
          rw [if_neg (by rw [hn]; simp), if_neg (by rw [hlow]; simp), HGo.out] at h1
          exact h1.symm
        · have := HLen.out; omega
        · exact (HUpd.out.trans' U4.out (fun k _ e => e)).trans' hu (fun k hk e => by have := (HO4.out.lt k e).1; omega)
        · rw [List.length_append, List.length_singleton]; have := HFew.out; omega
      have HSTEP := Lib.hid hstep
      have hno1 : s2.isNone = true → Hid (Fm.entG [] st = none) := fun hn => by
        have h1 := HST.out
        rw [if_pos hn, HGo.out] at h1
        exact h1
      have hno2 : s2.isNone = false → Fm.lowE acc nm = true → Hid (Fm.entG [] st = none) := fun hn hlow => by
        have h1 := HST.out
        rw [if_neg (by rw [hn]; simp), if_pos hlow, HGo.out] at h1
        exact h1
      have HNO1 := Lib.hid hno1
      have HNO2 := Lib.hid hno2
      have HUP : Hid (Upd (· = b) w w4) := HUpd.out.trans' U4.out (fun k _ e => e)
      clear ht3 u3 hr3 U2 hstep hno1 hno2 hw4 n4 b4
      cases hn : s2.isNone with
      | true =>
        rw [hn] at m1
        have hno := HNO1.out hn
        go_upto_region 5 with fail
        rw [← HW4.out]
        clear HW4
        refine wp_region_nw (by kernel_rfl) (by kernel_rfl) ?_
        repeat (go_big_quiet_step ((fail)))
        refine wpQuiet_nil ?_
        intro w5 u5
        replace u5 := later_out u5
        have HU5 := Lib.hid u5
        clear u5 m1 m2 m3 m4
        go_wp2_with fail
        go_ret2
        exact ⟨_, _, _, by rw [hno.out]; rfl, ⟨(fun l hl => by rw [hno.out] at hl; cases hl), HUP.out.nw HU5.out⟩⟩
      | false =>
      rw [hn] at m1
      cases hl : acc.getLast? with
      | none =>
        obtain rfl : acc = [] := List.getLast?_eq_none_iff.1 hl
        have HS1 := Lib.hid (HSTEP.out rfl hn)
        go_upto_region 5 with fail
        rw [← HW4.out]
        clear HW4
        refine wp_region_nw (by kernel_rfl) (by kernel_rfl) ?_
        repeat (go_big_quiet_step ((fail)))
        refine wpQuiet_nil ?_
        intro w5 u5
        replace u5 := later_out u5
        have HU5 := Lib.hid u5
        have k3 := nw_cellF u5 m3
        have k4 := nw_cellF u5 m4
        have HO5 : Hid (w5.ownsRow w.heap.size tEn 2 (.slice oa 0 oc) 0 []) := owns_upd' HO4.out u5 (fun _ _ e => e)
        clear u5 m1 m2 m3 m4
        have hsz5 : w.heap.size ≤ w5.heap.size := Nat.le_trans HZ4.out.1 HU5.out.size
        go_wp2_with (at_builtin; refine wpList_appL rfl _ _ 131 rfl w.heap.size tEn _ 2 32 Tryz.underlying131 infoEn rfl (by decide) (.slice oa 0 oc) 0 [] rfl HO5.out [.string ⟨nm.toArray⟩, .string ⟨tx.toArray⟩] rfl rfl ?c1 ?c2 ?c3 hsz5 HZ4.out.2.1 ?_)
        case c1 => intro u hu; simp at hu; rcases hu with rfl | rfl <;> rfl
        case c2 => unfold maxLen; omega
        case c3 => omega
        intro v' w6 ho hu hb
        have HE6 := Lib.hid (HS1.out v' w6 ho (Nw.trans HU5.out hu))
        clear ho hu hb
        go_wp2_with fail
        go_roundw
        case rel => exact ⟨_, _, HE6.out.1⟩
        case measure =>
          rw [HE6.out.1.rdr.c0, HC0.out]
          have := HE6.out.2
          simpa [strQ, bs_size, bs_list] using this
      | some z =>
        obtain ⟨m, hm⟩ : ∃ m, acc.length = m + 1 := ⟨acc.length - 1, by cases acc with | nil => cases hl | cons a l => simp⟩
        have hz : acc[m]'(by omega) = z := by
          rw [List.getLast?_eq_getElem?, hm, Nat.add_sub_cancel, List.getElem?_eq_getElem (by omega)] at hl
          exact Option.some.inj hl
        have hm6 : (m : Int) ≤ 1000000 := by omega
        have hmp : (0 : Int) ≤ (m : Int) := by omega
        have hm0 : decide ((m : Int) < 0) = false := decide_eq_false (by omega)
        have hlw := Lib.hid (low_some (s := nm) hl)
        obtain ⟨eb, eo, ha, hebl, hcl⟩ := (enC_owns HO4.out rfl).resolve_left (fun e => by rw [e] at hm; cases hm)
        subst ha
        have c5 : ∀ j : Later w4, j.1.cell? ⟨eb, eo + m * 2, none⟩ = some (.string ⟨z.1.toArray⟩) := fun j => by rw [← hz]; exact nw_cellF j.nw (hcl m (by omega)).1
        have HM := Lib.hid hm
        rw [hm]
        clear hm hz hcl hl hn4
        cases hb : Op.bytesLess z.1 nm with
        | true =>
          have HS1 := Lib.hid (HSTEP.out (by rw [hlw.out, hb]; rfl) hn)
          go_upto_region 5 with fail
          rw [← HW4.out]
          clear HW4
          refine wp_region_nw (by kernel_rfl) (by kernel_rfl) ?_
          repeat (go_big_quiet_step ((fail)))
          refine wpQuiet_nil ?_
          intro w5 u5
          replace u5 := later_out u5
          have HU5 := Lib.hid u5
          have k3 := nw_cellF u5 m3
          have k4 := nw_cellF u5 m4
          have HO5 : Hid (w5.ownsRow w.heap.size tEn 2 (.slice (some ⟨eb, eo, none⟩) (m + 1) oc) (m + 1) (acc.map enL).flatten) := by
            have h := owns_upd' HO4.out u5 (fun _ _ e => e)
            rw [HM.out] at h; exact h
          clear u5 m1 m2 m3 m4 c5
          have hsz5 : w.heap.size ≤ w5.heap.size := Nat.le_trans HZ4.out.1 HU5.out.size
          go_wp2_with (at_builtin; refine wpList_appL rfl _ _ 131 rfl w.heap.size tEn _ 2 32 Tryz.underlying131 infoEn rfl (by decide) (.slice (some ⟨eb, eo, none⟩) (m + 1) oc) (m + 1) _ rfl HO5.out [.string ⟨nm.toArray⟩, .string ⟨tx.toArray⟩] rfl rfl ?c1 ?c2 ?c3 hsz5 HZ4.out.2.1 ?_)
          case c1 => intro u hu; simp at hu; rcases hu with rfl | rfl <;> rfl
          case c2 => unfold maxLen; omega
          case c3 => omega
          intro v' w6 ho hu hbb
          have HE6 := Lib.hid (HS1.out v' w6 (by rw [HM.out]; exact ho) (Nw.trans HU5.out (by rw [HM.out]; exact hu)))
          clear ho hu hbb
          go_wp2_with fail
          go_roundw
          case rel => exact ⟨_, _, HE6.out.1⟩
          case measure =>
            rw [HE6.out.1.rdr.c0, HC0.out]
            have := HE6.out.2
            simpa [strQ, bs_size, bs_list] using this
        | false =>
          have hno := HNO2.out hn (by rw [hlw.out, hb]; rfl)
          go_upto_region 5 with fail
          rw [← HW4.out]
          clear HW4
          refine wp_region_nw (by kernel_rfl) (by kernel_rfl) ?_
          repeat (go_big_quiet_step ((fail)))
          refine wpQuiet_nil ?_
          intro w5 u5
          replace u5 := later_out u5
          have HU5 := Lib.hid u5
          clear u5 m1 m2 m3 m4 c5
          go_wp2_with fail
          go_ret2
          exact ⟨_, _, _, by rw [hno.out]; rfl, ⟨(fun l hl => by rw [hno.out] at hl; cases hl), HUP.out.nw HU5.out⟩⟩
end Go.Proofs.YthagiklfmkdmaaaGreatDoor
