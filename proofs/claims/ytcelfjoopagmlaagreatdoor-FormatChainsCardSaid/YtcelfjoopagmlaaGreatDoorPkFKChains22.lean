/- format.entries, format.failed. -/
import Derived.Test.YtcelfjoopagmlaaGreatDoorPkFKChains19
import Derived.Test.YtcelfjoopagmlaaGreatDoorPkFKChains20
import Derived.Test.YtcelfjoopagmlaaGreatDoorPkFKChains21
import Derived.Test.YtcelfjoopagmlaaGreatDoorPkFKChains3
namespace Go.Proofs.YtcelfjoopagmlaaGreatDoor
open Go.RowKit Go.MapKept
open Go.Maps (Keyed)
set_option linter.unusedVariables false
set_option linter.unusedSimpArgs false
attribute [local irreducible] Calls
open Fm (Ty Vl Str nameB rightTy rightVl)

abbrev tStrF : TypeId := 9
theorem strKeyedF : Keyed Tryz.prog tStrF := Maps.string_keyed Tryz.underlying9
theorem sF_inj {a b : Str} (h : sF a = sF b) : a = b := by
  simp [sF] at h
  exact h
def kvS (x : Str × Str) : Value × Value := (sF x.1, sF x.2)
def strQ : Option Value → Nat
  | some (.string s) => s.size
  | _ => 0
theorem failed_c (b : Nat) (st : Wire.St) (w : World) (h : Rdr tR w b st) :
    Calls Tryz.prog 59 #[.pointer (some ⟨b, 0, none⟩)] w fun e w' => e = .returned (.bool st.isNone) ∧ w = w' := by
  have hl := Lib.hid (Left_r tR b st w h)
  have hd := Lib.hid (Done_r b st w h)
  rcases st with _ | _ | ⟨c, r⟩
  · go_enter Tryz.func59, Tryz.ntmps59
    go_wp2_with fail
    (with_reducible refine (hl.out).mono ?_)
    rintro _ _ ⟨rfl, rfl⟩
    go_wp2_with fail
    (with_reducible refine (hd.out).mono ?_)
    rintro _ _ ⟨rfl, rfl⟩
    go_wp2_with fail
    go_ret
    exact ⟨rfl, rfl⟩
  · go_enter Tryz.func59, Tryz.ntmps59
    go_wp2_with fail
    (with_reducible refine (hl.out).mono ?_)
    rintro _ _ ⟨rfl, rfl⟩
    go_wp2_with fail
    (with_reducible refine (hd.out).mono ?_)
    rintro _ _ ⟨rfl, rfl⟩
    go_wp2_with fail
    go_ret
    exact ⟨rfl, rfl⟩
  · have h2 : ((r.length : Int) + 1 == 0) = false := by simp; omega
    go_enter Tryz.func59, Tryz.ntmps59
    go_wp2_with fail
    (with_reducible refine (hl.out).mono ?_)
    rintro _ _ ⟨rfl, rfl⟩
    go_wp2_with fail
    go_ret
    exact ⟨rfl, rfl⟩
theorem asc_snoc : ∀ {l : List Str} {s : Str}, Fm.asc l = true → (∀ z, l.getLast? = some z → Fm.lt z s = true) → Fm.asc (l ++ [s]) = true := by
  intro l
  induction l with
  | nil => intro s _ _; rfl
  | cons a l ih =>
    intro s h hz
    cases l with
    | nil =>
      show (Fm.lt a s && true) = true
      rw [hz a rfl]; rfl
    | cons b r =>
      have h' := h
      unfold Fm.asc at h'
      rw [Bool.and_eq_true] at h'
      show (Fm.lt a b && Fm.asc (b :: r ++ [s])) = true
      rw [h'.1, ih h'.2 (fun z hz' => hz z (by rw [List.getLast?_cons_cons]; exact hz'))]; rfl
theorem asc_new : ∀ {l : List Str} {s : Str}, Fm.asc (l ++ [s]) = true → s ∉ l := by
  intro l s h hm
  have := Fm.asc_nodup h
  rw [List.nodup_append] at this
  exact this.2.2 s hm s (List.mem_singleton.2 rfl) rfl
theorem low_last {acc : List (Str × Str)} {s : Str} (h : Fm.lowE acc s = false) : ∀ z, (acc.map (·.1)).getLast? = some z → Fm.lt z s = true := by
  intro z hz
  rw [List.getLast?_map] at hz
  cases hg : acc.getLast? with
  | none => rw [hg] at hz; cases hz
  | some y =>
    rw [hg] at hz
    cases hz
    unfold Fm.lowE at h
    rw [hg] at h
    simpa using h
theorem rText_len (st : Wire.St) : (Wire.rText st).1.length ≤ (st.getD []).length := by
  unfold Wire.rText
  split
  · next n r he =>
    have h1 := Wire.rNumber_le st 58 0
    rw [he] at h1
    split
    · simp
    · split
      · rw [List.length_take]; simp at h1 ⊢; omega
      · simp
  · simp
theorem low_some {acc : List (Str × Str)} {z : Str × Str} {s : Str} (h : acc.getLast? = some z) : Fm.lowE acc s = !Op.bytesLess z.1 s := by
  unfold Fm.lowE; rw [h]
/-- What the loop holds. -/
structure EntI (w0 W1 : World) (b mb : Nat) (st : Wire.St) (acc : List (Str × Str)) (st' : Wire.St) (wr : World) : Prop where
  map : MapL Tryz.prog tStrF wr mb (acc.map kvS)
  rdr : Rdr tR wr b st'
  go : Fm.entG acc st' = Fm.entG [] st
  asc : Fm.asc (acc.map (·.1)) = true
  len : (st'.getD []).length ≤ (st.getD []).length
  upd : Upd (fun k => k = b ∨ k = mb) W1 wr
set_option maxHeartbeats 4000000 in
set_option maxRecDepth 100000 in
theorem entries_fm (b : Nat) (st : Wire.St) (w : World) (g : Gl w) (h : Rdr tR w b st) (hl : (st.getD []).length ≤ 1000000000) :
    Calls Tryz.prog 62 #[.pointer (some ⟨b, 0, none⟩)] w fun e w' => ∃ m, e = .returned (.tuple #[.map m, .bool (Fm.entG [] st).isSome]) ∧ (∀ l, Fm.entG [] st = some l → ∃ mb, m = some mb ∧ w.heap.size ≤ mb ∧ MapL Tryz.prog tStrF w' mb (l.map kvS)) ∧ (∃ st', Rdr tR w' b st') ∧ Upd (· = b) w w' := by
  have hbl := h.lt
  have hgb := g.big
  have n1 := nw_alloc w (.map #[] 0)
  have hm1 := MapL.made Tryz.prog tStrF w
  obtain ⟨W1, hW⟩ : ∃ y, y = w.alloc (.map #[] 0) := ⟨_, rfl⟩
  rw [← hW] at n1 hm1
  have hI : EntI w W1 b w.heap.size st [] st W1 := ⟨hm1, h.nw n1, rfl, rfl, Nat.le_refl _, Upd.refl _ _⟩
  have HI := Lib.hid hI
  have HW := Lib.hid hW
  have N1 := Lib.hid n1
  have HL := Lib.hid hl
  have GG := Lib.hid g
  clear hI hW n1 hm1 h hl g
  have hmm := @run_makeMap Tryz.prog
  go_enter Tryz.func62, Tryz.ntmps62
  go_upto_region 2 with fail
  rw [← HW.out]
  clear HW
  go_loopw [5] (fun iv wr => ∃ (acc : List (Str × Str)) (st' : Wire.St), iv = .string ⟨((acc.getLast?.map (·.1)).getD []).toArray⟩ ∧ Hid (EntI w W1 b w.heap.size st acc st' wr)) (fun _ wr => strQ (wr.cell? ⟨b, 0, none⟩))
  case atStart => exact ⟨[], st, rfl, HI⟩
  case round =>
    obtain ⟨acc, st', rfl, HE⟩ := hrel
    have hG : Gl wr := GG.out.upd (Nw.trans N1.out HE.out.upd)
    have hl1 := Lib.hid (Left_r tR b st' wr HE.out.rdr)
    have hc0 := HE.out.rdr.c0
    have HC0 := Lib.hid hc0
    clear hc0
    by_cases hlen : (st'.getD []).length = 0
    · have hlz : (decide (((st'.getD []).length : Int) > 0)) = false := decide_eq_false (by omega)
      have hlz2 : ((st'.getD []).length : Int) = 0 := by omega
      have hd1 := Lib.hid (Done_r b st' wr HE.out.rdr)
      have hfin : Hid ((Fm.entG [] st).isSome = decide (st' = some []) ∧ ∀ l, Fm.entG [] st = some l → l = acc) := by
        have e := HE.out.go
        rcases st' with _ | _ | ⟨c, r⟩
        · rw [Fm.entG_none] at e
          rw [← e]
          exact ⟨rfl, fun l h => by cases h⟩
        · rw [Fm.entG_end] at e
          rw [← e]
          exact ⟨rfl, fun l h => by cases h; rfl⟩
        · simp at hlen
      clear hlen
      rw [hlz2] at hl1
      go_wp2_with fail
      (with_reducible refine (hl1.out).mono ?_)
      rintro _ _ ⟨rfl, rfl⟩
      go_wp2_with fail
      (with_reducible refine (hd1.out).mono ?_)
      rintro _ _ ⟨rfl, rfl⟩
      go_wp2_with fail
      go_ret2
      refine ⟨_, by rw [hfin.out.1]; rfl, fun l hl => ⟨_, rfl, Nat.le_refl _, ?_⟩, ⟨_, HE.out.rdr⟩, (Nw.trans N1.out HE.out.upd).mono (fun k hk e => e.resolve_right (by omega))⟩
      rw [hfin.out.2 l hl]; exact HE.out.map
    · have hlz2 : (0 : Int) < ((st'.getD []).length : Int) := by omega
      obtain ⟨c, r, rfl⟩ : ∃ c r, st' = some (c :: r) := by
        rcases st' with _ | _ | ⟨c, r⟩
        · simp at hlen
        · simp at hlen
        · exact ⟨c, r, rfl⟩
      have hE := HE.out
      have hcost : (Wire.rText (Wire.rText (some (c :: r))).2).2.isNone = false → ((Wire.rText (Wire.rText (some (c :: r))).2).2.getD []).length < (c :: r).length := fun hs => by
        have l1 := Wire.rText_cost (Wire.rText (some (c :: r))).2 (by cases h : (Wire.rText (Wire.rText (some (c :: r))).2).2 with | none => rw [h] at hs; cases hs | some _ => rfl)
        have l2 := Wire.rText_le (some (c :: r))
        exact Nat.lt_of_lt_of_le l1 l2
      have hle1 := Wire.rText_le (some (c :: r))
      have hx1 := rText_len (some (c :: r))
      have hst := Fm.entG_step acc c r
      have hlr : (c :: r).length ≤ 1000000000 := Nat.le_trans hE.len HL.out
      have ht1 := Lib.hid (Text_r b (some (c :: r)) wr hG hE.rdr (by show (c :: r).length ≤ _; omega))
      have ht2 : Hid (∀ z, Rdr tR z b (Wire.rText (some (c :: r))).2 → Upd (· = b) wr z → Calls Tryz.prog 85 #[.pointer (some ⟨b, 0, none⟩)] z fun e w' =>
        e = .returned (.string ⟨(Wire.rText (Wire.rText (some (c :: r))).2).1.toArray⟩) ∧ Rdr tR w' b (Wire.rText (Wire.rText (some (c :: r))).2).2 ∧ Upd (· = b) z w') := fun z hz u => Text_r b _ z (hG.upd u) hz (Nat.le_trans hle1 (by show (c :: r).length ≤ _; omega))
      have HX1 : Hid ((Wire.rText (some (c :: r))).1.length ≤ 1000000000) := Nat.le_trans hx1 hlr
      have HST := Lib.hid hst
      have HCO := Lib.hid hcost
      have HLR := Lib.hid hlr
      have HLen : Hid ((c :: r).length ≤ (st.getD []).length) := hE.len
      have HGo : Hid (Fm.entG acc (some (c :: r)) = Fm.entG [] st) := hE.go
      have HMap := Lib.hid hE.map
      have HAsc := Lib.hid hE.asc
      have HUpd := Lib.hid hE.upd
      have HLT : Hid (b < wr.heap.size ∧ w.heap.size < wr.heap.size) := ⟨hE.rdr.lt, hE.map.lt⟩
      clear hE hcost hle1 hx1 hst hlr HE hG
      generalize Wire.rText (some (c :: r)) = X at *
      obtain ⟨nm, s1⟩ := X
      dsimp only at *
      generalize Wire.rText s1 = Y at *
      obtain ⟨tx, s2⟩ := Y
      dsimp only at *
      go_wp2_with fail
      (with_reducible refine (hl1.out).mono ?_)
      rintro _ _ ⟨rfl, rfl⟩
      go_wp2_with fail
      (with_reducible refine (ht1.out).mono ?_)
      rintro _ w2 ⟨rfl, hr2, u2⟩
      have ht3 := Lib.hid (ht2.out w2 hr2 u2)
      have U2 := Lib.hid u2
      clear ht1 ht2 hr2 u2 hl1
      go_wp2_with fail
      (with_reducible refine (ht3.out).mono ?_)
      rintro _ w3 ⟨rfl, hr3, u3⟩
      have hf1 := Lib.hid (failed_c b s2 w3 hr3)
      have U3 : Hid (Upd (· = b) wr w3) := U2.out.trans' u3 (fun k _ e => e)
      have HR3 := Lib.hid hr3
      clear ht3 u3 hr3 U2
      have hmb : MapL Tryz.prog tStrF w3 w.heap.size (acc.map kvS) := HMap.out.upd U3.out (fun e => by omega)
      obtain ⟨es, clock, hhb, hes⟩ := hmb.len
      rw [List.length_map] at hes
      have hln : (Builtin.len_ #[75] 3 #[.map (some w.heap.size)]).run Tryz.prog w3 = .ok (.int .i64 (es.size : Int)) w3 := by
        simp [Builtin.len_, run_underlying Tryz.underlying75, MapKept.run_getObj_map hhb, goInt, Result.andThen]
      have HMB := Lib.hid hmb
      clear hmb
      cases hn : s2.isNone with
      | true =>
        rw [hn] at hf1
        have hno : Hid (Fm.entG [] st = none) := by
          have h1 := HST.out
          rw [if_pos hn, HGo.out] at h1
          exact h1
        go_wp2_with fail
        (with_reducible refine (hf1.out).mono ?_)
        rintro _ _ ⟨rfl, rfl⟩
        go_wp2_with fail
        go_ret2
        refine ⟨_, by rw [hno.out]; rfl, fun l hl => ?_, ⟨_, HR3.out⟩, (Nw.trans N1.out HUpd.out).trans' U3.out (fun k _ e => Or.inl e) |>.mono (fun k hk e => e.resolve_right (by omega))⟩
        rw [hno.out] at hl; cases hl
      | false =>
      rw [hn] at hf1
      have hkl := WideMaps.keyOf_string_mk (P := Tryz.prog) (k := tStrF) Tryz.underlying9 (s := ⟨nm.toArray⟩) (by rw [bs_size, bs_list]; have := HX1.out; unfold maxLen; omega)
      have hstep : Fm.lowE acc nm = false → ∃ w', (Instr.mapUpdate 75 (.map (some w.heap.size)) (sF nm) (sF tx)).run Tryz.prog w3 = .ok () w' ∧ Hid (EntI w W1 b w.heap.size st (acc ++ [(nm, tx)]) s2 w' ∧ (s2.getD []).length < (c :: r).length) := fun hlow => by
        have ha := asc_snoc HAsc.out (low_last hlow)
        obtain ⟨w', r1, r2, r3⟩ := HMB.out.store_new strKeyedF Tryz.underlying75 (by omega) (key := sF nm) hkl (fun p hp e => by
          obtain ⟨x, hx, rfl⟩ := List.mem_map.1 hp
          refine asc_new ha ?_
          rw [← sF_inj e]
          exact List.mem_map.2 ⟨x, hx, rfl⟩) (sF tx)
        refine ⟨w', r1, ⟨?_, ?_, ?_, ?_, ?_, ?_⟩, HCO.out hn⟩
        · rw [List.map_append]; exact r2
        · exact HR3.out.upd r3 (fun e => by omega)
        · have h1 := HST.out
          rw [if_neg (by rw [hn]; simp), if_neg (by rw [hlow]; simp), HGo.out] at h1
          exact h1.symm
        · rw [List.map_append]; exact ha
        · exact Nat.le_trans (Nat.le_of_lt (HCO.out hn)) HLen.out
        · exact (HUpd.out.trans' U3.out (fun k _ e => Or.inl e)).trans' r3 (fun k _ e => Or.inr e)
      have HSTEP := Lib.hid hstep
      have hlow2 : Fm.lowE acc nm = true → Hid (Fm.entG [] st = none) := fun hlow => by
        have h1 := HST.out
        rw [if_neg (by rw [hn]; simp), if_pos hlow, HGo.out] at h1
        exact h1
      have HLOW := Lib.hid hlow2
      clear hkl hstep hlow2
      cases hl : acc.getLast? with
      | none =>
        obtain rfl : acc = [] := List.getLast?_eq_none_iff.1 hl
        have hes0 : es.size = 0 := hes
        obtain ⟨w4, hst, HE4⟩ := HSTEP.out rfl
        have Hst := Lib.hid hst
        clear hst
        go_wp2_with fail
        (with_reducible refine (hf1.out).mono ?_)
        rintro _ _ ⟨rfl, rfl⟩
        go_wp2_with (at_mapUpdate; refine wpList_storeL rfl _ _ _ 75 rfl _ _ _ rfl rfl rfl Hst.out ?_)
        go_roundw
        case rel => exact ⟨_, _, rfl, HE4.out.1⟩
        case measure =>
          rw [HE4.out.1.rdr.c0, HC0.out]
          have := HE4.out.2
          simpa [strQ, bs_size, bs_list] using this
      | some z =>
        have hes1 : 0 < es.size := by
          rw [hes]
          cases acc with
          | nil => cases hl
          | cons a l => simp
        have hes2 : (0 : Int) < (es.size : Int) := by omega
        have hlw := Lib.hid (low_some (s := nm) hl)
        cases hb : Op.bytesLess z.1 nm with
        | true =>
          obtain ⟨q1, q2⟩ := bl_no hb
          obtain ⟨w4, hst, HE4⟩ := HSTEP.out (by rw [hlw.out, hb]; rfl)
          have Hst := Lib.hid hst
          clear hst
          go_wp2_with fail
          (with_reducible refine (hf1.out).mono ?_)
          rintro _ _ ⟨rfl, rfl⟩
          go_wp2_with (at_mapUpdate; refine wpList_storeL rfl _ _ _ 75 rfl _ _ _ rfl rfl rfl Hst.out ?_)
          go_roundw
          case rel => exact ⟨_, _, by rw [List.getLast?_append]; rfl, HE4.out.1⟩
          case measure =>
            rw [HE4.out.1.rdr.c0, HC0.out]
            have := HE4.out.2
            simpa [strQ, bs_size, bs_list] using this
        | false =>
          have q1 := bl_yes hb
          have hno := HLOW.out (by rw [hlw.out, hb]; rfl)
          go_wp2_with fail
          (with_reducible refine (hf1.out).mono ?_)
          rintro _ _ ⟨rfl, rfl⟩
          go_wp2_with fail
          go_ret2
          refine ⟨_, by rw [hno.out]; rfl, fun l hl => ?_, ⟨_, HR3.out⟩, ((Nw.trans N1.out HUpd.out).trans' U3.out (fun k _ e => Or.inl e)).mono (fun k hk e => e.resolve_right (by omega))⟩
          rw [hno.out] at hl; cases hl
end Go.Proofs.YtcelfjoopagmlaaGreatDoor
