/- format.entries, format.failed. format.read: its parts in plain words; operations that are not run in a drawn region. -/
import Derived.Test.YtjlgmoemnhmgmaaGreatDoorPkWTells10
import Derived.Test.YtjlgmoemnhmgmaaGreatDoorPkWTells11
import Derived.Test.YtjlgmoemnhmgmaaGreatDoorPkWTells3
import Derived.Test.YtjlgmoemnhmgmaaGreatDoorPkWTells8
import Derived.Test.YtjlgmoemnhmgmaaGreatDoorPkWTells9
import Derived.Deep.CutRange
namespace Go.Proofs.YtjlgmoemnhmgmaaGreatDoor
open Go.RowKit Go.MapKept
open Go.Maps (Keyed)
set_option linter.unusedVariables false
set_option linter.unusedSimpArgs false
attribute [local irreducible] Calls
open Fm (Ty Vl Str nameB rightTy rightVl)

abbrev tStrF : TypeId := 9
theorem strKeyedF : Keyed Tryz.prog tStrF := Maps.string_keyed Tryz.underlying9
theorem sF_inj {a b : Str} (h : sF a = sF b) : a = b := by
  simp [sF] at h
  exact h
def kvS (x : Str × Str) : Value × Value := (sF x.1, sF x.2)
def strQ : Option Value → Nat
  | some (.string s) => s.size
  | _ => 0
theorem failed_c (b : Nat) (st : Wire.St) (w : World) (h : Rdr tR w b st) :
    Calls Tryz.prog 87 #[.pointer (some ⟨b, 0, none⟩)] w fun e w' => e = .returned (.bool st.isNone) ∧ w = w' := by
  have hl := Lib.hid (Left_r tR b st w h)
  have hd := Lib.hid (Done_r b st w h)
  rcases st with _ | _ | ⟨c, r⟩
  · go_enter Tryz.func87, Tryz.ntmps87
    go_wp2_with fail
    (with_reducible refine (hl.out).mono ?_)
    rintro _ _ ⟨rfl, rfl⟩
    go_wp2_with fail
    (with_reducible refine (hd.out).mono ?_)
    rintro _ _ ⟨rfl, rfl⟩
    go_wp2_with fail
    go_ret
    exact ⟨rfl, rfl⟩
  · go_enter Tryz.func87, Tryz.ntmps87
    go_wp2_with fail
    (with_reducible refine (hl.out).mono ?_)
    rintro _ _ ⟨rfl, rfl⟩
    go_wp2_with fail
    (with_reducible refine (hd.out).mono ?_)
    rintro _ _ ⟨rfl, rfl⟩
    go_wp2_with fail
    go_ret
    exact ⟨rfl, rfl⟩
  · have h2 : ((r.length : Int) + 1 == 0) = false := by simp; omega
    go_enter Tryz.func87, Tryz.ntmps87
    go_wp2_with fail
    (with_reducible refine (hl.out).mono ?_)
    rintro _ _ ⟨rfl, rfl⟩
    go_wp2_with fail
    go_ret
    exact ⟨rfl, rfl⟩
theorem asc_snoc : ∀ {l : List Str} {s : Str}, Fm.asc l = true → (∀ z, l.getLast? = some z → Fm.lt z s = true) → Fm.asc (l ++ [s]) = true := by
  intro l
  induction l with
  | nil => intro s _ _; rfl
  | cons a l ih =>
    intro s h hz
    cases l with
    | nil =>
      show (Fm.lt a s && true) = true
      rw [hz a rfl]; rfl
    | cons b r =>
      have h' := h
      unfold Fm.asc at h'
      rw [Bool.and_eq_true] at h'
      show (Fm.lt a b && Fm.asc (b :: r ++ [s])) = true
      rw [h'.1, ih h'.2 (fun z hz' => hz z (by rw [List.getLast?_cons_cons]; exact hz'))]; rfl
theorem asc_new : ∀ {l : List Str} {s : Str}, Fm.asc (l ++ [s]) = true → s ∉ l := by
  intro l s h hm
  have := Fm.asc_nodup h
  rw [List.nodup_append] at this
  exact this.2.2 s hm s (List.mem_singleton.2 rfl) rfl
theorem low_last {acc : List (Str × Str)} {s : Str} (h : Fm.lowE acc s = false) : ∀ z, (acc.map (·.1)).getLast? = some z → Fm.lt z s = true := by
  intro z hz
  rw [List.getLast?_map] at hz
  cases hg : acc.getLast? with
  | none => rw [hg] at hz; cases hz
  | some y =>
    rw [hg] at hz
    cases hz
    unfold Fm.lowE at h
    rw [hg] at h
    simpa using h
theorem rText_len (st : Wire.St) : (Wire.rText st).1.length ≤ (st.getD []).length := by
  unfold Wire.rText
  split
  · next n r he =>
    have h1 := Wire.rNumber_le st 58 0
    rw [he] at h1
    split
    · simp
    · split
      · rw [List.length_take]; simp at h1 ⊢; omega
      · simp
  · simp
theorem low_some {acc : List (Str × Str)} {z : Str × Str} {s : Str} (h : acc.getLast? = some z) : Fm.lowE acc s = !Op.bytesLess z.1 s := by
  unfold Fm.lowE; rw [h]
/-- What the loop holds. -/
structure EntI (w0 W1 : World) (b mb : Nat) (st : Wire.St) (acc : List (Str × Str)) (st' : Wire.St) (wr : World) : Prop where
  map : MapL Tryz.prog tStrF wr mb (acc.map kvS)
  rdr : Rdr tR wr b st'
  go : Fm.entG acc st' = Fm.entG [] st
  asc : Fm.asc (acc.map (·.1)) = true
  len : (st'.getD []).length ≤ (st.getD []).length
  upd : Upd (fun k => k = b ∨ k = mb) W1 wr
set_option maxHeartbeats 4000000 in
set_option maxRecDepth 100000 in
theorem entries_fm (b : Nat) (st : Wire.St) (w : World) (g : Gl w) (h : Rdr tR w b st) (hl : (st.getD []).length ≤ 1000000000) :
    Calls Tryz.prog 90 #[.pointer (some ⟨b, 0, none⟩)] w fun e w' => ∃ m, e = .returned (.tuple #[.map m, .bool (Fm.entG [] st).isSome]) ∧ (∀ l, Fm.entG [] st = some l → ∃ mb, m = some mb ∧ w.heap.size ≤ mb ∧ MapL Tryz.prog tStrF w' mb (l.map kvS)) ∧ (∃ st', Rdr tR w' b st') ∧ Upd (· = b) w w' := by
  have hbl := h.lt
  have hgb := g.big
  have n1 := nw_alloc w (.map #[] 0)
  have hm1 := MapL.made Tryz.prog tStrF w
  obtain ⟨W1, hW⟩ : ∃ y, y = w.alloc (.map #[] 0) := ⟨_, rfl⟩
  rw [← hW] at n1 hm1
  have hI : EntI w W1 b w.heap.size st [] st W1 := ⟨hm1, h.nw n1, rfl, rfl, Nat.le_refl _, Upd.refl _ _⟩
  have HI := Lib.hid hI
  have HW := Lib.hid hW
  have N1 := Lib.hid n1
  have HL := Lib.hid hl
  have GG := Lib.hid g
  clear hI hW n1 hm1 h hl g
  have hmm := @run_makeMap Tryz.prog
  go_enter Tryz.func90, Tryz.ntmps90
  go_upto_region 2 with fail
  rw [← HW.out]
  clear HW
  go_loopw [5] (fun iv wr => ∃ (acc : List (Str × Str)) (st' : Wire.St), iv = .string ⟨((acc.getLast?.map (·.1)).getD []).toArray⟩ ∧ Hid (EntI w W1 b w.heap.size st acc st' wr)) (fun _ wr => strQ (wr.cell? ⟨b, 0, none⟩))
  case atStart => exact ⟨[], st, rfl, HI⟩
  case round =>
    obtain ⟨acc, st', rfl, HE⟩ := hrel
    have hG : Gl wr := GG.out.upd (Nw.trans N1.out HE.out.upd)
    have hl1 := Lib.hid (Left_r tR b st' wr HE.out.rdr)
    have hc0 := HE.out.rdr.c0
    have HC0 := Lib.hid hc0
    clear hc0
    by_cases hlen : (st'.getD []).length = 0
    · have hlz : (decide (((st'.getD []).length : Int) > 0)) = false := decide_eq_false (by omega)
      have hlz2 : ((st'.getD []).length : Int) = 0 := by omega
      have hd1 := Lib.hid (Done_r b st' wr HE.out.rdr)
      have hfin : Hid ((Fm.entG [] st).isSome = decide (st' = some []) ∧ ∀ l, Fm.entG [] st = some l → l = acc) := by
        have e := HE.out.go
        rcases st' with _ | _ | ⟨c, r⟩
        · rw [Fm.entG_none] at e
          rw [← e]
          exact ⟨rfl, fun l h => by cases h⟩
        · rw [Fm.entG_end] at e
          rw [← e]
          exact ⟨rfl, fun l h => by cases h; rfl⟩
        · simp at hlen
      clear hlen
      rw [hlz2] at hl1
      go_wp2_with fail
      (with_reducible refine (hl1.out).mono ?_)
      rintro _ _ ⟨rfl, rfl⟩
      go_wp2_with fail
      (with_reducible refine (hd1.out).mono ?_)
      rintro _ _ ⟨rfl, rfl⟩
      go_wp2_with fail
      go_ret2
      refine ⟨_, by rw [hfin.out.1]; rfl, fun l hl => ⟨_, rfl, Nat.le_refl _, ?_⟩, ⟨_, HE.out.rdr⟩, (Nw.trans N1.out HE.out.upd).mono (fun k hk e => e.resolve_right (by omega))⟩
      rw [hfin.out.2 l hl]; exact HE.out.map
    · have hlz2 : (0 : Int) < ((st'.getD []).length : Int) := by omega
      obtain ⟨c, r, rfl⟩ : ∃ c r, st' = some (c :: r) := by
        rcases st' with _ | _ | ⟨c, r⟩
        · simp at hlen
        · simp at hlen
        · exact ⟨c, r, rfl⟩
      have hE := HE.out
      have hcost : (Wire.rText (Wire.rText (some (c :: r))).2).2.isNone = false → ((Wire.rText (Wire.rText (some (c :: r))).2).2.getD []).length < (c :: r).length := fun hs => by
        have l1 := Wire.rText_cost (Wire.rText (some (c :: r))).2 (by cases h : (Wire.rText (Wire.rText (some (c :: r))).2).2 with | none => rw [h] at hs; cases hs | some _ => rfl)
        have l2 := Wire.rText_le (some (c :: r))
        exact Nat.lt_of_lt_of_le l1 l2
      have hle1 := Wire.rText_le (some (c :: r))
      have hx1 := rText_len (some (c :: r))
      have hst := Fm.entG_step acc c r
      have hlr : (c :: r).length ≤ 1000000000 := Nat.le_trans hE.len HL.out
      have ht1 := Lib.hid (Text_r b (some (c :: r)) wr hG hE.rdr (by show (c :: r).length ≤ _; omega))
      have ht2 : Hid (∀ z, Rdr tR z b (Wire.rText (some (c :: r))).2 → Upd (· = b) wr z → Calls Tryz.prog 112 #[.pointer (some ⟨b, 0, none⟩)] z fun e w' =>
        e = .returned (.string ⟨(Wire.rText (Wire.rText (some (c :: r))).2).1.toArray⟩) ∧ Rdr tR w' b (Wire.rText (Wire.rText (some (c :: r))).2).2 ∧ Upd (· = b) z w') := fun z hz u => Text_r b _ z (hG.upd u) hz (Nat.le_trans hle1 (by show (c :: r).length ≤ _; omega))
      have HX1 : Hid ((Wire.rText (some (c :: r))).1.length ≤ 1000000000) := Nat.le_trans hx1 hlr
      have HST := Lib.hid hst
      have HCO := Lib.hid hcost
      have HLR := Lib.hid hlr
      have HLen : Hid ((c :: r).length ≤ (st.getD []).length) := hE.len
      have HGo : Hid (Fm.entG acc (some (c :: r)) = Fm.entG [] st) := hE.go
      have HMap := Lib.hid hE.map
      have HAsc := Lib.hid hE.asc
      have HUpd := Lib.hid hE.upd
      have HLT : Hid (b < wr.heap.size ∧ w.heap.size < wr.heap.size) := ⟨hE.rdr.lt, hE.map.lt⟩
      clear hE hcost hle1 hx1 hst hlr HE hG
      generalize Wire.rText (some (c :: r)) = X at *
      obtain ⟨nm, s1⟩ := X
      dsimp only at *
      generalize Wire.rText s1 = Y at *
      obtain ⟨tx, s2⟩ := Y
      dsimp only at *
      go_wp2_with fail
      (with_reducible refine (hl1.out).mono ?_)
      rintro _ _ ⟨rfl, rfl⟩
      go_wp2_with fail
      (with_reducible refine (ht1.out).mono ?_)
      rintro _ w2 ⟨rfl, hr2, u2⟩
      have ht3 := Lib.hid (ht2.out w2 hr2 u2)
      have U2 := Lib.hid u2
      clear ht1 ht2 hr2 u2 hl1
      go_wp2_with fail
      (with_reducible refine (ht3.out).mono ?_)
      rintro _ w3 ⟨rfl, hr3, u3⟩
      have hf1 := Lib.hid (failed_c b s2 w3 hr3)
      have U3 : Hid (Upd (· = b) wr w3) := U2.out.trans' u3 (fun k _ e => e)
      have HR3 := Lib.hid hr3
      clear ht3 u3 hr3 U2
      have hmb : MapL Tryz.prog tStrF w3 w.heap.size (acc.map kvS) := HMap.out.upd U3.out (fun e => by omega)
      obtain ⟨es, clock, hhb, hes⟩ := hmb.len
      rw [List.length_map] at hes
      have hln : (Builtin.len_ #[128] 3 #[.map (some w.heap.size)]).run Tryz.prog w3 = .ok (.int .i64 (es.size : Int)) w3 := by
        simp [Builtin.len_, run_underlying Tryz.underlying128, MapKept.run_getObj_map hhb, goInt, Result.andThen]
      have HMB := Lib.hid hmb
      clear hmb
      cases hn : s2.isNone with
      | true =>
        rw [hn] at hf1
        have hno : Hid (Fm.entG [] st = none) := by
          have h1 := HST.out
          rw [if_pos hn, HGo.out] at h1
          exact h1
        go_wp2_with fail
        (with_reducible refine (hf1.out).mono ?_)
        rintro _ _ ⟨rfl, rfl⟩
        go_wp2_with fail
        go_ret2
        refine ⟨_, by rw [hno.out]; rfl, fun l hl => ?_, ⟨_, HR3.out⟩, (Nw.trans N1.out HUpd.out).trans' U3.out (fun k _ e => Or.inl e) |>.mono (fun k hk e => e.resolve_right (by omega))⟩
        rw [hno.out] at hl; cases hl
      | false =>
      rw [hn] at hf1
      have hkl := WideMaps.keyOf_string_mk (P := Tryz.prog) (k := tStrF) Tryz.underlying9 (s := ⟨nm.toArray⟩) (by rw [bs_size, bs_list]; have := HX1.out; unfold maxLen; omega)
      have hstep : Fm.lowE acc nm = false → ∃ w', (Instr.mapUpdate 128 (.map (some w.heap.size)) (sF nm) (sF tx)).run Tryz.prog w3 = .ok () w' ∧ Hid (EntI w W1 b w.heap.size st (acc ++ [(nm, tx)]) s2 w' ∧ (s2.getD []).length < (c :: r).length) := fun hlow => by
        have ha := asc_snoc HAsc.out (low_last hlow)
        obtain ⟨w', r1, r2, r3⟩ := HMB.out.store_new strKeyedF Tryz.underlying128 (by omega) (key := sF nm) hkl (fun p hp e => by
          obtain ⟨x, hx, rfl⟩ := List.mem_map.1 hp
          refine asc_new ha ?_
          rw [← sF_inj e]
          exact List.mem_map.2 ⟨x, hx, rfl⟩) (sF tx)
        refine ⟨w', r1, ⟨?_, ?_, ?_, ?_, ?_, ?_⟩, HCO.out hn⟩
        · rw [List.map_append]; exact r2
        · exact HR3.out.upd r3 (fun e => by omega)
        · have h1 := HST.out
          rw [if_neg (by rw [hn]; simp), if_neg (by rw [hlow]; simp), HGo.out] at h1
          exact h1.symm
        · rw [List.map_append]; exact ha
        · exact Nat.le_trans (Nat.le_of_lt (HCO.out hn)) HLen.out
        · exact (HUpd.out.trans' U3.out (fun k _ e => Or.inl e)).trans' r3 (fun k _ e => Or.inr e)
      have HSTEP := Lib.hid hstep
      have hlow2 : Fm.lowE acc nm = true → Hid (Fm.entG [] st = none) := fun hlow => by
        have h1 := HST.out
        rw [if_neg (by rw [hn]; simp), if_pos hlow, HGo.out] at h1
        exact h1
      have HLOW := Lib.hid hlow2
      clear hkl hstep hlow2
      cases hl : acc.getLast? with
      | none =>
        obtain rfl : acc = [] := List.getLast?_eq_none_iff.1 hl
        have hes0 : es.size = 0 := hes
        obtain ⟨w4, hst, HE4⟩ := HSTEP.out rfl
        have Hst := Lib.hid hst
        clear hst
        go_wp2_with fail
        (with_reducible refine (hf1.out).mono ?_)
        rintro _ _ ⟨rfl, rfl⟩
        go_wp2_with (at_mapUpdate; refine wpList_storeL rfl _ _ _ 128 rfl _ _ _ rfl rfl rfl Hst.out ?_)
        go_roundw
        case rel => exact ⟨_, _, rfl, HE4.out.1⟩
        case measure =>
          rw [HE4.out.1.rdr.c0, HC0.out]
          have := HE4.out.2
          simpa [strQ, bs_size, bs_list] using this
      | some z =>
        have hes1 : 0 < es.size := by
          rw [hes]
          cases acc with
          | nil => cases hl
          | cons a l => simp
        have hes2 : (0 : Int) < (es.size : Int) := by omega
        have hlw := Lib.hid (low_some (s := nm) hl)
        cases hb : Op.bytesLess z.1 nm with
        | true =>
          obtain ⟨q1, q2⟩ := bl_no hb
          obtain ⟨w4, hst, HE4⟩ := HSTEP.out (by rw [hlw.out, hb]; rfl)
          have Hst := Lib.hid hst
          clear hst
          go_wp2_with fail
          (with_reducible refine (hf1.out).mono ?_)
          rintro _ _ ⟨rfl, rfl⟩
          go_wp2_with (at_mapUpdate; refine wpList_storeL rfl _ _ _ 128 rfl _ _ _ rfl rfl rfl Hst.out ?_)
          go_roundw
          case rel => exact ⟨_, _, by rw [List.getLast?_append]; rfl, HE4.out.1⟩
          case measure =>
            rw [HE4.out.1.rdr.c0, HC0.out]
            have := HE4.out.2
            simpa [strQ, bs_size, bs_list] using this
        | false =>
          have q1 := bl_yes hb
          have hno := HLOW.out (by rw [hlw.out, hb]; rfl)
          go_wp2_with fail
          (with_reducible refine (hf1.out).mono ?_)
          rintro _ _ ⟨rfl, rfl⟩
          go_wp2_with fail
          go_ret2
          refine ⟨_, by rw [hno.out]; rfl, fun l hl => ?_, ⟨_, HR3.out⟩, ((Nw.trans N1.out HUpd.out).trans' U3.out (fun k _ e => Or.inl e)).mono (fun k hk e => e.resolve_right (by omega))⟩
          rw [hno.out] at hl; cases hl
end Go.Proofs.YtjlgmoemnhmgmaaGreatDoor
namespace Go.Proofs.YtjlgmoemnhmgmaaGreatDoor
open Go.RowKit Go.MapKept
set_option linter.unusedVariables false
set_option linter.unusedSimpArgs false
attribute [local irreducible] Calls
open Fm (Ty Vl Str nameB rightTy rightVl)

theorem wpAnyG_skip {P : Program} {ops : Array Oper} {Q : Exit → Act → World → Prop} {md : Region.Mode} {S : World → Prop} {k : Nat} {i : Nat} {oi : Oper} {fuel : Nat} {listed : Array Bool} {a : Act} {w : World} (hi : ops[i]? = some oi) (hik : (i == k) = false)
    (hs : Region.noSelect ops = true) (hf : Region.free md ops listed i = true) (hr : (Region.ready md ops listed).contains i = true) (hc : closedB md ops listed = true)
    (hQ : ∀ c a w, Q (.panic c) (a.put oi.dst undef) w → Q (.panic c) a w) (hw : Region.wanted oi (yielded ops a.tmps) = false) (hS : listed.getD k false = false → S w)
    (h : wpAnyG P md ops Q S k fuel (listed.setIfInBounds i true) (a.put oi.dst undef) w) : wpAnyG P md ops Q S k (fuel + 1) listed a w :=
  wpAnyG_first (S' := fun _ => True) hi (by simpa using hik) (Region.noSelect_spec hs) hQ (fun _ _ _ _ _ => trivial) fuel listed a w (Region.free_spec hi hf) (closed_of hc) (by simpa using hr) (Or.inr ⟨hw, rfl⟩) hS h
/-! ### What read reads -/
theorem readF_bad {d : Nat} {t : Ty} {s : Str} (h : (Wire.rNum (some s)).2.isNone = true ∨ (Wire.rNum (some s)).1 ≠ t.kind) : Fm.readF (d + 1) t s = none := by
  unfold Fm.readF
  dsimp only
  rw [if_pos h]
theorem readF_zero {d : Nat} {t : Ty} {s : Str} (h1 : (Wire.rNum (some s)).2.isNone = false) (h2 : (Wire.rNum (some s)).1 = t.kind) (h0 : t.kind = 0) :
    Fm.readF (d + 1) t s = if (Wire.rInt (Wire.rNum (some s)).2).2 = some [] then some (.mk 0 (Wire.rInt (Wire.rNum (some s)).2).1 [] []) else none := by
  unfold Fm.readF
  dsimp only
  rw [if_neg (by rw [h1, h2]; simp), if_pos h0]
theorem readF_one {d : Nat} {t : Ty} {s : Str} (h1 : (Wire.rNum (some s)).2.isNone = false) (h2 : (Wire.rNum (some s)).1 = t.kind) (h0 : t.kind = 1) :
    Fm.readF (d + 1) t s = if (Wire.rNum (Wire.rNum (some s)).2).2 = some [] ∧ (Wire.rNum (Wire.rNum (some s)).2).1 ≤ 1 then some (.mk 1 (Wire.rNum (Wire.rNum (some s)).2).1 [] []) else none := by
  unfold Fm.readF
  dsimp only
  rw [if_neg (by rw [h1, h2]; simp), if_neg (by omega), if_pos h0]
/-- One field, read. -/
def oneR (d : Nat) (l : List (Str × Str)) (f : Str × Ty) : Option Vl := Fm.readF d f.2 ((Fm.getE l f.1).getD [])
theorem readF_two {d : Nat} {t : Ty} {s : Str} (h1 : (Wire.rNum (some s)).2.isNone = false) (h2 : (Wire.rNum (some s)).1 = t.kind) (h0 : t.kind = 2) {l : List (Str × Str)} (hl : Fm.entG [] (Wire.rNum (some s)).2 = some l) :
    Fm.readF (d + 1) t s = if t.fs.all (fun f => (Fm.getE l f.1).isSome && (oneR d l f).isSome) then some (.mk t.kind 0 (t.fs.map (·.1)) (t.fs.map fun f => (oneR d l f).getD Fm.noV)) else none := by
  unfold Fm.readF
  dsimp only
  rw [if_neg (by rw [h1, h2]; simp), if_neg (by omega), if_neg (by omega), hl]
  rfl
theorem readF_two_none {d : Nat} {t : Ty} {s : Str} (h1 : (Wire.rNum (some s)).2.isNone = false) (h2 : (Wire.rNum (some s)).1 = t.kind) (h0 : t.kind = 2) (hl : Fm.entG [] (Wire.rNum (some s)).2 = none) :
    Fm.readF (d + 1) t s = none := by
  unfold Fm.readF
  dsimp only
  rw [if_neg (by rw [h1, h2]; simp), if_neg (by omega), if_neg (by omega), hl]
theorem entF_len : ∀ (n : Nat) (acc : List (Str × Str)) (st : Wire.St) (l : List (Str × Str)), Fm.entF n acc st = some l → ∀ x ∈ l, x ∈ acc ∨ (x.1.length ≤ (st.getD []).length ∧ x.2.length ≤ (st.getD []).length) := by
  intro n
  induction n with
  | zero => intro acc st l h; cases h
  | succ n ih =>
    intro acc st l h x hx
    cases st with
    | none => cases h
    | some s =>
      cases s with
      | nil =>
        obtain rfl := Option.some.inj h
        exact Or.inl hx
      | cons c r =>
        unfold Fm.entF at h
        dsimp only at h
        split at h
        · cases h
        split at h
        · cases h
        have l1 := Wire.rText_le (some (c :: r))
        have l2 := Wire.rText_le (Wire.rText (some (c :: r))).2
        have l3 := rText_len (some (c :: r))
        have l4 := rText_len (Wire.rText (some (c :: r))).2
        rcases ih _ _ _ h x hx with h3 | h3
        · rcases List.mem_append.1 h3 with h3 | h3
          · exact Or.inl h3
          · rw [List.mem_singleton.1 h3]
            exact Or.inr ⟨l3, Nat.le_trans l4 l1⟩
        · exact Or.inr ⟨Nat.le_trans h3.1 (Nat.le_trans l2 l1), Nat.le_trans h3.2 (Nat.le_trans l2 l1)⟩
theorem entG_len {st : Wire.St} {l : List (Str × Str)} (h : Fm.entG [] st = some l) : ∀ x ∈ l, x.1.length ≤ (st.getD []).length ∧ x.2.length ≤ (st.getD []).length := fun x hx =>
  (entF_len _ _ _ _ h x hx).resolve_left (fun h => by cases h)
theorem getE_len {st : Wire.St} {l : List (Str × Str)} (h : Fm.entG [] st = some l) (s : Str) : ((Fm.getE l s).getD []).length ≤ (st.getD []).length := by
  cases hg : Fm.getE l s with
  | none => simp
  | some y => exact (entG_len h _ (Fm.getE_mem hg)).2
/-- 'm[s]' of the entries. -/
theorem look_fm {w : World} {mb : Nat} {l : List (Str × Str)} (h : MapL Tryz.prog tStrF w mb (l.map kvS)) {s : Str} (hs : s.length ≤ 1000000) :
    (Instr.lookup 128 (.map (some mb)) (.string ⟨s.toArray⟩) true).run Tryz.prog w = .ok (.tuple #[.string ⟨((Fm.getE l s).getD []).toArray⟩, .bool (Fm.getE l s).isSome]) w := by
  have hz : (zeroValue 9).run Tryz.prog w = .ok (.string ⟨#[]⟩) w := by kernel_rfl
  have hl := WideMaps.keyOf_string_mk (P := Tryz.prog) (k := tStrF) Tryz.underlying9 (s := ⟨s.toArray⟩) (by rw [bs_size, bs_list]; unfold maxLen; omega)
  rcases h.look strKeyedF Tryz.underlying128 hz hl with ⟨v, hm, hrun⟩ | ⟨hno, hrun⟩
  · obtain ⟨x, hx, e⟩ := List.mem_map.1 hm
    have e1 : x.1 = s := sF_inj (Prod.mk.inj e).1
    have e2 : v = sF x.2 := (Prod.mk.inj e).2.symm
    have hg : Fm.getE l s = some x.2 := by
      cases hg : Fm.getE l s with
      | none => exact absurd e1 (Fm.getE_none hg x hx)
      | some y =>
        have hy := Fm.getE_mem hg
        have := h.uniq hm (List.mem_map.2 ⟨_, hy, rfl⟩) rfl
        have h2 := (Prod.mk.inj this).2
        rw [e2] at h2
        rw [sF_inj h2]
    rw [hrun true, e2, hg]
    rfl
  · have hg : Fm.getE l s = none := by
      cases hg : Fm.getE l s with
      | none => rfl
      | some y => exact absurd rfl (hno _ (List.mem_map.2 ⟨_, Fm.getE_mem hg, rfl⟩))
    rw [hrun true, hg]
    rfl
/-- What read answers. -/
def RdPost (d : Nat) (t : Ty) (s : Str) (w : World) (e : Ending) (w' : World) : Prop :=
  ∃ (k n : Int) (xa : Option Addr) (xl xc : Nat) (ya : Option Addr) (yl yc : Nat), e = .returned (.tuple #[.agg #[.int .i64 k, .int .i64 n, .slice xa xl xc, .slice ya yl yc], .bool (Fm.readF d t s).isSome]) ∧
    Hid ((∀ v, Fm.readF d t s = some v → k = v.kind ∧ n = v.n ∧ VlAt (fun j => w.heap.size ≤ j) w' (.slice xa xl xc) (.slice ya yl yc) v) ∧ Nw w w')
/-- Behind the first region: a reader, a value that is begun. -/
structure Rd1 (W wx : World) (s : Str) (kd : Int) (rb q : Nat) : Prop where
  rdr : Rdr tR wx rb (some s)
  box : wx.heap[q]? = some (.cells #[.int .i64 kd, .int .i64 0, .slice none 0 0, .slice none 0 0] tVl (0, 0))
  ne : rb ≠ q
  upd : Nw W wx
  lr : W.heap.size ≤ rb
  lq : W.heap.size ≤ q
theorem rd_results (tmps : Array Value) (w : World) {r : Nat} {k n : Int} {nv vv : Value} {b : Bool} (hr : tmps.getD 4 undef = .pointer (some ⟨r, 0, none⟩)) (h5 : tmps.getD 5 undef = .bool b) (hb : w.heap[r]? = some (.cells #[.int .i64 k, .int .i64 n, nv, vv] tVl (0, 0))) :
    (results Tryz.f67 tmps).run Tryz.prog w = .ok (.tuple #[.agg #[.int .i64 k, .int .i64 n, nv, vv], .bool b]) w := by
  have c0 : w.cell? ⟨r, 0, none⟩ = some (.int .i64 k) := by rw [cells_cell hb]; rfl
  have c1 : w.cell? ⟨r, 1, none⟩ = some (.int .i64 n) := by rw [cells_cell hb]; rfl
  have c2 : w.cell? ⟨r, 2, none⟩ = some nv := by rw [cells_cell hb]; rfl
  have c3 : w.cell? ⟨r, 3, none⟩ = some vv := by rw [cells_cell hb]; rfl
  rw [Array.getD_eq_getD_getElem?] at hr h5
  simp [results, Tryz.results67, go_sem, hr, h5, c0, c1, c2, c3]
/-- The result, stored. -/
theorem rd_exit {d : Nat} {t : Ty} {s : Str} {w y : World} (hgb : nG ≤ w.heap.size) {cs : Array Value} (hc : cs = #[.int .i64 0, .int .i64 0, .slice none 0 0, .slice none 0 0]) (hr : y.heap[w.heap.size + 1]? = some (.cells cs tVl (0, 0))) (hu : Nw w y) (k n : Int) (nv vv : Value)
    (hv : ∀ v, Fm.readF d t s = some v → k = v.kind ∧ n = v.n ∧ VlAt (fun j => w.heap.size + 2 ≤ j) y nv vv v) :
    ((((y.setCell ⟨w.heap.size + 1, 0, none⟩ (.int .i64 k)).setCell ⟨w.heap.size + 1, 1, none⟩ (.int .i64 n)).setCell ⟨w.heap.size + 1, 2, none⟩ nv).setCell ⟨w.heap.size + 1, 3, none⟩ vv).heap[w.heap.size + 1]? = some (.cells #[.int .i64 k, .int .i64 n, nv, vv] tVl (0, 0)) ∧
    Hid ((∀ v, Fm.readF d t s = some v → k = v.kind ∧ n = v.n ∧ VlAt (fun j => w.heap.size ≤ j) ((((y.setCell ⟨w.heap.size + 1, 0, none⟩ (.int .i64 k)).setCell ⟨w.heap.size + 1, 1, none⟩ (.int .i64 n)).setCell ⟨w.heap.size + 1, 2, none⟩ nv).setCell ⟨w.heap.size + 1, 3, none⟩ vv) nv vv v) ∧ Nw w ((((y.setCell ⟨w.heap.size + 1, 0, none⟩ (.int .i64 k)).setCell ⟨w.heap.size + 1, 1, none⟩ (.int .i64 n)).setCell ⟨w.heap.size + 1, 2, none⟩ nv).setCell ⟨w.heap.size + 1, 3, none⟩ vv)) := by
  subst hc
  have hg : nG ≤ w.heap.size + 1 := by omega
  have hu9 := Upd.set1 (Upd.set1 (Upd.set1 (Upd.set1 (Upd.refl _ y) hg 0 (.int .i64 k)) hg 1 (.int .i64 n)) hg 2 nv) hg 3 vv
  refine ⟨setCell_block (setCell_block (setCell_block (setCell_block hr 0 _) 1 _) 2 _) 3 _, fun v h => ?_, hu.trans' hu9 (fun k hk e => by omega)⟩
  obtain ⟨h1, h2, h3⟩ := hv v h
  exact ⟨h1, h2, (h3.upd hu9 (fun k hk e => by omega)).mono (fun k _ hk => by omega)⟩
theorem cell4F {y : World} {q : Nat} {a b c d : Value} {T : TypeId} (h : y.heap[q]? = some (.cells #[a, b, c, d] T (0, 0))) : y.cell? ⟨q, 0, none⟩ = some a ∧ y.cell? ⟨q, 1, none⟩ = some b ∧ y.cell? ⟨q, 2, none⟩ = some c ∧ y.cell? ⟨q, 3, none⟩ = some d :=
  ⟨by rw [cells_cell h]; rfl, by rw [cells_cell h]; rfl, by rw [cells_cell h]; rfl, by rw [cells_cell h]; rfl⟩
theorem froz4F {y : World} {q : Nat} {cs : Array Value} {T : TypeId} (h : y.heap[q]? = some (.cells cs T (0, 0))) : y.frozen? ⟨q, 0, none⟩ = false ∧ y.frozen? ⟨q, 1, none⟩ = false ∧ y.frozen? ⟨q, 2, none⟩ = false ∧ y.frozen? ⟨q, 3, none⟩ = false :=
  ⟨cells_frozen h 0, cells_frozen h 1, cells_frozen h 2, cells_frozen h 3⟩
end Go.Proofs.YtjlgmoemnhmgmaaGreatDoor
