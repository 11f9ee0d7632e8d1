/- chunk.Missing, chunk.Right. -/
import Derived.Test.YtagmlemlagbfkaaDoorPkFFair10
namespace Go.Proofs.YtagmlemlagbfkaaDoor
open Go.RowKit
set_option linter.unusedVariables false
set_option linter.unusedSimpArgs false
attribute [local irreducible] Calls

theorem infoIntU : (Tryd.prog.info? 3).map (fun i => (i.zero, i.size, i.bytes)) = some (some (.int .i64 0), 1, 8) := by kernel_rfl
/-- What is missing, after n rounds. -/
theorem miss_take {l hv : List Int} {n : Nat} (h : n < l.length) : Ft.miss (l.take (n + 1)) hv = Ft.miss (l.take n) hv ++ if l[n] ∈ hv then [] else [(n : Int)] := by
  rw [List.take_succ_eq_append_getElem h, Ft.miss_snoc, List.length_take, Nat.min_eq_left (by omega)]
set_option maxHeartbeats 2000000 in
set_option maxRecDepth 100000 in
theorem missing_c (lo hi lo2 hi2 : Nat) (p z : Int) (cv : Value) (l : List Int) (hv : Value) (have_ : List Int) (w : World) (g : Gl w) (hc : Sl lo hi w cv (l.map intD)) (hh : Sl lo2 hi2 w hv (have_.map intD)) (hl : l.length ≤ 1000000) (hl2 : have_.length ≤ 1000000) :
    Calls Tryd.prog 27 #[.agg #[.int .i64 p, .int .i64 z, cv], hv] w fun e w' => ∃ v', e = .returned v' ∧ w'.ownsRow w.heap.size 3 1 v' (Ft.miss l have_).length ((Ft.miss l have_).map intD) ∧ Nw w w' := by
  have hgb := g.big
  obtain ⟨a, cap, rfl, -, -⟩ := int_cells hc
  have n1 := nw_alloc w (.cells #[.int .i64 p, .int .i64 z, .slice a l.length cap] tManU)
  have HC := Lib.hid (int_cells (hc.nw n1))
  have HK := Lib.hid (fun (n : Int) (wr : World) (u : Nw w wr) => contains_iU lo2 hi2 hv have_ n wr (hh.nw u) hl2)
  obtain ⟨ah, caph, rfl, -, -⟩ := int_cells hh
  have hl3 : (l.length : Int) ≤ 1000000 := by omega
  have HU := Lib.hid n1
  have HS : Hid (w.heap.size ≤ (w.alloc (.cells #[.int .i64 p, .int .i64 z, .slice a l.length cap] tManU)).heap.size) := n1.size
  clear hc hh n1
  go_enter Tryd.func27, Tryd.ntmps27
  go_wp2_with fail
  go_loopw [5, 11] (fun vo iv wr => ∃ n : Nat, n ≤ l.length ∧ iv = .int .i64 (n : Int) ∧ Hid (wr.ownsRow (w.heap.size + 1) 3 1 vo (Ft.miss (l.take n) have_).length ((Ft.miss (l.take n) have_).map intD)) ∧ Hid (Nw (w.alloc (.cells #[.int .i64 p, .int .i64 z, .slice a l.length cap] tManU)) wr)) (fun vo iv _ => l.length - (intOf iv).toNat)
  case atStart => exact ⟨0, Nat.zero_le _, rfl, World.ownsRow_nil _ _ _ _, Upd.refl _ _⟩
  case round =>
    obtain ⟨n, hn, rfl, HO, U⟩ := hrel
    obtain ⟨ao, capo, rfl⟩ := own_slG HO.out
    by_cases hlt : n < l.length
    · rcases HC.out with ⟨_, _, e, _, hnil | ⟨b, off, e2, _, _, hcell⟩⟩
      · simp [hnil] at hlt
      injection e with e3 e4 e5
      subst e3 e5
      subst e2
      have c0 := later_cell ⟨wr, U.out⟩ (hcell n hlt)
      have hlt1 : (n : Int) < l.length := by omega
      have HT := Lib.hid (miss_take (hv := have_) hlt)
      have hml := Ft.miss_len (l.take n) have_
      rw [List.length_take] at hml
      have hml2 : (Ft.miss (l.take n) have_).length ≤ 1000000 := by omega
      have hk := Lib.hid (HK.out l[n] wr (HU.out.trans U.out))
      clear hcell hml
      generalize l[n] = x at *
      by_cases hm : x ∈ have_
      · have hy : Hid (Calls Tryd.prog 19 #[.slice ah have_.length caph, .int .i64 x] wr fun e w' => e = .returned (.bool true) ∧ wr = w') := by rw [← decide_eq_true hm]; exact hk.out
        have hfin : Hid (wr.ownsRow (w.heap.size + 1) 3 1 (.slice ao (Ft.miss (l.take n) have_).length capo) (Ft.miss (l.take (n + 1)) have_).length ((Ft.miss (l.take (n + 1)) have_).map intD)) := by
          show wr.ownsRow _ _ _ _ _ _
          rw [HT.out, if_pos hm, List.append_nil]; exact HO.out
        clear hk HT hm
        go_wp2_with fail
        (with_reducible refine (hy.out).mono ?_)
        rintro _ _ ⟨rfl, rfl⟩
        go_wp2_with fail
        go_roundw
        case rel => exact ⟨n + 1, by omega, by go_num, hfin, U⟩
        case measure => simp [intOf]; omega
      · have hy : Hid (Calls Tryd.prog 19 #[.slice ah have_.length caph, .int .i64 x] wr fun e w' => e = .returned (.bool false) ∧ wr = w') := by rw [← decide_eq_false hm]; exact hk.out
        have HT2 : Hid (Ft.miss (l.take (n + 1)) have_ = Ft.miss (l.take n) have_ ++ [(n : Int)]) := by
          have := HT.out
          rw [if_neg hm] at this
          exact this
        have hsz : w.heap.size + 1 ≤ wr.heap.size := by have := U.out.size; simpa using this
        clear hk HT hm
        go_wp2_with fail
        (with_reducible refine (hy.out).mono ?_)
        rintro _ _ ⟨rfl, rfl⟩
        go_wp2_with (at_builtin; refine wpList_appL rfl _ _ 24 rfl (w.heap.size + 1) 3 _ 1 8 Tryd.underlying24 infoIntU rfl (by decide) _ _ _ rfl HO.out [.int .i64 (n : Int)] rfl rfl ?c1 ?c2 ?c3 hsz (by omega) ?_)
        case c1 => intro u hu; rw [List.mem_singleton.1 hu]; rfl
        case c2 => unfold maxLen; omega
        case c3 => omega
        intro v' w9 hown9 u9 hob
        obtain ⟨a9, cap9, rfl⟩ := own_slG hown9
        have hfin : Hid (w9.ownsRow (w.heap.size + 1) 3 1 (.slice a9 ((Ft.miss (l.take n) have_).length + 1) cap9) (Ft.miss (l.take (n + 1)) have_).length ((Ft.miss (l.take (n + 1)) have_).map intD)) := by
          show w9.ownsRow _ _ _ _ _ _
          rw [HT2.out, List.length_append, List.length_singleton, List.map_append]
          exact hown9
        have hU := Lib.hid (U.out.trans' u9 (fun j hj e => by
          have h1 := (HO.out.lt j e).1
          simp at hj; omega))
        clear hown9 u9 hob
        go_wp2_with fail
        go_roundw
        case rel => exact ⟨n + 1, by omega, by go_num, hfin, hU⟩
        case measure => simp [intOf]; omega
    · obtain rfl : n = l.length := by omega
      simp only [List.take_length] at HO ⊢
      go_wp2_with fail
      go_ret
      exact ⟨_, rfl, owns_base HO.out (by omega), HU.out.trans U.out⟩
theorem cutp_c (r s : List UInt8) (w : World) : Calls Tryd.prog 29 #[.string ⟨r.toArray⟩, .string ⟨s.toArray⟩] w fun e w' => e = .returned (.tuple #[.string ⟨(Lib.trimPrefix r s).toArray⟩, .bool (s.isPrefixOf r)]) ∧ w = w' :=
  (CutPrefix_c ⟨r.toArray⟩ ⟨s.toArray⟩ w).mono fun e w' ⟨he, hw⟩ => ⟨by rw [he, bs_list, bs_list]; rfl, hw⟩
theorem eats_step (cs : List (List UInt8)) (l : List Int) (n : Nat) (h : n < l.length) (r : List UInt8) :
    Ft.eats cs (l.drop n) r = ((hasAtU cs l[n] && !(textAtU cs l[n]).isEmpty && decide ((textAtU cs l[n]).length ≤ 4096) && (textAtU cs l[n]).isPrefixOf r) && Ft.eats cs (l.drop (n + 1)) (r.drop (textAtU cs l[n]).length)) := by
  rw [List.drop_eq_getElem_cons h]; rfl
set_option maxHeartbeats 4000000 in
set_option maxRecDepth 100000 in
theorem right_c (lo hi lo2 hi2 : Nat) (v : Value) (cs : List (List UInt8)) (p z : Int) (cv : Value) (l : List Int) (w : World) (g : Gl w) (hv : Sl lo hi w v (cs.map bsMU)) (hl : CntOkU cs) (hn : cs.Nodup) (hc : Sl lo2 hi2 w cv (l.map intD)) (hl2 : l.length ≤ 1000000) :
    Calls Tryd.prog 13 #[v, .agg #[.int .i64 p, .int .i64 z, cv]] w fun e w' => e = .returned (.bool (Ft.rightM cs ⟨p, z, l⟩)) ∧ Nw w w' := by
  obtain ⟨a, cap, rfl, -, -⟩ := int_cells hc
  have n1 := nw_alloc w (.cells #[.int .i64 p, .int .i64 z, .slice a l.length cap] tManU)
  have bx := heap_new w (.cells #[.int .i64 p, .int .i64 z, .slice a l.length cap] tManU)
  have HC := Lib.hid (int_cells (hc.nw n1))
  have HT := Lib.hid (fun (n : Int) (wr : World) (u : Nw w wr) => ctext_wU lo hi v cs n wr (hv.nw u) hl.n)
  have HR := Lib.hid (fun (wr : World) (u : Nw w wr) => right_w37U lo hi v cs wr (g.upd u) (hv.nw u) hl hn)
  obtain ⟨a1, c1, rfl, -⟩ := strs_cellsU hv
  have hl3 : (l.length : Int) ≤ 1000000 := by omega
  have HU := Lib.hid n1
  have HB := Lib.hid bx
  have ht1 := Lib.hid (HT.out p _ n1)
  have htx : ∀ p, (textAtU cs p).length ≤ 100 := fun p => by
    unfold textAtU
    split
    · rw [List.getD_eq_getElem?_getD]
      cases he : cs[p.toNat]? with
      | none => simp
      | some x => exact hl.s x (List.mem_of_getElem? he)
    · simp
  have HTL := Lib.hid htx
  have htl := htx p
  clear htx
  have hdef : Ft.rightM cs ⟨p, z, l⟩ = (hasAtU cs p && decide (z = (textAtU cs p).length) && decide (l.length ≤ 1000) && Ft.eats cs l (textAtU cs p)) := rfl
  have HD := Lib.hid hdef
  clear hv hc n1 bx hl hdef
  generalize Ft.rightM cs ⟨p, z, l⟩ = res at *
  generalize hasAtU cs p = hb at *
  generalize textAtU cs p = t at *
  have htl1 : (t.length : Int) ≤ 100 := by omega
  clear htl
  go_enter Tryd.func13, Tryd.ntmps13
  go_wp2_with fail
  (with_reducible refine (ht1.out).mono ?_)
  rintro _ w2 ⟨rfl, u2⟩
  have HU2 := Lib.hid (HU.out.trans u2)
  have HB2 := Lib.hid (Nw.keep u2 HB.out)
  have U2 := Lib.hid u2
  have hr2 := Lib.hid (HR.out w2 HU2.out)
  clear u2 HR ht1 HB HU
  cases hb with
  | false =>
    have h0 : Hid (res = false) := by show _ = _; have := HD.out; simpa using this
    clear HD
    go_wp2_with fail
    go_ret
    exact ⟨by rw [h0.out]; rfl, HU2.out⟩
  | true =>
    have k1 : w2.cell? ⟨w.heap.size, 1, none⟩ = some (.int .i64 z) := by simp [World.cell?, HB2.out]
    have k2 : w2.cell? ⟨w.heap.size, 2, none⟩ = some (.slice a l.length cap) := by simp [World.cell?, HB2.out]
    have HB3 := Lib.hid (fun (w3 : World) (u3 : Nw w2 w3) => (show w3.cell? ⟨w.heap.size, 1, none⟩ = some (.int .i64 z) ∧ w3.cell? ⟨w.heap.size, 2, none⟩ = some (.slice a l.length cap) from ⟨by simp [World.cell?, Nw.keep u3 HB2.out], by simp [World.cell?, Nw.keep u3 HB2.out]⟩))
    clear k1 k2 HB2
    by_cases hz : z = t.length
    · have hz1 : (z == (t.length : Int)) = true := by simp [hz]
      have hz2 : (z != (t.length : Int)) = false := by simp [hz]
      have hz3 : Hid (decide (z = (t.length : Int)) = true) := decide_eq_true hz
      clear hz
      by_cases hk : l.length ≤ 1000
      · have hk1 : decide ((1000 : Int) < l.length) = false := decide_eq_false (by omega)
        have hk2 : (l.length : Int) ≤ 1000 := by omega
        have HD2 : Hid (res = Ft.eats cs l t) := by
          show _ = _
          have := HD.out
          rw [hz3.out, decide_eq_true hk] at this
          simpa using this
        clear HD hk hz3
        go_wp2_with fail
        (with_reducible refine (hr2.out).mono ?_)
        rintro _ w3 ⟨rfl, u3⟩
        obtain ⟨k1, k2⟩ := HB3.out w3 u3
        have HU3 := Lib.hid (HU2.out.trans u3)
        have HC3 := Lib.hid (HC.out)
        have U3 := Lib.hid (U2.out.trans u3)
        clear u3 HB3 hr2
        go_wp2_with fail
        go_loopw [5, 43] (fun tv iv wr => ∃ (n : Nat) (r : List UInt8), n ≤ l.length ∧ r.length ≤ 100 ∧ iv = .int .i64 (n : Int) ∧ tv = .string ⟨r.toArray⟩ ∧ Hid (res = Ft.eats cs (l.drop n) r) ∧ Hid (Nw w3 wr)) (fun tv iv _ => l.length - (intOf iv).toNat)
        case atStart => exact ⟨0, t, Nat.zero_le _, by omega, rfl, rfl, HD2, Upd.refl _ _⟩
        case round =>
          obtain ⟨n, r, hn, hr, rfl, rfl, HE, U⟩ := hrel
          by_cases hlt : n < l.length
          · rcases HC.out with ⟨_, _, e, _, hnil | ⟨b, off, e2, _, _, hcell⟩⟩
            · simp [hnil] at hlt
            injection e with e3 e4 e5
            subst e3 e5
            subst e2
            have c0 := later_cell ⟨wr, U3.out.trans U.out⟩ (hcell n hlt)
            have hlt1 : (n : Int) < l.length := by omega
            have HS := Lib.hid (eats_step cs l n hlt r)
            have hx := Lib.hid (HT.out l[n] wr (HU3.out.trans U.out))
            have hsl : (textAtU cs l[n]).length ≤ 100 := HTL.out _
            clear hcell
            generalize l[n] = x at *
            generalize hasAtU cs x = hb at *
            generalize textAtU cs x = s at *
            have hs1 : decide ((4096 : Int) < s.length) = false := decide_eq_false (by omega)
            have hs2 : (s.length : Int) ≤ 100 := by omega
            have hs3 : Hid (decide (s.length ≤ 4096) = true) := decide_eq_true (by omega)
            have hr1 : (r.length : Int) ≤ 100 := by omega
            go_wp2_with fail
            (with_reducible refine (hx.out).mono ?_)
            rintro _ w4 ⟨rfl, u4⟩
            have U4 := Lib.hid (U.out.trans u4)
            clear hx u4
            go_wp2_with fail
            (with_reducible refine (cutp_c _ _ _).mono ?_)
            rintro _ _ ⟨rfl, rfl⟩
            cases hb with
            | false =>
              have h0 : Hid (res = false) := by show _ = _; rw [HE.out, HS.out]; rfl
              clear HS HE
              go_wp2_with fail
              go_ret
              exact ⟨by rw [h0.out]; rfl, HU3.out.trans U4.out⟩
            | true =>
              by_cases hem : s = []
              · have h0 : Hid (res = false) := by show _ = _; rw [HE.out, HS.out, hem]; rfl
                have h1 : s.isEmpty = true := by rw [hem]; rfl
                clear HS HE hem
                go_wp2_with fail
                go_ret
                exact ⟨by rw [h0.out]; rfl, HU3.out.trans U4.out⟩
              · have h1 : s.isEmpty = false := by cases s <;> simp_all
                cases hp : s.isPrefixOf r with
                | false =>
                  have h0 : Hid (res = false) := by show _ = _; rw [HE.out, HS.out, hp]; simp
                  clear HS HE hem
                  go_wp2_with fail
                  go_ret
                  exact ⟨by rw [h0.out]; rfl, HU3.out.trans U4.out⟩
                | true =>
                  have h0 : Hid (res = Ft.eats cs (l.drop (n + 1)) (r.drop s.length)) := by show _ = _; rw [HE.out, HS.out, hp, h1, hs3.out]; simp
                  have h3 : Hid (Lib.trimPrefix r s = r.drop s.length) := by show _ = _; unfold Lib.trimPrefix Lib.hasPrefix; rw [hp]; rfl
                  clear HS HE hem
                  go_wp2_with fail
                  go_roundw
                  case rel => exact ⟨n + 1, r.drop s.length, by omega, by rw [List.length_drop]; omega, by go_num, by rw [h3.out], h0, U4⟩
                  case measure => simp [intOf]; omega
          · obtain rfl : n = l.length := by omega
            rw [List.drop_of_length_le (Nat.le_refl _)] at HE
            have HE2 : Hid (res = r.isEmpty) := HE.out
            go_wp2_with fail
            go_ret
            exact ⟨by rw [HE2.out]; rfl, HU3.out.trans U.out⟩
      · have hk1 : decide ((1000 : Int) < l.length) = true := decide_eq_true (by omega)
        have h0 : Hid (res = false) := by
          show _ = _
          have := HD.out
          rw [decide_eq_false hk] at this
          simpa using this
        clear HD hz3 hk
        go_wp2_with fail
        (with_reducible refine (hr2.out).mono ?_)
        rintro _ w3 ⟨rfl, u3⟩
        obtain ⟨k1, k2⟩ := HB3.out w3 u3
        have HU3 := Lib.hid (HU2.out.trans u3)
        clear u3 HB3
        go_wp2_with fail
        go_ret
        exact ⟨by rw [h0.out]; rfl, HU3.out⟩
    · have hz1 : (z == (t.length : Int)) = false := by simp [hz]
      have hz2 : (z != (t.length : Int)) = true := by simp [hz]
      have h0 : Hid (res = false) := by
        show _ = _
        have := HD.out
        rw [decide_eq_false hz] at this
        simpa using this
      clear HD hz
      go_wp2_with fail
      (with_reducible refine (hr2.out).mono ?_)
      rintro _ w3 ⟨rfl, u3⟩
      obtain ⟨k1, k2⟩ := HB3.out w3 u3
      have HU3 := Lib.hid (HU2.out.trans u3)
      clear u3 HB3
      go_wp2_with fail
      go_ret
      exact ⟨by rw [h0.out]; rfl, HU3.out⟩
end Go.Proofs.YtagmlemlagbfkaaDoor
