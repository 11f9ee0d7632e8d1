/- The contracts of the reference's list readers, and of SameNums, SameTexts (layer 1). Written by tools/gen_reft.py. -/
import Derived.Test.YtiaakidglmgmpaaDoorRefS
import Derived.Test.YtiaakidglmgmpaaDoorRdrC
namespace Go.Proofs.YtiaakidglmgmpaaDoor
open Go.RowKit
set_option linter.unusedVariables false
set_option linter.unusedSimpArgs false
attribute [local irreducible] Calls

set_option maxHeartbeats 800000 in
theorem NumsQ (b : Nat) (st : Wire.St) (w : World) (g : Gl w) (h : Rdr tQ w b st) (hl : (st.getD []).length ≤ 1099511627776) :
    Calls Tryd.prog 37 #[.pointer (some ⟨b, 0, none⟩)] w fun e w' =>
      ∃ v, e = .returned v ∧ w'.ownsRow w.heap.size 3 1 v (Wire.rItems Wire.rInt st).1.length ((Wire.rItems Wire.rInt st).1.map (Value.int .i64)) ∧ Rdr tQ w' b (Wire.rItems Wire.rInt st).2 ∧ Upd (· = b) w w' := by
  have hle := Wire.rNumber_le st 91 0
  have hn0 := Wire.rNumber_least st 91 0 (Int.le_refl 0)
  have hn1 := Wire.rNumber_i64 st 91 0
  have hbl := h.lt
  go_enter Tryd.func37, Tryd.ntmps37
  go_wp2_with fail
  (with_reducible refine (numberQ b st 91 91 c91 _ h (by omega)).mono ?_)
  rintro _ w1 ⟨rfl, h1, u1⟩
  have g0 := g
  cases hq : Wire.rNumber st 91 0 with
  | mk n s1 =>
  rw [hq] at hle hn0 hn1 h1
  have Hq := Lib.hid hq; clear hq
  replace hle : (s1.getD []).length ≤ (st.getD []).length := hle
  replace hn0 : 0 ≤ n := hn0
  replace hn1 : n ≤ 9223372036854775807 := hn1.2
  replace h1 : Rdr tQ w1 b s1 := h1
  go_wp2_with fail
  go_loopw [4, 5] (fun v x wr => ∃ (i : Int) (acc : List Int) (s2 : Wire.St), x = .int .i64 i ∧ 0 ≤ i ∧ i ≤ n ∧ Hid (Wire.rLoop Wire.rInt n.toNat s1 [] = Wire.rLoop Wire.rInt (n - i).toNat s2 acc) ∧
      acc.length + (s2.getD []).length ≤ (st.getD []).length + 1 ∧ (s2.isSome → acc.length + (s2.getD []).length ≤ (st.getD []).length) ∧
      wr.ownsRow w.heap.size 3 1 v acc.length (acc.map (Value.int .i64)) ∧ Rdr tQ wr b s2 ∧ Upd (· = b) w wr) (fun _ x _ => (n - intOf x).toNat)
  case atStart => exact ⟨0, [], s1, rfl, Int.le_refl 0, hn0, by show _ = _; simp, by simp; omega, fun _ => by simpa using hle, World.ownsRow_nil _ _ _ _, h1, u1⟩
  case round =>
    obtain ⟨m, acc, s2, rfl, hm0, hm1, hL, hb1, hb2, hown, h2, u2⟩ := hrel
    have c1 := h2.c1
    have gk := g0.upd u2
    cases s2 with
    | none =>
      have hend := Lib.hid (hL.out.trans (Wire.rLoop_none _ _ _))
      have hfin := Lib.hid (Wire.rItems_end Hq.out hend.out)
      by_cases hm : m < n
      all_goals
        go_wp2_with fail
        go_ret
        rw [hfin.out]
        exact ⟨_, rfl, World.ownsRow_nil _ _ _ _, h2, u2⟩
    | some r =>
      by_cases hm : m < n
      · have hstep := Lib.hid (hL.out.trans (Wire.rLoop_step Wire.rInt (show 0 < n - m by omega) r acc))
        have hcost := Wire.rInt_cost (some r)
        have hrl := Wire.rNumber_le (some r) 59 (-9223372036854775808)
        replace hb2 := hb2 rfl
        go_wp2_with fail
        (with_reducible refine (IntQ b (some r) _ h2 (by omega)).mono ?_)
        rintro _ w3 ⟨rfl, h3, u3⟩
        cases hx : Wire.rInt (some r) with
        | mk x s3 =>
        rw [hx] at hcost h3 hstep
        have hI : I64 x := by have := Wire.rNumber_i64 (some r) 59 (-9223372036854775808); rw [show Wire.rNumber (some r) 59 (-9223372036854775808) = (x, s3) from hx] at this; exact this
        replace hrl : (s3.getD []).length ≤ r.length := by rw [show Wire.rNumber (some r) 59 (-9223372036854775808) = (x, s3) from hx] at hrl; exact hrl
        clear hx
        replace h3 : Rdr tQ w3 b s3 := h3
        replace hcost : s3.isSome = true → (s3.getD []).length < r.length := hcost
        replace hown := owns_upd hown u3 (fun k hk _ e => by omega)
        have hz3 := (u2.trans u3).size
        have Hcost := Lib.hid hcost; clear hcost
        replace hb2 : acc.length + r.length ≤ (st.getD []).length := hb2
        go_wp2_with (at_builtin; refine wpList_app rfl _ _ 22 rfl w.heap.size 3 _ 1 8 Tryd.underlying22 infoInt rfl (by decide) _ _ _ rfl hown [Value.int .i64 x] rfl rfl ?c1 ?c2 ?c3 hz3 ?_)
        case c1 => intro u hu; rw [List.mem_singleton.1 hu]; rfl
        case c2 => unfold maxLen; omega
        case c3 => omega
        intro v' w5 hown5 hnw hgr hob
        have h5 : Rdr tQ w5 b s3 := ⟨h3.1, grown_keep hgr (hnw.keep h3.2) (fun e => by have := (hob b e).1; omega)⟩
        have u5 : Upd (· = b) w w5 := ((u2.trans u3).nw hnw).grown hgr (fun k hk => ⟨Or.inr (hob k hk).1, by have := (hob k hk).1; have := g0.big; omega⟩)
        clear hgr hnw hob u3 h3
        go_wp2_with fail
        go_roundw
        case rel =>
          refine ⟨m + 1, acc ++ [x], s3, rfl, by omega, by omega, by rw [show n - (m + 1) = n - m - 1 by omega]; exact hstep.out, ?_, ?_, by simpa using hown5, h5, u5⟩
          · simp only [List.length_append, List.length_cons, List.length_nil]; omega
          · intro hs; have := Hcost.out hs; simp only [List.length_append, List.length_cons, List.length_nil]; omega
        case measure => simp [intOf]; omega
      · have hend := Lib.hid (hL.out.trans (by rw [show (n - m).toNat = 0 by omega, Wire.rLoop_zero]))
        replace hb2 := hb2 rfl
        replace hb2 : acc.length + r.length ≤ (st.getD []).length := hb2
        have Hfin := Lib.hid (Wire.rItems_end Hq.out hend.out)
        go_wp2_with fail
        (with_reducible refine (closeQ b _ 93 93 c93 _ h2 (by simp; omega)).mono ?_)
        rintro _ w3 ⟨rfl, h3, u3⟩
        replace hown := owns_upd hown u3 (fun k hk _ e => by omega)
        generalize Wire.rClose _ 93 = s4 at *
        replace u3 := u2.trans u3
        clear u2 h2
        cases s4 with
        | none =>
          go_wp2_with fail
          go_ret
          rw [Hfin.out]
          exact ⟨_, rfl, World.ownsRow_nil _ _ _ _, h3, u3⟩
        | some r4 =>
          go_wp2_with fail
          go_ret
          rw [Hfin.out]
          exact ⟨_, rfl, hown, h3, u3⟩
set_option maxHeartbeats 800000 in
theorem TextsQ (b : Nat) (st : Wire.St) (w : World) (g : Gl w) (h : Rdr tQ w b st) (hl : (st.getD []).length ≤ 1099511627776) :
    Calls Tryd.prog 39 #[.pointer (some ⟨b, 0, none⟩)] w fun e w' =>
      ∃ v, e = .returned v ∧ w'.ownsRow w.heap.size 9 1 v (Wire.rItems Wire.rText st).1.length ((Wire.rItems Wire.rText st).1.map (fun s => Value.string ⟨s.toArray⟩)) ∧ Rdr tQ w' b (Wire.rItems Wire.rText st).2 ∧ Upd (· = b) w w' := by
  have hle := Wire.rNumber_le st 91 0
  have hn0 := Wire.rNumber_least st 91 0 (Int.le_refl 0)
  have hn1 := Wire.rNumber_i64 st 91 0
  have hbl := h.lt
  go_enter Tryd.func39, Tryd.ntmps39
  go_wp2_with fail
  (with_reducible refine (numberQ b st 91 91 c91 _ h (by omega)).mono ?_)
  rintro _ w1 ⟨rfl, h1, u1⟩
  have g0 := g
  cases hq : Wire.rNumber st 91 0 with
  | mk n s1 =>
  rw [hq] at hle hn0 hn1 h1
  have Hq := Lib.hid hq; clear hq
  replace hle : (s1.getD []).length ≤ (st.getD []).length := hle
  replace hn0 : 0 ≤ n := hn0
  replace hn1 : n ≤ 9223372036854775807 := hn1.2
  replace h1 : Rdr tQ w1 b s1 := h1
  go_wp2_with fail
  go_loopw [4, 5] (fun v x wr => ∃ (i : Int) (acc : List (List UInt8)) (s2 : Wire.St), x = .int .i64 i ∧ 0 ≤ i ∧ i ≤ n ∧ Hid (Wire.rLoop Wire.rText n.toNat s1 [] = Wire.rLoop Wire.rText (n - i).toNat s2 acc) ∧
      acc.length + (s2.getD []).length ≤ (st.getD []).length + 1 ∧ (s2.isSome → acc.length + (s2.getD []).length ≤ (st.getD []).length) ∧
      wr.ownsRow w.heap.size 9 1 v acc.length (acc.map (fun s => Value.string ⟨s.toArray⟩)) ∧ Rdr tQ wr b s2 ∧ Upd (· = b) w wr) (fun _ x _ => (n - intOf x).toNat)
  case atStart => exact ⟨0, [], s1, rfl, Int.le_refl 0, hn0, by show _ = _; simp, by simp; omega, fun _ => by simpa using hle, World.ownsRow_nil _ _ _ _, h1, u1⟩
  case round =>
    obtain ⟨m, acc, s2, rfl, hm0, hm1, hL, hb1, hb2, hown, h2, u2⟩ := hrel
    have c1 := h2.c1
    have gk := g0.upd u2
    cases s2 with
    | none =>
      have hend := Lib.hid (hL.out.trans (Wire.rLoop_none _ _ _))
      have hfin := Lib.hid (Wire.rItems_end Hq.out hend.out)
      by_cases hm : m < n
      all_goals
        go_wp2_with fail
        go_ret
        rw [hfin.out]
        exact ⟨_, rfl, World.ownsRow_nil _ _ _ _, h2, u2⟩
    | some r =>
      by_cases hm : m < n
      · have hstep := Lib.hid (hL.out.trans (Wire.rLoop_step Wire.rText (show 0 < n - m by omega) r acc))
        have hcost := Wire.rText_cost (some r)
        have hrl := Wire.rText_le (some r)
        replace hb2 := hb2 rfl
        go_wp2_with fail
        (with_reducible refine (TextQ b (some r) _ h2 (by omega)).mono ?_)
        rintro _ w3 ⟨rfl, h3, u3⟩
        cases hx : Wire.rText (some r) with
        | mk x s3 =>
        rw [hx] at hcost h3 hstep
        rw [hx] at hrl
        replace hrl : (s3.getD []).length ≤ r.length := hrl
        clear hx
        replace h3 : Rdr tQ w3 b s3 := h3
        replace hcost : s3.isSome = true → (s3.getD []).length < r.length := hcost
        replace hown := owns_upd hown u3 (fun k hk _ e => by omega)
        have hz3 := (u2.trans u3).size
        have Hcost := Lib.hid hcost; clear hcost
        replace hb2 : acc.length + r.length ≤ (st.getD []).length := hb2
        go_wp2_with (at_builtin; refine wpList_app rfl _ _ 23 rfl w.heap.size 9 _ 1 16 Tryd.underlying23 infoStr rfl (by decide) _ _ _ rfl hown [Value.string ⟨x.toArray⟩] rfl rfl ?c1 ?c2 ?c3 hz3 ?_)
        case c1 => intro u hu; rw [List.mem_singleton.1 hu]; rfl
        case c2 => unfold maxLen; omega
        case c3 => omega
        intro v' w5 hown5 hnw hgr hob
        have h5 : Rdr tQ w5 b s3 := ⟨h3.1, grown_keep hgr (hnw.keep h3.2) (fun e => by have := (hob b e).1; omega)⟩
        have u5 : Upd (· = b) w w5 := ((u2.trans u3).nw hnw).grown hgr (fun k hk => ⟨Or.inr (hob k hk).1, by have := (hob k hk).1; have := g0.big; omega⟩)
        clear hgr hnw hob u3 h3
        go_wp2_with fail
        go_roundw
        case rel =>
          refine ⟨m + 1, acc ++ [x], s3, rfl, by omega, by omega, by rw [show n - (m + 1) = n - m - 1 by omega]; exact hstep.out, ?_, ?_, by simpa using hown5, h5, u5⟩
          · simp only [List.length_append, List.length_cons, List.length_nil]; omega
          · intro hs; have := Hcost.out hs; simp only [List.length_append, List.length_cons, List.length_nil]; omega
        case measure => simp [intOf]; omega
      · have hend := Lib.hid (hL.out.trans (by rw [show (n - m).toNat = 0 by omega, Wire.rLoop_zero]))
        replace hb2 := hb2 rfl
        replace hb2 : acc.length + r.length ≤ (st.getD []).length := hb2
        have Hfin := Lib.hid (Wire.rItems_end Hq.out hend.out)
        go_wp2_with fail
        (with_reducible refine (closeQ b _ 93 93 c93 _ h2 (by simp; omega)).mono ?_)
        rintro _ w3 ⟨rfl, h3, u3⟩
        replace hown := owns_upd hown u3 (fun k hk _ e => by omega)
        generalize Wire.rClose _ 93 = s4 at *
        replace u3 := u2.trans u3
        clear u2 h2
        cases s4 with
        | none =>
          go_wp2_with fail
          go_ret
          rw [Hfin.out]
          exact ⟨_, rfl, World.ownsRow_nil _ _ _ _, h3, u3⟩
        | some r4 =>
          go_wp2_with fail
          go_ret
          rw [Hfin.out]
          exact ⟨_, rfl, hown, h3, u3⟩
set_option maxHeartbeats 400000 in
theorem SameNumsQ (lo1 hi1 lo2 hi2 : Nat) (v1 v2 : Value) (l1 l2 : List Int) (w : World) (h1 : Sl lo1 hi1 w v1 (l1.map (Value.int .i64))) (h2 : Sl lo2 hi2 w v2 (l2.map (Value.int .i64))) :
    Calls Tryd.prog 36 #[v1, v2] w fun e w' => e = .returned (.bool (decide (l1 = l2))) ∧ Nw w w' := by
  obtain ⟨a1, cap1, rfl, hm1, ha1⟩ := h1.open_
  obtain ⟨a2, cap2, rfl, hm2, ha2⟩ := h2.open_
  rw [List.length_map] at hm1 hm2
  simp only [List.length_map]
  unfold maxLen at hm1 hm2
  by_cases hlen : l1.length = l2.length
  · have hb : ((l1.length : Int) != (l2.length : Int)) = false := by rw [hlen]; simp
    have Hlen := Lib.hid hlen; clear hlen
    have Ha1 := Lib.hid ha1; clear ha1
    have Ha2 := Lib.hid ha2; clear ha2
    go_enter Tryd.func36, Tryd.ntmps36
    go_wp2_with fail
    go_loopw [5] (fun i wr => ∃ k : Nat, k ≤ l1.length ∧ i = .int .i64 k ∧ Hid (l1.take k = l2.take k) ∧ Nw w wr) (fun i _ => l1.length - (intOf i).toNat)
    case atStart => exact ⟨0, Nat.zero_le _, rfl, rfl, Upd.refl _ _⟩
    case round =>
      obtain ⟨k, hk, rfl, hq, u⟩ := hrel
      by_cases hlt : k < l1.length
      · have hlt2 : k < l2.length := by rw [← Hlen.out]; exact hlt
        rcases Ha1.out with ⟨_, _, hnil⟩ | ⟨b1, o1, rfl, _, _, hb1, hc1⟩
        · rw [List.map_eq_nil_iff] at hnil; simp [hnil] at hlt
        · rcases Ha2.out with ⟨_, _, hnil⟩ | ⟨b2, o2, rfl, _, _, hb2, hc2⟩
          · rw [List.map_eq_nil_iff] at hnil; simp [hnil] at hlt2
          · have e1 : wr.cell? ⟨b1, o1 + k, none⟩ = some (.int .i64 l1[k]) := by
              rw [u.below.cell hb1, hc1 k (by simpa using hlt)]; simp [hlt]
            have e2 : wr.cell? ⟨b2, o2 + k, none⟩ = some (.int .i64 l2[k]) := by
              rw [u.below.cell hb2, hc2 k (by simpa using hlt2)]; simp [hlt2]
            have hs1 := Lib.hid (List.take_succ_eq_append_getElem hlt)
            have hs2 := Lib.hid (List.take_succ_eq_append_getElem hlt2)
            clear hc1 hc2
            have hkz : (k : Int) < (l2.length : Int) := by omega
            by_cases he : l1[k] = l2[k]
            · have hbb : (l1[k] != l2[k]) = false := by rw [he]; simp
              have He := Lib.hid he; clear he
              go_wp2_with fail
              go_quiet (fail)
              obtain ⟨w1, ew, u1⟩ := nw_drewN wr nq
              rw [ew]; clear ew
              go_wp2_with fail
              go_roundw
              case rel => exact ⟨k + 1, by omega, by go_num, by show _ = _; rw [hs1.out, hs2.out, hq.out, He.out], u.trans u1⟩
              case measure => simp [intOf]; omega
            · have hbb : (l1[k] != l2[k]) = true := by rw [bne_iff_ne]; exact he
              have hne : Hid (decide (l1 = l2) = false) := by
                refine decide_eq_false fun e => he ?_
                subst e; rfl
              have He := Lib.hid he; clear he
              go_wp2_with fail
              go_quiet (fail)
              obtain ⟨w1, ew, u1⟩ := nw_drewN wr nq
              rw [ew]; clear ew
              go_wp2_with fail
              go_ret
              rw [hne.out]
              exact ⟨rfl, u.trans u1⟩
      · have heq : Hid (decide (l1 = l2) = true) := by
          refine decide_eq_true ?_
          have := hq.out
          rwa [List.take_of_length_le (by omega), List.take_of_length_le (by rw [← Hlen.out]; omega)] at this
        go_wp2_with fail
        go_ret
        rw [heq.out]
        exact ⟨rfl, u⟩
  · have hb : ((l1.length : Int) != (l2.length : Int)) = true := by rw [bne_iff_ne]; omega
    have hne : Hid (decide (l1 = l2) = false) := decide_eq_false fun e => hlen (by rw [e])
    have Hlen := Lib.hid hlen; clear hlen
    go_enter Tryd.func36, Tryd.ntmps36
    go_wp2_with fail
    go_ret
    rw [hne.out]
    exact ⟨rfl, Upd.refl _ _⟩
set_option maxHeartbeats 400000 in
theorem SameTextsQ (lo1 hi1 lo2 hi2 : Nat) (v1 v2 : Value) (l1 l2 : List (List UInt8)) (w : World) (h1 : Sl lo1 hi1 w v1 (l1.map (fun s => Value.string ⟨s.toArray⟩))) (h2 : Sl lo2 hi2 w v2 (l2.map (fun s => Value.string ⟨s.toArray⟩))) :
    Calls Tryd.prog 38 #[v1, v2] w fun e w' => e = .returned (.bool (decide (l1 = l2))) ∧ Nw w w' := by
  obtain ⟨a1, cap1, rfl, hm1, ha1⟩ := h1.open_
  obtain ⟨a2, cap2, rfl, hm2, ha2⟩ := h2.open_
  rw [List.length_map] at hm1 hm2
  simp only [List.length_map]
  unfold maxLen at hm1 hm2
  by_cases hlen : l1.length = l2.length
  · have hb : ((l1.length : Int) != (l2.length : Int)) = false := by rw [hlen]; simp
    have Hlen := Lib.hid hlen; clear hlen
    have Ha1 := Lib.hid ha1; clear ha1
    have Ha2 := Lib.hid ha2; clear ha2
    go_enter Tryd.func38, Tryd.ntmps38
    go_wp2_with fail
    go_loopw [5] (fun i wr => ∃ k : Nat, k ≤ l1.length ∧ i = .int .i64 k ∧ Hid (l1.take k = l2.take k) ∧ Nw w wr) (fun i _ => l1.length - (intOf i).toNat)
    case atStart => exact ⟨0, Nat.zero_le _, rfl, rfl, Upd.refl _ _⟩
    case round =>
      obtain ⟨k, hk, rfl, hq, u⟩ := hrel
      by_cases hlt : k < l1.length
      · have hlt2 : k < l2.length := by rw [← Hlen.out]; exact hlt
        rcases Ha1.out with ⟨_, _, hnil⟩ | ⟨b1, o1, rfl, _, _, hb1, hc1⟩
        · rw [List.map_eq_nil_iff] at hnil; simp [hnil] at hlt
        · rcases Ha2.out with ⟨_, _, hnil⟩ | ⟨b2, o2, rfl, _, _, hb2, hc2⟩
          · rw [List.map_eq_nil_iff] at hnil; simp [hnil] at hlt2
          · have e1 : wr.cell? ⟨b1, o1 + k, none⟩ = some (.string ⟨l1[k].toArray⟩) := by
              rw [u.below.cell hb1, hc1 k (by simpa using hlt)]; simp [hlt]
            have e2 : wr.cell? ⟨b2, o2 + k, none⟩ = some (.string ⟨l2[k].toArray⟩) := by
              rw [u.below.cell hb2, hc2 k (by simpa using hlt2)]; simp [hlt2]
            have hs1 := Lib.hid (List.take_succ_eq_append_getElem hlt)
            have hs2 := Lib.hid (List.take_succ_eq_append_getElem hlt2)
            clear hc1 hc2
            have hkz : (k : Int) < (l2.length : Int) := by omega
            by_cases he : l1[k] = l2[k]
            · have hbb : (!(l1[k] == l2[k])) = false := by rw [he]; simp
              have He := Lib.hid he; clear he
              go_wp2_with fail
              go_quiet (fail)
              obtain ⟨w1, ew, u1⟩ := nw_drewN wr nq
              rw [ew]; clear ew
              go_wp2_with fail
              go_roundw
              case rel => exact ⟨k + 1, by omega, by go_num, by show _ = _; rw [hs1.out, hs2.out, hq.out, He.out], u.trans u1⟩
              case measure => simp [intOf]; omega
            · have hbb : (!(l1[k] == l2[k])) = true := by simpa using he
              have hne : Hid (decide (l1 = l2) = false) := by
                refine decide_eq_false fun e => he ?_
                subst e; rfl
              have He := Lib.hid he; clear he
              go_wp2_with fail
              go_quiet (fail)
              obtain ⟨w1, ew, u1⟩ := nw_drewN wr nq
              rw [ew]; clear ew
              go_wp2_with fail
              go_ret
              rw [hne.out]
              exact ⟨rfl, u.trans u1⟩
      · have heq : Hid (decide (l1 = l2) = true) := by
          refine decide_eq_true ?_
          have := hq.out
          rwa [List.take_of_length_le (by omega), List.take_of_length_le (by rw [← Hlen.out]; omega)] at this
        go_wp2_with fail
        go_ret
        rw [heq.out]
        exact ⟨rfl, u⟩
  · have hb : ((l1.length : Int) != (l2.length : Int)) = true := by rw [bne_iff_ne]; omega
    have hne : Hid (decide (l1 = l2) = false) := decide_eq_false fun e => hlen (by rw [e])
    have Hlen := Lib.hid hlen; clear hlen
    go_enter Tryd.func38, Tryd.ntmps38
    go_wp2_with fail
    go_ret
    rw [hne.out]
    exact ⟨rfl, Upd.refl _ _⟩
end Go.Proofs.YtiaakidglmgmpaaDoor
