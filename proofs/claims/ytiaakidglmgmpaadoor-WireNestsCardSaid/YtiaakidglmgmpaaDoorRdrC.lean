/- The contracts of the reader's methods that read lists. -/
import Derived.Test.YtiaakidglmgmpaaDoorRdrB
namespace Go.Proofs.YtiaakidglmgmpaaDoor
open Go.RowKit
set_option linter.unusedVariables false
set_option linter.unusedSimpArgs false
attribute [local irreducible] Calls

theorem infoInt : (Tryd.prog.info? 3).map (fun i => (i.zero, i.size, i.bytes)) = some (some (.int .i64 0), 1, 8) := by kernel_rfl
theorem infoStr : (Tryd.prog.info? 9).map (fun i => (i.zero, i.size, i.bytes)) = some (some (.string .empty), 1, 16) := by kernel_rfl
set_option maxHeartbeats 400000 in
theorem itemsInt_c (b : Nat) (st : Wire.St) (w : World) (g : Gl w) (h : Rdr tR w b st) (hl : (st.getD []).length ≤ 1099511627776) :
    Calls Tryd.prog 51 #[.pointer (some ⟨b, 0, none⟩), .func (.func 24) #[.pointer (some ⟨b, 0, none⟩)] #[]] w fun e w' =>
      ∃ v, e = .returned v ∧ w'.ownsRow w.heap.size 3 1 v (Wire.rItems Wire.rInt st).1.length ((Wire.rItems Wire.rInt st).1.map (Value.int .i64)) ∧ Rdr tR w' b (Wire.rItems Wire.rInt st).2 ∧ Upd (· = b) w w' := by
  have hle := Wire.rNumber_le st 91 0
  have hn0 := Wire.rNumber_least st 91 0 (Int.le_refl 0)
  have hn1 := Wire.rNumber_i64 st 91 0
  have hbl := h.lt
  go_enter Tryd.func51, Tryd.ntmps51
  go_wp2_with fail
  (with_reducible refine (number_c b st 91 91 _ c91 _ g h (by omega)).mono ?_)
  rintro _ w1 ⟨rfl, h1, u1⟩
  have g0 := g
  replace g := g.upd u1
  cases hq : Wire.rNumber st 91 0 with
  | mk n s1 =>
  rw [hq] at hle hn0 hn1 h1
  have Hq := Lib.hid hq; clear hq
  replace hle : (s1.getD []).length ≤ (st.getD []).length := hle
  replace hn0 : 0 ≤ n := hn0
  replace hn1 : n ≤ 9223372036854775807 := hn1.2
  replace h1 : Rdr tR w1 b s1 := h1
  go_wp2_with fail
  go_loopw [5, 6] (fun v x wr => ∃ (m : Int) (acc : List Int) (s2 : Wire.St), x = .int .i64 m ∧ 0 ≤ m ∧ m ≤ 9223372036854775807 ∧ Hid (Wire.rLoop Wire.rInt n.toNat s1 [] = Wire.rLoop Wire.rInt m.toNat s2 acc) ∧
      acc.length + (s2.getD []).length ≤ (st.getD []).length + 1 ∧ (s2.isSome → acc.length + (s2.getD []).length ≤ (st.getD []).length) ∧
      wr.ownsRow w.heap.size 3 1 v acc.length (acc.map (Value.int .i64)) ∧ Rdr tR wr b s2 ∧ Upd (· = b) w wr) (fun _ x _ => (intOf x).toNat)
  case atStart => exact ⟨n, [], s1, rfl, hn0, hn1, rfl, by simp; omega, fun _ => by simpa using hle, World.ownsRow_nil _ _ _ _, h1, u1⟩
  case round =>
    obtain ⟨m, acc, s2, rfl, hm0, hm1, hL, hb1, hb2, hown, h2, u2⟩ := hrel
    have c1 := h2.c1
    have gk := g0.upd u2
    by_cases hm : 0 < m
    · cases s2 with
      | none =>
        have hend := Lib.hid (hL.out.trans (Wire.rLoop_none _ _ _))
        go_wp2_with fail
        (with_reducible refine (close_c b _ 93 _ h2).mono ?_)
        rintro _ w3 ⟨rfl, h3, u3⟩
        have c3 := h3.c1
        replace hown := owns_upd hown u3 (fun k hk _ e => by omega)
        have Hfin := Lib.hid (Wire.rItems_end Hq.out hend.out)
        generalize Wire.rClose _ 93 = s4 at *
        replace u3 := u2.trans u3
        clear u2 h2
        cases s4 with
        | none =>
          go_wp2_with fail
          go_ret
          rw [Hfin.out]
          exact ⟨_, rfl, World.ownsRow_nil _ _ _ _, h3, u3⟩
        | some r4 =>
          go_wp2_with fail
          go_ret
          rw [Hfin.out]
          exact ⟨_, rfl, hown, h3, u3⟩
      | some r =>
        have hstep := Lib.hid (hL.out.trans (Wire.rLoop_step Wire.rInt hm r acc))
        have hcost := Wire.rInt_cost (some r)
        have hrl := Wire.rNumber_le (some r) 59 (-9223372036854775808)
        replace hb2 := hb2 rfl
        go_wp2_with fail
        (with_reducible refine (Int_r b (some r) _ gk h2 (by omega)).mono ?_)
        rintro _ w3 ⟨rfl, h3, u3⟩
        cases hx : Wire.rInt (some r) with
        | mk x s3 =>
        rw [hx] at hcost h3 hstep
        have hI : I64 x := by have := Wire.rNumber_i64 (some r) 59 (-9223372036854775808); rw [show Wire.rNumber (some r) 59 (-9223372036854775808) = (x, s3) from hx] at this; exact this
        replace hrl : (s3.getD []).length ≤ r.length := by rw [show Wire.rNumber (some r) 59 (-9223372036854775808) = (x, s3) from hx] at hrl; exact hrl
        clear hx
        replace h3 : Rdr tR w3 b s3 := h3
        replace hcost : s3.isSome = true → (s3.getD []).length < r.length := hcost
        replace hown := owns_upd hown u3 (fun k hk _ e => by omega)
        have hz3 := (u2.trans u3).size
        have Hcost := Lib.hid hcost; clear hcost
        replace hb2 : acc.length + r.length ≤ (st.getD []).length := hb2
        go_wp2_with (at_builtin; refine wpList_app rfl _ _ 22 rfl w.heap.size 3 _ 1 8 Tryd.underlying22 infoInt rfl (by decide) _ _ _ rfl hown [Value.int .i64 x] rfl rfl ?c1 ?c2 ?c3 hz3 ?_)
        case c1 => intro u hu; rw [List.mem_singleton.1 hu]; rfl
        case c2 => unfold maxLen; omega
        case c3 => omega
        intro v' w5 hown5 hnw hgr hob
        have h5 : Rdr tR w5 b s3 := ⟨h3.1, grown_keep hgr (hnw.keep h3.2) (fun e => by have := (hob b e).1; omega)⟩
        have u5 : Upd (· = b) w w5 := ((u2.trans u3).nw hnw).grown hgr (fun k hk => ⟨Or.inr (hob k hk).1, by have := (hob k hk).1; have := g0.big; omega⟩)
        clear hgr hnw hob u3 h3
        go_wp2_with fail
        go_roundw
        case rel =>
          refine ⟨m - 1, acc ++ [x], s3, rfl, by omega, by omega, hstep.out, ?_, ?_, by simpa using hown5, h5, u5⟩
          · simp only [List.length_append, List.length_cons, List.length_nil]; omega
          · intro hs; have := Hcost.out hs; simp only [List.length_append, List.length_cons, List.length_nil]; omega
        case measure => simp [intOf]; omega
    · have hend := Lib.hid (hL.out.trans (by rw [show m.toNat = 0 by omega, Wire.rLoop_zero]))
      go_wp2_with fail
      (with_reducible refine (close_c b _ 93 _ h2).mono ?_)
      rintro _ w3 ⟨rfl, h3, u3⟩
      have c3 := h3.c1
      replace hown := owns_upd hown u3 (fun k hk _ e => by omega)
      have Hfin := Lib.hid (Wire.rItems_end Hq.out hend.out)
      generalize Wire.rClose _ 93 = s4 at *
      replace u3 := u2.trans u3
      clear u2 h2
      cases s4 with
      | none =>
        go_wp2_with fail
        go_ret
        rw [Hfin.out]
        exact ⟨_, rfl, World.ownsRow_nil _ _ _ _, h3, u3⟩
      | some r4 =>
        go_wp2_with fail
        go_ret
        rw [Hfin.out]
        exact ⟨_, rfl, hown, h3, u3⟩
set_option maxHeartbeats 400000 in
theorem itemsStr_c (b : Nat) (st : Wire.St) (w : World) (g : Gl w) (h : Rdr tR w b st) (hl : (st.getD []).length ≤ 1099511627776) :
    Calls Tryd.prog 52 #[.pointer (some ⟨b, 0, none⟩), .func (.func 25) #[.pointer (some ⟨b, 0, none⟩)] #[]] w fun e w' =>
      ∃ v, e = .returned v ∧ w'.ownsRow w.heap.size 9 1 v (Wire.rItems Wire.rText st).1.length ((Wire.rItems Wire.rText st).1.map (fun s => Value.string ⟨s.toArray⟩)) ∧ Rdr tR w' b (Wire.rItems Wire.rText st).2 ∧ Upd (· = b) w w' := by
  have hle := Wire.rNumber_le st 91 0
  have hn0 := Wire.rNumber_least st 91 0 (Int.le_refl 0)
  have hn1 := Wire.rNumber_i64 st 91 0
  have hbl := h.lt
  go_enter Tryd.func52, Tryd.ntmps52
  go_wp2_with fail
  (with_reducible refine (number_c b st 91 91 _ c91 _ g h (by omega)).mono ?_)
  rintro _ w1 ⟨rfl, h1, u1⟩
  have g0 := g
  replace g := g.upd u1
  cases hq : Wire.rNumber st 91 0 with
  | mk n s1 =>
  rw [hq] at hle hn0 hn1 h1
  have Hq := Lib.hid hq; clear hq
  replace hle : (s1.getD []).length ≤ (st.getD []).length := hle
  replace hn0 : 0 ≤ n := hn0
  replace hn1 : n ≤ 9223372036854775807 := hn1.2
  replace h1 : Rdr tR w1 b s1 := h1
  go_wp2_with fail
  go_loopw [5, 6] (fun v x wr => ∃ (m : Int) (acc : List (List UInt8)) (s2 : Wire.St), x = .int .i64 m ∧ 0 ≤ m ∧ m ≤ 9223372036854775807 ∧ Hid (Wire.rLoop Wire.rText n.toNat s1 [] = Wire.rLoop Wire.rText m.toNat s2 acc) ∧
      acc.length + (s2.getD []).length ≤ (st.getD []).length + 1 ∧ (s2.isSome → acc.length + (s2.getD []).length ≤ (st.getD []).length) ∧
      wr.ownsRow w.heap.size 9 1 v acc.length (acc.map (fun s => Value.string ⟨s.toArray⟩)) ∧ Rdr tR wr b s2 ∧ Upd (· = b) w wr) (fun _ x _ => (intOf x).toNat)
  case atStart => exact ⟨n, [], s1, rfl, hn0, hn1, rfl, by simp; omega, fun _ => by simpa using hle, World.ownsRow_nil _ _ _ _, h1, u1⟩
  case round =>
    obtain ⟨m, acc, s2, rfl, hm0, hm1, hL, hb1, hb2, hown, h2, u2⟩ := hrel
    have c1 := h2.c1
    have gk := g0.upd u2
    by_cases hm : 0 < m
    · cases s2 with
      | none =>
        have hend := Lib.hid (hL.out.trans (Wire.rLoop_none _ _ _))
        go_wp2_with fail
        (with_reducible refine (close_c b _ 93 _ h2).mono ?_)
        rintro _ w3 ⟨rfl, h3, u3⟩
        have c3 := h3.c1
        replace hown := owns_upd hown u3 (fun k hk _ e => by omega)
        have Hfin := Lib.hid (Wire.rItems_end Hq.out hend.out)
        generalize Wire.rClose _ 93 = s4 at *
        replace u3 := u2.trans u3
        clear u2 h2
        cases s4 with
        | none =>
          go_wp2_with fail
          go_ret
          rw [Hfin.out]
          exact ⟨_, rfl, World.ownsRow_nil _ _ _ _, h3, u3⟩
        | some r4 =>
          go_wp2_with fail
          go_ret
          rw [Hfin.out]
          exact ⟨_, rfl, hown, h3, u3⟩
      | some r =>
        have hstep := Lib.hid (hL.out.trans (Wire.rLoop_step Wire.rText hm r acc))
        have hcost := Wire.rText_cost (some r)
        have hrl := Wire.rText_le (some r)
        replace hb2 := hb2 rfl
        go_wp2_with fail
        (with_reducible refine (Text_r b (some r) _ gk h2 (by omega)).mono ?_)
        rintro _ w3 ⟨rfl, h3, u3⟩
        cases hx : Wire.rText (some r) with
        | mk x s3 =>
        rw [hx] at hcost h3 hstep
        rw [hx] at hrl
        replace hrl : (s3.getD []).length ≤ r.length := hrl
        clear hx
        replace h3 : Rdr tR w3 b s3 := h3
        replace hcost : s3.isSome = true → (s3.getD []).length < r.length := hcost
        replace hown := owns_upd hown u3 (fun k hk _ e => by omega)
        have hz3 := (u2.trans u3).size
        have Hcost := Lib.hid hcost; clear hcost
        replace hb2 : acc.length + r.length ≤ (st.getD []).length := hb2
        go_wp2_with (at_builtin; refine wpList_app rfl _ _ 23 rfl w.heap.size 9 _ 1 16 Tryd.underlying23 infoStr rfl (by decide) _ _ _ rfl hown [Value.string ⟨x.toArray⟩] rfl rfl ?c1 ?c2 ?c3 hz3 ?_)
        case c1 => intro u hu; rw [List.mem_singleton.1 hu]; rfl
        case c2 => unfold maxLen; omega
        case c3 => omega
        intro v' w5 hown5 hnw hgr hob
        have h5 : Rdr tR w5 b s3 := ⟨h3.1, grown_keep hgr (hnw.keep h3.2) (fun e => by have := (hob b e).1; omega)⟩
        have u5 : Upd (· = b) w w5 := ((u2.trans u3).nw hnw).grown hgr (fun k hk => ⟨Or.inr (hob k hk).1, by have := (hob k hk).1; have := g0.big; omega⟩)
        clear hgr hnw hob u3 h3
        go_wp2_with fail
        go_roundw
        case rel =>
          refine ⟨m - 1, acc ++ [x], s3, rfl, by omega, by omega, hstep.out, ?_, ?_, by simpa using hown5, h5, u5⟩
          · simp only [List.length_append, List.length_cons, List.length_nil]; omega
          · intro hs; have := Hcost.out hs; simp only [List.length_append, List.length_cons, List.length_nil]; omega
        case measure => simp [intOf]; omega
    · have hend := Lib.hid (hL.out.trans (by rw [show m.toNat = 0 by omega, Wire.rLoop_zero]))
      go_wp2_with fail
      (with_reducible refine (close_c b _ 93 _ h2).mono ?_)
      rintro _ w3 ⟨rfl, h3, u3⟩
      have c3 := h3.c1
      replace hown := owns_upd hown u3 (fun k hk _ e => by omega)
      have Hfin := Lib.hid (Wire.rItems_end Hq.out hend.out)
      generalize Wire.rClose _ 93 = s4 at *
      replace u3 := u2.trans u3
      clear u2 h2
      cases s4 with
      | none =>
        go_wp2_with fail
        go_ret
        rw [Hfin.out]
        exact ⟨_, rfl, World.ownsRow_nil _ _ _ _, h3, u3⟩
      | some r4 =>
        go_wp2_with fail
        go_ret
        rw [Hfin.out]
        exact ⟨_, rfl, hown, h3, u3⟩
theorem Nums_r (b : Nat) (st : Wire.St) (w : World) (g : Gl w) (h : Rdr tR w b st) (hl : (st.getD []).length ≤ 1099511627776) :
    Calls Tryd.prog 26 #[.pointer (some ⟨b, 0, none⟩)] w fun e w' =>
      ∃ v, e = .returned v ∧ w'.ownsRow w.heap.size 3 1 v (Wire.rNums st).1.length ((Wire.rNums st).1.map (Value.int .i64)) ∧ Rdr tR w' b (Wire.rNums st).2 ∧ Upd (· = b) w w' := by
  go_enter Tryd.func26, Tryd.ntmps26
  go_wp2_with fail
  (with_reducible refine (itemsInt_c b st _ g h hl).mono ?_)
  rintro _ w1 ⟨v, rfl, h1, h2, u1⟩
  go_wp2_with fail
  go_ret
  exact ⟨v, rfl, h1, h2, u1⟩
theorem Texts_r (b : Nat) (st : Wire.St) (w : World) (g : Gl w) (h : Rdr tR w b st) (hl : (st.getD []).length ≤ 1099511627776) :
    Calls Tryd.prog 27 #[.pointer (some ⟨b, 0, none⟩)] w fun e w' =>
      ∃ v, e = .returned v ∧ w'.ownsRow w.heap.size 9 1 v (Wire.rTexts st).1.length ((Wire.rTexts st).1.map (fun s => Value.string ⟨s.toArray⟩)) ∧ Rdr tR w' b (Wire.rTexts st).2 ∧ Upd (· = b) w w' := by
  go_enter Tryd.func27, Tryd.ntmps27
  go_wp2_with fail
  (with_reducible refine (itemsStr_c b st _ g h hl).mono ?_)
  rintro _ w1 ⟨v, rfl, h1, h2, u1⟩
  go_wp2_with fail
  go_ret
  exact ⟨v, rfl, h1, h2, u1⟩
end Go.Proofs.YtiaakidglmgmpaaDoor
