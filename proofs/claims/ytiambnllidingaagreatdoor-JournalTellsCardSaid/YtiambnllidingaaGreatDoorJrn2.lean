/- The contract of the journal's read. -/
import Derived.Test.YtiambnllidingaaGreatDoorJrn1
import Derived.WalkMore
namespace Go.Proofs.YtiambnllidingaaGreatDoor
open Go.RowKit
set_option linter.unusedVariables false
set_option linter.unusedSimpArgs false
attribute [local irreducible] Calls

abbrev tStrJ : TypeId := 9
theorem infoStrJ : (Tryz.prog.info? tStrJ).map (fun i => (i.zero, i.size, i.bytes)) = some (some (.string ⟨#[]⟩), 1, 16) := by kernel_rfl
theorem rText_fst (st : Wire.St) : (Wire.rText st).1.length ≤ (st.getD []).length := by
  cases h : (Wire.rText st).2 with
  | none => rw [Wire.rText_fail h]; simp
  | some r' =>
    cases st with
    | none => simp [Wire.rText, Wire.rNumber] at h
    | some r =>
      have := Wire.rText_inv (r := r) (r' := r') (t := (Wire.rText (some r)).1) (by rw [← h])
      have e := congrArg List.length this
      simp only [List.length_append, Wire.textE, List.length_cons] at e
      simp only [Option.getD_some]
      omega
/-- What has been read so far. -/
def ReadI (s : List UInt8) (w wr : World) (lv : Value) (n : Nat) : Prop :=
  ∃ R rest, s = Jr.forms R ++ rest ∧ Jr.recs s = R ++ Jr.recs rest ∧ n = (Jr.forms R).length ∧ wr.ownsRow w.heap.size tStrJ 1 lv R.length (R.map bsV) ∧ Nw w wr
/-- What read answers. -/
def ReadDone (s : List UInt8) (w wr : World) (lv : Value) (n : Nat) : Prop :=
  n = (Jr.forms (Jr.recs s)).length ∧ wr.ownsRow w.heap.size tStrJ 1 lv (Jr.recs s).length ((Jr.recs s).map bsV) ∧ Nw w wr
theorem ReadI.done {s : List UInt8} {w wr : World} {lv : Value} {n : Nat} {R : List (List UInt8)} {rest : List UInt8} (e1 : s = Jr.forms R ++ rest) (e2 : Jr.recs s = R ++ Jr.recs rest) (e3 : n = (Jr.forms R).length) (e4 : wr.ownsRow w.heap.size tStrJ 1 lv R.length (R.map bsV)) (e5 : Nw w wr)
    (h : Jr.one rest = none) {wz : World} (u : Nw wr wz) : ReadDone s w wz lv n := by
  rw [Jr.recs_none h, List.append_nil] at e2
  unfold ReadDone
  rw [e2]
  exact ⟨e3, owns_updD e4 u (fun _ _ e => e), e5.trans u⟩
theorem one_far {rest : List UInt8} (h : 20000 < (Wire.rText (some rest)).1.length) : Jr.one rest = none := by
  unfold Jr.one; rw [if_neg (by omega)]
theorem one_num {rest : List UInt8} (h : ¬ (Wire.rNum (Wire.rText (some rest)).2).1 = Jr.sumN (Wire.rText (some rest)).1) : Jr.one rest = none := by
  unfold Jr.one; rw [if_neg (fun e => h e.2.2)]
theorem one_is {rest t : List UInt8} (h : Jr.one rest = some t) : t = (Wire.rText (some rest)).1 := by
  unfold Jr.one at h
  split at h
  · injection h with h; exact h.symm
  · cases h
theorem one_short {rest : List UInt8} (h : rest.length < (Jr.form (Wire.rText (some rest)).1).length) : Jr.one rest = none := by
  cases ho : Jr.one rest with
  | none => rfl
  | some t =>
    obtain ⟨r, e, _⟩ := Jr.one_inv ho
    rw [← one_is ho, e, List.length_append] at h
    omega
theorem one_other {rest : List UInt8} (h : ¬ rest.take (Jr.form (Wire.rText (some rest)).1).length = Jr.form (Wire.rText (some rest)).1) : Jr.one rest = none := by
  cases ho : Jr.one rest with
  | none => rfl
  | some t =>
    obtain ⟨r, e, _⟩ := Jr.one_inv ho
    refine absurd ?_ h
    rw [← one_is ho, e, List.take_left']
    rfl
set_option maxHeartbeats 1000000 in
set_option maxRecDepth 100000 in
theorem read_j (s : List UInt8) (hs : s.length ≤ 16777216) (w : World) (g : Gl w) :
    Calls Tryz.prog 58 #[.string ⟨s.toArray⟩] w fun e w' => ∃ v', e = .returned (.tuple #[v', .int .i64 (Jr.forms (Jr.recs s)).length]) ∧ w'.ownsRow w.heap.size tStrJ 1 v' (Jr.recs s).length ((Jr.recs s).map bsV) ∧ Nw w w' := by
  have hgb := g.big
  have hs1 : (s.length : Int) ≤ 16777216 := by omega
  have hs0 : (0 : Int) ≤ s.length := by omega
  have HS := Lib.hid hs
  clear hs
  have h0 : Hid (ReadI s w w (.slice none 0 0) 0) := ⟨[], s, rfl, rfl, rfl, World.ownsRow_nil _ _ _ _, Upd.refl _ _⟩
  go_enter Tryz.func58, Tryz.ntmps58
  go_wp2_with fail
  go_step3
  go_wp2_with fail
  go_step3
  go_wp2_with fail
  go_loopw [4, 5] (fun lv bv wr => ∃ n : Nat, bv = .int .i64 n ∧ Hid (ReadI s w wr lv n)) (fun _ bv _ => s.length - (intOf bv).toNat)
  case atStart => exact ⟨0, rfl, h0.out⟩
  case round =>
    obtain ⟨n, rfl, HI⟩ := hrel
    obtain ⟨R, rest, e1, e2, e3, e4, e5⟩ := HI.out
    have hnl : n + rest.length = s.length := by rw [e3, e1, List.length_append]
    obtain ⟨al, cl, rfl⟩ := own_slD e4
    have hR := Jr.len_forms R
    have hRl : R.length ≤ 16777216 := by have := HS.out; omega
    have HRl := Lib.hid hRl
    have Hown := Lib.hid e4
    have HU := Lib.hid e5
    have E1 := Lib.hid e1
    have E2 := Lib.hid e2
    have E3 := Lib.hid e3
    have Hnl := Lib.hid hnl
    clear hR hRl e4 e5 e2 e3
    by_cases hlt : n < s.length
    rotate_left
    · have hz : Hid (ReadDone s w wr (.slice al R.length cl) n) := by
        have hr : rest = [] := List.length_eq_zero_iff.1 (by omega)
        exact ReadI.done E1.out E2.out E3.out Hown.out HU.out (by rw [hr]; exact Jr.one_nil) (Upd.refl _ _)
      clear HI Hown E1 E2 E3 e1 Hnl
      go_wp2_with fail
      (try rw [Exit.noGoto_ret])
      go_ret2
      exact ⟨_, by rw [hz.out.1]; rfl, hz.out.2.1, hz.out.2.2⟩
    have hdrop : s.drop n = rest := by rw [e1, E3.out, List.drop_left]
    have gr := g.upd HU.out
    clear e1
    have hsl : Hid ((({ data := s.toArray } : ByteArray).extract n s.length).data.toList = rest) := by
      show _ = _
      rw [bs_extract, bs_list, ← hdrop, ← Hnl.out]
      exact List.take_of_length_le (by rw [hdrop]; omega)
    have hop := Open_r _ rest hsl.out wr gr
    have hrl : rest.length ≤ 16777216 := by have := HS.out; omega
    have Hop := Lib.hid hop
    have Hrl := Lib.hid hrl
    clear hdrop hop hrl hsl
    go_wp2_with fail
    (with_reducible refine (Hop.out).mono ?_)
    rintro _ w1 ⟨b, rfl, hb, hr1, n1⟩
    have g1 := gr.upd n1
    have Hb := Lib.hid hb
    clear hb Hop
    go_wp2_with fail
    (with_reducible refine (Text_r b (some rest) w1 g1 hr1 (by have := Hrl.out; simp only [Option.getD_some]; omega)).mono ?_)
    rintro _ w2 ⟨rfl, hr2, u2⟩
    have g2 := g1.upd u2
    have htl := rText_fst (some rest)
    have hst := Wire.rText_le (some rest)
    simp only [Option.getD_some] at htl hst
    have Hst := Lib.hid hst
    clear hst hr1
    go_wp2_with fail
    (with_reducible refine (Num_r b _ w2 g2 hr2 (by have := Hst.out; have := Hrl.out; omega)).mono ?_)
    rintro _ w3 ⟨rfl, _, u3⟩
    have g3 := g2.upd u3
    have hone : ∀ t nn : _, t = (Wire.rText (some rest)).1 → nn = (Wire.rNum (Wire.rText (some rest)).2).1 → (20000 < t.length → Jr.one rest = none) ∧ (¬ nn = Jr.sumN t → Jr.one rest = none) ∧ (rest.length < (Jr.form t).length → Jr.one rest = none) ∧ (¬ rest.take (Jr.form t).length = Jr.form t → Jr.one rest = none) := by
      rintro t nn rfl rfl
      exact ⟨one_far, one_num, one_short, one_other⟩
    have hone2 := Lib.hid (hone _ _ rfl rfl)
    have Htl := Lib.hid htl
    clear hone htl Hst hr2
    generalize (Wire.rNum (Wire.rText (some rest)).2).1 = nn at *
    generalize (Wire.rText (some rest)).1 = t at *
    have hfc := form_c t (by have := Htl.out; have := Hrl.out; omega) w3 g3
    have Hfc := Lib.hid hfc
    have Hfp := Lib.hid (Jr.form_pos t)
    have hfl := Jr.form_len t (by have := Htl.out; have := Hrl.out; omega)
    have U3 : Hid (Nw wr w3) := (n1.trans' u2 (fun j hj e => by subst e; have := Hb.out; omega)).trans' u3 (fun j hj e => by subst e; have := Hb.out; omega)
    have hfl1 : ((Jr.form t).length : Int) ≤ 16777300 := by have := Htl.out; have := Hrl.out; omega
    have hfl0 : (0 : Int) ≤ (Jr.form t).length := by omega
    clear hfc n1 u2 u3 hfl
    go_wp2_with fail
    (with_reducible refine (Hfc.out).mono ?_)
    rintro _ w4 ⟨rfl, u4⟩
    have U4 := Lib.hid (U3.out.trans u4)
    have hdone : Hid (Jr.one rest = none → Hid (ReadDone s w w4 (.slice al R.length cl) n)) := fun h => ReadI.done E1.out E2.out E3.out Hown.out HU.out h U4.out
    have hsum := Lib.hid (Sum_c t (by have := Htl.out; have := Hrl.out; omega))
    have ht1 : (t.length : Int) ≤ 16777216 := by have := Htl.out; have := Hrl.out; omega
    clear u4 Hfc
    by_cases hf1 : 20000 < t.length
    · have hf1' : (20000 : Int) < t.length := by omega
      have hz := hdone.out (hone2.out.1 hf1)
      clear hdone
      go_wp2_with fail
      (try rw [Exit.noGoto_ret])
      go_ret2
      exact ⟨_, by rw [hz.out.1]; rfl, hz.out.2.1, hz.out.2.2⟩
    have hf1' : ¬ (20000 : Int) < t.length := by omega
    have Hf1 := Lib.hid hf1
    clear hf1
    by_cases hf2 : nn = Jr.sumN t
    rotate_left
    · have hb1 : (nn == Jr.sumN t) = false := beq_eq_false_iff_ne.2 hf2
      have hb2 : (nn != Jr.sumN t) = true := by simp [hf2]
      have hz := hdone.out (hone2.out.2.1 hf2)
      clear hdone
      go_wp2_with fail
      (with_reducible refine (hsum.out _).mono ?_)
      rintro _ _ ⟨rfl, rfl⟩
      go_wp2_with fail
      (try rw [Exit.noGoto_ret])
      go_ret2
      exact ⟨_, by rw [hz.out.1]; rfl, hz.out.2.1, hz.out.2.2⟩
    have hb1 : (nn == Jr.sumN t) = true := beq_iff_eq.2 hf2
    have hb2 : (nn != Jr.sumN t) = false := by simp [hf2]
    clear hf2
    by_cases hf3 : rest.length < (Jr.form t).length
    · have h3 : (s.length : Int) - n < (Jr.form t).length := by have := Hnl.out; omega
      have hz := hdone.out (hone2.out.2.2.1 hf3)
      clear hdone hf3
      go_wp2_with fail
      (with_reducible refine (hsum.out _).mono ?_)
      rintro _ _ ⟨rfl, rfl⟩
      go_wp2_with fail
      (try rw [Exit.noGoto_ret])
      go_ret2
      exact ⟨_, by rw [hz.out.1]; rfl, hz.out.2.1, hz.out.2.2⟩
    have h3 : ¬ (s.length : Int) - n < (Jr.form t).length := by have := Hnl.out; omega
    have h4 : (n : Int) + (Jr.form t).length ≤ s.length := by have := Hnl.out; omega
    have h5 : n + (Jr.form t).length ≤ s.length := by have := Hnl.out; omega
    have hext : (({ data := s.toArray } : ByteArray).extract n (n + (Jr.form t).length)).data.toList = rest.take (Jr.form t).length := by
      rw [bs_extract, bs_list, E1.out, E3.out, List.drop_left, Nat.add_sub_cancel_left]
    have hj0 : (0 : Int) ≤ (n : Int) + (Jr.form t).length := by omega
    have htn : ((n : Int) + (Jr.form t).length).toNat = n + (Jr.form t).length := by omega
    have hsl2 : ∀ z : World, (Instr.slice 9 (.string ⟨s.toArray⟩) (some (.int .i64 n)) (some (.int .i64 ((n : Int) + (Jr.form t).length))) none).run Tryz.prog z = .ok (.string ⟨(rest.take (Jr.form t).length).toArray⟩) z := fun z => by
      have := run_slice_string (P := Tryz.prog) z 9 ⟨s.toArray⟩ .i64 .i64 (n : Int) ((n : Int) + (Jr.form t).length) Tryz.underlying9 (by omega) (by omega) (by rw [bs_size, bs_list]; exact h4)
      rw [htn, Int.toNat_natCast, ← bs_eta ((⟨s.toArray⟩ : ByteArray).extract n (n + (Jr.form t).length)), hext] at this
      exact this
    clear hf3 hj0 htn hext
    by_cases hf4 : rest.take (Jr.form t).length = Jr.form t
    rotate_left
    · have hz := hdone.out (hone2.out.2.2.2 hf4)
      have hq : (rest.take (Jr.form t).length == Jr.form t) = false := beq_eq_false_iff_ne.2 hf4
      generalize rest.take (Jr.form t).length = X at *
      clear hdone
      go_wp2_with fail
      (with_reducible refine (hsum.out _).mono ?_)
      rintro _ _ ⟨rfl, rfl⟩
      go_wp2_with fail
      (try rw [Exit.noGoto_ret])
      go_ret2
      exact ⟨_, by rw [hz.out.1]; rfl, hz.out.2.1, hz.out.2.2⟩
    rw [hf4] at hsl2
    have hrest : rest = Jr.form t ++ rest.drop (Jr.form t).length := by
      conv => lhs; rw [← List.take_append_drop (Jr.form t).length rest, hf4]
    have ho4 := Lib.hid (owns_updD Hown.out U4.out (fun _ _ e => e))
    have hnext : Hid (∀ v' w5, w5.ownsRow w.heap.size tStrJ 1 v' (R.length + 1) (R.map bsV ++ [bsV t]) → Nw w w5 → ReadI s w w5 v' (n + (Jr.form t).length)) := fun v' w5 o5 u5 => by
      refine ⟨R ++ [t], rest.drop (Jr.form t).length, ?_, ?_, ?_, ?_, u5⟩
      · rw [Jr.forms_snoc, List.append_assoc, ← hrest]; exact E1.out
      · rw [E2.out, List.append_assoc, hrest, Jr.recs_form (by have := Hf1.out; omega)]
        simp
      · rw [Jr.forms_snoc, List.length_append, ← E3.out]
      · rw [List.length_append, List.map_append]; exact o5
    have hW : w.heap.size ≤ w4.heap.size := Nat.le_trans HU.out.size U4.out.size
    have HWn := Lib.hid (HU.out.trans U4.out)
    clear hf4 hrest hdone
    go_wp2_with (first | (go_at_call 13; ((with_reducible refine (hsum.out _).mono ?_); rintro _ _ ⟨rfl, rfl⟩)) | (at_builtin; refine wpList_appL rfl _ _ 46 rfl w.heap.size tStrJ _ 1 16 Tryz.underlying46 infoStrJ rfl (by decide) _ _ _ rfl ho4.out [bsV t] rfl rfl ?c1 ?c2 ?c3 hW hgb ?_))
    case c1 => intro u hu; rw [List.mem_singleton.1 hu]; rfl
    case c2 => have := HRl.out; unfold maxLen; omega
    case c3 => have := HRl.out; omega
    intro v' w5 o5 u5 hob
    have hn5 := Lib.hid (hnext.out v' w5 o5 (HWn.out.trans' u5 (fun j hj e => by have := (ho4.out.lt j e).1; omega)))
    clear o5 u5 hob
    go_wp2_with fail
    go_roundw
    case rel => exact ⟨n + (Jr.form t).length, by go_num, hn5.out⟩
    case measure => have := Hfp.out; simp [intOf]; omega
end Go.Proofs.YtiambnllidingaaGreatDoor
