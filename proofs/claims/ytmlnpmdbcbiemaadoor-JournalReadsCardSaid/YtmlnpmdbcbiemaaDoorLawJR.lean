/- The walk of the statement JournalReads. -/
import Derived.Test.YtmlnpmdbcbiemaaDoorLawJ1
import Derived.Test.YtmlnpmdbcbiemaaDoorJrnRd
namespace Go.Proofs.YtmlnpmdbcbiemaaDoor
open Go.RowKit
set_option linter.unusedVariables false
set_option linter.unusedSimpArgs false
attribute [local irreducible] Calls

/-- What the law's loop has read. -/
def RdI (s : List UInt8) (b : Nat) (z0 z : World) (lv : Value) (n : Nat) : Prop :=
  ∃ R rest, s = Jr.forms R ++ rest ∧ Jr.recs s = R ++ Jr.recs rest ∧ n = (Jr.forms R).length ∧ z.ownsRow z0.heap.size tStrJ 1 lv R.length (R.map bsV) ∧ Nw z0 z ∧ Rdr tR z b (some rest)
/-- What it has read in the end. -/
def RdE (s : List UInt8) (z0 z : World) (lv : Value) (n : Nat) : Prop :=
  n = (Jr.forms (Jr.recs s)).length ∧ z.ownsRow z0.heap.size tStrJ 1 lv (Jr.recs s).length ((Jr.recs s).map bsV) ∧ Nw z0 z
theorem rdr_own {b B : Nat} {z : World} {st : Wire.St} {v : Value} {n : Nat} {xs : List Value} (h : Rdr tR z b st) (ho : z.ownsRow B tStrJ 1 v n xs) : v.ownBlock ≠ some b := fun e => by
  obtain ⟨_, cs, e2⟩ := own_blockD ho e
  rw [h.2] at e2
  injection e2 with e2
  injection e2 with _ e2
  exact absurd e2 (by decide)
/-- 's[:n]', where what is wanted is a beginning of s. -/
theorem slice_pre (s X : List UInt8) (z : World) (h : X <+: s) : (Instr.slice 9 (.string ⟨s.toArray⟩) none (some (.int .i64 (X.length : Nat))) none).run Tryd.prog z = .ok (.string ⟨X.toArray⟩) z := by
  have := run_slice_string_h (P := Tryd.prog) z 9 ⟨s.toArray⟩ Tryd.underlying9 .i64 (X.length : Nat) (by omega) (by rw [bs_size, bs_list]; have := h.length_le; omega)
  rw [this]
  refine congrArg (fun y => Result.ok (Value.string y) z) ?_
  rw [Int.toNat_natCast, ← bs_eta ((⟨s.toArray⟩ : ByteArray).extract 0 X.length), bs_extract]
  obtain ⟨r, e⟩ := h
  rw [List.drop_zero, Nat.sub_zero, ← e, List.take_left, bs_list]
set_option maxHeartbeats 2000000 in
set_option maxRecDepth 100000 in
theorem journalReads_c (s : List UInt8) (w : World) (g : Gl w) : Calls Tryd.prog 4 #[.string ⟨s.toArray⟩] w fun e w' => e = .returned (.bool true) ∧ Nw w w' := by
  have hs := Lib.hid (small_c w g)
  by_cases h300 : 300 < s.length
  · have h3' : (300 : Int) < s.length := by omega
    clear h300
    go_enter Tryd.func4, Tryd.ntmps4
    go_wp2_with fail
    (with_reducible refine (hs.out).mono ?_)
    rintro _ w1 ⟨rfl, u1⟩
    go_wp2_with fail
    go_ret
    exact ⟨rfl, u1⟩
  have h3' : ¬ (300 : Int) < s.length := by omega
  have hs0 : (0 : Int) ≤ s.length := by omega
  have H300 := Lib.hid h300
  clear h300
  go_enter Tryd.func4, Tryd.ntmps4
  go_wp2_with fail
  (with_reducible refine (hs.out).mono ?_)
  rintro _ w1 ⟨rfl, u1⟩
  have g1 := g.upd u1
  have hn := Lib.hid (new_t w1 g1)
  have U1 := Lib.hid u1
  clear hs u1
  go_wp2_with fail
  (with_reducible refine (hn.out).mono ?_)
  rintro _ w2 ⟨db, rfl, s2⟩
  obtain ⟨e1, e2, e3, _⟩ := Jr.calm_new.write (f := 7) (n := 0) (s := s) (by omega) (by have := H300.out; omega)
  have hw := write_t s2 g1 (f := 7) (i := ((0 : Nat) : Int)) (I64_s (by decide)) (I64_s (by decide)) s (by have := H300.out; omega)
  rw [e1] at hw
  have e3' : ((Dk.write Dk.new 7 ((0 : Nat) : Int) s).1.fs 7).now = s := e3.trans (Jr.put_nil s)
  generalize (Dk.write Dk.new 7 ((0 : Nat) : Int) s).1 = D1 at *
  have Hw : Hid (Calls Tryd.prog 14 #[.pointer (some ⟨db, 0, none⟩), .int .i64 7, .int .i64 0, .string ⟨s.toArray⟩] w2 _) := hw
  obtain ⟨D2, o1, o2, o3⟩ := e2.open_ (f := 7) (by omega)
  rw [e3'] at o1 o3
  obtain ⟨D3, p1, p2, p3⟩ := o2.open_ (f := 7) (by omega)
  rw [o3, Jr.recs_again] at p1 p3
  have hr2 := read_all (o2.may (f := 7) (by omega))
  have hr3 := read_all (p2.may (f := 7) (by omega))
  rw [o3] at hr2
  rw [p3] at hr3
  have hsz2 : Dk.size D2 7 = ((Jr.forms (Jr.recs s)).length : Nat) := by unfold Dk.size; rw [o3]
  have hsz3 : Dk.size D3 7 = ((Jr.forms (Jr.recs s)).length : Nat) := by unfold Dk.size; rw [p3]
  rw [hsz2] at hr2
  rw [hsz3] at hr3
  have HO := Lib.hid o1
  have HP := Lib.hid p1
  have HR := Lib.hid (And.intro hr2 hr3)
  have HZ := Lib.hid (And.intro hsz2 hsz3)
  clear hw e1 e2 e3 e3' o1 o2 o3 p1 p2 p3 hr2 hr3 hsz2 hsz3 hn
  go_wp2_with fail
  (with_reducible refine (Hw.out).mono ?_)
  rintro _ w3 ⟨rfl, s3, _⟩
  have ho := open_t s3 g1 (f := 7) (I64_s (by decide))
  rw [HO.out] at ho
  have Ho := Lib.hid ho
  clear ho Hw
  go_wp2_with fail
  (with_reducible refine (Ho.out).mono ?_)
  rintro _ w4 ⟨pv, rfl, o4, _⟩
  obtain ⟨jb, rfl, s4⟩ := o4.some_
  have ha := Lib.hid (all_t s4 g1)
  clear Ho o4
  go_wp2_with fail
  (with_reducible refine (ha.out).mono ?_)
  rintro _ w5 ⟨vg, rfl, og, u5⟩
  have S5 := Lib.hid (s4.keep (F' := fun k => vg.ownBlock = some k) u5 (fun k hk => Or.inr (by obtain ⟨a, cs, b⟩ := own_blockD og hk; exact ⟨a, lt_of_block b⟩)))
  have g5 := g1.upd S5.out.nw0
  have OG := Lib.hid og
  obtain ⟨ag, cg, rfl⟩ := own_slD og
  have hop := Lib.hid (Open_r ⟨s.toArray⟩ s (bs_list s) w5 g5)
  clear ha s4 s3 s2 u5 og
  go_wp2_with fail
  (with_reducible refine (hop.out).mono ?_)
  rintro _ w6 ⟨b, rfl, hb, hr6, n6⟩
  have g6 := g5.upd n6
  have Hb := Lib.hid hb
  have HI0 : Hid (RdI s b w5 w6 (.slice none 0 0) 0) := ⟨[], s, rfl, rfl, rfl, World.ownsRow_nil _ _ _ _, n6, hr6⟩
  have hg5 : nG ≤ w5.heap.size := g5.big
  clear hop hb hr6 n6
  go_wp2_with fail
  go_loopw [9, 10] (fun lv bv wr => ∃ n : Nat, bv = .int .i64 n ∧ Hid (RdI s b w5 wr lv n)) (fun _ bv _ => s.length - (intOf bv).toNat)
  case atStart => exact ⟨0, rfl, HI0.out⟩
  case round =>
    obtain ⟨n, rfl, HI⟩ := hrel
    obtain ⟨R, rest, e1, e2, e3, e4, e5, e6⟩ := HI.out
    have hnl : n + rest.length = s.length := by rw [e3, e1, List.length_append]
    obtain ⟨al, cl, rfl⟩ := own_slD e4
    have hR := Jr.len_forms R
    have hRl : R.length ≤ 300 := by have := H300.out; omega
    have HRl := Lib.hid hRl
    have Hown := Lib.hid e4
    have HU := Lib.hid e5
    have E1 := Lib.hid e1
    have E2 := Lib.hid e2
    have E3 := Lib.hid e3
    have H6 := Lib.hid e6
    have Hnl := Lib.hid hnl
    have gr := g5.upd HU.out
    have hl := Lib.hid (Left_r tR b (some rest) wr e6)
    have hXl : Hid ((Jr.forms (Jr.recs s)).length ≤ 300) := by show _ ≤ _; have := Jr.recs_len s; have := H300.out; omega
    have hend : Hid (Jr.one rest = none → ∀ wz, Nw wr wz ∨ Upd (fun k => k = b) wr wz → RdE s w5 wz (.slice al R.length cl) n) := fun h wz u => by
      have er := E2.out
      rw [Jr.recs_none h, List.append_nil] at er
      have hu : Upd (fun k => k = b) wr wz := u.elim (fun u => Nw.upd _ u) id
      refine ⟨by rw [er]; exact E3.out, ?_, HU.out.trans' hu (fun k hk e => by subst e; have := Hb.out; omega)⟩
      rw [er]
      exact owns_updD Hown.out hu (fun k hk e => by subst e; exact rdr_own H6.out Hown.out hk)
    clear hR hRl e1 e2 e3 e4 e5 e6
    by_cases hrest : rest = []
    · have hz : Hid (RdE s w5 wr (.slice al R.length cl) n) := hend.out (by rw [hrest]; exact Jr.one_nil) wr (Or.inl (Upd.refl _ _))
      have hr0 : ((rest.length : Nat) : Int) = 0 := by rw [hrest]; rfl
      have hr1 : Hid (((some rest).getD []).length = 0) := by show _ = _; rw [hrest]; rfl
      rw [hr1.out] at hl
      clear hend HI Hown HU E1 E2 E3 H6 hrest hr0
      go_wp2_with fail
      (with_reducible refine (hl.out).mono ?_)
      rintro _ _ ⟨rfl, rfl⟩
      have hzn := hz.out.1
      subst hzn
      have hI7 : I64 ((Jr.forms (Jr.recs s)).length : Nat) := I64_s (by have := hXl.out; omega)
      have S9 := Lib.hid (S5.out.keep (F' := fun k => (Value.slice ag (Jr.recs s).length cg).ownBlock = some k ∨ (Value.slice al R.length cl).ownBlock = some k) hz.out.2.2 (fun k hk => hk.imp id (fun hk => by obtain ⟨a, cs, b⟩ := own_blockD hz.out.2.1 hk; exact ⟨a, lt_of_block b⟩)))
      have q1 := size_t S9.out (f := 7) (I64_s (by decide))
      rw [HZ.out.1] at q1
      have q2 := read_t S9.out (f := 7) (i := 0) (n := ((Jr.forms (Jr.recs s)).length : Nat)) (I64_s (by decide)) (I64_s (by decide)) hI7
      rw [HR.out.1] at q2
      have q3 := open_t S9.out g1 (f := 7) (I64_s (by decide))
      rw [HP.out] at q3
      have Q1 := Lib.hid q1
      have Q2 := Lib.hid q2
      have Q3 := Lib.hid q3
      clear q1 q2 q3
      go_wp2_with fail
      (with_reducible refine Q1.out.mono ?_)
      rintro _ _ ⟨rfl, rfl⟩
      go_wp2_with fail
      (with_reducible refine Q2.out.mono ?_)
      rintro _ _ ⟨rfl, rfl⟩
      go_wp2_with fail
      (with_reducible refine Q3.out.mono ?_)
      rintro _ wq ⟨pv3, rfl, o9, u9⟩
      obtain ⟨kb, rfl, t9⟩ := o9.some_
      have og9 := owns_updD (owns_updD OG.out hz.out.2.2 (fun _ _ e => e)) u9 (fun k hk e => e.1 (Or.inl hk))
      have ow9 := owns_updD hz.out.2.1 u9 (fun k hk e => e.1 (Or.inr hk))
      have st1 := SameTextsQ _ _ _ _ _ _ (Jr.recs s) (Jr.recs s) wq (Sl.of_owns og9) (Sl.of_owns ow9)
      have q4 := size_t t9 (f := 7) (I64_s (by decide))
      rw [HZ.out.2] at q4
      have q5 := read_t t9 (f := 7) (i := 0) (n := ((Jr.forms (Jr.recs s)).length : Nat)) (I64_s (by decide)) (I64_s (by decide)) hI7
      rw [HR.out.2] at q5
      have Q4 := Lib.hid q4
      have Q5 := Lib.hid q5
      have ST1 := Lib.hid st1
      have T9 := Lib.hid t9
      have OW9 := Lib.hid ow9
      have hsl3 : ∀ z : World, (Instr.slice 9 (.string ⟨s.toArray⟩) none (some (.int .i64 ((Jr.forms (Jr.recs s)).length : Nat))) none).run Tryd.prog z = .ok (.string ⟨(Jr.forms (Jr.recs s)).toArray⟩) z := fun z => slice_pre s _ z (Jr.recs_pre s)
      clear q4 q5 st1 t9 ow9 og9 o9
      go_wp2_with fail
      (with_reducible refine Q4.out.mono ?_)
      rintro _ _ ⟨rfl, rfl⟩
      go_wp2_with fail
      (with_reducible refine Q5.out.mono ?_)
      rintro _ _ ⟨rfl, rfl⟩
      go_wp2_with fail
      (with_reducible refine ST1.out.mono ?_)
      rintro _ w10 ⟨rfl, u10⟩
      have hal := Lib.hid (all_t (T9.out.nw u10) g1)
      go_wp2_with fail
      (with_reducible refine hal.out.mono ?_)
      rintro _ w11 ⟨vk, rfl, ok11, u11⟩
      obtain ⟨ak, ck, rfl⟩ := own_slD ok11
      have st2 := Lib.hid (SameTextsQ _ _ _ _ _ _ (Jr.recs s) (Jr.recs s) w11 (Sl.of_owns ok11) (Sl.of_owns (owns_updD OW9.out (u10.trans u11) (fun _ _ e => e))))
      have hfin := Lib.hid (T9.out.nw0.trans (u10.trans u11))
      clear ok11
      go_wp2_with fail
      (with_reducible refine st2.out.mono ?_)
      rintro _ w12 ⟨rfl, u12⟩
      go_wp2_with fail
      go_ret
      exact ⟨rfl, U1.out.trans (hfin.out.trans u12)⟩
    have hr1 : ((some rest).getD []).length = rest.length := rfl
    rw [hr1] at hl
    have hrp : (0 : Int) < rest.length := by have := List.length_pos_iff.2 hrest; omega
    have hrl : (rest.length : Int) ≤ 300 := by have := H300.out; omega
    clear hr1 hrest
    go_wp2_with fail
    (with_reducible refine (hl.out).mono ?_)
    rintro _ _ ⟨rfl, rfl⟩
    go_wp2_with fail
    (with_reducible refine (Text_r b (some rest) wr gr H6.out (by simp only [Option.getD_some]; omega)).mono ?_)
    rintro _ w7 ⟨rfl, hr7, u7⟩
    have g7 := gr.upd u7
    have htl := rText_fst (some rest)
    have hst := Wire.rText_le (some rest)
    simp only [Option.getD_some] at htl hst
    have Hst := Lib.hid hst
    clear hst
    go_wp2_with fail
    (with_reducible refine (Num_r b _ w7 g7 hr7 (by have := Hst.out; omega)).mono ?_)
    rintro _ w8 ⟨rfl, hr8, u8⟩
    have g8 := g7.upd u8
    have U8 := Lib.hid (u7.trans u8)
    have hone : ∀ t nn : _, t = (Wire.rText (some rest)).1 → nn = (Wire.rNum (Wire.rText (some rest)).2).1 → (¬ nn = Jr.sumN t → Jr.one rest = none) ∧ (rest.length < (Jr.form t).length → Jr.one rest = none) ∧ (¬ rest.take (Jr.form t).length = Jr.form t → Jr.one rest = none) ∧ (rest.take (Jr.form t).length = Jr.form t → t.length ≤ 300 → (Wire.rNum (Wire.rText (some rest)).2).2 = some (rest.drop (Jr.form t).length)) := by
      rintro t nn rfl rfl
      refine ⟨one_num, one_short, one_other, fun e hle => ?_⟩
      generalize ht : (Wire.rText (some rest)).1 = t at *
      have hre : rest = Jr.form t ++ rest.drop (Jr.form t).length := by conv => lhs; rw [← List.take_append_drop (Jr.form t).length rest, e]
      generalize rest.drop (Jr.form t).length = r at *
      obtain ⟨q1, q2⟩ := Jr.rForm (t := t) (r := r) (by omega)
      rw [hre, q1, q2]
    have hI := Wire.rNumber_i64 (Wire.rText (some rest)).2 59 0
    have hI2 : I64 (Wire.rNum (Wire.rText (some rest)).2).1 := hI
    have hone2 := Lib.hid (hone _ _ rfl rfl)
    have Htl := Lib.hid htl
    have HI2 := Lib.hid hI2
    have Hr8 := Lib.hid hr8
    clear hone htl Hst hr7 hr8 hI hI2 u7 u8 hl
    generalize (Wire.rNum (Wire.rText (some rest)).2).1 = nn at *
    generalize (Wire.rNum (Wire.rText (some rest)).2).2 = st3 at *
    generalize (Wire.rText (some rest)).1 = t at *
    have ht3 : t.length ≤ 300 := by have := Htl.out; omega
    have hte := Lib.hid (Text_e ⟨t.toArray⟩ t (bs_list t) w8 g8 (by omega))
    have hfl := Jr.form_len t (by omega)
    have hfp := Lib.hid (Jr.form_pos t)
    have hfe : (Wire.textE t).length ≤ 343 := by
      have := hfl
      unfold Jr.form at this
      rw [List.length_append] at this
      omega
    have hne : (Wire.numE nn).length ≤ 343 := by
      unfold Wire.numE
      split
      · simp
      · have h2 := HI2.out
        unfold I64 at h2
        have h3 := Wire.itoa_le20 (v := nn) (by omega) (by omega)
        unfold Wire.intE
        simp only [List.length_append, List.length_cons, List.length_nil]
        omega
    have hsum := Lib.hid (fun z => Sum_c t (by omega) z)
    have hfl1 : ((Jr.form t).length : Int) ≤ 343 := by omega
    have hfl0 : (0 : Int) ≤ (Jr.form t).length := by omega
    have Ht3 := Lib.hid ht3
    clear hfl ht3
    go_wp2_with fail
    (with_reducible refine (hte.out).mono ?_)
    rintro _ w9 ⟨rfl, u9'⟩
    have g9 := g8.upd u9'
    have hnu := Lib.hid (Num_e nn w9 g9 HI2.out)
    have U9 : Hid (Upd (fun k => k = b) wr w9) := U8.out.nw u9'
    have Hr9 := Lib.hid (Hr8.out.nw u9')
    clear hte u9'
    by_cases hf2 : nn = Jr.sumN t
    rotate_left
    · have hb1 : (nn == Jr.sumN t) = false := beq_eq_false_iff_ne.2 hf2
      have hb2 : (nn != Jr.sumN t) = true := by simp [hf2]
      have hz1 := Lib.hid (hend.out (hone2.out.1 hf2))
      clear hend hf2
      go_wp2_with fail
      (with_reducible refine (hnu.out).mono ?_)
      rintro _ w10 ⟨rfl, u10'⟩
      have hz : Hid (RdE s w5 w10 (.slice al R.length cl) n) := hz1.out w10 (Or.inr (U9.out.nw u10'))
      clear u10'
      go_wp2_with fail
      (with_reducible refine (hsum.out _).mono ?_)
      rintro _ _ ⟨rfl, rfl⟩
      have hzn := hz.out.1
      subst hzn
      have hI7 : I64 ((Jr.forms (Jr.recs s)).length : Nat) := I64_s (by have := hXl.out; omega)
      have S9 := Lib.hid (S5.out.keep (F' := fun k => (Value.slice ag (Jr.recs s).length cg).ownBlock = some k ∨ (Value.slice al R.length cl).ownBlock = some k) hz.out.2.2 (fun k hk => hk.imp id (fun hk => by obtain ⟨a, cs, b⟩ := own_blockD hz.out.2.1 hk; exact ⟨a, lt_of_block b⟩)))
      have q1 := size_t S9.out (f := 7) (I64_s (by decide))
      rw [HZ.out.1] at q1
      have q2 := read_t S9.out (f := 7) (i := 0) (n := ((Jr.forms (Jr.recs s)).length : Nat)) (I64_s (by decide)) (I64_s (by decide)) hI7
      rw [HR.out.1] at q2
      have q3 := open_t S9.out g1 (f := 7) (I64_s (by decide))
      rw [HP.out] at q3
      have Q1 := Lib.hid q1
      have Q2 := Lib.hid q2
      have Q3 := Lib.hid q3
      clear q1 q2 q3
      go_wp2_with fail
      (with_reducible refine Q1.out.mono ?_)
      rintro _ _ ⟨rfl, rfl⟩
      go_wp2_with fail
      (with_reducible refine Q2.out.mono ?_)
      rintro _ _ ⟨rfl, rfl⟩
      go_wp2_with fail
      (with_reducible refine Q3.out.mono ?_)
      rintro _ wq ⟨pv3, rfl, o9, u9⟩
      obtain ⟨kb, rfl, t9⟩ := o9.some_
      have og9 := owns_updD (owns_updD OG.out hz.out.2.2 (fun _ _ e => e)) u9 (fun k hk e => e.1 (Or.inl hk))
      have ow9 := owns_updD hz.out.2.1 u9 (fun k hk e => e.1 (Or.inr hk))
      have st1 := SameTextsQ _ _ _ _ _ _ (Jr.recs s) (Jr.recs s) wq (Sl.of_owns og9) (Sl.of_owns ow9)
      have q4 := size_t t9 (f := 7) (I64_s (by decide))
      rw [HZ.out.2] at q4
      have q5 := read_t t9 (f := 7) (i := 0) (n := ((Jr.forms (Jr.recs s)).length : Nat)) (I64_s (by decide)) (I64_s (by decide)) hI7
      rw [HR.out.2] at q5
      have Q4 := Lib.hid q4
      have Q5 := Lib.hid q5
      have ST1 := Lib.hid st1
      have T9 := Lib.hid t9
      have OW9 := Lib.hid ow9
      have hsl3 : ∀ z : World, (Instr.slice 9 (.string ⟨s.toArray⟩) none (some (.int .i64 ((Jr.forms (Jr.recs s)).length : Nat))) none).run Tryd.prog z = .ok (.string ⟨(Jr.forms (Jr.recs s)).toArray⟩) z := fun z => slice_pre s _ z (Jr.recs_pre s)
      clear q4 q5 st1 t9 ow9 og9 o9
      go_wp2_with fail
      (with_reducible refine Q4.out.mono ?_)
      rintro _ _ ⟨rfl, rfl⟩
      go_wp2_with fail
      (with_reducible refine Q5.out.mono ?_)
      rintro _ _ ⟨rfl, rfl⟩
      go_wp2_with fail
      (with_reducible refine ST1.out.mono ?_)
      rintro _ w10 ⟨rfl, u10⟩
      have hal := Lib.hid (all_t (T9.out.nw u10) g1)
      go_wp2_with fail
      (with_reducible refine hal.out.mono ?_)
      rintro _ w11 ⟨vk, rfl, ok11, u11⟩
      obtain ⟨ak, ck, rfl⟩ := own_slD ok11
      have st2 := Lib.hid (SameTextsQ _ _ _ _ _ _ (Jr.recs s) (Jr.recs s) w11 (Sl.of_owns ok11) (Sl.of_owns (owns_updD OW9.out (u10.trans u11) (fun _ _ e => e))))
      have hfin := Lib.hid (T9.out.nw0.trans (u10.trans u11))
      clear ok11
      go_wp2_with fail
      (with_reducible refine st2.out.mono ?_)
      rintro _ w12 ⟨rfl, u12⟩
      go_wp2_with fail
      go_ret
      exact ⟨rfl, U1.out.trans (hfin.out.trans u12)⟩
    have hcat : (⟨(Wire.textE t).toArray⟩ : ByteArray) ++ ⟨(Wire.numE nn).toArray⟩ = ⟨(Jr.form t).toArray⟩ := by
      rw [hf2, ← bs_eta (_ ++ _), bs_append_list, bs_list, bs_list]; rfl
    have hb1 : (nn == Jr.sumN t) = true := beq_iff_eq.2 hf2
    have hb2 : (nn != Jr.sumN t) = false := by simp [hf2]
    clear hf2
    go_wp2_with fail
    (with_reducible refine (hnu.out).mono ?_)
    rintro _ w10 ⟨rfl, u10'⟩
    have U10 : Hid (Upd (fun k => k = b) wr w10) := U9.out.nw u10'
    have Hr10 := Lib.hid (Hr9.out.nw u10')
    clear u10' hnu Hr9 Hr8
    by_cases hf3 : rest.length < (Jr.form t).length
    · have h3 : (s.length : Int) < n + (Jr.form t).length := by have := Hnl.out; omega
      have hz : Hid (RdE s w5 w10 (.slice al R.length cl) n) := hend.out (hone2.out.2.1 hf3) w10 (Or.inr U10.out)
      clear hend hf3
      go_wp2_with fail
      (with_reducible refine (hsum.out _).mono ?_)
      rintro _ _ ⟨rfl, rfl⟩
      have hzn := hz.out.1
      subst hzn
      have hI7 : I64 ((Jr.forms (Jr.recs s)).length : Nat) := I64_s (by have := hXl.out; omega)
      have S9 := Lib.hid (S5.out.keep (F' := fun k => (Value.slice ag (Jr.recs s).length cg).ownBlock = some k ∨ (Value.slice al R.length cl).ownBlock = some k) hz.out.2.2 (fun k hk => hk.imp id (fun hk => by obtain ⟨a, cs, b⟩ := own_blockD hz.out.2.1 hk; exact ⟨a, lt_of_block b⟩)))
      have q1 := size_t S9.out (f := 7) (I64_s (by decide))
      rw [HZ.out.1] at q1
      have q2 := read_t S9.out (f := 7) (i := 0) (n := ((Jr.forms (Jr.recs s)).length : Nat)) (I64_s (by decide)) (I64_s (by decide)) hI7
      rw [HR.out.1] at q2
      have q3 := open_t S9.out g1 (f := 7) (I64_s (by decide))
      rw [HP.out] at q3
      have Q1 := Lib.hid q1
      have Q2 := Lib.hid q2
      have Q3 := Lib.hid q3
      clear q1 q2 q3
      go_wp2_with fail
      (with_reducible refine Q1.out.mono ?_)
      rintro _ _ ⟨rfl, rfl⟩
      go_wp2_with fail
      (with_reducible refine Q2.out.mono ?_)
      rintro _ _ ⟨rfl, rfl⟩
      go_wp2_with fail
      (with_reducible refine Q3.out.mono ?_)
      rintro _ wq ⟨pv3, rfl, o9, u9⟩
      obtain ⟨kb, rfl, t9⟩ := o9.some_
      have og9 := owns_updD (owns_updD OG.out hz.out.2.2 (fun _ _ e => e)) u9 (fun k hk e => e.1 (Or.inl hk))
      have ow9 := owns_updD hz.out.2.1 u9 (fun k hk e => e.1 (Or.inr hk))
      have st1 := SameTextsQ _ _ _ _ _ _ (Jr.recs s) (Jr.recs s) wq (Sl.of_owns og9) (Sl.of_owns ow9)
      have q4 := size_t t9 (f := 7) (I64_s (by decide))
      rw [HZ.out.2] at q4
      have q5 := read_t t9 (f := 7) (i := 0) (n := ((Jr.forms (Jr.recs s)).length : Nat)) (I64_s (by decide)) (I64_s (by decide)) hI7
      rw [HR.out.2] at q5
      have Q4 := Lib.hid q4
      have Q5 := Lib.hid q5
      have ST1 := Lib.hid st1
      have T9 := Lib.hid t9
      have OW9 := Lib.hid ow9
      have hsl3 : ∀ z : World, (Instr.slice 9 (.string ⟨s.toArray⟩) none (some (.int .i64 ((Jr.forms (Jr.recs s)).length : Nat))) none).run Tryd.prog z = .ok (.string ⟨(Jr.forms (Jr.recs s)).toArray⟩) z := fun z => slice_pre s _ z (Jr.recs_pre s)
      clear q4 q5 st1 t9 ow9 og9 o9
      go_wp2_with fail
      (with_reducible refine Q4.out.mono ?_)
      rintro _ _ ⟨rfl, rfl⟩
      go_wp2_with fail
      (with_reducible refine Q5.out.mono ?_)
      rintro _ _ ⟨rfl, rfl⟩
      go_wp2_with fail
      (with_reducible refine ST1.out.mono ?_)
      rintro _ w10 ⟨rfl, u10⟩
      have hal := Lib.hid (all_t (T9.out.nw u10) g1)
      go_wp2_with fail
      (with_reducible refine hal.out.mono ?_)
      rintro _ w11 ⟨vk, rfl, ok11, u11⟩
      obtain ⟨ak, ck, rfl⟩ := own_slD ok11
      have st2 := Lib.hid (SameTextsQ _ _ _ _ _ _ (Jr.recs s) (Jr.recs s) w11 (Sl.of_owns ok11) (Sl.of_owns (owns_updD OW9.out (u10.trans u11) (fun _ _ e => e))))
      have hfin := Lib.hid (T9.out.nw0.trans (u10.trans u11))
      clear ok11
      go_wp2_with fail
      (with_reducible refine st2.out.mono ?_)
      rintro _ w12 ⟨rfl, u12⟩
      go_wp2_with fail
      go_ret
      exact ⟨rfl, U1.out.trans (hfin.out.trans u12)⟩
    have h3 : ¬ (s.length : Int) < n + (Jr.form t).length := by have := Hnl.out; omega
    have h4 : (n : Int) + (Jr.form t).length ≤ s.length := by have := Hnl.out; omega
    have hext : (({ data := s.toArray } : ByteArray).extract n (n + (Jr.form t).length)).data.toList = rest.take (Jr.form t).length := by
      rw [bs_extract, bs_list, E1.out, E3.out, List.drop_left, Nat.add_sub_cancel_left]
    have htn : ((n : Int) + (Jr.form t).length).toNat = n + (Jr.form t).length := by omega
    have hsl2 : ∀ z : World, (Instr.slice 9 (.string ⟨s.toArray⟩) (some (.int .i64 n)) (some (.int .i64 ((n : Int) + (Jr.form t).length))) none).run Tryd.prog z = .ok (.string ⟨(rest.take (Jr.form t).length).toArray⟩) z := fun z => by
      have := run_slice_string (P := Tryd.prog) z 9 ⟨s.toArray⟩ .i64 .i64 (n : Int) ((n : Int) + (Jr.form t).length) Tryd.underlying9 (by omega) (by omega) (by rw [bs_size, bs_list]; exact h4)
      rw [htn, Int.toNat_natCast, ← bs_eta ((⟨s.toArray⟩ : ByteArray).extract n (n + (Jr.form t).length)), hext] at this
      exact this
    clear hf3 htn hext
    by_cases hf4 : rest.take (Jr.form t).length = Jr.form t
    rotate_left
    · have hz : Hid (RdE s w5 w10 (.slice al R.length cl) n) := hend.out (hone2.out.2.2.1 hf4) w10 (Or.inr U10.out)
      have hq : (rest.take (Jr.form t).length == Jr.form t) = false := beq_eq_false_iff_ne.2 hf4
      generalize rest.take (Jr.form t).length = X at *
      clear hend hf4
      go_wp2_with fail
      (with_reducible refine (hsum.out _).mono ?_)
      rintro _ _ ⟨rfl, rfl⟩
      have hzn := hz.out.1
      subst hzn
      have hI7 : I64 ((Jr.forms (Jr.recs s)).length : Nat) := I64_s (by have := hXl.out; omega)
      have S9 := Lib.hid (S5.out.keep (F' := fun k => (Value.slice ag (Jr.recs s).length cg).ownBlock = some k ∨ (Value.slice al R.length cl).ownBlock = some k) hz.out.2.2 (fun k hk => hk.imp id (fun hk => by obtain ⟨a, cs, b⟩ := own_blockD hz.out.2.1 hk; exact ⟨a, lt_of_block b⟩)))
      have q1 := size_t S9.out (f := 7) (I64_s (by decide))
      rw [HZ.out.1] at q1
      have q2 := read_t S9.out (f := 7) (i := 0) (n := ((Jr.forms (Jr.recs s)).length : Nat)) (I64_s (by decide)) (I64_s (by decide)) hI7
      rw [HR.out.1] at q2
      have q3 := open_t S9.out g1 (f := 7) (I64_s (by decide))
      rw [HP.out] at q3
      have Q1 := Lib.hid q1
      have Q2 := Lib.hid q2
      have Q3 := Lib.hid q3
      clear q1 q2 q3
      go_wp2_with fail
      (with_reducible refine Q1.out.mono ?_)
      rintro _ _ ⟨rfl, rfl⟩
      go_wp2_with fail
      (with_reducible refine Q2.out.mono ?_)
      rintro _ _ ⟨rfl, rfl⟩
      go_wp2_with fail
      (with_reducible refine Q3.out.mono ?_)
      rintro _ wq ⟨pv3, rfl, o9, u9⟩
      obtain ⟨kb, rfl, t9⟩ := o9.some_
      have og9 := owns_updD (owns_updD OG.out hz.out.2.2 (fun _ _ e => e)) u9 (fun k hk e => e.1 (Or.inl hk))
      have ow9 := owns_updD hz.out.2.1 u9 (fun k hk e => e.1 (Or.inr hk))
      have st1 := SameTextsQ _ _ _ _ _ _ (Jr.recs s) (Jr.recs s) wq (Sl.of_owns og9) (Sl.of_owns ow9)
      have q4 := size_t t9 (f := 7) (I64_s (by decide))
      rw [HZ.out.2] at q4
      have q5 := read_t t9 (f := 7) (i := 0) (n := ((Jr.forms (Jr.recs s)).length : Nat)) (I64_s (by decide)) (I64_s (by decide)) hI7
      rw [HR.out.2] at q5
      have Q4 := Lib.hid q4
      have Q5 := Lib.hid q5
      have ST1 := Lib.hid st1
      have T9 := Lib.hid t9
      have OW9 := Lib.hid ow9
      have hsl3 : ∀ z : World, (Instr.slice 9 (.string ⟨s.toArray⟩) none (some (.int .i64 ((Jr.forms (Jr.recs s)).length : Nat))) none).run Tryd.prog z = .ok (.string ⟨(Jr.forms (Jr.recs s)).toArray⟩) z := fun z => slice_pre s _ z (Jr.recs_pre s)
      clear q4 q5 st1 t9 ow9 og9 o9
      go_wp2_with fail
      (with_reducible refine Q4.out.mono ?_)
      rintro _ _ ⟨rfl, rfl⟩
      go_wp2_with fail
      (with_reducible refine Q5.out.mono ?_)
      rintro _ _ ⟨rfl, rfl⟩
      go_wp2_with fail
      (with_reducible refine ST1.out.mono ?_)
      rintro _ w10 ⟨rfl, u10⟩
      have hal := Lib.hid (all_t (T9.out.nw u10) g1)
      go_wp2_with fail
      (with_reducible refine hal.out.mono ?_)
      rintro _ w11 ⟨vk, rfl, ok11, u11⟩
      obtain ⟨ak, ck, rfl⟩ := own_slD ok11
      have st2 := Lib.hid (SameTextsQ _ _ _ _ _ _ (Jr.recs s) (Jr.recs s) w11 (Sl.of_owns ok11) (Sl.of_owns (owns_updD OW9.out (u10.trans u11) (fun _ _ e => e))))
      have hfin := Lib.hid (T9.out.nw0.trans (u10.trans u11))
      clear ok11
      go_wp2_with fail
      (with_reducible refine st2.out.mono ?_)
      rintro _ w12 ⟨rfl, u12⟩
      go_wp2_with fail
      go_ret
      exact ⟨rfl, U1.out.trans (hfin.out.trans u12)⟩
    rw [hf4] at hsl2
    have hrest : rest = Jr.form t ++ rest.drop (Jr.form t).length := by
      conv => lhs; rw [← List.take_append_drop (Jr.form t).length rest, hf4]
    have hst3 := hone2.out.2.2.2 hf4 Ht3.out
    rw [hst3] at Hr10
    have hrn := rdr_own H6.out Hown.out
    have ho4 := Lib.hid (owns_updD Hown.out U10.out (fun k hk e => by subst e; exact hrn hk))
    have hW : w5.heap.size ≤ w10.heap.size := Nat.le_trans HU.out.size U10.out.size
    have HWn : Hid (Nw w5 w10) := HU.out.trans' U10.out (fun k hk e => by subst e; have := Hb.out; omega)
    have hnext : Hid (∀ v' wz, wz.ownsRow w5.heap.size tStrJ 1 v' (R.length + 1) (R.map bsV ++ [bsV t]) → Upd (fun k => (Value.slice al R.length cl).ownBlock = some k) w10 wz → RdI s b w5 wz v' (n + (Jr.form t).length)) := fun v' wz o u => by
      refine ⟨R ++ [t], rest.drop (Jr.form t).length, ?_, ?_, ?_, ?_, HWn.out.trans' u (fun j hj e => by have := (ho4.out.lt j e).1; omega), Hr10.out.upd u hrn⟩
      · rw [Jr.forms_snoc, List.append_assoc, ← hrest]; exact E1.out
      · rw [E2.out, List.append_assoc, hrest, Jr.recs_form (by have := Ht3.out; omega)]
        simp
      · rw [Jr.forms_snoc, List.length_append, ← E3.out]
      · rw [List.length_append, List.map_append]; exact o
    clear hf4 hrest hend hst3 Hr10 hrn
    go_wp2_with (first | (go_at_call 25; ((with_reducible refine (hsum.out _).mono ?_); rintro _ _ ⟨rfl, rfl⟩)) | (at_builtin; refine wpList_appL rfl _ _ 22 rfl w5.heap.size tStrJ _ 1 16 Tryd.underlying22 infoStrJ rfl (by decide) _ _ _ rfl ho4.out [bsV t] rfl rfl ?c1 ?c2 ?c3 hW hg5 ?_))
    case c1 => intro u hu; rw [List.mem_singleton.1 hu]; rfl
    case c2 => have := HRl.out; unfold maxLen; omega
    case c3 => have := HRl.out; omega
    intro v' wz o5 u5 hob
    have hn5 := Lib.hid (hnext.out v' wz o5 u5)
    clear o5 u5 hob
    go_wp2_with fail
    go_roundw
    case rel => exact ⟨n + (Jr.form t).length, by go_num, hn5.out⟩
    case measure => have := hfp.out; have := Hnl.out; simp [intOf]; omega
theorem journalReads_s (s : ByteArray) (w : World) (g : Gl w) : Calls Tryd.prog 4 #[.string s] w fun e w' => e = .returned (.bool true) ∧ Nw w w' := by
  have h := journalReads_c s.data.toList w g
  rw [bs_eta] at h
  exact h
end Go.Proofs.YtmlnpmdbcbiemaaDoor
