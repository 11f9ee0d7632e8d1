/- The reference's journal (layer 3): Sum, Form, Forms, Records. -/
import Derived.Test.YtiambnllidingaaGreatDoorRDk5
import Derived.Test.YtiambnllidingaaGreatDoorJrnV
import Derived.Test.YtiambnllidingaaGreatDoorRef
namespace Go.Proofs.YtiambnllidingaaGreatDoor
open Go.RowKit
set_option linter.unusedVariables false
set_option linter.unusedSimpArgs false
attribute [local irreducible] Calls

set_option maxRecDepth 100000 in
theorem Sum_q (s : List UInt8) (hs : s.length ≤ 1000000000) (w : World) :
    Calls Tryz.prog 14 #[.string ⟨s.toArray⟩] w fun e w' => e = .returned (.int .i64 (Jr.sumN s)) ∧ w = w' := by
  have hs1 : (s.length : Int) ≤ 1000000000 := by omega
  have hs0 : (0 : Int) ≤ s.length := by omega
  clear hs
  go_enter Tryz.func14, Tryz.ntmps14
  go_wp2_with fail
  go_loopw [3, 4] (fun nv iv wr => ∃ k : Nat, k ≤ s.length ∧ iv = .int .i64 k ∧ nv = .int .i64 (Jr.sumN (s.take k)) ∧ w = wr) (fun _ iv _ => s.length - (intOf iv).toNat)
  case atStart => exact ⟨0, Nat.zero_le _, rfl, rfl, rfl⟩
  case round =>
    obtain ⟨k, hk, rfl, rfl, rfl⟩ := hrel
    have hb := Jr.sumN_bd (s.take k)
    by_cases hlt : k < s.length
    · have hn : Jr.sumN (s.take (k + 1)) = (Jr.sumN (s.take k) + s[k].toNat * ((k : Int) + 1)) % 2147483647 := by
        rw [List.take_succ_eq_append_getElem hlt, Jr.sumN_snoc, List.length_take, Nat.min_eq_left (Nat.le_of_lt hlt)]
      have hc : s[k].toNat < 256 := s[k].toNat_lt
      go_wp2_with fail
      go_roundw
      case rel => 
        refine ⟨k + 1, by omega, by go_num, ?_, trivial⟩
        rw [hn]
        exact congrArg (Value.int .i64) (sum_step hb.1 hb.2 s[k].toNat hc k (by omega))
      case measure => simp [intOf]; omega
    · obtain rfl : k = s.length := by omega
      have ht : s.take s.length = s := List.take_length
      rw [ht]
      go_wp2_with fail
      go_ret
      exact ⟨rfl, rfl⟩
set_option maxRecDepth 100000 in
theorem Form_q (s : List UInt8) (hs : s.length ≤ 1000000000) (w : World) :
    Calls Tryz.prog 65 #[.string ⟨s.toArray⟩] w fun e w' => e = .returned (.string ⟨(Jr.form s).toArray⟩) ∧ Nw w w' := by
  have ht := Lib.hid (Text_q ⟨s.toArray⟩ s (bs_list s) w (by omega))
  have hb := Jr.sumN_bd s
  have hf := Jr.form_len s (by omega)
  unfold Jr.form at hf
  rw [List.length_append] at hf
  have hf1 : (Wire.textE s).length ≤ 1000000043 := by omega
  have hf2 : (Wire.numE (Jr.sumN s)).length ≤ 1000000043 := by omega
  have hu := Lib.hid (fun z => Sum_q s hs z)
  have hI : Hid (I64 (Jr.sumN s)) := by show I64 _; unfold I64; omega
  clear hs hb hf
  go_enter Tryz.func65, Tryz.ntmps65
  go_wp2_with fail
  (with_reducible refine (ht.out).mono ?_)
  rintro _ w1 ⟨rfl, u1⟩
  go_wp2_with fail
  (with_reducible refine (hu.out _).mono ?_)
  rintro _ _ ⟨rfl, rfl⟩
  go_wp2_with fail
  (with_reducible refine (Num_q _ _ hI.out).mono ?_)
  rintro _ w2 ⟨rfl, u2⟩
  go_wp2_with fail
  go_ret
  refine ⟨ret_bs ?_, u1.trans u2⟩
  simp only [bs_append_list, bs_list]
  rfl
theorem val_bs {s : ByteArray} {l : List UInt8} (h : s.data.toList = l) : Value.string s = .string ⟨l.toArray⟩ := by rw [← h, bs_eta]
theorem forms_take_le (L : List (List UInt8)) (k : Nat) : (Jr.forms (L.take k)).length ≤ (Jr.forms L).length := by
  conv => rhs; rw [← List.take_append_drop k L, Jr.forms_append, List.length_append]
  omega
set_option maxHeartbeats 1000000 in
set_option maxRecDepth 100000 in
theorem Forms_q (lo hi : Nat) (v : Value) (L : List (List UInt8)) (w : World) (h : Sl lo hi w v (L.map (fun s => Value.string ⟨s.toArray⟩))) (hL : (Jr.forms L).length ≤ 16777216) :
    Calls Tryz.prog 62 #[v] w fun e w' => e = .returned (.string ⟨(Jr.forms L).toArray⟩) ∧ Nw w w' := by
  obtain ⟨a, cap, rfl, hm, hc⟩ := str_cells h
  have hlf := Jr.len_forms L
  have hl1 : (L.length : Int) ≤ 16777216 := by omega
  have hl0 : (0 : Int) ≤ L.length := by omega
  have Hc := Lib.hid hc
  have HL := Lib.hid hL
  clear h hc hlf hL hm
  go_enter Tryz.func62, Tryz.ntmps62
  go_wp2_with fail
  go_loopw [3, 4] (fun sv iv wr => ∃ k : Nat, k ≤ L.length ∧ iv = .int .i64 k ∧ sv = .string ⟨(Jr.forms (L.take k)).toArray⟩ ∧ Hid (Nw w wr)) (fun _ iv _ => L.length - (intOf iv).toNat)
  case atStart => exact ⟨0, Nat.zero_le _, rfl, rfl, Upd.refl _ _⟩
  case round =>
    obtain ⟨k, hk, rfl, rfl, HU⟩ := hrel
    by_cases hlt : k < L.length
    · rcases Hc.out with hnil | ⟨b, off, rfl, hb1, hbw, hcell⟩
      · rw [hnil] at hlt; simp at hlt
      have d0 := (World.cell?_of_block (a := ⟨b, off + k, none⟩) (HU.out.block b hbw (Or.inr id))).trans (hcell k hlt)
      have hfk : (Jr.forms (L.take (k + 1))) = Jr.forms (L.take k) ++ Jr.form L[k] := by rw [List.take_succ_eq_append_getElem hlt, Jr.forms_snoc]
      have hle := forms_take_le L (k + 1)
      have hle2 := congrArg List.length hfk
      rw [List.length_append] at hle2
      have hge := Jr.form_ge L[k]
      have hz := Lib.hid (Form_q L[k] (by have := HL.out; omega) wr)
      have Hfk := Lib.hid hfk
      have q1 : (Jr.forms (L.take k)).length ≤ 16777216 := by have := HL.out; omega
      have q2 : (Jr.form L[k]).length ≤ 16777216 := by have := HL.out; omega
      clear hcell hfk hle hle2 hge
      generalize L[k] = y at *
      go_wp2_with fail
      (with_reducible refine (hz.out).mono ?_)
      rintro _ w1 ⟨rfl, u1⟩
      have hN := Lib.hid (HU.out.trans u1)
      clear u1 hz
      go_wp2_with fail
      go_roundw
      case rel => exact ⟨k + 1, by omega, by go_num, (by rw [Hfk.out]; exact val_bs (by simp only [bs_append_list, bs_list])), hN.out⟩
      case measure => simp [intOf]; omega
    · obtain rfl : k = L.length := by omega
      have ht : L.take L.length = L := List.take_length
      rw [ht]
      go_wp2_with fail
      go_ret
      exact ⟨rfl, HU.out⟩
/-- What has been read so far. -/
def RecI (s : List UInt8) (B0 : Nat) (b : Nat) (w : World) (v : Value) (k : Nat) (z : World) : Prop :=
  ∃ (R : List (List UInt8)) (rest : List UInt8), R.length = k ∧ Jr.recs s = R ++ Jr.recs rest ∧ k + rest.length ≤ s.length ∧ Rdr tQ z b (some rest) ∧ z.ownsRow B0 tStrJ 1 v k (R.map bsV) ∧ Nw w z
theorem one_gives {rest t : List UInt8} (h : Jr.one rest = some t) : t = (Wire.rText (some rest)).1 ∧ ∃ r, (Wire.rNum (Wire.rText (some rest)).2).2 = some r ∧ rest = Jr.form t ++ r := by
  refine ⟨one_is h, ?_⟩
  obtain ⟨r, e, hl⟩ := Jr.one_inv h
  obtain ⟨h1, h2⟩ := Jr.rForm (t := t) (r := r) (by omega)
  refine ⟨r, ?_, e⟩
  rw [e, h1]
  exact congrArg Prod.snd h2
set_option maxHeartbeats 2000000 in
set_option maxRecDepth 100000 in
theorem Records_q (s : List UInt8) (hs : s.length ≤ 16777216) (w : World) (g : Gl w) :
    Calls Tryz.prog 61 #[.string ⟨s.toArray⟩] w fun e w' => ∃ v', e = .returned v' ∧ w'.ownsRow w.heap.size tStrJ 1 v' (Jr.recs s).length ((Jr.recs s).map bsV) ∧ Nw w w' := by
  have hgb := g.big
  have hop := Lib.hid (OpenQ _ s (bs_list s) w g)
  have HS := Lib.hid hs
  clear hs
  go_enter Tryz.func61, Tryz.ntmps61
  go_wp2_with fail
  (with_reducible refine (hop.out).mono ?_)
  rintro _ w1 ⟨b, rfl, hb, hr1, n1⟩
  have hbl := hr1.lt
  have hI0 : Hid (RecI s (b + 1) b w (.slice none 0 0) 0 w1) := ⟨[], s, rfl, rfl, by omega, hr1, World.ownsRow_nil _ _ _ _, n1⟩
  have HB := Lib.hid (And.intro hb hbl)
  clear hr1 n1 hop hb hbl
  go_wp2_with fail
  go_loopw [3] (fun v wr => ∃ k : Nat, Hid (RecI s (b + 1) b w v k wr)) (fun v _ => s.length + 1 - lenOfSl v)
  case atStart => exact ⟨_, hI0.out⟩
  case round =>
    obtain ⟨k, HI⟩ := hrel
    obtain ⟨R, rest, rfl, e1, e2, hr, ho, hu⟩ := HI.out
    obtain ⟨al, cl, rfl⟩ := own_slD ho
    have hlf := Lib.hid (LeftQ b (some rest) wr hr)
    have E1 := Lib.hid e1
    have HH := Lib.hid (And.intro hr (And.intro ho hu))
    have gr := g.upd hu
    have hk1 : R.length ≤ 16777216 := by have := HS.out; omega
    have hk2 : rest.length ≤ 16777216 := by have := HS.out; omega
    have E2 := Lib.hid e2
    have HK := Lib.hid (And.intro hk1 hk2)
    clear e1 e2 hr ho hu hk1 hk2
    by_cases hne : rest = []
    · subst hne
      have hfin : Hid (wr.ownsRow w.heap.size tStrJ 1 (.slice al R.length cl) (Jr.recs s).length ((Jr.recs s).map bsV) ∧ Nw w wr) := by
        show _ ∧ _
        rw [E1.out, show Jr.recs [] = [] from rfl, List.append_nil]
        exact ⟨owns_base HH.out.2.1 (by have := HB.out.1; omega), HH.out.2.2⟩
      clear HI HH
      go_wp2_with fail
      (with_reducible refine (hlf.out).mono ?_)
      rintro _ _ ⟨rfl, rfl⟩
      go_wp2_with fail
      go_ret
      exact ⟨_, rfl, hfin.out.1, hfin.out.2⟩
    have hpos : 0 < rest.length := List.length_pos_iff.2 hne
    have hpos1 : (0 : Int) < rest.length := by omega
    clear hne
    go_wp2_with fail
    (with_reducible refine (hlf.out).mono ?_)
    rintro _ _ ⟨rfl, rfl⟩
    have htq := Lib.hid (TextQ b (some rest) wr HH.out.1 (by have := HK.out.2; simp only [Option.getD_some]; omega))
    go_wp2_with fail
    (with_reducible refine (htq.out).mono ?_)
    rintro _ w2 ⟨rfl, hr2, u2⟩
    have htl := rText_fst (some rest)
    have hst := Wire.rText_le (some rest)
    simp only [Option.getD_some] at htl hst
    have hnq := Lib.hid (NumQ b _ w2 hr2 (by have := HK.out.2; omega))
    clear hr2 htq hlf
    go_wp2_with fail
    (with_reducible refine (hnq.out).mono ?_)
    rintro _ w3 ⟨rfl, hr3, u3⟩
    have hU3 := Lib.hid (u2.trans u3)
    have c1 := hr3.c1
    have hone : Hid (Jr.one rest = if (Wire.rNum (Wire.rText (some rest)).2).2.isSome = true ∧ (Wire.rText (some rest)).1.length ≤ 20000 ∧ (Wire.rNum (Wire.rText (some rest)).2).1 = Jr.sumN (Wire.rText (some rest)).1 then some (Wire.rText (some rest)).1 else none) := rfl
    have hgv : Hid (∀ t, Jr.one rest = some t → t = (Wire.rText (some rest)).1 ∧ ∃ r, (Wire.rNum (Wire.rText (some rest)).2).2 = some r ∧ rest = Jr.form t ++ r) := fun t h => one_gives h
    have Hr3 := Lib.hid hr3
    have htl1 : ((Wire.rText (some rest)).1.length : Int) ≤ 16777216 := by have := HK.out.2; omega
    clear hnq u2 u3 hst htl hr3
    generalize (Wire.rNum (Wire.rText (some rest)).2).1 = nn at *
    generalize (Wire.rNum (Wire.rText (some rest)).2).2 = st at *
    generalize (Wire.rText (some rest)).1 = t at *
    have hsum := Lib.hid (Sum_q t (by omega) w3)
    have hdone : Hid (Jr.one rest = none → w3.ownsRow w.heap.size tStrJ 1 (.slice al R.length cl) (Jr.recs s).length ((Jr.recs s).map bsV) ∧ Nw w w3) := fun h => by
      rw [E1.out, Jr.recs_none h, List.append_nil]
      refine ⟨owns_base (owns_updD HH.out.2.1 hU3.out (fun k hk e => by have := (HH.out.2.1.lt k hk).1; omega)) (by have := HB.out.1; omega), HH.out.2.2.trans' hU3.out (fun k hk e => by have := HB.out.1; omega)⟩
    cases st with
    | none =>
      have hfin := Lib.hid (hdone.out (by rw [hone.out, if_neg (fun e => by cases e.1)]))
      clear hdone hone hgv HI HH
      go_wp2_with fail
      go_ret
      exact ⟨_, rfl, hfin.out.1, hfin.out.2⟩
    | some r =>
    by_cases h1 : 20000 < t.length
    · have h1' : (20000 : Int) < t.length := by omega
      have hfin := Lib.hid (hdone.out (by rw [hone.out, if_neg (fun e => by omega)]))
      clear hdone hone hgv HI HH
      go_wp2_with fail
      go_ret
      exact ⟨_, rfl, hfin.out.1, hfin.out.2⟩
    have h1' : ¬ (20000 : Int) < t.length := by omega
    by_cases h2 : nn = Jr.sumN t
    rotate_left
    · have hb1 : (nn == Jr.sumN t) = false := beq_eq_false_iff_ne.2 h2
      have hb2 : (nn != Jr.sumN t) = true := by simp [h2]
      have hfin := Lib.hid (hdone.out (by rw [hone.out, if_neg (fun e => h2 e.2.2)]))
      clear hdone hone hgv HI HH
      clear h2
      go_wp2_with fail
      (with_reducible refine (hsum.out).mono ?_)
      rintro _ _ ⟨rfl, rfl⟩
      go_wp2_with fail
      go_ret
      exact ⟨_, rfl, hfin.out.1, hfin.out.2⟩
    have hb1 : (nn == Jr.sumN t) = true := beq_iff_eq.2 h2
    have hb2 : (nn != Jr.sumN t) = false := by simp [h2]
    have ho1 : Jr.one rest = some t := by rw [hone.out, if_pos ⟨rfl, by omega, h2⟩]
    obtain ⟨_, r', e3, e4⟩ := hgv.out t ho1
    obtain rfl := Option.some.inj e3
    have hfp := Jr.form_pos t
    have hrl : rest.length = (Jr.form t).length + r.length := by rw [e4, List.length_append]
    have ho3 := Lib.hid (owns_updD HH.out.2.1 hU3.out (fun k hk e => by have := (HH.out.2.1.lt k hk).1; omega))
    have hr5 : Jr.recs s = R ++ [t] ++ Jr.recs r := by
      rw [E1.out, Jr.recs_some ho1, e4, List.drop_left]; simp
    have hnext : Hid (∀ v' w5, w5.ownsRow (b + 1) tStrJ 1 v' (R.length + 1) (R.map bsV ++ [bsV t]) → Upd (fun k => (Value.slice al R.length cl).ownBlock = some k) w3 w5 → RecI s (b + 1) b w v' (R.length + 1) w5) := fun v' w5 o5 u5 => by
      have hne : ∀ k, (Value.slice al R.length cl).ownBlock = some k → b + 1 ≤ k := fun k hk => (HH.out.2.1.lt k hk).1
      refine ⟨R ++ [t], r, by simp, hr5, by have := E2.out; omega, Hr3.out.upd u5 (fun e => by have := hne b e; omega), by rw [List.map_append]; exact o5, ?_⟩
      exact (HH.out.2.2.trans' hU3.out (fun k hk e => by have := HB.out.1; omega)).trans' u5 (fun k hk e => by have := hne k e; have := HB.out.1; omega)
    have hW : b + 1 ≤ w3.heap.size := by have := HB.out.2; have := HH.out.2.2.size; have := hU3.out.size; have := Hr3.out.lt; omega
    have hgB : nG ≤ b + 1 := by have := HB.out.1; omega
    have hRm : R.length + 1 ≤ s.length := by have := E2.out; omega
    clear hdone hone hgv ho1 h2 e3 e4 hr5 hfp
    go_wp2_with (first | (go_at_call 14; ((with_reducible refine hsum.out.mono ?_); rintro _ _ ⟨rfl, rfl⟩)) | (at_builtin; refine wpList_appL rfl _ _ 46 rfl (b + 1) tStrJ _ 1 16 Tryz.underlying46 infoStrJ rfl (by decide) _ _ _ rfl ho3.out [bsV t] rfl rfl ?c1 ?c2 ?c3 hW hgB ?_))
    case c1 => intro u hu; rw [List.mem_singleton.1 hu]; rfl
    case c2 => have := HK.out.1; unfold maxLen; omega
    case c3 => have := HK.out.1; omega
    intro v' w5 o5 u5 hob
    have hn5 := Lib.hid (hnext.out v' w5 o5 u5)
    obtain ⟨a5, c5, rfl⟩ := own_slD o5
    clear o5 u5 hob
    go_wp2_with fail
    go_roundw
    case rel => exact ⟨_, hn5.out⟩
    case measure => simp [lenOfSl]; omega
end Go.Proofs.YtiambnllidingaaGreatDoor
