/- strings.Builder at this seat's numbers: WriteString (copyCheck first), String; a builder that the call has made itself. The contracts of the encoders of layer 1: Int, Num, Text, list[int], list[string], Nums, Texts. The reader of layer 1 in memory, and the contracts of its methods that only look at its string: fail, number, close, Num, Int, Text, Left, Done, Rest, Open. The contracts of the reader's methods Num, Int, Text, Left, Done, Rest, and of Open. The contracts of the disk's Sync and Truncate. The contracts of the journal's Sum and form. The contract of the journal's read. A journal in memory; the contracts of Len, Get, All, Sync. -/
import Derived.Test.YtagmlemlagbfkaaDoorPkFFair2
import Derived.Test.YtagmlemlagbfkaaDoorPkFFair9
import Derived.Test.YtagmlemlagbfkaaDoorPkFFair13
import Derived.WalkMore
import Derived.Laws.CopyOwn
namespace Go.Proofs.YtagmlemlagbfkaaDoor
open Go.RowKit
set_option linter.unusedVariables false
set_option linter.unusedSimpArgs false

end Go.Proofs.YtagmlemlagbfkaaDoor
namespace Go.Proofs.YtagmlemlagbfkaaDoor
open Go.RowKit
set_option linter.unusedVariables false
set_option linter.unusedSimpArgs false
attribute [local irreducible] Calls

theorem Int_e (n : Int) (w : World) (g : Gl w) (h : I64 n) :
    Calls Tryd.prog 68 #[.int .i64 n] w fun e w' => e = .returned (.string ⟨(Wire.intE n).toArray⟩) ∧ Nw w w' := by
  have hl := itoa_le h
  go_enter Tryd.func68, Tryd.ntmps68
  go_wp2_with fail
  (with_reducible refine (Itoa_c n _ g h).mono ?_)
  rintro _ w1 ⟨rfl, u1⟩
  go_wp2_with fail
  go_ret
  exact ⟨rfl, u1⟩
theorem Num_e (n : Int) (w : World) (g : Gl w) (h : I64 n) :
    Calls Tryd.prog 56 #[.int .i64 n] w fun e w' => e = .returned (.string ⟨(Wire.numE n).toArray⟩) ∧ Nw w w' := by
  by_cases hn : n < 0
  · go_enter Tryd.func56, Tryd.ntmps56
    go_wp2_with fail
    go_ret
    rw [show Wire.numE n = [] from if_pos hn]
    exact ⟨rfl, Upd.refl _ _⟩
  · go_enter Tryd.func56, Tryd.ntmps56
    go_wp2_with fail
    (with_reducible refine (Int_e n _ g h).mono ?_)
    rintro _ w1 ⟨rfl, u1⟩
    go_wp2_with fail
    go_ret
    rw [show Wire.numE n = Wire.intE n from if_neg (by omega)]
    exact ⟨rfl, u1⟩
theorem Text_e (s : ByteArray) (l : List UInt8) (hs : s.data.toList = l) (w : World) (g : Gl w) (h : l.length ≤ 140737488351232) :
    Calls Tryd.prog 55 #[.string s] w fun e w' => e = .returned (.string ⟨(Wire.textE l).toArray⟩) ∧ Nw w w' := by
  have hz := bs_size s
  rw [hs] at hz
  have hi : I64 s.size := by unfold I64; omega
  have hl := itoa_le hi
  have Hz := Lib.hid hz
  replace hz : s.size ≤ 140737488351232 := by omega
  go_enter Tryd.func55, Tryd.ntmps55
  go_wp2_with fail
  (with_reducible refine (Itoa_c _ _ g hi).mono ?_)
  rintro _ w1 ⟨rfl, u1⟩
  go_wp2_with fail
  go_ret
  refine ⟨ret_bs ?_, u1⟩
  simp only [bs_append_list, bs_list, hs, Hz.out]
  rfl
end Go.Proofs.YtagmlemlagbfkaaDoor
namespace Go.Proofs.YtagmlemlagbfkaaDoor
open Go.RowKit
set_option linter.unusedVariables false
set_option linter.unusedSimpArgs false
attribute [local irreducible] Calls

/-- At block b lies a reader (of the type T) in the state st. -/
def Rdr (T : TypeId) (w : World) (b : Nat) (st : Wire.St) : Prop := nG ≤ b ∧ w.heap[b]? = some (.cells #[.string ⟨(st.getD []).toArray⟩, .bool st.isNone] T (0, 0))
abbrev tR : TypeId := 112
theorem Rdr.lt {T : TypeId} {w : World} {b : Nat} {st : Wire.St} (h : Rdr T w b st) : b < w.heap.size := lt_of_block h.2
theorem Rdr.c0 {T : TypeId} {w : World} {b : Nat} {st : Wire.St} (h : Rdr T w b st) : w.cell? ⟨b, 0, none⟩ = some (.string ⟨(st.getD []).toArray⟩) := by rw [cells_cell h.2]; rfl
theorem Rdr.c1 {T : TypeId} {w : World} {b : Nat} {st : Wire.St} (h : Rdr T w b st) : w.cell? ⟨b, 1, none⟩ = some (.bool st.isNone) := by rw [cells_cell h.2]; rfl
theorem Rdr.fz {T : TypeId} {w : World} {b : Nat} {st : Wire.St} (h : Rdr T w b st) (i : Nat) : w.frozen? ⟨b, i, none⟩ = false := cells_frozen h.2 i
theorem Rdr.upd {T : TypeId} {S : Nat → Prop} {w w' : World} {b : Nat} {st : Wire.St} (h : Rdr T w b st) (u : Upd S w w') (hn : ¬ S b) : Rdr T w' b st := ⟨h.1, u.keep h.2 hn⟩
theorem Rdr.nw {T : TypeId} {w w' : World} {b : Nat} {st : Wire.St} (h : Rdr T w b st) (u : Nw w w') : Rdr T w' b st := h.upd u id
theorem Rdr.set0 {T : TypeId} {w : World} {b : Nat} {st : Wire.St} (h : Rdr T w b st) (s : ByteArray) (r : List UInt8) (hs : st.isNone = false) (hr : s.data.toList = r) : Rdr T (w.setCell ⟨b, 0, none⟩ (.string s)) b (some r) := by
  refine ⟨h.1, ?_⟩
  rw [setCell_block h.2, hs, ← bs_eta s, hr]
  rfl
theorem Rdr.setr {T : TypeId} {w : World} {b : Nat} {st : Wire.St} (h : Rdr T w b st) (s : ByteArray) (st' : Wire.St) (hs : st'.isNone = st.isNone) (hr : s.data.toList = st'.getD []) : Rdr T (w.setCell ⟨b, 0, none⟩ (.string s)) b st' := by
  refine ⟨h.1, ?_⟩
  rw [setCell_block h.2, ← hs, ← bs_eta s, hr]
  rfl
theorem Rdr.set_fail {T : TypeId} {w : World} {b : Nat} {st : Wire.St} (h : Rdr T w b st) : Rdr T ((w.setCell ⟨b, 0, none⟩ (.string ⟨#[]⟩)).setCell ⟨b, 1, none⟩ (.bool true)) b none := by
  refine ⟨h.1, ?_⟩
  rw [setCell_block (setCell_block h.2 _ _)]
  rfl
theorem Rdr.set_same {T : TypeId} {w : World} {b : Nat} {st : Wire.St} (h : Rdr T w b st) : Rdr T (w.setCell ⟨b, 0, none⟩ (.string ⟨(st.getD []).toArray⟩)) b st := by
  refine ⟨h.1, ?_⟩
  rw [setCell_block h.2]
  rfl
set_option maxHeartbeats 400000 in
theorem fail_c (b : Nat) (st : Wire.St) (w : World) (h : Rdr tR w b st) :
    Calls Tryd.prog 65 #[.pointer (some ⟨b, 0, none⟩)] w fun e w' => e = .returned (.tuple #[]) ∧ Rdr tR w' b none ∧ Upd (· = b) w w' := by
  have c0 := h.c0
  have c1 := h.c1
  have f0 := h.fz 0
  have f1 := h.fz 1
  go_enter Tryd.func65, Tryd.ntmps65
  go_wp2
  go_end0
  exact ⟨rfl, h.set_fail, ((Upd.refl _ _).set1 h.1 _ _).set1 h.1 _ _⟩
theorem c58 : (58 : Int) = ((58 : UInt8).toNat : Int) := rfl
theorem c59 : (59 : Int) = ((59 : UInt8).toNat : Int) := rfl
set_option maxHeartbeats 400000 in
theorem number_c (b : Nat) (st : Wire.St) (c : UInt8) (ci least : Int) (hci : ci = c.toNat) (w : World) (g : Gl w) (h : Rdr tR w b st) (hl : (st.getD []).length ≤ 9223372036854775807) :
    Calls Tryd.prog 64 #[.pointer (some ⟨b, 0, none⟩), .int .u8 ci, .int .i64 least] w fun e w' =>
      e = .returned (.int .i64 (Wire.rNumber st c least).1) ∧ Rdr tR w' b (Wire.rNumber st c least).2 ∧ Upd (· = b) w w' := by
  have c0 := h.c0
  have c1 := h.c1
  have f0 := h.fz 0
  have f1 := h.fz 1
  subst hci
  go_enter Tryd.func64, Tryd.ntmps64
  go_wp2
  go_quiet (fail)
  go_wp2_with fail
  obtain ⟨w1, e1, u1⟩ := nw_drewN w nq
  rw [e1]; clear e1
  replace h := h.nw u1
  replace g := g.upd u1
  obtain ⟨hd, ehd⟩ : ∃ hd : ByteArray, ({ data := (Option.getD st []).toArray } : ByteArray).extract 0 (min (↑(Option.getD st []).length) (21 : Int)).toNat = hd := ⟨_, rfl⟩
  have Hd : Hid (hd.data.toList = (st.getD []).take 21) := by rw [← ehd]; show _ = _; rw [bs_extract_list]; simp; omega
  have hds : hd.size = min 21 (st.getD []).length := by rw [bs_size, Hd.out, List.length_take]
  rw [ehd]; clear ehd
  (with_reducible refine (IndexByte_l hd c ((st.getD []).take 21) Hd.out _).mono ?_)
  rintro _ _ ⟨rfl, rfl⟩
  have i0 := Lib.indexByte_ge ((st.getD []).take 21) c
  have i1 := Wire.indexByte_lt ((st.getD []).take 21) c
  generalize hi : Lib.indexByte ((st.getD []).take 21) c = i at *
  have Hi := Lib.hid hi; clear hi
  rw [List.length_take, ← hds] at i1
  have i2 : i ≤ 20 := by omega
  have i3 : i < ((st.getD []).length : Int) := by omega
  have Hds := Lib.hid hds; clear hds
  go_wp2_with fail
  · (with_reducible refine (fail_c b st _ h).mono ?_)
    rintro _ w' ⟨rfl, h', u'⟩
    go_wp2_with fail
    go_ret
    rw [Wire.rNumber_neg (by rw [Hi.out]; assumption)]
    exact ⟨rfl, h', u1.trans u'⟩
  · have hs := Wire.isSome_of_index Hi.out (by assumption)
    have h0i : 0 ≤ i := by assumption
    obtain ⟨hp, ehp⟩ : ∃ hp : ByteArray, hd.extract 0 i.toNat = hp := ⟨_, rfl⟩
    have Hp : Hid (hp.data.toList = (st.getD []).take i.toNat) := by rw [← ehp]; show _ = _; rw [bs_extract_list, Hd.out]; have := Hds.out; simp [List.take_take]; omega
    rw [ehp]
    (with_reducible refine (Atoi_l hp ((st.getD []).take i.toNat) Hp.out _ g (by simp; omega)).mono ?_)
    rintro _ w2 ⟨n, v, rfl, hn, hv, u2⟩
    replace h := h.nw u2
    replace g := g.upd u2
    replace c0 := h.c0
    replace f0 := h.fz 0
    have h1 : i ≤ (hd.size : Int) := by omega
    rcases hv with ⟨rfl, hv⟩ | ⟨⟨tv, pv, rfl⟩, hv⟩
    · by_cases he : Lib.itoa n = (st.getD []).take i.toNat
      · have hb : (Lib.itoa n == hp.toList) = true := by rw [bs_toList, Hp.out, he]; simp
        have Hn := Lib.hid (Wire.rNumber_some (least := least) Hi.out h0i (Wire.numOf_eq hv he))
        have He := Lib.hid he; clear he
        have Hv := Lib.hid hv; clear hv
        by_cases hlt : n < least
        · have hdl : decide (n < least) = true := by simpa using hlt
          go_wp2_with fail
          refine wp_region_nw (by kernel_rfl) (by kernel_rfl) ?_
          repeat (go_big_quiet_step ((go_at_call 67; exact later_call (Itoa_c n _ (g.upd (Later.nw _)) hn))))
          refine wpQuiet_nil ?_
          intro w3 u3
          replace u3 := later_out u3
          replace h := h.nw u3
          go_wp2_with fail
          (with_reducible refine (fail_c b st _ h).mono ?_)
          rintro _ w' ⟨rfl, h', u'⟩
          go_wp2_with fail
          go_ret
          rw [Hn.out, if_pos hlt]
          exact ⟨rfl, h', Nw.trans u1 (Nw.trans u2 (Nw.trans u3 u'))⟩
        · have hdl : decide (n < least) = false := by simpa using hlt
          go_wp2_with fail
          refine wp_region_nw (by kernel_rfl) (by kernel_rfl) ?_
          repeat (go_big_quiet_step ((go_at_call 67; exact later_call (Itoa_c n _ (g.upd (Later.nw _)) hn))))
          refine wpQuiet_nil ?_
          intro w3 u3
          replace u3 := later_out u3
          replace h := h.nw u3
          replace c0 := h.c0
          replace f0 := h.fz 0
          go_wp2_with fail
          go_ret
          rw [Hn.out, if_neg (by omega)]
          exact ⟨rfl, h.set0 _ _ hs (by rw [bs_extract_list, bs_list, List.take_of_length_le (by simp <;> omega)]; congr 1 <;> omega), Nw.trans u1 (Nw.trans u2 (Nw.trans u3 ((Upd.refl _ _).set1 h.1 _ _)))⟩
      · have hb : (Lib.itoa n == hp.toList) = false := by rw [bs_toList, Hp.out]; simpa using he
        have Hn := Lib.hid (Wire.numOf_ne hv he)
        have Hv := Lib.hid hv; clear hv
        have He := Lib.hid he; clear he
        go_wp2_with fail
        refine wp_region_nw (by kernel_rfl) (by kernel_rfl) ?_
        repeat (go_big_quiet_step ((go_at_call 67; exact later_call (Itoa_c n _ (g.upd (Later.nw _)) hn))))
        refine wpQuiet_nil ?_
        intro w3 u3
        replace u3 := later_out u3
        replace h := h.nw u3
        go_wp2_with fail
        (with_reducible refine (fail_c b st _ h).mono ?_)
        rintro _ w' ⟨rfl, h', u'⟩
        go_wp2_with fail
        go_ret
        rw [Wire.rNumber_none Hi.out h0i Hn.out]
        exact ⟨rfl, h', Nw.trans u1 (Nw.trans u2 (Nw.trans u3 u'))⟩
    · go_wp2_with fail
      go_quiet (fail)
      obtain ⟨w3, e3, u3⟩ := nw_drewN w2 nq
      rw [e3]; clear e3
      replace h := h.nw u3
      go_wp2_with fail
      (with_reducible refine (fail_c b st _ h).mono ?_)
      rintro _ w' ⟨rfl, h', u'⟩
      go_wp2_with fail
      go_ret
      rw [Wire.rNumber_none Hi.out (by assumption) (Wire.numOf_none hv)]
      exact ⟨rfl, h', Nw.trans u1 (Nw.trans u2 (Nw.trans u3 u'))⟩

set_option maxHeartbeats 400000 in
theorem close_c (b : Nat) (st : Wire.St) (c : UInt8) (w : World) (h : Rdr tR w b st) :
    Calls Tryd.prog 66 #[.pointer (some ⟨b, 0, none⟩), .string ⟨#[c]⟩] w fun e w' =>
      e = .returned (.tuple #[]) ∧ Rdr tR w' b (Wire.rClose st c) ∧ Upd (· = b) w w' := by
  have c0 := h.c0
  have c1 := h.c1
  have f0 := h.fz 0
  have f1 := h.fz 1
  go_enter Tryd.func66, Tryd.ntmps66
  go_wp2_with fail
  (with_reducible refine (CutPrefix_c _ _ _).mono ?_)
  rintro _ _ ⟨rfl, rfl⟩
  cases hp : Lib.hasPrefix (st.getD []) [c] with
  | false =>
    have ht := Wire.trimPrefix_no hp
    go_wp2_with fail
    (with_reducible refine (fail_c b st _ h.set_same).mono ?_)
    rintro _ w' ⟨rfl, h', u'⟩
    go_wp2_with fail
    go_end0
    rw [Wire.rClose_no hp]
    exact ⟨rfl, h', ((Upd.refl _ _).set1 h.1 _ _).trans u'⟩
  | true =>
    have hr := Wire.rClose_yes hp
    go_wp2_with fail
    go_end0
    rw [hr.2]
    exact ⟨rfl, h.set0 _ _ hr.1 (bs_list _), (Upd.refl _ _).set1 h.1 _ _⟩
end Go.Proofs.YtagmlemlagbfkaaDoor
namespace Go.Proofs.YtagmlemlagbfkaaDoor
open Go.RowKit
set_option linter.unusedVariables false
set_option linter.unusedSimpArgs false
attribute [local irreducible] Calls

theorem Num_r (b : Nat) (st : Wire.St) (w : World) (g : Gl w) (h : Rdr tR w b st) (hl : (st.getD []).length ≤ 9223372036854775807) :
    Calls Tryd.prog 53 #[.pointer (some ⟨b, 0, none⟩)] w fun e w' =>
      e = .returned (.int .i64 (Wire.rNum st).1) ∧ Rdr tR w' b (Wire.rNum st).2 ∧ Upd (· = b) w w' := by
  go_enter Tryd.func53, Tryd.ntmps53
  go_wp2_with fail
  (with_reducible refine (number_c b st 59 59 _ c59 _ g h hl).mono ?_)
  rintro _ w' ⟨rfl, h', u'⟩
  go_wp2_with fail
  go_ret
  exact ⟨rfl, h', u'⟩
set_option maxHeartbeats 400000 in
theorem Text_r (b : Nat) (st : Wire.St) (w : World) (g : Gl w) (h : Rdr tR w b st) (hl : (st.getD []).length ≤ 9223372036854775807) :
    Calls Tryd.prog 52 #[.pointer (some ⟨b, 0, none⟩)] w fun e w' =>
      e = .returned (.string ⟨(Wire.rText st).1.toArray⟩) ∧ Rdr tR w' b (Wire.rText st).2 ∧ Upd (· = b) w w' := by
  have hle := Wire.rNumber_le st 58 0
  have hn0 := Wire.rNumber_least st 58 0 (Int.le_refl 0)
  go_enter Tryd.func52, Tryd.ntmps52
  go_wp2_with fail
  (with_reducible refine (number_c b st 58 58 _ c58 _ g h hl).mono ?_)
  rintro _ w1 ⟨rfl, h1, u1⟩
  cases hq : Wire.rNumber st 58 0 with
  | mk n s1 =>
  rw [hq] at hle hn0 h1
  have Hq := Lib.hid hq; clear hq
  replace hle : (s1.getD []).length ≤ (st.getD []).length := hle
  replace hn0 : 0 ≤ n := hn0
  replace h1 : Rdr tR w1 b s1 := h1
  have c0 := h1.c0
  have c1 := h1.c1
  have f0 := h1.fz 0
  have f1 := h1.fz 1
  by_cases hfar : ((s1.getD []).length : Int) < n
  · go_wp2_with fail
    (with_reducible refine (fail_c b s1 _ h1).mono ?_)
    rintro _ w2 ⟨rfl, h2, u2⟩
    go_wp2_with fail
    go_ret
    have e : Wire.rText st = ([], none) := by
      cases s1 with
      | none => exact Wire.rText_none Hq.out
      | some r => exact Wire.rText_far Hq.out hfar
    rw [e]
    exact ⟨rfl, h2, u1.trans u2⟩
  · have hs1 : s1 = none → n = 0 := fun e => Wire.rNumber_zero (by rw [Hq.out, e])
    have h2 : ∀ s : ByteArray, s.data.toList = (s1.getD []).drop n.toNat → Rdr tR (w1.setCell ⟨b, 0, none⟩ (.string s)) b (s1.map fun r => r.drop n.toNat) := fun s hs => by
      refine h1.setr s _ (by cases s1 <;> rfl) ?_
      rw [hs]
      cases s1 <;> simp
    have Hs1 := Lib.hid hs1; clear hs1
    have H2 := Lib.hid h2; clear h2
    go_wp2_with fail
    (with_reducible refine (close_c b (s1.map fun r => r.drop n.toNat) 44 _ (H2.out _ (by rw [bs_extract_list, bs_list, List.take_of_length_le (by simp)]))).mono ?_)
    rintro _ w3 ⟨rfl, h3, u3⟩
    have d1 := h3.c1
    have hc : Wire.rText st = ((if (Wire.rClose (s1.map fun r => r.drop n.toNat) 44).isNone then [] else (s1.getD []).take n.toNat), Wire.rClose (s1.map fun r => r.drop n.toNat) 44) := by
      cases s1 with
      | none => exact Wire.rText_none Hq.out
      | some r =>
        cases hx : Wire.rClose (some (r.drop n.toNat)) 44 with
        | none => rw [Wire.rText_open Hq.out (by simpa using hfar) hx]; simp [hx]
        | some r' => rw [Wire.rText_ok Hq.out (by simpa using hfar) hx]; simp [hx]
    have Hc := Lib.hid hc; clear hc
    generalize Wire.rClose (s1.map fun r => r.drop n.toNat) 44 = s3 at *
    cases s3 with
    | none =>
      go_wp2_with fail
      go_ret
      rw [Hc.out]
      exact ⟨rfl, h3, u1.trans (((Upd.refl _ _).set1 h1.1 _ _).trans u3)⟩
    | some r3 =>
      go_wp2_with fail
      go_ret
      rw [Hc.out]
      refine ⟨?_, h3, u1.trans (((Upd.refl _ _).set1 h1.1 _ _).trans u3)⟩
      rw [show (Value.string (ByteArray.extract ⟨(s1.getD []).toArray⟩ 0 n.toNat)) = .string ⟨((s1.getD []).take n.toNat).toArray⟩ by rw [bs_extract]; simp]
      rfl
theorem Open_r (s : ByteArray) (l : List UInt8) (hs : s.data.toList = l) (w : World) (g : Gl w) :
    Calls Tryd.prog 51 #[.string s] w fun e w' => ∃ b, e = .returned (.pointer (some ⟨b, 0, none⟩)) ∧ w.heap.size ≤ b ∧ Rdr tR w' b (some l) ∧ Nw w w' := by
  go_enter Tryd.func51, Tryd.ntmps51
  go_wp2
  go_ret
  refine ⟨_, rfl, Nat.le_refl _, ⟨g.big, ?_⟩, (Upd.refl _ _).alloc _⟩
  rw [heap_new, ← bs_eta s, hs]
  rfl
end Go.Proofs.YtagmlemlagbfkaaDoor
namespace Go.Proofs.YtagmlemlagbfkaaDoor
open Go.RowKit
set_option linter.unusedVariables false
set_option linter.unusedSimpArgs false
attribute [local irreducible] Calls

/-- What lies before and after the crash that a call may begin with. -/
structure Came (B : Nat) (w : World) (r : DiskR) (D D1 : Dk.Disk) (w1 : World) (r1 : DiskR) : Prop where
  at0 : DiskAt B w r D
  at1 : DiskAt B w1 r1 D1
  db : r1.db = r.db
  upd : Upd r.foot w w1
  foot : ∀ j, r1.foot j → r.foot j ∨ w.heap.size ≤ j
theorem Came.to {B : Nat} {w w1 : World} {r r1 : DiskR} {D D1 : Dk.Disk} (h : Came B w r D D1 w1 r1) : DiskTo B r D1 w w1 := ⟨r1, h.at1, h.db, h.upd, h.foot⟩
theorem Came.then_ {B : Nat} {w w1 w2 : World} {r r1 : DiskR} {D D1 D2 : Dk.Disk} (h : Came B w r D D1 w1 r1) (h2 : DiskTo B r1 D2 w1 w2) : DiskTo B r D2 w w2 := DiskTo.then_ h.at0 h.at1 h.db h.upd h.foot h2
theorem DiskTo.came {B : Nat} {w w1 : World} {r : DiskR} {D D1 : Dk.Disk} (h0 : DiskAt B w r D) (h : DiskTo B r D1 w w1) : ∃ r1, Came B w r D D1 w1 r1 := by
  obtain ⟨r1, a, b, c, d⟩ := h
  exact ⟨r1, h0, a, b, c, d⟩
set_option maxHeartbeats 1000000 in
set_option maxRecDepth 100000 in
theorem sync_c {B : Nat} {w : World} {r : DiskR} {D : Dk.Disk} (h : DiskAt B w r D) (g : Gl w) (hB : B ≤ w.heap.size) {f : Int} (hf : I64 f) :
    Calls Tryd.prog 35 #[.pointer (some ⟨r.db, 0, none⟩), .int .i64 f] w fun e w' => e = .returned (.int .i64 (Dk.sync D f).2) ∧ DiskTo B r (Dk.sync D f).1 w w' := by
  have hgb := g.big
  have he := Lib.hid (ends_c h)
  have H := Lib.hid h
  have HB := Lib.hid hB
  have HF := Lib.hid hf
  clear h hB hf
  go_enter Tryd.func35, Tryd.ntmps35
  go_wp2_with fail
  (with_reducible refine (he.out).mono ?_)
  rintro _ w1 ⟨rfl, hT1⟩
  obtain ⟨r1, hcm⟩ := DiskTo.came H.out hT1
  have C1 := Lib.hid hcm
  clear hT1 he hcm
  generalize hE : Dk.ends D = E at *
  cases E with
  | true =>
    have hcome : Hid (Dk.crash (Dk.counted D) (Dk.counted D).keep = Dk.come D) := by show _ = _; unfold Dk.come; rw [hE, if_pos rfl, counted_keep]
    have c6 := C1.out.at1.cells.2.2.2.2.2.2
    rw [C1.out.db] at c6
    have hc := crash_c C1.out.at1 (g.upd C1.out.upd) (Nat.le_trans HB.out C1.out.upd.size) B w1.heap.size r1.kv (Dk.counted D).keep (keep_sl C1.out.at1) C1.out.at1.kI
    rw [C1.out.db] at hc
    obtain ⟨ak, ck, hkv⟩ := own_slD C1.out.at1.keep
    rw [hkv] at hc c6
    have Hc := Lib.hid hc
    clear hc hE
    go_wp2_with fail
    (with_reducible refine Hc.out.mono ?_)
    rintro _ w2 ⟨rfl, hT2⟩
    rw [hcome.out] at hT2
    obtain ⟨r2, hcm⟩ := DiskTo.came H.out (C1.out.then_ hT2)
    have C2 := Lib.hid hcm
    clear hT2 hcm Hc c6 hkv
    have hm := may_c C2.out.at1 f
    rw [C2.out.db] at hm
    have Hm := Lib.hid hm
    have hr0 : Dk.sync D f = if Dk.may (Dk.come D) f ≠ 0 then (Dk.come D, Dk.may (Dk.come D) f) else if 0 < (Dk.come D).lost then ({ Dk.come D with lost := (Dk.come D).lost - 1 }, 9) else (Dk.settle (Dk.come D) f ((Dk.come D).fs f).now, 0) := rfl
    generalize hD' : Dk.come D = D' at *
    clear hm hD'
    by_cases hm0 : Dk.may D' f = 0
    rotate_left
    · have hr : Hid (Dk.sync D f = (D', Dk.may D' f)) := by show _ = _; rw [hr0, if_pos hm0]
      have d0 : (Dk.may D' f == 0) = false := beq_eq_false_iff_ne.2 hm0
      have d1 : (Dk.may D' f != 0) = true := by simp [hm0]
      clear hm0 hr0
      go_wp2_with fail
      (with_reducible refine Hm.out.mono ?_)
      rintro _ _ ⟨rfl, rfl⟩
      go_wp2_with fail
      go_ret
      exact ⟨by rw [hr.out]; rfl, by rw [hr.out]; exact C2.out.to⟩
    rw [hm0] at Hm
    have c3 := C2.out.at1.cells.2.2.2.1
    rw [C2.out.db] at c3
    have hlo := C2.out.at1.ok.lost
    by_cases hl : 0 < D'.lost
    · have hr : Hid (Dk.sync D f = ({ D' with lost := D'.lost - 1 }, 9)) := by show _ = _; rw [hr0, if_neg (by omega), if_pos hl]
      have hT := DiskTo.set (D' := { D' with lost := D'.lost - 1 }) C2.out.at1 3 (.int .i64 (D'.lost - 1)) rfl rfl rfl rfl ⟨C2.out.at1.ok.now, C2.out.at1.ok.last, C2.out.at1.ok.q, C2.out.at1.ok.nd, ⟨by dsimp only; omega, by dsimp only; omega⟩, C2.out.at1.ok.armed⟩
      have HT := Lib.hid (C2.out.then_ hT)
      rw [C2.out.db] at HT
      have f3 := C2.out.at1.frozen 3
      rw [C2.out.db] at f3
      have hl1 : 0 ≤ D'.lost - 1 := by omega
      have hl2 : D'.lost ≤ 9223372036854775807 := hlo.2
      clear hT hr0 hm0 hlo
      go_wp2_with fail
      (with_reducible refine Hm.out.mono ?_)
      rintro _ _ ⟨rfl, rfl⟩
      go_wp2_with fail
      go_ret
      exact ⟨by rw [hr.out]; rfl, by rw [hr.out]; exact HT.out⟩
    have hr : Hid (Dk.sync D f = (Dk.settle D' f (D'.fs f).now, 0)) := by show _ = _; rw [hr0, if_neg (by omega), if_neg hl]
    have c0 := C2.out.at1.cells.1
    rw [C2.out.db] at c0
    have hlk := C2.out.at1.files.look HF.out
    unfold filV at hlk
    have hfn := Lib.hid (field_now (D'.fs f) w2)
    have hst := settle_c C2.out.at1 (g.upd C2.out.upd) HF.out (D'.fs f).now (C2.out.at1.ok.now f) (Nat.le_trans HB.out C2.out.upd.size)
    rw [C2.out.db] at hst
    have Hlk := Lib.hid hlk
    have Hst := Lib.hid hst
    clear hlk hst hr0 hm0 hlo
    go_wp2_with fail
    (with_reducible refine Hm.out.mono ?_)
    rintro _ _ ⟨rfl, rfl⟩
    go_wp2_with (first | (at_lookup; refine wpList_lookL rfl _ _ tFiles false rfl _ _ _ rfl rfl Hlk.out ?_) | (with_reducible refine wpList_fieldL (o := ⟨some 40, _, _, _, _, _⟩) rfl _ tFile 0 rfl _ _ hfn.out (by with_unfolding_all rfl) ?_))
    (with_reducible refine Hst.out.mono ?_)
    rintro _ w4 ⟨rfl, hT4⟩
    go_wp2_with fail
    go_ret
    exact ⟨by rw [hr.out]; rfl, by rw [hr.out]; exact C2.out.then_ hT4⟩
  | false =>
    have hcome : Dk.counted D = Dk.come D := by unfold Dk.come; rw [hE, if_neg (by decide)]
    obtain ⟨w2, rfl⟩ : ∃ z, z = w1 := ⟨_, rfl⟩
    obtain ⟨r2, hcm⟩ := DiskTo.came H.out (by have := C1.out.to; rw [hcome] at this; exact this)
    have C2 := Lib.hid hcm
    clear hcm hE C1 hcome
    have hm := may_c C2.out.at1 f
    rw [C2.out.db] at hm
    have Hm := Lib.hid hm
    have hr0 : Dk.sync D f = if Dk.may (Dk.come D) f ≠ 0 then (Dk.come D, Dk.may (Dk.come D) f) else if 0 < (Dk.come D).lost then ({ Dk.come D with lost := (Dk.come D).lost - 1 }, 9) else (Dk.settle (Dk.come D) f ((Dk.come D).fs f).now, 0) := rfl
    generalize hD' : Dk.come D = D' at *
    clear hm hD'
    by_cases hm0 : Dk.may D' f = 0
    rotate_left
    · have hr : Hid (Dk.sync D f = (D', Dk.may D' f)) := by show _ = _; rw [hr0, if_pos hm0]
      have d0 : (Dk.may D' f == 0) = false := beq_eq_false_iff_ne.2 hm0
      have d1 : (Dk.may D' f != 0) = true := by simp [hm0]
      clear hm0 hr0
      go_wp2_with fail
      (with_reducible refine Hm.out.mono ?_)
      rintro _ _ ⟨rfl, rfl⟩
      go_wp2_with fail
      go_ret
      exact ⟨by rw [hr.out]; rfl, by rw [hr.out]; exact C2.out.to⟩
    rw [hm0] at Hm
    have c3 := C2.out.at1.cells.2.2.2.1
    rw [C2.out.db] at c3
    have hlo := C2.out.at1.ok.lost
    by_cases hl : 0 < D'.lost
    · have hr : Hid (Dk.sync D f = ({ D' with lost := D'.lost - 1 }, 9)) := by show _ = _; rw [hr0, if_neg (by omega), if_pos hl]
      have hT := DiskTo.set (D' := { D' with lost := D'.lost - 1 }) C2.out.at1 3 (.int .i64 (D'.lost - 1)) rfl rfl rfl rfl ⟨C2.out.at1.ok.now, C2.out.at1.ok.last, C2.out.at1.ok.q, C2.out.at1.ok.nd, ⟨by dsimp only; omega, by dsimp only; omega⟩, C2.out.at1.ok.armed⟩
      have HT := Lib.hid (C2.out.then_ hT)
      rw [C2.out.db] at HT
      have f3 := C2.out.at1.frozen 3
      rw [C2.out.db] at f3
      have hl1 : 0 ≤ D'.lost - 1 := by omega
      have hl2 : D'.lost ≤ 9223372036854775807 := hlo.2
      clear hT hr0 hm0 hlo
      go_wp2_with fail
      (with_reducible refine Hm.out.mono ?_)
      rintro _ _ ⟨rfl, rfl⟩
      go_wp2_with fail
      go_ret
      exact ⟨by rw [hr.out]; rfl, by rw [hr.out]; exact HT.out⟩
    have hr : Hid (Dk.sync D f = (Dk.settle D' f (D'.fs f).now, 0)) := by show _ = _; rw [hr0, if_neg (by omega), if_neg hl]
    have c0 := C2.out.at1.cells.1
    rw [C2.out.db] at c0
    have hlk := C2.out.at1.files.look HF.out
    unfold filV at hlk
    have hfn := Lib.hid (field_now (D'.fs f) w2)
    have hst := settle_c C2.out.at1 (g.upd C2.out.upd) HF.out (D'.fs f).now (C2.out.at1.ok.now f) (Nat.le_trans HB.out C2.out.upd.size)
    rw [C2.out.db] at hst
    have Hlk := Lib.hid hlk
    have Hst := Lib.hid hst
    clear hlk hst hr0 hm0 hlo
    go_wp2_with fail
    (with_reducible refine Hm.out.mono ?_)
    rintro _ _ ⟨rfl, rfl⟩
    go_wp2_with (first | (at_lookup; refine wpList_lookL rfl _ _ tFiles false rfl _ _ _ rfl rfl Hlk.out ?_) | (with_reducible refine wpList_fieldL (o := ⟨some 40, _, _, _, _, _⟩) rfl _ tFile 0 rfl _ _ hfn.out (by with_unfolding_all rfl) ?_))
    (with_reducible refine Hst.out.mono ?_)
    rintro _ w4 ⟨rfl, hT4⟩
    go_wp2_with fail
    go_ret
    exact ⟨by rw [hr.out]; rfl, by rw [hr.out]; exact C2.out.then_ hT4⟩
set_option maxHeartbeats 1000000 in
set_option maxRecDepth 100000 in
theorem truncate_c {B : Nat} {w : World} {r : DiskR} {D : Dk.Disk} (h : DiskAt B w r D) (g : Gl w) (hB : B ≤ w.heap.size) {f n : Int} (hf : I64 f) (hn : I64 n) :
    Calls Tryd.prog 39 #[.pointer (some ⟨r.db, 0, none⟩), .int .i64 f, .int .i64 n] w fun e w' => e = .returned (.int .i64 (Dk.truncate D f n).2) ∧ DiskTo B r (Dk.truncate D f n).1 w w' := by
  have hgb := g.big
  have he := Lib.hid (ends_c h)
  have H := Lib.hid h
  have HB := Lib.hid hB
  have HF := Lib.hid hf
  have HN := Lib.hid hn
  clear h hB hf hn
  go_enter Tryd.func39, Tryd.ntmps39
  go_wp2_with fail
  (with_reducible refine (he.out).mono ?_)
  rintro _ w1 ⟨rfl, hT1⟩
  obtain ⟨r1, hcm⟩ := DiskTo.came H.out hT1
  have C1 := Lib.hid hcm
  clear hT1 he hcm
  generalize hE : Dk.ends D = E at *
  cases E with
  | true =>
    have hcome : Hid (Dk.crash (Dk.counted D) (Dk.counted D).keep = Dk.come D) := by show _ = _; unfold Dk.come; rw [hE, if_pos rfl, counted_keep]
    have c6 := C1.out.at1.cells.2.2.2.2.2.2
    rw [C1.out.db] at c6
    have hc := crash_c C1.out.at1 (g.upd C1.out.upd) (Nat.le_trans HB.out C1.out.upd.size) B w1.heap.size r1.kv (Dk.counted D).keep (keep_sl C1.out.at1) C1.out.at1.kI
    rw [C1.out.db] at hc
    obtain ⟨ak, ck, hkv⟩ := own_slD C1.out.at1.keep
    rw [hkv] at hc c6
    have Hc := Lib.hid hc
    clear hc hE
    go_wp2_with fail
    (with_reducible refine Hc.out.mono ?_)
    rintro _ w2 ⟨rfl, hT2⟩
    rw [hcome.out] at hT2
    obtain ⟨r2, hcm⟩ := DiskTo.came H.out (C1.out.then_ hT2)
    have C2 := Lib.hid hcm
    clear hT2 hcm Hc c6 hkv
    have hm := may_c C2.out.at1 f
    rw [C2.out.db] at hm
    have Hm := Lib.hid hm
    have hr0 : Dk.truncate D f n = if Dk.may (Dk.come D) f ≠ 0 then (Dk.come D, Dk.may (Dk.come D) f) else if n < 0 ∨ ((((Dk.come D).fs f).now.length : Nat) : Int) < n then (Dk.come D, 1) else (Dk.settle (Dk.come D) f (((Dk.come D).fs f).now.take n.toNat), 0) := rfl
    generalize hD' : Dk.come D = D' at *
    clear hm hD'
    by_cases hm0 : Dk.may D' f = 0
    rotate_left
    · have hr : Hid (Dk.truncate D f n = (D', Dk.may D' f)) := by show _ = _; rw [hr0, if_pos hm0]
      have d0 : (Dk.may D' f == 0) = false := beq_eq_false_iff_ne.2 hm0
      have d1 : (Dk.may D' f != 0) = true := by simp [hm0]
      clear hm0 hr0
      go_wp2_with fail
      (with_reducible refine Hm.out.mono ?_)
      rintro _ _ ⟨rfl, rfl⟩
      go_wp2_with fail
      go_ret
      exact ⟨by rw [hr.out]; rfl, by rw [hr.out]; exact C2.out.to⟩
    rw [hm0] at Hm
    rw [if_neg (by omega)] at hr0
    clear hm0
    by_cases hn0 : n < 0
    · have hr : Hid (Dk.truncate D f n = (D', 1)) := by show _ = _; rw [hr0, if_pos (Or.inl hn0)]
      clear hr0
      go_wp2_with fail
      (with_reducible refine Hm.out.mono ?_)
      rintro _ _ ⟨rfl, rfl⟩
      go_wp2_with fail
      go_ret
      exact ⟨by rw [hr.out]; rfl, by rw [hr.out]; exact C2.out.to⟩
    have hsz := size_c C2.out.at1 HF.out
    rw [C2.out.db] at hsz
    have hse : Dk.size D' f = ((D'.fs f).now.length : Int) := rfl
    have Hsz := Lib.hid hsz
    clear hsz
    by_cases hn1 : ((D'.fs f).now.length : Int) < n
    · have hr : Hid (Dk.truncate D f n = (D', 1)) := by show _ = _; rw [hr0, if_pos (Or.inr hn1)]
      rw [← hse] at hn1
      clear hr0 hse
      go_wp2_with fail
      (with_reducible refine Hm.out.mono ?_)
      rintro _ _ ⟨rfl, rfl⟩
      go_wp2_with fail
      (with_reducible refine Hsz.out.mono ?_)
      rintro _ _ ⟨rfl, rfl⟩
      go_wp2_with fail
      go_ret
      exact ⟨by rw [hr.out]; rfl, by rw [hr.out]; exact C2.out.to⟩
    have hr : Hid (Dk.truncate D f n = (Dk.settle D' f ((D'.fs f).now.take n.toNat), 0)) := by show _ = _; rw [hr0, if_neg (by omega)]
    have c0 := C2.out.at1.cells.1
    rw [C2.out.db] at c0
    have hlk := C2.out.at1.files.look HF.out
    unfold filV at hlk
    have hfn := Lib.hid (field_now (D'.fs f) w2)
    have hnow := C2.out.at1.ok.now f
    have hst := settle_c C2.out.at1 (g.upd C2.out.upd) HF.out ((D'.fs f).now.take n.toNat) (by rw [List.length_take]; omega) (Nat.le_trans HB.out C2.out.upd.size)
    rw [C2.out.db] at hst
    have hxt : (({ data := (D'.fs f).now.toArray } : ByteArray).extract 0 n.toNat) = ⟨((D'.fs f).now.take n.toNat).toArray⟩ := by rw [bs_extract]; simp
    rw [← hxt] at hst
    have hn1' : ¬ Dk.size D' f < n := by rw [hse]; exact hn1
    have hn2 : n ≤ ((D'.fs f).now.length : Int) := by omega
    have Hlk := Lib.hid hlk
    have Hst := Lib.hid hst
    clear hlk hst hr0 hxt hnow hn1 hse
    go_wp2_with fail
    (with_reducible refine Hm.out.mono ?_)
    rintro _ _ ⟨rfl, rfl⟩
    go_wp2_with fail
    (with_reducible refine Hsz.out.mono ?_)
    rintro _ _ ⟨rfl, rfl⟩
    go_wp2_with (first | (at_lookup; refine wpList_lookL rfl _ _ tFiles false rfl _ _ _ rfl rfl Hlk.out ?_) | (with_reducible refine wpList_fieldL (o := ⟨some 39, _, _, _, _, _⟩) rfl _ tFile 0 rfl _ _ hfn.out (by with_unfolding_all rfl) ?_))
    (with_reducible refine Hst.out.mono ?_)
    rintro _ w4 ⟨rfl, hT4⟩
    go_wp2_with fail
    go_ret
    exact ⟨by rw [hr.out]; rfl, by rw [hr.out]; exact C2.out.then_ hT4⟩
  | false =>
    have hcome : Dk.counted D = Dk.come D := by unfold Dk.come; rw [hE, if_neg (by decide)]
    obtain ⟨w2, rfl⟩ : ∃ z, z = w1 := ⟨_, rfl⟩
    obtain ⟨r2, hcm⟩ := DiskTo.came H.out (by have := C1.out.to; rw [hcome] at this; exact this)
    have C2 := Lib.hid hcm
    clear hcm hE C1 hcome
    have hm := may_c C2.out.at1 f
    rw [C2.out.db] at hm
    have Hm := Lib.hid hm
    have hr0 : Dk.truncate D f n = if Dk.may (Dk.come D) f ≠ 0 then (Dk.come D, Dk.may (Dk.come D) f) else if n < 0 ∨ ((((Dk.come D).fs f).now.length : Nat) : Int) < n then (Dk.come D, 1) else (Dk.settle (Dk.come D) f (((Dk.come D).fs f).now.take n.toNat), 0) := rfl
    generalize hD' : Dk.come D = D' at *
    clear hm hD'
    by_cases hm0 : Dk.may D' f = 0
    rotate_left
    · have hr : Hid (Dk.truncate D f n = (D', Dk.may D' f)) := by show _ = _; rw [hr0, if_pos hm0]
      have d0 : (Dk.may D' f == 0) = false := beq_eq_false_iff_ne.2 hm0
      have d1 : (Dk.may D' f != 0) = true := by simp [hm0]
      clear hm0 hr0
      go_wp2_with fail
      (with_reducible refine Hm.out.mono ?_)
      rintro _ _ ⟨rfl, rfl⟩
      go_wp2_with fail
      go_ret
      exact ⟨by rw [hr.out]; rfl, by rw [hr.out]; exact C2.out.to⟩
    rw [hm0] at Hm
    rw [if_neg (by omega)] at hr0
    clear hm0
    by_cases hn0 : n < 0
    · have hr : Hid (Dk.truncate D f n = (D', 1)) := by show _ = _; rw [hr0, if_pos (Or.inl hn0)]
      clear hr0
      go_wp2_with fail
      (with_reducible refine Hm.out.mono ?_)
      rintro _ _ ⟨rfl, rfl⟩
      go_wp2_with fail
      go_ret
      exact ⟨by rw [hr.out]; rfl, by rw [hr.out]; exact C2.out.to⟩
    have hsz := size_c C2.out.at1 HF.out
    rw [C2.out.db] at hsz
    have hse : Dk.size D' f = ((D'.fs f).now.length : Int) := rfl
    have Hsz := Lib.hid hsz
    clear hsz
    by_cases hn1 : ((D'.fs f).now.length : Int) < n
    · have hr : Hid (Dk.truncate D f n = (D', 1)) := by show _ = _; rw [hr0, if_pos (Or.inr hn1)]
      rw [← hse] at hn1
      clear hr0 hse
      go_wp2_with fail
      (with_reducible refine Hm.out.mono ?_)
      rintro _ _ ⟨rfl, rfl⟩
      go_wp2_with fail
      (with_reducible refine Hsz.out.mono ?_)
      rintro _ _ ⟨rfl, rfl⟩
      go_wp2_with fail
      go_ret
      exact ⟨by rw [hr.out]; rfl, by rw [hr.out]; exact C2.out.to⟩
    have hr : Hid (Dk.truncate D f n = (Dk.settle D' f ((D'.fs f).now.take n.toNat), 0)) := by show _ = _; rw [hr0, if_neg (by omega)]
    have c0 := C2.out.at1.cells.1
    rw [C2.out.db] at c0
    have hlk := C2.out.at1.files.look HF.out
    unfold filV at hlk
    have hfn := Lib.hid (field_now (D'.fs f) w2)
    have hnow := C2.out.at1.ok.now f
    have hst := settle_c C2.out.at1 (g.upd C2.out.upd) HF.out ((D'.fs f).now.take n.toNat) (by rw [List.length_take]; omega) (Nat.le_trans HB.out C2.out.upd.size)
    rw [C2.out.db] at hst
    have hxt : (({ data := (D'.fs f).now.toArray } : ByteArray).extract 0 n.toNat) = ⟨((D'.fs f).now.take n.toNat).toArray⟩ := by rw [bs_extract]; simp
    rw [← hxt] at hst
    have hn1' : ¬ Dk.size D' f < n := by rw [hse]; exact hn1
    have hn2 : n ≤ ((D'.fs f).now.length : Int) := by omega
    have Hlk := Lib.hid hlk
    have Hst := Lib.hid hst
    clear hlk hst hr0 hxt hnow hn1 hse
    go_wp2_with fail
    (with_reducible refine Hm.out.mono ?_)
    rintro _ _ ⟨rfl, rfl⟩
    go_wp2_with fail
    (with_reducible refine Hsz.out.mono ?_)
    rintro _ _ ⟨rfl, rfl⟩
    go_wp2_with (first | (at_lookup; refine wpList_lookL rfl _ _ tFiles false rfl _ _ _ rfl rfl Hlk.out ?_) | (with_reducible refine wpList_fieldL (o := ⟨some 39, _, _, _, _, _⟩) rfl _ tFile 0 rfl _ _ hfn.out (by with_unfolding_all rfl) ?_))
    (with_reducible refine Hst.out.mono ?_)
    rintro _ w4 ⟨rfl, hT4⟩
    go_wp2_with fail
    go_ret
    exact ⟨by rw [hr.out]; rfl, by rw [hr.out]; exact C2.out.then_ hT4⟩
end Go.Proofs.YtagmlemlagbfkaaDoor
namespace Go.Proofs.YtagmlemlagbfkaaDoor
open Go.RowKit
set_option linter.unusedVariables false
set_option linter.unusedSimpArgs false
attribute [local irreducible] Calls

theorem sum_step {m : Int} (h0 : 0 ≤ m) (h1 : m < 2147483647) (c : Nat) (hc : c < 256) (k : Nat) (hk : (k : Int) ≤ 1000000000) :
    (wrap64 (m + wrap64 (wrap64 (c : Int) * ((k : Int) + 1)))).tmod 2147483647 = (m + (c : Int) * ((k : Int) + 1)) % 2147483647 := by
  have a0 : 0 ≤ (c : Int) * ((k : Int) + 1) := Int.mul_nonneg (by omega) (by omega)
  have a1 : (c : Int) * ((k : Int) + 1) ≤ 255 * ((k : Int) + 1) := Int.mul_le_mul_of_nonneg_right (by omega) (by omega)
  have e0 : wrap64 (c : Int) = c := by unfold wrap64; omega
  rw [e0]
  generalize (c : Int) * ((k : Int) + 1) = x at *
  have e1 : wrap64 x = x := by unfold wrap64; omega
  rw [e1]
  have e2 : wrap64 (m + x) = m + x := by unfold wrap64; omega
  rw [e2, Int.tmod_eq_emod_of_nonneg (by omega)]
set_option maxRecDepth 100000 in
theorem Sum_c (s : List UInt8) (hs : s.length ≤ 1000000000) (w : World) :
    Calls Tryd.prog 54 #[.string ⟨s.toArray⟩] w fun e w' => e = .returned (.int .i64 (Jr.sumN s)) ∧ w = w' := by
  have hs1 : (s.length : Int) ≤ 1000000000 := by omega
  have hs0 : (0 : Int) ≤ s.length := by omega
  clear hs
  go_enter Tryd.func54, Tryd.ntmps54
  go_wp2_with fail
  go_loopw [3, 7] (fun nv iv wr => ∃ k : Nat, k ≤ s.length ∧ iv = .int .i64 k ∧ nv = .int .i64 (Jr.sumN (s.take k)) ∧ w = wr) (fun _ iv _ => s.length - (intOf iv).toNat)
  case atStart => exact ⟨0, Nat.zero_le _, rfl, rfl, rfl⟩
  case round =>
    obtain ⟨k, hk, rfl, rfl, rfl⟩ := hrel
    have hb := Jr.sumN_bd (s.take k)
    by_cases hlt : k < s.length
    · have hn : Jr.sumN (s.take (k + 1)) = (Jr.sumN (s.take k) + s[k].toNat * ((k : Int) + 1)) % 2147483647 := by
        rw [List.take_succ_eq_append_getElem hlt, Jr.sumN_snoc, List.length_take, Nat.min_eq_left (Nat.le_of_lt hlt)]
      have hc : s[k].toNat < 256 := s[k].toNat_lt
      go_wp2_with fail
      go_roundw
      case rel => 
        refine ⟨k + 1, by omega, by go_num, ?_, trivial⟩
        rw [hn]
        exact congrArg (Value.int .i64) (sum_step hb.1 hb.2 s[k].toNat hc k (by omega))
      case measure => simp [intOf]; omega
    · obtain rfl : k = s.length := by omega
      have ht : s.take s.length = s := List.take_length
      rw [ht]
      go_wp2_with fail
      go_ret
      exact ⟨rfl, rfl⟩
set_option maxRecDepth 100000 in
theorem form_c (s : List UInt8) (hs : s.length ≤ 1000000000) (w : World) (g : Gl w) :
    Calls Tryd.prog 41 #[.string ⟨s.toArray⟩] w fun e w' => e = .returned (.string ⟨(Jr.form s).toArray⟩) ∧ Nw w w' := by
  have ht := Lib.hid (Text_e ⟨s.toArray⟩ s (bs_list s) w g (by omega))
  have hb := Jr.sumN_bd s
  have hf := Jr.form_len s (by omega)
  unfold Jr.form at hf
  rw [List.length_append] at hf
  have hf1 : (Wire.textE s).length ≤ 1000000043 := by omega
  have hf2 : (Wire.numE (Jr.sumN s)).length ≤ 1000000043 := by omega
  have hu := Lib.hid (fun z => Sum_c s hs z)
  have hI : Hid (I64 (Jr.sumN s)) := by show I64 _; unfold I64; omega
  clear hs hb hf
  go_enter Tryd.func41, Tryd.ntmps41
  go_wp2_with fail
  (with_reducible refine (ht.out).mono ?_)
  rintro _ w1 ⟨rfl, u1⟩
  go_wp2_with fail
  (with_reducible refine (hu.out _).mono ?_)
  rintro _ _ ⟨rfl, rfl⟩
  go_wp2_with fail
  (with_reducible refine (Num_e _ _ (g.upd u1) hI.out).mono ?_)
  rintro _ w2 ⟨rfl, u2⟩
  go_wp2_with fail
  go_ret
  refine ⟨ret_bs ?_, u1.trans u2⟩
  simp only [bs_append_list, bs_list]
  rfl
end Go.Proofs.YtagmlemlagbfkaaDoor
namespace Go.Proofs.YtagmlemlagbfkaaDoor
open Go.RowKit
set_option linter.unusedVariables false
set_option linter.unusedSimpArgs false
attribute [local irreducible] Calls

abbrev tStrJ : TypeId := 9
theorem infoStrJ : (Tryd.prog.info? tStrJ).map (fun i => (i.zero, i.size, i.bytes)) = some (some (.string ⟨#[]⟩), 1, 16) := by kernel_rfl
theorem rText_fst (st : Wire.St) : (Wire.rText st).1.length ≤ (st.getD []).length := by
  cases h : (Wire.rText st).2 with
  | none => rw [Wire.rText_fail h]; simp
  | some r' =>
    cases st with
    | none => simp [Wire.rText, Wire.rNumber] at h
    | some r =>
      have := Wire.rText_inv (r := r) (r' := r') (t := (Wire.rText (some r)).1) (by rw [← h])
      have e := congrArg List.length this
      simp only [List.length_append, Wire.textE, List.length_cons] at e
      simp only [Option.getD_some]
      omega
/-- What has been read so far. -/
def ReadI (s : List UInt8) (w wr : World) (lv : Value) (n : Nat) : Prop :=
  ∃ R rest, s = Jr.forms R ++ rest ∧ Jr.recs s = R ++ Jr.recs rest ∧ n = (Jr.forms R).length ∧ wr.ownsRow w.heap.size tStrJ 1 lv R.length (R.map bsV) ∧ Nw w wr
/-- What read answers. -/
def ReadDone (s : List UInt8) (w wr : World) (lv : Value) (n : Nat) : Prop :=
  n = (Jr.forms (Jr.recs s)).length ∧ wr.ownsRow w.heap.size tStrJ 1 lv (Jr.recs s).length ((Jr.recs s).map bsV) ∧ Nw w wr
theorem ReadI.done {s : List UInt8} {w wr : World} {lv : Value} {n : Nat} {R : List (List UInt8)} {rest : List UInt8} (e1 : s = Jr.forms R ++ rest) (e2 : Jr.recs s = R ++ Jr.recs rest) (e3 : n = (Jr.forms R).length) (e4 : wr.ownsRow w.heap.size tStrJ 1 lv R.length (R.map bsV)) (e5 : Nw w wr)
    (h : Jr.one rest = none) {wz : World} (u : Nw wr wz) : ReadDone s w wz lv n := by
  rw [Jr.recs_none h, List.append_nil] at e2
  unfold ReadDone
  rw [e2]
  exact ⟨e3, owns_updD e4 u (fun _ _ e => e), e5.trans u⟩
theorem one_far {rest : List UInt8} (h : 20000 < (Wire.rText (some rest)).1.length) : Jr.one rest = none := by
  unfold Jr.one; rw [if_neg (by omega)]
theorem one_num {rest : List UInt8} (h : ¬ (Wire.rNum (Wire.rText (some rest)).2).1 = Jr.sumN (Wire.rText (some rest)).1) : Jr.one rest = none := by
  unfold Jr.one; rw [if_neg (fun e => h e.2.2)]
theorem one_is {rest t : List UInt8} (h : Jr.one rest = some t) : t = (Wire.rText (some rest)).1 := by
  unfold Jr.one at h
  split at h
  · injection h with h; exact h.symm
  · cases h
theorem one_short {rest : List UInt8} (h : rest.length < (Jr.form (Wire.rText (some rest)).1).length) : Jr.one rest = none := by
  cases ho : Jr.one rest with
  | none => rfl
  | some t =>
    obtain ⟨r, e, _⟩ := Jr.one_inv ho
    rw [← one_is ho, e, List.length_append] at h
    omega
theorem one_other {rest : List UInt8} (h : ¬ rest.take (Jr.form (Wire.rText (some rest)).1).length = Jr.form (Wire.rText (some rest)).1) : Jr.one rest = none := by
  cases ho : Jr.one rest with
  | none => rfl
  | some t =>
    obtain ⟨r, e, _⟩ := Jr.one_inv ho
    refine absurd ?_ h
    rw [← one_is ho, e, List.take_left']
    rfl
set_option maxHeartbeats 1000000 in
set_option maxRecDepth 100000 in
theorem read_j (s : List UInt8) (hs : s.length ≤ 16777216) (w : World) (g : Gl w) :
    Calls Tryd.prog 38 #[.string ⟨s.toArray⟩] w fun e w' => ∃ v', e = .returned (.tuple #[v', .int .i64 (Jr.forms (Jr.recs s)).length]) ∧ w'.ownsRow w.heap.size tStrJ 1 v' (Jr.recs s).length ((Jr.recs s).map bsV) ∧ Nw w w' := by
  have hgb := g.big
  have hs1 : (s.length : Int) ≤ 16777216 := by omega
  have hs0 : (0 : Int) ≤ s.length := by omega
  have HS := Lib.hid hs
  clear hs
  have h0 : Hid (ReadI s w w (.slice none 0 0) 0) := ⟨[], s, rfl, rfl, rfl, World.ownsRow_nil _ _ _ _, Upd.refl _ _⟩
  go_enter Tryd.func38, Tryd.ntmps38
  go_wp2_with fail
  go_step3
  go_wp2_with fail
  go_step3
  go_wp2_with fail
  go_loopw [4, 5] (fun lv bv wr => ∃ n : Nat, bv = .int .i64 n ∧ Hid (ReadI s w wr lv n)) (fun _ bv _ => s.length - (intOf bv).toNat)
  case atStart => exact ⟨0, rfl, h0.out⟩
  case round =>
    obtain ⟨n, rfl, HI⟩ := hrel
    obtain ⟨R, rest, e1, e2, e3, e4, e5⟩ := HI.out
    have hnl : n + rest.length = s.length := by rw [e3, e1, List.length_append]
    obtain ⟨al, cl, rfl⟩ := own_slD e4
    have hR := Jr.len_forms R
    have hRl : R.length ≤ 16777216 := by have := HS.out; omega
    have HRl := Lib.hid hRl
    have Hown := Lib.hid e4
    have HU := Lib.hid e5
    have E1 := Lib.hid e1
    have E2 := Lib.hid e2
    have E3 := Lib.hid e3
    have Hnl := Lib.hid hnl
    clear hR hRl e4 e5 e2 e3
    by_cases hlt : n < s.length
    rotate_left
    · have hz : Hid (ReadDone s w wr (.slice al R.length cl) n) := by
        have hr : rest = [] := List.length_eq_zero_iff.1 (by omega)
        exact ReadI.done E1.out E2.out E3.out Hown.out HU.out (by rw [hr]; exact Jr.one_nil) (Upd.refl _ _)
      clear HI Hown E1 E2 E3 e1 Hnl
      go_wp2_with fail
      (try rw [Exit.noGoto_ret])
      go_ret2
      exact ⟨_, by rw [hz.out.1]; rfl, hz.out.2.1, hz.out.2.2⟩
    have hdrop : s.drop n = rest := by rw [e1, E3.out, List.drop_left]
    have gr := g.upd HU.out
    clear e1
    have hsl : Hid ((({ data := s.toArray } : ByteArray).extract n s.length).data.toList = rest) := by
      show _ = _
      rw [bs_extract, bs_list, ← hdrop, ← Hnl.out]
      exact List.take_of_length_le (by rw [hdrop]; omega)
    have hop := Open_r _ rest hsl.out wr gr
    have hrl : rest.length ≤ 16777216 := by have := HS.out; omega
    have Hop := Lib.hid hop
    have Hrl := Lib.hid hrl
    clear hdrop hop hrl hsl
    go_wp2_with fail
    (with_reducible refine (Hop.out).mono ?_)
    rintro _ w1 ⟨b, rfl, hb, hr1, n1⟩
    have g1 := gr.upd n1
    have Hb := Lib.hid hb
    clear hb Hop
    go_wp2_with fail
    (with_reducible refine (Text_r b (some rest) w1 g1 hr1 (by have := Hrl.out; simp only [Option.getD_some]; omega)).mono ?_)
    rintro _ w2 ⟨rfl, hr2, u2⟩
    have g2 := g1.upd u2
    have htl := rText_fst (some rest)
    have hst := Wire.rText_le (some rest)
    simp only [Option.getD_some] at htl hst
    have Hst := Lib.hid hst
    clear hst hr1
    go_wp2_with fail
    (with_reducible refine (Num_r b _ w2 g2 hr2 (by have := Hst.out; have := Hrl.out; omega)).mono ?_)
    rintro _ w3 ⟨rfl, _, u3⟩
    have g3 := g2.upd u3
    have hone : ∀ t nn : _, t = (Wire.rText (some rest)).1 → nn = (Wire.rNum (Wire.rText (some rest)).2).1 → (20000 < t.length → Jr.one rest = none) ∧ (¬ nn = Jr.sumN t → Jr.one rest = none) ∧ (rest.length < (Jr.form t).length → Jr.one rest = none) ∧ (¬ rest.take (Jr.form t).length = Jr.form t → Jr.one rest = none) := by
      rintro t nn rfl rfl
      exact ⟨one_far, one_num, one_short, one_other⟩
    have hone2 := Lib.hid (hone _ _ rfl rfl)
    have Htl := Lib.hid htl
    clear hone htl Hst hr2
    generalize (Wire.rNum (Wire.rText (some rest)).2).1 = nn at *
    generalize (Wire.rText (some rest)).1 = t at *
    have hfc := form_c t (by have := Htl.out; have := Hrl.out; omega) w3 g3
    have Hfc := Lib.hid hfc
    have Hfp := Lib.hid (Jr.form_pos t)
    have hfl := Jr.form_len t (by have := Htl.out; have := Hrl.out; omega)
    have U3 : Hid (Nw wr w3) := (n1.trans' u2 (fun j hj e => by subst e; have := Hb.out; omega)).trans' u3 (fun j hj e => by subst e; have := Hb.out; omega)
    have hfl1 : ((Jr.form t).length : Int) ≤ 16777300 := by have := Htl.out; have := Hrl.out; omega
    have hfl0 : (0 : Int) ≤ (Jr.form t).length := by omega
    clear hfc n1 u2 u3 hfl
    go_wp2_with fail
    (with_reducible refine (Hfc.out).mono ?_)
    rintro _ w4 ⟨rfl, u4⟩
    have U4 := Lib.hid (U3.out.trans u4)
    have hdone : Hid (Jr.one rest = none → Hid (ReadDone s w w4 (.slice al R.length cl) n)) := fun h => ReadI.done E1.out E2.out E3.out Hown.out HU.out h U4.out
    have hsum := Lib.hid (Sum_c t (by have := Htl.out; have := Hrl.out; omega))
    have ht1 : (t.length : Int) ≤ 16777216 := by have := Htl.out; have := Hrl.out; omega
    clear u4 Hfc
    by_cases hf1 : 20000 < t.length
    · have hf1' : (20000 : Int) < t.length := by omega
      have hz := hdone.out (hone2.out.1 hf1)
      clear hdone
      go_wp2_with fail
      (try rw [Exit.noGoto_ret])
      go_ret2
      exact ⟨_, by rw [hz.out.1]; rfl, hz.out.2.1, hz.out.2.2⟩
    have hf1' : ¬ (20000 : Int) < t.length := by omega
    have Hf1 := Lib.hid hf1
    clear hf1
    by_cases hf2 : nn = Jr.sumN t
    rotate_left
    · have hb1 : (nn == Jr.sumN t) = false := beq_eq_false_iff_ne.2 hf2
      have hb2 : (nn != Jr.sumN t) = true := by simp [hf2]
      have hz := hdone.out (hone2.out.2.1 hf2)
      clear hdone
      go_wp2_with fail
      (with_reducible refine (hsum.out _).mono ?_)
      rintro _ _ ⟨rfl, rfl⟩
      go_wp2_with fail
      (try rw [Exit.noGoto_ret])
      go_ret2
      exact ⟨_, by rw [hz.out.1]; rfl, hz.out.2.1, hz.out.2.2⟩
    have hb1 : (nn == Jr.sumN t) = true := beq_iff_eq.2 hf2
    have hb2 : (nn != Jr.sumN t) = false := by simp [hf2]
    clear hf2
    by_cases hf3 : rest.length < (Jr.form t).length
    · have h3 : (s.length : Int) - n < (Jr.form t).length := by have := Hnl.out; omega
      have hz := hdone.out (hone2.out.2.2.1 hf3)
      clear hdone hf3
      go_wp2_with fail
      (with_reducible refine (hsum.out _).mono ?_)
      rintro _ _ ⟨rfl, rfl⟩
      go_wp2_with fail
      (try rw [Exit.noGoto_ret])
      go_ret2
      exact ⟨_, by rw [hz.out.1]; rfl, hz.out.2.1, hz.out.2.2⟩
    have h3 : ¬ (s.length : Int) - n < (Jr.form t).length := by have := Hnl.out; omega
    have h4 : (n : Int) + (Jr.form t).length ≤ s.length := by have := Hnl.out; omega
    have h5 : n + (Jr.form t).length ≤ s.length := by have := Hnl.out; omega
    have hext : (({ data := s.toArray } : ByteArray).extract n (n + (Jr.form t).length)).data.toList = rest.take (Jr.form t).length := by
      rw [bs_extract, bs_list, E1.out, E3.out, List.drop_left, Nat.add_sub_cancel_left]
    have hj0 : (0 : Int) ≤ (n : Int) + (Jr.form t).length := by omega
    have htn : ((n : Int) + (Jr.form t).length).toNat = n + (Jr.form t).length := by omega
    have hsl2 : ∀ z : World, (Instr.slice 9 (.string ⟨s.toArray⟩) (some (.int .i64 n)) (some (.int .i64 ((n : Int) + (Jr.form t).length))) none).run Tryd.prog z = .ok (.string ⟨(rest.take (Jr.form t).length).toArray⟩) z := fun z => by
      have := run_slice_string (P := Tryd.prog) z 9 ⟨s.toArray⟩ .i64 .i64 (n : Int) ((n : Int) + (Jr.form t).length) Tryd.underlying9 (by omega) (by omega) (by rw [bs_size, bs_list]; exact h4)
      rw [htn, Int.toNat_natCast, ← bs_eta ((⟨s.toArray⟩ : ByteArray).extract n (n + (Jr.form t).length)), hext] at this
      exact this
    clear hf3 hj0 htn hext
    by_cases hf4 : rest.take (Jr.form t).length = Jr.form t
    rotate_left
    · have hz := hdone.out (hone2.out.2.2.2 hf4)
      have hq : (rest.take (Jr.form t).length == Jr.form t) = false := beq_eq_false_iff_ne.2 hf4
      generalize rest.take (Jr.form t).length = X at *
      clear hdone
      go_wp2_with fail
      (with_reducible refine (hsum.out _).mono ?_)
      rintro _ _ ⟨rfl, rfl⟩
      go_wp2_with fail
      (try rw [Exit.noGoto_ret])
      go_ret2
      exact ⟨_, by rw [hz.out.1]; rfl, hz.out.2.1, hz.out.2.2⟩
    rw [hf4] at hsl2
    have hrest : rest = Jr.form t ++ rest.drop (Jr.form t).length := by
      conv => lhs; rw [← List.take_append_drop (Jr.form t).length rest, hf4]
    have ho4 := Lib.hid (owns_updD Hown.out U4.out (fun _ _ e => e))
    have hnext : Hid (∀ v' w5, w5.ownsRow w.heap.size tStrJ 1 v' (R.length + 1) (R.map bsV ++ [bsV t]) → Nw w w5 → ReadI s w w5 v' (n + (Jr.form t).length)) := fun v' w5 o5 u5 => by
      refine ⟨R ++ [t], rest.drop (Jr.form t).length, ?_, ?_, ?_, ?_, u5⟩
      · rw [Jr.forms_snoc, List.append_assoc, ← hrest]; exact E1.out
      · rw [E2.out, List.append_assoc, hrest, Jr.recs_form (by have := Hf1.out; omega)]
        simp
      · rw [Jr.forms_snoc, List.length_append, ← E3.out]
      · rw [List.length_append, List.map_append]; exact o5
    have hW : w.heap.size ≤ w4.heap.size := Nat.le_trans HU.out.size U4.out.size
    have HWn := Lib.hid (HU.out.trans U4.out)
    clear hf4 hrest hdone
    go_wp2_with (first | (go_at_call 54; ((with_reducible refine (hsum.out _).mono ?_); rintro _ _ ⟨rfl, rfl⟩)) | (at_builtin; refine wpList_appL rfl _ _ 23 rfl w.heap.size tStrJ _ 1 16 Tryd.underlying23 infoStrJ rfl (by decide) _ _ _ rfl ho4.out [bsV t] rfl rfl ?c1 ?c2 ?c3 hW hgb ?_))
    case c1 => intro u hu; rw [List.mem_singleton.1 hu]; rfl
    case c2 => have := HRl.out; unfold maxLen; omega
    case c3 => have := HRl.out; omega
    intro v' w5 o5 u5 hob
    have hn5 := Lib.hid (hnext.out v' w5 o5 (HWn.out.trans' u5 (fun j hj e => by have := (ho4.out.lt j e).1; omega)))
    clear o5 u5 hob
    go_wp2_with fail
    go_roundw
    case rel => exact ⟨n + (Jr.form t).length, by go_num, hn5.out⟩
    case measure => have := Hfp.out; simp [intOf]; omega
end Go.Proofs.YtagmlemlagbfkaaDoor
namespace Go.Proofs.YtagmlemlagbfkaaDoor
open Go.RowKit
set_option linter.unusedVariables false
set_option linter.unusedSimpArgs false
attribute [local irreducible] Calls

section
variable {P : Program} {w : World} {ops : Array Oper} {rest : List Oper} {o : Oper} {a : Act} {Q : Exit → Act → World → Prop}
/-- 'make([]T, n)', elements of one cell. -/
theorem wpList_makeE (hgd : o.guard = none) (l c : Operand) (t e : TypeId) (z : Value) (bytes : Nat) (hop : o.op = Op.makeSlice t l c) (ht : P.underlying t = some (.slice e)) (hinfo : (P.info? e).map (fun i => (i.zero, i.size, i.bytes)) = some (some z, 1, bytes))
    (n : Nat) (hl : a.eval l = .int .i64 n) (hc : a.eval c = .int .i64 n) (hn : n ≤ 281474976710656) (hb : n * bytes ≤ 281474976710656)
    (h : ∀ w', w'.heap[w.heap.size]? = some (.cells (madeCells z.cells n) e (0, 0)) → Nw w w' → wpList P ops Q rest (a.put o.dst (.slice (some ⟨w.heap.size, 0, none⟩) n n)) w') : wpList P ops Q (o :: rest) a w := by
  obtain ⟨i0, hi, hz0, hz1, hz2⟩ := info_parts hinfo
  have hrun := run_make (P := P) w t e i0 z ht hi hz0 .i64 .i64 n n (by omega) (Int.le_refl _) (by rw [hz2, Int.mul_comm]; have h2 := Int.ofNat_le.2 hb; rw [Int.natCast_mul] at h2; exact h2) (by omega)
  rw [Int.toNat_natCast, hz1, Nat.mul_one] at hrun
  refine wpList_plain hgd fun K hK => ?_
  unfold Oper.wp
  simp [execOp, hop, hl, hc, hrun, Result.andThen]
  exact hK _ _ (h _ (heap_new w _) (nw_alloc w _))
/-- 'copy(b, s)', b a row of as many elements as s. -/
theorem wpList_copyE (hgd : o.guard = none) (d s : Operand) (dT sT : TypeId) (ho : o.op = .call { callee := .builtin .copy, args := #[d, s], argTypes := #[dT, sT] }) (elem : TypeId) (hu : P.underlying dT = some (.slice elem)) (hsz : (P.info? elem).map (·.size) = some 1)
    (g n : Nat) (hd : a.eval d = .slice (some ⟨g, 0, none⟩) n n) (vs : Value) (B : Nat) (xs : List Value) (hs : a.eval s = vs) (hsrc : w.ownsRow B elem 1 vs n xs) (cur : Array Value) (T : TypeId) (hg : w.heap[g]? = some (.cells cur T (0, 0))) (hcur : cur.size = n) (h1 : ∀ v ∈ xs, v.oneCell' = true) (hG : nG ≤ g)
    (h : ∀ w', w'.heap[g]? = some (.cells xs.toArray T (0, 0)) → Upd (fun x => x = g) w w' → wpList P ops Q rest (a.put o.dst (goInt n)) w') : wpList P ops Q (o :: rest) a w := by
  obtain ⟨hl, hsrc2⟩ := hsrc
  rcases hsrc2 with ⟨rfl, rfl⟩ | ⟨gs, cap, cs, rfl, hb, hgs, hc, hm, hsz2, htk⟩
  · obtain rfl : xs = [] := List.eq_nil_of_length_eq_zero (by simpa using hl)
    refine wpList_copy_nothing hgd d s dT sT ho elem hu hsz _ _ _ _ _ _ hd hs (by simp) ?_
    refine h w ?_ (Upd.refl _ _)
    rw [hg, Array.eq_empty_of_size_eq_zero hcur]
  · have hlx : xs.length = n := by rw [hl, Nat.mul_one]
    refine wpList_copy_own hgd d s dT sT ho elem hu hsz g 0 n n ⟨gs, 0, none⟩ n cap hd hs cur T hg xs (by simp [hlx]) ?_ (by omega) h1 ?_
    · intro j v hv
      have hj : j < n := by rw [← hlx]; exact (List.getElem?_eq_some_iff.1 hv).1
      rw [add_plain, cells_cell hgs, Nat.zero_add]
      rw [← htk, List.getElem?_take, if_pos (by omega)] at hv
      simpa using hv
    · have e : (cur.toList.take 0 ++ (xs ++ cur.toList.drop (0 + xs.length))) = xs := by
        rw [List.take_zero, List.nil_append, Nat.zero_add, hlx, List.drop_of_length_le (by simp [hcur]), List.append_nil]
      rw [e, hlx]
      refine h _ (setRow_heap w g _ _ T _ hg) ⟨rfl, rfl, rfl, by simp [World.setRow], fun k hk hn => setRow_other w g k _ ?_⟩
      rintro rfl
      rcases hn with hn | hn
      · omega
      · exact hn rfl
end
/-! ### The journal -/
abbrev tJrn : TypeId := 86
structure JrnR where
  jb : Nat
  rv : Value
def JrnR.foot (x : JrnR) (k : Nat) : Prop := k = x.jb ∨ x.rv.ownBlock = some k
def jrnC (db : Nat) (x : JrnR) (j : Jr.Jn) : Array Value := #[.pointer (some ⟨db, 0, none⟩), .int .i64 j.file, x.rv, .int .i64 ((Jr.forms j.recs).length : Nat), .bool j.broken]
structure JrnOk (j : Jr.Jn) : Prop where
  file : 0 ≤ j.file ∧ j.file ≤ 15
  bytes : (Jr.forms j.recs).length ≤ 16777216
/-- In the blocks from B on lies the journal x on the disk db, in the state j. -/
structure JrnAt (B : Nat) (w : World) (db : Nat) (x : JrnR) (j : Jr.Jn) : Prop where
  hb : nG ≤ B
  jb : B ≤ x.jb
  blk : w.heap[x.jb]? = some (.cells (jrnC db x j) tJrn (0, 0))
  own : w.ownsRow B tStrJ 1 x.rv j.recs.length (j.recs.map bsV)
  ok : JrnOk j
section
variable {B db : Nat} {w w' : World} {x : JrnR} {j : Jr.Jn}
theorem JrnAt.foot_lt (h : JrnAt B w db x j) {k : Nat} (hk : x.foot k) : B ≤ k ∧ k < w.heap.size := by
  rcases hk with rfl | hk
  · exact ⟨h.jb, lt_of_block h.blk⟩
  · obtain ⟨h1, cs, h2⟩ := own_blockD h.own hk
    exact ⟨h1, lt_of_block h2⟩
theorem JrnAt.upd {S : Nat → Prop} (h : JrnAt B w db x j) (u : Upd S w w') (hs : ∀ k, x.foot k → ¬ S k) : JrnAt B w' db x j :=
  ⟨h.hb, h.jb, u.keep h.blk (hs _ (Or.inl rfl)), owns_updD h.own u (fun k hk => hs k (Or.inr hk)), h.ok⟩
theorem JrnAt.nw (h : JrnAt B w db x j) (u : Nw w w') : JrnAt B w' db x j := h.upd u (fun _ _ s => s)
theorem JrnAt.ne (h : JrnAt B w db x j) : x.rv.ownBlock ≠ some x.jb := fun e => by
  obtain ⟨_, cs, e2⟩ := own_blockD h.own e
  rw [h.blk] at e2
  injection e2 with e2
  injection e2 with _ e2
  exact absurd e2 (by decide)
theorem JrnAt.cells (h : JrnAt B w db x j) :
    w.cell? ⟨x.jb, 0, none⟩ = some (.pointer (some ⟨db, 0, none⟩)) ∧ w.cell? ⟨x.jb, 1, none⟩ = some (.int .i64 j.file) ∧ w.cell? ⟨x.jb, 2, none⟩ = some x.rv ∧ w.cell? ⟨x.jb, 3, none⟩ = some (.int .i64 ((Jr.forms j.recs).length : Nat)) ∧ w.cell? ⟨x.jb, 4, none⟩ = some (.bool j.broken) := by
  refine ⟨?_, ?_, ?_, ?_, ?_⟩ <;> (rw [cells_cell h.blk]; rfl)
theorem JrnAt.len (h : JrnAt B w db x j) : j.recs.length ≤ 16777216 := Nat.le_trans (Jr.len_forms _) h.ok.bytes
theorem hold_on {p : Prop} (h : ∀ _ : Unit, p) : p := h ()
set_option maxRecDepth 100000 in
theorem All_c (h : JrnAt B w db x j) (g : Gl w) : Calls Tryd.prog 23 #[.pointer (some ⟨x.jb, 0, none⟩)] w fun e w' => ∃ v', e = .returned v' ∧ w'.ownsRow w.heap.size tStrJ 1 v' j.recs.length (j.recs.map bsV) ∧ Nw w w' := by
  have hgb := g.big
  obtain ⟨_, _, c2, _, _⟩ := h.cells
  obtain ⟨a, c, hv⟩ := own_slD h.own
  have hl := h.len
  have hl1 : (j.recs.length : Int) ≤ 16777216 := by omega
  have hl0 : (0 : Int) ≤ j.recs.length := by omega
  rw [hv] at c2
  have H := Lib.hid h
  have Hl := Lib.hid hl
  clear h hl
  go_enter Tryd.func23, Tryd.ntmps23
  go_wp2_with (at_make; refine wpList_makeE rfl _ _ 23 tStrJ _ 16 rfl Tryd.underlying23 infoStrJ j.recs.length rfl rfl ?m1 ?m2 ?_)
  case m1 => have := Hl.out; omega
  case m2 => have := Hl.out; omega
  intro w1 k1 n1
  have o1 := owns_updD H.out.own n1 (fun _ _ e => e)
  rw [hv] at o1
  have c2' := ((H.out.nw n1).cells).2.2.1
  rw [hv] at c2'
  have O1 := Lib.hid o1
  have K1 := Lib.hid k1
  clear o1 k1
  go_wp2_with (refine wpList_copyE rfl _ _ 23 23 rfl tStrJ Tryd.underlying23 (by kernel_rfl) w.heap.size j.recs.length rfl (.slice a j.recs.length c) B (j.recs.map bsV) rfl O1.out _ tStrJ K1.out ?k1 ?k2 hgb ?_)
  case k1 => rw [size_madeCells]
  case k2 => intro u hu; obtain ⟨y, _, rfl⟩ := List.mem_map.1 hu; rfl
  intro w2 k2 u2
  have K2 := Lib.hid k2
  have U2 : Hid (Nw w w2) := n1.trans' u2 (fun k hk e => by omega)
  clear k2 u2
  go_wp2_with fail
  go_ret
  refine ⟨_, rfl, ⟨by simp, Or.inr ⟨w.heap.size, _, _, rfl, Nat.le_refl _, K2.out, Nat.le_refl _, by have := Hl.out; unfold maxLen; omega, by simp, ?_⟩⟩, U2.out⟩
  rw [Nat.mul_one]
  exact List.take_of_length_le (by simp)
end
/-! ### A journal and its disk -/
structure JSys (B : Nat) (w : World) (d : DiskR) (x : JrnR) (D : Dk.Disk) (j : Jr.Jn) : Prop where
  disk : DiskAt B w d D
  jrn : JrnAt B w d.db x j
  ap : ∀ k, d.foot k → ¬ x.foot k
/-- What a call makes of a journal and its disk. -/
def JTo (B : Nat) (d : DiskR) (x : JrnR) (D' : Dk.Disk) (j' : Jr.Jn) (w w' : World) : Prop :=
  ∃ d' x', JSys B w' d' x' D' j' ∧ d'.db = d.db ∧ x'.jb = x.jb ∧ Upd (fun k => d.foot k ∨ x.foot k) w w' ∧ ∀ k, d'.foot k ∨ x'.foot k → (d.foot k ∨ x.foot k) ∨ w.heap.size ≤ k
section
variable {B : Nat} {w w' w2 : World} {d : DiskR} {x : JrnR} {D D' : Dk.Disk} {j j' : Jr.Jn}
theorem JSys.nw (h : JSys B w d x D j) (u : Nw w w') : JSys B w' d x D j := ⟨h.disk.nw u, h.jrn.nw u, h.ap⟩
theorem JTo.refl (h : JSys B w d x D j) : JTo B d x D j w w := ⟨d, x, h, rfl, rfl, Upd.refl _ _, fun k hk => Or.inl hk⟩
theorem JTo.of_nw (h : JSys B w d x D j) (u : Nw w w') : JTo B d x D j w w' := ⟨d, x, h.nw u, rfl, rfl, Nw.upd _ u, fun k hk => Or.inl hk⟩
/-- A call that turns the disk alone. -/
theorem JSys.disk_to (h : JSys B w d x D j) (t : DiskTo B d D' w w') : JTo B d x D' j w w' := by
  obtain ⟨d', h1, h2, h3, h4⟩ := t
  refine ⟨d', x, ⟨h1, by rw [h2]; exact h.jrn.upd h3 (fun k hk hd => h.ap k hd hk), fun k hk hx => ?_⟩, h2, rfl, h3.mono (fun k _ e => Or.inl e), fun k hk => ?_⟩
  · rcases h4 k hk with e | e
    · exact h.ap k e hx
    · have := (h.jrn.foot_lt hx).2; omega
  · rcases hk with hk | hk
    · exact (h4 k hk).imp Or.inl id
    · exact Or.inl (Or.inr hk)
theorem JTo.then_ {w1 : World} {d1 : DiskR} {x1 : JrnR} (hd : d1.db = d.db) (hx : x1.jb = x.jb) (u : Upd (fun k => d.foot k ∨ x.foot k) w w1) (hf : ∀ k, d1.foot k ∨ x1.foot k → (d.foot k ∨ x.foot k) ∨ w.heap.size ≤ k) (t : JTo B d1 x1 D' j' w1 w2) : JTo B d x D' j' w w2 := by
  obtain ⟨d2, x2, k1, k2, k3, k4, k5⟩ := t
  have hs := u.size
  refine ⟨d2, x2, k1, k2.trans hd, k3.trans hx, u.trans' k4 (fun k hk e => (hf k e).elim id (fun e2 => by omega)), fun k hk => ?_⟩
  rcases k5 k hk with e | e
  · exact hf k e
  · exact Or.inr (by omega)
/-- A cell of the journal's block is stored into. -/
theorem JSys.store (h : JSys B w d x D j) {j' : Jr.Jn} (i : Nat) (v : Value) (hc : (jrnC d.db x j).setIfInBounds i v = jrnC d.db x j') (e1 : j'.recs = j.recs) (e2 : j'.file = j.file) : JTo B d x D j' w (w.setCell ⟨x.jb, i, none⟩ v) := by
  have hjb := h.jrn.jb
  have hb := h.jrn.hb
  have u : Upd (fun k => k = x.jb) w (w.setCell ⟨x.jb, i, none⟩ v) := Upd.set1 (Upd.refl _ _) (by omega) i v
  refine ⟨d, x, ⟨h.disk.upd u (fun k hk e => h.ap k hk (Or.inl e)), ⟨h.jrn.hb, h.jrn.jb, ?_, ?_, ⟨by rw [e2]; exact h.jrn.ok.file, by rw [e1]; exact h.jrn.ok.bytes⟩⟩, h.ap⟩, rfl, rfl, u.mono (fun k _ e => Or.inr (Or.inl e)), fun k hk => Or.inl hk⟩
  · rw [← hc]; exact setCell_block h.jrn.blk i v
  · rw [e1]; exact owns_updD h.jrn.own u (fun k hk e => by subst e; exact h.jrn.ne hk)
theorem JrnOk.i64 (h : JrnOk j) : I64 j.file := by have := h.file; unfold I64; omega
end
end Go.Proofs.YtagmlemlagbfkaaDoor
