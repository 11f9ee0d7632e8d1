/- The contracts of the encoders of layer 1: Int, Num, Text, list[int], list[string], Nums, Texts. -/
import Derived.Test.YtiaakidglmgmpaaDoorBld
import Derived.Test.YtiaakidglmgmpaaDoorWire
namespace Go.Proofs.YtiaakidglmgmpaaDoor
open Go.RowKit
set_option linter.unusedVariables false
set_option linter.unusedSimpArgs false
attribute [local irreducible] Calls

theorem Int_e (n : Int) (w : World) (g : Gl w) (h : I64 n) :
    Calls Tryd.prog 13 #[.int .i64 n] w fun e w' => e = .returned (.string ⟨(Wire.intE n).toArray⟩) ∧ Nw w w' := by
  have hl := itoa_le h
  go_enter Tryd.func13, Tryd.ntmps13
  go_wp2_with fail
  (with_reducible refine (Itoa_c n _ g h).mono ?_)
  rintro _ w1 ⟨rfl, u1⟩
  go_wp2_with fail
  go_ret
  exact ⟨rfl, u1⟩
theorem Num_e (n : Int) (w : World) (g : Gl w) (h : I64 n) :
    Calls Tryd.prog 11 #[.int .i64 n] w fun e w' => e = .returned (.string ⟨(Wire.numE n).toArray⟩) ∧ Nw w w' := by
  by_cases hn : n < 0
  · go_enter Tryd.func11, Tryd.ntmps11
    go_wp2_with fail
    go_ret
    rw [show Wire.numE n = [] from if_pos hn]
    exact ⟨rfl, Upd.refl _ _⟩
  · go_enter Tryd.func11, Tryd.ntmps11
    go_wp2_with fail
    (with_reducible refine (Int_e n _ g h).mono ?_)
    rintro _ w1 ⟨rfl, u1⟩
    go_wp2_with fail
    go_ret
    rw [show Wire.numE n = Wire.intE n from if_neg (by omega)]
    exact ⟨rfl, u1⟩
theorem Text_e (s : ByteArray) (l : List UInt8) (hs : s.data.toList = l) (w : World) (g : Gl w) (h : l.length ≤ 140737488351232) :
    Calls Tryd.prog 15 #[.string s] w fun e w' => e = .returned (.string ⟨(Wire.textE l).toArray⟩) ∧ Nw w w' := by
  have hz := bs_size s
  rw [hs] at hz
  have hi : I64 s.size := by unfold I64; omega
  have hl := itoa_le hi
  have Hz := Lib.hid hz
  replace hz : s.size ≤ 140737488351232 := by omega
  go_enter Tryd.func15, Tryd.ntmps15
  go_wp2_with fail
  (with_reducible refine (Itoa_c _ _ g hi).mono ?_)
  rintro _ w1 ⟨rfl, u1⟩
  go_wp2_with fail
  go_ret
  refine ⟨ret_bs ?_, u1⟩
  simp only [bs_append_list, bs_list, hs, Hz.out]
  rfl
set_option maxHeartbeats 400000 in
theorem listInt_e (lo hi : Nat) (v : Value) (l : List Int) (w : World) (g : Gl w) (hv : Sl lo hi w v (l.map (Value.int .i64))) (hl : ∀ n ∈ l, I64 n) (hb : (Wire.numsE l).length ≤ 140737488351232) :
    Calls Tryd.prog 46 #[v, .func (.func 13) #[] #[]] w fun e w' => e = .returned (.string ⟨(Wire.numsE l).toArray⟩) ∧ Nw w w' := by
  obtain ⟨a, cap, rfl, hm, ha⟩ := hv.open_
  rw [List.length_map] at hm ⊢
  unfold maxLen at hm
  have hI : I64 (l.length : Int) := by unfold I64; omega
  have hil := itoa_le hI
  have hB0 := Bld.fresh w
  have hbb : ∀ k, (Lib.itoa l.length ++ [91] ++ ((l.take k).map Wire.intE).flatten).length + 1 ≤ (Wire.numsE l).length := fun k => by
    have := Wire.flatten_take_le Wire.intE l k
    unfold Wire.numsE Wire.listE
    simp only [List.length_append, List.length_map, List.length_cons, List.length_nil]
    omega
  have Hbb := Lib.hid hbb; clear hbb
  go_enter Tryd.func46, Tryd.ntmps46
  go_wp2_with fail
  (with_reducible refine (Itoa_c _ _ (g.upd (nw_alloc _ _)) hI).mono ?_)
  rintro _ w1 ⟨rfl, u1⟩
  have hB := hB0.nw u1
  have u0 : Nw w w1 := (nw_alloc _ _).trans u1
  have hz1 := u0.size
  clear hB0 u1
  go_wp2_with fail
  (with_reducible refine (WriteString_c w.heap.size w.heap.size [] _ (Lib.itoa l.length ++ [91]) (by simp only [bs_append_list, bs_list]) _ hB (by simp; omega) hz1).mono ?_)
  rintro _ w2 ⟨rfl, hB2, b2⟩
  replace b2 := u0.below.trans b2
  clear hB u0 hz1
  go_wp2_with fail
  go_loopw [15] (fun i wr => ∃ k : Nat, k ≤ l.length ∧ i = .int .i64 k ∧ Bld w.heap.size w.heap.size (Lib.itoa l.length ++ [91] ++ ((l.take k).map Wire.intE).flatten) wr ∧ Below w.heap.size w wr) (fun i _ => l.length - (intOf i).toNat)
  case atStart => exact ⟨0, Nat.zero_le _, rfl, by simpa using hB2, b2⟩
  case round =>
    obtain ⟨k, hk, rfl, hBk, bk⟩ := hrel
    have hz := bk.size
    have gk := g.upd (Upd.of_below (fun _ => False) bk)
    have hbk := Hbb.out k
    by_cases hlt : k < l.length
    · rcases ha with ⟨_, _, hnil⟩ | ⟨b, off, rfl, _, _, hbl, hcell⟩
      · rw [List.map_eq_nil_iff] at hnil; simp [hnil] at hlt
      · have hc : wr.cell? ⟨b, off + k, none⟩ = some (.int .i64 l[k]) := by
          rw [bk.cell hbl, hcell k (by simpa using hlt)]; simp [hlt]
        have hIk := hl l[k] (List.getElem_mem hlt)
        have hlk := itoa_le hIk
        have hbk1 := Hbb.out (k + 1)
        have Hs := Lib.hid (Wire.flatten_take_succ Wire.intE l k hlt)
        generalize hx : l[k] = x at *
        clear hx
        have Hcell := Lib.hid hcell; clear hcell
        have Hl := Lib.hid hl; clear hl
        go_wp2_with fail
        (with_reducible refine (Int_e x _ gk hIk).mono ?_)
        rintro _ w3 ⟨rfl, u3⟩
        go_wp2_with fail
        (with_reducible refine (WriteString_c w.heap.size w.heap.size _ _ (Wire.intE x) (bs_list _) _ (hBk.nw u3) (by simp only [List.length_append] at hbk1; rw [Hs.out] at hbk1; simp only [List.length_append] at hbk1 ⊢; omega) (Nat.le_trans hz u3.size)).mono ?_)
        rintro _ w4 ⟨rfl, hB4, b4⟩
        go_wp2_with fail
        go_roundw
        case rel =>
          refine ⟨k + 1, by omega, by go_num, ?_, (bk.trans (Below.mono u3.below hz)).trans b4⟩
          rw [Hs.out, ← List.append_assoc]
          exact hB4
        case measure => simp [intOf]; omega
    · have hk' : k = l.length := by omega
      have hfin : Wire.numsE l = Lib.itoa l.length ++ [91] ++ ((l.take k).map Wire.intE).flatten ++ [93] := by
        rw [hk', List.take_length]; simp [Wire.numsE, Wire.listE]
      have Hfin := Lib.hid hfin; clear hfin hk' Hbb
      generalize Lib.itoa l.length ++ [91] ++ ((l.take k).map Wire.intE).flatten = pre at *
      go_wp2_with fail
      (with_reducible refine (String_c w.heap.size w.heap.size _ _ hBk hz).mono ?_)
      rintro _ w3 ⟨rfl, b3⟩
      go_wp2_with fail
      go_ret
      refine ⟨ret_bs ?_, Upd.of_below _ (bk.trans b3)⟩
      rw [Hfin.out]
      simp only [bs_append_list, bs_list]
set_option maxHeartbeats 400000 in
theorem listStr_e (lo hi : Nat) (v : Value) (l : List (List UInt8)) (w : World) (g : Gl w) (hv : Sl lo hi w v (l.map fun s => Value.string ⟨s.toArray⟩)) (hb : (Wire.textsE l).length ≤ 140737488351232) :
    Calls Tryd.prog 47 #[v, .func (.func 15) #[] #[]] w fun e w' => e = .returned (.string ⟨(Wire.textsE l).toArray⟩) ∧ Nw w w' := by
  obtain ⟨a, cap, rfl, hm, ha⟩ := hv.open_
  rw [List.length_map] at hm ⊢
  unfold maxLen at hm
  have hI : I64 (l.length : Int) := by unfold I64; omega
  have hil := itoa_le hI
  have hB0 := Bld.fresh w
  have hbb : ∀ k, (Lib.itoa l.length ++ [91] ++ ((l.take k).map Wire.textE).flatten).length + 1 ≤ (Wire.textsE l).length := fun k => by
    have := Wire.flatten_take_le Wire.textE l k
    unfold Wire.textsE Wire.listE
    simp only [List.length_append, List.length_map, List.length_cons, List.length_nil]
    omega
  have Hbb := Lib.hid hbb; clear hbb
  go_enter Tryd.func47, Tryd.ntmps47
  go_wp2_with fail
  (with_reducible refine (Itoa_c _ _ (g.upd (nw_alloc _ _)) hI).mono ?_)
  rintro _ w1 ⟨rfl, u1⟩
  have hB := hB0.nw u1
  have u0 : Nw w w1 := (nw_alloc _ _).trans u1
  have hz1 := u0.size
  clear hB0 u1
  go_wp2_with fail
  (with_reducible refine (WriteString_c w.heap.size w.heap.size [] _ (Lib.itoa l.length ++ [91]) (by simp only [bs_append_list, bs_list]) _ hB (by simp; omega) hz1).mono ?_)
  rintro _ w2 ⟨rfl, hB2, b2⟩
  replace b2 := u0.below.trans b2
  clear hB u0 hz1
  go_wp2_with fail
  go_loopw [15] (fun i wr => ∃ k : Nat, k ≤ l.length ∧ i = .int .i64 k ∧ Bld w.heap.size w.heap.size (Lib.itoa l.length ++ [91] ++ ((l.take k).map Wire.textE).flatten) wr ∧ Below w.heap.size w wr) (fun i _ => l.length - (intOf i).toNat)
  case atStart => exact ⟨0, Nat.zero_le _, rfl, by simpa using hB2, b2⟩
  case round =>
    obtain ⟨k, hk, rfl, hBk, bk⟩ := hrel
    have hz := bk.size
    have gk := g.upd (Upd.of_below (fun _ => False) bk)
    have hbk := Hbb.out k
    by_cases hlt : k < l.length
    · rcases ha with ⟨_, _, hnil⟩ | ⟨b, off, rfl, _, _, hbl, hcell⟩
      · rw [List.map_eq_nil_iff] at hnil; simp [hnil] at hlt
      · have hc : wr.cell? ⟨b, off + k, none⟩ = some (.string ⟨l[k].toArray⟩) := by
          rw [bk.cell hbl, hcell k (by simpa using hlt)]; simp [hlt]
        have hbk1 := Hbb.out (k + 1)
        have Hs := Lib.hid (Wire.flatten_take_succ Wire.textE l k hlt)
        generalize hx : l[k] = x at *
        clear hx
        have hxl : x.length ≤ 140737488351232 := by
          rw [Hs.out] at hbk1
          simp only [List.length_append, Wire.textE] at hbk1
          omega
        have hlk : (Wire.textE x).length ≤ 140737488351232 := by
          rw [Hs.out] at hbk1
          simp only [List.length_append] at hbk1 ⊢
          omega
        have Hcell := Lib.hid hcell; clear hcell
        go_wp2_with fail
        (with_reducible refine (Text_e _ x (bs_list _) _ gk hxl).mono ?_)
        rintro _ w3 ⟨rfl, u3⟩
        go_wp2_with fail
        (with_reducible refine (WriteString_c w.heap.size w.heap.size _ _ (Wire.textE x) (bs_list _) _ (hBk.nw u3) (by simp only [List.length_append] at hbk1; rw [Hs.out] at hbk1; simp only [List.length_append] at hbk1 ⊢; omega) (Nat.le_trans hz u3.size)).mono ?_)
        rintro _ w4 ⟨rfl, hB4, b4⟩
        go_wp2_with fail
        go_roundw
        case rel =>
          refine ⟨k + 1, by omega, by go_num, ?_, (bk.trans (Below.mono u3.below hz)).trans b4⟩
          rw [Hs.out, ← List.append_assoc]
          exact hB4
        case measure => simp [intOf]; omega
    · have hk' : k = l.length := by omega
      have hfin : Wire.textsE l = Lib.itoa l.length ++ [91] ++ ((l.take k).map Wire.textE).flatten ++ [93] := by
        rw [hk', List.take_length]; simp [Wire.textsE, Wire.listE]
      have Hfin := Lib.hid hfin; clear hfin hk' Hbb
      generalize Lib.itoa l.length ++ [91] ++ ((l.take k).map Wire.textE).flatten = pre at *
      go_wp2_with fail
      (with_reducible refine (String_c w.heap.size w.heap.size _ _ hBk hz).mono ?_)
      rintro _ w3 ⟨rfl, b3⟩
      go_wp2_with fail
      go_ret
      refine ⟨ret_bs ?_, Upd.of_below _ (bk.trans b3)⟩
      rw [Hfin.out]
      simp only [bs_append_list, bs_list]
theorem Nums_e (lo hi : Nat) (v : Value) (l : List Int) (w : World) (g : Gl w) (hv : Sl lo hi w v (l.map (Value.int .i64))) (hl : ∀ n ∈ l, I64 n) (hb : (Wire.numsE l).length ≤ 140737488351232) :
    Calls Tryd.prog 17 #[v] w fun e w' => e = .returned (.string ⟨(Wire.numsE l).toArray⟩) ∧ Nw w w' := by
  have Hl := Lib.hid hl; clear hl
  go_enter Tryd.func17, Tryd.ntmps17
  go_wp2_with fail
  (with_reducible refine (listInt_e lo hi v l _ g hv Hl.out hb).mono ?_)
  rintro _ w1 ⟨rfl, u1⟩
  go_wp2_with fail
  go_ret
  exact ⟨rfl, u1⟩
theorem Texts_e (lo hi : Nat) (v : Value) (l : List (List UInt8)) (w : World) (g : Gl w) (hv : Sl lo hi w v (l.map fun s => Value.string ⟨s.toArray⟩)) (hb : (Wire.textsE l).length ≤ 140737488351232) :
    Calls Tryd.prog 19 #[v] w fun e w' => e = .returned (.string ⟨(Wire.textsE l).toArray⟩) ∧ Nw w w' := by
  go_enter Tryd.func19, Tryd.ntmps19
  go_wp2_with fail
  (with_reducible refine (listStr_e lo hi v l _ g hv hb).mono ?_)
  rintro _ w1 ⟨rfl, u1⟩
  go_wp2_with fail
  go_ret
  exact ⟨rfl, u1⟩
end Go.Proofs.YtiaakidglmgmpaaDoor
