/- The contracts of the reference's encoders (layer 1). The contracts of the reference's reader (layer 1): it does what the plain reader does. The contracts of the reference's reader (layer 1), second part: number, Num, Int, close, Text, Tail, Left, Done, Open. -/
import Derived.Test.YtagmlemlagbfkaaGreatDoorPk0
namespace Go.Proofs.YtagmlemlagbfkaaGreatDoor
open Go.RowKit
set_option linter.unusedVariables false
set_option linter.unusedSimpArgs false
attribute [local irreducible] Calls

theorem conv1 (w : World) (x : Int) (h0 : 0 ≤ x) (h1 : x < 256) :
    (convert 168 9 (.slice (some ⟨w.heap.size, 0, none⟩) 1 1)).run Tryz.prog (w.alloc (.cells #[.int .u8 x] 5)) = .ok (.string ⟨#[UInt8.ofNat x.toNat]⟩) (w.alloc (.cells #[.int .u8 x] 5)) := by
  refine run_convert_bytes_back (P := Tryz.prog) _ 168 9 5 ⟨w.heap.size, 0, none⟩ 1 [UInt8.ofNat x.toNat] Tryz.underlying168 Tryz.underlying5 Tryz.underlying9 fun j hj => ?_
  have hj0 : j = 0 := by simpa using hj
  subst hj0
  rw [add_plain, cells_cell (heap_new w _)]
  simp
  omega
theorem decDigits_step {u : Nat} (h : ¬ u < 10) : Lib.decDigits u = Lib.decDigits (u / 10) ++ [UInt8.ofNat (48 + u % 10)] := by
  conv => lhs; rw [Lib.decDigits, dif_neg h]
theorem decDigits_len {u : Nat} (h : u ≤ 9223372036854775808) : (Lib.decDigits u).length ≤ 21 := by
  have h2 : I64 (-(u : Int)) := by unfold I64; omega
  have := itoa_le h2
  by_cases h0 : u = 0
  · subst h0; rw [Lib.decDigits_one (by omega)]; simp
  · rw [Lib.itoa_neg u (by omega)] at this; simp at this; omega
set_option maxHeartbeats 400000 in
set_option maxRecDepth 100000 in
theorem digits_q (k : Nat) : ∀ (u : Nat) (n : Int) (w : World), u < k → n = -(u : Int) → u ≤ 9223372036854775808 →
    Calls Tryz.prog 138 #[.int .i64 n] w fun e w' => e = .returned (.string ⟨(Lib.decDigits u).toArray⟩) ∧ Nw w w' := by
  induction k with
  | zero => intro u n w hu; omega
  | succ k ih =>
    intro u n w hu hn hb
    have h0 : n ≤ 0 := by omega
    have h1 : -9223372036854775808 ≤ n := by omega
    have hd : n.tmod 10 = -((u % 10 : Nat) : Int) := by rw [hn, Int.neg_tmod]; rfl
    have hq : n.tdiv 10 = -((u / 10 : Nat) : Int) := by rw [hn, Int.neg_tdiv]; rfl
    have hd0 : -9 ≤ n.tmod 10 := by omega
    have hd1 : n.tmod 10 ≤ 0 := by omega
    have hcv := conv1 w (48 - n.tmod 10) (by omega) (by omega)
    have Hn := Lib.hid hn; clear hn
    have Hb := Lib.hid hb; clear hb
    have Ih := Lib.hid ih; clear ih
    have Hd := Lib.hid hd; clear hd
    have Hq := Lib.hid hq; clear hq
    have Hch : Hid (UInt8.ofNat (48 - n.tmod 10).toNat = UInt8.ofNat (48 + u % 10)) := by
      show _ = _
      rw [Hd.out]; congr 1; omega
    by_cases hs : n > -10
    · go_enter Tryz.func138, Tryz.ntmps138
      go_wp2_with fail
      go_ret
      refine ⟨ret_bs ?_, nw_alloc _ _⟩
      have := Hn.out
      rw [Lib.decDigits_one (by omega), Hch.out, show u % 10 = u by omega]
    · have hlen : (Lib.decDigits (u / 10)).length ≤ 21 := decDigits_len (by have := Hb.out; omega)
      go_enter Tryz.func138, Tryz.ntmps138
      go_wp2_with fail
      (with_reducible refine (Ih.out (u / 10) _ _ (by have := Hn.out; omega) Hq.out (by have := Hb.out; omega)).mono ?_)
      rintro _ w1 ⟨rfl, u1⟩
      go_wp2_with fail
      go_ret
      refine ⟨ret_bs ?_, (nw_alloc _ _).trans u1⟩
      have := Hn.out
      rw [bs_append_list, bs_list, Hch.out, decDigits_step (u := u) (by omega)]
theorem digitsTo_q (u : Nat) (n : Int) (w : World) (hn : n = -(u : Int)) (hb : u ≤ 9223372036854775808) :
    Calls Tryz.prog 138 #[.int .i64 n] w fun e w' => e = .returned (.string ⟨(Lib.decDigits u).toArray⟩) ∧ Nw w w' :=
  digits_q (u + 1) u n w (Nat.lt_succ_self u) hn hb
theorem decDigits_pos (u : Nat) : Lib.decDigits u = Lib.itoa (u : Int) := (Lib.itoa_nonneg u).symm
theorem Text_q (s : ByteArray) (l : List UInt8) (hs : s.data.toList = l) (w : World) (h : l.length ≤ 140737488351232) :
    Calls Tryz.prog 80 #[.string s] w fun e w' => e = .returned (.string ⟨(Wire.textE l).toArray⟩) ∧ Nw w w' := by
  have hz := bs_size s
  rw [hs] at hz
  have hl := decDigits_len (u := s.size) (by omega)
  have Hz := Lib.hid hz
  replace hz : s.size ≤ 140737488351232 := by omega
  go_enter Tryz.func80, Tryz.ntmps80
  go_wp2_with fail
  (with_reducible refine (digitsTo_q s.size _ _ rfl (by omega)).mono ?_)
  rintro _ w1 ⟨rfl, u1⟩
  go_wp2_with fail
  go_ret
  refine ⟨ret_bs ?_, u1⟩
  simp only [bs_append_list, bs_list, hs, Hz.out, decDigits_pos]
  rfl
end Go.Proofs.YtagmlemlagbfkaaGreatDoor
namespace Go.Proofs.YtagmlemlagbfkaaGreatDoor
open Go.RowKit
set_option linter.unusedVariables false
set_option linter.unusedSimpArgs false
attribute [local irreducible] Calls
end Go.Proofs.YtagmlemlagbfkaaGreatDoor
namespace Go.Proofs.YtagmlemlagbfkaaGreatDoor
open Go.RowKit
set_option linter.unusedVariables false
set_option linter.unusedSimpArgs false
attribute [local irreducible] Calls

end Go.Proofs.YtagmlemlagbfkaaGreatDoor
