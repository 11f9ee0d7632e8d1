/- The contracts of layer 6's Key, limitsOf and Right. -/
import Derived.Test.YtjjdmmhlcdfplaaDoorRdrB
import Derived.Test.YtjjdmmhlcdfplaaDoorEnc
import Derived.Test.YtjjdmmhlcdfplaaDoorClaimQ
import Derived.Handy
namespace Go.Proofs.YtjjdmmhlcdfplaaDoor
open Go.RowKit
set_option linter.unusedVariables false
set_option linter.unusedSimpArgs false
attribute [local irreducible] Calls

theorem text_empty (w : World) (g : Gl w) : Calls Tryd.prog 31 #[.string ⟨#[]⟩] w fun e w' => e = .returned (.string ⟨#[48, 58, 44]⟩) ∧ Nw w w' := by
  refine (Text_e ⟨#[]⟩ [] rfl w g (by simp)).mono ?_
  rintro e w' ⟨rfl, u⟩
  exact ⟨by rw [Cl.zeroE_eq]; rfl, u⟩
theorem ret_pair {s : ByteArray} {a : List UInt8} {b b' : Bool} (h1 : s = ⟨a.toArray⟩) (h2 : b = b') : Ending.returned (.tuple #[.string s, .bool b]) = .returned (.tuple #[.string ⟨a.toArray⟩, .bool b']) := by rw [h1, h2]
set_option maxHeartbeats 400000 in
theorem key_c (s : ByteArray) (l : List UInt8) (hs : s.data.toList = l) (hl : l.length ≤ 9223372036854775807) (w : World) (g : Gl w) :
    Calls Tryd.prog 21 #[.string s] w fun e w' => e = .returned (.tuple #[.string ⟨(Cl.key l).1.toArray⟩, .bool (Cl.key l).2]) ∧ Nw w w' := by
  have hz : s.size = l.length := by rw [bs_size, hs]
  have Hz := Lib.hid hz
  have Hs := Lib.hid hs; clear hs
  have hke := Lib.hid (Cl.key_eq l)
  replace hl : ((some l : Wire.St).getD []).length ≤ 9223372036854775807 := hl
  go_enter Tryd.func21, Tryd.ntmps21
  go_wp2_with fail
  (with_reducible refine (Open_r s l Hs.out _ g).mono ?_)
  rintro _ w1 ⟨b, rfl, hb, h1, u1⟩
  have g1 := g.upd u1
  have hbw : w.heap.size ≤ b := hb
  go_wp2_with fail
  (with_reducible refine (Text_r b _ _ g1 h1 hl).mono ?_)
  rintro _ w2 ⟨rfl, h2, u2⟩
  replace u2 : Nw w w2 := u1.trans' u2 (fun k hk e => by omega)
  have g2 := g.upd u2
  clear h1 h2 u1 g1 hb
  generalize (Wire.rText (some l)).1 = k at *
  cases k with
  | nil =>
    by_cases h3 : 3 ≤ l.length
    · have hd : decide ((3 : Int) ≤ (l.length : Int)) = true := decide_eq_true (by omega)
      go_wp2_with fail
      refine wp_region_nw (by kernel_rfl) (by kernel_rfl) ?_
      repeat (go_big_quiet_step ((go_at_call 31; exact later_call (text_empty _ (g2.upd (Later.nw _))))))
      refine wpQuiet_nil ?_
      intro w3 u3
      replace u3 := later_out u3
      go_wp2_with fail
      go_ret2
      refine ⟨ret_pair (by rw [hke.out, if_pos trivial]) ?_, u2.trans u3⟩
      rw [hke.out, if_pos trivial]
      rw [show Cl.zeroE.length = 3 from rfl, decide_eq_true h3, Bool.true_and, bs_toList, bs_extract_list, Hs.out, List.drop_zero, Nat.sub_zero]
      exact Bool.eq_iff_iff.2 ⟨fun h => decide_eq_true (eq_of_beq h), fun h => beq_iff_eq.2 (of_decide_eq_true h)⟩
    · have hd : decide ((3 : Int) ≤ (l.length : Int)) = false := decide_eq_false (by omega)
      go_wp2_with fail
      refine wp_region_nw (by kernel_rfl) (by kernel_rfl) ?_
      repeat (go_big_quiet_step ((go_at_call 31; exact later_call (text_empty _ (g2.upd (Later.nw _))))))
      refine wpQuiet_nil ?_
      intro w3 u3
      replace u3 := later_out u3
      go_wp2_with fail
      go_ret2
      refine ⟨ret_pair (by rw [hke.out, if_pos trivial]) ?_, u2.trans u3⟩
      rw [hke.out, if_pos trivial]
      rw [show Cl.zeroE.length = 3 from rfl, decide_eq_false h3, Bool.false_and]
  | cons c r =>
    go_wp2_with fail
    go_ret2
    exact ⟨ret_pair (by rw [hke.out, if_neg (by simp)]) (by rw [hke.out, if_neg (by simp)]), u2⟩
/-- A claim, as its cells. -/
def clmV (c : Cl.Clm) : Value := .agg #[.int .i64 c.kind, .int .i64 c.n, .int .i64 c.time, .string ⟨c.text.toArray⟩]
structure I64C (c : Cl.Clm) : Prop where
  k : I64 c.kind
  n : I64 c.n
  t : I64 c.time
  z : c.text.length ≤ 9223372036854775807
def lim (k : Int) : Int × Int × Int × Bool :=
  if k = 0 then (199999, 0, 20000, true) else if k = 1 then (200000, 1073741824, 0, true) else if k = 2 then (200000, 0, 20000, true)
  else if k = 3 then (1073741824, 0, 20000, true) else if k = 4 then (1073741824, 1073741824, 20000, true) else (0, 0, 0, false)
theorem limits_c (k : Int) (w : World) (g : Gl w) : Calls Tryd.prog 47 #[.int .i64 k] w fun e w' => e = .returned (.tuple #[.agg #[.int .i64 (lim k).1, .int .i64 (lim k).2.1, .int .i64 (lim k).2.2.1], .bool (lim k).2.2.2]) ∧ Nw w w' := by
  have hb := g.big
  by_cases h0 : k = 0
  · subst h0
    go_enter Tryd.func47, Tryd.ntmps47
    go_wp2_with fail
    go_returns
    exact ⟨rfl, nw_alloc _ _⟩
  by_cases h1 : k = 1
  · subst h1
    go_enter Tryd.func47, Tryd.ntmps47
    go_wp2_with fail
    go_returns
    exact ⟨rfl, nw_alloc _ _⟩
  by_cases h2 : k = 2
  · subst h2
    go_enter Tryd.func47, Tryd.ntmps47
    go_wp2_with fail
    go_returns
    exact ⟨rfl, nw_alloc _ _⟩
  by_cases h3 : k = 3
  · subst h3
    go_enter Tryd.func47, Tryd.ntmps47
    go_wp2_with fail
    go_returns
    exact ⟨rfl, nw_alloc _ _⟩
  by_cases h4 : k = 4
  · subst h4
    go_enter Tryd.func47, Tryd.ntmps47
    go_wp2_with fail
    go_returns
    exact ⟨rfl, nw_alloc _ _⟩
  · go_enter Tryd.func47, Tryd.ntmps47
    go_wp2_with fail
    go_returns
    refine ⟨?_, nw_alloc _ _⟩
    simp only [lim, h0, h1, h2, h3, h4, if_false]
end Go.Proofs.YtjjdmmhlcdfplaaDoor
