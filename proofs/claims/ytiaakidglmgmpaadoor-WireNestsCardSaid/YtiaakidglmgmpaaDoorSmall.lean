/- The examples that the statements of layer 1 begin with: small returns true. -/
import Derived.Test.YtiaakidglmgmpaaDoorEnc
import Derived.Test.YtiaakidglmgmpaaDoorRdrC
import Derived.Test.YtiaakidglmgmpaaDoorWireEx
namespace Go.Proofs.YtiaakidglmgmpaaDoor
open Go.RowKit
set_option linter.unusedVariables false
set_option linter.unusedSimpArgs false
attribute [local irreducible] Calls

/-- A slice literal of two ints. -/
theorem sl_lit2 (w : World) (x y : Int) (e : TypeId) : Sl w.heap.size (w.heap.size + 1) (w.alloc (.cells #[.int .i64 x, .int .i64 y] e)) (.slice (some ⟨w.heap.size, 0, none⟩) 2 2) ([x, y].map (Value.int .i64)) := by
  refine Or.inr ⟨w.heap.size, 0, 2, rfl, by simp, by decide, Nat.le_refl _, by omega, by simp, fun i hi => ?_⟩
  rw [cells_cell (heap_new w _)]
  simp
theorem i64_lit (n : Int) (h : decide (-9223372036854775808 ≤ n ∧ n ≤ 9223372036854775807) = true) : I64 n := by have h' := of_decide_eq_true h; exact h'
set_option maxHeartbeats 1000000 in
theorem small_c (w : World) (g : Gl w) : Calls Tryd.prog 9 #[] w fun e w' => e = .returned (.bool true) ∧ Nw w w' := by
  have x1 := Wire.ex_num0
  have x2 := Wire.ex_num300
  have x3 := Wire.ex_num1
  have x4 := Wire.ex_int7
  have x5 := Wire.ex_int7'
  have x6 := Wire.ex_text
  have x7 := Wire.ex_nums
  have x8 := Wire.ex_texts
  have x9 := Wire.ex_read
  go_enter Tryd.func9, Tryd.ntmps9
  go_wp2_with fail
  (with_reducible refine (Num_e 0 _ g (i64_lit _ rfl)).mono ?_)
  rintro _ w1 ⟨rfl, u1⟩
  have g1 := g.upd u1
  go_wp2_with fail
  (with_reducible refine (Num_e 300 _ g1 (i64_lit _ rfl)).mono ?_)
  rintro _ w2 ⟨rfl, u2⟩
  have g2 := g1.upd u2
  replace u2 := u1.trans u2; clear u1 g1
  go_wp2_with fail
  (with_reducible refine (Num_e (-1) _ g2 (i64_lit _ rfl)).mono ?_)
  rintro _ w3 ⟨rfl, u3⟩
  have g3 := g2.upd u3
  replace u3 := u2.trans u3; clear u2 g2
  go_wp2_with fail
  (with_reducible refine (Int_e (-7) _ g3 (i64_lit _ rfl)).mono ?_)
  rintro _ w4 ⟨rfl, u4⟩
  have g4 := g3.upd u4
  replace u4 := u3.trans u4; clear u3 g3
  go_wp2_with fail
  (with_reducible refine (Int_e 7 _ g4 (i64_lit _ rfl)).mono ?_)
  rintro _ w5 ⟨rfl, u5⟩
  have g5 := g4.upd u5
  replace u5 := u4.trans u5; clear u4 g4
  go_wp2_with fail
  (with_reducible refine (Text_e _ [97, 44, 98] rfl _ g5 (by decide)).mono ?_)
  rintro _ w6 ⟨rfl, u6⟩
  have g6 := g5.upd u6
  replace u6 := u5.trans u6; clear u5 g5
  go_wp2_with fail
  (with_reducible refine (Nums_e w6.heap.size (w6.heap.size + 1) _ [1, -1] _ (g6.upd (nw_alloc _ _)) (sl_lit2 w6 1 (-1) _) (by intro n hn; simp at hn; unfold I64; omega) (by rw [Wire.ex_nums]; decide)).mono ?_)
  rintro _ w7 ⟨rfl, u7⟩
  replace u7 := (nw_alloc _ _).trans u7
  have g7 := g6.upd u7
  replace u7 := u6.trans u7; clear u6 g6
  go_wp2_with fail
  (with_reducible refine (Texts_e 0 0 _ [] _ g7 (Sl.nil _ _ _ _) (by rw [Wire.ex_texts]; decide)).mono ?_)
  rintro _ w8 ⟨rfl, u8⟩
  have g8 := g7.upd u8
  replace u8 := u7.trans u8; clear u7 g7
  go_wp2_with fail
  (with_reducible refine (Open_r _ [48, 48, 55, 59] rfl _ g8).mono ?_)
  rintro _ w9 ⟨b, rfl, hb, hr, u9⟩
  have g9 := g8.upd u9
  have hb0 : w.heap.size ≤ b := Nat.le_trans u8.size hb
  replace u9 := u8.trans u9; clear u8 g8
  go_wp2_with fail
  (with_reducible refine (Num_r b _ _ g9 hr (by decide)).mono ?_)
  rintro _ w10 ⟨rfl, hr1, u10⟩
  rw [Wire.ex_read] at hr1
  replace hr1 : Rdr tR w10 b none := hr1
  replace u10 : Nw w w10 := u9.trans' u10 (fun k hk e => by omega)
  go_wp2_with fail
  (with_reducible refine (Left_r tR b none _ hr1).mono ?_)
  rintro _ w11 ⟨rfl, rfl⟩
  go_wp2_with fail
  (with_reducible refine (Done_r b none _ hr1).mono ?_)
  rintro _ w11 ⟨rfl, rfl⟩
  go_wp2_with fail
  go_ret
  exact ⟨rfl, u10⟩
end Go.Proofs.YtiaakidglmgmpaaDoor
