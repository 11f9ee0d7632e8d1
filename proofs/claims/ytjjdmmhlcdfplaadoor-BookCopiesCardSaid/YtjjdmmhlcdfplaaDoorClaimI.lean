/- The contracts of the reference of layer 6: Text, Read. -/
import Derived.Test.YtjjdmmhlcdfplaaDoorClaimH
namespace Go.Proofs.YtjjdmmhlcdfplaaDoor
open Go.RowKit
set_option linter.unusedVariables false
set_option linter.unusedSimpArgs false
attribute [local irreducible] Calls

set_option maxHeartbeats 1000000 in
theorem ctext_q (c : Cl.Clm) (s : ByteArray) (hs : s.data.toList = c.text) (hi : I64C c) (w : World) (g : Gl w) :
    Calls Tryd.prog 62 #[.agg #[.int .i64 c.kind, .int .i64 c.n, .int .i64 c.time, .string s]] w fun e w' => e = .returned (.string ⟨(Cl.text c).toArray⟩) ∧ Nw w w' := by
  have hb := heap_new w (.cells #[.int .i64 c.kind, .int .i64 c.n, .int .i64 c.time, .string s] 59)
  have Hb := Lib.hid hb; clear hb
  have Hs := Lib.hid hs; clear hs
  have g0 := g.upd (nw_alloc w (.cells #[.int .i64 c.kind, .int .i64 c.n, .int .i64 c.time, .string s] 59))
  have hrb := Lib.hid (Cl.right_bounds (c := c))
  have htx : Cl.text c = if Cl.right c then Cl.enc c else [] := rfl
  have Htx := Lib.hid htx; clear htx
  go_enter Tryd.func62, Tryd.ntmps62
  go_wp2_with fail
  (with_reducible refine (right_q c s Hs.out hi _ g0).mono ?_)
  rintro _ w1 ⟨rfl, u1⟩
  have hb1 := u1.keep Hb.out
  replace u1 := (nw_alloc _ _).trans u1
  clear g0 Hb
  cases hr : Cl.right c with
  | false =>
    rw [hr] at Htx hrb
    go_wp2_with fail
    go_ret
    exact ⟨by rw [Htx.out]; rfl, u1⟩
  | true =>
    have hbd := hrb.out hr
    rw [hr] at Htx
    clear hrb hr
    have g1 := g.upd u1
    have c0 : ∀ i : Later w1, i.1.cell? ⟨w.heap.size, 0, none⟩ = some (.int .i64 c.kind) := fun i => by rw [cells_cell (i.nw.keep hb1)]; rfl
    have c1 : ∀ i : Later w1, i.1.cell? ⟨w.heap.size, 1, none⟩ = some (.int .i64 c.n) := fun i => by rw [cells_cell (i.nw.keep hb1)]; rfl
    have c2 : ∀ i : Later w1, i.1.cell? ⟨w.heap.size, 2, none⟩ = some (.int .i64 c.time) := fun i => by rw [cells_cell (i.nw.keep hb1)]; rfl
    have c3 : ∀ i : Later w1, i.1.cell? ⟨w.heap.size, 3, none⟩ = some (.string s) := fun i => by rw [cells_cell (i.nw.keep hb1)]; rfl
    have i1 : I64 c.kind := hi.k
    have i2 : I64 c.n := hi.n
    have i3 : I64 c.time := hi.t
    have hz : c.text.length ≤ 140737488351232 := by omega
    have l1 : (ByteArray.mk (Wire.numE c.kind).toArray).size ≤ 22 := by rw [bs_size, bs_list, Wire.numE, if_neg (by omega)]; have := itoa_le i1; simp only [Wire.intE, List.length_append, List.length_cons, List.length_nil]; omega
    have l2 : (ByteArray.mk (Wire.numE c.n).toArray).size ≤ 22 := by rw [bs_size, bs_list, Wire.numE, if_neg (by omega)]; have := itoa_le i2; simp only [Wire.intE, List.length_append, List.length_cons, List.length_nil]; omega
    have l3 : (ByteArray.mk (Wire.numE c.time).toArray).size ≤ 22 := by rw [bs_size, bs_list, Wire.numE, if_neg (by omega)]; have := itoa_le i3; simp only [Wire.intE, List.length_append, List.length_cons, List.length_nil]; omega
    have l4 : (ByteArray.mk (Wire.textE c.text).toArray).size ≤ 20100 := by rw [bs_size, bs_list]; have := itoa_le (n := (c.text.length : Int)) (by unfold I64; omega); simp only [Wire.textE, List.length_append, List.length_cons, List.length_nil]; omega
    have henc : Cl.enc c = (ByteArray.mk (Wire.numE c.kind).toArray).data.toList ++ ((ByteArray.mk (Wire.numE c.n).toArray).data.toList ++ ((ByteArray.mk (Wire.numE c.time).toArray).data.toList ++ (ByteArray.mk (Wire.textE c.text).toArray).data.toList)) := by simp only [bs_list]; rfl
    have q1 := Num_q c.kind
    have q2 := Num_q c.n
    have q3 := Num_q c.time
    have q4 := Text_q s c.text Hs.out
    generalize ByteArray.mk (Wire.numE c.kind).toArray = t1 at *
    generalize ByteArray.mk (Wire.numE c.n).toArray = t2 at *
    generalize ByteArray.mk (Wire.numE c.time).toArray = t3 at *
    generalize ByteArray.mk (Wire.textE c.text).toArray = t4 at *
    have Henc := Lib.hid henc; clear henc hbd
    have Q1 := Lib.hid q1; clear q1
    have Q2 := Lib.hid q2; clear q2
    have Q3 := Lib.hid q3; clear q3
    have Q4 := Lib.hid q4; clear q4
    go_wp2_with fail
    refine wp_region_nw (by kernel_rfl) (by kernel_rfl) ?_
    repeat (go_big_quiet_step ((first | (go_at_call 72; first | exact later_call (Q1.out _ i1) | exact later_call (Q2.out _ i2) | exact later_call (Q3.out _ i3)) | (go_at_call 73; exact later_call (Q4.out _ hz)))))
    refine wpQuiet_nil ?_
    intro w3 u3
    replace u3 := later_out u3
    go_wp2_with fail
    go_ret
    refine ⟨ret_bs ?_, u1.trans u3⟩
    rw [Htx.out, if_pos trivial, Henc.out]
    simp only [bs_append_list, List.append_assoc]
end Go.Proofs.YtjjdmmhlcdfplaaDoor
