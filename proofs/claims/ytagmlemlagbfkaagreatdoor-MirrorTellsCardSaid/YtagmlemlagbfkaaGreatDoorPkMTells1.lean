/- The contracts of layer 6's Key, limitsOf and Right. The contracts of layer 6's Right and Text. The contracts of layer 6's Text and Read. The contracts of layer 6's refutes and Contradict. -/
import Derived.Test.YtagmlemlagbfkaaGreatDoorPkMTells0
import Derived.Handy
namespace Go.Proofs.YtagmlemlagbfkaaGreatDoor
open Go.RowKit
set_option linter.unusedVariables false
set_option linter.unusedSimpArgs false
attribute [local irreducible] Calls

theorem text_empty (w : World) (g : Gl w) : Calls Tryz.prog 99 #[.string ⟨#[]⟩] w fun e w' => e = .returned (.string ⟨#[48, 58, 44]⟩) ∧ Nw w w' := by
  refine (Text_e ⟨#[]⟩ [] rfl w g (by simp)).mono ?_
  rintro e w' ⟨rfl, u⟩
  exact ⟨by rw [Cl.zeroE_eq]; rfl, u⟩
theorem ret_pair {s : ByteArray} {a : List UInt8} {b b' : Bool} (h1 : s = ⟨a.toArray⟩) (h2 : b = b') : Ending.returned (.tuple #[.string s, .bool b]) = .returned (.tuple #[.string ⟨a.toArray⟩, .bool b']) := by rw [h1, h2]
set_option maxHeartbeats 400000 in
theorem key_c (s : ByteArray) (l : List UInt8) (hs : s.data.toList = l) (hl : l.length ≤ 9223372036854775807) (w : World) (g : Gl w) :
    Calls Tryz.prog 125 #[.string s] w fun e w' => e = .returned (.tuple #[.string ⟨(Cl.key l).1.toArray⟩, .bool (Cl.key l).2]) ∧ Nw w w' := by
  have hz : s.size = l.length := by rw [bs_size, hs]
  have Hz := Lib.hid hz
  have Hs := Lib.hid hs; clear hs
  have hke := Lib.hid (Cl.key_eq l)
  replace hl : ((some l : Wire.St).getD []).length ≤ 9223372036854775807 := hl
  go_enter Tryz.func125, Tryz.ntmps125
  go_wp2_with fail
  (with_reducible refine (Open_r s l Hs.out _ g).mono ?_)
  rintro _ w1 ⟨b, rfl, hb, h1, u1⟩
  have g1 := g.upd u1
  have hbw : w.heap.size ≤ b := hb
  go_wp2_with fail
  (with_reducible refine (Text_r b _ _ g1 h1 hl).mono ?_)
  rintro _ w2 ⟨rfl, h2, u2⟩
  replace u2 : Nw w w2 := u1.trans' u2 (fun k hk e => by omega)
  have g2 := g.upd u2
  clear h1 h2 u1 g1 hb
  generalize (Wire.rText (some l)).1 = k at *
  cases k with
  | nil =>
    by_cases h3 : 3 ≤ l.length
    · have hd : decide ((3 : Int) ≤ (l.length : Int)) = true := decide_eq_true (by omega)
      go_wp2_with fail
      refine wp_region_nw (by kernel_rfl) (by kernel_rfl) ?_
      repeat (go_big_quiet_step ((go_at_call 99; exact later_call (text_empty _ (g2.upd (Later.nw _))))))
      refine wpQuiet_nil ?_
      intro w3 u3
      replace u3 := later_out u3
      go_wp2_with fail
      go_ret2
      refine ⟨ret_pair (by rw [hke.out, if_pos trivial]) ?_, u2.trans u3⟩
      rw [hke.out, if_pos trivial]
      rw [show Cl.zeroE.length = 3 from rfl, decide_eq_true h3, Bool.true_and, bs_toList, bs_extract_list, Hs.out, List.drop_zero, Nat.sub_zero]
      exact Bool.eq_iff_iff.2 ⟨fun h => decide_eq_true (eq_of_beq h), fun h => beq_iff_eq.2 (of_decide_eq_true h)⟩
    · have hd : decide ((3 : Int) ≤ (l.length : Int)) = false := decide_eq_false (by omega)
      go_wp2_with fail
      refine wp_region_nw (by kernel_rfl) (by kernel_rfl) ?_
      repeat (go_big_quiet_step ((go_at_call 99; exact later_call (text_empty _ (g2.upd (Later.nw _))))))
      refine wpQuiet_nil ?_
      intro w3 u3
      replace u3 := later_out u3
      go_wp2_with fail
      go_ret2
      refine ⟨ret_pair (by rw [hke.out, if_pos trivial]) ?_, u2.trans u3⟩
      rw [hke.out, if_pos trivial]
      rw [show Cl.zeroE.length = 3 from rfl, decide_eq_false h3, Bool.false_and]
  | cons c r =>
    go_wp2_with fail
    go_ret2
    exact ⟨ret_pair (by rw [hke.out, if_neg (by simp)]) (by rw [hke.out, if_neg (by simp)]), u2⟩
/-- A claim, as its cells. -/
def clmV (c : Cl.Clm) : Value := .agg #[.int .i64 c.kind, .int .i64 c.n, .int .i64 c.time, .string ⟨c.text.toArray⟩]
structure I64C (c : Cl.Clm) : Prop where
  k : I64 c.kind
  n : I64 c.n
  t : I64 c.time
  z : c.text.length ≤ 9223372036854775807
def lim (k : Int) : Int × Int × Int × Bool :=
  if k = 0 then (199999, 0, 20000, true) else if k = 1 then (200000, 1073741824, 0, true) else if k = 2 then (200000, 0, 20000, true)
  else if k = 3 then (1073741824, 0, 20000, true) else if k = 4 then (1073741824, 1073741824, 20000, true) else (0, 0, 0, false)
theorem limits_c (k : Int) (w : World) (g : Gl w) : Calls Tryz.prog 184 #[.int .i64 k] w fun e w' => e = .returned (.tuple #[.agg #[.int .i64 (lim k).1, .int .i64 (lim k).2.1, .int .i64 (lim k).2.2.1], .bool (lim k).2.2.2]) ∧ Nw w w' := by
  have hb := g.big
  by_cases h0 : k = 0
  · subst h0
    go_enter Tryz.func184, Tryz.ntmps184
    go_wp2_with fail
    go_returns
    exact ⟨rfl, nw_alloc _ _⟩
  by_cases h1 : k = 1
  · subst h1
    go_enter Tryz.func184, Tryz.ntmps184
    go_wp2_with fail
    go_returns
    exact ⟨rfl, nw_alloc _ _⟩
  by_cases h2 : k = 2
  · subst h2
    go_enter Tryz.func184, Tryz.ntmps184
    go_wp2_with fail
    go_returns
    exact ⟨rfl, nw_alloc _ _⟩
  by_cases h3 : k = 3
  · subst h3
    go_enter Tryz.func184, Tryz.ntmps184
    go_wp2_with fail
    go_returns
    exact ⟨rfl, nw_alloc _ _⟩
  by_cases h4 : k = 4
  · subst h4
    go_enter Tryz.func184, Tryz.ntmps184
    go_wp2_with fail
    go_returns
    exact ⟨rfl, nw_alloc _ _⟩
  · go_enter Tryz.func184, Tryz.ntmps184
    go_wp2_with fail
    go_returns
    refine ⟨?_, nw_alloc _ _⟩
    simp only [lim, h0, h1, h2, h3, h4, if_false]
end Go.Proofs.YtagmlemlagbfkaaGreatDoor
namespace Go.Proofs.YtagmlemlagbfkaaGreatDoor
open Go.RowKit
set_option linter.unusedVariables false
set_option linter.unusedSimpArgs false
attribute [local irreducible] Calls

def Bounds (c : Cl.Clm) (L T X : Int) : Prop := 0 ≤ c.n ∧ c.n ≤ L ∧ 0 ≤ c.time ∧ c.time ≤ T ∧ (c.text.length : Int) ≤ X
instance (c : Cl.Clm) (L T X : Int) : Decidable (Bounds c L T X) := by unfold Bounds; infer_instance
theorem right_lim {c : Cl.Clm} {L T X : Int} {is : Bool} (h : lim c.kind = (L, T, X, is)) : Cl.right c = (is && decide (Bounds c L T X) && (if c.kind = 0 then (Cl.key c.text).2 else true)) := by
  have hB : (decide (Bounds c L T X) = true) ↔ Bounds c L T X := decide_eq_true_iff
  rw [Bool.eq_iff_iff, Bool.and_eq_true, Bool.and_eq_true, hB]
  clear hB
  unfold Bounds Cl.right Cl.within
  unfold lim at h
  have e : c.text = [] ↔ c.text.length = 0 := by rw [List.length_eq_zero_iff]
  by_cases h0 : c.kind = 0
  · rw [if_pos h0] at h ⊢
    simp only [Prod.mk.injEq] at h
    obtain ⟨rfl, rfl, rfl, rfl⟩ := h
    rw [if_pos h0]
    simp only [Bool.and_eq_true, decide_eq_true_eq]
    constructor
    · intro h; exact ⟨⟨trivial, by omega⟩, h.2⟩
    · intro h; exact ⟨by omega, h.2⟩
  rw [if_neg h0] at h ⊢
  rw [if_neg h0]
  by_cases h1 : c.kind = 1
  · rw [if_pos h1] at h ⊢
    simp only [Prod.mk.injEq] at h
    obtain ⟨rfl, rfl, rfl, rfl⟩ := h
    simp only [Bool.and_eq_true, decide_eq_true_eq, e, true_and, and_true]
    omega
  rw [if_neg h1] at h ⊢
  by_cases h2 : c.kind = 2
  · rw [if_pos h2] at h ⊢
    simp only [Prod.mk.injEq] at h
    obtain ⟨rfl, rfl, rfl, rfl⟩ := h
    simp only [Bool.and_eq_true, decide_eq_true_eq, true_and, and_true]
    omega
  rw [if_neg h2] at h ⊢
  by_cases h3 : c.kind = 3
  · rw [if_pos h3] at h ⊢
    simp only [Prod.mk.injEq] at h
    obtain ⟨rfl, rfl, rfl, rfl⟩ := h
    simp only [Bool.and_eq_true, decide_eq_true_eq, true_and, and_true]
    omega
  rw [if_neg h3] at h ⊢
  by_cases h4 : c.kind = 4
  · rw [if_pos h4] at h ⊢
    simp only [Prod.mk.injEq] at h
    obtain ⟨rfl, rfl, rfl, rfl⟩ := h
    simp only [Bool.and_eq_true, decide_eq_true_eq, true_and, and_true]
    omega
  rw [if_neg h4] at h ⊢
  simp only [Prod.mk.injEq] at h
  obtain ⟨rfl, rfl, rfl, rfl⟩ := h
  simp
set_option maxHeartbeats 2000000 in
theorem right_c (c : Cl.Clm) (s : ByteArray) (hs : s.data.toList = c.text) (hi : I64C c) (w : World) (g : Gl w) :
    Calls Tryz.prog 133 #[.agg #[.int .i64 c.kind, .int .i64 c.n, .int .i64 c.time, .string s]] w fun e w' => e = .returned (.bool (Cl.right c)) ∧ Nw w w' := by
  obtain ⟨L, T, X, is, hlim⟩ : ∃ L T X is, lim c.kind = (L, T, X, is) := ⟨_, _, _, _, rfl⟩
  have hr := Lib.hid (right_lim hlim)
  have hb := heap_new w (.cells #[.int .i64 c.kind, .int .i64 c.n, .int .i64 c.time, .string s] 138)
  have Hb := Lib.hid hb; clear hb
  have hz : s.size = c.text.length := by rw [bs_size, hs]
  have Hz := Lib.hid hz; clear hz
  have Hs := Lib.hid hs; clear hs
  go_enter Tryz.func133, Tryz.ntmps133
  go_wp2_with fail
  (with_reducible refine (limits_c _ _ (g.upd (nw_alloc _ _))).mono ?_)
  rintro _ w1 ⟨rfl, u1⟩
  rw [hlim]
  have hb1 := u1.keep Hb.out
  have u1' := (nw_alloc _ _).trans u1
  have g1 := g.upd u1'
  have u2 := u1'.trans (nw_alloc w1 (.cells #[.int .i64 L, .int .i64 T, .int .i64 X] 261))
  have g2 := g.upd u2
  have hlt : w.heap.size < w1.heap.size := lt_of_block hb1
  have c0 : w1.cell? ⟨w.heap.size, 0, none⟩ = some (.int .i64 c.kind) := by rw [cells_cell hb1]; rfl
  have c1 : w1.cell? ⟨w.heap.size, 1, none⟩ = some (.int .i64 c.n) := by rw [cells_cell hb1]; rfl
  have c2 : w1.cell? ⟨w.heap.size, 2, none⟩ = some (.int .i64 c.time) := by rw [cells_cell hb1]; rfl
  have c3 : w1.cell? ⟨w.heap.size, 3, none⟩ = some (.string s) := by rw [cells_cell hb1]; rfl
  have hz := Hz.out
  have hzl := hi.z
  rw [← hz] at hzl
  have hB : Bounds c L T X ↔ (0 ≤ c.n ∧ c.n ≤ L ∧ 0 ≤ c.time ∧ c.time ≤ T ∧ (s.size : Int) ≤ X) := by unfold Bounds; rw [← hz]
  clear hz u1 hb1 Hb u1' g1 hlim hi
  cases is with
  | false =>
    go_wp2_with fail
    go_ret
    exact ⟨ret_bool (by rw [hr.out]; rfl), u2⟩
  | true =>
    by_cases hb : 0 ≤ c.n ∧ c.n ≤ L ∧ 0 ≤ c.time ∧ c.time ≤ T ∧ (s.size : Int) ≤ X
    · have hr2 : Hid (Cl.right c = (if c.kind = 0 then (Cl.key c.text).2 else true)) := by show _ = _; rw [hr.out, decide_eq_true (hB.2 hb)]; rfl
      clear hr hB
      obtain ⟨b1, b2, b3, b4, b5⟩ := hb
      by_cases hk : c.kind = 0
      · go_wp2_with fail
        (with_reducible refine (key_c s c.text Hs.out (by rw [← Hz.out]; exact hzl) _ g2).mono ?_)
        rintro _ w3 ⟨rfl, u3⟩
        go_wp2_with fail
        go_ret
        exact ⟨ret_bool (by rw [hr2.out, if_pos hk]), u2.trans u3⟩
      · go_wp2_with fail
        go_ret
        exact ⟨ret_bool (by rw [hr2.out, if_neg hk]), u2⟩
    · have hr2 : Hid (Cl.right c = false) := by show _ = _; rw [hr.out, decide_eq_false (fun h => hb (hB.1 h))]; rfl
      clear hr hB
      have hb5 : c.n < 0 ∨ L < c.n ∨ c.time < 0 ∨ T < c.time ∨ X < (s.size : Int) := by omega
      clear hb
      rcases hb5 with h | h | h | h | h
      all_goals go_wp2_with fail
      all_goals go_ret
      all_goals exact ⟨ret_bool hr2.out.symm, u2⟩
end Go.Proofs.YtagmlemlagbfkaaGreatDoor
namespace Go.Proofs.YtagmlemlagbfkaaGreatDoor
open Go.RowKit
set_option linter.unusedVariables false
set_option linter.unusedSimpArgs false
attribute [local irreducible] Calls

set_option maxHeartbeats 1000000 in
theorem text_c (c : Cl.Clm) (s : ByteArray) (hs : s.data.toList = c.text) (hi : I64C c) (w : World) (g : Gl w) :
    Calls Tryz.prog 210 #[.agg #[.int .i64 c.kind, .int .i64 c.n, .int .i64 c.time, .string s]] w fun e w' => e = .returned (.string ⟨(Cl.text c).toArray⟩) ∧ Nw w w' := by
  have hb := heap_new w (.cells #[.int .i64 c.kind, .int .i64 c.n, .int .i64 c.time, .string s] 138)
  have Hb := Lib.hid hb; clear hb
  have Hs := Lib.hid hs; clear hs
  have g0 := g.upd (nw_alloc w (.cells #[.int .i64 c.kind, .int .i64 c.n, .int .i64 c.time, .string s] 138))
  have hrb := Lib.hid (Cl.right_bounds (c := c))
  have htx : Cl.text c = if Cl.right c then Cl.enc c else [] := rfl
  have Htx := Lib.hid htx; clear htx
  go_enter Tryz.func210, Tryz.ntmps210
  go_wp2_with fail
  (with_reducible refine (right_c c s Hs.out hi _ g0).mono ?_)
  rintro _ w1 ⟨rfl, u1⟩
  have hb1 := u1.keep Hb.out
  replace u1 := (nw_alloc _ _).trans u1
  clear g0 Hb
  cases hr : Cl.right c with
  | false =>
    rw [hr] at Htx hrb
    go_wp2_with fail
    go_ret
    exact ⟨by rw [Htx.out]; rfl, u1⟩
  | true =>
    have hbd := hrb.out hr
    rw [hr] at Htx
    clear hrb hr
    have g1 := g.upd u1
    have c0 : ∀ i : Later w1, i.1.cell? ⟨w.heap.size, 0, none⟩ = some (.int .i64 c.kind) := fun i => by rw [cells_cell (i.nw.keep hb1)]; rfl
    have c1 : ∀ i : Later w1, i.1.cell? ⟨w.heap.size, 1, none⟩ = some (.int .i64 c.n) := fun i => by rw [cells_cell (i.nw.keep hb1)]; rfl
    have c2 : ∀ i : Later w1, i.1.cell? ⟨w.heap.size, 2, none⟩ = some (.int .i64 c.time) := fun i => by rw [cells_cell (i.nw.keep hb1)]; rfl
    have c3 : ∀ i : Later w1, i.1.cell? ⟨w.heap.size, 3, none⟩ = some (.string s) := fun i => by rw [cells_cell (i.nw.keep hb1)]; rfl
    have i1 : I64 c.kind := hi.k
    have i2 : I64 c.n := hi.n
    have i3 : I64 c.time := hi.t
    have hz : c.text.length ≤ 140737488351232 := by omega
    have l1 : (ByteArray.mk (Wire.numE c.kind).toArray).size ≤ 22 := by rw [bs_size, bs_list, Wire.numE, if_neg (by omega)]; have := itoa_le i1; simp only [Wire.intE, List.length_append, List.length_cons, List.length_nil]; omega
    have l2 : (ByteArray.mk (Wire.numE c.n).toArray).size ≤ 22 := by rw [bs_size, bs_list, Wire.numE, if_neg (by omega)]; have := itoa_le i2; simp only [Wire.intE, List.length_append, List.length_cons, List.length_nil]; omega
    have l3 : (ByteArray.mk (Wire.numE c.time).toArray).size ≤ 22 := by rw [bs_size, bs_list, Wire.numE, if_neg (by omega)]; have := itoa_le i3; simp only [Wire.intE, List.length_append, List.length_cons, List.length_nil]; omega
    have l4 : (ByteArray.mk (Wire.textE c.text).toArray).size ≤ 20100 := by rw [bs_size, bs_list]; have := itoa_le (n := (c.text.length : Int)) (by unfold I64; omega); simp only [Wire.textE, List.length_append, List.length_cons, List.length_nil]; omega
    have henc : Cl.enc c = (ByteArray.mk (Wire.numE c.kind).toArray).data.toList ++ ((ByteArray.mk (Wire.numE c.n).toArray).data.toList ++ ((ByteArray.mk (Wire.numE c.time).toArray).data.toList ++ (ByteArray.mk (Wire.textE c.text).toArray).data.toList)) := by simp only [bs_list]; rfl
    have q1 := Num_e c.kind
    have q2 := Num_e c.n
    have q3 := Num_e c.time
    have q4 := Text_e s c.text Hs.out
    generalize ByteArray.mk (Wire.numE c.kind).toArray = t1 at *
    generalize ByteArray.mk (Wire.numE c.n).toArray = t2 at *
    generalize ByteArray.mk (Wire.numE c.time).toArray = t3 at *
    generalize ByteArray.mk (Wire.textE c.text).toArray = t4 at *
    have Henc := Lib.hid henc; clear henc hbd
    have Q1 := Lib.hid q1; clear q1
    have Q2 := Lib.hid q2; clear q2
    have Q3 := Lib.hid q3; clear q3
    have Q4 := Lib.hid q4; clear q4
    go_wp2_with fail
    refine wp_region_nw (by kernel_rfl) (by kernel_rfl) ?_
    repeat (go_big_quiet_step ((first | (go_at_call 98; first | exact later_call (Q1.out _ (g1.upd (Later.nw _)) i1) | exact later_call (Q2.out _ (g1.upd (Later.nw _)) i2) | exact later_call (Q3.out _ (g1.upd (Later.nw _)) i3)) | (go_at_call 99; exact later_call (Q4.out _ (g1.upd (Later.nw _)) hz)))))
    refine wpQuiet_nil ?_
    intro w3 u3
    replace u3 := later_out u3
    go_wp2_with fail
    go_ret
    refine ⟨ret_bs ?_, u1.trans u3⟩
    rw [Htx.out, if_pos trivial, Henc.out]
    simp only [bs_append_list, List.append_assoc]
theorem rText_short (st : Wire.St) : (Wire.rText st).1.length ≤ (st.getD []).length := by
  cases h : Wire.rText st with
  | mk t s1 =>
  cases s1 with
  | none => have := Wire.rText_fail (st := st) (by rw [h]); rw [h] at this; rw [show t = [] from this]; simp
  | some r =>
    cases st with
    | none => cases h
    | some q =>
      have := Wire.rText_inv h
      show t.length ≤ q.length
      rw [this]; simp only [Wire.textE, List.length_append]; omega
theorem parts_ok {l : List UInt8} (h : l.length ≤ 9223372036854775807) : I64C (Cl.parts (some l)).1 := by
  refine ⟨Wire.rNumber_i64 _ 59 0, Wire.rNumber_i64 _ 59 0, Wire.rNumber_i64 _ 59 0, ?_⟩
  have h1 := Wire.rNumber_le (some l) 59 0
  have h2 := Wire.rNumber_le (Wire.rNum (some l)).2 59 0
  have h3 := Wire.rNumber_le (Wire.rNum (Wire.rNum (some l)).2).2 59 0
  exact Nat.le_trans (rText_short _) (Nat.le_trans h3 (Nat.le_trans h2 (Nat.le_trans h1 h)))
theorem read_eq (l : List UInt8) : Cl.read l = if (Cl.parts (some l)).2 = some [] ∧ Cl.right (Cl.parts (some l)).1 = true then ((Cl.parts (some l)).1, true) else (Cl.zero, false) := rfl
theorem read_results {w : World} {bp : Nat} {tmps : Array Value} {v0 v1 v2 v3 : Value} {T : TypeId} {fz : Nat × Nat} (h : w.heap[bp]? = some (.cells #[v0, v1, v2, v3] T fz)) (ht : tmps.getD 2 undef = .pointer (some ⟨bp, 0, none⟩)) :
    (results Tryz.f131 tmps).run Tryz.prog w = .ok (.tuple #[.agg #[v0, v1, v2, v3], tmps.getD 3 undef]) w := by
  have c0 : w.cell? ⟨bp, 0, none⟩ = some v0 := by rw [cells_cell h]; rfl
  have c1 : w.cell? ⟨bp, 1, none⟩ = some v1 := by rw [cells_cell h]; rfl
  have c2 : w.cell? ⟨bp, 2, none⟩ = some v2 := by rw [cells_cell h]; rfl
  have c3 : w.cell? ⟨bp, 3, none⟩ = some v3 := by rw [cells_cell h]; rfl
  clear h
  have ht2 : tmps[2]?.getD undef = .pointer (some ⟨bp, 0, none⟩) := by simpa using ht
  clear ht
  simp [results, Tryz.results131, go_sem, ht2, c0, c1, c2, c3]
theorem set4 {w : World} {bp : Nat} {a0 a1 a2 a3 v0 v1 v2 v3 : Value} {T : TypeId} {fz : Nat × Nat} (h : w.heap[bp]? = some (.cells #[a0, a1, a2, a3] T fz)) :
    ((((w.setCell ⟨bp, 0, none⟩ v0).setCell ⟨bp, 1, none⟩ v1).setCell ⟨bp, 2, none⟩ v2).setCell ⟨bp, 3, none⟩ v3).heap[bp]? = some (.cells #[v0, v1, v2, v3] T fz) :=
  setCell_block (setCell_block (setCell_block (setCell_block h 0 v0) 1 v1) 2 v2) 3 v3
theorem set4_nw {w w' : World} {bp : Nat} (u : Nw w w') (hb : w.heap.size ≤ bp) (hg : nG ≤ bp) (v0 v1 v2 v3 : Value) :
    Nw w ((((w'.setCell ⟨bp, 0, none⟩ v0).setCell ⟨bp, 1, none⟩ v1).setCell ⟨bp, 2, none⟩ v2).setCell ⟨bp, 3, none⟩ v3) :=
  Upd.new (Upd.new (Upd.new (Upd.new u hb hg 0 v0) hb hg 1 v1) hb hg 2 v2) hb hg 3 v3
def errV (b : Bool) : Value := .int .i64 (if b then 0 else 2)
set_option maxHeartbeats 1000000 in
theorem read_c (s : ByteArray) (l : List UInt8) (hs : s.data.toList = l) (hl : l.length ≤ 9223372036854775807) (w : World) (g : Gl w) :
    Calls Tryz.prog 131 #[.string s] w fun e w' => e = .returned (.tuple #[clmV (Cl.read l).1, errV (Cl.read l).2]) ∧ Nw w w' := by
  have Hs := Lib.hid hs; clear hs
  have hre := Lib.hid (read_eq l)
  have hp := parts_ok hl
  have hpe : Cl.parts (some l) = (⟨(Wire.rNum (some l)).1, (Wire.rNum (Wire.rNum (some l)).2).1, (Wire.rNum (Wire.rNum (Wire.rNum (some l)).2).2).1, (Wire.rText (Wire.rNum (Wire.rNum (Wire.rNum (some l)).2).2).2).1⟩, (Wire.rText (Wire.rNum (Wire.rNum (Wire.rNum (some l)).2).2).2).2) := rfl
  have q1 := Wire.rNumber_le (some l) 59 0
  have q2 := Wire.rNumber_le (Wire.rNum (some l)).2 59 0
  have q3 := Wire.rNumber_le (Wire.rNum (Wire.rNum (some l)).2).2 59 0
  have hl0 : ((some l : Wire.St).getD []).length ≤ 9223372036854775807 := hl
  have g0 := g.upd (nw_alloc w (.cells #[.int .i64 0, .int .i64 0, .int .i64 0, .string ⟨#[]⟩] 138))
  have hl1 : ((Wire.rNum (some l)).2.getD []).length ≤ 9223372036854775807 := Nat.le_trans q1 hl0
  have hl2 : ((Wire.rNum (Wire.rNum (some l)).2).2.getD []).length ≤ 9223372036854775807 := Nat.le_trans q2 hl1
  have hl3 : ((Wire.rNum (Wire.rNum (Wire.rNum (some l)).2).2).2.getD []).length ≤ 9223372036854775807 := Nat.le_trans q3 hl2
  clear q1 q2 q3
  have hbr := heap_new w (.cells #[.int .i64 0, .int .i64 0, .int .i64 0, .string ⟨#[]⟩] 138)
  have Hbr := Lib.hid hbr; clear hbr
  go_enter Tryz.func131, Tryz.ntmps131
  go_wp2_with fail
  (with_reducible refine (Open_r s l Hs.out _ g0).mono ?_)
  rintro _ w1 ⟨b, rfl, hb, h1, u1⟩
  have hbr1 := Nw.keep u1 Hbr.out
  have hbw : w.heap.size < b := by have : w.heap.size + 1 ≤ b := by simpa using hb
                                   omega
  replace u1 := (nw_alloc _ _).trans u1
  have g1 := g.upd u1
  clear g0 Hbr hb
  go_wp2_with fail
  (with_reducible refine (Num_r b _ _ g1 h1 hl0).mono ?_)
  rintro _ w2 ⟨rfl, h2, u2⟩
  have hbr2 := Upd.keep u2 hbr1 (fun e => by omega)
  replace u2 : Nw w w2 := u1.trans' u2 (fun k hk e => by omega)
  have g2 := g.upd u2
  go_wp2_with fail
  (with_reducible refine (Num_r b _ _ g2 h2 hl1).mono ?_)
  rintro _ w3 ⟨rfl, h3, u3⟩
  have hbr3 := Upd.keep u3 hbr2 (fun e => by omega)
  replace u3 : Nw w w3 := u2.trans' u3 (fun k hk e => by omega)
  have g3 := g.upd u3
  go_wp2_with fail
  (with_reducible refine (Num_r b _ _ g3 h3 hl2).mono ?_)
  rintro _ w4 ⟨rfl, h4, u4⟩
  have hbr4 := Upd.keep u4 hbr3 (fun e => by omega)
  replace u4 : Nw w w4 := u3.trans' u4 (fun k hk e => by omega)
  have g4 := g.upd u4
  go_wp2_with fail
  (with_reducible refine (Text_r b _ _ g4 h4 hl3).mono ?_)
  rintro _ w5 ⟨rfl, h5, u5⟩
  have hbr5 := Upd.keep u5 hbr4 (fun e => by omega)
  replace u5 : Nw w w5 := u4.trans' u5 (fun k hk e => by omega)
  clear hbr1 hbr2 hbr3 hbr4 h1 h2 h3 h4 u1 u2 u3 u4 g1 g2 g3 g4 hl0 hl1 hl2 hl3
  generalize (Wire.rNum (some l)).1 = x1 at *
  generalize (Wire.rNum (Wire.rNum (some l)).2).1 = x2 at *
  generalize (Wire.rNum (Wire.rNum (Wire.rNum (some l)).2).2).1 = x3 at *
  generalize (Wire.rText (Wire.rNum (Wire.rNum (Wire.rNum (some l)).2).2).2).1 = x4 at *
  generalize (Wire.rText (Wire.rNum (Wire.rNum (Wire.rNum (some l)).2).2).2).2 = st at *
  rw [hpe] at hre hp
  clear hpe
  have hc := heap_new w5 (.cells #[.int .i64 x1, .int .i64 x2, .int .i64 x3, .string ⟨x4.toArray⟩] 138)
  have Hc := Lib.hid hc; clear hc
  have u6 := u5.trans (nw_alloc w5 (.cells #[.int .i64 x1, .int .i64 x2, .int .i64 x3, .string ⟨x4.toArray⟩] 138))
  have h6 := h5.nw (nw_alloc w5 (.cells #[.int .i64 x1, .int .i64 x2, .int .i64 x3, .string ⟨x4.toArray⟩] 138))
  have hbr6 := Nw.keep (nw_alloc w5 (.cells #[.int .i64 x1, .int .i64 x2, .int .i64 x3, .string ⟨x4.toArray⟩] 138)) hbr5
  have g6 := g.upd u6
  go_wp2_with fail
  have hc6 := Hc.out
  have hne : w5.heap.size ≠ w.heap.size := by have := lt_of_block hbr5; omega
  generalize w5.heap.size = bc at *
  generalize w5.alloc (.cells #[.int .i64 x1, .int .i64 x2, .int .i64 x3, .string ⟨x4.toArray⟩] 138) = w6 at *
  clear Hc h5 hbr5 u5
  (with_reducible refine (Done_r b st _ h6).mono ?_)
  rintro _ _ ⟨rfl, rfl⟩
  have c0 : w6.cell? ⟨bc, 0, none⟩ = some (.int .i64 x1) := by rw [cells_cell hc6]; rfl
  have c1 : w6.cell? ⟨bc, 1, none⟩ = some (.int .i64 x2) := by rw [cells_cell hc6]; rfl
  have c2 : w6.cell? ⟨bc, 2, none⟩ = some (.int .i64 x3) := by rw [cells_cell hc6]; rfl
  have c3 : w6.cell? ⟨bc, 3, none⟩ = some (.string ⟨x4.toArray⟩) := by rw [cells_cell hc6]; rfl
  have e0 : w6.cell? ⟨w.heap.size, 0, none⟩ = some (.int .i64 0) := by rw [cells_cell hbr6]; rfl
  have e1 : w6.cell? ⟨w.heap.size, 1, none⟩ = some (.int .i64 0) := by rw [cells_cell hbr6]; rfl
  have e2 : w6.cell? ⟨w.heap.size, 2, none⟩ = some (.int .i64 0) := by rw [cells_cell hbr6]; rfl
  have e3 : w6.cell? ⟨w.heap.size, 3, none⟩ = some (.string ⟨#[]⟩) := by rw [cells_cell hbr6]; rfl
  have f0 := cells_frozen hbr6 0
  have f1 := cells_frozen hbr6 1
  have f2 := cells_frozen hbr6 2
  have f3 := cells_frozen hbr6 3
  have hgb := g.big
  by_cases hst : st = some []
  · subst hst
    go_wp2_with fail
    (with_reducible refine (right_c ⟨x1, x2, x3, x4⟩ _ (bs_list _) hp _ g6).mono ?_)
    rintro _ w7 ⟨rfl, u7⟩
    have hc7 := Nw.keep u7 hc6
    have hbr7 := Nw.keep u7 hbr6
    have d0 : w7.cell? ⟨bc, 0, none⟩ = some (.int .i64 x1) := by rw [cells_cell hc7]; rfl
    have d1 : w7.cell? ⟨bc, 1, none⟩ = some (.int .i64 x2) := by rw [cells_cell hc7]; rfl
    have d2 : w7.cell? ⟨bc, 2, none⟩ = some (.int .i64 x3) := by rw [cells_cell hc7]; rfl
    have d3 : w7.cell? ⟨bc, 3, none⟩ = some (.string ⟨x4.toArray⟩) := by rw [cells_cell hc7]; rfl
    have k0 : w7.cell? ⟨w.heap.size, 0, none⟩ = some (.int .i64 0) := by rw [cells_cell hbr7]; rfl
    have k1 : w7.cell? ⟨w.heap.size, 1, none⟩ = some (.int .i64 0) := by rw [cells_cell hbr7]; rfl
    have k2 : w7.cell? ⟨w.heap.size, 2, none⟩ = some (.int .i64 0) := by rw [cells_cell hbr7]; rfl
    have k3 : w7.cell? ⟨w.heap.size, 3, none⟩ = some (.string ⟨#[]⟩) := by rw [cells_cell hbr7]; rfl
    replace f0 := cells_frozen hbr7 0
    replace f1 := cells_frozen hbr7 1
    replace f2 := cells_frozen hbr7 2
    replace f3 := cells_frozen hbr7 3
    replace u7 := u6.trans u7
    cases hr : Cl.right ⟨x1, x2, x3, x4⟩ with
    | false =>
      rw [hr] at hre
      go_wp2_with fail
      (try simp only [Exit.inBlock, Exit.then])
      refine bodyPost_ret (read_results (set4 hbr7) rfl) rfl ?_
      refine ⟨?_, set4_nw u7 (Nat.le_refl _) hgb _ _ _ _⟩
      rw [hre.out, if_neg (by simp)]; rfl
    | true =>
      rw [hr] at hre
      go_wp2_with fail
      (try simp only [Exit.inBlock, Exit.then])
      refine bodyPost_ret (read_results (set4 hbr7) rfl) rfl ?_
      refine ⟨?_, set4_nw u7 (Nat.le_refl _) hgb _ _ _ _⟩
      rw [hre.out, if_pos (by simp)]; rfl
  · go_wp2_with fail
    (try simp only [Exit.inBlock, Exit.then])
    refine bodyPost_ret (read_results (set4 hbr6) rfl) rfl ?_
    refine ⟨?_, set4_nw u6 (Nat.le_refl _) hgb _ _ _ _⟩
    rw [hre.out, if_neg (fun h => hst h.1)]; rfl
end Go.Proofs.YtagmlemlagbfkaaGreatDoor
namespace Go.Proofs.YtagmlemlagbfkaaGreatDoor
open Go.RowKit
set_option linter.unusedVariables false
set_option linter.unusedSimpArgs false
attribute [local irreducible] Calls

abbrev tC : TypeId := 138
def cellsC (c : Cl.Clm) (s : ByteArray) : Array Value := #[.int .i64 c.kind, .int .i64 c.n, .int .i64 c.time, .string s]
/-- Two boxed claims. -/
theorem two_claims {w : World} {b b' : Nat} {a0 a1 a2 a3 d0 d1 d2 d3 : Value} {T T' : TypeId} (h : w.heap[b]? = some (.cells #[a0, a1, a2, a3] T (0, 0))) (h' : w.heap[b']? = some (.cells #[d0, d1, d2, d3] T' (0, 0))) :
    (w.cell? ⟨b, 0, none⟩ = some a0 ∧ w.cell? ⟨b, 1, none⟩ = some a1 ∧ w.cell? ⟨b, 2, none⟩ = some a2 ∧ w.cell? ⟨b, 3, none⟩ = some a3) ∧
    w.cell? ⟨b', 0, none⟩ = some d0 ∧ w.cell? ⟨b', 1, none⟩ = some d1 ∧ w.cell? ⟨b', 2, none⟩ = some d2 ∧ w.cell? ⟨b', 3, none⟩ = some d3 := by
  refine ⟨⟨?_, ?_, ?_, ?_⟩, ?_, ?_, ?_, ?_⟩ <;> first | (rw [cells_cell h]; rfl) | (rw [cells_cell h']; rfl)
set_option maxRecDepth 100000 in
theorem refutes_c (a b : Cl.Clm) (s t : ByteArray) (hs : s.data.toList = a.text) (ht : t.data.toList = b.text) (hz : a.text.length ≤ 9223372036854775807) (w : World) (g : Gl w) :
    Calls Tryz.prog 134 #[.agg #[.int .i64 a.kind, .int .i64 a.n, .int .i64 a.time, .string s], .agg #[.int .i64 b.kind, .int .i64 b.n, .int .i64 b.time, .string t]] w fun e w' => e = .returned (.bool (Cl.refutes a b)) ∧ Nw w w' := by
  have nn : Nw w ((w.alloc (.cells (cellsC a s) tC)).alloc (.cells (cellsC b t) tC)) := (nw_alloc _ _).trans (nw_alloc _ _)
  have g0 := g.upd nn
  have h1 := Nw.keep (nw_alloc (w.alloc (.cells (cellsC a s) tC)) (.cells (cellsC b t) tC)) (heap_new w (.cells (cellsC a s) tC))
  have h2 := heap_new (w.alloc (.cells (cellsC a s) tC)) (.cells (cellsC b t) tC)
  rw [show (w.alloc (.cells (cellsC a s) tC)).heap.size = w.heap.size + 1 by simp] at h2
  have Hs := Lib.hid hs; clear hs
  have Ht := Lib.hid ht; clear ht
  have hre : Cl.refutes a b = ((Cl.key a.text).2 && decide (a.n < b.n) && decide ((Cl.key a.text).1 = b.text)) := rfl
  have Hre := Lib.hid hre; clear hre
  unfold cellsC at *
  have H1 := Lib.hid h1; clear h1
  have H2 := Lib.hid h2; clear h2
  go_enter Tryz.func134, Tryz.ntmps134
  go_wp2_with fail
  (with_reducible refine (key_c s a.text Hs.out hz _ g0).mono ?_)
  rintro _ w1 ⟨rfl, u1⟩
  obtain ⟨⟨_, _, _, _⟩, _, _, _, _⟩ := two_claims (Nw.keep u1 H1.out) (Nw.keep u1 H2.out)
  replace u1 := nn.trans u1
  cases hk : Cl.key a.text with
  | mk k ok =>
  rw [hk] at Hre
  cases ok with
  | false =>
    go_wp2_with fail
    go_ret
    exact ⟨by rw [Hre.out]; rfl, u1⟩
  | true =>
    by_cases hn : a.n < b.n
    · go_wp2_with fail
      go_ret
      refine ⟨ret_bool ?_, u1⟩
      rw [Hre.out, decide_eq_true hn, Bool.true_and, Bool.true_and, ← Ht.out]
      first | rfl | (rw [Bool.eq_iff_iff]; simp [bs_toList])
    · go_wp2_with fail
      go_ret
      exact ⟨ret_bool (by rw [Hre.out, decide_eq_false (by omega)]; rfl), u1⟩
theorem one_claim {w : World} {b : Nat} {a0 a1 a2 a3 : Value} {T : TypeId} (h : w.heap[b]? = some (.cells #[a0, a1, a2, a3] T (0, 0))) :
    w.cell? ⟨b, 0, none⟩ = some a0 ∧ w.cell? ⟨b, 1, none⟩ = some a1 ∧ w.cell? ⟨b, 2, none⟩ = some a2 ∧ w.cell? ⟨b, 3, none⟩ = some a3 := by
  refine ⟨?_, ?_, ?_, ?_⟩ <;> (rw [cells_cell h]; rfl)
theorem later_claim {w : World} {b : Nat} {a0 a1 a2 a3 : Value} {T : TypeId} (h : w.heap[b]? = some (.cells #[a0, a1, a2, a3] T (0, 0))) :
    (∀ i : Later w, i.1.cell? ⟨b, 0, none⟩ = some a0) ∧ (∀ i : Later w, i.1.cell? ⟨b, 1, none⟩ = some a1) ∧ (∀ i : Later w, i.1.cell? ⟨b, 2, none⟩ = some a2) ∧ ∀ i : Later w, i.1.cell? ⟨b, 3, none⟩ = some a3 :=
  ⟨fun i => (one_claim (i.nw.keep h)).1, fun i => (one_claim (i.nw.keep h)).2.1, fun i => (one_claim (i.nw.keep h)).2.2.1, fun i => (one_claim (i.nw.keep h)).2.2.2⟩
end Go.Proofs.YtagmlemlagbfkaaGreatDoor
