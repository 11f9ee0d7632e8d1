/- The contracts of number, write and equal, and the plain law beneath them. -/
import Derived.Test.YtiaakidglmgmpaaDoorLawW
import Derived.Test.YtiaakidglmgmpaaDoorRefT
import Derived.Test.YtiaakidglmgmpaaDoorWireBk
import Derived.Deep.RegionHeld3
namespace Go.Proofs.YtiaakidglmgmpaaDoor
open Go.RowKit
set_option linter.unusedVariables false
set_option linter.unusedSimpArgs false
attribute [local irreducible] Calls

def num1 (n : Int) : Int := if n < 0 then -(n + 1) else n
theorem num1_ok {n : Int} (h : I64 n) : I64 (num1 n) ∧ 0 ≤ num1 n := by unfold I64 at *; unfold num1; split <;> omega
def enc1 (x : Val) : List UInt8 :=
  if kindOf x.kind = 0 then Wire.numE (num1 x.n) else if kindOf x.kind = 1 then Wire.intE x.n else if kindOf x.kind = 2 then Wire.textE x.s else if kindOf x.kind = 3 then Wire.numsE x.l else Wire.textsE x.t
def eq1 (st : Wire.St) (x : Val) : Bool × Wire.St :=
  if kindOf x.kind = 0 then (decide ((Wire.rNum st).1 = num1 x.n), (Wire.rNum st).2) else if kindOf x.kind = 1 then (decide ((Wire.rInt st).1 = x.n), (Wire.rInt st).2)
  else if kindOf x.kind = 2 then (decide ((Wire.rText st).1 = x.s), (Wire.rText st).2) else if kindOf x.kind = 3 then (decide ((Wire.rNums st).1 = x.l), (Wire.rNums st).2) else (decide ((Wire.rTexts st).1 = x.t), (Wire.rTexts st).2)
structure OkV (x : Val) : Prop where
  s : x.s.length ≤ 400
  l : x.l.length ≤ 400
  t : x.t.length ≤ 400
  z : tsum x.t ≤ 400
structure I64V (x : Val) : Prop where
  k : I64 x.kind
  n : I64 x.n
  l : ∀ m ∈ x.l, I64 m
theorem IsVal.i64 {hi : Nat} {w : World} {cs : List Value} {x : Val} (h : IsVal hi w cs x) : I64V x := by
  obtain ⟨_, _, _, _, _, h1, h2, h3⟩ := h
  exact ⟨h1, h2, h3⟩
theorem eq1_back {x : Val} {r : List UInt8} (h : OkV x) (i : I64V x) : eq1 (some (enc1 x ++ r)) x = (true, some r) := by
  unfold eq1 enc1
  split
  · rw [Wire.rNum_back (num1_ok i.n).1 (num1_ok i.n).2]; simp
  split
  · rw [Wire.rInt_back i.n]; simp
  split
  · rw [Wire.rText_back (by have := h.s; omega)]; simp
  split
  · rw [Wire.rNums_back i.l (by have := h.l; omega)]; simp
  · rw [Wire.rTexts_back (fun s hs => by have := mem_tsum hs; have := h.z; omega) (by have := h.t; omega)]; simp
theorem enc1_len {x : Val} (h : OkV x) (i : I64V x) : (enc1 x).length ≤ 20000 := by
  obtain ⟨h1, h2, h3, h4⟩ := h
  unfold enc1
  split
  · have := intE_len (num1_ok i.n).1; rw [Wire.numE, if_neg (by have := (num1_ok i.n).2; omega)]; omega
  split
  · have := intE_len i.n; omega
  split
  · have := textE_len (s := x.s) (by omega); omega
  split
  · have := numsE_len i.l (by omega); omega
  · have := textsE_len (t := x.t) (by omega) (by omega); omega

theorem num1_c (n : Int) (w : World) (h : I64 n) : Calls Tryd.prog 53 #[.int .i64 n] w fun e w' => e = .returned (.int .i64 (num1 n)) ∧ w = w' := by
  unfold I64 at h
  by_cases hn : n < 0
  · have e1 : IntKind.i64.wrap (n + 1) = n + 1 := IntWalk.i64_in _ (by omega)
    have e2 : IntKind.i64.wrap (-(n + 1)) = -(n + 1) := IntWalk.i64_in _ (by omega)
    go_enter Tryd.func53, Tryd.ntmps53
    go_wp2
    go_ret
    exact ⟨by rw [num1, if_pos hn]; first | rfl | simp [*], rfl⟩
  · go_enter Tryd.func53, Tryd.ntmps53
    go_wp2
    go_ret
    exact ⟨by rw [num1, if_neg (by omega)]; rfl, rfl⟩

set_option maxRecDepth 100000 in
theorem write_c (hi : Nat) (k n : Int) (s : ByteArray) (vl vt : Value) (x : Val) (w : World) (g : Gl w) (hh : hi ≤ w.heap.size) (hx : OkV x)
    (hv : IsVal hi w [.int .i64 k, .int .i64 n, .string s, vl, vt] x) :
    Calls Tryd.prog 30 #[.agg #[.int .i64 k, .int .i64 n, .string s, vl, vt]] w fun e w' => e = .returned (.string ⟨(enc1 x).toArray⟩) ∧ Nw w w' := by
  have hbx := heap_new w (.cells #[.int .i64 k, .int .i64 n, .string s, vl, vt] 25)
  have Hbx := Lib.hid hbx; clear hbx
  have hI := hv.i64
  have HI := Lib.hid hI; clear hI
  obtain ⟨vl', vt', he, hsl, hst, _⟩ := hv
  simp only [List.cons.injEq, Value.int.injEq, Value.string.injEq, and_true, true_and] at he
  obtain ⟨rfl, rfl, rfl, rfl, rfl⟩ := he
  have hls := hx.s
  have hll : (Wire.numsE x.l).length ≤ 140737488351232 := by have := hx.l; have := numsE_len HI.out.l (by omega); omega
  have hlt : (Wire.textsE x.t).length ≤ 140737488351232 := by have := hx.t; have := hx.z; have := textsE_len (t := x.t) (by omega) (by omega); omega
  have hkr := kindOf_range x.kind
  obtain ⟨q, hq⟩ : ∃ q, kindOf x.kind = q := ⟨_, rfl⟩
  rw [hq] at hkr
  have Hq := Lib.hid hq; clear hq
  go_enter Tryd.func30, Tryd.ntmps30
  go_wp2_with fail
  (with_reducible refine (kind_c x.kind _ _ _ _ _).mono ?_)
  rintro _ w1 ⟨rfl, u1⟩
  have hb1 := u1.keep Hbx.out
  replace u1 := (nw_alloc _ _).trans u1
  have g1 := g.upd u1
  have c1 : w1.cell? ⟨w.heap.size, 1, none⟩ = some (.int .i64 x.n) := by rw [cells_cell hb1]; rfl
  have c2 : w1.cell? ⟨w.heap.size, 2, none⟩ = some (.string ⟨x.s.toArray⟩) := by rw [cells_cell hb1]; rfl
  have c3 : w1.cell? ⟨w.heap.size, 3, none⟩ = some vl := by rw [cells_cell hb1]; rfl
  have c4 : w1.cell? ⟨w.heap.size, 4, none⟩ = some vt := by rw [cells_cell hb1]; rfl
  replace hsl := hsl.nw u1
  replace hst := hst.nw u1
  clear hb1 Hbx
  rw [Hq.out]
  by_cases hk0 : q = 0
  · subst hk0
    go_wp2_with fail
    (with_reducible refine (num1_c x.n _ HI.out.n).mono ?_)
    rintro _ _ ⟨rfl, rfl⟩
    go_wp2_with fail
    (with_reducible refine (Num_e _ _ g1 (num1_ok HI.out.n).1).mono ?_)
    rintro _ w2 ⟨rfl, u2⟩
    go_wp2_with fail
    go_ret
    exact ⟨by rw [enc1, Hq.out]; rfl, u1.trans u2⟩
  by_cases hk1 : q = 1
  · subst hk1
    go_wp2_with fail
    (with_reducible refine (Int_e _ _ g1 HI.out.n).mono ?_)
    rintro _ w2 ⟨rfl, u2⟩
    go_wp2_with fail
    go_ret
    exact ⟨by rw [enc1, Hq.out]; rfl, u1.trans u2⟩
  by_cases hk2 : q = 2
  · subst hk2
    go_wp2_with fail
    (with_reducible refine (Text_e _ x.s (bs_list _) _ g1 (by omega)).mono ?_)
    rintro _ w2 ⟨rfl, u2⟩
    go_wp2_with fail
    go_ret
    exact ⟨by rw [enc1, Hq.out]; rfl, u1.trans u2⟩
  by_cases hk3 : q = 3
  · subst hk3
    go_wp2_with fail
    (with_reducible refine (Nums_e _ _ _ x.l _ g1 hsl HI.out.l hll).mono ?_)
    rintro _ w2 ⟨rfl, u2⟩
    go_wp2_with fail
    go_ret
    exact ⟨by rw [enc1, Hq.out]; rfl, u1.trans u2⟩
  · obtain rfl : q = 4 := by omega
    go_wp2_with fail
    (with_reducible refine (Texts_e _ _ _ x.t _ g1 hst hlt).mono ?_)
    rintro _ w2 ⟨rfl, u2⟩
    go_wp2_with fail
    go_ret
    exact ⟨by rw [enc1, Hq.out]; rfl, u1.trans u2⟩
theorem upd_cell1 {S : Nat → Prop} {w w' : World} {a : Addr} {v : Value} (u : Upd S w w') (h : w.cell? a = some v) (hn : ¬ S a.block) : w'.cell? a = some v :=
  (World.cell?_of_block (u.block a.block (World.block_lt_of_cell? w a h) (Or.inr hn))).trans h
set_option maxRecDepth 100000 in
theorem equal_c (hi b : Nat) (k n : Int) (s : ByteArray) (vl vt : Value) (x : Val) (st : Wire.St) (w : World) (g : Gl w) (hh : hi ≤ b) (h : Rdr tR w b st) (hl : (st.getD []).length ≤ 1099511627776)
    (hv : IsVal hi w [.int .i64 k, .int .i64 n, .string s, vl, vt] x) :
    Calls Tryd.prog 31 #[.pointer (some ⟨b, 0, none⟩), .agg #[.int .i64 k, .int .i64 n, .string s, vl, vt]] w fun e w' => e = .returned (.bool (eq1 st x).1) ∧ Rdr tR w' b (eq1 st x).2 ∧ Upd (· = b) w w' := by
  have hbx := heap_new w (.cells #[.int .i64 k, .int .i64 n, .string s, vl, vt] 25)
  have Hbx := Lib.hid hbx; clear hbx
  have hI := hv.i64
  have HI := Lib.hid hI; clear hI
  obtain ⟨vl', vt', he, hsl, hst, _⟩ := hv
  simp only [List.cons.injEq, Value.int.injEq, Value.string.injEq, and_true, true_and] at he
  obtain ⟨rfl, rfl, rfl, rfl, rfl⟩ := he
  have hkr := kindOf_range x.kind
  have hbw := h.lt
  obtain ⟨q, hq⟩ : ∃ q, kindOf x.kind = q := ⟨_, rfl⟩
  rw [hq] at hkr
  have Hq := Lib.hid hq; clear hq
  go_enter Tryd.func31, Tryd.ntmps31
  go_wp2_with fail
  (with_reducible refine (kind_c x.kind _ _ _ _ _).mono ?_)
  rintro _ w1 ⟨rfl, u1⟩
  have hb1 := u1.keep Hbx.out
  replace u1 := (nw_alloc _ _).trans u1
  have ud : Nw w1 w1.drew := (Upd.refl _ _).drew
  have u2 := u1.trans ud
  have hb2 := Nw.keep ud hb1
  have g2 := g.upd u2
  have h2 := h.nw u2
  have hbb : w.heap.size ≠ b := by omega
  generalize w.heap.size = bx at *
  have c1 : w1.drew.cell? ⟨bx, 1, none⟩ = some (.int .i64 x.n) := by rw [cells_cell hb2]; rfl
  have c2 : w1.drew.cell? ⟨bx, 2, none⟩ = some (.string ⟨x.s.toArray⟩) := by rw [cells_cell hb2]; rfl
  have c3 : w1.drew.cell? ⟨bx, 3, none⟩ = some vl := by rw [cells_cell hb2]; rfl
  have c4 : w1.drew.cell? ⟨bx, 4, none⟩ = some vt := by rw [cells_cell hb2]; rfl
  replace hsl := hsl.nw u2
  replace hst := hst.nw u2
  clear hb1 Hbx
  rw [Hq.out]
  by_cases hk0 : q = 0
  · subst hk0
    go_wp2_with fail
    go_region_held3 (fun w' => w'.cell? ⟨bx, 1, none⟩ = some (.int .i64 x.n)) (assumption) (first | (go_at_call 53; (with_reducible refine (num1_c x.n _ HI.out.n).mono ?_); rintro _ _ ⟨rfl, rfl⟩) | (go_at_call 23; (with_reducible refine (Num_r b st _ g2 h2 (by omega)).mono ?_); rintro _ w3 ⟨rfl, h3, u3⟩; have c' := upd_cell1 u3 c1 hbb))
    go_wp2_with fail
    go_ret
    refine ⟨?_, by rw [eq1, Hq.out]; exact h3, Nw.trans u2 u3⟩
    rw [eq1, Hq.out]; first | rfl | (simp [*]; done) | (simp [*]; rw [Bool.eq_iff_iff]; simp)
  by_cases hk1 : q = 1
  · subst hk1
    go_wp2_with fail
    go_region_held3 (fun w' => w'.cell? ⟨bx, 1, none⟩ = some (.int .i64 x.n)) (assumption) (first | (go_at_call 53; (with_reducible refine (num1_c x.n _ HI.out.n).mono ?_); rintro _ _ ⟨rfl, rfl⟩) | (go_at_call 24; (with_reducible refine (Int_r b st _ g2 h2 (by omega)).mono ?_); rintro _ w3 ⟨rfl, h3, u3⟩; have c' := upd_cell1 u3 c1 hbb))
    go_wp2_with fail
    go_ret
    refine ⟨?_, by rw [eq1, Hq.out]; exact h3, Nw.trans u2 u3⟩
    rw [eq1, Hq.out]; first | rfl | (simp [*]; done) | (simp [*]; rw [Bool.eq_iff_iff]; simp)
  by_cases hk2 : q = 2
  · subst hk2
    go_wp2_with fail
    go_region_held3 (fun w' => w'.cell? ⟨bx, 2, none⟩ = some (.string ⟨x.s.toArray⟩)) (assumption) (first | (go_at_call 53; (with_reducible refine (num1_c x.n _ HI.out.n).mono ?_); rintro _ _ ⟨rfl, rfl⟩) | (go_at_call 25; (with_reducible refine (Text_r b st _ g2 h2 (by omega)).mono ?_); rintro _ w3 ⟨rfl, h3, u3⟩; have c' := upd_cell1 u3 c2 hbb))
    go_wp2_with fail
    go_ret
    refine ⟨?_, by rw [eq1, Hq.out]; exact h3, Nw.trans u2 u3⟩
    rw [eq1, Hq.out]; first | rfl | (simp [*]; done) | (simp [*]; rw [Bool.eq_iff_iff]; simp)
  by_cases hk3 : q = 3
  · subst hk3
    go_wp2_with fail
    go_region_held3 (fun w' => w'.cell? ⟨bx, 3, none⟩ = some vl) (assumption) (first | (go_at_call 26; (with_reducible refine (Nums_r b st _ g2 h2 (by omega)).mono ?_); rintro _ w3 ⟨v1, rfl, o1, h3, u3⟩; have c' := upd_cell1 u3 c3 hbb; have s1 := Sl.of_owns o1; have s3 := hsl.upd u3 (fun k _ hk e => by omega)) | (go_at_call 36; (with_reducible refine (SameNumsQ _ _ _ _ v1 vl _ x.l _ s1 s3).mono ?_); rintro _ w4 ⟨rfl, u4⟩; have c'' := upd_cell1 u4 c' id))
    go_wp2_with fail
    go_ret
    refine ⟨?_, by rw [eq1, Hq.out]; exact h3.nw u4, Nw.trans u2 (u3.nw u4)⟩
    rw [eq1, Hq.out]; first | rfl | (simp [*]; done) | (simp [*]; rw [Bool.eq_iff_iff]; simp)
  · obtain rfl : q = 4 := by omega
    go_wp2_with fail
    go_region_held3 (fun w' => w'.cell? ⟨bx, 4, none⟩ = some vt) (assumption) (first | (go_at_call 27; (with_reducible refine (Texts_r b st _ g2 h2 (by omega)).mono ?_); rintro _ w3 ⟨v1, rfl, o1, h3, u3⟩; have c' := upd_cell1 u3 c4 hbb; have s1 := Sl.of_owns o1; have s3 := hst.upd u3 (fun k _ hk e => by omega)) | (go_at_call 38; (with_reducible refine (SameTextsQ _ _ _ _ v1 vt _ x.t _ s1 s3).mono ?_); rintro _ w4 ⟨rfl, u4⟩; have c'' := upd_cell1 u4 c' id))
    go_wp2_with fail
    go_ret
    refine ⟨?_, by rw [eq1, Hq.out]; exact h3.nw u4, Nw.trans u2 (u3.nw u4)⟩
    rw [eq1, Hq.out]; first | rfl | (simp [*]; done) | (simp [*]; rw [Bool.eq_iff_iff]; simp)
end Go.Proofs.YtiaakidglmgmpaaDoor
