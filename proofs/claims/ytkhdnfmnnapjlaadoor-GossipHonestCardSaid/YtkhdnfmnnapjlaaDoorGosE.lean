/- The contract of small (chapter 09): the documentation's example, called. -/
import Derived.Test.YtkhdnfmnnapjlaaDoorGosT
namespace Go.Proofs.YtkhdnfmnnapjlaaDoor
open Go.RowKit
set_option linter.unusedVariables false
set_option linter.unusedSimpArgs false
attribute [local irreducible] Calls

namespace Ex9
open Bk (Seal Sgn noSgn)
def tx : List UInt8 := [49, 59, 50, 59, 55, 59, 48, 58, 44]
def ty : List UInt8 := [49, 59, 49, 59, 56, 59, 48, 58, 44]
def tz : List UInt8 := [48, 59, 48, 59, 48, 59, 52, 58, 49, 58, 97, 44, 44]
def sx : Sgn := ⟨3, tx, 0⟩
def sy : Sgn := ⟨3, ty, 1⟩
def sz : Sgn := ⟨3, tz, 2⟩
def bad : Sgn := ⟨sy.key, sy.text, sy.mark + 1⟩
def R1 : List Seal := [⟨3, tx⟩]
def R2 : List Seal := [⟨3, tx⟩, ⟨3, ty⟩]
def R3 : List Seal := [⟨3, tx⟩, ⟨3, ty⟩, ⟨3, tz⟩]
theorem e1 : Bk.sign [] 3 tx = (sx, R1) := by decide +kernel
theorem e2 : Bk.sign R1 3 ty = (sy, R2) := by decide +kernel
theorem e3 : Bk.sign R2 3 tz = (sz, R3) := by decide +kernel
theorem a1 : Vw.accept R3 3 [] sx = (0, [sx]) := by decide +kernel
theorem a2 : Vw.accept R3 3 [] sz = (0, [sz]) := by decide +kernel
theorem a3 : Vw.accept R3 3 [] sy = (0, [sy]) := by decide +kernel
def L3 : VL := setL (setL (setL (fun _ => []) 0 [sx]) 1 [sz]) 2 [sy]
theorem m1 : meetL R3 3 L3 0 2 = ((sx, sy, true), L3) := by
  unfold meetL
  rw [show firstOdd L3 0 2 = some sx by decide +kernel]
  dsimp only
  rw [show (Vw.clash (L3 2) sx).1 = sy by decide +kernel]
theorem m2 : (meetL R3 3 L3 0 1).1 = (noSgn, noSgn, false) := by decide +kernel
def L4 : VL := (meetL R3 3 L3 0 1).2
theorem m3 : meetL R3 3 L3 0 1 = ((noSgn, noSgn, false), L4) := Prod.ext m2 rfl
theorem y1 : 0 ≤ sy.mark ∧ sy.mark ≤ 5 := by decide
def P : List (Int × Int) := [(0, 1), (1, 2)]
theorem p1 : (spreadL R3 3 3 P 0 L4).1 = (1, sx, sy, true) := by decide +kernel
def L5 : VL := (spreadL R3 3 3 P 0 L4).2
theorem l1 : (L5 0).length = 2 := by decide +kernel
theorem l2 : (L5 1).length = 2 := by decide +kernel
theorem c1 : convictE R3 sx sy = 0 := by decide +kernel
theorem c2 : convictE R3 sx sx = 19 := by decide +kernel
theorem c3 : convictE R3 sx bad = 18 := by decide +kernel
theorem s_ok {s : Sgn} (h : (-1000 ≤ s.key ∧ s.key ≤ 1000) ∧ s.text.length ≤ 1000 ∧ (-1000 ≤ s.mark ∧ s.mark ≤ 1000)) : SgnOk s := ⟨by unfold I64; omega, by omega, by unfold I64; omega⟩
end Ex9
/-- The family and boxes of signatures. -/
def GE (W : World) (p : VNR) (n : Nat) (Lr : List Bk.Seal) (L : VL) (bx : List (Nat × Bk.Sgn)) (z : World) : Prop :=
  Fam W p 0 n 3 Lr (fun _ => Bk.new 3) L (fun k => ∃ q ∈ bx, q.1 = k) z ∧ ∀ q ∈ bx, z.heap[q.1]? = some (sObj q.2)
section
variable {W : World} {p : VNR} {n : Nat} {Lr : List Bk.Seal} {L : VL} {bx : List (Nat × Bk.Sgn)} {z z' : World}
theorem GE.box (h : GE W p n Lr L bx z) (s : Bk.Sgn) : GE W p n Lr L ((z.heap.size, s) :: bx) (z.alloc (sObj s)) := by
  refine ⟨h.1.keep (nw_alloc z _) (fun k hk => ?_), fun q hq => ?_⟩
  · obtain ⟨q, hq, rfl⟩ := hk
    rcases List.mem_cons.1 hq with rfl | hq
    · exact Or.inr ⟨Nat.le_refl _, by simp⟩
    · exact Or.inl ⟨q, hq, rfl⟩
  · rcases List.mem_cons.1 hq with rfl | hq
    · exact heap_new z _
    · exact Nw.keep (nw_alloc z _) (h.2 q hq)
theorem GE.nw (h : GE W p n Lr L bx z) (u : Nw z z') : GE W p n Lr L bx z' := ⟨h.1.nw u, fun q hq => Nw.keep u (h.2 q hq)⟩
theorem GE.at (h : GE W p n Lr L bx z) (i : Nat) {q : Nat × Bk.Sgn} (hi : bx[i]? = some q) : z.heap[q.1]? = some (sObj q.2) := h.2 q (List.mem_of_getElem? hi)
theorem GE.next {p' : VNR} {n' : Nat} {Lr' : List Bk.Seal} {L' : VL} (h : GE W p n Lr L bx z) (fa : Fam W p' 0 n' 3 Lr' (fun _ => Bk.new 3) L' (fun k => ∃ q ∈ bx, q.1 = k) z') (mv : MovesN W (fun k => ∃ q ∈ bx, q.1 = k) z z') : GE W p' n' Lr' L' bx z' :=
  ⟨fa, fun q hq => mv.keep (h.2 q hq) (fun e => e.1 ⟨q, hq, rfl⟩)⟩
theorem GE.gl (h : GE W p n Lr L bx z) (g : Gl W) : Gl z := h.1.gl g
theorem ge_sign (h : GE W p 0 Lr L bx z) (g : Gl W) (k : Int) (t : List UInt8) (hk : I64 k) (ht : t.length ≤ 100000) (hL : Lr.length ≤ 1000000) {s : Bk.Sgn} {Lr' : List Bk.Seal} (e : Bk.sign Lr k t = (s, Lr')) :
    Calls Tryd.prog 24 #[.pointer (some ⟨p.rb, 0, none⟩), .int .i64 k, .string ⟨t.toArray⟩] z fun e z' => e = .returned (.agg #[.int .i64 s.key, .string ⟨s.text.toArray⟩, .int .i64 s.mark]) ∧ GE W p 0 Lr' L bx z' := by
  have hg := h.gl g
  have hB := h.1.nw0.size
  refine (At.call h.1.1 (i := 0) (by omega) (P := RingC W.heap.size p.rb Lr') (RingC.stab _ _ _) (Q := fun e => e = .returned (.agg #[.int .i64 s.key, .string ⟨s.text.toArray⟩, .int .i64 s.mark])) fun f hf => ?_).mono ?_
  · rw [fam_ring] at hf
    obtain ⟨q, a1, a2, rfl⟩ := hf
    rw [← a1]
    refine (sign_s _ q Lr k t z hg a2 hk (by omega) hL hB).mono ?_
    rintro _ w' ⟨q', rfl, h1, h2, h3, h4⟩
    rw [e] at h1 ⊢
    exact ⟨rfl, q'.foot, ⟨q', h2, h1, rfl⟩, h3, h4⟩
  · rintro e' z' ⟨hq, ha, mv⟩
    refine ⟨hq, h.next ⟨ha.same (fun i hi => ?_), fun i hi => by omega⟩ mv⟩
    obtain rfl : i = 0 := by omega
    rw [setC_self, fam_ring]
theorem ge_view (h : GE W p n Lr (fun _ => []) bx z) (g : Gl W) : Calls Tryd.prog 17 #[.pointer (some ⟨p.rb, 0, none⟩), .int .i64 3] z fun e z' => ∃ vb, e = .returned (.pointer (some ⟨vb, 0, none⟩)) ∧ GE W ⟨p.rb, p.bbs, fun k => if k = n then vb else p.vbs k⟩ (n + 1) Lr (fun _ => []) bx z' := by
  refine (new_v p.rb 3 z (h.gl g)).mono ?_
  rintro e w' (⟨_, r, rfl, hr, u⟩ | ⟨hk, _⟩)
  · have fa := h.1.oneView g.big u hr
    rw [setL_nil] at fa
    exact ⟨r.vb, rfl, h.next fa (Nw.upd _ u)⟩
  · exact absurd hk (by decide)
theorem ge_accept (h : GE W p n Lr L bx z) (g : Gl W) {i : Nat} (hi : i < n) (s : Bk.Sgn) (hs : SgnOk s) (hl : Lr.length ≤ 900000) {k : Int} {l' : List Bk.Sgn} (e : Vw.accept Lr 3 (L i) s = (k, l')) :
    Calls Tryd.prog 13 #[.pointer (some ⟨p.vbs i, 0, none⟩), .agg #[.int .i64 s.key, .string ⟨s.text.toArray⟩, .int .i64 s.mark]] z fun e z' => e = .returned (.int .i64 k) ∧ GE W p n Lr (setL L i l') bx z' := by
  refine (vn_accept h.1 g hi s hs (Nat.le_trans (vok_len (h.1.2 i hi)) hl)).mono ?_
  rintro e' z' ⟨he, fa, mv⟩
  rw [e] at he fa
  exact ⟨he, h.next fa mv⟩
theorem ge_meet (h : GE W p n Lr L bx z) (g : Gl W) {i k : Nat} (hi : i < n) (hk : k < n) (hl : Lr.length ≤ 900000) {s t : Bk.Sgn} {b : Bool} {L' : VL} (e : meetL Lr 3 L i k = ((s, t, b), L')) :
    Calls Tryd.prog 25 #[.pointer (some ⟨p.vbs i, 0, none⟩), .pointer (some ⟨p.vbs k, 0, none⟩)] z fun e z' => e = .returned (.tuple #[.agg #[.int .i64 s.key, .string ⟨s.text.toArray⟩, .int .i64 s.mark], .agg #[.int .i64 t.key, .string ⟨t.text.toArray⟩, .int .i64 t.mark], .bool b]) ∧ GE W p n Lr L' bx z' := by
  refine (meet_w h.1 g hl hi hk).mono ?_
  rintro e' z' ⟨he, fa, mv⟩
  rw [e] at he fa
  exact ⟨he, h.next fa mv⟩
theorem ge_convict (h : GE W p n Lr L bx z) (g : Gl W) (a b : Bk.Sgn) (ha : SgnOk a) (hb : SgnOk b) {k : Int} (e : convictE Lr a b = k) :
    Calls Tryd.prog 11 #[.pointer (some ⟨p.rb, 0, none⟩), .agg #[.int .i64 a.key, .string ⟨a.text.toArray⟩, .int .i64 a.mark], .agg #[.int .i64 b.key, .string ⟨b.text.toArray⟩, .int .i64 b.mark]] z fun e z' => e = .returned (.int .i64 k) ∧ GE W p n Lr L bx z' := by
  obtain ⟨q, a1, a2⟩ := h.1.ring
  rw [← a1, ← e]
  exact (convict_w _ q Lr a b z (h.gl g) a2 ha hb).mono fun e z' ⟨he, u⟩ => ⟨he, h.nw u⟩
theorem ge_claims (h : GE W p n Lr L bx z) (g : Gl W) {i : Nat} (hi : i < n) (hl : Lr.length ≤ 900000) {k : Nat} (e : (L i).length = k) : Calls Tryd.prog 26 #[.pointer (some ⟨p.vbs i, 0, none⟩)] z fun e z' => ∃ a c, e = .returned (.slice a k c) ∧ GE W p n Lr L bx z' := by
  refine (vn_claims h.1 g hi (Nat.le_trans (vok_len (h.1.2 i hi)) hl)).mono ?_
  rintro e' z' ⟨v, rfl, o, u⟩
  obtain ⟨a, c, rfl⟩ := own_slG o
  rw [e]
  exact ⟨a, c, rfl, h.nw u⟩
theorem GE.box2 (h : GE W p n Lr L bx z) (s t : Bk.Sgn) : GE W p n Lr L ((z.heap.size + 1, t) :: (z.heap.size, s) :: bx) ((z.alloc (sObj s)).alloc (sObj t)) := by
  have := (h.box s).box t
  rw [show (z.alloc (sObj s)).heap.size = z.heap.size + 1 by simp] at this
  exact this
theorem GE.boxN (h : GE W p n Lr L bx z) (s : Bk.Sgn) {zs : Nat} (hz : z.heap.size = zs) : GE W p n Lr L ((zs, s) :: bx) (z.alloc (sObj s)) := by
  subst hz
  exact h.box s
theorem ge_spread (h : GE W p 3 Lr L bx z) {zs : Nat} (hzs : z.heap.size = zs) (g : Gl W) (hl : Lr.length ≤ 900000) {k : Nat} {s t : Bk.Sgn} {b : Bool} {L' : VL} (e1 : (spreadL Lr 3 3 [((0 : Int), (1 : Int)), ((1 : Int), (2 : Int))] 0 L).1 = (k, s, t, b)) (e2 : (spreadL Lr 3 3 [((0 : Int), (1 : Int)), ((1 : Int), (2 : Int))] 0 L).2 = L') :
    Calls Tryd.prog 14 #[.slice (some ⟨zs, 0, none⟩) 3 3, .slice (some ⟨zs + 1, 0, none⟩) 2 2] ((z.alloc (.cells #[.pointer (some ⟨p.vbs 0, 0, none⟩), .pointer (some ⟨p.vbs 1, 0, none⟩), .pointer (some ⟨p.vbs 2, 0, none⟩)] tPV)).alloc (.cells #[.int .i64 0, .int .i64 1, .int .i64 1, .int .i64 2] 73)) fun e z' =>
      e = .returned (.tuple #[.int .i64 k, .agg #[.int .i64 s.key, .string ⟨s.text.toArray⟩, .int .i64 s.mark], .agg #[.int .i64 t.key, .string ⟨t.text.toArray⟩, .int .i64 t.mark], .bool b]) ∧ GE W p 3 Lr L' bx z' := by
  subst hzs
  obtain ⟨o1, ho1⟩ : ∃ o : Obj, o = .cells #[.pointer (some ⟨p.vbs 0, 0, none⟩), .pointer (some ⟨p.vbs 1, 0, none⟩), .pointer (some ⟨p.vbs 2, 0, none⟩)] tPV := ⟨_, rfl⟩
  obtain ⟨o2, ho2⟩ : ∃ o : Obj, o = .cells #[.int .i64 0, .int .i64 1, .int .i64 1, .int .i64 2] 73 := ⟨_, rfl⟩
  rw [← ho1, ← ho2]
  have n1 := nw_alloc z o1
  have k1 := heap_new z o1
  have n2 := nw_alloc (z.alloc o1) o2
  have k2 := heap_new (z.alloc o1) o2
  have s1 : (z.alloc o1).heap.size = z.heap.size + 1 := by simp
  have s2 : ((z.alloc o1).alloc o2).heap.size = z.heap.size + 2 := by simp
  rw [s1] at k2
  replace k1 := Nw.keep n2 k1
  have u := n1.trans n2
  generalize (z.alloc o1).alloc o2 = z2 at *
  rw [ho1] at k1
  rw [ho2] at k2
  have hK := h.1.keep (F' := fun k => (∃ q ∈ bx, q.1 = k) ∨ k = z.heap.size ∨ k = z.heap.size + 1) u (fun j hj => hj.imp id (fun e => by omega))
  refine (spread_w hK g hl (by omega) [((0 : Int), (1 : Int)), ((1 : Int), (2 : Int))] (fun q hq => ?_) (by decide) _ _ 0 (z.heap.size + 2) (fun z' mv => ?_) (fun z' mv => ?_)).mono ?_
  · simp only [List.mem_cons, List.not_mem_nil, or_false] at hq
    rcases hq with rfl | rfl <;> (unfold I64; simp)
  · have kk := mv.keep k1 (fun e => e.1 (Or.inr (Or.inl rfl)))
    have hlt := lt_of_block kk
    refine ⟨0, z.heap.size + 2, Or.inr ⟨z.heap.size, 0, 3, rfl, Nat.le_refl _, by decide, Nat.zero_le _, by omega, hlt, fun i hi => ?_⟩⟩
    have hi3 : i < 3 := hi
    rw [cells_cell kk]
    match i, hi3 with
    | 0, _ => rfl
    | 1, _ => rfl
    | 2, _ => rfl
  · have kk := mv.keep k2 (fun e => e.1 (Or.inr (Or.inr rfl)))
    have hlt := lt_of_block kk
    refine Or.inr ⟨z.heap.size + 1, 0, 2, rfl, Nat.le_refl _, by decide, Nat.zero_le _, by omega, hlt, fun i hi => ?_⟩
    have hi2 : i < 2 := hi
    match i, hi2 with
    | 0, _ =>
      refine ⟨rfl, fun j hj => ?_⟩
      rw [cells_cell kk]
      match j, hj with
      | 0, _ => rfl
      | 1, _ => rfl
    | 1, _ =>
      refine ⟨rfl, fun j hj => ?_⟩
      rw [cells_cell kk]
      match j, hj with
      | 0, _ => rfl
      | 1, _ => rfl
  · rintro e z' ⟨he, fa, mv⟩
    rw [e1] at he
    rw [e2] at fa
    have mv2 : MovesN W (fun k => ∃ q ∈ bx, q.1 = k) z z' := (Nw.upd _ u).trans (mv.mono (fun k _ e => ⟨fun f => e.1 (Or.inl f), e.2⟩))
    exact ⟨he, h.next (fa.less (fun k hk => Or.inl hk)) mv2⟩
set_option maxRecDepth 100000 in
theorem convict_nil (a b : Bk.Sgn) (w : World) : Calls Tryd.prog 11 #[.pointer none, .agg #[.int .i64 a.key, .string ⟨a.text.toArray⟩, .int .i64 a.mark], .agg #[.int .i64 b.key, .string ⟨b.text.toArray⟩, .int .i64 b.mark]] w fun e w' => e = .returned (.int .i64 1) ∧ Nw w w' := by
  go_enter Tryd.func11, Tryd.ntmps11
  go_wp2_with fail
  go_ret
  exact ⟨rfl, (nw_alloc _ _).trans (nw_alloc _ _)⟩
end
set_option maxHeartbeats 4000000 in
set_option maxRecDepth 100000 in
theorem small9_w (W : World) (g : Gl W) : Calls Tryd.prog 5 #[] W fun e w' => e = .returned (.bool true) ∧ Nw W w' := by
  have hns := Lib.hid (new_s W g)
  go_enter Tryd.func5, Tryd.ntmps5
  go_wp2_with fail
  (with_reducible refine (hns.out).mono ?_)
  rintro _ w1 ⟨q, rfl, hq, u1⟩
  have G1 : Hid (GE W ⟨q.rb, fun _ => 0, fun _ => 0⟩ 0 [] (fun _ => []) [] w1) := ⟨(Fam.start hq u1).less (fun k hk => by obtain ⟨q, hq, _⟩ := hk; cases hq), fun q hq => by cases hq⟩
  generalize q.rb = rb at *
  clear hns hq u1
  have S1 : Hid (Calls Tryd.prog 24 #[.pointer (some ⟨rb, 0, none⟩), .int .i64 3, .string ⟨#[49, 59, 50, 59, 55, 59, 48, 58, 44]⟩] w1 fun e z' => e = .returned (.agg #[.int .i64 Ex9.sx.key, .string ⟨Ex9.sx.text.toArray⟩, .int .i64 Ex9.sx.mark]) ∧ GE W ⟨rb, fun _ => 0, fun _ => 0⟩ 0 Ex9.R1 (fun _ => []) [] z') :=
    ge_sign G1.out g 3 Ex9.tx (by unfold I64; omega) (by decide) (by decide) Ex9.e1
  go_wp2_with fail
  (with_reducible refine (S1.out).mono ?_)
  rintro _ w2 ⟨rfl, g2⟩
  have G2 := Lib.hid (g2.box Ex9.sx)
  have S2 : Hid (Calls Tryd.prog 24 #[.pointer (some ⟨rb, 0, none⟩), .int .i64 3, .string ⟨#[49, 59, 49, 59, 56, 59, 48, 58, 44]⟩] (w2.alloc (sObj Ex9.sx)) fun e z' => e = .returned (.agg #[.int .i64 Ex9.sy.key, .string ⟨Ex9.sy.text.toArray⟩, .int .i64 Ex9.sy.mark]) ∧ GE W ⟨rb, fun _ => 0, fun _ => 0⟩ 0 Ex9.R2 (fun _ => []) [(w2.heap.size, Ex9.sx)] z') :=
    ge_sign G2.out g 3 Ex9.ty (by unfold I64; omega) (by decide) (by decide) Ex9.e2
  clear g2 S1 G1
  go_wp2_with fail
  (with_reducible refine (S2.out).mono ?_)
  rintro _ w3 ⟨rfl, g3⟩
  have G3 := Lib.hid (g3.box Ex9.sy)
  have S3' : Hid (Calls Tryd.prog 24 #[.pointer (some ⟨rb, 0, none⟩), .int .i64 3, .string ⟨#[48, 59, 48, 59, 48, 59, 52, 58, 49, 58, 97, 44, 44]⟩] (w3.alloc (sObj Ex9.sy)) fun e z' => e = .returned (.agg #[.int .i64 Ex9.sz.key, .string ⟨Ex9.sz.text.toArray⟩, .int .i64 Ex9.sz.mark]) ∧ GE W ⟨rb, fun _ => 0, fun _ => 0⟩ 0 Ex9.R3 (fun _ => []) [(w3.heap.size, Ex9.sy), (w2.heap.size, Ex9.sx)] z') :=
    ge_sign G3.out g 3 Ex9.tz (by unfold I64; omega) (by decide) (by decide) Ex9.e3
  clear g3 S2 G2
  go_wp2_with fail
  (with_reducible refine (S3'.out).mono ?_)
  rintro _ w4 ⟨rfl, g4⟩
  have G4 := Lib.hid (g4.box Ex9.sz)
  have V1 := Lib.hid (ge_view G4.out g)
  clear g4 S3' G3
  go_wp2_with fail
  (with_reducible refine (V1.out).mono ?_)
  rintro _ w5 ⟨va, rfl, g5⟩
  have V2 := Lib.hid (ge_view g5 g)
  clear V1 g5
  go_wp2_with fail
  (with_reducible refine (V2.out).mono ?_)
  rintro _ w6 ⟨vb, rfl, g6⟩
  have V3 := Lib.hid (ge_view g6 g)
  clear V2 g6
  go_wp2_with fail
  (with_reducible refine (V3.out).mono ?_)
  rintro _ w7 ⟨vc, rfl, g7⟩
  clear V3 G4
  obtain ⟨P, gP, hr, h0, h1, h2⟩ : ∃ P : VNR, GE W P 3 Ex9.R3 (fun _ => []) [(w4.heap.size, Ex9.sz), (w3.heap.size, Ex9.sy), (w2.heap.size, Ex9.sx)] w7 ∧ P.rb = rb ∧ P.vbs 0 = va ∧ P.vbs 1 = vb ∧ P.vbs 2 = vc := ⟨_, g7, rfl, rfl, rfl, rfl⟩
  clear g7
  subst hr h0 h1 h2
  generalize w2.heap.size = bx at *
  generalize w3.heap.size = by' at *
  generalize w4.heap.size = bz at *
  have G7 := Lib.hid gP
  -- the boxes of x, y, z at G7.out (its GE), where they stand behind 0 others
  obtain ⟨_, _, _⟩ := cell3 ((G7.out).at (0) rfl)
  obtain ⟨_, _, _⟩ := cell3 ((G7.out).at (0 + 1) rfl)
  obtain ⟨_, _, _⟩ := cell3 ((G7.out).at (0 + 2) rfl)
  have A1 := Lib.hid (ge_accept G7.out g (i := 0) (by omega) Ex9.sx (Ex9.s_ok (by decide)) (by decide) Ex9.a1)
  go_wp2_with fail
  (with_reducible refine (A1.out).mono ?_)
  rintro _ w8 ⟨rfl, g8⟩
  have G8 := Lib.hid g8
  -- the boxes of x, y, z at G8.out (its GE), where they stand behind 0 others
  obtain ⟨_, _, _⟩ := cell3 ((G8.out).at (0) rfl)
  obtain ⟨_, _, _⟩ := cell3 ((G8.out).at (0 + 1) rfl)
  obtain ⟨_, _, _⟩ := cell3 ((G8.out).at (0 + 2) rfl)
  have A2 := Lib.hid (ge_accept G8.out g (i := 1) (by omega) Ex9.sz (Ex9.s_ok (by decide)) (by decide) Ex9.a2)
  clear gP g8 A1 G7
  go_wp2_with fail
  (with_reducible refine (A2.out).mono ?_)
  rintro _ w9 ⟨rfl, g9⟩
  have G9 := Lib.hid g9
  -- the boxes of x, y, z at G9.out (its GE), where they stand behind 0 others
  obtain ⟨_, _, _⟩ := cell3 ((G9.out).at (0) rfl)
  obtain ⟨_, _, _⟩ := cell3 ((G9.out).at (0 + 1) rfl)
  obtain ⟨_, _, _⟩ := cell3 ((G9.out).at (0 + 2) rfl)
  have A3 := Lib.hid (ge_accept G9.out g (i := 2) (by omega) Ex9.sy (Ex9.s_ok (by decide)) (by decide) Ex9.a3)
  clear g9 A2 G8
  go_wp2_with fail
  (with_reducible refine (A3.out).mono ?_)
  rintro _ w10 ⟨rfl, g10⟩
  have G10 : Hid (GE W P 3 Ex9.R3 Ex9.L3 [(bz, Ex9.sz), (by', Ex9.sy), (bx, Ex9.sx)] w10) := g10
  have M1 := Lib.hid (ge_meet G10.out g (i := 0) (k := 2) (by omega) (by omega) (by decide) Ex9.m1)
  clear g10 A3 G9
  go_wp2_with fail
  (with_reducible refine (M1.out).mono ?_)
  rintro _ w11 ⟨rfl, g11⟩
  have G11 := Lib.hid (g11.box2 Ex9.sx Ex9.sy)
  have M2 := Lib.hid (ge_meet G11.out g (i := 0) (k := 1) (by omega) (by omega) (by decide) Ex9.m3)
  clear g11 M1 G10
  go_wp2_with fail
  (with_reducible refine (M2.out).mono ?_)
  rintro _ w12 ⟨rfl, g12⟩
  have G12 := Lib.hid (g12.box2 Bk.noSgn Bk.noSgn)
  have SP := Lib.hid (ge_spread G12.out (zs := w12.heap.size + 1 + 1) (by simp) g (by decide) Ex9.p1 rfl)
  clear g12 M2 G11
  go_wp2_with fail
  (with_reducible refine (SP.out).mono ?_)
  rintro _ w13 ⟨rfl, g13⟩
  have g13' := (show GE W P 3 Ex9.R3 Ex9.L5 _ w13 from g13).box2 Ex9.sx Ex9.sy
  have G13 := Lib.hid g13'
  clear g13 SP G12 g13'
  obtain ⟨_, _, _⟩ := cell3 ((G13.out).at (0) rfl)
  obtain ⟨_, _, _⟩ := cell3 ((G13.out).at (0 + 1) rfl)
  obtain ⟨_, _, _⟩ := cell3 ((G13.out).at (0 + 4) rfl)
  obtain ⟨_, _, _⟩ := cell3 ((G13.out).at (0 + 5) rfl)
  obtain ⟨_, _, _⟩ := cell3 ((G13.out).at (0 + 7) rfl)
  obtain ⟨_, _, _⟩ := cell3 ((G13.out).at (0 + 8) rfl)
  obtain ⟨ym0, ym1⟩ := Ex9.y1
  have hl1 := Ex9.l1
  have hl2 := Ex9.l2
  have HL := Lib.hid (And.intro hl1 hl2)
  clear hl1 hl2
  have G13b := Lib.hid (G13.out.box Ex9.sy)
  obtain ⟨_, _, _⟩ := cell3 (G13b.out.at 8 rfl)
  have G14 := Lib.hid (G13.out.boxN ⟨Ex9.sy.key, Ex9.sy.text, Ex9.sy.mark + 1⟩ (zs := w13.heap.size + 1 + 1) (by simp))
  go_upto_region 18 with fail
  clear G13b
  obtain ⟨_, _, _⟩ := cell3 ((G14.out).at (1) rfl)
  obtain ⟨_, _, _⟩ := cell3 ((G14.out).at (1 + 1) rfl)
  obtain ⟨_, _, _⟩ := cell3 ((G14.out).at (1 + 4) rfl)
  obtain ⟨_, _, _⟩ := cell3 ((G14.out).at (1 + 5) rfl)
  obtain ⟨_, _, _⟩ := cell3 ((G14.out).at (1 + 7) rfl)
  obtain ⟨_, _, _⟩ := cell3 ((G14.out).at (1 + 8) rfl)
  have C1 := Lib.hid (ge_claims G14.out g (i := 0) (by omega) (by decide) HL.out.1)
  go_wp2_with fail
  (with_reducible refine (C1.out).mono ?_)
  rintro _ w14 ⟨ac, cc, rfl, g14⟩
  have G15 := Lib.hid g14
  obtain ⟨_, _, _⟩ := cell3 ((G15.out).at (1) rfl)
  obtain ⟨_, _, _⟩ := cell3 ((G15.out).at (1 + 1) rfl)
  obtain ⟨_, _, _⟩ := cell3 ((G15.out).at (1 + 4) rfl)
  obtain ⟨_, _, _⟩ := cell3 ((G15.out).at (1 + 5) rfl)
  obtain ⟨_, _, _⟩ := cell3 ((G15.out).at (1 + 7) rfl)
  obtain ⟨_, _, _⟩ := cell3 ((G15.out).at (1 + 8) rfl)
  have C2 := Lib.hid (ge_claims G15.out g (i := 1) (by omega) (by decide) HL.out.2)
  clear g14 C1 G13
  go_wp2_with fail
  (with_reducible refine (C2.out).mono ?_)
  rintro _ w15 ⟨ad, cd, rfl, g15⟩
  have G16 := Lib.hid g15
  obtain ⟨_, _, _⟩ := cell3 ((G16.out).at (1) rfl)
  obtain ⟨_, _, _⟩ := cell3 ((G16.out).at (1 + 1) rfl)
  obtain ⟨_, _, _⟩ := cell3 ((G16.out).at (1 + 4) rfl)
  obtain ⟨_, _, _⟩ := cell3 ((G16.out).at (1 + 5) rfl)
  obtain ⟨_, _, _⟩ := cell3 ((G16.out).at (1 + 7) rfl)
  obtain ⟨_, _, _⟩ := cell3 ((G16.out).at (1 + 8) rfl)
  obtain ⟨_, _, _⟩ := cell3 (G16.out.at 0 rfl)
  clear g15 C2 G14 G15
  have V1 := Lib.hid (ge_convict G16.out g Ex9.sx Ex9.sy (Ex9.s_ok (by decide)) (Ex9.s_ok (by decide)) Ex9.c1)
  go_wp2_with fail
  (with_reducible refine (V1.out).mono ?_)
  rintro _ w16 ⟨rfl, g16⟩
  have G17 := Lib.hid g16
  obtain ⟨_, _, _⟩ := cell3 ((G17.out).at (1) rfl)
  obtain ⟨_, _, _⟩ := cell3 ((G17.out).at (1 + 1) rfl)
  obtain ⟨_, _, _⟩ := cell3 ((G17.out).at (1 + 4) rfl)
  obtain ⟨_, _, _⟩ := cell3 ((G17.out).at (1 + 5) rfl)
  obtain ⟨_, _, _⟩ := cell3 ((G17.out).at (1 + 7) rfl)
  obtain ⟨_, _, _⟩ := cell3 ((G17.out).at (1 + 8) rfl)
  obtain ⟨_, _, _⟩ := cell3 (G17.out.at 0 rfl)
  have V2 := Lib.hid (ge_convict G17.out g Ex9.sx Ex9.sx (Ex9.s_ok (by decide)) (Ex9.s_ok (by decide)) Ex9.c2)
  clear g16 V1 G16
  go_wp2_with fail
  (with_reducible refine (V2.out).mono ?_)
  rintro _ w17 ⟨rfl, g17⟩
  have G18 := Lib.hid g17
  obtain ⟨_, _, _⟩ := cell3 ((G18.out).at (1) rfl)
  obtain ⟨_, _, _⟩ := cell3 ((G18.out).at (1 + 1) rfl)
  obtain ⟨_, _, _⟩ := cell3 ((G18.out).at (1 + 4) rfl)
  obtain ⟨_, _, _⟩ := cell3 ((G18.out).at (1 + 5) rfl)
  obtain ⟨_, _, _⟩ := cell3 ((G18.out).at (1 + 7) rfl)
  obtain ⟨_, _, _⟩ := cell3 ((G18.out).at (1 + 8) rfl)
  obtain ⟨_, _, _⟩ := cell3 (G18.out.at 0 rfl)
  have V3 := Lib.hid (ge_convict G18.out g Ex9.sx ⟨Ex9.sy.key, Ex9.sy.text, Ex9.sy.mark + 1⟩ (Ex9.s_ok (by decide)) (Ex9.s_ok (by decide)) Ex9.c3)
  clear g17 V2 G17
  go_wp2_with fail
  (with_reducible refine (V3.out).mono ?_)
  rintro _ w18 ⟨rfl, g18⟩
  have G19 := Lib.hid g18
  obtain ⟨_, _, _⟩ := cell3 ((G19.out).at (1) rfl)
  obtain ⟨_, _, _⟩ := cell3 ((G19.out).at (1 + 1) rfl)
  obtain ⟨_, _, _⟩ := cell3 ((G19.out).at (1 + 4) rfl)
  obtain ⟨_, _, _⟩ := cell3 ((G19.out).at (1 + 5) rfl)
  obtain ⟨_, _, _⟩ := cell3 ((G19.out).at (1 + 7) rfl)
  obtain ⟨_, _, _⟩ := cell3 ((G19.out).at (1 + 8) rfl)
  have V4 := Lib.hid (convict_nil Ex9.sx Ex9.sy w18)
  clear g18 V3 G18
  go_wp2_with fail
  (with_reducible refine (V4.out).mono ?_)
  rintro _ w19 ⟨rfl, u19⟩
  have hfin := Lib.hid (G19.out.1.nw0.trans u19)
  clear V4 u19 G19
  go_wp2_with fail
  go_ret
  exact ⟨rfl, hfin.out⟩
end Go.Proofs.YtkhdnfmnnapjlaaDoor
