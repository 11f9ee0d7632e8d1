/- The contract of gossip's Convict (layer 9). -/
import Derived.Test.YtkhdnfmnnapjlaaDoorSeals
import Derived.Test.YtkhdnfmnnapjlaaDoorClaimE
import Derived.Test.YtkhdnfmnnapjlaaDoorView0
import Derived.Test.YtkhdnfmnnapjlaaDoorView3
import Derived.Test.YtkhdnfmnnapjlaaDoorView4
namespace Go.Proofs.YtkhdnfmnnapjlaaDoor
open Go.RowKit
set_option linter.unusedVariables false
set_option linter.unusedSimpArgs false
attribute [local irreducible] Calls

/-- What Convict decides. -/
def convictE (Lr : List Bk.Seal) (a b : Bk.Sgn) : Int :=
  if Bk.valid Lr a = false then 18 else if Bk.valid Lr b = false then 18 else if ¬ a.key = b.key then 22
  else if (Cl.read a.text).2 = false then 2 else if (Cl.read b.text).2 = false then 2
  else if Cl.contra (Cl.read a.text).1 (Cl.read b.text).1 = false then 19 else 0
set_option maxHeartbeats 4000000 in
set_option maxRecDepth 100000 in
theorem convict_w (B : Nat) (q : RingR) (Lr : List Bk.Seal) (a b : Bk.Sgn) (w : World) (g : Gl w) (hq : RingAt B w q Lr) (ha : SgnOk a) (hb : SgnOk b) :
    Calls Tryd.prog 11 #[.pointer (some ⟨q.rb, 0, none⟩), .agg #[.int .i64 a.key, .string ⟨a.text.toArray⟩, .int .i64 a.mark], .agg #[.int .i64 b.key, .string ⟨b.text.toArray⟩, .int .i64 b.mark]] w fun e w' => e = .returned (.int .i64 (convictE Lr a b)) ∧ Nw w w' := by
  have n1 := nw_alloc w (.cells #[.int .i64 a.key, .string ⟨a.text.toArray⟩, .int .i64 a.mark] tSigned)
  have k1 := heap_new w (.cells #[.int .i64 a.key, .string ⟨a.text.toArray⟩, .int .i64 a.mark] tSigned)
  have s1 : (w.alloc (.cells #[.int .i64 a.key, .string ⟨a.text.toArray⟩, .int .i64 a.mark] tSigned)).heap.size = w.heap.size + 1 := by simp
  generalize hW1 : w.alloc (.cells #[.int .i64 a.key, .string ⟨a.text.toArray⟩, .int .i64 a.mark] tSigned) = W1 at *
  have n2 := nw_alloc W1 (.cells #[.int .i64 b.key, .string ⟨b.text.toArray⟩, .int .i64 b.mark] tSigned)
  have k2 := heap_new W1 (.cells #[.int .i64 b.key, .string ⟨b.text.toArray⟩, .int .i64 b.mark] tSigned)
  generalize hW2 : W1.alloc (.cells #[.int .i64 b.key, .string ⟨b.text.toArray⟩, .int .i64 b.mark] tSigned) = W2 at *
  have HW : Hid ((w.alloc (.cells #[.int .i64 a.key, .string ⟨a.text.toArray⟩, .int .i64 a.mark] tSigned)).alloc (.cells #[.int .i64 b.key, .string ⟨b.text.toArray⟩, .int .i64 b.mark] tSigned) = W2) := by show _ = _; rw [hW1, hW2]
  rw [s1] at k2
  have u2 := n1.trans n2
  have K1 := Lib.hid (n2.keep k1)
  have K2 := Lib.hid k2
  have hv1 := fun (z : World) (u : Nw W2 z) => valid_s B q Lr a z (g.upd (u2.trans u)) (hq.nw (u2.trans u)) ha
  have hv2 := fun (z : World) (u : Nw W2 z) => valid_s B q Lr b z (g.upd (u2.trans u)) (hq.nw (u2.trans u)) hb
  have hr1 := fun (z : World) (u : Nw W2 z) => read_c ⟨a.text.toArray⟩ a.text (bs_list _) (Nat.le_trans ha.t (by decide)) z (g.upd (u2.trans u))
  have hr2 := fun (z : World) (u : Nw W2 z) => read_c ⟨b.text.toArray⟩ b.text (bs_list _) (Nat.le_trans hb.t (by decide)) z (g.upd (u2.trans u))
  have hi1 := read_i64 a.text
  have hi2 := read_i64 b.text
  have hE' : Hid (convictE Lr a b = if Bk.valid Lr a = false then 18 else if Bk.valid Lr b = false then 18 else if ¬ a.key = b.key then 22
  else if (Cl.read a.text).2 = false then 2 else if (Cl.read b.text).2 = false then 2
  else if Cl.contra (Cl.read a.text).1 (Cl.read b.text).1 = false then 19 else 0) := by show _ = _; rfl
  have hc := fun (z : World) (u : Nw W2 z) => contra_c (Cl.read a.text).1 (Cl.read b.text).1 _ _ (bs_list _) (bs_list _) hi1 hi2 z (g.upd (u2.trans u))
  generalize convictE Lr a b = ce at *
  generalize Cl.contra (Cl.read a.text).1 (Cl.read b.text).1 = ct at *
  generalize Cl.read a.text = r1 at *
  generalize Cl.read b.text = r2 at *
  obtain ⟨c1, o1⟩ := r1
  obtain ⟨c2, o2⟩ := r2
  generalize Bk.valid Lr a = va at *
  generalize Bk.valid Lr b = vb at *
  obtain ⟨ak, ax, am⟩ := a
  obtain ⟨bk, bx, bm⟩ := b
  unfold clmV errV at hr1 hr2
  dsimp only at *
  have HV1 := Lib.hid hv1
  have HV2 := Lib.hid hv2
  have HR1 := Lib.hid hr1
  have HR2 := Lib.hid hr2
  have HC := Lib.hid hc
  clear hv1 hv2 hr1 hr2 hc hi1 hi2 hW1 hW2 n1 n2 k1 k2 s1 ha hb hq
  obtain ⟨_, _, _⟩ := cell3 K1.out
  obtain ⟨_, _, _⟩ := cell3 K2.out
  go_enter Tryd.func11, Tryd.ntmps11
  go_wp2_with fail
  rw [HW.out]
  go_wp2_with fail
  (with_reducible refine (HV1.out _ (Upd.refl _ _)).mono ?_)
  rintro _ w3 ⟨rfl, u3⟩
  obtain ⟨_, _, _⟩ := cell3 (Nw.keep u3 K1.out)
  obtain ⟨_, _, _⟩ := cell3 (Nw.keep u3 K2.out)
  cases va with
  | false =>
    have hr : Hid (ce = 18) := by show _ = _; rw [hE'.out, if_pos rfl]
    clear hE'
    go_wp2_with fail
    go_ret
    exact ⟨ret_int hr.out.symm, u2.trans u3⟩
  | true =>
  go_wp2_with fail
  (with_reducible refine (HV2.out _ u3).mono ?_)
  rintro _ w4 ⟨rfl, u4'⟩
  have u4 := u3.trans u4'
  obtain ⟨_, _, _⟩ := cell3 (Nw.keep u4 K1.out)
  obtain ⟨_, _, _⟩ := cell3 (Nw.keep u4 K2.out)
  cases vb with
  | false =>
    have hr : Hid (ce = 18) := by show _ = _; rw [hE'.out, if_neg (by simp), if_pos rfl]
    clear hE'
    go_wp2_with fail
    go_ret
    exact ⟨ret_int hr.out.symm, u2.trans u4⟩
  | true =>
  by_cases hk : ak = bk
  rotate_left
  · have hr : Hid (ce = 22) := by show _ = _; rw [hE'.out, if_neg (by simp), if_neg (by simp), if_pos hk]
    have dk : (ak != bk) = true := by simp [hk]
    have dk2 : (ak == bk) = false := by simp [hk]
    clear hE' hk
    go_wp2_with fail
    go_ret
    exact ⟨ret_int hr.out.symm, u2.trans u4⟩
  have hE2 : Hid (ce = if o1 = false then 2 else if o2 = false then 2 else if ct = false then 19 else 0) := by show _ = _; rw [hE'.out, if_neg (by simp), if_neg (by simp), if_neg (by simp [hk])]
  have dk : (ak != bk) = false := by simp [hk]
  have dk2 : (ak == bk) = true := by simp [hk]
  clear hE' hk
  go_wp2_with fail
  (with_reducible refine (HR1.out _ u4).mono ?_)
  rintro _ w5 ⟨rfl, u5'⟩
  have u5 := (u4.trans u5').alloc (.cells #[.int .i64 c1.kind, .int .i64 c1.n, .int .i64 c1.time, .string ⟨c1.text.toArray⟩] tC)
  have k5 := heap_new w5 (.cells #[.int .i64 c1.kind, .int .i64 c1.n, .int .i64 c1.time, .string ⟨c1.text.toArray⟩] tC)
  obtain ⟨_, _, _⟩ := cell3 (Nw.keep u5 K1.out)
  obtain ⟨_, _, _⟩ := cell3 (Nw.keep u5 K2.out)
  have K5 := Lib.hid k5
  clear k5
  cases o1 with
  | false =>
    have hr : Hid (ce = 2) := by show _ = _; rw [hE2.out, if_pos rfl]
    clear hE2
    go_wp2_with fail
    (with_reducible refine (HR2.out _ u5).mono ?_)
    rintro _ w6 ⟨rfl, u6'⟩
    have u6 := (u5.trans u6').alloc (.cells #[.int .i64 c2.kind, .int .i64 c2.n, .int .i64 c2.time, .string ⟨c2.text.toArray⟩] tC)
    obtain ⟨_, _, _, _⟩ := cell4 (Nw.keep (u6'.alloc (.cells #[.int .i64 c2.kind, .int .i64 c2.n, .int .i64 c2.time, .string ⟨c2.text.toArray⟩] tC)) K5.out)
    cases o2 with
    | false =>
      go_wp2_with fail
      go_ret
      exact ⟨ret_int hr.out.symm, u2.trans u6⟩
    | true =>
      go_wp2_with fail
      go_ret
      exact ⟨ret_int hr.out.symm, u2.trans u6⟩
  | true =>
  go_wp2_with fail
  (with_reducible refine (HR2.out _ u5).mono ?_)
  rintro _ w6 ⟨rfl, u6'⟩
  have u6 := (u5.trans u6').alloc (.cells #[.int .i64 c2.kind, .int .i64 c2.n, .int .i64 c2.time, .string ⟨c2.text.toArray⟩] tC)
  obtain ⟨_, _, _, _⟩ := cell4 (Nw.keep (u6'.alloc (.cells #[.int .i64 c2.kind, .int .i64 c2.n, .int .i64 c2.time, .string ⟨c2.text.toArray⟩] tC)) K5.out)
  cases o2 with
  | false =>
    have hr : Hid (ce = 2) := by show _ = _; rw [hE2.out, if_neg (by simp), if_pos rfl]
    clear hE2
    go_wp2_with fail
    go_ret
    exact ⟨ret_int hr.out.symm, u2.trans u6⟩
  | true =>
  go_wp2_with fail
  (with_reducible refine (HC.out _ u6).mono ?_)
  rintro _ w7 ⟨rfl, u7⟩
  cases ct with
  | false =>
    have hr : Hid (ce = 19) := by show _ = _; rw [hE2.out, if_neg (by simp), if_neg (by simp), if_pos rfl]
    clear hE2
    go_wp2_with fail
    go_ret
    exact ⟨ret_int hr.out.symm, u2.trans (u6.trans u7)⟩
  | true =>
    have hr : Hid (ce = 0) := by show _ = _; rw [hE2.out, if_neg (by simp), if_neg (by simp), if_neg (by simp)]
    clear hE2
    go_wp2_with fail
    go_ret
    exact ⟨ret_int hr.out.symm, u2.trans (u6.trans u7)⟩
end Go.Proofs.YtkhdnfmnnapjlaaDoor
