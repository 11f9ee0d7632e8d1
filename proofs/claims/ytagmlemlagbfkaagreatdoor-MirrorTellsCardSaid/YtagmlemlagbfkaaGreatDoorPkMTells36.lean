/- Genuine (chapter 37). The contract of the view's Copy. -/
import Derived.Test.YtagmlemlagbfkaaGreatDoorPkMTells23
import Derived.Test.YtagmlemlagbfkaaGreatDoorPkMTells32
namespace Go.Proofs.YtagmlemlagbfkaaGreatDoor
open Go.RowKit
set_option linter.unusedVariables false
set_option linter.unusedSimpArgs false
attribute [local irreducible] Calls

/-! ### Genuine -/
abbrev tAnsG : TypeId := 44
set_option maxRecDepth 100000 in
theorem genuine_w (lo hi : Nat) (lv : Value) (cs : List (List UInt8)) (q : Mi.Ques) (hq : QOk q) (cv : Value) (t : List UInt8) (has : Bool) (claims : List Bk.Sgn) (w : World) (g : Gl w) (hl : Sl lo hi w lv (cs.map bsM)) (hcv : ∃ a k c, cv = .slice a k c) :
    Calls Tryz.prog 16 #[lv, .agg #[.int .i64 q.kind, .int .i64 q.n, .string ⟨q.text.toArray⟩], .agg #[cv, .string ⟨t.toArray⟩, .bool has]] w fun e w' => e = .returned (.bool (Mi.genuine cs q ⟨claims, t, has⟩)) ∧ Nw w w' := by
  obtain ⟨ca, ck, cc, rfl⟩ := hcv
  obtain ⟨la, lc, rfl, -⟩ := strs_cells hl
  obtain ⟨k, n, nm⟩ := q
  dsimp only
  have n1 := nw_alloc w (.cells #[.int .i64 k, .int .i64 n, .string ⟨nm.toArray⟩] tQue)
  have k1 := heap_new w (.cells #[.int .i64 k, .int .i64 n, .string ⟨nm.toArray⟩] tQue)
  have s1 : (w.alloc (.cells #[.int .i64 k, .int .i64 n, .string ⟨nm.toArray⟩] tQue)).heap.size = w.heap.size + 1 := by simp
  have n2 := nw_alloc (w.alloc (.cells #[.int .i64 k, .int .i64 n, .string ⟨nm.toArray⟩] tQue)) (.cells #[.slice ca ck cc, .string ⟨t.toArray⟩, .bool has] tAnsG)
  have k2 := heap_new (w.alloc (.cells #[.int .i64 k, .int .i64 n, .string ⟨nm.toArray⟩] tQue)) (.cells #[.slice ca ck cc, .string ⟨t.toArray⟩, .bool has] tAnsG)
  rw [s1] at k2
  replace k1 := Nw.keep n2 k1
  have nn := n1.trans n2
  obtain ⟨w2, hw2⟩ : ∃ w2, (w.alloc (.cells #[.int .i64 k, .int .i64 n, .string ⟨nm.toArray⟩] tQue)).alloc (.cells #[.slice ca ck cc, .string ⟨t.toArray⟩, .bool has] tAnsG) = w2 := ⟨_, rfl⟩
  have HW2 := Lib.hid hw2
  rw [hw2] at k1 k2 nn
  obtain ⟨b, hb⟩ : ∃ b, w.heap.size = b := ⟨_, rfl⟩
  have Hb := Lib.hid hb
  rw [hb] at k1 k2
  have HN := Lib.hid nn
  have K1 := Lib.hid k1
  have K2 := Lib.hid k2
  have htx := Lib.hid (ctext_w lo hi _ cs w2 (hl.nw nn) n hq.n)
  obtain ⟨GB, hGB⟩ : ∃ GB, Mi.genuine cs ⟨k, n, nm⟩ ⟨claims, t, has⟩ = GB := ⟨_, rfl⟩
  rw [hGB]
  have hgn : Hid (GB = (decide (k = 3) && (has && ((Mi.textC cs n).2 && decide ((Mi.textC cs n).1 = t))))) := by show _ = _; rw [← hGB]; rfl
  clear hGB
  generalize Mi.textC cs n = X at *
  obtain ⟨T, ok⟩ := X
  dsimp only at *
  obtain ⟨a0, a1, -⟩ := cell3 k1
  clear n1 n2 s1 k1 k2 nn hw2 hb hl
  go_enter Tryz.func16, Tryz.ntmps16
  go_upto_region 1 with fail
  rw [HW2.out]
  (try rw [Hb.out])
  go_wp2_with fail
  (with_reducible refine (htx.out).mono ?_)
  rintro _ w3 ⟨rfl, u3⟩
  obtain ⟨b0, b1, -⟩ := cell3 (Nw.keep u3 K1.out)
  obtain ⟨-, b4, b5⟩ := cell3 (Nw.keep u3 K2.out)
  have HF := Lib.hid (HN.out.trans u3)
  clear htx u3 a0 a1
  by_cases hk : k = 3
  rotate_left
  · have d : (k == 3) = false := by simp [hk]
    have hz : Hid (GB = false) := by show _ = _; rw [hgn.out, decide_eq_false hk, Bool.false_and]
    clear hk
    go_wp2_with fail
    go_ret
    rw [hz.out]
    exact ⟨rfl, HF.out⟩
  have d : (k == 3) = true := by simp [hk]
  have hg2 : Hid (GB = (has && (ok && decide (T = t)))) := by show _ = _; rw [hgn.out, decide_eq_true hk, Bool.true_and]
  clear hk
  cases has with
  | false =>
    have hz : Hid (GB = false) := by show _ = _; rw [hg2.out]; rfl
    go_wp2_with fail
    go_ret
    rw [hz.out]
    exact ⟨rfl, HF.out⟩
  | true =>
    cases ok with
    | false =>
      have hz : Hid (GB = false) := by show _ = _; rw [hg2.out]; rfl
      go_wp2_with fail
      go_ret
      rw [hz.out]
      exact ⟨rfl, HF.out⟩
    | true =>
      by_cases ht : T = t
      · have dt : (T == t) = true := by simp [ht]
        have hz : Hid (GB = true) := by show _ = _; rw [hg2.out, decide_eq_true ht]; rfl
        clear ht
        go_wp2_with fail
        go_ret
        rw [hz.out]
        exact ⟨rfl, HF.out⟩
      · have dt : (T == t) = false := by simp [ht]
        have hz : Hid (GB = false) := by show _ = _; rw [hg2.out, decide_eq_false ht]; rfl
        clear ht
        go_wp2_with fail
        go_ret
        rw [hz.out]
        exact ⟨rfl, HF.out⟩
end Go.Proofs.YtagmlemlagbfkaaGreatDoor
namespace Go.Proofs.YtagmlemlagbfkaaGreatDoor
open Go.RowKit
set_option linter.unusedVariables false
set_option linter.unusedSimpArgs false
attribute [local irreducible] Calls

/-- ladingref08.Same. -/
theorem same_v (lo1 hi1 lo2 hi2 : Nat) (v1 v2 : Value) (X Y : List Bk.Sgn) (w : World) (h1 : SlS 3 lo1 hi1 w v1 (X.map sgl)) (h2 : SlS 3 lo2 hi2 w v2 (Y.map sgl)) (hX : X.length ≤ 900000) (he : X = Y) :
    Calls Tryz.prog 90 #[v1, v2] w fun e w' => e = .returned (.bool true) ∧ Nw w w' := by
  subst he
  obtain ⟨a1, k1, rfl, hm1, ha1⟩ := sgn_cells h1
  obtain ⟨a2, k2, rfl, hm2, ha2⟩ := sgn_cells h2
  have Ha1 := Lib.hid ha1
  have Ha2 := Lib.hid ha2
  clear ha1 ha2 h1 h2
  unfold maxLen at hm1 hm2
  go_enter Tryz.func90, Tryz.ntmps90
  go_wp2_with fail
  go_loopw [5] (fun i wr => ∃ n : Nat, n ≤ X.length ∧ i = .int .i64 n ∧ Nw w wr) (fun i _ => X.length - (intOf i).toNat)
  case atStart => exact ⟨0, Nat.zero_le _, rfl, Upd.refl _ _⟩
  case round =>
    obtain ⟨n, hn, rfl, u⟩ := hrel
    by_cases hlt : n < X.length
    · rcases Ha1.out with hnil | ⟨b1, o1, rfl, _, hb1, hc1⟩
      · simp [hnil] at hlt
      rcases Ha2.out with hnil | ⟨b2, o2, rfl, _, hb2, hc2⟩
      · simp [hnil] at hlt
      obtain ⟨p0, p1, p2⟩ := hc1 n hlt
      obtain ⟨q0, q1, q2⟩ := hc2 n hlt
      have d0 := ((Nw.below u).cell (p := ⟨b1, o1 + n * 3, none⟩) hb1).trans p0
      have d1 := ((Nw.below u).cell (p := ⟨b1, o1 + n * 3 + 1, none⟩) hb1).trans p1
      have d2 := ((Nw.below u).cell (p := ⟨b1, o1 + n * 3 + 2, none⟩) hb1).trans p2
      have e0 := ((Nw.below u).cell (p := ⟨b2, o2 + n * 3, none⟩) hb2).trans q0
      have e1 := ((Nw.below u).cell (p := ⟨b2, o2 + n * 3 + 1, none⟩) hb2).trans q1
      have e2 := ((Nw.below u).cell (p := ⟨b2, o2 + n * 3 + 2, none⟩) hb2).trans q2
      clear hc1 hc2 p0 p1 p2 q0 q1 q2
      generalize X[n] = x at *
      go_wp2_with fail
      go_quiet (fail)
      obtain ⟨w1, ew, u1⟩ := nw_drewN wr nq
      rw [ew]; clear ew
      go_wp2_with fail
      go_roundw
      case rel => exact ⟨n + 1, by omega, by go_num, u.trans u1⟩
      case measure => simp [intOf]; omega
    · go_wp2_with fail
      go_ret
      exact ⟨rfl, u⟩
end Go.Proofs.YtagmlemlagbfkaaGreatDoor
