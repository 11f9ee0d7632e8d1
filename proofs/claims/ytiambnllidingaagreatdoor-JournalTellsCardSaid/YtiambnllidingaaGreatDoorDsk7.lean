/- The contracts of the disk's Sync and Truncate. -/
import Derived.Test.YtiambnllidingaaGreatDoorDsk6
namespace Go.Proofs.YtiambnllidingaaGreatDoor
open Go.RowKit
set_option linter.unusedVariables false
set_option linter.unusedSimpArgs false
attribute [local irreducible] Calls

/-- What lies before and after the crash that a call may begin with. -/
structure Came (B : Nat) (w : World) (r : DiskR) (D D1 : Dk.Disk) (w1 : World) (r1 : DiskR) : Prop where
  at0 : DiskAt B w r D
  at1 : DiskAt B w1 r1 D1
  db : r1.db = r.db
  upd : Upd r.foot w w1
  foot : ∀ j, r1.foot j → r.foot j ∨ w.heap.size ≤ j
theorem Came.to {B : Nat} {w w1 : World} {r r1 : DiskR} {D D1 : Dk.Disk} (h : Came B w r D D1 w1 r1) : DiskTo B r D1 w w1 := ⟨r1, h.at1, h.db, h.upd, h.foot⟩
theorem Came.then_ {B : Nat} {w w1 w2 : World} {r r1 : DiskR} {D D1 D2 : Dk.Disk} (h : Came B w r D D1 w1 r1) (h2 : DiskTo B r1 D2 w1 w2) : DiskTo B r D2 w w2 := DiskTo.then_ h.at0 h.at1 h.db h.upd h.foot h2
theorem DiskTo.came {B : Nat} {w w1 : World} {r : DiskR} {D D1 : Dk.Disk} (h0 : DiskAt B w r D) (h : DiskTo B r D1 w w1) : ∃ r1, Came B w r D D1 w1 r1 := by
  obtain ⟨r1, a, b, c, d⟩ := h
  exact ⟨r1, h0, a, b, c, d⟩
set_option maxHeartbeats 1000000 in
set_option maxRecDepth 100000 in
theorem sync_c {B : Nat} {w : World} {r : DiskR} {D : Dk.Disk} (h : DiskAt B w r D) (g : Gl w) (hB : B ≤ w.heap.size) {f : Int} (hf : I64 f) :
    Calls Tryz.prog 57 #[.pointer (some ⟨r.db, 0, none⟩), .int .i64 f] w fun e w' => e = .returned (.int .i64 (Dk.sync D f).2) ∧ DiskTo B r (Dk.sync D f).1 w w' := by
  have hgb := g.big
  have he := Lib.hid (ends_c h)
  have H := Lib.hid h
  have HB := Lib.hid hB
  have HF := Lib.hid hf
  clear h hB hf
  go_enter Tryz.func57, Tryz.ntmps57
  go_wp2_with fail
  (with_reducible refine (he.out).mono ?_)
  rintro _ w1 ⟨rfl, hT1⟩
  obtain ⟨r1, hcm⟩ := DiskTo.came H.out hT1
  have C1 := Lib.hid hcm
  clear hT1 he hcm
  generalize hE : Dk.ends D = E at *
  cases E with
  | true =>
    have hcome : Hid (Dk.crash (Dk.counted D) (Dk.counted D).keep = Dk.come D) := by show _ = _; unfold Dk.come; rw [hE, if_pos rfl, counted_keep]
    have c6 := C1.out.at1.cells.2.2.2.2.2.2
    rw [C1.out.db] at c6
    have hc := crash_c C1.out.at1 (g.upd C1.out.upd) (Nat.le_trans HB.out C1.out.upd.size) B w1.heap.size r1.kv (Dk.counted D).keep (keep_sl C1.out.at1) C1.out.at1.kI
    rw [C1.out.db] at hc
    obtain ⟨ak, ck, hkv⟩ := own_slD C1.out.at1.keep
    rw [hkv] at hc c6
    have Hc := Lib.hid hc
    clear hc hE
    go_wp2_with fail
    (with_reducible refine Hc.out.mono ?_)
    rintro _ w2 ⟨rfl, hT2⟩
    rw [hcome.out] at hT2
    obtain ⟨r2, hcm⟩ := DiskTo.came H.out (C1.out.then_ hT2)
    have C2 := Lib.hid hcm
    clear hT2 hcm Hc c6 hkv
    have hm := may_c C2.out.at1 f
    rw [C2.out.db] at hm
    have Hm := Lib.hid hm
    have hr0 : Dk.sync D f = if Dk.may (Dk.come D) f ≠ 0 then (Dk.come D, Dk.may (Dk.come D) f) else if 0 < (Dk.come D).lost then ({ Dk.come D with lost := (Dk.come D).lost - 1 }, 9) else (Dk.settle (Dk.come D) f ((Dk.come D).fs f).now, 0) := rfl
    generalize hD' : Dk.come D = D' at *
    clear hm hD'
    by_cases hm0 : Dk.may D' f = 0
    rotate_left
    · have hr : Hid (Dk.sync D f = (D', Dk.may D' f)) := by show _ = _; rw [hr0, if_pos hm0]
      have d0 : (Dk.may D' f == 0) = false := beq_eq_false_iff_ne.2 hm0
      have d1 : (Dk.may D' f != 0) = true := by simp [hm0]
      clear hm0 hr0
      go_wp2_with fail
      (with_reducible refine Hm.out.mono ?_)
      rintro _ _ ⟨rfl, rfl⟩
      go_wp2_with fail
      go_ret
      exact ⟨by rw [hr.out]; rfl, by rw [hr.out]; exact C2.out.to⟩
    rw [hm0] at Hm
    have c3 := C2.out.at1.cells.2.2.2.1
    rw [C2.out.db] at c3
    have hlo := C2.out.at1.ok.lost
    by_cases hl : 0 < D'.lost
    · have hr : Hid (Dk.sync D f = ({ D' with lost := D'.lost - 1 }, 9)) := by show _ = _; rw [hr0, if_neg (by omega), if_pos hl]
      have hT := DiskTo.set (D' := { D' with lost := D'.lost - 1 }) C2.out.at1 3 (.int .i64 (D'.lost - 1)) rfl rfl rfl rfl ⟨C2.out.at1.ok.now, C2.out.at1.ok.last, C2.out.at1.ok.q, C2.out.at1.ok.nd, ⟨by dsimp only; omega, by dsimp only; omega⟩, C2.out.at1.ok.armed⟩
      have HT := Lib.hid (C2.out.then_ hT)
      rw [C2.out.db] at HT
      have f3 := C2.out.at1.frozen 3
      rw [C2.out.db] at f3
      have hl1 : 0 ≤ D'.lost - 1 := by omega
      have hl2 : D'.lost ≤ 9223372036854775807 := hlo.2
      clear hT hr0 hm0 hlo
      go_wp2_with fail
      (with_reducible refine Hm.out.mono ?_)
      rintro _ _ ⟨rfl, rfl⟩
      go_wp2_with fail
      go_ret
      exact ⟨by rw [hr.out]; rfl, by rw [hr.out]; exact HT.out⟩
    have hr : Hid (Dk.sync D f = (Dk.settle D' f (D'.fs f).now, 0)) := by show _ = _; rw [hr0, if_neg (by omega), if_neg hl]
    have c0 := C2.out.at1.cells.1
    rw [C2.out.db] at c0
    have hlk := C2.out.at1.files.look HF.out
    unfold filV at hlk
    have hfn := Lib.hid (field_now (D'.fs f) w2)
    have hst := settle_c C2.out.at1 (g.upd C2.out.upd) HF.out (D'.fs f).now (C2.out.at1.ok.now f) (Nat.le_trans HB.out C2.out.upd.size)
    rw [C2.out.db] at hst
    have Hlk := Lib.hid hlk
    have Hst := Lib.hid hst
    clear hlk hst hr0 hm0 hlo
    go_wp2_with fail
    (with_reducible refine Hm.out.mono ?_)
    rintro _ _ ⟨rfl, rfl⟩
    go_wp2_with (first | (at_lookup; refine wpList_lookL rfl _ _ tFiles false rfl _ _ _ rfl rfl Hlk.out ?_) | (with_reducible refine wpList_fieldL (o := ⟨some 40, _, _, _, _, _⟩) rfl _ tFile 0 rfl _ _ hfn.out (by with_unfolding_all rfl) ?_))
    (with_reducible refine Hst.out.mono ?_)
    rintro _ w4 ⟨rfl, hT4⟩
    go_wp2_with fail
    go_ret
    exact ⟨by rw [hr.out]; rfl, by rw [hr.out]; exact C2.out.then_ hT4⟩
  | false =>
    have hcome : Dk.counted D = Dk.come D := by unfold Dk.come; rw [hE, if_neg (by decide)]
    obtain ⟨w2, rfl⟩ : ∃ z, z = w1 := ⟨_, rfl⟩
    obtain ⟨r2, hcm⟩ := DiskTo.came H.out (by have := C1.out.to; rw [hcome] at this; exact this)
    have C2 := Lib.hid hcm
    clear hcm hE C1 hcome
    have hm := may_c C2.out.at1 f
    rw [C2.out.db] at hm
    have Hm := Lib.hid hm
    have hr0 : Dk.sync D f = if Dk.may (Dk.come D) f ≠ 0 then (Dk.come D, Dk.may (Dk.come D) f) else if 0 < (Dk.come D).lost then ({ Dk.come D with lost := (Dk.come D).lost - 1 }, 9) else (Dk.settle (Dk.come D) f ((Dk.come D).fs f).now, 0) := rfl
    generalize hD' : Dk.come D = D' at *
    clear hm hD'
    by_cases hm0 : Dk.may D' f = 0
    rotate_left
    · have hr : Hid (Dk.sync D f = (D', Dk.may D' f)) := by show _ = _; rw [hr0, if_pos hm0]
      have d0 : (Dk.may D' f == 0) = false := beq_eq_false_iff_ne.2 hm0
      have d1 : (Dk.may D' f != 0) = true := by simp [hm0]
      clear hm0 hr0
      go_wp2_with fail
      (with_reducible refine Hm.out.mono ?_)
      rintro _ _ ⟨rfl, rfl⟩
      go_wp2_with fail
      go_ret
      exact ⟨by rw [hr.out]; rfl, by rw [hr.out]; exact C2.out.to⟩
    rw [hm0] at Hm
    have c3 := C2.out.at1.cells.2.2.2.1
    rw [C2.out.db] at c3
    have hlo := C2.out.at1.ok.lost
    by_cases hl : 0 < D'.lost
    · have hr : Hid (Dk.sync D f = ({ D' with lost := D'.lost - 1 }, 9)) := by show _ = _; rw [hr0, if_neg (by omega), if_pos hl]
      have hT := DiskTo.set (D' := { D' with lost := D'.lost - 1 }) C2.out.at1 3 (.int .i64 (D'.lost - 1)) rfl rfl rfl rfl ⟨C2.out.at1.ok.now, C2.out.at1.ok.last, C2.out.at1.ok.q, C2.out.at1.ok.nd, ⟨by dsimp only; omega, by dsimp only; omega⟩, C2.out.at1.ok.armed⟩
      have HT := Lib.hid (C2.out.then_ hT)
      rw [C2.out.db] at HT
      have f3 := C2.out.at1.frozen 3
      rw [C2.out.db] at f3
      have hl1 : 0 ≤ D'.lost - 1 := by omega
      have hl2 : D'.lost ≤ 9223372036854775807 := hlo.2
      clear hT hr0 hm0 hlo
      go_wp2_with fail
      (with_reducible refine Hm.out.mono ?_)
      rintro _ _ ⟨rfl, rfl⟩
      go_wp2_with fail
      go_ret
      exact ⟨by rw [hr.out]; rfl, by rw [hr.out]; exact HT.out⟩
    have hr : Hid (Dk.sync D f = (Dk.settle D' f (D'.fs f).now, 0)) := by show _ = _; rw [hr0, if_neg (by omega), if_neg hl]
    have c0 := C2.out.at1.cells.1
    rw [C2.out.db] at c0
    have hlk := C2.out.at1.files.look HF.out
    unfold filV at hlk
    have hfn := Lib.hid (field_now (D'.fs f) w2)
    have hst := settle_c C2.out.at1 (g.upd C2.out.upd) HF.out (D'.fs f).now (C2.out.at1.ok.now f) (Nat.le_trans HB.out C2.out.upd.size)
    rw [C2.out.db] at hst
    have Hlk := Lib.hid hlk
    have Hst := Lib.hid hst
    clear hlk hst hr0 hm0 hlo
    go_wp2_with fail
    (with_reducible refine Hm.out.mono ?_)
    rintro _ _ ⟨rfl, rfl⟩
    go_wp2_with (first | (at_lookup; refine wpList_lookL rfl _ _ tFiles false rfl _ _ _ rfl rfl Hlk.out ?_) | (with_reducible refine wpList_fieldL (o := ⟨some 40, _, _, _, _, _⟩) rfl _ tFile 0 rfl _ _ hfn.out (by with_unfolding_all rfl) ?_))
    (with_reducible refine Hst.out.mono ?_)
    rintro _ w4 ⟨rfl, hT4⟩
    go_wp2_with fail
    go_ret
    exact ⟨by rw [hr.out]; rfl, by rw [hr.out]; exact C2.out.then_ hT4⟩
set_option maxHeartbeats 1000000 in
set_option maxRecDepth 100000 in
theorem truncate_c {B : Nat} {w : World} {r : DiskR} {D : Dk.Disk} (h : DiskAt B w r D) (g : Gl w) (hB : B ≤ w.heap.size) {f n : Int} (hf : I64 f) (hn : I64 n) :
    Calls Tryz.prog 59 #[.pointer (some ⟨r.db, 0, none⟩), .int .i64 f, .int .i64 n] w fun e w' => e = .returned (.int .i64 (Dk.truncate D f n).2) ∧ DiskTo B r (Dk.truncate D f n).1 w w' := by
  have hgb := g.big
  have he := Lib.hid (ends_c h)
  have H := Lib.hid h
  have HB := Lib.hid hB
  have HF := Lib.hid hf
  have HN := Lib.hid hn
  clear h hB hf hn
  go_enter Tryz.func59, Tryz.ntmps59
  go_wp2_with fail
  (with_reducible refine (he.out).mono ?_)
  rintro _ w1 ⟨rfl, hT1⟩
  obtain ⟨r1, hcm⟩ := DiskTo.came H.out hT1
  have C1 := Lib.hid hcm
  clear hT1 he hcm
  generalize hE : Dk.ends D = E at *
  cases E with
  | true =>
    have hcome : Hid (Dk.crash (Dk.counted D) (Dk.counted D).keep = Dk.come D) := by show _ = _; unfold Dk.come; rw [hE, if_pos rfl, counted_keep]
    have c6 := C1.out.at1.cells.2.2.2.2.2.2
    rw [C1.out.db] at c6
    have hc := crash_c C1.out.at1 (g.upd C1.out.upd) (Nat.le_trans HB.out C1.out.upd.size) B w1.heap.size r1.kv (Dk.counted D).keep (keep_sl C1.out.at1) C1.out.at1.kI
    rw [C1.out.db] at hc
    obtain ⟨ak, ck, hkv⟩ := own_slD C1.out.at1.keep
    rw [hkv] at hc c6
    have Hc := Lib.hid hc
    clear hc hE
    go_wp2_with fail
    (with_reducible refine Hc.out.mono ?_)
    rintro _ w2 ⟨rfl, hT2⟩
    rw [hcome.out] at hT2
    obtain ⟨r2, hcm⟩ := DiskTo.came H.out (C1.out.then_ hT2)
    have C2 := Lib.hid hcm
    clear hT2 hcm Hc c6 hkv
    have hm := may_c C2.out.at1 f
    rw [C2.out.db] at hm
    have Hm := Lib.hid hm
    have hr0 : Dk.truncate D f n = if Dk.may (Dk.come D) f ≠ 0 then (Dk.come D, Dk.may (Dk.come D) f) else if n < 0 ∨ ((((Dk.come D).fs f).now.length : Nat) : Int) < n then (Dk.come D, 1) else (Dk.settle (Dk.come D) f (((Dk.come D).fs f).now.take n.toNat), 0) := rfl
    generalize hD' : Dk.come D = D' at *
    clear hm hD'
    by_cases hm0 : Dk.may D' f = 0
    rotate_left
    · have hr : Hid (Dk.truncate D f n = (D', Dk.may D' f)) := by show _ = _; rw [hr0, if_pos hm0]
      have d0 : (Dk.may D' f == 0) = false := beq_eq_false_iff_ne.2 hm0
      have d1 : (Dk.may D' f != 0) = true := by simp [hm0]
      clear hm0 hr0
      go_wp2_with fail
      (with_reducible refine Hm.out.mono ?_)
      rintro _ _ ⟨rfl, rfl⟩
      go_wp2_with fail
      go_ret
      exact ⟨by rw [hr.out]; rfl, by rw [hr.out]; exact C2.out.to⟩
    rw [hm0] at Hm
    rw [if_neg (by omega)] at hr0
    clear hm0
    by_cases hn0 : n < 0
    · have hr : Hid (Dk.truncate D f n = (D', 1)) := by show _ = _; rw [hr0, if_pos (Or.inl hn0)]
      clear hr0
      go_wp2_with fail
      (with_reducible refine Hm.out.mono ?_)
      rintro _ _ ⟨rfl, rfl⟩
      go_wp2_with fail
      go_ret
      exact ⟨by rw [hr.out]; rfl, by rw [hr.out]; exact C2.out.to⟩
    have hsz := size_c C2.out.at1 HF.out
    rw [C2.out.db] at hsz
    have hse : Dk.size D' f = ((D'.fs f).now.length : Int) := rfl
    have Hsz := Lib.hid hsz
    clear hsz
    by_cases hn1 : ((D'.fs f).now.length : Int) < n
    · have hr : Hid (Dk.truncate D f n = (D', 1)) := by show _ = _; rw [hr0, if_pos (Or.inr hn1)]
      rw [← hse] at hn1
      clear hr0 hse
      go_wp2_with fail
      (with_reducible refine Hm.out.mono ?_)
      rintro _ _ ⟨rfl, rfl⟩
      go_wp2_with fail
      (with_reducible refine Hsz.out.mono ?_)
      rintro _ _ ⟨rfl, rfl⟩
      go_wp2_with fail
      go_ret
      exact ⟨by rw [hr.out]; rfl, by rw [hr.out]; exact C2.out.to⟩
    have hr : Hid (Dk.truncate D f n = (Dk.settle D' f ((D'.fs f).now.take n.toNat), 0)) := by show _ = _; rw [hr0, if_neg (by omega)]
    have c0 := C2.out.at1.cells.1
    rw [C2.out.db] at c0
    have hlk := C2.out.at1.files.look HF.out
    unfold filV at hlk
    have hfn := Lib.hid (field_now (D'.fs f) w2)
    have hnow := C2.out.at1.ok.now f
    have hst := settle_c C2.out.at1 (g.upd C2.out.upd) HF.out ((D'.fs f).now.take n.toNat) (by rw [List.length_take]; omega) (Nat.le_trans HB.out C2.out.upd.size)
    rw [C2.out.db] at hst
    have hxt : (({ data := (D'.fs f).now.toArray } : ByteArray).extract 0 n.toNat) = ⟨((D'.fs f).now.take n.toNat).toArray⟩ := by rw [bs_extract]; simp
    rw [← hxt] at hst
    have hn1' : ¬ Dk.size D' f < n := by rw [hse]; exact hn1
    have hn2 : n ≤ ((D'.fs f).now.length : Int) := by omega
    have Hlk := Lib.hid hlk
    have Hst := Lib.hid hst
    clear hlk hst hr0 hxt hnow hn1 hse
    go_wp2_with fail
    (with_reducible refine Hm.out.mono ?_)
    rintro _ _ ⟨rfl, rfl⟩
    go_wp2_with fail
    (with_reducible refine Hsz.out.mono ?_)
    rintro _ _ ⟨rfl, rfl⟩
    go_wp2_with (first | (at_lookup; refine wpList_lookL rfl _ _ tFiles false rfl _ _ _ rfl rfl Hlk.out ?_) | (with_reducible refine wpList_fieldL (o := ⟨some 39, _, _, _, _, _⟩) rfl _ tFile 0 rfl _ _ hfn.out (by with_unfolding_all rfl) ?_))
    (with_reducible refine Hst.out.mono ?_)
    rintro _ w4 ⟨rfl, hT4⟩
    go_wp2_with fail
    go_ret
    exact ⟨by rw [hr.out]; rfl, by rw [hr.out]; exact C2.out.then_ hT4⟩
  | false =>
    have hcome : Dk.counted D = Dk.come D := by unfold Dk.come; rw [hE, if_neg (by decide)]
    obtain ⟨w2, rfl⟩ : ∃ z, z = w1 := ⟨_, rfl⟩
    obtain ⟨r2, hcm⟩ := DiskTo.came H.out (by have := C1.out.to; rw [hcome] at this; exact this)
    have C2 := Lib.hid hcm
    clear hcm hE C1 hcome
    have hm := may_c C2.out.at1 f
    rw [C2.out.db] at hm
    have Hm := Lib.hid hm
    have hr0 : Dk.truncate D f n = if Dk.may (Dk.come D) f ≠ 0 then (Dk.come D, Dk.may (Dk.come D) f) else if n < 0 ∨ ((((Dk.come D).fs f).now.length : Nat) : Int) < n then (Dk.come D, 1) else (Dk.settle (Dk.come D) f (((Dk.come D).fs f).now.take n.toNat), 0) := rfl
    generalize hD' : Dk.come D = D' at *
    clear hm hD'
    by_cases hm0 : Dk.may D' f = 0
    rotate_left
    · have hr : Hid (Dk.truncate D f n = (D', Dk.may D' f)) := by show _ = _; rw [hr0, if_pos hm0]
      have d0 : (Dk.may D' f == 0) = false := beq_eq_false_iff_ne.2 hm0
      have d1 : (Dk.may D' f != 0) = true := by simp [hm0]
      clear hm0 hr0
      go_wp2_with fail
      (with_reducible refine Hm.out.mono ?_)
      rintro _ _ ⟨rfl, rfl⟩
      go_wp2_with fail
      go_ret
      exact ⟨by rw [hr.out]; rfl, by rw [hr.out]; exact C2.out.to⟩
    rw [hm0] at Hm
    rw [if_neg (by omega)] at hr0
    clear hm0
    by_cases hn0 : n < 0
    · have hr : Hid (Dk.truncate D f n = (D', 1)) := by show _ = _; rw [hr0, if_pos (Or.inl hn0)]
      clear hr0
      go_wp2_with fail
      (with_reducible refine Hm.out.mono ?_)
      rintro _ _ ⟨rfl, rfl⟩
      go_wp2_with fail
      go_ret
      exact ⟨by rw [hr.out]; rfl, by rw [hr.out]; exact C2.out.to⟩
    have hsz := size_c C2.out.at1 HF.out
    rw [C2.out.db] at hsz
    have hse : Dk.size D' f = ((D'.fs f).now.length : Int) := rfl
    have Hsz := Lib.hid hsz
    clear hsz
    by_cases hn1 : ((D'.fs f).now.length : Int) < n
    · have hr : Hid (Dk.truncate D f n = (D', 1)) := by show _ = _; rw [hr0, if_pos (Or.inr hn1)]
      rw [← hse] at hn1
      clear hr0 hse
      go_wp2_with fail
      (with_reducible refine Hm.out.mono ?_)
      rintro _ _ ⟨rfl, rfl⟩
      go_wp2_with fail
      (with_reducible refine Hsz.out.mono ?_)
      rintro _ _ ⟨rfl, rfl⟩
      go_wp2_with fail
      go_ret
      exact ⟨by rw [hr.out]; rfl, by rw [hr.out]; exact C2.out.to⟩
    have hr : Hid (Dk.truncate D f n = (Dk.settle D' f ((D'.fs f).now.take n.toNat), 0)) := by show _ = _; rw [hr0, if_neg (by omega)]
    have c0 := C2.out.at1.cells.1
    rw [C2.out.db] at c0
    have hlk := C2.out.at1.files.look HF.out
    unfold filV at hlk
    have hfn := Lib.hid (field_now (D'.fs f) w2)
    have hnow := C2.out.at1.ok.now f
    have hst := settle_c C2.out.at1 (g.upd C2.out.upd) HF.out ((D'.fs f).now.take n.toNat) (by rw [List.length_take]; omega) (Nat.le_trans HB.out C2.out.upd.size)
    rw [C2.out.db] at hst
    have hxt : (({ data := (D'.fs f).now.toArray } : ByteArray).extract 0 n.toNat) = ⟨((D'.fs f).now.take n.toNat).toArray⟩ := by rw [bs_extract]; simp
    rw [← hxt] at hst
    have hn1' : ¬ Dk.size D' f < n := by rw [hse]; exact hn1
    have hn2 : n ≤ ((D'.fs f).now.length : Int) := by omega
    have Hlk := Lib.hid hlk
    have Hst := Lib.hid hst
    clear hlk hst hr0 hxt hnow hn1 hse
    go_wp2_with fail
    (with_reducible refine Hm.out.mono ?_)
    rintro _ _ ⟨rfl, rfl⟩
    go_wp2_with fail
    (with_reducible refine Hsz.out.mono ?_)
    rintro _ _ ⟨rfl, rfl⟩
    go_wp2_with (first | (at_lookup; refine wpList_lookL rfl _ _ tFiles false rfl _ _ _ rfl rfl Hlk.out ?_) | (with_reducible refine wpList_fieldL (o := ⟨some 39, _, _, _, _, _⟩) rfl _ tFile 0 rfl _ _ hfn.out (by with_unfolding_all rfl) ?_))
    (with_reducible refine Hst.out.mono ?_)
    rintro _ w4 ⟨rfl, hT4⟩
    go_wp2_with fail
    go_ret
    exact ⟨by rw [hr.out]; rfl, by rw [hr.out]; exact C2.out.then_ hT4⟩
end Go.Proofs.YtiambnllidingaaGreatDoor
