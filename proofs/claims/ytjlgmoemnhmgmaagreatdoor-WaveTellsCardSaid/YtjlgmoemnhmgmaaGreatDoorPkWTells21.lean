/- wave: the first two machines that do not talk; Mixed. -/
import Derived.Test.YtjlgmoemnhmgmaaGreatDoorPkWTells20
namespace Go.Proofs.YtjlgmoemnhmgmaaGreatDoor
open Go.RowKit
set_option linter.unusedVariables false
set_option linter.unusedSimpArgs false
attribute [local irreducible] Calls
open Wv (Svc FL svcOk sendsOk inR)

abbrev tHere : TypeId := 91
def HereAt (w : World) (b : Nat) (T : Nat → Bool) : Prop := ∃ arr : Array Value, w.heap[b]? = some (.cells arr tHere (0, 0)) ∧ ∀ i, i < 16 → arr[i]? = some (.bool (T i))
theorem HereAt.cell {w : World} {b : Nat} {T : Nat → Bool} (h : HereAt w b T) {i : Nat} (hi : i < 16) : w.cell? ⟨b, i, none⟩ = some (.bool (T i)) := by
  obtain ⟨arr, h1, h2⟩ := h
  rw [cells_cell h1]; exact h2 i hi
theorem HereAt.upd {w w' : World} {S : Nat → Prop} {b : Nat} {T : Nat → Bool} (h : HereAt w b T) (u : Upd S w w') (hn : ¬ S b) : HereAt w' b T := by
  obtain ⟨arr, h1, h2⟩ := h
  exact ⟨arr, u.keep h1 hn, h2⟩
theorem HereAt.frozen {w : World} {b : Nat} {T : Nat → Bool} (h : HereAt w b T) (i : Nat) : w.frozen? ⟨b, i, none⟩ = false := by
  obtain ⟨arr, h1, _⟩ := h
  exact cells_frozen h1 i
theorem HereAt.set {w : World} {b : Nat} {T : Nat → Bool} (h : HereAt w b T) {i : Nat} (hi : i < 16) (x : Bool) : HereAt (w.setCell ⟨b, i, none⟩ (.bool x)) b (fun j => if j = i then x else T j) := by
  obtain ⟨arr, h1, h2⟩ := h
  refine ⟨_, setCell_block h1 i (.bool x), fun j hj => ?_⟩
  have hs : i < arr.size := by
    have := h2 i hi
    exact (Array.getElem?_eq_some_iff.1 this).1
  show (arr.setIfInBounds i (.bool x))[j]? = some (.bool (if j = i then x else T j))
  by_cases e : j = i
  · subst e
    rw [if_pos rfl]
    simp [hs]
  · rw [if_neg e, Array.getElem?_setIfInBounds_ne (fun e2 => e e2.symm)]
    exact h2 j hj
def b2n (b : Bool) : Nat := if b then 1 else 0
theorem b2n_lt (b : Bool) : b2n b < 2 := by cases b <;> decide
theorem vb_b2n (b : Bool) : vb (b2n b) = b := by cases b <;> rfl
/-- Some machine ahead of n runs a service in a version. -/
def hereB (f : FL) (done : List Bool) (n s v : Nat) : Bool := (List.range n).any fun i => decide (Wv.run f i = s) && decide (b2n (Wv.ver done i) = v)
def HereTo (f : FL) (done : List Bool) (n : Nat) (H : Nat → Bool) : Prop := ∀ s v, s < 8 → v < 2 → H (s * 2 + v) = hereB f done n s v
theorem HereTo.next {f : FL} {done : List Bool} {n : Nat} {H : Nat → Bool} (h : HereTo f done n H) (hs : Wv.run f n < 8) :
    HereTo f done (n + 1) (fun j => if j = Wv.run f n * 2 + b2n (Wv.ver done n) then true else H j) := by
  intro s v h1 h2
  show (if s * 2 + v = Wv.run f n * 2 + b2n (Wv.ver done n) then true else H (s * 2 + v)) = _
  unfold hereB
  rw [List.range_succ, List.any_append]
  have hv := b2n_lt (Wv.ver done n)
  by_cases e : s * 2 + v = Wv.run f n * 2 + b2n (Wv.ver done n)
  · rw [if_pos e]
    have e1 : Wv.run f n = s := by omega
    have e2 : b2n (Wv.ver done n) = v := by omega
    simp [e1, e2]
  · rw [if_neg e, h s v h1 h2]
    have : (decide (Wv.run f n = s) && decide (b2n (Wv.ver done n) = v)) = false := by
      by_cases e1 : Wv.run f n = s
      · have e2 : b2n (Wv.ver done n) ≠ v := fun e2 => e (by rw [e1, e2])
        simp [e2]
      · simp [e1]
    simp [hereB, this]
/-- One service's part of the flag. -/
def flag1 (f : FL) (done : List Bool) (T : Nat → Bool) (s v k : Nat) : Bool := (hereB f done f.runs.length k 0 && !T (tIx s v k 0)) || (hereB f done f.runs.length k 1 && !T (tIx s v k 1))
def flagTo (f : FL) (done : List Bool) (T : Nat → Bool) (s v n : Nat) : Bool := (List.range n).any (flag1 f done T s v)
theorem flag_next (f : FL) (done : List Bool) (T : Nat → Bool) (s v n : Nat) : flagTo f done T s v (n + 1) = (flagTo f done T s v n || (hereB f done f.runs.length n 0 && !T (tIx s v n 0) || hereB f done f.runs.length n 1 && !T (tIx s v n 1))) := by
  unfold flagTo
  rw [List.range_succ, List.any_append]
  simp [flag1]
theorem run_lt {f : FL} (hr : Wv.Rg f) {i : Nat} (hi : i < f.runs.length) : Wv.run f i < f.old.length ∧ f.runs[i] = (Wv.run f i : Int) := by
  have h := hr.runs f.runs[i] (List.getElem_mem hi)
  unfold Wv.run
  rw [getD_of hi]
  omega
/-- The flag is up where there is one that is not talked to. -/
theorem flag_no {f : FL} {done : List Bool} {T : Nat → Bool} (hr : Wv.Rg f) (hok : TabOk f T) {i : Nat} (hi : i < f.runs.length) (h : flagTo f done T (Wv.run f i) (b2n (Wv.ver done i)) f.old.length = false) :
    ∀ k, k < f.runs.length → Wv.bad f done i k = false := by
  intro k hk
  have h1 := (run_lt hr hi).1
  have h2 := (run_lt hr hk).1
  unfold flagTo at h
  rw [List.any_eq_false] at h
  have h3 := h (Wv.run f k) (List.mem_range.2 h2)
  simp only [Bool.not_eq_true] at h3
  unfold flag1 at h3
  rw [Bool.or_eq_false_iff] at h3
  have hh : hereB f done f.runs.length (Wv.run f k) (b2n (Wv.ver done k)) = true := by
    unfold hereB
    rw [List.any_eq_true]
    exact ⟨k, List.mem_range.2 hk, by simp⟩
  have ht : T (tIx (Wv.run f i) (b2n (Wv.ver done i)) (Wv.run f k) (b2n (Wv.ver done k))) = true := by
    rcases h3 with ⟨h4, h5⟩
    cases hv : Wv.ver done k with
    | false =>
      rw [hv] at hh
      have hh' : hereB f done f.runs.length (Wv.run f k) 0 = true := hh
      rw [hh', Bool.true_and, Bool.not_eq_false'] at h4
      exact h4
    | true =>
      rw [hv] at hh
      have hh' : hereB f done f.runs.length (Wv.run f k) 1 = true := hh
      rw [hh', Bool.true_and, Bool.not_eq_false'] at h5
      exact h5
  rw [hok _ _ _ _ h1 (b2n_lt _) h2 (b2n_lt _), vb_b2n, vb_b2n] at ht
  unfold Wv.bad
  rw [ht]; rfl
theorem bad_tab {f : FL} {done : List Bool} {T : Nat → Bool} (hr : Wv.Rg f) (hok : TabOk f T) {i k : Nat} (hi : i < f.runs.length) (hk : k < f.runs.length) :
    Wv.bad f done i k = !T (tIx (Wv.run f i) (b2n (Wv.ver done i)) (Wv.run f k) (b2n (Wv.ver done k))) := by
  rw [hok _ _ _ _ (run_lt hr hi).1 (b2n_lt _) (run_lt hr hk).1 (b2n_lt _), vb_b2n, vb_b2n]; rfl
theorem version_b (a : Option Addr) (cap : Nat) (l : List Bool) (i : Nat) (w : World) (h : BC w a l) (hi : i ≤ 1000000) :
    Calls Tryz.prog 54 #[.slice a l.length cap, .int .i64 (i : Int)] w fun e w' => e = .returned (.int .i64 (b2n (Wv.ver l i) : Nat)) ∧ Nw w w' :=
  (version_c a cap l i w h hi).mono fun e w' ⟨he, hw⟩ => ⟨by rw [he]; cases Wv.ver l i <;> rfl, by rw [← hw]; exact Upd.refl _ _⟩
theorem first_results (tmps : Array Value) (w : World) : (results Tryz.f31 tmps).run Tryz.prog w = .ok (.tuple #[tmps.getD 6 undef, tmps.getD 7 undef, tmps.getD 8 undef]) w := by
  simp [results, Tryz.results31, go_sem]
set_option maxHeartbeats 16000000 in
set_option maxRecDepth 100000 in
theorem first_c (tb : Nat) (T : Nat → Bool) (oa na ra da : Option Addr) (oc nc rc dc : Nat) (f : FL) (done : List Bool) (w : World) (hgb : nG ≤ w.heap.size) (h : FlAt w oa na ra oc nc f) (hr : Wv.Rg f) (hT : TabAt w tb T) (hok : TabOk f T) (hd : BC w da done) (hdl : True) :
    Calls Tryz.prog 31 #[.pointer (some ⟨tb, 0, none⟩), .agg (flV oa na ra oc nc rc f), .slice da done.length dc] w fun e w' => e = .returned (.tuple #[.int .i64 (Wv.pairOf (Wv.firstBad f done)).1, .int .i64 (Wv.pairOf (Wv.firstBad f done)).2.1, .bool (Wv.pairOf (Wv.firstBad f done)).2.2]) ∧ Nw w w' := by
  unfold flV
  have n1 := nw_alloc w (.cells #[.slice oa f.old.length oc, .slice na f.new.length nc, .slice ra f.runs.length rc] tFl)
  have b1 := heap_new w (.cells #[.slice oa f.old.length oc, .slice na f.new.length nc, .slice ra f.runs.length rc] tFl)
  obtain ⟨W1, hW1⟩ : ∃ z, z = w.alloc (.cells #[.slice oa f.old.length oc, .slice na f.new.length nc, .slice ra f.runs.length rc] tFl) := ⟨_, rfl⟩
  have s1 : W1.heap.size = w.heap.size + 1 := by rw [hW1, World.size_alloc]
  rw [← hW1] at n1 b1
  have n2 := nw_alloc W1 (.cells #[.bool false, .bool false, .bool false, .bool false, .bool false, .bool false, .bool false, .bool false, .bool false, .bool false, .bool false, .bool false, .bool false, .bool false, .bool false, .bool false] tHere)
  have b2 := heap_new W1 (.cells #[.bool false, .bool false, .bool false, .bool false, .bool false, .bool false, .bool false, .bool false, .bool false, .bool false, .bool false, .bool false, .bool false, .bool false, .bool false, .bool false] tHere)
  obtain ⟨W, hW⟩ : ∃ z, z = W1.alloc (.cells #[.bool false, .bool false, .bool false, .bool false, .bool false, .bool false, .bool false, .bool false, .bool false, .bool false, .bool false, .bool false, .bool false, .bool false, .bool false, .bool false] tHere) := ⟨_, rfl⟩
  rw [← hW] at n2 b2
  rw [s1] at b2
  rw [hW1] at hW
  have HH0 : Hid (HereAt W (w.heap.size + 1) (fun _ => false)) := ⟨_, b2, fun i hi => by
    rw [show (#[.bool false, .bool false, .bool false, .bool false, .bool false, .bool false, .bool false, .bool false, .bool false, .bool false, .bool false, .bool false, .bool false, .bool false, .bool false, .bool false] : Array Value) = Array.replicate 16 (.bool false) from rfl, Array.getElem?_replicate, if_pos hi]⟩
  have HT0 : Hid (HereTo f done 0 (fun _ => false)) := fun s v _ _ => rfl
  have HN := Lib.hid (n1.trans n2)
  have HW := Lib.hid hW
  obtain ⟨hb, hhb⟩ : ∃ b, b = w.heap.size + 1 := ⟨_, rfl⟩
  have HX : Hid (∀ y, Upd (fun k => k = hb) W y → y.cell? ⟨w.heap.size, 0, none⟩ = some (.slice oa f.old.length oc) ∧ y.cell? ⟨w.heap.size, 2, none⟩ = some (.slice ra f.runs.length rc)) := fun y u => by
    have hk := u.keep (Nw.keep n2 b1) (fun e => by omega)
    exact ⟨by rw [cells_cell hk]; rfl, by rw [cells_cell hk]; rfl⟩
  have HHB : Hid (w.heap.size ≤ hb ∧ nG ≤ hb) := ⟨by omega, by omega⟩
  have HF := Lib.hid h
  have HRG := Lib.hid hr
  have HTA := Lib.hid hT
  have HOK := Lib.hid hok
  have HD := Lib.hid hd
  have h8 : (f.old.length : Int) ≤ 8 := by have := hr.old8; omega
  have hrl : (f.runs.length : Int) ≤ 400 := by have := hr.few; omega
  have HWB : Hid (∀ y, Upd (fun k => k = hb) W y → Nw w y) := fun y u => HN.out.trans' u (fun k hk e => by have := HHB.out; omega)
  rw [← hhb] at HH0
  clear n1 n2 b1 b2 hW1 hW s1 h hr hT hok hd
  obtain ⟨x0, x2⟩ := HX.out W (Upd.refl _ _)
  go_enter Tryz.func31, Tryz.ntmps31
  go_upto_region 2 with fail
  rw [← HW.out, ← hhb]
  clear HW hhb
  go_wp2_with fail
  clear x0 x2
  go_loopw [22] (fun iv wr => ∃ (n : Nat) (H : Nat → Bool), n ≤ f.runs.length ∧ iv = .int .i64 (n : Int) ∧ Hid (HereAt wr hb H) ∧ Hid (HereTo f done n H) ∧ Hid (Upd (fun k => k = hb) W wr)) (fun iv _ => f.runs.length - (intOf iv).toNat)
  case atStart => exact ⟨0, _, Nat.zero_le _, rfl, HH0, HT0, Upd.refl _ _⟩
  case round =>
    obtain ⟨n, H, hn, rfl, HHA, HHT, U⟩ := hrel
    by_cases hlt : n < f.runs.length
    · have hlt1 : (n : Int) < f.runs.length := by omega
      have hn9 : (n : Int) ≤ 400 := by omega
      have hn0 : decide ((n : Int) < 0) = false := decide_eq_false (by omega)
      have HNW := Lib.hid (HWB.out wr U.out)
      rcases HF.out.runs with hnil | ⟨b, off, rfl, _, hcell⟩
      · rw [hnil] at hlt; simp at hlt
      have c0 := nw_cellF HNW.out (hcell n hlt)
      obtain ⟨hsl, hse⟩ := run_lt HRG.out hlt
      rw [hse] at c0
      have HNX := Lib.hid (HHT.out.next (by have := HRG.out.old8; omega))
      have hv := Lib.hid (fun (y : World) (u : Nw wr y) => version_b da dc done n y (HD.out.nw (HNW.out.trans u)) (by omega))
      have hvl := b2n_lt (Wv.ver done n)
      have hs8 : ((Wv.run f n : Nat) : Int) < 8 := by omega
      have hs0 : decide (((Wv.run f n : Nat) : Int) < 0) = false := decide_eq_false (by omega)
      have hix : Wv.run f n * 2 + b2n (Wv.ver done n) < 16 := by omega
      have HIX := Lib.hid hix
      clear hcell hse hix
      generalize b2n (Wv.ver done n) = v at *
      generalize Wv.run f n = s at *
      have hv2 : (v : Int) < 2 := by omega
      have hv0 : decide ((v : Int) < 0) = false := decide_eq_false (by omega)
      go_upto_region 5 with fail
      have hd0 : Nw wr wr.drew := (Upd.refl _ wr).drew
      refine wp_region_G (fun y => True) 6 (by kernel_rfl) ?_
      refine wpAnyG_pure (i := 0) (v := ?_) rfl (by kernel_rfl) (by kernel_rfl) (by kernel_rfl) (by kernel_rfl) (by kernel_rfl) (fun _ _ _ h => h) (by kernel_rfl) ?_ (fun _ => trivial) ?_
      rotate_left 1
      · (intro zz; go_simp; first | done | with_reducible rfl)
      (try simp only [Act.put, List.setIfInBounds_toArray, List.set_cons_zero, List.set_cons_succ])
      refine wpAnyG_pure (i := 1) (v := ?_) rfl (by kernel_rfl) (by kernel_rfl) (by kernel_rfl) (by kernel_rfl) (by kernel_rfl) (fun _ _ _ h => h) (by kernel_rfl) ?_ (fun _ => trivial) ?_
      rotate_left 1
      · (intro zz; go_simp; first | done | with_reducible rfl)
      (try simp only [Act.put, List.setIfInBounds_toArray, List.set_cons_zero, List.set_cons_succ])
      refine wpAnyG_pure (i := 2) (v := ?_) rfl (by kernel_rfl) (by kernel_rfl) (by kernel_rfl) (by kernel_rfl) (by kernel_rfl) (fun _ _ _ h => h) (by kernel_rfl) ?_ (fun _ => trivial) ?_
      rotate_left 1
      · (intro zz; go_simp; first | done | with_reducible rfl)
      (try simp only [Act.put, List.setIfInBounds_toArray, List.set_cons_zero, List.set_cons_succ])
      refine wpAnyG_pure (i := 4) (v := ?_) rfl (by kernel_rfl) (by kernel_rfl) (by kernel_rfl) (by kernel_rfl) (by kernel_rfl) (fun _ _ _ h => h) (by kernel_rfl) ?_ (fun _ => trivial) ?_
      rotate_left 1
      · (intro zz; go_simp; first | done | with_reducible rfl)
      (try simp only [Act.put, List.setIfInBounds_toArray, List.set_cons_zero, List.set_cons_succ])
      refine wpAnyG_ready [3] (by kernel_rfl) (by simp) ?_
      refine AllG.cons rfl (fun K hK => ?_) AllG.nil
      have hCC := hv.out wr.drew hd0
      go_simp
      (with_reducible refine (hCC).mono ?_)
      rintro _ w4 ⟨rfl, u4⟩
      clear hCC
      have HU4 := Lib.hid (Nw.trans hd0 u4)
      refine hK.out _ _ (fun _ => trivial) ?_
      clear hK K
      (try simp only [Act.put, List.setIfInBounds_toArray, List.set_cons_zero, List.set_cons_succ])
      refine wpAnyG_pure (i := 5) (v := ?_) rfl (by kernel_rfl) (by kernel_rfl) (by kernel_rfl) (by kernel_rfl) (by kernel_rfl) (fun _ _ _ h => h) (by kernel_rfl) ?_ (fun _ => trivial) ?_
      rotate_left 1
      · (intro zz; go_simp; first | done | with_reducible rfl)
      (try simp only [Act.put, List.setIfInBounds_toArray, List.set_cons_zero, List.set_cons_succ])
      refine wpAnyG_ready [6] (by kernel_rfl) (by simp) ?_
      refine AllG.cons rfl (fun K hK => ?_) AllG.nil
      have hHA := HHA.out.upd HU4.out (fun e => e)
      have c9 : w4.cell? ⟨hb, s * 2 + v, none⟩ = some (.bool (H (s * 2 + v))) := hHA.cell HIX.out
      have f9 : w4.frozen? ⟨hb, s * 2 + v, none⟩ = false := hHA.frozen _
      go_simp
      refine hK.out _ _ (fun e => absurd (show true = false from e) (by decide)) ?_
      clear hK K
      (try simp only [Act.put, List.setIfInBounds_toArray, List.set_cons_zero, List.set_cons_succ])
      refine wpAnyG_done (by kernel_rfl) ?_ _
      have HSET := Lib.hid (hHA.set HIX.out true)
      have HUA := Lib.hid ((U.out.nw HU4.out).trans' (Upd.set1 (Upd.refl _ w4) HHB.out.2 (s * 2 + v) (.bool true)) (fun _ _ e => e))
      clear hHA c9 f9 u4
      go_wp2_with fail
      go_roundw
      case rel => exact ⟨n + 1, _, by omega, by go_num, HSET.out, HNX.out, HUA.out⟩
      case measure => simp [intOf]; omega
    · obtain rfl : n = f.runs.length := by omega
      have HHA2 : Hid (∀ y, Nw wr y → ∀ s v, s < 8 → v < 2 → y.cell? ⟨hb, s * 2 + v, none⟩ = some (.bool (hereB f done f.runs.length s v))) := fun y u s v h1 h2 => by
        rw [← HHT.out s v h1 h2]
        exact (HHA.out.upd u (fun e => e)).cell (by omega)
      obtain ⟨x0, x2⟩ := HX.out wr U.out
      obtain ⟨Wh, hWh⟩ : ∃ y, y = wr := ⟨_, rfl⟩
      rw [← hWh] at U HHA2 x0 x2 ⊢
      clear HHA HHT HH0 HT0 hWh
      have HNWh := Lib.hid (HWB.out Wh U.out)
      go_wp2_with fail
      clear x0 x2
      go_loopw [37] (fun iv wr => ∃ n : Nat, n ≤ f.runs.length ∧ iv = .int .i64 (n : Int) ∧ Hid (∀ j, j < n → Wv.badRow f done j = none) ∧ Hid (Nw Wh wr)) (fun iv _ => f.runs.length - (intOf iv).toNat)
      case atStart => exact ⟨0, Nat.zero_le _, rfl, (fun j h => by omega), Upd.refl _ _⟩
      case round =>
        obtain ⟨n, hn, rfl, hA, hw⟩ := hrel
        have HNW := Lib.hid (HNWh.out.trans hw.out)
        obtain ⟨x0, x2⟩ := HX.out wr (U.out.nw hw.out)
        by_cases hlt : n < f.runs.length
        · have hlt1 : (n : Int) < f.runs.length := by omega
          have hn9 : (n : Int) ≤ 400 := by omega
          have hn0 : decide ((n : Int) < 0) = false := decide_eq_false (by omega)
          rcases HF.out.runs with hnil | ⟨b, off, rfl, hrb, hrcell⟩
          · rw [hnil] at hlt; simp at hlt
          have c0 := nw_cellF HNW.out (hrcell n hlt)
          obtain ⟨hsl, hse⟩ := run_lt HRG.out hlt
          rw [hse] at c0
          have HRC : Hid (∀ y, Nw w y → ∀ k (h : k < f.runs.length), y.cell? ⟨b, off + k, none⟩ = some (.int .i64 (Wv.run f k : Nat))) := fun y u k h => by rw [← (run_lt HRG.out h).2]; exact nw_cellF u (hrcell k h)
          have hv := Lib.hid (fun (y : World) (u : Nw wr y) => version_b da dc done n y (HD.out.nw (HNW.out.trans u)) (by omega))
          have hvl := b2n_lt (Wv.ver done n)
          have hs8 : ((Wv.run f n : Nat) : Int) < 8 := by omega
          have hs0 : decide (((Wv.run f n : Nat) : Int) < 0) = false := decide_eq_false (by omega)
          have HSL := Lib.hid hsl
          have HBT : Hid (∀ k, k < f.runs.length → Wv.bad f done n k = !T (tIx (Wv.run f n) (b2n (Wv.ver done n)) (Wv.run f k) (b2n (Wv.ver done k)))) := fun k hk => bad_tab HRG.out HOK.out hlt hk
          have HFN : Hid (flagTo f done T (Wv.run f n) (b2n (Wv.ver done n)) f.old.length = false → ∀ k, k < f.runs.length → Wv.bad f done n k = false) := fun h => flag_no HRG.out HOK.out hlt h
          clear hrcell hse hsl
          generalize b2n (Wv.ver done n) = v at *
          generalize Wv.run f n = s at *
          have hv2 : (v : Int) < 2 := by omega
          have hv0 : decide ((v : Int) < 0) = false := decide_eq_false (by omega)
          go_upto_region 10 with fail
          refine wp_region_nw (by kernel_rfl) (by kernel_rfl) ?_
          repeat (go_big_quiet_step ((go_at_call 54; exact later_call (hv.out _ (Later.nw _)))))
          refine wpQuiet_nil ?_
          intro w4 u4
          replace u4 := later_out u4
          have hw4 := Lib.hid (hw.out.trans u4)
          obtain ⟨y0, -⟩ := HX.out w4 (U.out.nw hw4.out)
          clear u4 c0 x0 x2 hv
          go_wp2_with fail
          go_loopw [15, 53] (fun bv kv wr => ∃ k : Nat, k ≤ f.old.length ∧ bv = .bool (flagTo f done T s v k) ∧ kv = .int .i64 (k : Int) ∧ Hid (Nw Wh wr)) (fun _ kv _ => f.old.length - (intOf kv).toNat)
          case atStart => exact ⟨0, Nat.zero_le _, rfl, rfl, hw4⟩
          case round =>
            obtain ⟨k, hk, rfl, rfl, hw⟩ := hrel
            by_cases hkl : k < f.old.length
            · have hkl1 : (k : Int) < f.old.length := by omega
              have hk8 : (k : Int) < 8 := by omega
              have hk0 : decide ((k : Int) < 0) = false := decide_eq_false (by omega)
              have c1 := HHA2.out wr hw.out k 0 (by omega) (by omega)
              have c2 := HHA2.out wr hw.out k 1 (by omega) (by omega)
              have hT' := HTA.out.upd (HNWh.out.trans hw.out) (fun e => e)
              have d1 : wr.cell? ⟨tb, s * 32 + v * 16 + k * 2, none⟩ = some (.bool (T (tIx s v k 0))) := hT'.cell (i := tIx s v k 0) (by have := HSL.out; unfold tIx; omega)
              have d2 : wr.cell? ⟨tb, s * 32 + v * 16 + k * 2 + 1, none⟩ = some (.bool (T (tIx s v k 1))) := hT'.cell (i := tIx s v k 1) (by have := HSL.out; unfold tIx; omega)
              have c1' : wr.cell? ⟨hb, k * 2, none⟩ = some (.bool (hereB f done f.runs.length k 0)) := c1
              have hfn := flag_next f done T s v k
              have HFX := Lib.hid hfn
              clear c1 hT' hfn
              obtain ⟨fl, hfl⟩ : ∃ fl, fl = flagTo f done T s v (k + 1) := ⟨_, rfl⟩
              rw [← hfl] at HFX
              have HFL := Lib.hid hfl
              clear hfl
              generalize flagTo f done T s v k = b0 at *
              generalize hereB f done f.runs.length k 0 = h0 at *
              generalize hereB f done f.runs.length k 1 = h1 at *
              generalize T (tIx s v k 0) = t0 at *
              generalize T (tIx s v k 1) = t1 at *
              go_upto_region 15 with fail
              cases b0 <;> cases h0 <;> cases t0 <;> cases h1 <;> cases t1
              all_goals
                go_wp2_with fail
                go_roundw
                case rel => exact ⟨k + 1, by omega, by rw [← HFL.out, HFX.out]; rfl, by go_num, hw⟩
                case measure => simp [intOf]; omega
            · obtain rfl : k = f.old.length := by omega
              have HNW2 := Lib.hid (HNWh.out.trans hw.out)
              clear HNW
              obtain ⟨x0, x2⟩ := HX.out wr (U.out.nw hw.out)
              obtain ⟨fl, hfl⟩ : ∃ fl, fl = flagTo f done T s v f.old.length := ⟨_, rfl⟩
              rw [← hfl] at HFN ⊢
              clear hfl
              go_wp2_with fail
              clear x0 x2
              go_loopw [91] (fun kv wr => ∃ k : Nat, k ≤ f.runs.length ∧ kv = .int .i64 (k : Int) ∧ Hid (∀ j, j < k → Wv.bad f done n j = false) ∧ Hid (Nw Wh wr)) (fun kv _ => f.runs.length - (intOf kv).toNat)
              case atStart => exact ⟨0, Nat.zero_le _, rfl, (fun j h => by omega), hw⟩
              case round =>
                obtain ⟨k, hk, rfl, hB, hw⟩ := hrel
                by_cases hkl : k < f.runs.length
                · have hkl1 : (k : Int) < f.runs.length := by omega
                  have hk9 : (k : Int) ≤ 400 := by omega
                  have hk0 : decide ((k : Int) < 0) = false := decide_eq_false (by omega)
                  have HNW := Lib.hid (HNWh.out.trans hw.out)
                  have c0 := HRC.out wr HNW.out k hkl
                  have HNXb : Hid (Wv.bad f done n k = false → ∀ j, j < k + 1 → Wv.bad f done n j = false) := fun e j h => by
                    by_cases ej : j = k
                    · subst ej; exact e
                    · exact hB.out j (by omega)
                  cases fl with
                  | false =>
                    have hB2 := Lib.hid (HNXb.out (HFN.out rfl k hkl))
                    clear HNXb
                    go_upto_region 20 with fail
                    refine wp_region_nw (by kernel_rfl) (by kernel_rfl) ?_
                    repeat (go_big_quiet_step ((fail)))
                    refine wpQuiet_nil ?_
                    intro w5 u5
                    replace u5 := later_out u5
                    have hw5 := Lib.hid (hw.out.trans u5)
                    clear u5 c0
                    go_wp2_with fail
                    go_roundw
                    case rel => exact ⟨k + 1, by omega, by go_num, hB2.out, hw5.out⟩
                    case measure => simp [intOf]; omega
                  | true =>
                    obtain ⟨hr8, -⟩ := run_lt HRG.out hkl
                    have hbt := HBT.out k hkl
                    have hv := Lib.hid (fun (y : World) (u : Nw wr y) => version_b da dc done k y (HD.out.nw (HNW.out.trans u)) (by omega))
                    have hul := b2n_lt (Wv.ver done k)
                    have hr8' : ((Wv.run f k : Nat) : Int) < 8 := by omega
                    have hr0 : decide (((Wv.run f k : Nat) : Int) < 0) = false := decide_eq_false (by omega)
                    have HRL := Lib.hid hr8
                    clear hr8
                    generalize b2n (Wv.ver done k) = u at *
                    generalize Wv.run f k = r at *
                    have hu2 : (u : Int) < 2 := by omega
                    have hu0 : decide ((u : Int) < 0) = false := decide_eq_false (by omega)
                    have d1 : ∀ j : Later wr, j.1.cell? ⟨tb, s * 32 + v * 16 + r * 2 + u, none⟩ = some (.bool (T (tIx s v r u))) := fun j => (HTA.out.upd (HNW.out.trans j.nw) (fun e => e)).cell (i := tIx s v r u) (by have := HSL.out; have := HRL.out; unfold tIx; omega)
                    generalize T (tIx s v r u) = tt at *
                    cases tt with
                    | true =>
                      have hB2 := Lib.hid (HNXb.out (by rw [hbt]; rfl))
                      clear HNXb hbt
                      go_upto_region 20 with fail
                      refine wp_region_nw (by kernel_rfl) (by kernel_rfl) ?_
                      repeat (go_big_quiet_step ((go_at_call 54; exact later_call (hv.out _ (Later.nw _)))))
                      refine wpQuiet_nil ?_
                      intro w5 u5
                      replace u5 := later_out u5
                      have hw5 := Lib.hid (hw.out.trans u5)
                      clear u5 c0 d1
                      go_wp2_with fail
                      go_roundw
                      case rel => exact ⟨k + 1, by omega, by go_num, hB2.out, hw5.out⟩
                      case measure => simp [intOf]; omega
                    | false =>
                      have HFB : Hid (Wv.firstBad f done = some (n, k)) := Wv.first_hit hlt (Wv.row_hit hkl (by rw [hbt]; rfl) hB.out) hA.out
                      clear HNXb hbt
                      go_upto_region 20 with fail
                      refine wp_region_nw (by kernel_rfl) (by kernel_rfl) ?_
                      repeat (go_big_quiet_step ((go_at_call 54; exact later_call (hv.out _ (Later.nw _)))))
                      refine wpQuiet_nil ?_
                      intro w5 u5
                      replace u5 := later_out u5
                      have hw5 := Lib.hid (HNW.out.trans u5)
                      clear u5 c0 d1
                      go_wp2_with fail
                      refine bodyPost_ret (first_results _ _) rfl ?_
                      exact ⟨by rw [HFB.out]; rfl, hw5.out⟩
                · obtain rfl : k = f.runs.length := by omega
                  have hA2 : Hid (∀ j, j < n + 1 → Wv.badRow f done j = none) := fun j h => by
                    by_cases ej : j = n
                    · subst ej; exact Wv.row_none hB.out
                    · exact hA.out j (by omega)
                  go_wp2_with fail
                  go_roundw
                  case rel => exact ⟨n + 1, by omega, by go_num, hA2.out, hw.out⟩
                  case measure => simp [intOf]; omega
        · obtain rfl : n = f.runs.length := by omega
          have HFB : Hid (Wv.firstBad f done = none) := Wv.first_none hA.out
          go_wp2_with fail
          refine bodyPost_ret (first_results _ _) rfl ?_
          exact ⟨by rw [HFB.out]; rfl, HNW.out⟩
end Go.Proofs.YtjlgmoemnhmgmaaGreatDoor
