/- The contract of layer 34's reference: Both. -/
import Derived.Test.YtpceoogmkbcfmaaGreatDoorAttO
import Derived.BigRegion
namespace Go.Proofs.YtpceoogmkbcfmaaGreatDoor
open Go.RowKit
set_option linter.unusedVariables false
set_option linter.unusedSimpArgs false
attribute [local irreducible] Calls

theorem qboth_results {w : World} {b1 b2 : Nat} {tmps : Array Value} {v0 v1 v2 u0 u1 u2 : Value} {T T' : TypeId} {fz fz' : Nat × Nat} (h1 : w.heap[b1]? = some (.cells #[v0, v1, v2] T fz)) (h2 : w.heap[b2]? = some (.cells #[u0, u1, u2] T' fz')) (ht : tmps.getD 8 undef = .pointer (some ⟨b1, 0, none⟩)) (ht' : tmps.getD 9 undef = .pointer (some ⟨b2, 0, none⟩)) :
    (results Tryz.f25 tmps).run Tryz.prog w = .ok (.tuple #[.agg #[v0, v1, v2], .agg #[u0, u1, u2], tmps.getD 10 undef]) w := by
  have c0 : w.cell? ⟨b1, 0, none⟩ = some v0 := by rw [cells_cell h1]; rfl
  have c1 : w.cell? ⟨b1, 1, none⟩ = some v1 := by rw [cells_cell h1]; rfl
  have c2 : w.cell? ⟨b1, 2, none⟩ = some v2 := by rw [cells_cell h1]; rfl
  have d0 : w.cell? ⟨b2, 0, none⟩ = some u0 := by rw [cells_cell h2]; rfl
  have d1 : w.cell? ⟨b2, 1, none⟩ = some u1 := by rw [cells_cell h2]; rfl
  have d2 : w.cell? ⟨b2, 2, none⟩ = some u2 := by rw [cells_cell h2]; rfl
  clear h1 h2
  have ht2 : tmps[8]?.getD undef = .pointer (some ⟨b1, 0, none⟩) := by simpa using ht
  have ht3 : tmps[9]?.getD undef = .pointer (some ⟨b2, 0, none⟩) := by simpa using ht'
  clear ht ht'
  simp [results, Tryz.results25, go_sem, ht2, ht3, c0, c1, c2, d0, d1, d2]
theorem qboth_results_d {w : World} {b1 b2 : Nat} {tmps : Array Value} {v0 v1 v2 u0 u1 u2 : Value} {T T' : TypeId} {fz fz' : Nat × Nat} (h1 : w.heap[b1]? = some (.cells #[v0, v1, v2] T fz)) (h2 : w.heap[b2]? = some (.cells #[u0, u1, u2] T' fz')) (ht : tmps.getD 8 undef = .pointer (some ⟨b1, 0, none⟩)) (ht' : tmps.getD 9 undef = .pointer (some ⟨b2, 0, none⟩)) :
    (results Tryz.f25 tmps).run Tryz.prog w.drew = .ok (.tuple #[.agg #[v0, v1, v2], .agg #[u0, u1, u2], tmps.getD 10 undef]) w.drew :=
  qboth_results (w := w.drew) h1 h2 ht ht'
namespace At
theorem refBoth_drop {Lr : List Bk.Seal} {text : List UInt8} {key : Int} {C : List Bk.Sgn} {n : Nat} (h : n < C.length) : refBoth Lr text key (C.drop n) = match (C.drop (n + 1)).find? (okB Lr text key C[n]) with
    | some t => some (C[n], t)
    | none => refBoth Lr text key (C.drop (n + 1)) := by
  rw [List.drop_eq_getElem_cons h, refBoth]
  rfl
end At
set_option maxHeartbeats 8000000 in
set_option maxRecDepth 100000 in
theorem qboth_q (B : Nat) (q : QRing) (Lr : List Bk.Seal) (lo hi : Nat) (v : Value) (C : List Bk.Sgn) (key : Int) (text : List UInt8) (w : World) (g : Gl w) (hq : QRingAt B w q Lr) (hn : Lr.Nodup) (hL : Lr.length ≤ 1000000) (hv : SlS 3 lo hi w v (C.map sgl)) (hC : C.length ≤ 90000) (hs : ∀ s ∈ C, SgnOk s) :
    Calls Tryz.prog 25 #[.pointer (some ⟨q.qb, 0, none⟩), v, .int .i64 key, .string ⟨text.toArray⟩] w fun e w' => e = .returned (bothV (At.both (At.votes Lr C text) key)) ∧ Nw w w' := by
  have hgb := g.big
  obtain ⟨a, cap, rfl, hm, ha⟩ := sgn_cells hv
  unfold maxLen at hm
  have n2 := nw_alloc w (.cells #[.int .i64 0, .string ⟨#[]⟩, .int .i64 0] tSigned)
  have k2 := heap_new w (.cells #[.int .i64 0, .string ⟨#[]⟩, .int .i64 0] tSigned)
  have s2 : (w.alloc (.cells #[.int .i64 0, .string ⟨#[]⟩, .int .i64 0] tSigned)).heap.size = w.heap.size + 1 := by simp
  generalize hW2 : w.alloc (.cells #[.int .i64 0, .string ⟨#[]⟩, .int .i64 0] tSigned) = W2 at *
  have n3 := nw_alloc W2 (.cells #[.int .i64 0, .string ⟨#[]⟩, .int .i64 0] tSigned)
  have k3 := heap_new W2 (.cells #[.int .i64 0, .string ⟨#[]⟩, .int .i64 0] tSigned)
  generalize hW3 : W2.alloc (.cells #[.int .i64 0, .string ⟨#[]⟩, .int .i64 0] tSigned) = W3 at *
  replace k2 := n3.keep k2
  rw [s2] at k3
  have U3 := n2.trans n3
  have HW : Hid ((w.alloc (.cells #[.int .i64 0, .string ⟨#[]⟩, .int .i64 0] tSigned)).alloc (.cells #[.int .i64 0, .string ⟨#[]⟩, .int .i64 0] tSigned) = W3) := by show _ = _; rw [hW2, hW3]
  have Ha := Lib.hid ha
  have HQ := Lib.hid (fun (z : World) (uz : Nw w z) (s : Bk.Sgn) (h : s ∈ C) => says_q B q Lr s text z (g.upd uz) (hq.nw uz) hn hL (hs s h))
  have hbe : Hid (At.both (At.votes Lr C text) key = At.refBoth Lr text key C) := At.both_ref Lr C text key
  have K2 := Lib.hid k2
  have K3 := Lib.hid k3
  clear ha hv hq hs k2 k3 n2 n3 hW2 hW3 s2
  go_enter Tryz.func25, Tryz.ntmps25
  go_wp2_with fail
  rw [HW.out]
  go_wp2_with fail
  go_loopw [11] (fun iv wr => ∃ n : Nat, n ≤ C.length ∧ iv = .int .i64 n ∧ Hid (At.refBoth Lr text key C = At.refBoth Lr text key (C.drop n)) ∧ Nw W3 wr) (fun iv _ => C.length - (intOf iv).toNat)
  case atStart => exact ⟨0, Nat.zero_le _, rfl, by show _ = _; rw [List.drop_zero], Upd.refl _ _⟩
  case round =>
    obtain ⟨n, hnl, rfl, HB, u⟩ := hrel
    by_cases hlt : n < C.length
    · rcases Ha.out with hnil | ⟨b, o, rfl, _, hb, hc⟩
      · simp [hnil] at hlt
      have uw := U3.trans u
      obtain ⟨p0, p1, p2⟩ := hc n hlt
      have d0 := ((Nw.below uw).cell (p := ⟨b, o + n * 3, none⟩) hb).trans p0
      have d1 := ((Nw.below uw).cell (p := ⟨b, o + n * 3 + 1, none⟩) hb).trans p1
      have d2 := ((Nw.below uw).cell (p := ⟨b, o + n * 3 + 2, none⟩) hb).trans p2
      have hsq := HQ.out wr uw C[n] (List.getElem_mem hlt)
      have hbd := At.refBoth_drop (Lr := Lr) (text := text) (key := key) hlt
      have hok : ∀ t, At.okB Lr text key C[n] t = (decide (0 ≤ At.saysN Lr text C[n]) && (decide (0 ≤ At.saysN Lr text t) && (decide (At.saysN Lr text C[n] ≠ At.saysN Lr text t) && (decide (C[n].key = key) && decide (t.key = key))))) := fun t => rfl
      generalize At.saysN Lr text C[n] = sn at *
      generalize hx : C[n] = x at *
      have Hc := Lib.hid hc
      have Hbd := Lib.hid hbd
      have Hok := Lib.hid hok
      clear hc p0 p1 p2 hbd hok hx
      obtain ⟨xk, xx, xm⟩ := x
      dsimp only at *
      have HSQ := Lib.hid hsq
      clear hsq
      go_wp2_with fail
      (with_reducible refine (HSQ.out).mono ?_)
      rintro _ w4 ⟨rfl, u4⟩
      have u04 := u.trans u4
      go_wp2_with fail
      go_loopw [13] (fun kv wz => ∃ k : Nat, n + 1 ≤ k ∧ k ≤ C.length ∧ kv = .int .i64 k ∧ Hid (∀ j (h : j < C.length), n + 1 ≤ j → j < k → At.okB Lr text key ⟨xk, xx, xm⟩ C[j] = false) ∧ Nw w4 wz) (fun kv _ => C.length - (intOf kv).toNat)
      case atStart => exact ⟨n + 1, Nat.le_refl _, by omega, by go_num, fun j h h1 h2 => by omega, Upd.refl _ _⟩
      case round =>
        obtain ⟨k, hk1, hk, rfl, hall, u6⟩ := hrel
        have u06 := u04.trans u6
        have UW := U3.trans u06
        by_cases hkl : k < C.length
        · obtain ⟨p0, p1, p2⟩ := Hc.out k hkl
          have q0 := ((Nw.below UW).cell (p := ⟨b, o + k * 3, none⟩) hb).trans p0
          have q1 := ((Nw.below UW).cell (p := ⟨b, o + k * 3 + 1, none⟩) hb).trans p1
          have q2 := ((Nw.below UW).cell (p := ⟨b, o + k * 3 + 2, none⟩) hb).trans p2
          have x0 := later_cell ⟨wr, u4.trans u6⟩ d0
          have x1 := later_cell ⟨wr, u4.trans u6⟩ d1
          have x2 := later_cell ⟨wr, u4.trans u6⟩ d2
          dsimp only at x0 x1 x2
          have hsq := HQ.out wr UW C[k] (List.getElem_mem hkl)
          have hok := Hok.out C[k]
          have hnext : At.okB Lr text key ⟨xk, xx, xm⟩ C[k] = false → Hid (∀ j (h : j < C.length), n + 1 ≤ j → j < k + 1 → At.okB Lr text key ⟨xk, xx, xm⟩ C[j] = false) := fun e j h h1 h2 => by
            by_cases ej : j = k
            · subst ej; exact e
            · exact hall.out j h h1 (by omega)
          have hyes : At.okB Lr text key ⟨xk, xx, xm⟩ C[k] = true → Hid (At.both (At.votes Lr C text) key = some (⟨xk, xx, xm⟩, C[k])) := fun e => by
            show _ = _
            rw [hbe.out, HB.out, Hbd.out]
            have : (C.drop (n + 1)).find? (At.okB Lr text key ⟨xk, xx, xm⟩) = some C[k] := by
              rw [List.find?_eq_some_iff_getElem]
              refine ⟨e, k - (n + 1), by rw [List.length_drop]; omega, by rw [List.getElem_drop]; congr 1; omega, fun j hj => ?_⟩
              rw [List.getElem_drop, hall.out (n + 1 + j) (by omega) (by omega) (by omega)]; rfl
            rw [this]
          rw [hok] at hnext hyes
          generalize At.saysN Lr text C[k] = sm at *
          clear p0 p1 p2 hok
          generalize C[k] = y at *
          obtain ⟨yk, yx, ym⟩ := y
          dsimp only at *
          have HSQ2 := Lib.hid hsq
          clear hsq
          by_cases c1 : 0 ≤ sn
          rotate_left
          · have c1' : sn < 0 := by omega
            have hy := hnext (by simp [c1])
            clear hnext hyes
            (try clear c4)
            go_wp2_with fail
            (with_reducible refine (HSQ2.out).mono ?_)
            rintro _ w7 ⟨rfl, u7⟩
            have r0 := later_cell ⟨w7, u7⟩ q0
            have r1 := later_cell ⟨w7, u7⟩ x0
            dsimp only at r0 r1
            go_wp2_with fail
            go_roundw
            case rel => exact ⟨k + 1, by omega, by omega, by go_num, hy, u6.trans u7⟩
            case measure => simp [intOf]; omega
          by_cases c2 : 0 ≤ sm
          rotate_left
          · have c2' : sm < 0 := by omega
            have hy := hnext (by simp [c2])
            clear hnext hyes
            (try clear c4)
            go_wp2_with fail
            (with_reducible refine (HSQ2.out).mono ?_)
            rintro _ w7 ⟨rfl, u7⟩
            have r0 := later_cell ⟨w7, u7⟩ q0
            have r1 := later_cell ⟨w7, u7⟩ x0
            dsimp only at r0 r1
            go_wp2_with fail
            go_roundw
            case rel => exact ⟨k + 1, by omega, by omega, by go_num, hy, u6.trans u7⟩
            case measure => simp [intOf]; omega
          by_cases c3 : sn = sm
          · have hy := hnext (by simp [c3])
            clear hnext hyes
            subst c3
            go_wp2_with fail
            (with_reducible refine (HSQ2.out).mono ?_)
            rintro _ w7 ⟨rfl, u7⟩
            have r0 := later_cell ⟨w7, u7⟩ q0
            have r1 := later_cell ⟨w7, u7⟩ x0
            dsimp only at r0 r1
            go_wp2_with fail
            go_roundw
            case rel => exact ⟨k + 1, by omega, by omega, by go_num, hy, u6.trans u7⟩
            case measure => simp [intOf]; omega
          have e3 : (sn != sm) = true := by simp [c3]
          have e3' : (sn == sm) = false := by simp [c3]
          by_cases c4 : xk = key
          rotate_left
          · have e4 : (xk == key) = false := by simp [c4]
            have hy := hnext (by simp [c4])
            clear hnext hyes
            (try clear c4)
            go_wp2_with fail
            (with_reducible refine (HSQ2.out).mono ?_)
            rintro _ w7 ⟨rfl, u7⟩
            have r0 := later_cell ⟨w7, u7⟩ q0
            have r1 := later_cell ⟨w7, u7⟩ x0
            dsimp only at r0 r1
            go_wp2_with fail
            go_roundw
            case rel => exact ⟨k + 1, by omega, by omega, by go_num, hy, u6.trans u7⟩
            case measure => simp [intOf]; omega
          have e4 : (xk == key) = true := by simp [c4]
          by_cases c5 : yk = key
          rotate_left
          · have e5 : (yk == key) = false := by simp [c5]
            have hy := hnext (by simp [c5])
            clear hnext hyes
            (try clear c4)
            go_wp2_with fail
            (with_reducible refine (HSQ2.out).mono ?_)
            rintro _ w7 ⟨rfl, u7⟩
            have r0 := later_cell ⟨w7, u7⟩ q0
            have r1 := later_cell ⟨w7, u7⟩ x0
            dsimp only at r0 r1
            go_wp2_with fail
            go_roundw
            case rel => exact ⟨k + 1, by omega, by omega, by go_num, hy, u6.trans u7⟩
            case measure => simp [intOf]; omega
          have e5 : (yk == key) = true := by simp [c5]
          have hy := hyes (by simp [c1, c2, c3, c4, c5])
          clear hnext hyes c3 c4 c5
          go_wp2_with fail
          (with_reducible refine (HSQ2.out).mono ?_)
          rintro _ w7 ⟨rfl, u7⟩
          have r0 := later_cell ⟨w7, u7⟩ q0
          have r1 := later_cell ⟨w7, u7⟩ q1
          have r2 := later_cell ⟨w7, u7⟩ q2
          have r3 := later_cell ⟨w7, u7⟩ x0
          have r4 := later_cell ⟨w7, u7⟩ x1
          have r5 := later_cell ⟨w7, u7⟩ x2
          dsimp only at r0 r1 r2 r3 r4 r5
          have U7 := u06.trans u7
          have k27 := Nw.keep U7 K2.out
          have k37 := Nw.keep U7 K3.out
          obtain ⟨_, _, _⟩ := cell3 k27
          obtain ⟨_, _, _⟩ := cell3 k37
          have f0 := cells_frozen k27 0
          have f1 := cells_frozen k27 1
          have f2 := cells_frozen k27 2
          have f3 := cells_frozen k37 0
          have f4 := cells_frozen k37 1
          have f5 := cells_frozen k37 2
          have K27 := Lib.hid k27
          have K37 := Lib.hid k37
          have U9 : Hid (Nw w w7) := U3.trans U7
          have ne1 : ¬ w.heap.size = b := by omega
          have ne2 : ¬ b = w.heap.size := by omega
          have ne3 : ¬ w.heap.size + 1 = b := by omega
          have ne4 : ¬ b = w.heap.size + 1 := by omega
          clear k27 k37 hall
          go_wp2_with fail
          go_region
          go_wp2_with fail
          (try simp only [Exit.inBlock, Exit.then])
          have j1 := set3_other (set3 K27.out (v0 := .int .i64 xk) (v1 := .string ⟨xx.toArray⟩) (v2 := .int .i64 xm)) (show w.heap.size ≠ w.heap.size + 1 by omega) (.int .i64 yk) (.string ⟨yx.toArray⟩) (.int .i64 ym)
          have j2 := set3 (set3_other K37.out (show w.heap.size + 1 ≠ w.heap.size by omega) (.int .i64 xk) (.string ⟨xx.toArray⟩) (.int .i64 xm)) (v0 := .int .i64 yk) (v1 := .string ⟨yx.toArray⟩) (v2 := .int .i64 ym)
          have j3 := (set3_upd (S := fun _ => False) (set3_upd (S := fun _ => False) U9.out (show w.heap.size ≤ w.heap.size by omega) (by omega) (.int .i64 xk) (.string ⟨xx.toArray⟩) (.int .i64 xm)) (show w.heap.size ≤ w.heap.size + 1 by omega) (by omega) (.int .i64 yk) (.string ⟨yx.toArray⟩) (.int .i64 ym)).drew
          refine bodyPost_ret (qboth_results_d j1 j2 rfl rfl) rfl ⟨?_, j3⟩
          rw [hy.out]; rfl
        · have hnx : Hid (At.refBoth Lr text key C = At.refBoth Lr text key (C.drop (n + 1))) := by
            show _ = _
            rw [HB.out, Hbd.out]
            have : (C.drop (n + 1)).find? (At.okB Lr text key ⟨xk, xx, xm⟩) = none := by
              rw [List.find?_eq_none]
              intro y hy
              obtain ⟨j, hj, rfl⟩ := List.mem_iff_getElem.1 hy
              rw [List.length_drop] at hj
              rw [List.getElem_drop, hall.out (n + 1 + j) (by omega) (by omega) (by omega)]; simp
            rw [this]
          go_wp2_with fail
          go_roundw
          case rel => exact ⟨n + 1, by omega, by go_num, hnx, u06⟩
          case measure => simp [intOf]; omega
    · obtain rfl : n = C.length := by omega
      have hres : Hid (At.both (At.votes Lr C text) key = none) := by show _ = _; rw [hbe.out, HB.out, List.drop_length]; rfl
      have k29 := Nw.keep u K2.out
      have k39 := Nw.keep u K3.out
      obtain ⟨_, _, _⟩ := cell3 k29
      obtain ⟨_, _, _⟩ := cell3 k39
      have f0 := cells_frozen k29 0
      have f1 := cells_frozen k29 1
      have f2 := cells_frozen k29 2
      have f3 := cells_frozen k39 0
      have f4 := cells_frozen k39 1
      have f5 := cells_frozen k39 2
      have K29 := Lib.hid k29
      have K39 := Lib.hid k39
      clear k29 k39
      go_wp2_with fail
      (try simp only [Exit.inBlock, Exit.then])
      exact bodyPost_ret (qboth_results (set3_other (set3 K29.out) (by omega) _ _ _) (set3 (set3_other K39.out (by omega) _ _ _)) rfl rfl) rfl ⟨by rw [hres.out]; rfl, set3_upd (S := fun _ => False) (set3_upd (S := fun _ => False) (U3.trans u) (by omega) (by omega) _ _ _) (by omega) (by omega) _ _ _⟩
end Go.Proofs.YtpceoogmkbcfmaaGreatDoor
