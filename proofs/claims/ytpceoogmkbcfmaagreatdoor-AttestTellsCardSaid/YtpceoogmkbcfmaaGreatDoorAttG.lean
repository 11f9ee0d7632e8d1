/- The contracts of the reference's Has, Count and Few (of groups), and of built. The contract of the reference's SameNums. The contract of layer 34's built; attest's functions over a ring and a slice of signatures. The contract of small of layer 34: the documentation's example, called. What the statements of layer 34 share: the ring and the signatures behind signed. -/
import Derived.Test.YtpceoogmkbcfmaaGreatDoorAttW
import Derived.Test.YtpceoogmkbcfmaaGreatDoorAttP
import Derived.Test.YtpceoogmkbcfmaaGreatDoorLib
import Derived.Test.YtpceoogmkbcfmaaGreatDoorAttD
import Derived.Test.YtpceoogmkbcfmaaGreatDoorAttT
import Derived.Deep.RegionHeldLaw
import Derived.Deep.AppendLies
namespace Go.Proofs.YtpceoogmkbcfmaaGreatDoor
open Go.RowKit
set_option linter.unusedVariables false
set_option linter.unusedSimpArgs false
attribute [local irreducible] Calls

set_option maxHeartbeats 1000000 in
theorem has_w (lo hi : Nat) (v : Value) (l : List Int) (n : Int) (w : World) (hv : Sl lo hi w v (l.map intV)) :
    Calls Tryz.prog 31 #[v, .int .i64 n] w fun e w' => e = .returned (.bool (l.contains n)) ∧ Nw w w' := by
  obtain ⟨a, cap, rfl, hm, ha⟩ := num_cells hv
  unfold maxLen at hm
  have Ha := Lib.hid ha
  clear ha hv
  go_enter Tryz.func31, Tryz.ntmps31
  go_wp2_with fail
  go_loopw [5] (fun iv wr => ∃ k : Nat, k ≤ l.length ∧ iv = .int .i64 k ∧ Hid (∀ j (h : j < l.length), j < k → ¬ l[j] = n) ∧ Nw w wr) (fun iv _ => l.length - (intOf iv).toNat)
  case atStart => exact ⟨0, Nat.zero_le _, rfl, fun j _ h => absurd h (Nat.not_lt_zero _), Upd.refl _ _⟩
  case round =>
    obtain ⟨k, hk, rfl, hall, u⟩ := hrel
    by_cases hlt : k < l.length
    · rcases Ha.out with hnil | ⟨b, o, rfl, _, hb, hc⟩
      · simp [hnil] at hlt
      have d0 := ((Nw.below u).cell (p := ⟨b, o + k, none⟩) hb).trans (hc k hlt)
      have hnext : ¬ l[k] = n → Hid (∀ j (h : j < l.length), j < k + 1 → ¬ l[j] = n) := fun e j h hj => by
        by_cases ej : j = k
        · subst ej; exact e
        · exact hall.out j h (by omega)
      have hyes : l[k] = n → Hid (l.contains n = true) := fun e => by
        show _ = _
        rw [List.contains_iff_mem, ← e]
        exact List.getElem_mem hlt
      clear hc
      generalize l[k] = x at *
      by_cases hx : x = n
      · have hy := hyes hx
        have dx : (x == n) = true := beq_iff_eq.2 hx
        clear hnext hyes hx
        go_wp2_with fail
        go_ret
        exact ⟨ret_bool hy.out.symm, u⟩
      · have hy := hnext hx
        have dx : (x == n) = false := beq_eq_false_iff_ne.2 hx
        clear hnext hyes hx
        go_wp2_with fail
        go_roundw
        case rel => exact ⟨k + 1, by omega, by go_num, hy, u⟩
        case measure => simp [intOf]; omega
    · have hno : Hid (l.contains n = false) := by
        show _ = _
        rw [← Bool.not_eq_true, List.contains_iff_mem]
        intro hm2
        obtain ⟨j, hj, e⟩ := List.mem_iff_getElem.1 hm2
        exact hall.out j hj (by omega) e
      go_wp2_with fail
      go_ret
      exact ⟨ret_bool hno.out.symm, u⟩
theorem Sl.firsts {lo hi : Nat} {w : World} {a : Option Addr} {cap n : Nat} {l : List Int} (h : Sl lo hi w (.slice a n cap) (l.map intV)) {i : Nat} (hil : i ≤ l.length) : Sl lo hi w (.slice a i cap) ((l.take i).map intV) := by
  by_cases h0 : i = 0
  · subst h0; exact Or.inl ⟨a, cap, rfl, by simp⟩
  rcases h with ⟨a', c', e, hn⟩ | ⟨b, off, cap', e, h2, h3, h4, h5, h6, h7⟩
  · rw [List.map_eq_nil_iff] at hn; subst hn; simp at hil; exact absurd hil h0
  · simp only [Value.slice.injEq, List.length_map] at e
    obtain ⟨rfl, rfl, rfl⟩ := e
    simp only [List.length_map] at h2 h7
    have hl : ((l.take i).map intV).length = i := by simp; omega
    refine Or.inr ⟨b, off, cap, by rw [hl], by rw [hl]; omega, h3, h4, h5, h6, fun j hj => ?_⟩
    rw [hl] at hj
    rw [h7 j (by omega), List.getElem?_map, List.getElem?_map, List.getElem?_take, if_pos hj]
namespace At
theorem countTo_succ (s l : List Int) (n : Nat) (h : n < s.length) : ((List.range (n + 1)).filter fun i => l.contains (s.getD i 0) && !(s.take i).contains (s.getD i 0)).length = ((List.range n).filter fun i => l.contains (s.getD i 0) && !(s.take i).contains (s.getD i 0)).length + (if l.contains s[n] && !(s.take n).contains s[n] then 1 else 0) := by
  rw [List.range_succ, List.filter_append, List.length_append, List.filter_cons]
  have e : s.getD n 0 = s[n] := by simp [List.getD_eq_getElem?_getD, h]
  rw [e]
  split <;> simp_all
end At
set_option maxHeartbeats 2000000 in
theorem count_w (lo hi lo2 hi2 : Nat) (v v2 : Value) (s l : List Int) (w : World) (hv : Sl lo hi w v (s.map intV)) (hv2 : Sl lo2 hi2 w v2 (l.map intV)) :
    Calls Tryz.prog 14 #[v, v2] w fun e w' => e = .returned (.int .i64 (At.countL s l)) ∧ Nw w w' := by
  obtain ⟨a, cap, rfl, hm, ha⟩ := num_cells hv
  obtain ⟨a2, cap2, rfl, hm2, _⟩ := num_cells hv2
  unfold maxLen at hm hm2
  have Ha := Lib.hid ha
  have Hv := Lib.hid hv
  have Hv2 := Lib.hid hv2
  clear ha hv hv2
  go_enter Tryz.func14, Tryz.ntmps14
  go_wp2_with fail
  go_loopw [5, 6] (fun cv iv wr => ∃ k : Nat, k ≤ s.length ∧ iv = .int .i64 k ∧ (∃ c : Nat, c ≤ k ∧ Hid (c = ((List.range k).filter fun i => l.contains (s.getD i 0) && !(s.take i).contains (s.getD i 0)).length) ∧ cv = .int .i64 c) ∧ Nw w wr) (fun cv iv _ => s.length - (intOf iv).toNat)
  case atStart => exact ⟨0, Nat.zero_le _, rfl, ⟨0, Nat.le_refl _, rfl, rfl⟩, Upd.refl _ _⟩
  case round =>
    obtain ⟨k, hk, rfl, ⟨c, hck, hc0, rfl⟩, u⟩ := hrel
    by_cases hlt : k < s.length
    · rcases Ha.out with hnil | ⟨b, o, rfl, _, hb, hc⟩
      · simp [hnil] at hlt
      have d0 := ((Nw.below u).cell (p := ⟨b, o + k, none⟩) hb).trans (hc k hlt)
      have hst := At.countTo_succ s l k hlt
      rw [← hc0.out] at hst
      clear hc
      have h1 := fun z (uz : Nw wr z) => has_w lo2 hi2 _ l s[k] z ((Hv2.out.nw u).nw uz)
      have h2 := fun z (uz : Nw wr z) => has_w lo hi (.slice (some ⟨b, o, none⟩) k cap) (s.take k) s[k] z (((Hv.out.firsts (i := k) (by omega)).nw u).nw uz)
      have d0' : ∀ i : Later wr, i.1.cell? ⟨b, o + k, none⟩ = some (.int .i64 s[k]) := fun i => later_cell i d0
      generalize l.contains s[k] = q1 at *
      generalize (s.take k).contains s[k] = q2 at *
      generalize s[k] = x at *
      have hcap : s.length ≤ cap ∧ cap ≤ 9223372036854775807 := by
        have hv := Hv.out
        rcases hv with ⟨a', c', e, hn⟩ | ⟨b', off, cap', e, h2, h3, _⟩
        · rw [List.map_eq_nil_iff] at hn; rw [hn] at hlt; simp at hlt
        · simp only [Value.slice.injEq, List.length_map] at e h2
          unfold maxLen at h3
          obtain ⟨_, _, rfl⟩ := e
          exact ⟨h2, by omega⟩
      have hkc : (k : Int) ≤ (cap : Int) := by omega
      have H1 := Lib.hid h1
      have H2 := Lib.hid h2
      have Hst := Lib.hid hst
      clear h1 h2 hst
      cases q1 with
      | false =>
        have hfin : Hid (c = ((List.range (k + 1)).filter fun i => l.contains (s.getD i 0) && !(s.take i).contains (s.getD i 0)).length) := by
          show _ = _; rw [Hst.out]; simp
        clear H2 Hst
        go_wp2_with fail
        refine wp_region_nw (by kernel_rfl) (by kernel_rfl) ?_
        repeat (go_big_quiet_step ((go_at_call 31; exact later_call (H1.out _ (Later.nw _)))))
        refine wpQuiet_nil ?_
        intro w3 u3
        replace u3 := later_out u3
        go_wp2_with fail
        go_roundw
        case rel => exact ⟨k + 1, by omega, by go_num, ⟨c, by omega, hfin, rfl⟩, u.trans u3⟩
        case measure => simp [intOf]; omega
      | true =>
        cases q2 with
        | true =>
          have hfin : Hid (c = ((List.range (k + 1)).filter fun i => l.contains (s.getD i 0) && !(s.take i).contains (s.getD i 0)).length) := by
            show _ = _; rw [Hst.out]; simp
          clear Hst
          go_wp2_with fail
          refine wp_region_nw (by kernel_rfl) (by kernel_rfl) ?_
          repeat (go_big_quiet_step ((go_at_call 31; first | exact later_call (H1.out _ (Later.nw _)) | exact later_call (H2.out _ (Later.nw _)))))
          refine wpQuiet_nil ?_
          intro w3 u3
          replace u3 := later_out u3
          go_wp2_with fail
          go_roundw
          case rel => exact ⟨k + 1, by omega, by go_num, ⟨c, by omega, hfin, rfl⟩, u.trans u3⟩
          case measure => simp [intOf]; omega
        | false =>
          have hfin : Hid (c + 1 = ((List.range (k + 1)).filter fun i => l.contains (s.getD i 0) && !(s.take i).contains (s.getD i 0)).length) := by
            show _ = _; rw [Hst.out]; simp
          clear Hst
          go_wp2_with fail
          refine wp_region_nw (by kernel_rfl) (by kernel_rfl) ?_
          repeat (go_big_quiet_step ((go_at_call 31; first | exact later_call (H1.out _ (Later.nw _)) | exact later_call (H2.out _ (Later.nw _)))))
          refine wpQuiet_nil ?_
          intro w3 u3
          replace u3 := later_out u3
          go_wp2_with fail
          go_roundw
          case rel => exact ⟨k + 1, by omega, by go_num, ⟨c + 1, by omega, hfin, by go_num⟩, u.trans u3⟩
          case measure => simp [intOf]; omega
    · obtain rfl : k = s.length := by omega
      have hfin : Hid ((c : Int) = At.countL s l) := by show _ = _; unfold At.countL; rw [← hc0.out]
      go_wp2_with fail
      go_ret
      exact ⟨ret_int hfin.out, u⟩
set_option maxHeartbeats 2000000 in
theorem fewG_w (hi : Nat) (v : Value) (G : List At.Grp) (C : List (Value × At.Grp)) (w : World) (hG : GrpS hi w v G C) :
    Calls Tryz.prog 10 #[v] w fun e w' => ∃ b, e = .returned (.bool b) ∧ (b = true → C.length ≤ 6 ∧ ∀ c ∈ C, c.2.members.length ≤ 14) ∧ Nw w w' := by
  obtain ⟨a, cap, rfl, hm, ha⟩ := grp_cells hG
  unfold maxLen at hm
  have Ha := Lib.hid ha
  have He := Lib.hid hG.each
  clear ha hG
  go_enter Tryz.func10, Tryz.ntmps10
  go_wp2_with fail
  go_loopw [3] (fun i wr => ∃ k : Nat, k ≤ C.length ∧ k ≤ 7 ∧ i = .int .i64 k ∧ Hid (∀ j (h : j < C.length), j < k → C[j].2.members.length ≤ 14) ∧ Nw w wr) (fun i _ => C.length - (intOf i).toNat)
  case atStart => exact ⟨0, Nat.zero_le _, Nat.zero_le _, rfl, fun j _ h => absurd h (Nat.not_lt_zero _), Upd.refl _ _⟩
  case round =>
    obtain ⟨k, hk, hk7, rfl, hall, u⟩ := hrel
    by_cases hlt : k < C.length
    · by_cases h7 : k < 7
      · rcases Ha.out with hnil | ⟨b, o, rfl, _, hb, hc⟩
        · simp [hnil] at hlt
        have d0 := ((Nw.below u).cell (p := ⟨b, o + k * 2, none⟩) hb).trans (hc k hlt).1
        obtain ⟨am, capm, hms, hml, hml2⟩ := num_cells (He.out C[k] (List.getElem_mem hlt)).1
        rw [hms] at d0
        have hnext : C[k].2.members.length ≤ 14 → Hid (∀ j (h : j < C.length), j < k + 1 → C[j].2.members.length ≤ 14) := fun e j h hj => by
          by_cases ej : j = k
          · subst ej; exact e
          · exact hall.out j h (by omega)
        clear hc hms hml2
        unfold maxLen at hml
        generalize C[k].2.members.length = m at *
        by_cases hx : m ≤ 14
        · have hn := hnext hx
          clear hnext
          go_wp2_with fail
          go_roundw
          case rel => exact ⟨k + 1, by omega, by omega, by go_num, hn, u⟩
          case measure => simp [intOf]; omega
        · clear hnext
          go_wp2_with fail
          go_ret
          exact ⟨false, rfl, (fun h => by cases h), u⟩
      · have hb : Hid (¬ C.length ≤ 6) := by show ¬ _; omega
        have hk2 : k = 7 := by omega
        subst hk2
        go_wp2_with fail
        go_ret
        refine ⟨_, rfl, fun h => ?_, u⟩
        simp at h
        have := hb.out
        omega
    · have hfin : Hid (∀ c ∈ C, c.2.members.length ≤ 14) := fun c hcc => by
        obtain ⟨j, hj, rfl⟩ := List.mem_iff_getElem.1 hcc
        exact hall.out j hj (by omega)
      clear hall
      by_cases h7 : k < 7
      all_goals go_wp2_with fail
      all_goals go_ret
      all_goals exact ⟨_, rfl, fun h => ⟨by simp at h; omega, hfin.out⟩, u⟩
end Go.Proofs.YtpceoogmkbcfmaaGreatDoor
namespace Go.Proofs.YtpceoogmkbcfmaaGreatDoor
open Go.RowKit
set_option linter.unusedVariables false
set_option linter.unusedSimpArgs false
attribute [local irreducible] Calls

set_option maxHeartbeats 400000 in
theorem SameNumsQ (lo1 hi1 lo2 hi2 : Nat) (v1 v2 : Value) (l1 l2 : List Int) (w : World) (h1 : Sl lo1 hi1 w v1 (l1.map (Value.int .i64))) (h2 : Sl lo2 hi2 w v2 (l2.map (Value.int .i64))) :
    Calls Tryz.prog 19 #[v1, v2] w fun e w' => e = .returned (.bool (decide (l1 = l2))) ∧ Nw w w' := by
  obtain ⟨a1, cap1, rfl, hm1, ha1⟩ := h1.open_
  obtain ⟨a2, cap2, rfl, hm2, ha2⟩ := h2.open_
  rw [List.length_map] at hm1 hm2
  simp only [List.length_map]
  unfold maxLen at hm1 hm2
  by_cases hlen : l1.length = l2.length
  · have hb : ((l1.length : Int) != (l2.length : Int)) = false := by rw [hlen]; simp
    have Hlen := Lib.hid hlen; clear hlen
    have Ha1 := Lib.hid ha1; clear ha1
    have Ha2 := Lib.hid ha2; clear ha2
    go_enter Tryz.func19, Tryz.ntmps19
    go_wp2_with fail
    go_loopw [5] (fun i wr => ∃ k : Nat, k ≤ l1.length ∧ i = .int .i64 k ∧ Hid (l1.take k = l2.take k) ∧ Nw w wr) (fun i _ => l1.length - (intOf i).toNat)
    case atStart => exact ⟨0, Nat.zero_le _, rfl, rfl, Upd.refl _ _⟩
    case round =>
      obtain ⟨k, hk, rfl, hq, u⟩ := hrel
      by_cases hlt : k < l1.length
      · have hlt2 : k < l2.length := by rw [← Hlen.out]; exact hlt
        rcases Ha1.out with ⟨_, _, hnil⟩ | ⟨b1, o1, rfl, _, _, hb1, hc1⟩
        · rw [List.map_eq_nil_iff] at hnil; simp [hnil] at hlt
        · rcases Ha2.out with ⟨_, _, hnil⟩ | ⟨b2, o2, rfl, _, _, hb2, hc2⟩
          · rw [List.map_eq_nil_iff] at hnil; simp [hnil] at hlt2
          · have e1 : wr.cell? ⟨b1, o1 + k, none⟩ = some (.int .i64 l1[k]) := by
              rw [u.below.cell hb1, hc1 k (by simpa using hlt)]; simp [hlt]
            have e2 : wr.cell? ⟨b2, o2 + k, none⟩ = some (.int .i64 l2[k]) := by
              rw [u.below.cell hb2, hc2 k (by simpa using hlt2)]; simp [hlt2]
            have hs1 := Lib.hid (List.take_succ_eq_append_getElem hlt)
            have hs2 := Lib.hid (List.take_succ_eq_append_getElem hlt2)
            clear hc1 hc2
            have hkz : (k : Int) < (l2.length : Int) := by omega
            by_cases he : l1[k] = l2[k]
            · have hbb : (l1[k] != l2[k]) = false := by rw [he]; simp
              have He := Lib.hid he; clear he
              go_wp2_with fail
              go_quiet (fail)
              obtain ⟨w1, ew, u1⟩ := nw_drewN wr nq
              rw [ew]; clear ew
              go_wp2_with fail
              go_roundw
              case rel => exact ⟨k + 1, by omega, by go_num, by show _ = _; rw [hs1.out, hs2.out, hq.out, He.out], u.trans u1⟩
              case measure => simp [intOf]; omega
            · have hbb : (l1[k] != l2[k]) = true := by rw [bne_iff_ne]; exact he
              have hne : Hid (decide (l1 = l2) = false) := by
                refine decide_eq_false fun e => he ?_
                subst e; rfl
              have He := Lib.hid he; clear he
              go_wp2_with fail
              go_quiet (fail)
              obtain ⟨w1, ew, u1⟩ := nw_drewN wr nq
              rw [ew]; clear ew
              go_wp2_with fail
              go_ret
              rw [hne.out]
              exact ⟨rfl, u.trans u1⟩
      · have heq : Hid (decide (l1 = l2) = true) := by
          refine decide_eq_true ?_
          have := hq.out
          rwa [List.take_of_length_le (by omega), List.take_of_length_le (by rw [← Hlen.out]; omega)] at this
        go_wp2_with fail
        go_ret
        rw [heq.out]
        exact ⟨rfl, u⟩
  · have hb : ((l1.length : Int) != (l2.length : Int)) = true := by rw [bne_iff_ne]; omega
    have hne : Hid (decide (l1 = l2) = false) := decide_eq_false fun e => hlen (by rw [e])
    have Hlen := Lib.hid hlen; clear hlen
    go_enter Tryz.func19, Tryz.ntmps19
    go_wp2_with fail
    go_ret
    rw [hne.out]
    exact ⟨rfl, Upd.refl _ _⟩
end Go.Proofs.YtpceoogmkbcfmaaGreatDoor
namespace Go.Proofs.YtpceoogmkbcfmaaGreatDoor
open Go.RowKit
set_option linter.unusedVariables false
set_option linter.unusedSimpArgs false
attribute [local irreducible] Calls

theorem built_results {w : World} {bp : Nat} {tmps : Array Value} {v0 v1 v2 : Value} {T : TypeId} {fz : Nat × Nat} (h : w.heap[bp]? = some (.cells #[v0, v1, v2] T fz)) (ht : tmps.getD 8 undef = .pointer (some ⟨bp, 0, none⟩)) :
    (results Tryz.f17 tmps).run Tryz.prog w = .ok (.agg #[v0, v1, v2]) w := by
  have c0 : w.cell? ⟨bp, 0, none⟩ = some v0 := by rw [cells_cell h]; rfl
  have c1 : w.cell? ⟨bp, 1, none⟩ = some v1 := by rw [cells_cell h]; rfl
  have c2 : w.cell? ⟨bp, 2, none⟩ = some v2 := by rw [cells_cell h]; rfl
  clear h
  have ht2 : tmps[8]?.getD undef = .pointer (some ⟨bp, 0, none⟩) := by simpa using ht
  clear ht
  simp [results, Tryz.results17, go_sem, ht2, c0, c1, c2]
set_option maxHeartbeats 2000000 in
theorem built_w (B : Nat) (r : RingR) (L : List Bk.Seal) (k p : Int) (t : List UInt8) (w : World) (g : Gl w) (h : RingAt B w r L) (hk : I64 k) (hp : I64 p) (htl : t.length ≤ 1000000) (hL : L.length ≤ 1000000) (hB : B ≤ w.heap.size) :
    Calls Tryz.prog 17 #[.pointer (some ⟨r.rb, 0, none⟩), .int .i64 k, .string ⟨t.toArray⟩, .int .i64 p] w (SignPost B r L k (Cl.text ⟨3, p, 0, t⟩) w) := by
  have hgb := g.big
  have n1 := nw_alloc w (.cells #[.int .i64 0, .string ⟨#[]⟩, .int .i64 0] tSigned)
  have k1 := heap_new w (.cells #[.int .i64 0, .string ⟨#[]⟩, .int .i64 0] tSigned)
  have ic : I64C ⟨3, p, 0, t⟩ := ⟨by unfold I64; dsimp only; omega, hp, by unfold I64; dsimp only; omega, by dsimp only; omega⟩
  have hsz : (w.alloc (.cells #[.int .i64 0, .string ⟨#[]⟩, .int .i64 0] tSigned)).heap.size = w.heap.size + 1 := by simp
  generalize hW : w.alloc (.cells #[.int .i64 0, .string ⟨#[]⟩, .int .i64 0] tSigned) = W at *
  have HW := Lib.hid hW
  have hT := text_c ⟨3, p, 0, t⟩ ⟨t.toArray⟩ (bs_list _) ic W (g.upd n1)
  have hlen := text_len8 ⟨3, p, 0, t⟩ ic
  dsimp only at hT
  have hS := fun (z : World) (uz : Nw W z) => sign_s B r L k (Cl.text ⟨3, p, 0, t⟩) z (g.upd (n1.trans uz)) ((h.nw n1).nw uz) hk (by omega) hL (by have := (n1.trans uz).size; omega)
  have hfl : ∀ j, r.foot j → j < w.heap.size := fun j hj => (h.foot_lt hj).2
  unfold SignPost at hS ⊢
  generalize Cl.text ⟨3, p, 0, t⟩ = T at *
  generalize Bk.sign L k T = sg at *
  obtain ⟨⟨sk, st, sm⟩, L2⟩ := sg
  dsimp only [sgnV] at hS ⊢
  have HS := Lib.hid hS
  have HT := Lib.hid hT
  have K1 := Lib.hid k1
  have Hfl := Lib.hid hfl
  clear hS hT hW k1 hfl h
  go_enter Tryz.func17, Tryz.ntmps17
  go_wp2_with fail
  rw [HW.out]
  (with_reducible refine (HT.out).mono ?_)
  rintro _ w2 ⟨rfl, u2⟩
  go_wp2_with fail
  (with_reducible refine (HS.out _ u2).mono ?_)
  rintro _ w3 ⟨r2, rfl, hr2, hrb, u3, hf⟩
  have k3 := u3.keep (Nw.keep u2 K1.out) (fun e => by have := Hfl.out _ e; omega)
  obtain ⟨_, _, _⟩ := cell3 k3
  have f0 := cells_frozen k3 0
  have f1 := cells_frozen k3 1
  have f2 := cells_frozen k3 2
  have K3 := Lib.hid k3
  have Hr2 := Lib.hid hr2
  have Hf := Lib.hid hf
  clear k3 hr2 hf
  go_wp2_with fail
  (try simp only [Exit.inBlock, Exit.then])
  have us : Upd r.foot w w3 := Nw.trans (n1.trans u2) u3
  have s2 := u2.size
  have hno : ∀ j, r2.foot j → ¬ j = w.heap.size := fun j hj e => by
    rcases Hf.out j hj with e2 | e2
    · have := Hfl.out j e2; omega
    · omega
  refine bodyPost_ret (built_results (set3 K3.out) rfl) rfl ⟨r2, rfl, ?_, hrb, set3_upd us (Nat.le_refl _) hgb _ _ _, fun j hj => (Hf.out j hj).imp id (fun e => by omega)⟩
  have us3 : Upd (fun x => x = w.heap.size) w3 (((w3.setCell ⟨w.heap.size, 0, none⟩ (.int .i64 sk)).setCell ⟨w.heap.size, 1, none⟩ (.string ⟨st.toArray⟩)).setCell ⟨w.heap.size, 2, none⟩ (.int .i64 sm)) := (((Upd.refl _ _).set1 hgb 0 _).set1 hgb 1 _).set1 hgb 2 _
  exact Hr2.out.upd us3 hno
section
variable {B lo hi hi2 : Nat} {q : RingR} {Lr : List Bk.Seal} {v gv : Value} {C : List Bk.Sgn} {G : List At.Grp} {GC : List (Value × At.Grp)} {z : World}
theorem acc_q (text : List UInt8) (g : Gl z) (hq : RingAt B z q Lr) (hv : SlS 3 lo hi z v (C.map sgl)) (hC : C.length ≤ 100000) (hs : ∀ s ∈ C, SgnOk s) (hG : GrpS hi2 z gv G GC) :
    Calls Tryz.prog 16 #[.pointer (some ⟨q.rb, 0, none⟩), v, gv, .string ⟨text.toArray⟩] z fun e w' => e = .returned (.tuple #[.int .i64 (At.accept (At.votes Lr C text) G).1, .int .i64 (At.accept (At.votes Lr C text) G).2]) ∧ Nw z w' := by
  have hl := At.votes_len Lr C text
  obtain ⟨a, cap, e, _⟩ := sgn_cells hv
  exact Accept_w _ v gv _ text hi2 G GC z g ⟨a, _, cap, e⟩ hG (by omega) (fun z' u => votes_w B q Lr lo hi v C text z' (g.upd u) (hq.nw u) (hv.nw u) hC hs)
theorem acc_nil (text : List UInt8) (g : Gl z) (hv : SlS 3 lo hi z v (C.map sgl)) (hG : GrpS hi2 z gv G GC) :
    Calls Tryz.prog 16 #[.pointer none, v, gv, .string ⟨text.toArray⟩] z fun e w' => e = .returned (.tuple #[.int .i64 (At.accept [] G).1, .int .i64 (At.accept [] G).2]) ∧ Nw z w' := by
  obtain ⟨a, cap, e, _⟩ := sgn_cells hv
  exact Accept_w _ v gv [] text hi2 G GC z g ⟨a, _, cap, e⟩ hG (by simp) (fun z' u => votes_nil lo hi v C text z' (g.upd u) (hv.nw u))
theorem liars_q (text : List UInt8) (truth : Int) (g : Gl z) (hq : RingAt B z q Lr) (hv : SlS 3 lo hi z v (C.map sgl)) (hC : C.length ≤ 100000) (hs : ∀ s ∈ C, SgnOk s) (hG : GrpS hi2 z gv G GC) (hGC : GC.length ≤ 800) (hml : ∀ c ∈ GC, c.2.members.length ≤ 1000) :
    Calls Tryz.prog 13 #[.pointer (some ⟨q.rb, 0, none⟩), v, gv, .string ⟨text.toArray⟩, .int .i64 truth] z fun e w' => ∃ v', e = .returned v' ∧ w'.ownsRow z.heap.size tNum 1 v' (At.liars (At.votes Lr C text) G truth).length ((At.liars (At.votes Lr C text) G truth).map intV) ∧ Nw z w' := by
  have hl := At.votes_len Lr C text
  obtain ⟨a, cap, e, _⟩ := sgn_cells hv
  exact Liars_w _ v gv _ text truth hi2 G GC z g ⟨a, _, cap, e⟩ hG (by omega) hGC hml (fun z' u => votes_w B q Lr lo hi v C text z' (g.upd u) (hq.nw u) (hv.nw u) hC hs)
theorem both_q (text : List UInt8) (key : Int) (g : Gl z) (hq : RingAt B z q Lr) (hv : SlS 3 lo hi z v (C.map sgl)) (hC : C.length ≤ 100000) (hs : ∀ s ∈ C, SgnOk s) :
    Calls Tryz.prog 24 #[.pointer (some ⟨q.rb, 0, none⟩), v, .int .i64 key, .string ⟨text.toArray⟩] z fun e w' => e = .returned (bothV (At.both (At.votes Lr C text) key)) ∧ Nw z w' := by
  have hl := At.votes_len Lr C text
  obtain ⟨a, cap, e, _⟩ := sgn_cells hv
  exact Both_w _ v _ key text z g ⟨a, _, cap, e⟩ (by omega) (fun z' u => votes_w B q Lr lo hi v C text z' (g.upd u) (hq.nw u) (hv.nw u) hC hs)
end
end Go.Proofs.YtpceoogmkbcfmaaGreatDoor
namespace Go.Proofs.YtpceoogmkbcfmaaGreatDoor
open Go.RowKit
set_option linter.unusedVariables false
set_option linter.unusedSimpArgs false
attribute [local irreducible] Calls

theorem sgn_okA {s : Bk.Sgn} (h : (-1000000000 ≤ s.key ∧ s.key ≤ 1000000000) ∧ (-1000000000 ≤ s.mark ∧ s.mark ≤ 1000000000) ∧ s.text.length ≤ 1000000) : SgnOk s :=
  ⟨by unfold I64; omega, by omega, by unfold I64; omega⟩
theorem I64_a {n : Int} (h : -1000000000 ≤ n ∧ n ≤ 1000000000) : I64 n := by unfold I64; omega
def SgAt (B : Nat) (w0 : World) (rb : Nat) (bx : List (Nat × Obj)) (Lr : List Bk.Seal) (z : World) : Prop := ∃ q : RingR, q.rb = rb ∧ RingAt B z q Lr ∧ Nw w0 z ∧ ∀ p ∈ bx, ¬ q.foot p.1 ∧ z.heap[p.1]? = some p.2
section
variable {B rb : Nat} {w0 z z' : World} {bx : List (Nat × Obj)} {Lr : List Bk.Seal}
theorem sg_gl (h : SgAt B w0 rb bx Lr z) (g : Gl w0) : Gl z := by obtain ⟨_, _, _, u, _⟩ := h; exact g.upd u
theorem SgAt.nw (h : SgAt B w0 rb bx Lr z) (u : Nw z z') : SgAt B w0 rb bx Lr z' := by
  obtain ⟨q, h1, hq, u0, hbx⟩ := h
  exact ⟨q, h1, hq.nw u, u0.trans u, fun p hp => ⟨(hbx p hp).1, Nw.keep u (hbx p hp).2⟩⟩
theorem SgAt.at (h : SgAt B w0 rb bx Lr z) (i : Nat) {p : Nat × Obj} (hi : bx[i]? = some p) : z.heap[p.1]? = some p.2 := by
  obtain ⟨q, h1, hq, u0, hbx⟩ := h
  exact (hbx p (List.mem_of_getElem? hi)).2
theorem SgAt.box (h : SgAt B w0 rb bx Lr z) (o : Obj) : SgAt B w0 rb ((z.heap.size, o) :: bx) Lr (z.alloc o) := by
  obtain ⟨q, rfl, hq, u, hbx⟩ := h
  refine ⟨q, rfl, hq.nw (nw_alloc z o), u.alloc o, fun p hp => ?_⟩
  rcases List.mem_cons.1 hp with rfl | hp
  · exact ⟨fun e => by have := (hq.foot_lt e).2; dsimp only at this; omega, heap_new z o⟩
  · exact ⟨(hbx p hp).1, Nw.keep (nw_alloc z o) (hbx p hp).2⟩
theorem SgAt.own {S : Nat → Prop} (h : SgAt B w0 rb bx Lr z) (u : Upd S z z') (hS : ∀ j, S j → w0.heap.size ≤ j ∧ (∀ q : RingR, RingAt B z q Lr → ¬ q.foot j) ∧ ∀ p ∈ bx, p.1 ≠ j) : SgAt B w0 rb bx Lr z' := by
  obtain ⟨q, h1, hq, u0, hbx⟩ := h
  exact ⟨q, h1, hq.upd u (fun j hj e => (hS j e).2.1 q hq hj), u0.trans' u (fun j hj e => by have := (hS j e).1; omega), fun p hp => ⟨(hbx p hp).1, u.keep (hbx p hp).2 (fun e => (hS _ e).2.2 p hp rfl)⟩⟩
theorem SgAt.add {b : Nat} {o : Obj} (h : SgAt B w0 rb bx Lr z) (u : Nw z z') (hb : z'.heap[b]? = some o) (hn : z.heap.size ≤ b) : SgAt B w0 rb ((b, o) :: bx) Lr z' := by
  obtain ⟨q, h1, hq, u0, hbx⟩ := h
  refine ⟨q, h1, hq.nw u, u0.trans u, fun p hp => ?_⟩
  rcases List.mem_cons.1 hp with rfl | hp
  · exact ⟨fun e => by have := (hq.foot_lt e).2; dsimp only at this; omega, hb⟩
  · exact ⟨(hbx p hp).1, Nw.keep u (hbx p hp).2⟩
theorem SgAt.pop {b : Nat} {o : Obj} {S : Nat → Prop} (h : SgAt B w0 rb ((b, o) :: bx) Lr z) (u : Upd S z z') (hS : ∀ j, S j → j = b) (hn : w0.heap.size ≤ b) (hne : ∀ p ∈ bx, p.1 ≠ b) : SgAt B w0 rb bx Lr z' := by
  obtain ⟨q, h1, hq, u0, hbx⟩ := h
  refine ⟨q, h1, hq.upd u (fun j hj e => (hbx _ (List.mem_cons_self ..)).1 (by rw [hS j e] at hj; exact hj)), u0.trans' u (fun j hj e => by have := hS j e; omega), fun p hp => ⟨(hbx p (List.mem_cons_of_mem _ hp)).1, u.keep (hbx p (List.mem_cons_of_mem _ hp)).2 (fun e => hne p hp (hS _ e))⟩⟩
theorem SgAt.size (h : SgAt B w0 rb bx Lr z) : w0.heap.size ≤ z.heap.size := by obtain ⟨q, h1, hq, u0, hbx⟩ := h; exact u0.size
theorem SgAt.lt (h : SgAt B w0 rb bx Lr z) : ∀ p ∈ bx, p.1 < z.heap.size := by obtain ⟨q, h1, hq, u0, hbx⟩ := h; exact fun p hp => lt_of_block (hbx p hp).2
/-- What stands in a block of signatures. -/
theorem own_box {w : World} {b : Nat} {C : List Bk.Sgn} {cs : Array Value} {base : Nat} (h : w.heap[b]? = some (.cells cs tSigned (0, 0))) (hb : base ≤ b) (hc : cs.toList = flatS C) (hl : C.length ≤ maxLen) : w.ownsRow base tSigned 3 (.slice (some ⟨b, 0, none⟩) C.length C.length) C.length (flatS C) := by
  have h3 : ∀ x ∈ C.map sgl, x.length = 3 := fun x hx => by obtain ⟨y, _, rfl⟩ := List.mem_map.1 hx; rfl
  have hz : (flatS C).length = C.length * 3 := by
    unfold flatS
    rw [flat_len _ h3, List.length_map]
  refine ⟨hz, Or.inr ⟨b, C.length, cs, rfl, hb, h, Nat.le_refl _, hl, ?_, ?_⟩⟩
  · rw [← Array.length_toList, hc, hz]
  · rw [hc, ← hz, List.take_length]
theorem built_t (h : SgAt B w0 rb bx Lr z) (hB0 : w0.heap.size ≤ B) (g : Gl z) (k p : Int) (hk : I64 k) (hp : I64 p) (hL : Lr.length ≤ 1000000) {sg : Bk.Sgn} {L' : List Bk.Seal} {T : List UInt8} (ht : Cl.text ⟨3, p, 0, At.geo⟩ = T) (e : Bk.sign Lr k T = (sg, L')) :
    Calls Tryz.prog 17 #[.pointer (some ⟨rb, 0, none⟩), .int .i64 k, .string ⟨#[103, 101, 111]⟩, .int .i64 p] z fun e w' => e = .returned (.agg #[.int .i64 sg.key, .string ⟨sg.text.toArray⟩, .int .i64 sg.mark]) ∧ SgAt B w0 rb bx L' w' := by
  obtain ⟨q, rfl, hq, u, hbx⟩ := h
  have hB : B ≤ z.heap.size := by have h1 := hq.rb; have h2 := lt_of_block hq.blk; omega
  have hb := built_w B q Lr k p At.geo z g hq hk hp (by decide) hL hB
  rw [ht] at hb
  refine Calls.mono (show Calls Tryz.prog 17 #[.pointer (some ⟨q.rb, 0, none⟩), .int .i64 k, .string ⟨#[103, 101, 111]⟩, .int .i64 p] z (SignPost B q Lr k T z) from hb) ?_
  rintro _ w' ⟨q', rfl, h1, h2, h3, h4⟩
  rw [e] at h1 ⊢
  refine ⟨rfl, q', h2, h1, u.trans' h3 (fun j hj e => by have := (hq.foot_lt e).1; omega), fun p hp => ⟨fun e2 => ?_, h3.keep (hbx p hp).2 (hbx p hp).1⟩⟩
  rcases h4 _ e2 with e3 | e3
  · exact (hbx p hp).1 e3
  · have := lt_of_block (hbx p hp).2; omega
theorem accept_s {C : List Bk.Sgn} {b1 hi2 : Nat} {v gv : Value} {G : List At.Grp} {GC : List (Value × At.Grp)} {n er : Int} (h : SgAt B w0 rb bx Lr z) (g : Gl z) (hv : z.ownsRow b1 tSigned 3 v C.length (flatS C)) (hC : C.length ≤ 100000) (hs : ∀ s ∈ C, SgnOk s) (hG : GrpS hi2 z gv G GC) (e : At.accept (At.votes Lr C At.geo) G = (n, er)) :
    Calls Tryz.prog 16 #[.pointer (some ⟨rb, 0, none⟩), v, gv, .string ⟨#[103, 101, 111]⟩] z fun x w' => x = .returned (.tuple #[.int .i64 n, .int .i64 er]) ∧ SgAt B w0 rb bx Lr w' ∧ Nw z w' := by
  have h' := h
  obtain ⟨q, rfl, hq, u, hbx⟩ := h'
  have hb := acc_q At.geo g hq (sgn_sls hv) hC hs hG
  rw [e] at hb
  exact Calls.mono (show Calls Tryz.prog 16 #[.pointer (some ⟨q.rb, 0, none⟩), v, gv, .string ⟨#[103, 101, 111]⟩] z _ from hb) (fun x w' ⟨h1, h2⟩ => ⟨h1, h.nw h2, h2⟩)
section
variable {C : List Bk.Sgn} {b1 hi2 : Nat} {v gv : Value} {G : List At.Grp} {GC : List (Value × At.Grp)} {l : List Int} {n : Nat}
theorem prints_s (h : SgAt B w0 rb bx Lr z) (g : Gl z) (hv : z.ownsRow b1 tSigned 3 v C.length (flatS C)) (hC : C.length ≤ 100000) (hs : ∀ s ∈ C, SgnOk s) (e : At.prints (At.votes Lr C At.geo) = l) (hn : l.length = n) :
    Calls Tryz.prog 18 #[.pointer (some ⟨rb, 0, none⟩), v, .string ⟨#[103, 101, 111]⟩] z fun x w' => ∃ a c, x = .returned (.slice a n c) ∧ Sl z.heap.size w'.heap.size w' (.slice a n c) (l.map intV) ∧ SgAt B w0 rb bx Lr w' ∧ Nw z w' := by
  have h' := h
  obtain ⟨q, rfl, hq, u, hbx⟩ := h'
  have hb := Prints_w B q Lr _ _ v C At.geo z g hq (sgn_sls hv) hC hs
  rw [e] at hb
  refine Calls.mono (show Calls Tryz.prog 18 #[.pointer (some ⟨q.rb, 0, none⟩), v, .string ⟨#[103, 101, 111]⟩] z _ from hb) ?_
  rintro x w' ⟨v', rfl, o, u2⟩
  obtain ⟨a, c, rfl⟩ := own_sl o
  subst hn
  exact ⟨a, c, rfl, own_num o, h.nw u2, u2⟩
theorem liars_s (truth : Int) (h : SgAt B w0 rb bx Lr z) (g : Gl z) (hv : z.ownsRow b1 tSigned 3 v C.length (flatS C)) (hC : C.length ≤ 100000) (hs : ∀ s ∈ C, SgnOk s) (hG : GrpS hi2 z gv G GC) (hGC : GC.length ≤ 800) (hml : ∀ c ∈ GC, c.2.members.length ≤ 1000) (e : At.liars (At.votes Lr C At.geo) G truth = l) (hn : l.length = n) :
    Calls Tryz.prog 13 #[.pointer (some ⟨rb, 0, none⟩), v, gv, .string ⟨#[103, 101, 111]⟩, .int .i64 truth] z fun x w' => ∃ a c, x = .returned (.slice a n c) ∧ Sl z.heap.size w'.heap.size w' (.slice a n c) (l.map intV) ∧ SgAt B w0 rb bx Lr w' ∧ Nw z w' := by
  have h' := h
  obtain ⟨q, rfl, hq, u, hbx⟩ := h'
  have hb := liars_q At.geo truth g hq (sgn_sls hv) hC hs hG hGC hml
  rw [e] at hb
  refine Calls.mono (show Calls Tryz.prog 13 #[.pointer (some ⟨q.rb, 0, none⟩), v, gv, .string ⟨#[103, 101, 111]⟩, .int .i64 truth] z _ from hb) ?_
  rintro x w' ⟨v', rfl, o, u2⟩
  obtain ⟨a, c, rfl⟩ := own_sl o
  subst hn
  exact ⟨a, c, rfl, own_num o, h.nw u2, u2⟩
theorem vote_s (gr : At.Grp) (ms : Value) (p : Int) (lo : Nat) (h : SgAt B w0 rb bx Lr z) (g : Gl z) (hv : z.ownsRow b1 tSigned 3 v C.length (flatS C)) (hC : C.length ≤ 100000) (hs : ∀ s ∈ C, SgnOk s) (hm : Sl lo hi2 z ms (gr.members.map intV)) (hml : gr.members.length ≤ 1000000) (e : At.members (At.votes Lr C At.geo) gr p = l) (hn : l.length = n) :
    Calls Tryz.prog 15 #[.pointer (some ⟨rb, 0, none⟩), v, .agg #[ms, .int .i64 gr.bad], .string ⟨#[103, 101, 111]⟩, .int .i64 p] z fun x w' => ∃ a c, x = .returned (.slice a n c) ∧ Sl z.heap.size w'.heap.size w' (.slice a n c) (l.map intV) ∧ SgAt B w0 rb bx Lr w' ∧ Nw z w' := by
  have h' := h
  obtain ⟨q, rfl, hq, u, hbx⟩ := h'
  have hb := Vote_w B q Lr _ _ _ _ v C ms gr At.geo p z g hq (sgn_sls hv) hC hs hm hml
  rw [e] at hb
  refine Calls.mono (show Calls Tryz.prog 15 #[.pointer (some ⟨q.rb, 0, none⟩), v, .agg #[ms, .int .i64 gr.bad], .string ⟨#[103, 101, 111]⟩, .int .i64 p] z _ from hb) ?_
  rintro x w' ⟨v', rfl, o, u2⟩
  obtain ⟨a, c, rfl⟩ := own_sl o
  subst hn
  exact ⟨a, c, rfl, own_num o, h.nw u2, u2⟩
end
theorem num_box {w : World} {x y : Int} {bb : Nat} (h : w.heap[bb]? = some (.cells #[.int .i64 x, .int .i64 y] tNum (0, 0))) : Sl bb (bb + 1) w (.slice (some ⟨bb, 0, none⟩) 2 2) ([x, y].map intV) := by
  have o1 : w.ownsRow bb tNum 1 (.slice (some ⟨bb, 0, none⟩) 2 2) 2 ([x, y].map intV) := ⟨rfl, Or.inr ⟨bb, 2, _, rfl, Nat.le_refl _, h, by decide, by decide, rfl, rfl⟩⟩
  refine Or.inr ⟨bb, 0, 2, rfl, Nat.le_refl _, by decide, Nat.le_refl _, Nat.lt_succ_self _, lt_of_block h, fun i hi => ?_⟩
  rw [cells_cell h, Nat.zero_add]
  simp
/-- The two groups. -/
theorem grp_box {w : World} {b1 b2 b3 : Nat} (h1 : w.heap[b1]? = some (.cells #[.int .i64 1, .int .i64 2, .int .i64 3] tNum (0, 0))) (h2 : w.heap[b2]? = some (.cells #[.int .i64 5, .int .i64 6] tNum (0, 0)))
    (h3 : w.heap[b3]? = some (.cells #[.slice (some ⟨b1, 0, none⟩) 3 3, .int .i64 1, .slice (some ⟨b2, 0, none⟩) 2 2, .int .i64 0] tGrp (0, 0))) :
    GrpS w.heap.size w (.slice (some ⟨b3, 0, none⟩) 2 2) At.gs [(.slice (some ⟨b1, 0, none⟩) 3 3, ⟨[1, 2, 3], 1⟩), (.slice (some ⟨b2, 0, none⟩) 2 2, ⟨[5, 6], 0⟩)] := by
  have o1 : w.ownsRow 0 tNum 1 (.slice (some ⟨b1, 0, none⟩) 3 3) 3 ([1, 2, 3].map intV) := ⟨rfl, Or.inr ⟨b1, 3, _, rfl, Nat.zero_le _, h1, by decide, by decide, rfl, rfl⟩⟩
  have o2 : w.ownsRow 0 tNum 1 (.slice (some ⟨b2, 0, none⟩) 2 2) 2 ([5, 6].map intV) := ⟨rfl, Or.inr ⟨b2, 2, _, rfl, Nat.zero_le _, h2, by decide, by decide, rfl, rfl⟩⟩
  have o3 : w.ownsRow 0 tGrp 2 (.slice (some ⟨b3, 0, none⟩) 2 2) 2 ([((.slice (some ⟨b1, 0, none⟩) 3 3, ⟨[1, 2, 3], 1⟩) : Value × At.Grp), (.slice (some ⟨b2, 0, none⟩) 2 2, ⟨[5, 6], 0⟩)].map grpL).flatten := ⟨rfl, Or.inr ⟨b3, 2, _, rfl, Nat.zero_le _, h3, by decide, by decide, rfl, rfl⟩⟩
  refine ⟨rfl, SlS.of_owns o3 rfl (by omega) (fun y hy => ?_), fun c hc => ?_⟩
  · obtain ⟨z, _, rfl⟩ := List.mem_map.1 hy
    rfl
  · simp only [List.mem_cons, List.not_mem_nil, or_false] at hc
    rcases hc with rfl | rfl
    · exact ⟨Sl.of_owns o1, I64_a (by dsimp only; decide), fun k hk => I64_a (by simp at hk; omega)⟩
    · exact ⟨Sl.of_owns o2, I64_a (by dsimp only; decide), fun k hk => I64_a (by simp at hk; omega)⟩
end
theorem news_of {w : World} {b o : Nat} {cs : Array Value} {T : TypeId} {fz : Nat × Nat} {news : List Value} (h : w.heap[b]? = some (.cells cs T fz)) (hd : (cs.toList.drop o).take news.length = news) : ∀ j u, news[j]? = some u → w.cell? ((⟨b, o, none⟩ : Addr).add j) = some u := by
  intro j u hu
  rw [add_plain, cells_cell h, ← hu, ← hd]
  have hj : j < news.length := (List.getElem?_eq_some_iff.1 hu).1
  rw [List.getElem?_take, if_pos (by simpa using hj), List.getElem?_drop]
  simp
/-- An append of several elements onto a new slice, in a region that draws its order. -/
theorem step_catN {P : Program} {w : World} {ops : Array Oper} {o : Oper} {a : Act} {K : Act → World → Prop} {Q : Exit → Act → World → Prop} {E : Prop} (hgd : o.guard = none) (s x : Operand) (t : TypeId)
    (ho : o.op = .call { callee := .builtin .append, args := #[s, x], argTypes := #[t, t] })
    (e : TypeId) (z : Value) (size bytes : Nat) (ht : P.underlying t = some (.slice e)) (hinfo : (P.info? e).map (fun i => (i.zero, i.size, i.bytes)) = some (some z, size, bytes)) (hzs : z.cells.size = size) (hsz : 0 < size)
    (W0 : World) (hg : nG ≤ W0.heap.size) (uw : Nw W0 w) (v : Value) (n : Nat) (xs : List Value) (hs : a.eval s = v) (hown : w.ownsRow W0.heap.size e size v n xs)
    (ad : Addr) (m c : Nat) (news : List Value) (hx : a.eval x = .slice (some ad) m c) (hl : news.length = m * size) (hnews : ∀ j u, news[j]? = some u → w.cell? (ad.add j) = some u) (h1 : ∀ u ∈ news, u.oneCell' = true)
    (hm : 0 < m) (h63 : n + m ≤ maxLen) (hbytes : (n + m) * bytes ≤ 140737488355328)
    (h : ∀ g cap w', w'.ownsRow W0.heap.size e size (.slice (some ⟨g, 0, none⟩) (n + m) cap) (n + m) (xs ++ news) → Nw W0 w' → K (a.put o.dst (.slice (some ⟨g, 0, none⟩) (n + m) cap)) w') :
    if Region.wanted o (yielded ops a.tmps) = true then Oper.wp P o a w K Q else E := by
  obtain ⟨i0, hi, hz0, hz1, hz2⟩ := info_parts hinfo
  refine step_append_lies _ hgd s x t ho W0.heap.size e i0 z size bytes ht hi hz0 hz1 hz2 hzs hsz v n xs hs hown ad m c news hx hl hnews h1 hm h63 hbytes uw.size w.heap.size rfl fun g cap w' h2 h3 h4 h5 => h g cap w' h2 (uw.grown h3 fun k hk => ⟨Or.inr ?_, ?_⟩)
  · exact (hown.lt k hk).1
  · have := (hown.lt k hk).1; omega
/-- The same in a region that keeps to the text's order. -/
theorem wpList_catM {P : Program} {w : World} {ops : Array Oper} {rest : List Oper} {o : Oper} {a : Act} {Q : Exit → Act → World → Prop} (hgd : o.guard = none) (s x : Operand) (t : TypeId)
    (ho : o.op = .call { callee := .builtin .append, args := #[s, x], argTypes := #[t, t] })
    (e : TypeId) (z : Value) (size bytes : Nat) (ht : P.underlying t = some (.slice e)) (hinfo : (P.info? e).map (fun i => (i.zero, i.size, i.bytes)) = some (some z, size, bytes)) (hzs : z.cells.size = size) (hsz : 0 < size)
    (B : Nat) (hB : B ≤ w.heap.size) (hg : nG ≤ B) (v : Value) (n : Nat) (xs : List Value) (hs : a.eval s = v) (hown : w.ownsRow B e size v n xs)
    (ad : Addr) (m c : Nat) (news : List Value) (hx : a.eval x = .slice (some ad) m c) (hl : news.length = m * size) (hnews : ∀ j u, news[j]? = some u → w.cell? (ad.add j) = some u) (h1 : ∀ u ∈ news, u.oneCell' = true)
    (hm : 0 < m) (h63 : n + m ≤ maxLen) (hbytes : (n + m) * bytes ≤ 140737488355328)
    (h : ∀ g cap w', w'.ownsRow B e size (.slice (some ⟨g, 0, none⟩) (n + m) cap) (n + m) (xs ++ news) → Upd (fun k => v.ownBlock = some k) w w' → (v.ownBlock = some g ∨ w.heap.size ≤ g) → wpList P ops Q rest (a.put o.dst (.slice (some ⟨g, 0, none⟩) (n + m) cap)) w') : wpList P ops Q (o :: rest) a w := by
  obtain ⟨i0, hi, hz0, hz1, hz2⟩ := info_parts hinfo
  refine wpList_append_lies _ hgd s x t ho B e i0 z size bytes ht hi hz0 hz1 hz2 hzs hsz v n xs hs hown ad m c news hx hl hnews h1 hm h63 hbytes hB w.heap.size rfl fun g cap w' h2 h3 h4 h5 => h g cap w' h2 ((Upd.refl _ _).grown h3 fun k hk => ⟨Or.inl hk, ?_⟩) (h4.imp id (fun e => by omega))
  have := (hown.lt k hk).1; omega
theorem okA : ∀ s ∈ [At.s0, At.s1, At.s2, At.s3, At.s4, At.s5, At.s6], SgnOk s := by
  intro s hs
  simp only [List.mem_cons, List.not_mem_nil, or_false] at hs
  rcases hs with rfl | rfl | rfl | rfl | rfl | rfl | rfl <;> exact sgn_okA (by decide)
theorem okA5 : ∀ s ∈ [At.s0, At.s1, At.s2, At.s3, At.s4], SgnOk s := fun s hs => okA s (by simp at hs ⊢; rcases hs with h | h | h | h | h <;> simp [h])
theorem okA4 : ∀ s ∈ [At.s0, At.s2, At.s3, At.s4], SgnOk s := fun s hs => okA s (by simp at hs ⊢; rcases hs with h | h | h | h <;> simp [h])
theorem okA3 : ∀ s ∈ [At.s0, At.s1, At.s3, At.s4], SgnOk s := fun s hs => okA s (by simp at hs ⊢; rcases hs with h | h | h | h <;> simp [h])
set_option maxHeartbeats 8000000 in
set_option maxRecDepth 100000 in
theorem smallA_w (w : World) (g : Gl w) : Calls Tryz.prog 7 #[] w fun e w' => e = .returned (.bool true) ∧ Nw w w' := by
  have hgb := g.big
  have hB0 := Nat.le_refl w.heap.size
  go_enter Tryz.func7, Tryz.ntmps7
  go_wp2_with fail
  (with_reducible refine (new_s _ g).mono ?_)
  rintro _ w1 ⟨r, rfl, hr, u1⟩
  have x : SgAt w.heap.size w r.rb [] [] w1 := ⟨r, rfl, hr, u1, fun p hp => by cases hp⟩
  generalize r.rb = rb at *
  clear hr u1
  replace x := x.box (.cells #[.int .i64 1, .int .i64 2, .int .i64 3] tNum)
  replace x := x.box (.cells #[.int .i64 5, .int .i64 6] tNum)
  replace x := x.box (.cells #[.slice (some ⟨w1.heap.size, 0, none⟩) 3 3, .int .i64 1, .slice (some ⟨w1.heap.size + 1, 0, none⟩) 2 2, .int .i64 0] tGrp)
  have hs1 : (w1.alloc (.cells #[.int .i64 1, .int .i64 2, .int .i64 3] tNum)).heap.size = w1.heap.size + 1 := by simp
  have hs2 : ((w1.alloc (.cells #[.int .i64 1, .int .i64 2, .int .i64 3] tNum)).alloc (.cells #[.int .i64 5, .int .i64 6] tNum)).heap.size = w1.heap.size + 1 + 1 := by simp
  rw [hs1, hs2] at x
  generalize hW : ((w1.alloc (.cells #[.int .i64 1, .int .i64 2, .int .i64 3] tNum)).alloc (.cells #[.int .i64 5, .int .i64 6] tNum)).alloc (.cells #[.slice (some ⟨w1.heap.size, 0, none⟩) 3 3, .int .i64 1, .slice (some ⟨w1.heap.size + 1, 0, none⟩) 2 2, .int .i64 0] tGrp) = W at *
  have HW := Lib.hid hW
  have gg := sg_gl x g
  have X := Lib.hid x
  clear x hs1 hs2 hW
  go_wp2_with fail
  rw [HW.out]
  (with_reducible refine (built_t X.out hB0 gg 1 4 (I64_a (by decide)) (I64_a (by decide)) (by decide) At.x4 At.e1).mono ?_)
  rintro _ w2 ⟨rfl, x⟩
  clear X gg
  have gg := sg_gl x g
  have X := Lib.hid x
  clear x
  go_wp2_with fail
  (with_reducible refine (built_t X.out hB0 gg 2 4 (I64_a (by decide)) (I64_a (by decide)) (by decide) At.x4 At.e2).mono ?_)
  rintro _ w3 ⟨rfl, x⟩
  clear X gg
  have gg := sg_gl x g
  have X := Lib.hid x
  clear x
  go_wp2_with fail
  (with_reducible refine (built_t X.out hB0 gg 5 4 (I64_a (by decide)) (I64_a (by decide)) (by decide) At.x4 At.e3).mono ?_)
  rintro _ w4 ⟨rfl, x⟩
  clear X gg
  have gg := sg_gl x g
  have X := Lib.hid x
  clear x
  go_wp2_with fail
  (with_reducible refine (built_t X.out hB0 gg 3 7 (I64_a (by decide)) (I64_a (by decide)) (by decide) At.x7 At.e4).mono ?_)
  rintro _ w5 ⟨rfl, x⟩
  clear X gg
  have gg := sg_gl x g
  have X := Lib.hid x
  clear x
  go_wp2_with fail
  (with_reducible refine (built_t X.out hB0 gg 6 7 (I64_a (by decide)) (I64_a (by decide)) (by decide) At.x7 At.e5).mono ?_)
  rintro _ w6 ⟨rfl, x⟩
  clear X gg
  replace x := x.box (.cells #[.int .i64 At.s0.key, .string ⟨At.s0.text.toArray⟩, .int .i64 At.s0.mark, .int .i64 At.s1.key, .string ⟨At.s1.text.toArray⟩, .int .i64 At.s1.mark, .int .i64 At.s2.key, .string ⟨At.s2.text.toArray⟩, .int .i64 At.s2.mark, .int .i64 At.s3.key, .string ⟨At.s3.text.toArray⟩, .int .i64 At.s3.mark, .int .i64 At.s4.key, .string ⟨At.s4.text.toArray⟩, .int .i64 At.s4.mark] tSigned)
  have gg := sg_gl x g
  have hG := grp_box (x.at 3 rfl) (x.at 2 rfl) (x.at 1 rfl)
  have hb := x.at 0 rfl
  have hL5 := own_box (base := 0) (C := [At.s0, At.s1, At.s2, At.s3, At.s4]) hb (Nat.zero_le _) rfl (by decide)
  have X := Lib.hid x
  have HG := Lib.hid hG
  have HL5 := Lib.hid (show World.ownsRow _ 0 tSigned 3 (.slice (some ⟨w6.heap.size, 0, none⟩) 5 5) 5 (flatS [At.s0, At.s1, At.s2, At.s3, At.s4]) from hL5)
  have HB := Lib.hid hb
  clear x hG hL5 hb
  go_wp2_with fail
  generalize hW6 : w6.alloc _ = W6 at *
  have HW6 := Lib.hid hW6
  clear hW6
  (with_reducible refine (accept_s X.out gg (C := [At.s0, At.s1, At.s2, At.s3, At.s4]) HL5.out (by decide) okA5 HG.out At.a1).mono ?_)
  rintro _ w7 ⟨rfl, x, u7⟩
  clear X gg HL5
  have gg := sg_gl x g
  have X := Lib.hid x
  have hB7 := Nw.keep u7 HB.out
  have hG7 := HG.out.nw u7
  have hcl := fun (z : World) (uz : Nw w7 z) => cells_cell (Nw.keep uz hB7)
  have HS : Hid (∀ z, Nw w7 z → z.cell? ⟨w6.heap.size, 0, none⟩ = some (.int .i64 At.s0.key) ∧ z.cell? ⟨w6.heap.size, 1, none⟩ = some (.string ⟨At.s0.text.toArray⟩) ∧ z.cell? ⟨w6.heap.size, 2, none⟩ = some (.int .i64 At.s0.mark)) := fun z uz => ⟨hcl z uz 0, hcl z uz 1, hcl z uz 2⟩
  have hB7n : ∀ z, Nw w7 z → ∀ j u, (flatS [At.s2, At.s3, At.s4])[j]? = some u → z.cell? ((⟨w6.heap.size, 6, none⟩ : Addr).add j) = some u := fun z uz => news_of (Nw.keep uz hB7) rfl
  have HB7n := Lib.hid hB7n
  have HB7 := Lib.hid hB7
  have HG7 := Lib.hid hG7
  have hg7 : nG ≤ w7.heap.size := gg.big
  clear x HB HG hcl hB7n hB7 hG7 u7
  go_wp2_with fail
  go_region_held_law (fun z => z.cell? ⟨w6.heap.size, 0, none⟩ = some (.int .i64 At.s0.key) ∧ z.cell? ⟨w6.heap.size, 1, none⟩ = some (.string ⟨At.s0.text.toArray⟩) ∧ z.cell? ⟨w6.heap.size, 2, none⟩ = some (.int .i64 At.s0.mark)) (first | exact HS.out _ (u8.trans u9) | exact HS.out _ (by repeat (first | exact Upd.refl _ _ | assumption | refine Upd.drew ?_ | refine Upd.alloc ?_ _))) (first | (go_at_call 16; (with_reducible refine (accept_s (C := [At.s0, At.s2, At.s3, At.s4]) (X.out.nw u8) (gg.upd u8) hown8 (by decide) okA4 (HG7.out.nw u8) At.a2).mono ?_); rintro _ w9 ⟨rfl, x9, u9⟩) | (refine step_catN rfl _ _ 29 rfl tSigned _ 3 32 Tryz.underlying29 infoSgn rfl (by decide) w7 hg7 (by first | exact (nw_alloc _ _).drew | exact nw_alloc _ _) _ 1 (flatS [At.s0]) rfl (own_box (C := [At.s0]) (by exact heap_new _ _) (Nat.le_refl _) rfl (by decide)) _ 3 3 (flatS [At.s2, At.s3, At.s4]) rfl rfl (HB7n.out _ (by first | exact (nw_alloc _ _).drew | exact nw_alloc _ _)) (by decide) (by omega) (by unfold maxLen; omega) (by omega) ?_; intro g8 c8 w8 hown8 u8))
  have U9 := u8.trans u9
  have gg9 := sg_gl x9 g
  have X9 := Lib.hid x9
  have hB9n : ∀ z, Nw w9 z → ∀ j u, (flatS [At.s0, At.s1])[j]? = some u → z.cell? ((⟨w6.heap.size, 0, none⟩ : Addr).add j) = some u := fun z uz => news_of (Nw.keep (U9.trans uz) HB7.out) rfl
  have hB9m : ∀ z, Nw w9 z → ∀ j u, (flatS [At.s3, At.s4])[j]? = some u → z.cell? ((⟨w6.heap.size, 9, none⟩ : Addr).add j) = some u := fun z uz => news_of (Nw.keep (U9.trans uz) HB7.out) rfl
  have HB9n := Lib.hid hB9n
  have HB9m := Lib.hid hB9m
  have HG9 := Lib.hid (HG7.out.nw U9)
  have HB9 := Lib.hid (Nw.keep U9 HB7.out)
  have hg9 : nG ≤ w9.heap.size := gg9.big
  have HS9 : Hid (∀ z, Nw w9 z → z.cell? ⟨w6.heap.size, 0, none⟩ = some (.int .i64 At.s0.key)) := fun z uz => cells_cell (Nw.keep (U9.trans uz) HB7.out) 0
  clear x9 hB9n hB9m hown8 u8 u9 U9 HB7 HG7 HS X gg hg7
  go_wp2_with fail
  go_region_held_law (fun z => z.cell? ⟨w6.heap.size, 0, none⟩ = some (.int .i64 At.s0.key)) (first | exact HS9.out _ (v8.trans v9) | exact HS9.out _ v8 | exact HS9.out _ v7 | exact HS9.out _ (by repeat (first | exact Upd.refl _ _ | assumption | refine Upd.drew ?_ | refine Upd.alloc ?_ _))) (first | (go_at_call 16; (with_reducible refine (accept_s (C := [At.s0, At.s1, At.s3, At.s4]) (X9.out.nw v8) (gg9.upd v8) hownb (by decide) okA3 (HG9.out.nw v8) At.a3).mono ?_); rintro _ w10 ⟨rfl, x10, v9⟩) | (refine step_catN rfl _ _ 29 rfl tSigned _ 3 32 Tryz.underlying29 infoSgn rfl (by decide) w9 hg9 v7 _ 2 (flatS [At.s0, At.s1]) rfl howna _ 2 2 (flatS [At.s3, At.s4]) rfl rfl (HB9m.out _ v7) (by decide) (by omega) (by unfold maxLen; omega) (by omega) ?_; intro gb cb wb hownb v8) | (refine step_catN rfl _ _ 29 rfl tSigned _ 3 32 Tryz.underlying29 infoSgn rfl (by decide) w9 hg9 (by first | exact (nw_alloc _ _).drew | exact nw_alloc _ _ | exact (Upd.refl _ _).drew | exact Upd.refl _ _) _ 0 [] rfl (by first | exact World.ownsRow_nil _ _ _ _ | exact ⟨rfl, Or.inr ⟨_, 0, #[], rfl, Nat.le_refl _, by exact heap_new _ _, by decide, by decide, rfl, rfl⟩⟩) _ 2 5 (flatS [At.s0, At.s1]) rfl rfl (HB9n.out _ (by first | exact (nw_alloc _ _).drew | exact nw_alloc _ _ | exact (Upd.refl _ _).drew | exact Upd.refl _ _)) (by decide) (by omega) (by unfold maxLen; omega) (by omega) ?_; intro ga ca wa howna v7))
  have hx10 := x10
  have U10 := v8.trans v9
  have gg10 := sg_gl x10 g
  have HB10 := Lib.hid (Nw.keep U10 HB9.out)
  have HG10 := Lib.hid (HG9.out.nw U10)
  have hg10 : nG ≤ w10.heap.size := gg10.big
  have X10 := Lib.hid x10
  clear x10 hx10 HB9n HB9m HS9 howna hownb v7 v8 v9 U10 HB9 HG9 X9 gg9 hg9
  have hB10n : ∀ z, Nw w10 z → ∀ j u, (flatS [At.s0, At.s1, At.s2, At.s3, At.s4])[j]? = some u → z.cell? ((⟨w6.heap.size, 0, none⟩ : Addr).add j) = some u := fun z uz => news_of (Nw.keep uz HB10.out) rfl
  have HB10n := Lib.hid hB10n
  clear hB10n
  go_wp2_with (at_builtin; refine wpList_catM rfl _ _ 29 rfl tSigned _ 3 32 Tryz.underlying29 infoSgn rfl (by decide) w10.heap.size (by simp) hg10 _ 0 [] rfl (by first | exact World.ownsRow_nil _ _ _ _ | exact ⟨rfl, Or.inr ⟨_, 0, #[], rfl, Nat.le_refl _, by exact heap_new _ _, by decide, by decide, rfl, rfl⟩⟩) _ 5 5 (flatS [At.s0, At.s1, At.s2, At.s3, At.s4]) rfl rfl (HB10n.out _ (by first | exact nw_alloc _ _ | exact Upd.refl _ _)) (by decide) (by omega) (by unfold maxLen; omega) (by omega) ?_)
  intro g11 c11 w11 hown11 u11 _
  have U11 : Nw w10 w11 := (nw_alloc w10 (.cells #[] tSigned)).trans' u11 (fun j hj e => by simp [Value.ownBlock] at e; omega)
  obtain ⟨hl11, hr11⟩ := hown11
  rcases hr11 with ⟨_, h0⟩ | ⟨g11', cap11, cur11, hv11, hge11, hc11, hn11, hm11, hs11, ht11⟩
  · cases h0
  obtain ⟨rfl, rfl⟩ : g11 = g11' ∧ c11 = cap11 := by simp at hv11; exact hv11
  have hw10 := X10.out.lt
  have x := X10.out.add U11 hc11 hge11
  have gg := sg_gl x g
  have hww := X10.out.size
  have X := Lib.hid x
  have HW10 := Lib.hid hw10
  have HT11 := Lib.hid ht11
  clear x hc11 ht11 hw10 X10 HB10 HG10 HB10n U11 u11 gg10 hv11 hl11
  go_wp2_with fail
  (with_reducible refine (built_t X.out hB0 gg 1 7 (I64_a (by decide)) (I64_a (by decide)) (by decide) At.x7 At.e6).mono ?_)
  rintro _ w12 ⟨rfl, x⟩
  clear X gg
  have gg := sg_gl x g
  have X := Lib.hid x
  clear x
  go_wp2_with fail
  (with_reducible refine (built_t X.out hB0 gg 2 7 (I64_a (by decide)) (I64_a (by decide)) (by decide) At.x7 At.e7).mono ?_)
  rintro _ w13 ⟨rfl, x⟩
  clear X gg
  have gg := sg_gl x g
  have hc13 := x.at 0 rfl
  have hlt13 := lt_of_block hc13
  have hr13 : (w13.alloc (.cells #[.int .i64 At.s5.key, .string ⟨At.s5.text.toArray⟩, .int .i64 At.s5.mark, .int .i64 At.s6.key, .string ⟨At.s6.text.toArray⟩, .int .i64 At.s6.mark] tSigned)).ownsRow w10.heap.size tSigned 3 (.slice (some ⟨g11, 0, none⟩) 5 c11) 5 (flatS [At.s0, At.s1, At.s2, At.s3, At.s4]) := ⟨rfl, Or.inr ⟨g11, c11, cur11, rfl, hge11, Nw.keep (nw_alloc _ _) hc13, hn11, hm11, hs11, HT11.out⟩⟩
  have HR13 := Lib.hid hr13
  have X := Lib.hid x
  clear x hc13 hr13
  go_wp2_with (at_builtin; refine wpList_catM rfl _ _ 29 rfl tSigned _ 3 32 Tryz.underlying29 infoSgn rfl (by decide) w10.heap.size (by simp; omega) hg10 _ 5 (flatS [At.s0, At.s1, At.s2, At.s3, At.s4]) rfl HR13.out _ 2 2 (flatS [At.s5, At.s6]) rfl rfl (news_of (heap_new w13 _) rfl) (by decide) (by omega) (by unfold maxLen; omega) (by omega) ?_)
  intro g14 c14 w14 hown14 u14 _
  have x := (X.out.nw (nw_alloc w13 _)).pop u14 (fun j e => by simp [Value.ownBlock] at e; exact e.symm) (by omega) (fun p hp e => by have := HW10.out p hp; omega)
  have gg := sg_gl x g
  have hG := grp_box (x.at 3 rfl) (x.at 2 rfl) (x.at 1 rfl)
  have hAc := accept_s x gg (C := [At.s0, At.s1, At.s2, At.s3, At.s4, At.s5, At.s6]) hown14 (by decide) okA hG At.a4
  have HAc := Lib.hid hAc
  clear X HR13 HT11 HW10 x gg hG hAc hown14 u14 hn11 hm11 hs11
  go_wp2_with fail
  (with_reducible refine (HAc.out).mono ?_)
  rintro _ w15 ⟨rfl, x, _⟩
  have gg := sg_gl x g
  have hG := grp_box (x.at 3 rfl) (x.at 2 rfl) (x.at 1 rfl)
  have hR1 := Right_w _ _ _ _ _ gg hG
  rw [At.g1] at hR1
  have HR1 := Lib.hid hR1
  have X := Lib.hid x
  clear hR1 hG x HAc
  go_wp2_with fail
  (with_reducible refine (HR1.out).mono ?_)
  rintro _ w16 ⟨rfl, u16⟩
  have x := X.out.nw u16
  have gg := sg_gl x g
  have hR2 := Right_w w16.heap.size (.slice none 0 0) [] [] w16 gg ⟨rfl, SlS.of_owns (base := 0) (e := tGrp) (n := 0) ⟨rfl, Or.inl ⟨rfl, rfl⟩⟩ rfl (by omega) (fun y hy => by cases hy), fun c hc => by cases hc⟩
  rw [At.g2] at hR2
  have HR2 := Lib.hid hR2
  clear X HR1
  have X := Lib.hid x
  clear hR2 x u16
  go_wp2_with fail
  (with_reducible refine (HR2.out).mono ?_)
  rintro _ w17 ⟨rfl, u17⟩
  have x := X.out.nw u17
  have gg := sg_gl x g
  have hL : World.ownsRow _ 0 tSigned 3 (.slice (some ⟨w6.heap.size, 0, none⟩) 5 5) 5 (flatS [At.s0, At.s1, At.s2, At.s3, At.s4]) := own_box (base := 0) (C := [At.s0, At.s1, At.s2, At.s3, At.s4]) (x.at 0 rfl) (Nat.zero_le _) rfl (by decide)
  have hP := prints_s (n := 2) (C := [At.s0, At.s1, At.s2, At.s3, At.s4]) x gg hL (by decide) okA5 At.p1 rfl
  have HP := Lib.hid hP
  clear X HR2 x hL hP u17
  go_wp2_with fail
  (with_reducible refine (HP.out).mono ?_)
  rintro _ w18 ⟨a18, c18, rfl, s18, x, u18⟩
  have hQ := SameNumsQ _ _ _ _ _ _ [4, 7] [4, 7] (w18.alloc (.cells #[.int .i64 4, .int .i64 7] tNum)) (s18.nw (nw_alloc _ _)) (num_box (heap_new w18 _))
  rw [decide_eq_true (rfl : ([4, 7] : List Int) = [4, 7])] at hQ
  replace x := x.nw (nw_alloc w18 (.cells #[.int .i64 4, .int .i64 7] tNum))
  have HQ := Lib.hid hQ
  have X := Lib.hid x
  clear HP hQ s18 u18 x gg
  go_wp2_with fail
  (with_reducible refine (HQ.out).mono ?_)
  rintro _ w19 ⟨rfl, u19⟩
  have x := X.out.nw u19
  have gg := sg_gl x g
  have hL : World.ownsRow _ 0 tSigned 3 (.slice (some ⟨w6.heap.size, 0, none⟩) 5 5) 5 (flatS [At.s0, At.s1, At.s2, At.s3, At.s4]) := own_box (base := 0) (C := [At.s0, At.s1, At.s2, At.s3, At.s4]) (x.at 0 rfl) (Nat.zero_le _) rfl (by decide)
  have hG := grp_box (x.at 3 rfl) (x.at 2 rfl) (x.at 1 rfl)
  have hV := vote_s (n := 2) (C := [At.s0, At.s1, At.s2, At.s3, At.s4]) ⟨[1, 2, 3], 1⟩ _ 4 0 x gg hL (by decide) okA5 (hG.each _ (List.mem_cons_self ..)).1 (by decide) At.p2 rfl
  have c0 : w19.cell? ⟨w1.heap.size + 1 + 1, 0, none⟩ = some (.slice (some ⟨w1.heap.size, 0, none⟩) 3 3) := cells_cell (x.at 1 rfl) 0
  have c1 : w19.cell? ⟨w1.heap.size + 1 + 1, 1, none⟩ = some (.int .i64 1) := cells_cell (x.at 1 rfl) 1
  have HV := Lib.hid hV
  clear X HQ hL hG hV u19 x
  go_wp2_with fail
  (with_reducible refine (HV.out).mono ?_)
  rintro _ w20 ⟨a20, c20, rfl, s20, x, u20⟩
  have hQ := SameNumsQ _ _ _ _ _ _ [1, 2] [1, 2] (w20.alloc (.cells #[.int .i64 1, .int .i64 2] tNum)) (s20.nw (nw_alloc _ _)) (num_box (heap_new w20 _))
  rw [decide_eq_true (rfl : ([1, 2] : List Int) = [1, 2])] at hQ
  replace x := x.nw (nw_alloc w20 (.cells #[.int .i64 1, .int .i64 2] tNum))
  have HQ := Lib.hid hQ
  have X := Lib.hid x
  clear HV hQ s20 u20 x gg c0 c1
  go_wp2_with fail
  (with_reducible refine (HQ.out).mono ?_)
  rintro _ w21 ⟨rfl, u21⟩
  have x := X.out.nw u21
  have gg := sg_gl x g
  have hL : World.ownsRow _ 0 tSigned 3 (.slice (some ⟨w6.heap.size, 0, none⟩) 5 5) 5 (flatS [At.s0, At.s1, At.s2, At.s3, At.s4]) := own_box (base := 0) (C := [At.s0, At.s1, At.s2, At.s3, At.s4]) (x.at 0 rfl) (Nat.zero_le _) rfl (by decide)
  have hG := grp_box (x.at 3 rfl) (x.at 2 rfl) (x.at 1 rfl)
  have hV := liars_s (n := 2) (C := [At.s0, At.s1, At.s2, At.s3, At.s4]) 4 x gg hL (by decide) okA5 hG (by simp) (fun c hc => by simp only [List.mem_cons, List.not_mem_nil, or_false] at hc; rcases hc with rfl | rfl <;> simp) At.p3 rfl
  have HV := Lib.hid hV
  clear X HQ hL hG hV u21 x
  go_wp2_with fail
  (with_reducible refine (HV.out).mono ?_)
  rintro _ w22 ⟨a22, c22, rfl, s22, x, u22⟩
  have hQ := SameNumsQ _ _ _ _ _ _ [3, 6] [3, 6] (w22.alloc (.cells #[.int .i64 3, .int .i64 6] tNum)) (s22.nw (nw_alloc _ _)) (num_box (heap_new w22 _))
  rw [decide_eq_true (rfl : ([3, 6] : List Int) = [3, 6])] at hQ
  replace x := x.nw (nw_alloc w22 (.cells #[.int .i64 3, .int .i64 6] tNum))
  have HQ := Lib.hid hQ
  have X := Lib.hid x
  clear HV hQ s22 u22 x gg
  go_wp2_with fail
  (with_reducible refine (HQ.out).mono ?_)
  rintro _ w23 ⟨rfl, u23⟩
  have hfin : Nw w w23 := by
    obtain ⟨q, _, _, u, _⟩ := X.out
    exact u.trans u23
  go_wp2_with fail
  go_ret
  exact ⟨rfl, hfin⟩
end Go.Proofs.YtpceoogmkbcfmaaGreatDoor
namespace Go.Proofs.YtpceoogmkbcfmaaGreatDoor
open Go.RowKit
set_option linter.unusedVariables false
set_option linter.unusedSimpArgs false
attribute [local irreducible] Calls

theorem RingAt.baseA {B B' : Nat} {w : World} {q : RingR} {Lr : List Bk.Seal} (h : RingAt B w q Lr) (hB : B' ≤ B) (hg : nG ≤ B') : RingAt B' w q Lr :=
  ⟨hg, Nat.le_trans hB h.rb, Nat.le_trans hB h.mb, h.blk, owns_base h.own hB, h.map, h.nd, h.key⟩
theorem sg_start {W w1 w4 w5 : World} {q : RingR} {l : List Vw.Say} {sv : Value} (hq : RingAt W.heap.size w1 q []) (u1 : Nw W w1) (u4 : Nw w1 w4) (hs : Sgd W.heap.size w4 q [] l l.length sv w5) (hlen : (Vw.signedL [] l).2.length = l.length) :
    ∃ q', q'.rb = q.rb ∧ RingAt W.heap.size w5 q' (Vw.signedL [] l).1 ∧ w5.ownsRow W.heap.size tSigned 3 sv (Vw.signedL [] l).2.length (flatS (Vw.signedL [] l).2) ∧ Nw W w5 := by
  obtain ⟨q', hq', hrb, hown, u5, hf⟩ := hs
  rw [List.take_length] at hq' hown
  have s1 := u1.size
  have s4 := u4.size
  exact ⟨q', hrb, hq', owns_base (by rw [hlen]; exact hown) (by omega), (u1.trans u4).trans' u5 (fun j hj e => by have := (hq.foot_lt e).1; omega)⟩
theorem mod_okA (s : Bk.Sgn) (h : Vw.Mod s) : SgnOk s := ⟨by have := h.k0; have := h.k1; unfold I64; omega, by have := h.t; omega, by have := h.m0; have := h.m1; unfold I64; omega⟩
namespace At
def honB (L : List Int) (GC : List (Value × Grp)) (k : Nat) : Bool := (GC.take k).any fun c => decide ((countL c.2.members L : Int) ≤ c.2.bad)
def enB (V : List (Bk.Sgn × Int)) (truth : Int) (GC : List (Value × Grp)) (k : Nat) : Bool := (GC.take k).all fun c => decide (c.2.bad < ((members V c.2 truth).length : Int))
theorem honB_succ {L : List Int} {GC : List (Value × Grp)} {k : Nat} (h : k < GC.length) : honB L GC (k + 1) = (honB L GC k || decide ((countL GC[k].2.members L : Int) ≤ GC[k].2.bad)) := by
  unfold honB
  rw [List.take_succ_eq_append_getElem h, List.any_append]; simp
theorem enB_succ {V : List (Bk.Sgn × Int)} {truth : Int} {GC : List (Value × Grp)} {k : Nat} (h : k < GC.length) : enB V truth GC (k + 1) = (enB V truth GC k && decide (GC[k].2.bad < ((members V GC[k].2 truth).length : Int))) := by
  unfold enB
  rw [List.take_succ_eq_append_getElem h, List.all_append]; simp
theorem hon_ex {L : List Int} {GC : List (Value × Grp)} (h : honB L GC GC.length = true) : ∃ g ∈ GC.map (·.2), (countL g.members L : Int) ≤ g.bad := by
  unfold honB at h
  rw [List.take_length, List.any_eq_true] at h
  obtain ⟨c, hc, e⟩ := h
  exact ⟨c.2, List.mem_map.2 ⟨c, hc, rfl⟩, by simpa using e⟩
theorem en_all {V : List (Bk.Sgn × Int)} {truth : Int} {GC : List (Value × Grp)} (h : enB V truth GC GC.length = true) : ∀ g ∈ GC.map (·.2), g.bad < ((members V g truth).length : Int) := by
  unfold enB at h
  rw [List.take_length, List.all_eq_true] at h
  intro g hg
  obtain ⟨c, hc, rfl⟩ := List.mem_map.1 hg
  simpa using h c hc
end At
end Go.Proofs.YtpceoogmkbcfmaaGreatDoor
