/- The contract of few: what it promises where it returns true. -/
import Derived.Test.YtiaakidglmgmpaaDoorVal
namespace Go.Proofs.YtiaakidglmgmpaaDoor
open Go.RowKit
set_option linter.unusedVariables false
set_option linter.unusedSimpArgs false
attribute [local irreducible] Calls

def tsum (t : List (List UInt8)) : Nat := (t.map List.length).sum
def Val.size (v : Val) : Nat := v.s.length + v.l.length + v.t.length + tsum v.t
def tot (l : List Val) : Nat := (l.map Val.size).sum
theorem tsum_succ (t : List (List UInt8)) (k : Nat) (h : k < t.length) : tsum (t.take (k + 1)) = tsum (t.take k) + t[k].length := by
  rw [List.take_succ_eq_append_getElem h]; simp only [tsum, List.map_append, List.sum_append, List.map_cons, List.map_nil, List.sum_cons, List.sum_nil, Nat.add_zero]
theorem tot_succ (l : List Val) (k : Nat) (h : k < l.length) : tot (l.take (k + 1)) = tot (l.take k) + l[k].size := by
  rw [List.take_succ_eq_append_getElem h]; simp only [tot, List.map_append, List.sum_append, List.map_cons, List.map_nil, List.sum_cons, List.sum_nil, Nat.add_zero]
theorem le_tsum {t : List (List UInt8)} {x : List UInt8} (h : x ∈ t) : x.length ≤ tsum t := by
  induction t with
  | nil => cases h
  | cons y t ih =>
    simp only [tsum, List.map_cons, List.sum_cons] at ih ⊢
    rcases List.mem_cons.1 h with rfl | h
    · omega
    · have := ih h; omega
theorem le_tot {l : List Val} {x : Val} (h : x ∈ l) : x.size ≤ tot l := by
  induction l with
  | nil => cases h
  | cons y l ih =>
    simp only [tot, List.map_cons, List.sum_cons] at ih ⊢
    rcases List.mem_cons.1 h with rfl | h
    · omega
    · have := ih h; omega
def FewPost (l : List Val) (w : World) (e : Ending) (w' : World) : Prop := ∃ b, e = .returned (.bool b) ∧ (b = true ↔ l.length ≤ 20 ∧ tot l ≤ 400) ∧ Nw w w'
set_option maxHeartbeats 2000000 in
set_option maxRecDepth 100000 in
theorem few_c (hi : Nat) (v : Value) (l : List Val) (w : World) (hv : Vals hi w v l) :
    Calls Tryd.prog 10 #[v] w (FewPost l w) := by
  obtain ⟨xs, h1, h2, h3⟩ := hv
  obtain ⟨a, cap, rfl, hm, ha⟩ := h1.open_
  rw [← h2] at hm ⊢
  unfold maxLen at hm
  have H2 := Lib.hid h2; clear h2
  have Ha := Lib.hid ha; clear ha
  have H3 := Lib.hid h3; clear h3
  by_cases h20 : l.length > 20
  · go_enter Tryd.func10, Tryd.ntmps10
    go_wp2_with fail
    go_ret
    exact ⟨false, rfl, ⟨(fun h => by cases h), fun h => by omega⟩, Upd.refl _ _⟩
  go_enter Tryd.func10, Tryd.ntmps10
  go_wp2_with fail
  go_loopw [3, 4] (fun n i wr => ∃ k : Nat, k ≤ l.length ∧ i = .int .i64 k ∧ n = .int .i64 (tot (l.take k) : Nat) ∧ tot (l.take k) ≤ k * 170000 ∧ Nw w wr) (fun _ i _ => l.length - (intOf i).toNat)
  case atStart => exact ⟨0, Nat.zero_le _, rfl, rfl, by simp [tot], Upd.refl _ _⟩
  case round =>
    obtain ⟨k, hk, rfl, rfl, hb, u⟩ := hrel
    by_cases hlt : k < l.length
    · rcases Ha.out with hnil | ⟨b, off, rfl, _, _, hbl, hcell⟩
      · exfalso
        have e : xs.length = 0 := by rw [hnil]; rfl
        have := H2.out; omega
      · have hkx : k < xs.length := by rw [← H2.out]; exact hlt
        obtain ⟨vl, vt, he, hsl, hst, hI1, hI2, hI3⟩ := H3.out k hkx hlt
        have hc := (hcell k hkx).2
        rw [he] at hc
        have d2 : Hid (w.cell? ⟨b, off + k * 5 + 2, none⟩ = some (.string ⟨l[k].s.toArray⟩)) := by show _ = _; rw [hc 2 (by omega)]; rfl
        have d3 : Hid (w.cell? ⟨b, off + k * 5 + 3, none⟩ = some vl) := by show _ = _; rw [hc 3 (by omega)]; rfl
        have d4 : Hid (w.cell? ⟨b, off + k * 5 + 4, none⟩ = some vt) := by show _ = _; rw [hc 4 (by omega)]; rfl
        clear hc hcell he
        obtain ⟨al, capl, rfl, hml, hal⟩ := hsl.open_
        obtain ⟨at_, capt, rfl, hmt, hat⟩ := hst.open_
        rw [List.length_map] at hml hmt
        rw [List.length_map] at d3 d4
        have c2 := (u.below.cell (p := ⟨b, off + k * 5 + 2, none⟩) hbl).trans d2.out
        have c3 := (u.below.cell (p := ⟨b, off + k * 5 + 3, none⟩) hbl).trans d3.out
        have c4 := (u.below.cell (p := ⟨b, off + k * 5 + 4, none⟩) hbl).trans d4.out
        unfold maxLen at hml hmt
        have Hal := Lib.hid hal; clear hal
        have Hat := Lib.hid hat; clear hat
        have Hts := Lib.hid (tot_succ l k hlt)
        have Hle := Lib.hid (le_tot (List.getElem_mem hlt))
        generalize hx : l[k] = x at *
        clear hx
        by_cases hbig : x.l.length > 400 ∨ x.t.length > 400 ∨ x.s.length > 400
        · go_wp2_with fail
          all_goals go_ret
          all_goals exact ⟨false, rfl, ⟨(fun h => by cases h), fun h => by have := Hle.out; unfold Val.size at this; omega⟩, u⟩
        · have hkz : (k : Int) < (l.length : Int) := by omega
          have hT : tot (l.take k) ≤ 4000000 := by omega
          generalize hTT : tot (l.take k) = T at *
          have HTT := Lib.hid hTT; clear hTT
          have e1 : IntKind.i64.wrap ((T : Int) + (x.s.length : Int)) = (T : Int) + (x.s.length : Int) := IntWalk.i64_in _ (by omega)
          have e2 : IntKind.i64.wrap ((T : Int) + (x.s.length : Int) + (x.l.length : Int)) = (T : Int) + (x.s.length : Int) + (x.l.length : Int) := IntWalk.i64_in _ (by omega)
          have e3 : IntKind.i64.wrap ((T : Int) + (x.s.length : Int) + (x.l.length : Int) + (x.t.length : Int)) = (T : Int) + (x.s.length : Int) + (x.l.length : Int) + (x.t.length : Int) := IntWalk.i64_in _ (by omega)
          go_wp2_with fail
          go_quiet (fail)
          clear e1 e2 e3
          obtain ⟨w1, ew, u1⟩ := nw_drewN wr nq
          rw [ew]; clear ew
          replace u := u.trans u1
          clear u1 c2 c3 c4
          go_wp2_with fail
          go_loopw [3, 5] (fun n j wi => ∃ m : Nat, m ≤ x.t.length ∧ j = .int .i64 m ∧ n = .int .i64 ((T + x.s.length + x.l.length + x.t.length + tsum (x.t.take m) : Nat) : Int) ∧ tsum (x.t.take m) ≤ m * 400 ∧ Nw w wi) (fun _ j _ => x.t.length - (intOf j).toNat)
          case atStart => exact ⟨0, Nat.zero_le _, rfl, by simp [tsum], by simp [tsum], u⟩
          case round =>
            clear u
            obtain ⟨m, hmt2, rfl, rfl, hms, u⟩ := hrel
            have c4 := (u.below.cell (p := ⟨b, off + k * 5 + 4, none⟩) hbl).trans d4.out
            by_cases hm2 : m < x.t.length
            · rcases Hat.out with ⟨_, _, hnil⟩ | ⟨bt, ot, rfl, _, _, hbt, hct⟩
              · rw [List.map_eq_nil_iff] at hnil; simp [hnil] at hm2
              · have ct : wr.cell? ⟨bt, ot + m, none⟩ = some (.string ⟨x.t[m].toArray⟩) := by
                  rw [u.below.cell hbt, hct m (by simpa using hm2)]; simp [hm2]
                have hsum := Lib.hid (tsum_succ x.t m hm2)
                have hly := Lib.hid (le_tsum (List.getElem_mem hm2))
                clear hct
                generalize hy : x.t[m] = y at *
                clear hy
                generalize htm : tsum (x.t.take m) = tm at *
                have Htm := Lib.hid htm; clear htm
                by_cases hyl : y.length > 400
                · go_wp2_with fail
                  go_ret
                  exact ⟨false, rfl, ⟨(fun h => by cases h), fun h => by have := Hle.out; have := hly.out; unfold Val.size at *; omega⟩, u⟩
                · go_wp2_with fail
                  go_roundw
                  case rel =>
                    refine ⟨m + 1, by omega, by go_num, ?_, ?_, u⟩
                    · rw [hsum.out]; congr 1; omega
                    · rw [hsum.out]; omega
                  case measure => simp [intOf]; omega
            · have hmm : m = x.t.length := by omega
              have hfin : tot (l.take (k + 1)) = T + x.s.length + x.l.length + x.t.length + tsum (x.t.take m) := by
                rw [Hts.out, Val.size, hmm, List.take_length]; omega
              have Hfin := Lib.hid hfin; clear hfin hmm
              go_wp2_with fail
              go_roundw
              case rel => exact ⟨k + 1, by omega, by go_num, by rw [Hfin.out], by rw [Hfin.out]; omega, u⟩
              case measure => simp [intOf]; omega
    · have hall : l.take k = l := List.take_of_length_le (by omega)
      have Hall := Lib.hid hall; clear hall
      by_cases hok : tot (l.take k) ≤ 400
      · go_wp2_with fail
        go_ret
        exact ⟨_, rfl, ⟨(fun _ => ⟨by omega, by rw [← Hall.out]; exact hok⟩), fun _ => by simp; omega⟩, u⟩
      · go_wp2_with fail
        go_ret
        exact ⟨_, rfl, ⟨(fun h => by simp at h; omega), fun h => by rw [← Hall.out] at h; simp at h; omega⟩, u⟩
end Go.Proofs.YtiaakidglmgmpaaDoor
