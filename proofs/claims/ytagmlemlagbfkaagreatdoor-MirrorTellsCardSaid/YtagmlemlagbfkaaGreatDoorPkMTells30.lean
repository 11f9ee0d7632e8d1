/- The contracts of the reference's view: had, Clash. -/
import Derived.Test.YtagmlemlagbfkaaGreatDoorPkMTells29
namespace Go.Proofs.YtagmlemlagbfkaaGreatDoor
open Go.RowKit
set_option linter.unusedVariables false
set_option linter.unusedSimpArgs false
attribute [local irreducible] Calls

section
variable (B : Nat) (c : QView) (qb : Nat) (key : Int) (L : List Bk.Sgn) (w : World)
set_option maxHeartbeats 2000000 in
set_option maxRecDepth 100000 in
theorem had_q (g : Gl w) (h : QViewAt B w c qb key L) (s : Bk.Sgn) (hL : L.length ≤ 900000) :
    Calls Tryz.prog 148 #[.pointer (some ⟨c.cb, 0, none⟩), .agg #[.int .i64 s.key, .string ⟨s.text.toArray⟩, .int .i64 s.mark]] w fun e w' => e = .returned (.bool (decide (s ∈ L))) ∧ Nw w w' := by
  have n1 := nw_alloc w (.cells #[.int .i64 s.key, .string ⟨s.text.toArray⟩, .int .i64 s.mark] tSigned)
  have k1 := heap_new w (.cells #[.int .i64 s.key, .string ⟨s.text.toArray⟩, .int .i64 s.mark] tSigned)
  have H := Lib.hid (h.nw n1)
  have K1 := Lib.hid k1
  have N1 := Lib.hid n1
  clear h k1 n1
  go_enter Tryz.func148, Tryz.ntmps148
  go_wp2_with fail
  go_loopw [5] (fun i' wr => ∃ k : Nat, k ≤ L.length ∧ i' = .int .i64 k ∧ Hid (decide (s ∈ L.drop k) = decide (s ∈ L)) ∧ Nw (w.alloc (.cells #[.int .i64 s.key, .string ⟨s.text.toArray⟩, .int .i64 s.mark] tSigned)) wr) (fun i' _ => L.length - (intOf i').toNat)
  case atStart => exact ⟨0, Nat.zero_le _, rfl, rfl, Upd.refl _ _⟩
  case round =>
    obtain ⟨k, hk, rfl, HT, u⟩ := hrel
    have h' := H.out.nw u
    obtain ⟨a, cap, c2, hrow⟩ := h'.row
    by_cases hlt : k < L.length
    · obtain ⟨b, o, rfl, d0, d1, d2⟩ := qsgn_at hrow hlt
      obtain ⟨_, _, _⟩ := cell3 (u.keep K1.out)
      have hT := HT.out
      rw [List.drop_eq_getElem_cons hlt] at hT
      have h9 : L[k] = s → Hid (decide (s ∈ L) = true) := fun e => by show _ = _; rw [← hT, e]; simp
      have h8 : L[k] ≠ s → Hid (decide (s ∈ L.drop (k + 1)) = decide (s ∈ L)) := fun e => by
        show _ = _
        rw [← hT]
        apply Bool.eq_iff_iff.2
        simp only [decide_eq_true_eq, List.mem_cons]
        exact ⟨fun h => Or.inr h, fun h => h.elim (fun e2 => absurd e2.symm e) id⟩
      generalize L[k] = x at *
      clear h' hrow hT HT
      by_cases he : x = s
      · subst he
        have HR := h9 rfl
        clear h8 h9
        go_wp2_with fail
        go_quiet (fail)
        obtain ⟨w1, ew, u1⟩ := nw_drewN wr nq
        rw [ew]; clear ew
        go_wp2_with fail
        go_ret
        exact ⟨ret_bool HR.out.symm, (N1.out.trans u).trans u1⟩
      · have HR := h8 he
        have hf := sgn_far x s he
        clear h8 h9 he
        rcases hf with hf | ⟨hf, hf2⟩ | ⟨hf, hf2, hf3⟩
        all_goals
          go_wp2_with fail
          go_quiet (fail)
          obtain ⟨w1, ew, u1⟩ := nw_drewN wr nq
          rw [ew]; clear ew
          go_wp2_with fail
          go_roundw
          case rel => exact ⟨k + 1, by omega, by go_num, HR, u.trans u1⟩
          case measure => simp [intOf]; omega
    · obtain rfl : k = L.length := by omega
      have hT := HT.out
      rw [List.drop_length] at hT
      have HR := Lib.hid hT
      clear hT HT h' hrow
      go_wp2_with fail
      go_ret
      exact ⟨ret_bool (by rw [← HR.out]; simp), N1.out.trans u⟩
theorem qclash_results {w : World} {bp : Nat} {tmps : Array Value} {v0 v1 v2 : Value} {T : TypeId} {fz : Nat × Nat} (h : w.heap[bp]? = some (.cells #[v0, v1, v2] T fz)) (ht : tmps.getD 4 undef = .pointer (some ⟨bp, 0, none⟩)) :
    (results Tryz.f94 tmps).run Tryz.prog w = .ok (.tuple #[.agg #[v0, v1, v2], tmps.getD 5 undef]) w := by
  have c0 : w.cell? ⟨bp, 0, none⟩ = some v0 := by rw [cells_cell h]; rfl
  have c1 : w.cell? ⟨bp, 1, none⟩ = some v1 := by rw [cells_cell h]; rfl
  have c2 : w.cell? ⟨bp, 2, none⟩ = some v2 := by rw [cells_cell h]; rfl
  clear h
  have ht2 : tmps[4]?.getD undef = .pointer (some ⟨bp, 0, none⟩) := by simpa using ht
  clear ht
  simp [results, Tryz.results94, go_sem, ht2, c0, c1, c2]
set_option maxHeartbeats 4000000 in
set_option maxRecDepth 100000 in
theorem clash_q (g : Gl w) (h : QViewAt B w c qb key L) (hlog : ∀ s ∈ L, Vw.isLog s.text = true) (s : Bk.Sgn) (hs : SgnOk s) (hL : L.length ≤ 900000) :
    Calls Tryz.prog 94 #[.pointer (some ⟨c.cb, 0, none⟩), .agg #[.int .i64 s.key, .string ⟨s.text.toArray⟩, .int .i64 s.mark]] w fun e w' => e = .returned (.tuple #[sgnV (Vw.clash L s).1, .bool (Vw.clash L s).2]) ∧ Nw w w' := by
  have hgb := g.big
  have n1 := nw_alloc w (.cells #[.int .i64 s.key, .string ⟨s.text.toArray⟩, .int .i64 s.mark] tSigned)
  have k1 := heap_new w (.cells #[.int .i64 s.key, .string ⟨s.text.toArray⟩, .int .i64 s.mark] tSigned)
  have s1 : (w.alloc (.cells #[.int .i64 s.key, .string ⟨s.text.toArray⟩, .int .i64 s.mark] tSigned)).heap.size = w.heap.size + 1 := by simp
  have n2 := nw_alloc (w.alloc (.cells #[.int .i64 s.key, .string ⟨s.text.toArray⟩, .int .i64 s.mark] tSigned)) (.cells #[.int .i64 0, .string ⟨#[]⟩, .int .i64 0] tSigned)
  have k2 := heap_new (w.alloc (.cells #[.int .i64 s.key, .string ⟨s.text.toArray⟩, .int .i64 s.mark] tSigned)) (.cells #[.int .i64 0, .string ⟨#[]⟩, .int .i64 0] tSigned)
  rw [s1] at k2
  have u2 := n1.trans n2
  have hrd := cread_gen ⟨s.text.toArray⟩ s.text (Cl.read s.text).1 (Cl.read s.text).2 (if (Cl.read s.text).2 then 0 else 2) (bs_list _) rfl rfl (Nat.le_trans hs.t (by decide)) _ (g.upd u2)
  have hic := read_i64 s.text
  have hcx : Hid (Vw.clash L s = if (Cl.read s.text).2 = false then (Bk.noSgn, false) else match L.find? (fun x => Cl.contra (Vw.claimOf x) (Cl.read s.text).1) with | some x => (x, true) | none => (Bk.noSgn, false)) := by show _ = _; rfl
  obtain ⟨y, ok, hc⟩ : ∃ y ok, Cl.read s.text = (y, ok) := ⟨_, _, rfl⟩
  rw [hc] at hrd hic
  have hcx' := hcx.out
  rw [hc] at hcx'
  have Hcx := Lib.hid hcx'
  dsimp only at hrd hic
  have H := Lib.hid h
  have Hlog := Lib.hid hlog
  have K2 := Lib.hid k2
  have U2 := Lib.hid u2
  have Hic := Lib.hid hic
  have HW : Hid (w.heap.size + 1 = w.heap.size + 1) := rfl
  clear hcx hcx' hc n1 s1 n2 k1 k2 hic h hlog
  have q : ∀ (z : World) (v0 v1 v2 : Value), Nw w z → Nw w (((z.setCell ⟨w.heap.size + 1, 0, none⟩ v0).setCell ⟨w.heap.size + 1, 1, none⟩ v1).setCell ⟨w.heap.size + 1, 2, none⟩ v2) := fun z v0 v1 v2 u =>
    set3_upd (S := fun _ => False) u (by omega) (by omega) v0 v1 v2
  have Hq := Lib.hid q
  clear q u2
  cases ok with
  | false =>
    have hx : Hid (Vw.clash L s = (Bk.noSgn, false)) := by show _ = _; rw [Hcx.out]; rfl
    have Hrd := Lib.hid hrd
    clear hrd Hcx
    rw [if_neg (by simp)] at Hrd
    go_enter Tryz.func94, Tryz.ntmps94
    go_wp2_with fail
    (with_reducible refine (Hrd.out).mono ?_)
    rintro _ w3 ⟨rfl, u3⟩
    have u4 := u3.alloc (.cells #[.int .i64 y.kind, .int .i64 y.n, .int .i64 y.time, .string ⟨y.text.toArray⟩] tC)
    have K4 := Lib.hid (Nw.keep u4 K2.out)
    have U4 := Lib.hid (U2.out.trans u4)
    clear u3 u4
    go_wp2_with fail
    go_loopw [8] (fun i' wr => i' = .int .i64 0 ∧ Nw (w3.alloc (.cells #[.int .i64 y.kind, .int .i64 y.n, .int .i64 y.time, .string ⟨y.text.toArray⟩] tC)) wr) (fun i' _ => 0)
    case atStart => exact ⟨rfl, Upd.refl _ _⟩
    case round =>
      obtain ⟨rfl, u⟩ := hrel
      obtain ⟨a, cap, c2, _⟩ := (H.out.nw (U4.out.trans u)).row
      have k5 := Nw.keep u K4.out
      have f0 := cells_frozen k5 0
      have f1 := cells_frozen k5 1
      have f2 := cells_frozen k5 2
      obtain ⟨_, _, _⟩ := cell3 k5
      have K5 := Lib.hid k5
      clear k5
      by_cases hp : 0 < L.length
      all_goals go_wp2_with fail
      all_goals (try simp only [Exit.inBlock, Exit.then])
      all_goals exact bodyPost_ret (qclash_results (set3 K5.out) rfl) rfl ⟨by rw [hx.out]; rfl, Hq.out _ _ _ _ (U4.out.trans u)⟩
  | true =>
  rw [if_pos rfl] at hrd
  have Hrd := Lib.hid hrd
  clear hrd
  have hcx := Hcx.out
  rw [if_neg (by simp)] at hcx
  replace Hcx := Lib.hid hcx
  clear hcx
  go_enter Tryz.func94, Tryz.ntmps94
  go_wp2_with fail
  (with_reducible refine (Hrd.out).mono ?_)
  rintro _ w3 ⟨rfl, u3⟩
  have u4 := u3.alloc (.cells #[.int .i64 y.kind, .int .i64 y.n, .int .i64 y.time, .string ⟨y.text.toArray⟩] tC)
  have K4 := Lib.hid (Nw.keep u4 K2.out)
  have U4 := Lib.hid (U2.out.trans u4)
  have KC := Lib.hid (heap_new w3 (.cells #[.int .i64 y.kind, .int .i64 y.n, .int .i64 y.time, .string ⟨y.text.toArray⟩] tC))
  clear u3 u4
  go_wp2_with fail
  go_loopw [8] (fun i' wr => ∃ k : Nat, k ≤ L.length ∧ i' = .int .i64 k ∧ Hid ((L.drop k).find? (fun x => Cl.contra (Vw.claimOf x) y) = L.find? (fun x => Cl.contra (Vw.claimOf x) y)) ∧ Nw (w3.alloc (.cells #[.int .i64 y.kind, .int .i64 y.n, .int .i64 y.time, .string ⟨y.text.toArray⟩] tC)) wr) (fun i' _ => L.length - (intOf i').toNat)
  case atStart => exact ⟨0, Nat.zero_le _, rfl, rfl, Upd.refl _ _⟩
  case round =>
    obtain ⟨k, hk, rfl, HT, u⟩ := hrel
    have u' := U4.out.trans u
    have h' := H.out.nw u'
    obtain ⟨a, cap, c2, hrow⟩ := h'.row
    have gr := g.upd u'
    by_cases hlt : k < L.length
    · have hrd := fun i : Later wr => readk_q B c qb key L k hlt i.1 (gr.upd i.nw) (h'.nw i.nw) (Hlog.out _ (List.getElem_mem hlt)) hL
      have hT := HT.out
      rw [List.drop_eq_getElem_cons hlt, List.find?_cons] at hT
      have hil : I64C (Vw.claimOf L[k]) := (log_bounds (Hlog.out _ (List.getElem_mem hlt))).1
      have hct := fun i : Later wr => contra_q (Vw.claimOf L[k]) y hil Hic.out i.1 (gr.upd i.nw)
      obtain ⟨b, o, rfl, _, _, _⟩ := qsgn_at hrow hlt
      have hcells := fun (z : World) (v : Nw wr z) => qsgn_at (owns_upd' hrow v (fun _ _ e => e)) hlt
      have hlc := fun i : Later wr => (h'.nw i.nw).cells.2.2
      generalize Cl.contra (Vw.claimOf L[k]) y = ct at *
      generalize Vw.claimOf L[k] = x at *
      have HRd := Lib.hid hrd
      have HCt := Lib.hid hct
      have HT' := Lib.hid hT
      have HC := Lib.hid hcells
      generalize L[k] = sk at *
      have kc := Nw.keep u KC.out
      obtain ⟨_, _, _, _⟩ := later4 kc
      have Hrow := Lib.hid hrow
      have Hh := Lib.hid h'
      clear h' hrd hct HT hT hil hrow hlc kc hcells
      go_wp2_with fail
      refine wp_region_nw (by kernel_rfl) (by kernel_rfl) ?_
      repeat (go_big_quiet_step ((first | (go_at_call 146; exact later_call (HRd.out _)) | (go_at_call 145; exact later_call (HCt.out _)))))
      refine wpQuiet_nil ?_
      intro w5 u5
      replace u5 := later_out u5
      have k5 := Nw.keep u5 (Nw.keep u K4.out)
      have f0 := cells_frozen k5 0
      have f1 := cells_frozen k5 1
      have f2 := cells_frozen k5 2
      cases ct with
      | false =>
        have HR := Lib.hid HT'.out
        clear HT' k5 f0 f1 f2
        go_wp2_with fail
        go_roundw
        case rel => exact ⟨k + 1, by omega, by go_num, HR, u.trans u5⟩
        case measure => simp [intOf]; omega
      | true =>
        have hx : Hid (Vw.clash L s = (sk, true)) := by show _ = _; rw [Hcx.out, ← HT'.out]
        obtain ⟨b', o', eb, d0, d1, d2⟩ := HC.out w5 u5
        obtain ⟨rfl, rfl⟩ : b = b' ∧ o = o' := by simpa using eb
        obtain ⟨a9, cap9, c9, hr9⟩ := (Hh.out.nw u5).row
        have c2' := (later_cell ⟨w5, u5⟩ c2)
        obtain ⟨_, _, _⟩ := cell3 k5
        have K5 := Lib.hid k5
        clear k5 HT' eb c9 hr9
        go_wp2_with fail
        (try simp only [Exit.inBlock, Exit.then])
        exact bodyPost_ret (qclash_results (set3 K5.out) rfl) rfl ⟨by rw [hx.out]; rfl, Hq.out _ _ _ _ (u'.trans u5)⟩
    · obtain rfl : k = L.length := by omega
      have hT := HT.out
      rw [List.drop_length, List.find?_nil] at hT
      have hx : Hid (Vw.clash L s = (Bk.noSgn, false)) := by show _ = _; rw [Hcx.out, ← hT]
      have k5 := Nw.keep u K4.out
      have f0 := cells_frozen k5 0
      have f1 := cells_frozen k5 1
      have f2 := cells_frozen k5 2
      obtain ⟨_, _, _⟩ := cell3 k5
      have K5 := Lib.hid k5
      clear k5 HT hT h' hrow
      go_wp2_with fail
      (try simp only [Exit.inBlock, Exit.then])
      exact bodyPost_ret (qclash_results (set3 K5.out) rfl) rfl ⟨by rw [hx.out]; rfl, Hq.out _ _ _ _ u'⟩
end
end Go.Proofs.YtagmlemlagbfkaaGreatDoor
