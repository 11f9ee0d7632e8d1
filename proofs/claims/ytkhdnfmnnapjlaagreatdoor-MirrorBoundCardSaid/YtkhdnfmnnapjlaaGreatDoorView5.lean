/- The contracts of the view's Clash, and of what the statements' helpers do: Words, Turned, Few, signed. -/
import Derived.Test.YtkhdnfmnnapjlaaGreatDoorView4
import Derived.Test.YtkhdnfmnnapjlaaGreatDoorClaimRf
namespace Go.Proofs.YtkhdnfmnnapjlaaGreatDoor
open Go.RowKit
set_option linter.unusedVariables false
set_option linter.unusedSimpArgs false
attribute [local irreducible] Calls

theorem clash_results {w : World} {bp : Nat} {tmps : Array Value} {v0 v1 v2 : Value} {T : TypeId} {fz : Nat × Nat} (h : w.heap[bp]? = some (.cells #[v0, v1, v2] T fz)) (ht : tmps.getD 4 undef = .pointer (some ⟨bp, 0, none⟩)) :
    (results Tryz.f53 tmps).run Tryz.prog w = .ok (.tuple #[.agg #[v0, v1, v2], tmps.getD 5 undef]) w := by
  have c0 : w.cell? ⟨bp, 0, none⟩ = some v0 := by rw [cells_cell h]; rfl
  have c1 : w.cell? ⟨bp, 1, none⟩ = some v1 := by rw [cells_cell h]; rfl
  have c2 : w.cell? ⟨bp, 2, none⟩ = some v2 := by rw [cells_cell h]; rfl
  clear h
  have ht2 : tmps[4]?.getD undef = .pointer (some ⟨bp, 0, none⟩) := by simpa using ht
  clear ht
  simp [results, Tryz.results53, go_sem, ht2, c0, c1, c2]
theorem idx_find {α β : Type} (p : β → Bool) (f : α → β) (L : List α) : (idxI p (L.map f) = -1 ∧ L.find? (fun x => p (f x)) = none) ∨ ∃ n : Nat, ∃ h : n < L.length, idxI p (L.map f) = n ∧ L.find? (fun x => p (f x)) = some L[n] := by
  unfold idxI
  cases h : (L.map f).findIdx? p with
  | none =>
    refine Or.inl ⟨rfl, ?_⟩
    rw [List.find?_eq_none]
    intro x hx
    have := List.findIdx?_eq_none_iff.1 h (f x) (List.mem_map.2 ⟨x, hx, rfl⟩)
    simpa using this
  | some n =>
    obtain ⟨hn, hp, hno⟩ := List.findIdx?_eq_some_iff_getElem.1 h
    have hn' : n < L.length := by simpa using hn
    refine Or.inr ⟨n, hn', rfl, ?_⟩
    rw [List.find?_eq_some_iff_getElem]
    refine ⟨by simpa using hp, n, hn', rfl, fun j hj => ?_⟩
    have := hno j hj
    simpa using this
set_option maxHeartbeats 2000000 in
set_option maxRecDepth 100000 in
theorem clash_v (B : Nat) (r : ViewR) (rb : Nat) (key : Int) (L : List Bk.Sgn) (s : Bk.Sgn) (w : World) (g : Gl w) (h : ViewAt B w r rb key L) (hlog : ∀ s ∈ L, Vw.isLog s.text = true) (hs : SgnOk s) (hL : L.length ≤ 900000) :
    Calls Tryz.prog 53 #[.pointer (some ⟨r.vb, 0, none⟩), .agg #[.int .i64 s.key, .string ⟨s.text.toArray⟩, .int .i64 s.mark]] w fun e w' => e = .returned (.tuple #[sgnV (Vw.clash L s).1, .bool (Vw.clash L s).2]) ∧ Nw w w' := by
  have hgb := g.big
  have HL : Hid (L.length ≤ 900000) := hL
  clear hL
  have n1 := nw_alloc w (.cells #[.int .i64 s.key, .string ⟨s.text.toArray⟩, .int .i64 s.mark] tSigned)
  have k1 := heap_new w (.cells #[.int .i64 s.key, .string ⟨s.text.toArray⟩, .int .i64 s.mark] tSigned)
  have s1 : (w.alloc (.cells #[.int .i64 s.key, .string ⟨s.text.toArray⟩, .int .i64 s.mark] tSigned)).heap.size = w.heap.size + 1 := by simp
  have n2 := nw_alloc (w.alloc (.cells #[.int .i64 s.key, .string ⟨s.text.toArray⟩, .int .i64 s.mark] tSigned)) (.cells #[.int .i64 0, .string ⟨#[]⟩, .int .i64 0] tSigned)
  have k2 := heap_new (w.alloc (.cells #[.int .i64 s.key, .string ⟨s.text.toArray⟩, .int .i64 s.mark] tSigned)) (.cells #[.int .i64 0, .string ⟨#[]⟩, .int .i64 0] tSigned)
  replace k1 := n2.keep k1
  rw [s1] at k2
  have u2 := n1.trans n2
  generalize hW : (w.alloc (.cells #[.int .i64 s.key, .string ⟨s.text.toArray⟩, .int .i64 s.mark] tSigned)).alloc (.cells #[.int .i64 0, .string ⟨#[]⟩, .int .i64 0] tSigned) = W at *
  have HW := Lib.hid hW
  obtain ⟨c0, c1, c2⟩ := cell3 k1
  have K2 := Lib.hid k2
  have hrd := read_c ⟨s.text.toArray⟩ s.text (bs_list _) (Nat.le_trans hs.t (by decide)) W (g.upd u2)
  have hic := read_i64 s.text
  have Hcl := Lib.hid (show Vw.clash L s = _ from rfl)
  unfold Vw.clash at Hcl
  have hcx : Hid (Vw.clash L s = if (Cl.read s.text).2 = false then (Bk.noSgn, false) else match L.find? (fun x => Cl.contra (Vw.claimOf x) (Cl.read s.text).1) with | some x => (x, true) | none => (Bk.noSgn, false)) := by show _ = _; rfl
  obtain ⟨c, ok, hc⟩ : ∃ c ok, Cl.read s.text = (c, ok) := ⟨_, _, rfl⟩
  rw [hc] at hrd hic
  have hcx' := hcx.out
  rw [hc] at hcx'
  have Hcx := Lib.hid hcx'
  unfold clmV errV at hrd
  dsimp only at hrd hic
  have Hrd := Lib.hid hrd
  clear hcx hcx' hc hrd n1 s1 n2 k1 k2 hW Hcl
  have q : ∀ (z : World) (v0 v1 v2 : Value), Nw W z → Nw w (((z.setCell ⟨w.heap.size + 1, 0, none⟩ v0).setCell ⟨w.heap.size + 1, 1, none⟩ v1).setCell ⟨w.heap.size + 1, 2, none⟩ v2) := fun z v0 v1 v2 u =>
    set3_upd (S := fun _ => False) (u2.trans u) (by omega) (by omega) v0 v1 v2
  have Hq := Lib.hid q
  clear q
  go_enter Tryz.func53, Tryz.ntmps53
  go_wp2_with fail
  rw [HW.out]
  go_wp2_with fail
  (with_reducible refine (Hrd.out).mono ?_)
  rintro _ w3 ⟨rfl, u3⟩
  cases ok with
  | false =>
    have hx : Hid (Vw.clash L s = (Bk.noSgn, false)) := by show _ = _; rw [Hcx.out]; rfl
    have k3 := Nw.keep (u3.alloc (.cells #[.int .i64 c.kind, .int .i64 c.n, .int .i64 c.time, .string ⟨c.text.toArray⟩] tC)) K2.out
    have f0 := cells_frozen k3 0
    have f1 := cells_frozen k3 1
    have f2 := cells_frozen k3 2
    obtain ⟨_, _, _⟩ := cell3 k3
    have K3 := Lib.hid k3
    clear k3
    go_wp2_with fail
    (try simp only [Exit.inBlock, Exit.then])
    exact bodyPost_ret (clash_results (set3 K3.out) rfl) rfl ⟨by rw [hx.out]; rfl, Hq.out _ _ _ _ (u3.alloc _)⟩
  | true =>
  have u4 := u3.alloc (.cells #[.int .i64 c.kind, .int .i64 c.n, .int .i64 c.time, .string ⟨c.text.toArray⟩] tC)
  have kb := heap_new w3 (.cells #[.int .i64 c.kind, .int .i64 c.n, .int .i64 c.time, .string ⟨c.text.toArray⟩] tC)
  have x3 := (h.nw (u2.trans u4)).cells.2.2.2.1
  have X3 := x3
  generalize hW4 : w3.alloc (.cells #[.int .i64 c.kind, .int .i64 c.n, .int .i64 c.time, .string ⟨c.text.toArray⟩] tC) = W4 at *
  have HW4 := Lib.hid hW4
  rw [← hW4] at X3
  have k4 := Nw.keep u4 K2.out
  have u4' := u2.trans u4
  have h4 := h.nw u4'
  obtain ⟨_, _, _, _, _, _, _, _⟩ := h4.cells
  have hif := indexFunc_v 87 w3.heap.size (enters_of Tryz.func87 (by kernel_rfl) rfl) (fun x => Cl.contra x c) B W4.heap.size r.cv (L.map Vw.claimOf) W4 (clm_sls h4.cown) (by rw [List.length_map]; have := HL.out; omega)
    (fun W' x u' hx => pred_l x c (by obtain ⟨y, hy, rfl⟩ := List.mem_map.1 hx; exact (log_bounds (hlog y hy)).1) hic w3.heap.size W' ((g.upd u4').upd u') (u'.keep kb))
  have hfd := idx_find (fun x => Cl.contra x c) Vw.claimOf L
  have Hfd := Lib.hid hfd
  clear hfd hW4
  generalize idxI (fun x => Cl.contra x c) (L.map Vw.claimOf) = m at *
  have Hif := Lib.hid hif
  clear hif hlog
  have K4 := Lib.hid k4
  clear k4
  go_wp2_with fail
  rw [HW4.out]
  (with_reducible refine (Hif.out).mono ?_)
  rintro _ w5 ⟨rfl, u5⟩
  rcases Hfd.out with ⟨hm, hf⟩ | ⟨n, hn, hm, hf⟩
  · have hx : Hid (Vw.clash L s = (Bk.noSgn, false)) := by show _ = _; rw [Hcx.out, if_neg (by simp), hf]
    subst hm
    have k5 := u5.keep K4.out
    have f0 := cells_frozen k5 0
    have f1 := cells_frozen k5 1
    have f2 := cells_frozen k5 2
    obtain ⟨_, _, _⟩ := cell3 k5
    have K5 := Lib.hid k5
    clear k5
    go_wp2_with fail
    (try simp only [Exit.inBlock, Exit.then])
    exact bodyPost_ret (clash_results (set3 K5.out) rfl) rfl ⟨by rw [hx.out]; rfl, Hq.out _ _ _ _ (u4.trans u5)⟩
  · have hx : Hid (Vw.clash L s = (L[n], true)) := by show _ = _; rw [Hcx.out, if_neg (by simp), hf]
    subst hm
    have h5 := h4.nw u5
    obtain ⟨a, cap, hsv, hmm, ha⟩ := sgn_cells (sgn_sls h5.sown)
    rcases ha with hnil | ⟨b, o, rfl, _, hb, hcc⟩
    · simp [hnil] at hn
    obtain ⟨d0, d1, d2⟩ := hcc n hn
    obtain ⟨_, _, c2', _⟩ := h5.cells
    rw [hsv] at c2'
    have k5 := u5.keep K4.out
    have f0 := cells_frozen k5 0
    have f1 := cells_frozen k5 1
    have f2 := cells_frozen k5 2
    obtain ⟨_, _, _⟩ := cell3 k5
    have K5 := Lib.hid k5
    clear k5 hcc h5 h4 hsv
    generalize L[n] = x at *
    have hn63 := HL.out
    go_wp2_with fail
    (try simp only [Exit.inBlock, Exit.then])
    exact bodyPost_ret (clash_results (set3 K5.out) rfl) rfl ⟨by rw [hx.out]; rfl, Hq.out _ _ _ _ (u4.trans u5)⟩
end Go.Proofs.YtkhdnfmnnapjlaaGreatDoor
