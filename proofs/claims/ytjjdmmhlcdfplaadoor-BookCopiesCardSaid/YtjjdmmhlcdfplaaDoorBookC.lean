/- The contracts of the book's sign and Entry. -/
import Derived.Test.YtjjdmmhlcdfplaaDoorBookB
import Derived.Test.YtjjdmmhlcdfplaaDoorClaimC
namespace Go.Proofs.YtjjdmmhlcdfplaaDoor
open Go.RowKit
set_option linter.unusedVariables false
set_option linter.unusedSimpArgs false
attribute [local irreducible] Calls

theorem text_len (c : Cl.Clm) (hi : I64C c) : (Cl.text c).length ≤ 30000 := by
  cases h : Cl.right c with
  | false => rw [Cl.text, h]; simp
  | true =>
    obtain ⟨h1, h2, h3, h4, h5, h6, h7⟩ := Cl.right_bounds h
    have i1 := itoa_le hi.k
    have i2 := itoa_le hi.n
    have i3 := itoa_le hi.t
    have i4 := itoa_le (n := (c.text.length : Int)) (by unfold I64; omega)
    rw [Cl.text, if_pos h]
    unfold Cl.enc Wire.numE
    rw [if_neg (by omega), if_neg (by omega), if_neg (by omega)]
    simp only [Wire.intE, Wire.textE, List.length_append, List.length_cons, List.length_nil]
    omega
/-- What a signing leaves: the value v, the ring with L'. -/
def SgnPost (B : Nat) (r : RingR) (v : Value) (L' : List Bk.Seal) (w : World) (e : Ending) (w' : World) : Prop :=
  ∃ r', e = .returned v ∧ RingAt B w' r' L' ∧ r'.rb = r.rb ∧ Upd r.foot w w' ∧ ∀ j, r'.foot j → r.foot j ∨ w.heap.size ≤ j
theorem signb_results {w : World} {bp : Nat} {tmps : Array Value} {v0 v1 v2 : Value} {T : TypeId} {fz : Nat × Nat} (h : w.heap[bp]? = some (.cells #[v0, v1, v2] T fz)) (ht : tmps.getD 4 undef = .pointer (some ⟨bp, 0, none⟩)) :
    (results Tryd.f42 tmps).run Tryd.prog w = .ok (.tuple #[.agg #[v0, v1, v2], tmps.getD 5 undef]) w := by
  have c0 : w.cell? ⟨bp, 0, none⟩ = some v0 := by rw [cells_cell h]; rfl
  have c1 : w.cell? ⟨bp, 1, none⟩ = some v1 := by rw [cells_cell h]; rfl
  have c2 : w.cell? ⟨bp, 2, none⟩ = some v2 := by rw [cells_cell h]; rfl
  clear h
  have ht2 : tmps[4]?.getD undef = .pointer (some ⟨bp, 0, none⟩) := by simpa using ht
  clear ht
  simp [results, Tryd.results42, go_sem, ht2, c0, c1, c2]
theorem BookAt.later {B : Nat} {w : World} {r : BookR} {rb : Nat} {b : Bk.Book} (h : BookAt B w r rb b) :
    (∀ i : Later w, i.1.cell? ⟨r.bb, 0, none⟩ = some (.pointer (some ⟨rb, 0, none⟩))) ∧ (∀ i : Later w, i.1.cell? ⟨r.bb, 1, none⟩ = some (.int .i64 b.key)) := 
  ⟨fun i => (h.nw i.nw).cells.1, fun i => (h.nw i.nw).cells.2.1⟩
set_option maxHeartbeats 2000000 in
set_option maxRecDepth 100000 in
theorem sign_b (B : Nat) (r : RingR) (br : BookR) (L : List Bk.Seal) (b : Bk.Book) (c : Cl.Clm) (w : World) (g : Gl w) (hr : RingAt B w r L) (h : BookAt B w br r.rb b) (hB : B ≤ w.heap.size) (ic : I64C c) (hL : L.length ≤ 1000000) :
    Calls Tryd.prog 42 #[.pointer (some ⟨br.bb, 0, none⟩), .agg #[.int .i64 c.kind, .int .i64 c.n, .int .i64 c.time, .string ⟨c.text.toArray⟩]] w (SgnPost B r (.tuple #[sgnV (Bk.signC L b c).1, .int .i64 0]) (Bk.signC L b c).2 w) := by
  have n1 := nw_alloc w (.cells #[.int .i64 c.kind, .int .i64 c.n, .int .i64 c.time, .string ⟨c.text.toArray⟩] 59)
  have k1 := heap_new w (.cells #[.int .i64 c.kind, .int .i64 c.n, .int .i64 c.time, .string ⟨c.text.toArray⟩] 59)
  have n2 := nw_alloc (w.alloc (.cells #[.int .i64 c.kind, .int .i64 c.n, .int .i64 c.time, .string ⟨c.text.toArray⟩] 59)) (.cells #[.int .i64 0, .string ⟨#[]⟩, .int .i64 0] tSigned)
  have k2 := heap_new (w.alloc (.cells #[.int .i64 c.kind, .int .i64 c.n, .int .i64 c.time, .string ⟨c.text.toArray⟩] 59)) (.cells #[.int .i64 0, .string ⟨#[]⟩, .int .i64 0] tSigned)
  replace k1 := Nw.keep n2 k1
  have u2 := n1.trans n2
  rw [show (w.alloc (.cells #[.int .i64 c.kind, .int .i64 c.n, .int .i64 c.time, .string ⟨c.text.toArray⟩] 59)).heap.size = w.heap.size + 1 by simp] at k2
  obtain ⟨W2, hW2⟩ : ∃ W2, (w.alloc (.cells #[.int .i64 c.kind, .int .i64 c.n, .int .i64 c.time, .string ⟨c.text.toArray⟩] 59)).alloc (.cells #[.int .i64 0, .string ⟨#[]⟩, .int .i64 0] tSigned) = W2 := ⟨_, rfl⟩
  rw [hW2] at k1 k2 u2
  have HW2 := Lib.hid hW2; clear hW2
  have h2 := h.nw u2
  have g2 := g.upd u2
  obtain ⟨_, _⟩ := h2.later
  obtain ⟨_, _, _, _⟩ := later_claim k1
  have K2 := Lib.hid k2
  clear k1 k2 n1 n2
  have q := text_c c _ (bs_list _) ic
  have hl := text_len c ic
  have hkey := h.key
  have hs : Bk.signC L b c = Bk.sign L b.key (Cl.text c) := rfl
  rw [hs]
  generalize Cl.text c = T at *
  have Q := Lib.hid q; clear q hs
  go_enter Tryd.func42, Tryd.ntmps42
  go_wp2_with fail
  rw [HW2.out]
  refine wp_region_nw_tail 10 (by kernel_rfl) (by kernel_rfl) ?_
  simp only [List.take_succ_cons, List.take_zero, List.drop_succ_cons, List.drop_zero]
  repeat (go_big_quiet_step ((go_at_call 57; exact later_call (Q.out _ (g2.upd (Later.nw _))))))
  refine wpQuiet_nil ?_
  intro w3 u3
  replace u3 := later_out u3
  have hr3 := (hr.nw u2).nw u3
  have g3 := g2.upd u3
  have hs3 := (u2.trans u3).size
  go_wp2_with fail
  (with_reducible refine (sign_s B r L b.key T _ g3 hr3 (by unfold I64; omega) (by omega) hL (by omega)).mono ?_)
  rintro _ w4 ⟨r', rfl, hr4, hrb, u4, hf4⟩
  generalize Bk.sign L b.key T = sg at *
  obtain ⟨⟨sk, st, sm⟩, L'⟩ := sg
  unfold sgnV
  dsimp only at hr4
  dsimp only
  have k4 := u4.keep (u3.keep K2.out) (fun e => by have := (hr.foot_lt e).2; omega)
  have K4 := Lib.hid k4
  have f0 := cells_frozen k4 0
  have f1 := cells_frozen k4 1
  have f2 := cells_frozen k4 2
  obtain ⟨_, _, _⟩ := cell3 k4
  have hgb := g.big
  clear k4 Q
  go_wp2_with fail
  (try simp only [Exit.inBlock, Exit.then])
  have q : Upd (fun x => x = w.heap.size + 1) w4 (((w4.setCell ⟨w.heap.size + 1, 0, none⟩ (.int .i64 sk)).setCell ⟨w.heap.size + 1, 1, none⟩ (.string ⟨st.toArray⟩)).setCell ⟨w.heap.size + 1, 2, none⟩ (.int .i64 sm)) :=
    Upd.set1 (Upd.set1 (Upd.set1 (Upd.refl _ _) (by omega) 0 _) (by omega) 1 _) (by omega) 2 _
  have hk4 := lt_of_block (u3.keep K2.out)
  refine bodyPost_ret (signb_results (set3 K4.out) rfl) rfl ⟨r', rfl, hr4.upd q (fun j hj e => ?_), hrb, (Nw.trans (u2.trans u3) u4).trans' q (fun j hj e => by omega), fun j hj => (hf4 j hj).imp id (fun e => by omega)⟩
  rcases hf4 j hj with e2 | e2
  · have := (hr.foot_lt e2).2; omega
  · omega
theorem entryb_results {w : World} {bp : Nat} {tmps : Array Value} {v0 v1 v2 : Value} {T : TypeId} {fz : Nat × Nat} (h : w.heap[bp]? = some (.cells #[v0, v1, v2] T fz)) (ht : tmps.getD 4 undef = .pointer (some ⟨bp, 0, none⟩)) :
    (results Tryd.f25 tmps).run Tryd.prog w = .ok (.tuple #[.agg #[v0, v1, v2], tmps.getD 5 undef]) w := by
  have c0 : w.cell? ⟨bp, 0, none⟩ = some v0 := by rw [cells_cell h]; rfl
  have c1 : w.cell? ⟨bp, 1, none⟩ = some v1 := by rw [cells_cell h]; rfl
  have c2 : w.cell? ⟨bp, 2, none⟩ = some v2 := by rw [cells_cell h]; rfl
  clear h
  have ht2 : tmps[4]?.getD undef = .pointer (some ⟨bp, 0, none⟩) := by simpa using ht
  clear ht
  simp [results, Tryd.results25, go_sem, ht2, c0, c1, c2]
/-- What is left to do behind the signing: the result's three cells. -/
theorem sgn_end {B : Nat} {r r' : RingR} {L' : List Bk.Seal} {w w2 w4 : World} (hgb : nG ≤ w.heap.size) (hrb : r'.rb = r.rb) (hr4 : RingAt B w4 r' L') (hlt : ∀ j, r.foot j → j < w.heap.size) (u2 : Nw w w2) (u4 : Upd r.foot w2 w4) (hf4 : ∀ j, r'.foot j → r.foot j ∨ w2.heap.size ≤ j) (hw2 : w.heap.size < w2.heap.size) (v0 v1 v2 v : Value) :
    SgnPost B r v L' w (.returned v) (((w4.setCell ⟨w.heap.size, 0, none⟩ v0).setCell ⟨w.heap.size, 1, none⟩ v1).setCell ⟨w.heap.size, 2, none⟩ v2) := by
  have q : Upd (fun x => x = w.heap.size) w4 (((w4.setCell ⟨w.heap.size, 0, none⟩ v0).setCell ⟨w.heap.size, 1, none⟩ v1).setCell ⟨w.heap.size, 2, none⟩ v2) :=
    Upd.set1 (Upd.set1 (Upd.set1 (Upd.refl _ _) hgb 0 _) hgb 1 _) hgb 2 _
  refine ⟨r', rfl, hr4.upd q (fun j hj e => ?_), hrb, (Nw.trans u2 u4).trans' q (fun j hj e => by omega), fun j hj => (hf4 j hj).imp id (fun e => by omega)⟩
  rcases hf4 j hj with e2 | e2
  · have := hlt j e2; omega
  · omega
set_option maxHeartbeats 2000000 in
set_option maxRecDepth 100000 in
theorem entry_b (B : Nat) (r : RingR) (br : BookR) (L : List Bk.Seal) (b : Bk.Book) (i : Int) (w : World) (g : Gl w) (hr : RingAt B w r L) (h : BookAt B w br r.rb b) (hB : B ≤ w.heap.size) (hi : I64 i) (hL : L.length ≤ 1000000) :
    Calls Tryd.prog 25 #[.pointer (some ⟨br.bb, 0, none⟩), .int .i64 i] w (SgnPost B r (.tuple #[sgnV (Bk.entry L b i).1.1, .int .i64 (Bk.entry L b i).1.2]) (Bk.entry L b i).2 w) := by
  have n1 := nw_alloc w (.cells #[.int .i64 0, .string ⟨#[]⟩, .int .i64 0] tSigned)
  have k1 := heap_new w (.cells #[.int .i64 0, .string ⟨#[]⟩, .int .i64 0] tSigned)
  have h1 := h.nw n1
  have hgb := g.big
  have K1 := Lib.hid k1; clear k1
  by_cases hc : i < 0 ∨ (b.es.length : Int) ≤ i
  · have hx : Hid (Bk.entry L b i = ((Bk.noSgn, 4), L)) := by show _ = _; unfold Bk.entry; rw [if_pos hc]
    have ht : Hid (Bk.textAt b i = ([], false)) := by show _ = _; unfold Bk.textAt; rw [if_pos hc]
    clear hc
    go_enter Tryd.func25, Tryd.ntmps25
    go_wp2_with fail
    (with_reducible refine (text_b B br r.rb b i _ h1).mono ?_)
    rintro _ w2 ⟨rfl, u2⟩
    rw [ht.out]
    have k2 := u2.keep K1.out
    have f0 := cells_frozen k2 0
    have f1 := cells_frozen k2 1
    have f2 := cells_frozen k2 2
    obtain ⟨_, _, _⟩ := cell3 k2
    have K2 := Lib.hid k2; clear k2
    replace u2 := n1.trans u2
    go_wp2_with fail
    (try simp only [Exit.inBlock, Exit.then])
    rw [hx.out]
    exact bodyPost_ret (entryb_results (set3 K2.out) rfl) rfl (sgn_end hgb rfl (hr.nw u2) (fun j hj => (hr.foot_lt hj).2) u2 (Upd.refl _ _) (fun j hj => Or.inl hj) (lt_of_block K2.out) _ _ _ _)
  · have ⟨hc1, hc2⟩ : 0 ≤ i ∧ i < (b.es.length : Int) := by omega
    obtain ⟨n, rfl⟩ := Int.eq_ofNat_of_zero_le hc1
    have hn : n < b.es.length := by omega
    have hx : Bk.entry L b n = (((Bk.signC L b ⟨0, n, 0, b.es[n]⟩).1, 0), (Bk.signC L b ⟨0, n, 0, b.es[n]⟩).2) := by
      unfold Bk.entry
      rw [if_neg hc, Int.toNat_natCast, List.getD_eq_getElem?_getD, List.getElem?_eq_getElem hn]; rfl
    have ht : Hid (Bk.textAt b n = (b.es[n], true)) := by
      show _ = _
      unfold Bk.textAt
      rw [if_neg hc, Int.toNat_natCast, List.getD_eq_getElem?_getD, List.getElem?_eq_getElem hn]; rfl
    have hk := (h.keys _ (List.getElem_mem hn)).2
    rw [hx]
    dsimp only
    generalize b.es[n] = x at *
    clear hc hx hc2 hn
    have ic : I64C ⟨0, n, 0, x⟩ := ⟨by show I64 0; unfold I64; omega, hi, by show I64 0; unfold I64; omega, by show x.length ≤ _; omega⟩
    go_enter Tryd.func25, Tryd.ntmps25
    go_wp2_with fail
    (with_reducible refine (text_b B br r.rb b n _ h1).mono ?_)
    rintro _ w2 ⟨rfl, u2⟩
    rw [ht.out]
    have k2 := u2.keep K1.out
    replace u2 := n1.trans u2
    go_wp2_with fail
    (with_reducible refine (sign_b B r br L b ⟨0, n, 0, x⟩ _ (g.upd u2) (hr.nw u2) (h.nw u2) (Nat.le_trans hB u2.size) ic hL).mono ?_)
    rintro _ w4 ⟨r', rfl, hr4, hrb, u4, hf4⟩
    generalize Bk.signC L b ⟨0, n, 0, x⟩ = sg at *
    obtain ⟨⟨sk, st, sm⟩, L'⟩ := sg
    unfold sgnV
    dsimp only at hr4
    dsimp only
    have k4 := u4.keep k2 (fun e => by have := (hr.foot_lt e).2; omega)
    have K4 := Lib.hid k4
    have f0 := cells_frozen k4 0
    have f1 := cells_frozen k4 1
    have f2 := cells_frozen k4 2
    obtain ⟨_, _, _⟩ := cell3 k4
    clear k4
    go_wp2_with fail
    (try simp only [Exit.inBlock, Exit.then])
    exact bodyPost_ret (entryb_results (set3 K4.out) rfl) rfl (sgn_end hgb hrb hr4 (fun j hj => (hr.foot_lt hj).2) u2 u4 hf4 (lt_of_block k2) _ _ _ _)
end Go.Proofs.YtjjdmmhlcdfplaaDoor
