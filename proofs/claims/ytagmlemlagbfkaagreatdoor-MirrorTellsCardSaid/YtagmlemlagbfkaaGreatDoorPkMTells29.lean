/- The reference's view (layer 8): where it lies, and the contracts of its New, read, Text, Size, Age, Absent, Known; of the reference's ring: Valid. -/
import Derived.Test.YtagmlemlagbfkaaGreatDoorPkMTells24
import Derived.Test.YtagmlemlagbfkaaGreatDoorPkMTells26
import Derived.Test.YtagmlemlagbfkaaGreatDoorPkMTells28
namespace Go.Proofs.YtagmlemlagbfkaaGreatDoor
open Go.RowKit
set_option linter.unusedVariables false
set_option linter.unusedSimpArgs false
attribute [local irreducible] Calls

theorem valid_at {L : List Bk.Seal} (hn : L.Nodup) {s : Bk.Sgn} {m : Nat} (hm : s.mark = m) : Bk.valid L s = decide (L[m]? = some ⟨s.key, s.text⟩) := by
  unfold Bk.valid
  cases hp : Bk.place L ⟨s.key, s.text⟩ with
  | none =>
    have h := Bk.place_none.1 hp
    show false = _
    symm
    rw [decide_eq_false_iff_not]
    intro e
    exact h (List.mem_of_getElem? e)
  | some i =>
    have e := Bk.place_some hp
    show decide ((i : Int) = s.mark) = _
    rw [hm]
    apply Bool.eq_iff_iff.2
    simp only [decide_eq_true_eq]
    constructor
    · intro h
      have h2 : i = m := by omega
      rw [← h2]; exact e
    · intro h
      obtain ⟨hlt, h3⟩ := List.getElem?_eq_some_iff.1 h
      have h4 := Bk.place_at hn hlt
      rw [h3, hp] at h4
      injection h4 with h4
      omega
theorem valid_neg {L : List Bk.Seal} {s : Bk.Sgn} (hm : s.mark < 0) : Bk.valid L s = false := by
  unfold Bk.valid
  cases hp : Bk.place L ⟨s.key, s.text⟩ with
  | none => rfl
  | some i =>
    show decide ((i : Int) = s.mark) = _
    rw [decide_eq_false_iff_not]
    omega
set_option maxHeartbeats 4000000 in
set_option maxRecDepth 100000 in
theorem valid_q (B : Nat) (q : QRing) (L : List Bk.Seal) (s : Bk.Sgn) (w : World) (g : Gl w) (h : QRingAt B w q L) (hn : L.Nodup) (hL : L.length ≤ 1000000) (hs : SgnOk s) :
    Calls Tryz.prog 147 #[.pointer (some ⟨q.qb, 0, none⟩), .agg #[.int .i64 s.key, .string ⟨s.text.toArray⟩, .int .i64 s.mark]] w fun e w' => e = .returned (.bool (Bk.valid L s)) ∧ Nw w w' := by
  have n1 := nw_alloc w (.cells #[.int .i64 s.key, .string ⟨s.text.toArray⟩, .int .i64 s.mark] tSigned)
  have k1 := heap_new w (.cells #[.int .i64 s.key, .string ⟨s.text.toArray⟩, .int .i64 s.mark] tSigned)
  have h1 := h.nw n1
  generalize hW : w.alloc (.cells #[.int .i64 s.key, .string ⟨s.text.toArray⟩, .int .i64 s.mark] tSigned) = W at *
  have HW := Lib.hid hW
  clear hW
  obtain ⟨l0, l1, l2⟩ := later3 k1
  have c0 := fun i : Later W => (h1.nw i.nw).c0
  obtain ⟨a, cap, hev, hm, ha⟩ := seal_cells (seal_sls h1.own)
  rw [hev] at c0
  have Ha := Lib.hid ha
  have hm63 := hs.m
  unfold I64 at hm63
  have HN := Lib.hid hn
  have hva := fun (m : Nat) (e : s.mark = m) => valid_at (s := s) hn e
  have Hva := Lib.hid hva
  clear ha hev h h1 hn hva hs k1
  obtain ⟨sk, st, sm⟩ := s
  dsimp only at *
  by_cases hneg : sm < 0
  · have hr : Hid (Bk.valid L ⟨sk, st, sm⟩ = false) := valid_neg hneg
    have hd : decide ((0 : Int) ≤ sm) = false := decide_eq_false (by omega)
    clear hneg
    go_enter Tryz.func147, Tryz.ntmps147
    go_wp2_with fail
    rw [HW.out]
    refine wp_region_nw (by kernel_rfl) (by kernel_rfl) ?_
    repeat (go_big_quiet_step ((fail)))
    refine wpQuiet_nil ?_
    intro w2 u2
    replace u2 := later_out u2
    go_wp2_with fail
    go_ret
    exact ⟨ret_bool hr.out.symm, n1.trans u2⟩
  obtain ⟨m, rfl⟩ := Int.eq_ofNat_of_zero_le (show 0 ≤ sm by omega)
  by_cases hlt : m < L.length
  rotate_left
  · have hr : Hid (Bk.valid L ⟨sk, st, m⟩ = false) := by
      show _ = _
      rw [Hva.out m rfl, decide_eq_false_iff_not, List.getElem?_eq_none (by omega)]
      exact fun e => by cases e
    have hd : decide ((0 : Int) ≤ (m : Int)) = true := decide_eq_true (by omega)
    have hd2 : decide ((m : Int) < (L.length : Int)) = false := decide_eq_false (by omega)
    have hd3 : decide (m < L.length) = false := decide_eq_false (by omega)
    clear hlt hneg
    go_enter Tryz.func147, Tryz.ntmps147
    go_wp2_with fail
    rw [HW.out]
    refine wp_region_nw (by kernel_rfl) (by kernel_rfl) ?_
    repeat (go_big_quiet_step ((fail)))
    refine wpQuiet_nil ?_
    intro w2 u2
    replace u2 := later_out u2
    go_wp2_with fail
    go_ret
    exact ⟨ret_bool hr.out.symm, n1.trans u2⟩
  rcases Ha.out with hnil | ⟨b, o, rfl, _, hb, hc⟩
  · simp [hnil] at hlt
  obtain ⟨p0, p1⟩ := hc m hlt
  have d0 := fun i : Later W => later_cell i p0
  have d1 := fun i : Later W => later_cell i p1
  have hva := Hva.out m rfl
  rw [List.getElem?_eq_getElem hlt] at hva
  generalize L[m] = x at *
  obtain ⟨xk, xt⟩ := x
  dsimp only at d0 d1
  clear hc p0 p1
  have hd : decide ((0 : Int) ≤ (m : Int)) = true := decide_eq_true (by omega)
  have hd2 : decide ((m : Int) < (L.length : Int)) = true := decide_eq_true (by omega)
  have hd3 : decide (m < L.length) = true := decide_eq_true (by omega)
  by_cases e1 : xk = sk
  · subst e1
    by_cases e2 : xt = st
    · subst e2
      have hr : Hid (Bk.valid L ⟨xk, xt, m⟩ = true) := by show _ = _; rw [hva]; simp
      clear hva Hva
      go_enter Tryz.func147, Tryz.ntmps147
      go_wp2_with fail
      rw [HW.out]
      refine wp_region_nw (by kernel_rfl) (by kernel_rfl) ?_
      repeat (go_big_quiet_step ((fail)))
      refine wpQuiet_nil ?_
      intro w2 u2
      replace u2 := later_out u2
      go_wp2_with fail
      go_ret
      exact ⟨ret_bool hr.out.symm, n1.trans u2⟩
    · have hr : Hid (Bk.valid L ⟨xk, st, m⟩ = false) := by show _ = _; rw [hva]; simp [e2]
      have eb : (xt == st) = false := beq_eq_false_iff_ne.2 e2
      clear hva Hva e2
      go_enter Tryz.func147, Tryz.ntmps147
      go_wp2_with fail
      rw [HW.out]
      refine wp_region_nw (by kernel_rfl) (by kernel_rfl) ?_
      repeat (go_big_quiet_step ((fail)))
      refine wpQuiet_nil ?_
      intro w2 u2
      replace u2 := later_out u2
      go_wp2_with fail
      go_ret
      exact ⟨ret_bool hr.out.symm, n1.trans u2⟩
  · have hr : Hid (Bk.valid L ⟨sk, st, m⟩ = false) := by show _ = _; rw [hva]; simp [e1]
    have eb : (xk == sk) = false := beq_eq_false_iff_ne.2 e1
    clear hva Hva e1
    go_enter Tryz.func147, Tryz.ntmps147
    go_wp2_with fail
    rw [HW.out]
    refine wp_region_nw (by kernel_rfl) (by kernel_rfl) ?_
    repeat (go_big_quiet_step ((fail)))
    refine wpQuiet_nil ?_
    intro w2 u2
    replace u2 := later_out u2
    go_wp2_with fail
    go_ret
    exact ⟨ret_bool hr.out.symm, n1.trans u2⟩

abbrev tQView : TypeId := 164
/-- Where a view of the reference lies: its block, the value of its slice. -/
structure QView where
  cb : Nat
  ev : Value
def QView.foot (c : QView) (k : Nat) : Prop := k = c.cb ∨ c.ev.ownBlock = some k
structure QViewAt (B : Nat) (w : World) (c : QView) (qb : Nat) (key : Int) (L : List Bk.Sgn) : Prop where
  hb : nG ≤ B
  cb : B ≤ c.cb
  blk : w.heap[c.cb]? = some (.cells #[.pointer (some ⟨qb, 0, none⟩), .int .i64 key, c.ev] tQView (0, 0))
  own : w.ownsRow B tSigned 3 c.ev L.length (flatS L)
  key : Bk.isKey key = true
section
variable {B : Nat} {w w' : World} {c : QView} {qb : Nat} {key : Int} {L : List Bk.Sgn}
theorem QViewAt.foot_lt (h : QViewAt B w c qb key L) {k : Nat} (hk : c.foot k) : B ≤ k ∧ k < w.heap.size := by
  rcases hk with rfl | hk
  · exact ⟨h.cb, lt_of_block h.blk⟩
  · obtain ⟨h1, cs, h2⟩ := own_block h.own hk
    exact ⟨h1, lt_of_block h2⟩
theorem QViewAt.upd {S : Nat → Prop} (h : QViewAt B w c qb key L) (u : Upd S w w') (hs : ∀ k, c.foot k → ¬ S k) : QViewAt B w' c qb key L :=
  ⟨h.hb, h.cb, u.keep h.blk (hs _ (Or.inl rfl)), owns_upd' h.own u (fun k hk => hs k (Or.inr hk)), h.key⟩
theorem QViewAt.nw (h : QViewAt B w c qb key L) (u : Nw w w') : QViewAt B w' c qb key L := h.upd u (fun _ _ s => s)
theorem QViewAt.base {B' : Nat} (h : QViewAt B w c qb key L) (hb : B' ≤ B) (hg : nG ≤ B') : QViewAt B' w c qb key L :=
  ⟨hg, Nat.le_trans hb h.cb, h.blk, owns_base h.own hb, h.key⟩
theorem QViewAt.cells (h : QViewAt B w c qb key L) : w.cell? ⟨c.cb, 0, none⟩ = some (.pointer (some ⟨qb, 0, none⟩)) ∧ w.cell? ⟨c.cb, 1, none⟩ = some (.int .i64 key) ∧ w.cell? ⟨c.cb, 2, none⟩ = some c.ev := by
  refine ⟨?_, ?_, ?_⟩ <;> (rw [cells_cell h.blk]; rfl)
/-- The slice, and an accepted one's cells. -/
theorem QViewAt.row (h : QViewAt B w c qb key L) : ∃ a cap, w.cell? ⟨c.cb, 2, none⟩ = some (.slice a L.length cap) ∧ w.ownsRow B tSigned 3 (.slice a L.length cap) L.length (flatS L) := by
  obtain ⟨a, cap, e⟩ := own_slice h.own
  exact ⟨a, cap, by rw [← e]; exact h.cells.2.2, by rw [← e]; exact h.own⟩
theorem qsgn_at {a : Option Addr} {n cap : Nat} {k : Nat} (h : w.ownsRow B tSigned 3 (.slice a n cap) L.length (flatS L)) (hk : k < L.length) :
    ∃ b o, a = some ⟨b, o, none⟩ ∧ w.cell? ⟨b, o + k * 3, none⟩ = some (.int .i64 L[k].key) ∧ w.cell? ⟨b, o + k * 3 + 1, none⟩ = some (.string ⟨L[k].text.toArray⟩) ∧ w.cell? ⟨b, o + k * 3 + 2, none⟩ = some (.int .i64 L[k].mark) := by
  obtain ⟨a', cap', e, _, hc⟩ := sgn_cells (sgn_sls h)
  obtain ⟨rfl, _, _⟩ : a = a' ∧ n = L.length ∧ cap = cap' := by simpa using e
  rcases hc with hnil | ⟨b, o, rfl, _, _, hc⟩
  · simp [hnil] at hk
  · exact ⟨b, o, rfl, (hc k hk).1, (hc k hk).2.1, (hc k hk).2.2⟩
end
theorem log_text {s : Bk.Sgn} (h : Vw.isLog s.text = true) : s.text.length ≤ 30000 := by
  obtain ⟨l1, l2, _⟩ := Vw.log_spec h
  have := text_len8 (Vw.claimOf s) (log_bounds h).1
  rwa [l2] at this
theorem new_qv (qb : Nat) (key : Int) (w : World) (g : Gl w) : Calls Tryz.prog 29 #[.pointer (some ⟨qb, 0, none⟩), .int .i64 key] w fun e w' =>
    (Bk.isKey key = true ∧ ∃ c, e = .returned (.pointer (some ⟨c.cb, 0, none⟩)) ∧ QViewAt w.heap.size w' c qb key [] ∧ Nw w w') ∨
    (Bk.isKey key = false ∧ e = .returned (.pointer none) ∧ Nw w w') := by
  by_cases hk : 0 ≤ key ∧ key < 200
  · have hkk : Bk.isKey key = true := by unfold Bk.isKey; simp [hk]
    obtain ⟨hk1, hk2⟩ := hk
    have Hkk := Lib.hid hkk; clear hkk
    have b3 := heap_new w (.cells #[.pointer (some ⟨qb, 0, none⟩), .int .i64 key, .slice none 0 0] tQView)
    have n3 := nw_alloc w (.cells #[.pointer (some ⟨qb, 0, none⟩), .int .i64 key, .slice none 0 0] tQView)
    have B3 := Lib.hid b3
    clear b3
    go_enter Tryz.func29, Tryz.ntmps29
    go_wp2_with fail
    go_ret
    exact Or.inl ⟨Hkk.out, ⟨w.heap.size, .slice none 0 0⟩, rfl, ⟨g.big, Nat.le_refl _, B3.out, World.ownsRow_nil _ _ _ _, Hkk.out⟩, n3⟩
  · have hkk : Bk.isKey key = false := by unfold Bk.isKey; rw [← Bool.not_eq_true]; simp; omega
    have Hkk := Lib.hid hkk; clear hkk
    have hk2 : key < 0 ∨ 200 ≤ key := by omega
    clear hk
    rcases hk2 with hk | hk
    all_goals go_enter Tryz.func29, Tryz.ntmps29
    all_goals go_wp2_with fail
    all_goals go_ret
    all_goals exact Or.inr ⟨Hkk.out, rfl, Upd.refl _ _⟩
theorem readk_results {w : World} {bp : Nat} {tmps : Array Value} {v0 v1 v2 v3 : Value} {T : TypeId} {fz : Nat × Nat} (h : w.heap[bp]? = some (.cells #[v0, v1, v2, v3] T fz)) (ht : tmps.getD 4 undef = .pointer (some ⟨bp, 0, none⟩)) :
    (results Tryz.f146 tmps).run Tryz.prog w = .ok (.agg #[v0, v1, v2, v3]) w := by
  have c0 : w.cell? ⟨bp, 0, none⟩ = some v0 := by rw [cells_cell h]; rfl
  have c1 : w.cell? ⟨bp, 1, none⟩ = some v1 := by rw [cells_cell h]; rfl
  have c2 : w.cell? ⟨bp, 2, none⟩ = some v2 := by rw [cells_cell h]; rfl
  have c3 : w.cell? ⟨bp, 3, none⟩ = some v3 := by rw [cells_cell h]; rfl
  clear h
  have ht2 : tmps[4]?.getD undef = .pointer (some ⟨bp, 0, none⟩) := by simpa using ht
  clear ht
  simp [results, Tryz.results146, go_sem, ht2, c0, c1, c2, c3]
set_option maxHeartbeats 2000000 in
set_option maxRecDepth 100000 in
theorem readk_q (B : Nat) (c : QView) (qb : Nat) (key : Int) (L : List Bk.Sgn) (k : Nat) (hk : k < L.length) (w : World) (g : Gl w) (h : QViewAt B w c qb key L) (hlog : Vw.isLog L[k].text = true) (hL : L.length ≤ 900000) :
    Calls Tryz.prog 146 #[.pointer (some ⟨c.cb, 0, none⟩), .int .i64 k] w fun e w' => e = .returned (.agg #[.int .i64 (Vw.claimOf L[k]).kind, .int .i64 (Vw.claimOf L[k]).n, .int .i64 (Vw.claimOf L[k]).time, .string ⟨(Vw.claimOf L[k]).text.toArray⟩]) ∧ Nw w w' := by
  have hgb := g.big
  have n1 := nw_alloc w (.cells #[.int .i64 0, .int .i64 0, .int .i64 0, .string ⟨#[]⟩] tC)
  have k1 := heap_new w (.cells #[.int .i64 0, .int .i64 0, .int .i64 0, .string ⟨#[]⟩] tC)
  have h1 := h.nw n1
  obtain ⟨a, cap, c2, hrow⟩ := h1.row
  obtain ⟨b, o, rfl, _, d1, _⟩ := qsgn_at hrow hk
  have hcr := cread_gen ⟨L[k].text.toArray⟩ L[k].text (Vw.claimOf L[k]) true 0 (bs_list _) (by
    obtain ⟨_, _, e, _⟩ := Vw.log_spec hlog
    unfold Vw.claimOf
    rw [← e]) rfl (by have := log_text hlog; omega) _ (g.upd n1)
  have Hcr := Lib.hid hcr
  have K1 := Lib.hid k1
  clear hcr h h1 hrow hlog k1
  generalize Vw.claimOf L[k] = y at *
  generalize L[k] = x at *
  obtain ⟨y0, y1, y2, y3⟩ := y
  dsimp only at *
  go_enter Tryz.func146, Tryz.ntmps146
  go_wp2_with fail
  (with_reducible refine (Hcr.out).mono ?_)
  rintro _ w3 ⟨rfl, u3⟩
  have u4 := u3.alloc (.cells #[.int .i64 y0, .int .i64 y1, .int .i64 y2, .string ⟨y3.toArray⟩] tC)
  have k4 := Nw.keep u4 K1.out
  have K4 := Lib.hid k4
  have f0 := cells_frozen k4 0
  have f1 := cells_frozen k4 1
  have f2 := cells_frozen k4 2
  have f3 := cells_frozen k4 3
  obtain ⟨_, _, _, _⟩ := cell4 k4
  clear k4
  go_wp2_with fail
  (try simp only [Exit.inBlock, Exit.then])
  exact bodyPost_ret (readk_results (set4 K4.out) rfl) rfl ⟨rfl, set4_nw (n1.trans u4) (Nat.le_refl _) hgb _ _ _ _⟩
end Go.Proofs.YtagmlemlagbfkaaGreatDoor
