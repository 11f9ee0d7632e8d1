/- The reference's view (layer 8): where it lies, and the contracts of its New, read, Text, Size, Age, Absent, Known; of the reference's ring: Valid. -/
import Derived.Test.YtpceoogmkbcfmaaGreatDoorQueA
import Derived.Test.YtpceoogmkbcfmaaGreatDoorView8
import Derived.Test.YtpceoogmkbcfmaaGreatDoorClaimK
namespace Go.Proofs.YtpceoogmkbcfmaaGreatDoor
open Go.RowKit
set_option linter.unusedVariables false
set_option linter.unusedSimpArgs false
attribute [local irreducible] Calls

theorem valid_at {L : List Bk.Seal} (hn : L.Nodup) {s : Bk.Sgn} {m : Nat} (hm : s.mark = m) : Bk.valid L s = decide (L[m]? = some ⟨s.key, s.text⟩) := by
  unfold Bk.valid
  cases hp : Bk.place L ⟨s.key, s.text⟩ with
  | none =>
    have h := Bk.place_none.1 hp
    show false = _
    symm
    rw [decide_eq_false_iff_not]
    intro e
    exact h (List.mem_of_getElem? e)
  | some i =>
    have e := Bk.place_some hp
    show decide ((i : Int) = s.mark) = _
    rw [hm]
    apply Bool.eq_iff_iff.2
    simp only [decide_eq_true_eq]
    constructor
    · intro h
      have h2 : i = m := by omega
      rw [← h2]; exact e
    · intro h
      obtain ⟨hlt, h3⟩ := List.getElem?_eq_some_iff.1 h
      have h4 := Bk.place_at hn hlt
      rw [h3, hp] at h4
      injection h4 with h4
      omega
theorem valid_neg {L : List Bk.Seal} {s : Bk.Sgn} (hm : s.mark < 0) : Bk.valid L s = false := by
  unfold Bk.valid
  cases hp : Bk.place L ⟨s.key, s.text⟩ with
  | none => rfl
  | some i =>
    show decide ((i : Int) = s.mark) = _
    rw [decide_eq_false_iff_not]
    omega
set_option maxHeartbeats 4000000 in
set_option maxRecDepth 100000 in
theorem valid_q (B : Nat) (q : QRing) (L : List Bk.Seal) (s : Bk.Sgn) (w : World) (g : Gl w) (h : QRingAt B w q L) (hn : L.Nodup) (hL : L.length ≤ 1000000) (hs : SgnOk s) :
    Calls Tryz.prog 65 #[.pointer (some ⟨q.qb, 0, none⟩), .agg #[.int .i64 s.key, .string ⟨s.text.toArray⟩, .int .i64 s.mark]] w fun e w' => e = .returned (.bool (Bk.valid L s)) ∧ Nw w w' := by
  have n1 := nw_alloc w (.cells #[.int .i64 s.key, .string ⟨s.text.toArray⟩, .int .i64 s.mark] tSigned)
  have k1 := heap_new w (.cells #[.int .i64 s.key, .string ⟨s.text.toArray⟩, .int .i64 s.mark] tSigned)
  have h1 := h.nw n1
  generalize hW : w.alloc (.cells #[.int .i64 s.key, .string ⟨s.text.toArray⟩, .int .i64 s.mark] tSigned) = W at *
  have HW := Lib.hid hW
  clear hW
  obtain ⟨l0, l1, l2⟩ := later3 k1
  have c0 := fun i : Later W => (h1.nw i.nw).c0
  obtain ⟨a, cap, hev, hm, ha⟩ := seal_cells (seal_sls h1.own)
  rw [hev] at c0
  have Ha := Lib.hid ha
  have hm63 := hs.m
  unfold I64 at hm63
  have HN := Lib.hid hn
  have hva := fun (m : Nat) (e : s.mark = m) => valid_at (s := s) hn e
  have Hva := Lib.hid hva
  clear ha hev h h1 hn hva hs k1
  obtain ⟨sk, st, sm⟩ := s
  dsimp only at *
  by_cases hneg : sm < 0
  · have hr : Hid (Bk.valid L ⟨sk, st, sm⟩ = false) := valid_neg hneg
    have hd : decide ((0 : Int) ≤ sm) = false := decide_eq_false (by omega)
    clear hneg
    go_enter Tryz.func65, Tryz.ntmps65
    go_wp2_with fail
    rw [HW.out]
    refine wp_region_nw (by kernel_rfl) (by kernel_rfl) ?_
    repeat (go_big_quiet_step ((fail)))
    refine wpQuiet_nil ?_
    intro w2 u2
    replace u2 := later_out u2
    go_wp2_with fail
    go_ret
    exact ⟨ret_bool hr.out.symm, n1.trans u2⟩
  obtain ⟨m, rfl⟩ := Int.eq_ofNat_of_zero_le (show 0 ≤ sm by omega)
  by_cases hlt : m < L.length
  rotate_left
  · have hr : Hid (Bk.valid L ⟨sk, st, m⟩ = false) := by
      show _ = _
      rw [Hva.out m rfl, decide_eq_false_iff_not, List.getElem?_eq_none (by omega)]
      exact fun e => by cases e
    have hd : decide ((0 : Int) ≤ (m : Int)) = true := decide_eq_true (by omega)
    have hd2 : decide ((m : Int) < (L.length : Int)) = false := decide_eq_false (by omega)
    have hd3 : decide (m < L.length) = false := decide_eq_false (by omega)
    clear hlt hneg
    go_enter Tryz.func65, Tryz.ntmps65
    go_wp2_with fail
    rw [HW.out]
    refine wp_region_nw (by kernel_rfl) (by kernel_rfl) ?_
    repeat (go_big_quiet_step ((fail)))
    refine wpQuiet_nil ?_
    intro w2 u2
    replace u2 := later_out u2
    go_wp2_with fail
    go_ret
    exact ⟨ret_bool hr.out.symm, n1.trans u2⟩
  rcases Ha.out with hnil | ⟨b, o, rfl, _, hb, hc⟩
  · simp [hnil] at hlt
  obtain ⟨p0, p1⟩ := hc m hlt
  have d0 := fun i : Later W => later_cell i p0
  have d1 := fun i : Later W => later_cell i p1
  have hva := Hva.out m rfl
  rw [List.getElem?_eq_getElem hlt] at hva
  generalize L[m] = x at *
  obtain ⟨xk, xt⟩ := x
  dsimp only at d0 d1
  clear hc p0 p1
  have hd : decide ((0 : Int) ≤ (m : Int)) = true := decide_eq_true (by omega)
  have hd2 : decide ((m : Int) < (L.length : Int)) = true := decide_eq_true (by omega)
  have hd3 : decide (m < L.length) = true := decide_eq_true (by omega)
  by_cases e1 : xk = sk
  · subst e1
    by_cases e2 : xt = st
    · subst e2
      have hr : Hid (Bk.valid L ⟨xk, xt, m⟩ = true) := by show _ = _; rw [hva]; simp
      clear hva Hva
      go_enter Tryz.func65, Tryz.ntmps65
      go_wp2_with fail
      rw [HW.out]
      refine wp_region_nw (by kernel_rfl) (by kernel_rfl) ?_
      repeat (go_big_quiet_step ((fail)))
      refine wpQuiet_nil ?_
      intro w2 u2
      replace u2 := later_out u2
      go_wp2_with fail
      go_ret
      exact ⟨ret_bool hr.out.symm, n1.trans u2⟩
    · have hr : Hid (Bk.valid L ⟨xk, st, m⟩ = false) := by show _ = _; rw [hva]; simp [e2]
      have eb : (xt == st) = false := beq_eq_false_iff_ne.2 e2
      clear hva Hva e2
      go_enter Tryz.func65, Tryz.ntmps65
      go_wp2_with fail
      rw [HW.out]
      refine wp_region_nw (by kernel_rfl) (by kernel_rfl) ?_
      repeat (go_big_quiet_step ((fail)))
      refine wpQuiet_nil ?_
      intro w2 u2
      replace u2 := later_out u2
      go_wp2_with fail
      go_ret
      exact ⟨ret_bool hr.out.symm, n1.trans u2⟩
  · have hr : Hid (Bk.valid L ⟨sk, st, m⟩ = false) := by show _ = _; rw [hva]; simp [e1]
    have eb : (xk == sk) = false := beq_eq_false_iff_ne.2 e1
    clear hva Hva e1
    go_enter Tryz.func65, Tryz.ntmps65
    go_wp2_with fail
    rw [HW.out]
    refine wp_region_nw (by kernel_rfl) (by kernel_rfl) ?_
    repeat (go_big_quiet_step ((fail)))
    refine wpQuiet_nil ?_
    intro w2 u2
    replace u2 := later_out u2
    go_wp2_with fail
    go_ret
    exact ⟨ret_bool hr.out.symm, n1.trans u2⟩

/-- Where a view of the reference lies: its block, the value of its slice. -/
structure QView where
  cb : Nat
  ev : Value
def QView.foot (c : QView) (k : Nat) : Prop := k = c.cb ∨ c.ev.ownBlock = some k
section
variable {B : Nat} {w w' : World} {c : QView} {qb : Nat} {key : Int} {L : List Bk.Sgn}
theorem qsgn_at {a : Option Addr} {n cap : Nat} {k : Nat} (h : w.ownsRow B tSigned 3 (.slice a n cap) L.length (flatS L)) (hk : k < L.length) :
    ∃ b o, a = some ⟨b, o, none⟩ ∧ w.cell? ⟨b, o + k * 3, none⟩ = some (.int .i64 L[k].key) ∧ w.cell? ⟨b, o + k * 3 + 1, none⟩ = some (.string ⟨L[k].text.toArray⟩) ∧ w.cell? ⟨b, o + k * 3 + 2, none⟩ = some (.int .i64 L[k].mark) := by
  obtain ⟨a', cap', e, _, hc⟩ := sgn_cells (sgn_sls h)
  obtain ⟨rfl, _, _⟩ : a = a' ∧ n = L.length ∧ cap = cap' := by simpa using e
  rcases hc with hnil | ⟨b, o, rfl, _, _, hc⟩
  · simp [hnil] at hk
  · exact ⟨b, o, rfl, (hc k hk).1, (hc k hk).2.1, (hc k hk).2.2⟩
end
theorem log_text {s : Bk.Sgn} (h : Vw.isLog s.text = true) : s.text.length ≤ 30000 := by
  obtain ⟨l1, l2, _⟩ := Vw.log_spec h
  have := text_len8 (Vw.claimOf s) (log_bounds h).1
  rwa [l2] at this
end Go.Proofs.YtpceoogmkbcfmaaGreatDoor
