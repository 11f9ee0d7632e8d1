/- The contracts of the view's New, Key, Text, Size, Age, Absent, Known, and of about. -/
import Derived.Test.YtkhdnfmnnapjlaaGreatDoorView0
namespace Go.Proofs.YtkhdnfmnnapjlaaGreatDoor
open Go.RowKit
open Go.Maps (Keyed)
set_option linter.unusedVariables false
set_option linter.unusedSimpArgs false
attribute [local irreducible] Calls

theorem ViewAt.elook2 {B : Nat} {w : World} {r : ViewR} {rb : Nat} {key : Int} {L : List Bk.Sgn} (h : ViewAt B w r rb key L) {Lr : List Bk.Seal} (hv : Vw.VOk Lr key L) {i : Int} (hi : I64 i) :
    (Instr.lookup 105 (.map (some r.eb)) (.int .i64 i) true).run Tryz.prog w = .ok (.tuple #[.string ⟨(Vw.textAt L i).1.toArray⟩, .bool (Vw.textAt L i).2]) w := h.elook hv hi true
theorem ViewAt.alook2 {B : Nat} {w : World} {r : ViewR} {rb : Nat} {key : Int} {L : List Bk.Sgn} (h : ViewAt B w r rb key L) (hv : ∀ s ∈ L, Vw.isLog s.text = true) {k : List UInt8} (hk : k.length ≤ 140737488351232) :
    (Instr.lookup 106 (.map (some r.ab)) (.string ⟨k.toArray⟩) true).run Tryz.prog w = .ok (.tuple #[.int .i64 (Vw.absentOf L k).1, .bool (Vw.absentOf L k).2]) w := h.alook hv hk true
theorem ViewAt.alook1 {B : Nat} {w : World} {r : ViewR} {rb : Nat} {key : Int} {L : List Bk.Sgn} (h : ViewAt B w r rb key L) (hv : ∀ s ∈ L, Vw.isLog s.text = true) {k : List UInt8} (hk : k.length ≤ 140737488351232) :
    (Instr.lookup 106 (.map (some r.ab)) (.string ⟨k.toArray⟩) false).run Tryz.prog w = .ok (.int .i64 (Vw.absentOf L k).1) w := h.alook hv hk false
theorem new_v (rb : Nat) (key : Int) (w : World) (g : Gl w) : Calls Tryz.prog 12 #[.pointer (some ⟨rb, 0, none⟩), .int .i64 key] w fun e w' =>
    (Bk.isKey key = true ∧ ∃ r, e = .returned (.pointer (some ⟨r.vb, 0, none⟩)) ∧ ViewAt w.heap.size w' r rb key [] ∧ Nw w w') ∨
    (Bk.isKey key = false ∧ e = .returned (.pointer none) ∧ Nw w w') := by
  by_cases hk : 0 ≤ key ∧ key < 200
  · have hkk : Bk.isKey key = true := by unfold Bk.isKey; simp [hk]
    obtain ⟨hk1, hk2⟩ := hk
    have Hkk := Lib.hid hkk; clear hkk
    have hmm := @run_makeMap Tryz.prog
    have s1 : (w.alloc (.map #[] 0)).heap.size = w.heap.size + 1 := by simp
    have m1 := MapL.made Tryz.prog tInt w
    have m2 := MapL.made Tryz.prog tStr8 (w.alloc (.map #[] 0))
    have u2 := (nw_alloc w (.map #[] 0)).trans (nw_alloc (w.alloc (.map #[] 0)) (.map #[] 0))
    replace m1 := m1.nw (nw_alloc (w.alloc (.map #[] 0)) (.map #[] 0))
    rw [s1] at m2
    generalize hW : (w.alloc (.map #[] 0)).alloc (.map #[] 0) = W at m1 m2 u2
    have sW : W.heap.size = w.heap.size + 1 + 1 := by rw [← hW]; simp
    have b3 := heap_new W (.cells #[.pointer (some ⟨rb, 0, none⟩), .int .i64 key, .slice none 0 0, .slice none 0 0, .map (some w.heap.size), .map (some (w.heap.size + 1)), .int .i64 0, .int .i64 (-1)] tView)
    have n3 := nw_alloc W (.cells #[.pointer (some ⟨rb, 0, none⟩), .int .i64 key, .slice none 0 0, .slice none 0 0, .map (some w.heap.size), .map (some (w.heap.size + 1)), .int .i64 0, .int .i64 (-1)] tView)
    have M1 := Lib.hid (m1.nw n3)
    have M2 := Lib.hid (m2.nw n3)
    have u3 := u2.trans n3
    rw [sW] at b3
    have B3 := Lib.hid b3
    have HW := Lib.hid hW
    clear m1 m2 b3 hW n3 u2
    go_enter Tryz.func12, Tryz.ntmps12
    go_wp2_with fail
    go_ret
    rw [HW.out]
    exact Or.inl ⟨Hkk.out, ⟨w.heap.size + 1 + 1, w.heap.size, w.heap.size + 1, .slice none 0 0, .slice none 0 0⟩, rfl, ⟨g.big, by show _ ≤ w.heap.size + 1 + 1; omega, Nat.le_refl _, by show _ ≤ w.heap.size + 1; omega, by show w.heap.size ≠ w.heap.size + 1; omega, B3.out, World.ownsRow_nil _ _ _ _, World.ownsRow_nil _ _ _ _, M1.out, M2.out, Hkk.out⟩, u3⟩
  · have hkk : Bk.isKey key = false := by unfold Bk.isKey; rw [← Bool.not_eq_true]; simp; omega
    have Hkk := Lib.hid hkk; clear hkk
    have hk2 : key < 0 ∨ 200 ≤ key := by omega
    clear hk
    rcases hk2 with hk | hk
    all_goals go_enter Tryz.func12, Tryz.ntmps12
    all_goals go_wp2_with fail
    all_goals go_ret
    all_goals exact Or.inr ⟨Hkk.out, rfl, Upd.refl _ _⟩
theorem new_v0 (key : Int) (w : World) : Calls Tryz.prog 12 #[.pointer none, .int .i64 key] w fun e w' => e = .returned (.pointer none) ∧ Nw w w' := by
  go_enter Tryz.func12, Tryz.ntmps12
  go_wp2_with fail
  go_ret
  exact ⟨rfl, Upd.refl _ _⟩
section
variable (B : Nat) (r : ViewR) (rb : Nat) (key : Int) (L : List Bk.Sgn) (w : World)
theorem size_v (h : ViewAt B w r rb key L) : Calls Tryz.prog 16 #[.pointer (some ⟨r.vb, 0, none⟩)] w fun e w' => e = .returned (.tuple #[.int .i64 (Vw.sizeOf L).1, .int .i64 (Vw.sizeOf L).2]) ∧ Nw w w' := by
  obtain ⟨_, _, _, _, _, _, _, _⟩ := h.cells
  clear h
  go_enter Tryz.func16, Tryz.ntmps16
  go_wp2_with fail
  go_quiet (fail)
  obtain ⟨w1, ew, u1⟩ := nw_drewN w nq
  rw [ew]; clear ew
  go_wp2_with fail
  go_ret2
  exact ⟨rfl, u1⟩
theorem age_v (now : Int) (hn : I64 now) (h : ViewAt B w r rb key L) (ht : (Vw.sizeOf L).2 ≤ 1073741824) : Calls Tryz.prog 17 #[.pointer (some ⟨r.vb, 0, none⟩), .int .i64 now] w fun e w' => e = .returned (.int .i64 (Vw.age L now)) ∧ Nw w w' := by
  obtain ⟨_, _, _, _, _, _, _, _⟩ := h.cells
  clear h
  have ha : Vw.age L now = if (Vw.sizeOf L).2 < 0 ∨ now < (Vw.sizeOf L).2 then -1 else now - (Vw.sizeOf L).2 := rfl
  rw [ha]; clear ha
  generalize (Vw.sizeOf L).2 = t at *
  unfold I64 at hn
  by_cases h1 : t < 0
  · rw [if_pos (Or.inl h1)]
    go_enter Tryz.func17, Tryz.ntmps17
    go_wp2_with fail
    go_ret
    exact ⟨rfl, Upd.refl _ _⟩
  by_cases h2 : now < t
  · rw [if_pos (Or.inr h2)]
    go_enter Tryz.func17, Tryz.ntmps17
    go_wp2_with fail
    go_ret
    exact ⟨rfl, Upd.refl _ _⟩
  · rw [if_neg (fun e => e.elim h1 h2)]
    have hw : wrap64 (now - t) = now - t := by unfold wrap64; omega
    go_enter Tryz.func17, Tryz.ntmps17
    go_wp2_with fail
    go_ret
    exact ⟨rfl, Upd.refl _ _⟩
theorem text_v {Lr : List Bk.Seal} (hv : Vw.VOk Lr key L) (i : Int) (hi : I64 i) (h : ViewAt B w r rb key L) : Calls Tryz.prog 19 #[.pointer (some ⟨r.vb, 0, none⟩), .int .i64 i] w fun e w' => e = .returned (.tuple #[.string ⟨(Vw.textAt L i).1.toArray⟩, .bool (Vw.textAt L i).2]) ∧ Nw w w' := by
  obtain ⟨_, _, _, _, _, _, _, _⟩ := h.cells
  have Hr := Lib.hid (h.elook2 hv hi)
  clear h
  go_enter Tryz.func19, Tryz.ntmps19
  go_wp2_with (at_lookup; refine wpList_lookL rfl _ _ 105 true rfl _ _ _ rfl rfl Hr.out ?_)
  go_ret2
  exact ⟨rfl, Upd.refl _ _⟩
theorem absent_v {Lr : List Bk.Seal} (hv : Vw.VOk Lr key L) (k : List UInt8) (hk : k.length ≤ 140737488351232) (h : ViewAt B w r rb key L) : Calls Tryz.prog 21 #[.pointer (some ⟨r.vb, 0, none⟩), .string ⟨k.toArray⟩] w fun e w' => e = .returned (.tuple #[.int .i64 (Vw.absentOf L k).1, .bool (Vw.absentOf L k).2]) ∧ Nw w w' := by
  obtain ⟨_, _, _, _, _, _, _, _⟩ := h.cells
  have Hr := Lib.hid (h.alook2 (fun s hs => (hv.each s hs).2.2) hk)
  clear h
  go_enter Tryz.func21, Tryz.ntmps21
  go_wp2_with (at_lookup; refine wpList_lookL rfl _ _ 106 true rfl _ _ _ rfl rfl Hr.out ?_)
  go_ret2
  exact ⟨rfl, Upd.refl _ _⟩
/-- 'len(m)'. -/
theorem MapL.len {P : Program} {k : TypeId} {b : Nat} {l : List (Value × Value)} (h : MapL P k w b l) : ∃ es clock, w.heap[b]? = some (.map es clock) ∧ es.size = l.length := by
  obtain ⟨es, clock, hb, hp, _⟩ := h
  exact ⟨es, clock, hb, by rw [← hp.length_eq, List.length_map, Array.length_toList]⟩
theorem wpList_lenL {P : Program} {ops : Array Oper} {rest : List Oper} {o : Oper} {a : Act} {Q : Exit → Act → World → Prop} (hg : o.guard = none) (m : Operand) (t k e : TypeId) (hop : o.op = Op.call { callee := Callee.builtin Builtin.len, args := #[m], argTypes := #[t] })
    (ht : P.underlying t = some (.map k e)) (b : Nat) (l : List (Value × Value)) (hm : a.eval m = .map (some b)) (h : MapL P k w b l) (hK : wpList P ops Q rest (a.put o.dst (.int .i64 l.length)) w) : wpList P ops Q (o :: rest) a w := by
  refine wpList_plain hg fun K' hK' => ?_
  obtain ⟨es, clock, hb, hes⟩ := h.len
  unfold Oper.wp
  simp [execOp, hop, resolve, invoke, builtin, hm, Result.andThen, Builtin.len_, run_underlying ht, MapKept.run_getObj_map hb, goInt, hes]
  exact hK' _ _ hK
end
end Go.Proofs.YtkhdnfmnnapjlaaGreatDoor
