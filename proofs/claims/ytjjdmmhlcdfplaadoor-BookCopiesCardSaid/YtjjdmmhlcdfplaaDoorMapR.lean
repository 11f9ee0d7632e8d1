/- Ranges over maps in memory, in whatever order the entries come: what has been handed out is a list, at the end a permutation of the map's entries. -/
import Derived.Test.YtjjdmmhlcdfplaaDoorMap
import Derived.Maps.RangeWalk
namespace Go.Proofs.YtjjdmmhlcdfplaaDoor
open Go.RowKit Go.MapKept
open Go.Maps (Keyed)
open Go.ChangeMaps (setBlock)
set_option linter.unusedVariables false
set_option linter.unusedSimpArgs false

def kv (e : MapEntry) : Value × Value := (e.key, e.val)
/-- Block b is a map with the entries l; r is an iterator over it that has handed out d. -/
def RangeL (P : Program) (k : TypeId) (w : World) (b r : Nat) (l d : List (Value × Value)) : Prop :=
  ∃ es clock since seen c0, ∃ D : List MapEntry, w.heap[b]? = some (.map es clock) ∧ (es.toList.map kv).Perm l ∧ (∀ p ∈ l, ∃ x, keyOf P k p.1 = some x) ∧ Stamped es clock ∧
    w.heap[r]? = some (.mapIter (some b) since seen c0) ∧ (∀ x ∈ es.toList, x.born < since) ∧ since ≤ c0 ∧ since ≤ clock ∧ (∀ x ∈ D, x ∈ es.toList) ∧ D.Nodup ∧ seen.toList = D.map (·.born) ∧ D.map kv = d
variable {P : Program} {k : TypeId} {w : World} {b r : Nat} {l d : List (Value × Value)}
theorem RangeL.upd {S : Nat → Prop} {w' : World} (h : RangeL P k w b r l d) (u : Upd S w w') (hb : ¬ S b) (hr : ¬ S r) : RangeL P k w' b r l d ∧ w'.rangeLeft b r = w.rangeLeft b r := by
  obtain ⟨es, clock, since, seen, c0, D, h1, h2, h3, h4, h5, h6⟩ := h
  refine ⟨⟨es, clock, since, seen, c0, D, u.keep h1 hb, h2, h3, h4, u.keep h5 hr, h6⟩, ?_⟩
  unfold World.rangeLeft
  rw [u.keep h1 hb, h1, u.keep h5 hr, h5]
theorem RangeL.lt (h : RangeL P k w b r l d) : b < w.heap.size ∧ r < w.heap.size ∧ r ≠ b := by
  obtain ⟨es, clock, since, seen, c0, D, h1, h2, h3, h4, h5, h6⟩ := h
  refine ⟨lt_of_block h1, lt_of_block h5, fun e => ?_⟩
  rw [e, h1] at h5
  cases h5
theorem RangeL.map (h : RangeL P k w b r l d) : MapL P k w b l := by
  obtain ⟨es, clock, since, seen, c0, D, h1, h2, h3, h4, h5, h6⟩ := h
  exact ⟨es, clock, h1, h2, h3, h4⟩
theorem RangeL.keyed (h : RangeL P k w b r l d) {p : Value × Value} (hp : p ∈ l) : ∃ x, keyOf P k p.1 = some x := by
  obtain ⟨es, clock, since, seen, c0, D, h1, h2, h3, h4, h5, h6⟩ := h
  exact h3 p hp
/-- 'range m'. -/
theorem MapL.range {t e : TypeId} (h : MapL P k w b l) (ht : P.underlying t = some (.map k e)) :
    ∃ w', (Instr.range t (.map (some b))).run P w = .ok (.pointer (some ⟨w.heap.size, 0, none⟩)) w' ∧ RangeL P k w' b w.heap.size l [] ∧ Nw w w' := by
  obtain ⟨es, clock, h1, h2, h3, h4⟩ := h
  refine ⟨_, run_range_map w t k e b es clock ht h1, ⟨es, clock, clock, #[], clock, [], Nw.keep (nw_alloc w _) h1, h2, h3, h4, heap_new w _, h4.1, Nat.le_refl _, Nat.le_refl _, by simp, by simp, by simp, rfl⟩, nw_alloc _ _⟩
theorem stamp_nodup {es : List MapEntry} (h : (es.map (·.born)).Nodup) : es.Nodup := (List.pairwise_map.1 h).imp (fun hne e => hne (by rw [e]))
/-- THE STEP: nothing is left, and all has been handed out; or an entry comes whose key has not. -/
theorem RangeL.next (h : RangeL P k w b r l d) (hg : nG ≤ r) (ty : TypeId) :
    (l.Perm d ∧ (Instr.next (.pointer (some ⟨r, 0, none⟩)) false ty).run P w = .ok (.tuple #[.bool false]) w) ∨
    ∃ p, p ∈ l ∧ (∀ q ∈ d, q.1 ≠ p.1) ∧ ∃ w', (Instr.next (.pointer (some ⟨r, 0, none⟩)) false ty).run P w = .ok (.tuple #[.bool true, p.1, p.2]) w' ∧ RangeL P k w' b r l (d ++ [p]) ∧ Upd (· = r) w w' ∧
      w'.rangeLeft b r < w.rangeLeft b r ∧ (Instr.entry (.pointer (some ⟨r, 0, none⟩))).run P w' = .ok (.tuple #[p.1, p.2]) w' := by
  have hne := h.lt.2.2
  have hrlt := h.lt.2.1
  obtain ⟨es, clock, since, seen, c0, D, h1, h2, h3, h4, h5, h6, h7, h8, h9, h10, h11, rfl⟩ := h
  have hst := (stamped_iff es clock).1 h4
  rcases run_next_at (P := P) w ty r b since c0 seen es clock h5 h1 h6 h7 with ⟨h0, hrun⟩ | ⟨e, he, w1, hal, hrun⟩
  · refine Or.inl ⟨h2.symm.trans (List.Perm.map _ ?_), hrun⟩
    refine (List.perm_ext_iff_of_nodup (stamp_nodup hst.2.1) h10).2 fun x => ⟨fun hx => ?_, h9 x⟩
    have hs := all_seen es seen h0 x hx
    have hm : x.born ∈ D.map (·.born) := by rw [← h11]; simpa using hs
    obtain ⟨y, hy, hyb⟩ := List.mem_map.1 hm
    rw [← born_inj hst.2.1 (h9 y hy) hx hyb]
    exact hy
  · obtain ⟨hem, hes⟩ := mem_left he
    have hnot : e ∉ D := fun hd => by
      have hm : e.born ∈ seen.toList := by rw [h11]; exact List.mem_map.2 ⟨e, hd, rfl⟩
      rw [Array.contains_eq_mem] at hes
      simp at hm hes
      exact hes hm
    have hr1 : w1.heap[r]? = some (.mapIter (some b) since seen c0) := by rcases hal with rfl | rfl <;> exact h5
    have hb1 : w1.heap[b]? = some (.map es clock) := by rcases hal with rfl | rfl <;> exact h1
    have hset := heap_set (o' := .mapIter (some b) since (seen.push e.born) clock) hr1
    have hb' : (setBlock w1 r (.mapIter (some b) since (seen.push e.born) clock)).heap[b]? = some (.map es clock) := (hset.2 b (fun e1 => hne e1.symm)).trans hb1
    refine Or.inr ⟨kv e, h2.mem_iff.1 (List.mem_map.2 ⟨e, hem, rfl⟩), fun q hq hk => ?_, _, hrun, ⟨es, clock, since, seen.push e.born, clock, D ++ [e], hb', h2, h3, h4, hset.1, h6, h8, h8, fun x hx => ?_, ?_, ?_, by simp⟩, ?_, ?_, run_entry_at _ r b since seen es clock e hset.1 hb' hem hst.2.1⟩
    · obtain ⟨x, hx, rfl⟩ := List.mem_map.1 hq
      obtain rfl := entry_eq_of_key hst.2.2 (h9 x hx) hem hk
      exact hnot hx
    · rcases List.mem_append.1 hx with hx | hx
      · exact h9 x hx
      · rw [List.mem_singleton.1 hx]; exact hem
    · rw [List.nodup_append]
      exact ⟨h10, by simp, fun a ha y hy e1 => by rw [List.mem_singleton] at hy; subst hy; subst e1; exact hnot ha⟩
    · simp [h11]
    · rcases hal with rfl | rfl <;> exact ⟨rfl, rfl, rfl, by simp [setBlock], fun i _ hi => hset.2 i (fun e1 => by subst e1; rcases hi with hi | hi; omega; exact hi rfl)⟩
    · unfold World.rangeLeft
      have hr' : (setBlock w1 r (.mapIter (some b) since (seen.push e.born) clock)).heap[r]? = some (.mapIter (some b) since (seen.push e.born) clock) := hset.1
      rw [hb', hr', h1, h5]
      exact left_shrinks es seen e he
/-- 'range m' at the operation. -/
theorem wpList_rangeL {ops : Array Oper} {rest : List Oper} {o : Oper} {a : Act} {Q : Exit → Act → World → Prop} (hg : o.guard = none) (m : Operand) (t e : TypeId) (hop : o.op = Op.range t m) (ht : P.underlying t = some (.map k e)) (hm : a.eval m = .map (some b)) (h : MapL P k w b l)
    (hK : ∀ w', RangeL P k w' b w.heap.size l [] → Nw w w' → wpList P ops Q rest (a.put o.dst (.pointer (some ⟨w.heap.size, 0, none⟩))) w') : wpList P ops Q (o :: rest) a w := by
  obtain ⟨w', hrun, h1, h2⟩ := h.range ht
  refine wpList_plain hg fun K' hK' => ?_
  unfold Oper.wp
  simp [execOp, hop, hm, hrun, Result.andThen]
  exact hK' _ _ (hK w' h1 h2)
/-- The step at the operation. -/
theorem wpList_nextL {ops : Array Oper} {rest : List Oper} {o : Oper} {a : Act} {Q : Exit → Act → World → Prop} (hg : o.guard = none) (it : Operand) (hop : o.op = Op.next it false) (hit : a.eval it = .pointer (some ⟨r, 0, none⟩)) (h : RangeL P k w b r l d) (hr : nG ≤ r)
    (hDone : l.Perm d → wpList P ops Q rest (a.put o.dst (.tuple #[.bool false])) w)
    (hMore : ∀ p w', p ∈ l → (∀ q ∈ d, q.1 ≠ p.1) → RangeL P k w' b r l (d ++ [p]) → Upd (· = r) w w' → w'.rangeLeft b r < w.rangeLeft b r → (Instr.entry (.pointer (some ⟨r, 0, none⟩))).run P w' = .ok (.tuple #[p.1, p.2]) w' →
      wpList P ops Q rest (a.put o.dst (.tuple #[.bool true, p.1, p.2])) w') : wpList P ops Q (o :: rest) a w := by
  refine wpList_plain hg fun K' hK' => ?_
  unfold Oper.wp
  rcases h.next hr o.type with ⟨hd, hrun⟩ | ⟨p, h1, h2, w', hrun, h3, h4, h5, h6⟩
  · simp [execOp, hop, hit, hrun, Result.andThen]
    exact hK' _ _ (hDone hd)
  · simp [execOp, hop, hit, hrun, Result.andThen]
    exact hK' _ _ (hMore p w' h1 h2 h3 h4 h5 h6)
end Go.Proofs.YtjjdmmhlcdfplaaDoor
