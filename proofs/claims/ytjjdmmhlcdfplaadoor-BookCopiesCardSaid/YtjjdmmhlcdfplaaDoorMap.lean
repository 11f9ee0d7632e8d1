/- Maps in memory, as lists of their entries in the order in which they came: made, looked up, stored into. -/
import Derived.Test.YtjjdmmhlcdfplaaDoorBase
import Derived.Maps.OwnSet
import Derived.Maps.OwnOps
import Derived.DeepKeys4
namespace Go.Proofs.YtjjdmmhlcdfplaaDoor
open Go.RowKit Go.MapKept
open Go.Maps (Keyed)
set_option linter.unusedVariables false
set_option linter.unusedSimpArgs false

/-- Block b is a map whose entries are l, in some order; each key can be read, no two are the same. -/
def MapL (P : Program) (k : TypeId) (w : World) (b : Nat) (l : List (Value × Value)) : Prop :=
  ∃ es clock, w.heap[b]? = some (.map es clock) ∧ (es.toList.map (fun e => (e.key, e.val))).Perm l ∧ (∀ p ∈ l, ∃ x, keyOf P k p.1 = some x) ∧ Stamped es clock
theorem MapL.lt {P : Program} {k : TypeId} {w : World} {b : Nat} {l : List (Value × Value)} (h : MapL P k w b l) : b < w.heap.size := by
  obtain ⟨es, clock, hb, _⟩ := h
  exact lt_of_block hb
theorem MapL.upd {P : Program} {k : TypeId} {w w' : World} {b : Nat} {l : List (Value × Value)} {S : Nat → Prop} (h : MapL P k w b l) (u : Upd S w w') (hn : ¬ S b) : MapL P k w' b l := by
  obtain ⟨es, clock, hb, r⟩ := h
  exact ⟨es, clock, u.keep hb hn, r⟩
theorem MapL.nw {P : Program} {k : TypeId} {w w' : World} {b : Nat} {l : List (Value × Value)} (h : MapL P k w b l) (u : Nw w w') : MapL P k w' b l := h.upd u id
theorem MapL.made (P : Program) (k : TypeId) (w : World) : MapL P k (w.alloc (.map #[] 0)) w.heap.size [] :=
  ⟨#[], 0, heap_new w _, List.Perm.refl _, (fun p hp => by cases hp), stamped_empty 0⟩
theorem MapL.perm {P : Program} {k : TypeId} {w : World} {b : Nat} {l l' : List (Value × Value)} (h : MapL P k w b l) (hp : l.Perm l') : MapL P k w b l' := by
  obtain ⟨es, clock, hb, h1, h2, h3⟩ := h
  exact ⟨es, clock, hb, h1.trans hp, fun p hq => h2 p (hp.mem_iff.2 hq), h3⟩
/-- 'm[k]': an entry is there, or none is. -/
theorem MapL.look {P : Program} {t k e : TypeId} {w : World} {b : Nat} {l : List (Value × Value)} (h : MapL P k w b l) (K : Keyed P k) (ht : P.underlying t = some (.map k e)) {z : Value} (hz : (zeroValue e).run P w = .ok z w) {key : Value} {kl : Lit} (hkey : keyOf P k key = some kl) :
    (∃ v, (key, v) ∈ l ∧ ∀ c, (Instr.lookup t (.map (some b)) key c).run P w = .ok (if c then .tuple #[v, .bool true] else v) w) ∨
    ((∀ p ∈ l, p.1 ≠ key) ∧ ∀ c, (Instr.lookup t (.map (some b)) key c).run P w = .ok (if c then .tuple #[z, .bool false] else z) w) := by
  obtain ⟨es, clock, hb, hpm, hk, hs⟩ := h
  have hke : ∀ x ∈ es.toList, ∃ l, keyOf P k x.key = some l := fun x hx => hk (x.key, x.val) (hpm.mem_iff.1 (List.mem_map.2 ⟨x, hx, rfl⟩))
  rcases K.find w hkey es.toList hke with ⟨h1, h2⟩ | ⟨j, e0, h1, h2, h3⟩
  · refine Or.inr ⟨fun p hp => ?_, fun c => by simp [Instr.lookup, run_underlying ht, MapKept.run_getObj_map hb, K.check w _ hkey, h1, hz, Result.andThen]⟩
    obtain ⟨x, hx, rfl⟩ := List.mem_map.1 (hpm.mem_iff.2 hp)
    exact h2 x hx
  · have hm0 : e0 ∈ es.toList := List.mem_of_getElem? h2
    refine Or.inl ⟨e0.val, hpm.mem_iff.1 (List.mem_map.2 ⟨e0, hm0, by rw [h3]⟩), fun c => by simp [Instr.lookup, run_underlying ht, MapKept.run_getObj_map hb, K.check w _ hkey, h1, Result.andThen]⟩
theorem Upd.setBlock {w : World} {b : Nat} (hg : nG ≤ b) (o : Obj) : Upd (· = b) w { w with heap := w.heap.setIfInBounds b o } :=
  ⟨rfl, rfl, rfl, by simp, fun k hk hn => by
    have hne : b ≠ k := by
      rintro rfl
      rcases hn with hn | hn
      · omega
      · exact hn rfl
    simp [Array.getElem?_setIfInBounds, hne]⟩
/-- 'm[k] = v', the key not there: the entry comes last. -/
theorem MapL.store_new {P : Program} {t k e : TypeId} {w : World} {b : Nat} {l : List (Value × Value)} (h : MapL P k w b l) (K : Keyed P k) (ht : P.underlying t = some (.map k e)) (hg : nG ≤ b) {key : Value} {kl : Lit} (hkey : keyOf P k key = some kl) (hno : ∀ p ∈ l, p.1 ≠ key) (val : Value) :
    ∃ w', (Instr.mapUpdate t (.map (some b)) key val).run P w = .ok () w' ∧ MapL P k w' b (l ++ [(key, val)]) ∧ Upd (· = b) w w' := by
  obtain ⟨es, clock, hb, hpm, hk, hs⟩ := h
  have hke : ∀ x ∈ es.toList, ∃ l, keyOf P k x.key = some l := fun x hx => hk (x.key, x.val) (hpm.mem_iff.1 (List.mem_map.2 ⟨x, hx, rfl⟩))
  have hlt := lt_of_block hb
  have hno2 : ∀ x ∈ es.toList, x.key ≠ key := fun x hx => hno (x.key, x.val) (hpm.mem_iff.1 (List.mem_map.2 ⟨x, hx, rfl⟩))
  rcases K.find w hkey es.toList hke with ⟨h1, h2⟩ | ⟨j, e0, h1, h2, h3⟩
  · refine ⟨{ w with heap := w.heap.setIfInBounds b (.map (es.push ⟨key, val, clock⟩) (clock + 1)) }, ?_, ⟨es.push ⟨key, val, clock⟩, clock + 1, ?_, by simpa using hpm.append_right [(key, val)], ?_, stamped_push hs h2⟩, Upd.setBlock hg _⟩
    · simp [Instr.mapUpdate, run_underlying ht, MapKept.run_getObj_map hb, K.check w false hkey, h1, MapKept.run_setObj_map _ hb, Result.andThen]
    · simp [Array.getElem?_setIfInBounds, hlt]
    · intro p hp
      rcases List.mem_append.1 hp with hp | hp
      · exact hk p hp
      · rw [List.mem_singleton.1 hp]; exact ⟨kl, hkey⟩
  · exact absurd h3 (hno2 e0 (List.mem_of_getElem? h2))
/-- 'm[k]', 'v, ok := m[k]' at the operation, by its run. -/
theorem wpList_lookL {P : Program} {w : World} {ops : Array Oper} {rest : List Oper} {o : Oper} {a : Act} {Q : Exit → Act → World → Prop} (hg : o.guard = none) (m x : Operand) (t : TypeId) (c : Bool) (hop : o.op = Op.lookup t m x c)
    (vm key v : Value) (hm : a.eval m = vm) (hx : a.eval x = key) (hrun : (Instr.lookup t vm key c).run P w = .ok v w) (h : wpList P ops Q rest (a.put o.dst v) w) : wpList P ops Q (o :: rest) a w := by
  refine wpList_plain hg fun K hK => ?_
  unfold Oper.wp
  simp [execOp, hop, hm, hx, hrun, Result.andThen]
  exact hK _ _ h
/-- 'm[k] = v' at the operation, by its run. -/
theorem wpList_storeL {P : Program} {w w' : World} {ops : Array Oper} {rest : List Oper} {o : Oper} {a : Act} {Q : Exit → Act → World → Prop} (hg : o.guard = none) (m x y : Operand) (t : TypeId) (hop : o.op = Op.mapUpdate t m x y)
    (vm key v : Value) (hm : a.eval m = vm) (hx : a.eval x = key) (hy : a.eval y = v) (hrun : (Instr.mapUpdate t vm key v).run P w = .ok () w') (h : wpList P ops Q rest (a.put o.dst undef) w') : wpList P ops Q (o :: rest) a w := by
  refine wpList_plain hg fun K hK => ?_
  unfold Oper.wp
  simp [execOp, hop, hm, hx, hy, hrun, Result.andThen]
  exact hK _ _ h
theorem i64_wf' {k : Int} (h : -9223372036854775808 ≤ k ∧ k ≤ 9223372036854775807) : (Lit.int .i64 k).wf = true := by
  simp [Lit.wf, IntKind.min, IntKind.max, IntKind.signed, IntKind.bits]
  omega
/-- A struct of an int and a string can be read as a key. -/
theorem key_int_str {P : Program} {t ti ts : TypeId} {f1 f2 : Field} (hu : P.underlying t = some (.struct #[f1, f2])) (hi : P.underlying ti = some (.int .i64)) (hs : P.underlying ts = some .string)
    (hk : P.keyType t = true) (h0 : 0 < P.types.size) (c : P.cellsOf t = 2) (ci : P.cellsOf ti = 1) (cs : P.cellsOf ts = 1) (n1 : (f1.name != "_") = true) (n2 : (f2.name != "_") = true)
    (t1 : f1.type = ti) (t2 : f2.type = ts) (o1 : f1.offset = 0) (o2 : f2.offset = 1) (a : Int) (ha : -9223372036854775808 ≤ a ∧ a ≤ 9223372036854775807) (s : ByteArray) (hz : s.size ≤ maxLen) :
    ∃ l, keyOf P t (.agg #[.int .i64 a, .string s]) = some l := by
  obtain ⟨d, hd⟩ : ∃ d, P.types.size = d + 1 := ⟨P.types.size - 1, by omega⟩
  have n1' : ¬ f1.name = "_" := by simpa using n1
  have n2' : ¬ f2.name = "_" := by simpa using n2
  unfold keyOf
  rw [hu]
  simp [hk, Value.formed, hu, c, hd, Program.keyLits, hi, hs, ci, cs, i64_wf' ha, hz, Value.cells, n1', n2', t1, t2, o1, o2]
end Go.Proofs.YtjjdmmhlcdfplaaDoor
