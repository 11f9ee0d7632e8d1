/- format.read: its parts in plain words; operations that are not run in a drawn region. -/
import Derived.Test.YtcelfjoopagmlaaGreatDoorPkFKChains22
import Derived.Test.YtcelfjoopagmlaaGreatDoorPkFKChains15
import Derived.Test.YtcelfjoopagmlaaGreatDoorPkFKChains16
import Derived.Deep.CutRange
namespace Go.Proofs.YtcelfjoopagmlaaGreatDoor
open Go.RowKit Go.MapKept
set_option linter.unusedVariables false
set_option linter.unusedSimpArgs false
attribute [local irreducible] Calls
open Fm (Ty Vl Str nameB rightTy rightVl)

theorem wpAnyG_skip {P : Program} {ops : Array Oper} {Q : Exit → Act → World → Prop} {md : Region.Mode} {S : World → Prop} {k : Nat} {i : Nat} {oi : Oper} {fuel : Nat} {listed : Array Bool} {a : Act} {w : World} (hi : ops[i]? = some oi) (hik : (i == k) = false)
    (hs : Region.noSelect ops = true) (hf : Region.free md ops listed i = true) (hr : (Region.ready md ops listed).contains i = true) (hc : closedB md ops listed = true)
    (hQ : ∀ c a w, Q (.panic c) (a.put oi.dst undef) w → Q (.panic c) a w) (hw : Region.wanted oi (yielded ops a.tmps) = false) (hS : listed.getD k false = false → S w)
    (h : wpAnyG P md ops Q S k fuel (listed.setIfInBounds i true) (a.put oi.dst undef) w) : wpAnyG P md ops Q S k (fuel + 1) listed a w :=
  wpAnyG_first (S' := fun _ => True) hi (by simpa using hik) (Region.noSelect_spec hs) hQ (fun _ _ _ _ _ => trivial) fuel listed a w (Region.free_spec hi hf) (closed_of hc) (by simpa using hr) (Or.inr ⟨hw, rfl⟩) hS h
/-! ### What read reads -/
theorem readF_bad {d : Nat} {t : Ty} {s : Str} (h : (Wire.rNum (some s)).2.isNone = true ∨ (Wire.rNum (some s)).1 ≠ t.kind) : Fm.readF (d + 1) t s = none := by
  unfold Fm.readF
  dsimp only
  rw [if_pos h]
theorem readF_zero {d : Nat} {t : Ty} {s : Str} (h1 : (Wire.rNum (some s)).2.isNone = false) (h2 : (Wire.rNum (some s)).1 = t.kind) (h0 : t.kind = 0) :
    Fm.readF (d + 1) t s = if (Wire.rInt (Wire.rNum (some s)).2).2 = some [] then some (.mk 0 (Wire.rInt (Wire.rNum (some s)).2).1 [] []) else none := by
  unfold Fm.readF
  dsimp only
  rw [if_neg (by rw [h1, h2]; simp), if_pos h0]
theorem readF_one {d : Nat} {t : Ty} {s : Str} (h1 : (Wire.rNum (some s)).2.isNone = false) (h2 : (Wire.rNum (some s)).1 = t.kind) (h0 : t.kind = 1) :
    Fm.readF (d + 1) t s = if (Wire.rNum (Wire.rNum (some s)).2).2 = some [] ∧ (Wire.rNum (Wire.rNum (some s)).2).1 ≤ 1 then some (.mk 1 (Wire.rNum (Wire.rNum (some s)).2).1 [] []) else none := by
  unfold Fm.readF
  dsimp only
  rw [if_neg (by rw [h1, h2]; simp), if_neg (by omega), if_pos h0]
/-- One field, read. -/
def oneR (d : Nat) (l : List (Str × Str)) (f : Str × Ty) : Option Vl := Fm.readF d f.2 ((Fm.getE l f.1).getD [])
theorem readF_two {d : Nat} {t : Ty} {s : Str} (h1 : (Wire.rNum (some s)).2.isNone = false) (h2 : (Wire.rNum (some s)).1 = t.kind) (h0 : t.kind = 2) {l : List (Str × Str)} (hl : Fm.entG [] (Wire.rNum (some s)).2 = some l) :
    Fm.readF (d + 1) t s = if t.fs.all (fun f => (Fm.getE l f.1).isSome && (oneR d l f).isSome) then some (.mk t.kind 0 (t.fs.map (·.1)) (t.fs.map fun f => (oneR d l f).getD Fm.noV)) else none := by
  unfold Fm.readF
  dsimp only
  rw [if_neg (by rw [h1, h2]; simp), if_neg (by omega), if_neg (by omega), hl]
  rfl
theorem readF_two_none {d : Nat} {t : Ty} {s : Str} (h1 : (Wire.rNum (some s)).2.isNone = false) (h2 : (Wire.rNum (some s)).1 = t.kind) (h0 : t.kind = 2) (hl : Fm.entG [] (Wire.rNum (some s)).2 = none) :
    Fm.readF (d + 1) t s = none := by
  unfold Fm.readF
  dsimp only
  rw [if_neg (by rw [h1, h2]; simp), if_neg (by omega), if_neg (by omega), hl]
theorem entF_len : ∀ (n : Nat) (acc : List (Str × Str)) (st : Wire.St) (l : List (Str × Str)), Fm.entF n acc st = some l → ∀ x ∈ l, x ∈ acc ∨ (x.1.length ≤ (st.getD []).length ∧ x.2.length ≤ (st.getD []).length) := by
  intro n
  induction n with
  | zero => intro acc st l h; cases h
  | succ n ih =>
    intro acc st l h x hx
    cases st with
    | none => cases h
    | some s =>
      cases s with
      | nil =>
        obtain rfl := Option.some.inj h
        exact Or.inl hx
      | cons c r =>
        unfold Fm.entF at h
        dsimp only at h
        split at h
        · cases h
        split at h
        · cases h
        have l1 := Wire.rText_le (some (c :: r))
        have l2 := Wire.rText_le (Wire.rText (some (c :: r))).2
        have l3 := rText_len (some (c :: r))
        have l4 := rText_len (Wire.rText (some (c :: r))).2
        rcases ih _ _ _ h x hx with h3 | h3
        · rcases List.mem_append.1 h3 with h3 | h3
          · exact Or.inl h3
          · rw [List.mem_singleton.1 h3]
            exact Or.inr ⟨l3, Nat.le_trans l4 l1⟩
        · exact Or.inr ⟨Nat.le_trans h3.1 (Nat.le_trans l2 l1), Nat.le_trans h3.2 (Nat.le_trans l2 l1)⟩
theorem entG_len {st : Wire.St} {l : List (Str × Str)} (h : Fm.entG [] st = some l) : ∀ x ∈ l, x.1.length ≤ (st.getD []).length ∧ x.2.length ≤ (st.getD []).length := fun x hx =>
  (entF_len _ _ _ _ h x hx).resolve_left (fun h => by cases h)
theorem getE_len {st : Wire.St} {l : List (Str × Str)} (h : Fm.entG [] st = some l) (s : Str) : ((Fm.getE l s).getD []).length ≤ (st.getD []).length := by
  cases hg : Fm.getE l s with
  | none => simp
  | some y => exact (entG_len h _ (Fm.getE_mem hg)).2
/-- 'm[s]' of the entries. -/
theorem look_fm {w : World} {mb : Nat} {l : List (Str × Str)} (h : MapL Tryz.prog tStrF w mb (l.map kvS)) {s : Str} (hs : s.length ≤ 1000000) :
    (Instr.lookup 75 (.map (some mb)) (.string ⟨s.toArray⟩) true).run Tryz.prog w = .ok (.tuple #[.string ⟨((Fm.getE l s).getD []).toArray⟩, .bool (Fm.getE l s).isSome]) w := by
  have hz : (zeroValue 9).run Tryz.prog w = .ok (.string ⟨#[]⟩) w := by kernel_rfl
  have hl := WideMaps.keyOf_string_mk (P := Tryz.prog) (k := tStrF) Tryz.underlying9 (s := ⟨s.toArray⟩) (by rw [bs_size, bs_list]; unfold maxLen; omega)
  rcases h.look strKeyedF Tryz.underlying75 hz hl with ⟨v, hm, hrun⟩ | ⟨hno, hrun⟩
  · obtain ⟨x, hx, e⟩ := List.mem_map.1 hm
    have e1 : x.1 = s := sF_inj (Prod.mk.inj e).1
    have e2 : v = sF x.2 := (Prod.mk.inj e).2.symm
    have hg : Fm.getE l s = some x.2 := by
      cases hg : Fm.getE l s with
      | none => exact absurd e1 (Fm.getE_none hg x hx)
      | some y =>
        have hy := Fm.getE_mem hg
        have := h.uniq hm (List.mem_map.2 ⟨_, hy, rfl⟩) rfl
        have h2 := (Prod.mk.inj this).2
        rw [e2] at h2
        rw [sF_inj h2]
    rw [hrun true, e2, hg]
    rfl
  · have hg : Fm.getE l s = none := by
      cases hg : Fm.getE l s with
      | none => rfl
      | some y => exact absurd rfl (hno _ (List.mem_map.2 ⟨_, Fm.getE_mem hg, rfl⟩))
    rw [hrun true, hg]
    rfl
/-- What read answers. -/
def RdPost (d : Nat) (t : Ty) (s : Str) (w : World) (e : Ending) (w' : World) : Prop :=
  ∃ (k n : Int) (xa : Option Addr) (xl xc : Nat) (ya : Option Addr) (yl yc : Nat), e = .returned (.tuple #[.agg #[.int .i64 k, .int .i64 n, .slice xa xl xc, .slice ya yl yc], .bool (Fm.readF d t s).isSome]) ∧
    Hid ((∀ v, Fm.readF d t s = some v → k = v.kind ∧ n = v.n ∧ VlAt (fun j => w.heap.size ≤ j) w' (.slice xa xl xc) (.slice ya yl yc) v) ∧ Nw w w')
/-- Behind the first region: a reader, a value that is begun. -/
structure Rd1 (W wx : World) (s : Str) (kd : Int) (rb q : Nat) : Prop where
  rdr : Rdr tR wx rb (some s)
  box : wx.heap[q]? = some (.cells #[.int .i64 kd, .int .i64 0, .slice none 0 0, .slice none 0 0] tVl (0, 0))
  ne : rb ≠ q
  upd : Nw W wx
  lr : W.heap.size ≤ rb
  lq : W.heap.size ≤ q
theorem rd_results (tmps : Array Value) (w : World) {r : Nat} {k n : Int} {nv vv : Value} {b : Bool} (hr : tmps.getD 4 undef = .pointer (some ⟨r, 0, none⟩)) (h5 : tmps.getD 5 undef = .bool b) (hb : w.heap[r]? = some (.cells #[.int .i64 k, .int .i64 n, nv, vv] tVl (0, 0))) :
    (results Tryz.f35 tmps).run Tryz.prog w = .ok (.tuple #[.agg #[.int .i64 k, .int .i64 n, nv, vv], .bool b]) w := by
  have c0 : w.cell? ⟨r, 0, none⟩ = some (.int .i64 k) := by rw [cells_cell hb]; rfl
  have c1 : w.cell? ⟨r, 1, none⟩ = some (.int .i64 n) := by rw [cells_cell hb]; rfl
  have c2 : w.cell? ⟨r, 2, none⟩ = some nv := by rw [cells_cell hb]; rfl
  have c3 : w.cell? ⟨r, 3, none⟩ = some vv := by rw [cells_cell hb]; rfl
  rw [Array.getD_eq_getD_getElem?] at hr h5
  simp [results, Tryz.results35, go_sem, hr, h5, c0, c1, c2, c3]
/-- The result, stored. -/
theorem rd_exit {d : Nat} {t : Ty} {s : Str} {w y : World} (hgb : nG ≤ w.heap.size) {cs : Array Value} (hc : cs = #[.int .i64 0, .int .i64 0, .slice none 0 0, .slice none 0 0]) (hr : y.heap[w.heap.size + 1]? = some (.cells cs tVl (0, 0))) (hu : Nw w y) (k n : Int) (nv vv : Value)
    (hv : ∀ v, Fm.readF d t s = some v → k = v.kind ∧ n = v.n ∧ VlAt (fun j => w.heap.size + 2 ≤ j) y nv vv v) :
    ((((y.setCell ⟨w.heap.size + 1, 0, none⟩ (.int .i64 k)).setCell ⟨w.heap.size + 1, 1, none⟩ (.int .i64 n)).setCell ⟨w.heap.size + 1, 2, none⟩ nv).setCell ⟨w.heap.size + 1, 3, none⟩ vv).heap[w.heap.size + 1]? = some (.cells #[.int .i64 k, .int .i64 n, nv, vv] tVl (0, 0)) ∧
    Hid ((∀ v, Fm.readF d t s = some v → k = v.kind ∧ n = v.n ∧ VlAt (fun j => w.heap.size ≤ j) ((((y.setCell ⟨w.heap.size + 1, 0, none⟩ (.int .i64 k)).setCell ⟨w.heap.size + 1, 1, none⟩ (.int .i64 n)).setCell ⟨w.heap.size + 1, 2, none⟩ nv).setCell ⟨w.heap.size + 1, 3, none⟩ vv) nv vv v) ∧ Nw w ((((y.setCell ⟨w.heap.size + 1, 0, none⟩ (.int .i64 k)).setCell ⟨w.heap.size + 1, 1, none⟩ (.int .i64 n)).setCell ⟨w.heap.size + 1, 2, none⟩ nv).setCell ⟨w.heap.size + 1, 3, none⟩ vv)) := by
  subst hc
  have hg : nG ≤ w.heap.size + 1 := by omega
  have hu9 := Upd.set1 (Upd.set1 (Upd.set1 (Upd.set1 (Upd.refl _ y) hg 0 (.int .i64 k)) hg 1 (.int .i64 n)) hg 2 nv) hg 3 vv
  refine ⟨setCell_block (setCell_block (setCell_block (setCell_block hr 0 _) 1 _) 2 _) 3 _, fun v h => ?_, hu.trans' hu9 (fun k hk e => by omega)⟩
  obtain ⟨h1, h2, h3⟩ := hv v h
  exact ⟨h1, h2, (h3.upd hu9 (fun k hk e => by omega)).mono (fun k _ hk => by omega)⟩
theorem cell4F {y : World} {q : Nat} {a b c d : Value} {T : TypeId} (h : y.heap[q]? = some (.cells #[a, b, c, d] T (0, 0))) : y.cell? ⟨q, 0, none⟩ = some a ∧ y.cell? ⟨q, 1, none⟩ = some b ∧ y.cell? ⟨q, 2, none⟩ = some c ∧ y.cell? ⟨q, 3, none⟩ = some d :=
  ⟨by rw [cells_cell h]; rfl, by rw [cells_cell h]; rfl, by rw [cells_cell h]; rfl, by rw [cells_cell h]; rfl⟩
theorem froz4F {y : World} {q : Nat} {cs : Array Value} {T : TypeId} (h : y.heap[q]? = some (.cells cs T (0, 0))) : y.frozen? ⟨q, 0, none⟩ = false ∧ y.frozen? ⟨q, 1, none⟩ = false ∧ y.frozen? ⟨q, 2, none⟩ = false ∧ y.frozen? ⟨q, 3, none⟩ = false :=
  ⟨cells_frozen h 0, cells_frozen h 1, cells_frozen h 2, cells_frozen h 3⟩
end Go.Proofs.YtcelfjoopagmlaaGreatDoor
