/- The disk (layer 2) in memory: where it lies, what its maps answer and how they are stored into. The contracts of the disk's New, put, may, ends, Size, Read, Start, Lose. -/
import Derived.Test.YtagmlemlagbfkaaGreatDoorPkFSurv2
import Derived.Test.YtagmlemlagbfkaaGreatDoorPkFSurv4
import Derived.DeepKeys5
import Derived.Lib.BufferWrite
import Derived.Laws.MakeOwn
import Derived.OwnWalk
namespace Go.Proofs.YtagmlemlagbfkaaGreatDoor
open Go.RowKit Go.MapKept
open Go.Maps (Keyed)
set_option linter.unusedVariables false
set_option linter.unusedSimpArgs false
attribute [local irreducible] Calls

abbrev tDisk : TypeId := 182
abbrev tSec : TypeId := 197
abbrev tFile : TypeId := 199
abbrev tIntD : TypeId := 3
abbrev tFiles : TypeId := 178
abbrev tSet : TypeId := 179
def intD (n : Int) : Value := .int .i64 n
def bsV (s : List UInt8) : Value := .string ⟨s.toArray⟩
def filV (x : Dk.Fil) : Value := .agg #[.string ⟨x.now.toArray⟩, .string ⟨x.last.toArray⟩]
def secV (p : Int × Int) : Value := .agg #[.int .i64 p.1, .int .i64 p.2]
def secL (p : Int × Int) : List Value := [.int .i64 p.1, .int .i64 p.2]
theorem secV_inj {p q : Int × Int} (h : secV p = secV q) : p = q := by
  simp [secV] at h
  exact Prod.ext h.1 h.2
theorem intKeyD : Keyed Tryz.prog tIntD := Maps.int_keyed Tryz.underlying3
theorem int_keyD {n : Int} (h : I64 n) : keyOf Tryz.prog tIntD (.int .i64 n) = some (.int .i64 n) := by
  unfold keyOf
  rw [Tryz.underlying3]
  unfold I64 at h
  simp [mapKey, Tryz.underlying3, i64_wf' h]
theorem secKeyed : Keyed Tryz.prog tSec := Keyed.of_law (deep_law_laid laidOut (m := 4) (by decide) (of_decide_eq_true (by kernel_rfl)) (by kernel_rfl) (by kernel_rfl))
/-- A struct of two ints can be read as a key. -/
theorem key_int_int {P : Program} {t ti : TypeId} {f1 f2 : Field} (hu : P.underlying t = some (.struct #[f1, f2])) (hi : P.underlying ti = some (.int .i64))
    (hk : P.keyType t = true) (h0 : 0 < P.types.size) (c : P.cellsOf t = 2) (ci : P.cellsOf ti = 1) (n1 : (f1.name != "_") = true) (n2 : (f2.name != "_") = true)
    (t1 : f1.type = ti) (t2 : f2.type = ti) (o1 : f1.offset = 0) (o2 : f2.offset = 1) (a b : Int) (ha : -9223372036854775808 ≤ a ∧ a ≤ 9223372036854775807) (hb : -9223372036854775808 ≤ b ∧ b ≤ 9223372036854775807) :
    ∃ l, keyOf P t (.agg #[.int .i64 a, .int .i64 b]) = some l := by
  obtain ⟨d, hd⟩ : ∃ d, P.types.size = d + 1 := ⟨P.types.size - 1, by omega⟩
  have n1' : ¬ f1.name = "_" := by simpa using n1
  have n2' : ¬ f2.name = "_" := by simpa using n2
  unfold keyOf
  rw [hu]
  simp [hk, Value.formed, hu, c, hd, Program.keyLits, hi, ci, i64_wf' ha, i64_wf' hb, Value.cells, n1', n2', t1, t2, o1, o2]
theorem sec_key {p : Int × Int} (h1 : I64 p.1) (h2 : I64 p.2) : ∃ l, keyOf Tryz.prog tSec (secV p) = some l :=
  key_int_int Tryz.underlying197 Tryz.underlying3 (by kernel_rfl) (of_decide_eq_true (by kernel_rfl)) (by kernel_rfl) (by kernel_rfl) (by decide) (by decide) rfl rfl rfl rfl _ _ h1 h2

/-! ### The files -/
/-- The entries l of the map of files say what fs says. -/
structure SaysF (l : List (Value × Value)) (fs : Int → Dk.Fil) : Prop where
  each : ∀ p ∈ l, ∃ f, I64 f ∧ p = (.int .i64 f, filV (fs f))
  none : ∀ f, (∀ p ∈ l, p.1 ≠ .int .i64 f) → fs f = Dk.noFil
theorem SaysF.put {l l' : List (Value × Value)} {fs : Int → Dk.Fil} (h : SaysF l fs) {f : Int} (hf : I64 f) (x : Dk.Fil) (hm : ∀ p, p ∈ l' ↔ (p ∈ l ∧ p.1 ≠ .int .i64 f) ∨ p = (.int .i64 f, filV x)) : SaysF l' (Dk.setF fs f x) := by
  refine ⟨fun p hp => ?_, fun g hg => ?_⟩
  · rcases (hm p).1 hp with ⟨h1, h2⟩ | rfl
    · obtain ⟨g, hg, rfl⟩ := h.each p h1
      have hne : g ≠ f := fun e => h2 (by rw [e])
      exact ⟨g, hg, by rw [Dk.setF_ne _ _ hne]⟩
    · exact ⟨f, hf, by rw [Dk.setF_self]⟩
  · have hne : g ≠ f := fun e => hg _ ((hm _).2 (Or.inr rfl)) (by rw [e])
    rw [Dk.setF_ne _ _ hne]
    exact h.none g (fun p hp e => hg p ((hm p).2 (Or.inl ⟨hp, fun e2 => hne (by rw [e] at e2; injection e2)⟩)) e)
def FilesL (w : World) (b : Nat) (fs : Int → Dk.Fil) : Prop := ∃ l, MapL Tryz.prog tIntD w b l ∧ SaysF l fs
theorem FilesL.lt {w : World} {b : Nat} {fs : Int → Dk.Fil} (h : FilesL w b fs) : b < w.heap.size := by obtain ⟨l, h1, _⟩ := h; exact h1.lt
theorem FilesL.upd {w w' : World} {b : Nat} {fs : Int → Dk.Fil} {S : Nat → Prop} (h : FilesL w b fs) (u : Upd S w w') (hn : ¬ S b) : FilesL w' b fs := by obtain ⟨l, h1, h2⟩ := h; exact ⟨l, h1.upd u hn, h2⟩
theorem filZero (w : World) : (zeroValue tFile).run Tryz.prog w = .ok (filV Dk.noFil) w := by kernel_rfl
theorem mapl_file {w : World} {b : Nat} {fs : Int → Dk.Fil} {l : List (Value × Value)} (h1 : MapL Tryz.prog tIntD w b l) (h2 : SaysF l fs) {f : Int} (hf : I64 f) :
    (Instr.lookup tFiles (.map (some b)) (.int .i64 f) false).run Tryz.prog w = .ok (filV (fs f)) w := by
  rcases h1.look intKeyD Tryz.underlying178 (filZero w) (int_keyD hf) with ⟨v, hv, hrun⟩ | ⟨hno, hrun⟩
  · obtain ⟨g, hg, e⟩ := h2.each _ hv
    obtain ⟨e1, e2⟩ := Prod.mk.inj e
    obtain rfl : f = g := (Value.int.inj e1).2
    rw [hrun false, e2]; rfl
  · rw [hrun false, h2.none f hno]; rfl
theorem FilesL.look {w : World} {b : Nat} {fs : Int → Dk.Fil} (h : FilesL w b fs) {f : Int} (hf : I64 f) :
    (Instr.lookup tFiles (.map (some b)) (.int .i64 f) false).run Tryz.prog w = .ok (filV (fs f)) w := by
  obtain ⟨l, h1, h2⟩ := h
  exact mapl_file h1 h2 hf
theorem FilesL.put {w : World} {b : Nat} {fs : Int → Dk.Fil} (h : FilesL w b fs) (hg : nG ≤ b) {f : Int} (hf : I64 f) (x : Dk.Fil) :
    ∃ w', (Instr.mapUpdate tFiles (.map (some b)) (.int .i64 f) (filV x)).run Tryz.prog w = .ok () w' ∧ FilesL w' b (Dk.setF fs f x) ∧ Upd (· = b) w w' := by
  obtain ⟨l, h1, h2⟩ := h
  obtain ⟨w', l', hrun, hm, hl, u⟩ := h1.put intKeyD Tryz.underlying178 hg (int_keyD hf) (filV x)
  exact ⟨w', hrun, ⟨l', hm, h2.put hf x hl⟩, u⟩
theorem FilesL.made (w : World) : FilesL (w.alloc (.map #[] 0)) w.heap.size (fun _ => Dk.noFil) :=
  ⟨[], MapL.made Tryz.prog tIntD w, ⟨(fun p hp => by cases hp), fun _ _ => rfl⟩⟩

/-! ### The set of pending sectors -/
def secE (p : Int × Int) : Value × Value := (secV p, .bool true)
def SetL (w : World) (b : Nat) (q : List (Int × Int)) : Prop := MapL Tryz.prog tSec w b (q.map secE)
theorem SetL.lt {w : World} {b : Nat} {q : List (Int × Int)} (h : SetL w b q) : b < w.heap.size := MapL.lt h
theorem SetL.upd {w w' : World} {b : Nat} {q : List (Int × Int)} {S : Nat → Prop} (h : SetL w b q) (u : Upd S w w') (hn : ¬ S b) : SetL w' b q := MapL.upd h u hn
theorem SetL.made (w : World) : SetL (w.alloc (.map #[] 0)) w.heap.size [] := MapL.made Tryz.prog tSec w
theorem SetL.look {w : World} {b : Nat} {q : List (Int × Int)} (h : SetL w b q) {p : Int × Int} (h1 : I64 p.1) (h2 : I64 p.2) :
    (Instr.lookup tSet (.map (some b)) (secV p) false).run Tryz.prog w = .ok (.bool (decide (p ∈ q))) w := by
  obtain ⟨l, hl⟩ := sec_key h1 h2
  have hz : (zeroValue 4).run Tryz.prog w = .ok (.bool false) w := by kernel_rfl
  rcases MapL.look h secKeyed Tryz.underlying179 hz hl with ⟨v, hv, hrun⟩ | ⟨hno, hrun⟩
  · obtain ⟨x, hx, e⟩ := List.mem_map.1 hv
    obtain ⟨e1, e2⟩ := Prod.mk.inj e
    have := secV_inj e1
    subst this
    rw [hrun false, ← e2, decide_eq_true hx]; rfl
  · have : p ∉ q := fun hp => hno (secE p) (List.mem_map.2 ⟨p, hp, rfl⟩) rfl
    rw [hrun false, decide_eq_false this]; rfl
theorem SetL.put {w : World} {b : Nat} {q : List (Int × Int)} (h : SetL w b q) (hg : nG ≤ b) {p : Int × Int} (h1 : I64 p.1) (h2 : I64 p.2) (hn : p ∉ q) :
    ∃ w', (Instr.mapUpdate tSet (.map (some b)) (secV p) (.bool true)).run Tryz.prog w = .ok () w' ∧ SetL w' b (q ++ [p]) ∧ Upd (· = b) w w' := by
  obtain ⟨l, hl⟩ := sec_key h1 h2
  obtain ⟨w', hrun, hm, u⟩ := MapL.store_new h secKeyed Tryz.underlying179 hg hl (fun x hx e => by
    obtain ⟨y, hy, rfl⟩ := List.mem_map.1 hx
    exact hn (secV_inj e ▸ hy)) (.bool true)
  exact ⟨w', hrun, by unfold SetL; rw [List.map_append]; exact hm, u⟩

/-! ### The disk -/
/-- Where a disk lies: its block, its two maps', the values of its two slices. -/
structure DiskR where
  db : Nat
  fm : Nat
  sm : Nat
  qv : Value
  kv : Value
/-- The blocks that belong to a disk. -/
def DiskR.foot (r : DiskR) (k : Nat) : Prop := k = r.db ∨ k = r.fm ∨ k = r.sm ∨ r.qv.ownBlock = some k ∨ r.kv.ownBlock = some k
def diskC (r : DiskR) (D : Dk.Disk) : Array Value := #[.map (some r.fm), r.qv, .map (some r.sm), .int .i64 D.lost, .bool D.down, .int .i64 D.armed, r.kv]
def flatQ (q : List (Int × Int)) : List Value := (q.map secL).flatten
theorem flatQ_snoc (q : List (Int × Int)) (p : Int × Int) : flatQ (q ++ [p]) = flatQ q ++ secL p := by simp [flatQ]
/-- In the blocks from B on lies the disk r, in the state D. -/
structure DiskAt (B : Nat) (w : World) (r : DiskR) (D : Dk.Disk) : Prop where
  hb : nG ≤ B
  db : B ≤ r.db
  fm : B ≤ r.fm
  sm : B ≤ r.sm
  ne : r.fm ≠ r.sm
  blk : w.heap[r.db]? = some (.cells (diskC r D) tDisk (0, 0))
  files : FilesL w r.fm D.fs
  set : SetL w r.sm D.q
  queue : w.ownsRow B tSec 2 r.qv D.q.length (flatQ D.q)
  keep : w.ownsRow B tIntD 1 r.kv D.keep.length (D.keep.map intD)
  ok : Dk.Ok D
  kI : ∀ x ∈ D.keep, I64 x
theorem own_blockD {B sz : Nat} {e : TypeId} {w : World} {v : Value} {n : Nat} {xs : List Value} (h : w.ownsRow B e sz v n xs) {k : Nat} (hk : v.ownBlock = some k) : B ≤ k ∧ ∃ cs, w.heap[k]? = some (.cells cs e (0, 0)) := by
  rcases h.2 with ⟨rfl, _⟩ | ⟨g, cap, cur, rfl, hb, hg, _⟩
  · cases hk
  · obtain rfl : g = k := by simpa [Value.ownBlock] using hk
    exact ⟨hb, _, hg⟩
theorem owns_updD {B sz : Nat} {S : Nat → Prop} {e : TypeId} {w w' : World} {v : Value} {n : Nat} {xs : List Value} (h : w.ownsRow B e sz v n xs) (u : Upd S w w') (hs : ∀ k, v.ownBlock = some k → ¬ S k) : w'.ownsRow B e sz v n xs := by
  obtain ⟨h1, h2⟩ := h
  refine ⟨h1, ?_⟩
  rcases h2 with h2 | ⟨g, cap, cur, rfl, hb, hg, r⟩
  · exact Or.inl h2
  · exact Or.inr ⟨g, cap, cur, rfl, hb, u.keep hg (hs g rfl), r⟩
section
variable {B : Nat} {w w' : World} {r : DiskR} {D : Dk.Disk}
theorem DiskAt.foot_lt (h : DiskAt B w r D) {k : Nat} (hk : r.foot k) : B ≤ k ∧ k < w.heap.size := by
  rcases hk with rfl | rfl | rfl | hk | hk
  · exact ⟨h.db, lt_of_block h.blk⟩
  · exact ⟨h.fm, h.files.lt⟩
  · exact ⟨h.sm, h.set.lt⟩
  · obtain ⟨h1, cs, h2⟩ := own_blockD h.queue hk
    exact ⟨h1, lt_of_block h2⟩
  · obtain ⟨h1, cs, h2⟩ := own_blockD h.keep hk
    exact ⟨h1, lt_of_block h2⟩
theorem DiskAt.upd {S : Nat → Prop} (h : DiskAt B w r D) (u : Upd S w w') (hs : ∀ k, r.foot k → ¬ S k) : DiskAt B w' r D :=
  ⟨h.hb, h.db, h.fm, h.sm, h.ne, u.keep h.blk (hs _ (Or.inl rfl)), h.files.upd u (hs _ (Or.inr (Or.inl rfl))), h.set.upd u (hs _ (Or.inr (Or.inr (Or.inl rfl)))),
    owns_updD h.queue u (fun k hk => hs k (Or.inr (Or.inr (Or.inr (Or.inl hk))))), owns_updD h.keep u (fun k hk => hs k (Or.inr (Or.inr (Or.inr (Or.inr hk))))), h.ok, h.kI⟩
theorem DiskAt.nw (h : DiskAt B w r D) (u : Nw w w') : DiskAt B w' r D := h.upd u (fun _ _ s => s)
theorem DiskAt.cells (h : DiskAt B w r D) :
    w.cell? ⟨r.db, 0, none⟩ = some (.map (some r.fm)) ∧ w.cell? ⟨r.db, 1, none⟩ = some r.qv ∧ w.cell? ⟨r.db, 2, none⟩ = some (.map (some r.sm)) ∧ w.cell? ⟨r.db, 3, none⟩ = some (.int .i64 D.lost) ∧
    w.cell? ⟨r.db, 4, none⟩ = some (.bool D.down) ∧ w.cell? ⟨r.db, 5, none⟩ = some (.int .i64 D.armed) ∧ w.cell? ⟨r.db, 6, none⟩ = some r.kv := by
  refine ⟨?_, ?_, ?_, ?_, ?_, ?_, ?_⟩ <;> (rw [cells_cell h.blk]; rfl)
theorem DiskAt.frozen (h : DiskAt B w r D) (i : Nat) : w.frozen? ⟨r.db, i, none⟩ = false := cells_frozen h.blk i
/-- A disk's blocks are different ones. -/
theorem DiskAt.apart (h : DiskAt B w r D) : r.db ≠ r.fm ∧ r.db ≠ r.sm ∧ r.qv.ownBlock ≠ some r.db ∧ r.qv.ownBlock ≠ some r.fm ∧ r.qv.ownBlock ≠ some r.sm ∧ r.kv.ownBlock ≠ some r.db ∧ r.kv.ownBlock ≠ some r.fm ∧ r.kv.ownBlock ≠ some r.sm ∧ (∀ k, r.qv.ownBlock = some k → r.kv.ownBlock ≠ some k) := by
  have hm : ∀ {b : Nat} {k : TypeId} {l : List (Value × Value)} {cs : Array Value} {T : TypeId}, MapL Tryz.prog k w b l → w.heap[b]? = some (.cells cs T (0, 0)) → False := fun {b k l cs T} hl e => by
    obtain ⟨es, clock, e2, _⟩ := hl
    rw [e] at e2
    cases e2
  have hf : ∃ l, MapL Tryz.prog tIntD w r.fm l := by obtain ⟨l, h1, _⟩ := h.files; exact ⟨l, h1⟩
  obtain ⟨lf, hf⟩ := hf
  have hs : MapL Tryz.prog tSec w r.sm _ := h.set
  have hb := h.blk
  refine ⟨fun e => hm hf (by rw [← e]; exact hb), fun e => hm hs (by rw [← e]; exact hb), fun e => ?_, fun e => ?_, fun e => ?_, fun e => ?_, fun e => ?_, fun e => ?_, fun k e1 e2 => ?_⟩
  · obtain ⟨_, cs, e2⟩ := own_blockD h.queue e
    rw [hb] at e2
    injection e2 with e2
    injection e2 with _ e2
    exact absurd e2 (by decide)
  · obtain ⟨_, cs, e2⟩ := own_blockD h.queue e
    exact hm hf e2
  · obtain ⟨_, cs, e2⟩ := own_blockD h.queue e
    exact hm hs e2
  · obtain ⟨_, cs, e2⟩ := own_blockD h.keep e
    rw [hb] at e2
    injection e2 with e2
    injection e2 with _ e2
    exact absurd e2 (by decide)
  · obtain ⟨_, cs, e2⟩ := own_blockD h.keep e
    exact hm hf e2
  · obtain ⟨_, cs, e2⟩ := own_blockD h.keep e
    exact hm hs e2
  · obtain ⟨_, cs, e3⟩ := own_blockD h.queue e1
    obtain ⟨_, cs', e4⟩ := own_blockD h.keep e2
    rw [e3] at e4
    injection e4 with e4
    injection e4 with _ e4
    exact absurd e4 (by decide)
/-- What a call leaves of a disk: it lies in the same block, other blocks of it are old ones or new. -/
def DiskTo (B : Nat) (r : DiskR) (D' : Dk.Disk) (w w' : World) : Prop :=
  ∃ r', DiskAt B w' r' D' ∧ r'.db = r.db ∧ Upd r.foot w w' ∧ ∀ j, r'.foot j → r.foot j ∨ w.heap.size ≤ j
theorem DiskTo.refl (h : DiskAt B w r D) : DiskTo B r D w w := ⟨r, h, rfl, Upd.refl _ _, fun j hj => Or.inl hj⟩
theorem DiskTo.of_nw (h : DiskAt B w r D) (u : Nw w w') : DiskTo B r D w w' := ⟨r, h.nw u, rfl, Nw.upd _ u, fun j hj => Or.inl hj⟩
theorem DiskTo.nw {D' : Dk.Disk} {w2 : World} (h : DiskTo B r D' w w') (u : Nw w' w2) : DiskTo B r D' w w2 := by
  obtain ⟨r', h1, h2, h3, h4⟩ := h
  exact ⟨r', h1.nw u, h2, h3.nw u, h4⟩
theorem DiskTo.after {D' : Dk.Disk} {w0 : World} (u : Nw w0 w) (h : DiskTo B r D' w w') : DiskTo B r D' w0 w' := by
  obtain ⟨r', h1, h2, h3, h4⟩ := h
  exact ⟨r', h1, h2, Nw.trans u h3, fun j hj => (h4 j hj).imp id (fun e => by have := u.size; omega)⟩
end
end Go.Proofs.YtagmlemlagbfkaaGreatDoor
namespace Go.Proofs.YtagmlemlagbfkaaGreatDoor
open Go.RowKit
set_option linter.unusedVariables false
set_option linter.unusedSimpArgs false
attribute [local irreducible] Calls

/-! ### A slice of bytes that the call makes, fills, and turns to a string -/
theorem byteCells_append (a b : List UInt8) : Lib.byteCells (a ++ b) = Lib.byteCells a ++ Lib.byteCells b := by simp [Lib.byteCells]
theorem byteCells_take (a : List UInt8) (n : Nat) : (Lib.byteCells a).take n = Lib.byteCells (a.take n) := by simp [Lib.byteCells]
theorem byteCells_drop (a : List UInt8) (n : Nat) : (Lib.byteCells a).drop n = Lib.byteCells (a.drop n) := by simp [Lib.byteCells]
theorem byteCells_get (a : List UInt8) (j : Nat) (h : j < a.length) : (Lib.byteCells a)[j]? = some (.int .u8 (a[j].toNat : Int)) := by simp [Lib.byteCells, h]
theorem madeB (n : Nat) : madeCells (Value.int .u8 0).cells n = (Lib.byteCells (List.replicate n 0)).toArray := by
  apply Array.ext'
  refine List.ext_getElem? (fun j => ?_)
  simp only [madeCells, Value.cells, Lib.byteCells, Array.toList_map, Array.toList_range, List.getElem?_map]
  by_cases hj : j < n
  · rw [List.getElem?_range hj, List.getElem?_replicate, if_pos hj]
    simp [Nat.mod_one]
  · rw [List.getElem?_eq_none (by simpa using hj), List.getElem?_eq_none (by simpa using hj)]
    rfl
section
variable {P : Program} {w : World} {ops : Array Oper} {rest : List Oper} {o : Oper} {a : Act} {Q : Exit → Act → World → Prop}
/-- 'make([]byte, n)'. -/
theorem wpList_makeB (hgd : o.guard = none) (l c : Operand) (t e : TypeId) (hop : o.op = Op.makeSlice t l c) (ht : P.underlying t = some (.slice e)) (hinfo : (P.info? e).map (fun i => (i.zero, i.size, i.bytes)) = some (some (.int .u8 0), 1, 1))
    (n : Nat) (hl : a.eval l = .int .i64 n) (hc : a.eval c = .int .i64 n) (hn : n ≤ 281474976710656)
    (h : ∀ w', w'.heap[w.heap.size]? = some (.cells (Lib.byteCells (List.replicate n 0)).toArray e (0, 0)) → Nw w w' → wpList P ops Q rest (a.put o.dst (.slice (some ⟨w.heap.size, 0, none⟩) n n)) w') : wpList P ops Q (o :: rest) a w := by
  obtain ⟨i0, hi, hz0, hz1, hz2⟩ := info_parts hinfo
  have hrun := run_make (P := P) w t e i0 (.int .u8 0) ht hi hz0 .i64 .i64 n n (by omega) (Int.le_refl _) (by rw [hz2]; omega) (by omega)
  rw [Int.toNat_natCast, hz1, Nat.mul_one, madeB] at hrun
  refine wpList_plain hgd fun K hK => ?_
  unfold Oper.wp
  simp [execOp, hop, hl, hc, hrun, Result.andThen]
  exact hK _ _ (h _ (heap_new w _) (nw_alloc w _))
/-- 'copy(b, s)', s a string that fits. -/
theorem wpList_copyB (hgd : o.guard = none) (d s : Operand) (dT sT : TypeId) (ho : o.op = .call { callee := .builtin .copy, args := #[d, s], argTypes := #[dT, sT] }) (elem : TypeId) (hu : P.underlying dT = some (.slice elem)) (hsz : (P.info? elem).map (·.size) = some 1)
    (g off dLen dCap : Nat) (hd : a.eval d = .slice (some ⟨g, off, none⟩) dLen dCap) (t : ByteArray) (hs : a.eval s = .string t) (cur : List UInt8) (T : TypeId) (hg : w.heap[g]? = some (.cells (Lib.byteCells cur).toArray T (0, 0))) (hle : t.size ≤ dLen) (hfit : off + t.size ≤ cur.length) (hG : nG ≤ g)
    (h : ∀ w', w'.heap[g]? = some (.cells (Lib.byteCells (cur.take off ++ t.data.toList ++ cur.drop (off + t.size))).toArray T (0, 0)) → Upd (fun x => x = g) w w' → wpList P ops Q rest (a.put o.dst (goInt t.size)) w') : wpList P ops Q (o :: rest) a w := by
  have hrun := Lib.run_copy_row_string (P := P) w dT sT o.type elem g off dLen dCap t (Lib.byteCells cur).toArray T hu hsz hg hle (by simpa [Lib.byteCells] using hfit)
  refine wpList_plain hgd fun K hK => ?_
  unfold Oper.wp
  simp [execOp, ho, resolve, invoke, builtin, hd, hs, hrun, Result.andThen]
  refine hK _ _ (h _ ?_ ?_)
  · have e : List.take off (Lib.byteCells cur) ++ (Lib.byteCells t.data.toList ++ List.drop (off + t.size) (Lib.byteCells cur)) = Lib.byteCells (cur.take off ++ t.data.toList ++ cur.drop (off + t.size)) := by
      rw [byteCells_take, byteCells_drop, ← byteCells_append, ← byteCells_append, List.append_assoc]
    rw [e]
    exact setRow_heap w g _ _ T _ hg
  · refine ⟨rfl, rfl, rfl, by simp [World.setRow], fun k hk hn => setRow_other w g k _ ?_⟩
    rintro rfl
    rcases hn with hn | hn
    · omega
    · exact hn rfl
end
namespace Dk
theorem put_fill (s t : List UInt8) (i n : Nat) (ht : t ≠ []) (hn : n = max s.length (i + t.length)) :
    ((s ++ List.replicate (n - s.length) 0).take i ++ t ++ (s ++ List.replicate (n - s.length) 0).drop (i + t.length)) = put s i t := by
  unfold put
  rw [if_neg ht, List.take_append, List.drop_append, List.take_replicate, List.drop_replicate]
  rw [show min (i - s.length) (n - s.length) = i - s.length by omega, show n - s.length - (i + t.length - s.length) = 0 by omega]
  simp
end Dk
theorem infoByte : (Tryz.prog.info? 5).map (fun i => (i.zero, i.size, i.bytes)) = some (some (.int .u8 0), 1, 1) := by kernel_rfl
set_option maxHeartbeats 1000000 in
theorem put_c (s t : List UInt8) (i : Nat) (w : World) (g : Gl w) (hs : s.length ≤ 16777216) (hi : i + t.length ≤ 16777216) :
    Calls Tryz.prog 113 #[.string ⟨s.toArray⟩, .int .i64 i, .string ⟨t.toArray⟩] w fun e w' => e = .returned (.string ⟨(Dk.put s i t).toArray⟩) ∧ Nw w w' := by
  have hgb := g.big
  by_cases ht : t = []
  · subst ht
    have hr : Hid (Dk.put s i [] = s) := by show _ = _; unfold Dk.put; rw [if_pos rfl]
    go_enter Tryz.func113, Tryz.ntmps113
    go_wp2_with fail
    go_ret
    exact ⟨by rw [hr.out]; rfl, Upd.refl _ _⟩
  · have htl : 0 < t.length := List.length_pos_iff.2 ht
    have hT : Hid (t ≠ []) := ht
    have hte : t.isEmpty = false := by cases t with | nil => exact absurd rfl ht | cons _ _ => rfl
    have hte2 : (t == ([] : List UInt8)) = false := by cases t with | nil => exact absurd rfl ht | cons _ _ => rfl
    obtain ⟨n, hn⟩ : ∃ n, n = max s.length (i + t.length) := ⟨_, rfl⟩
    have hfn := Dk.put_fill s t i n ht hn
    have hmx : max (s.length : Int) ((i : Int) + t.length) = (n : Int) := by rw [hn]; omega
    have hn1 : s.length ≤ n := by omega
    have hn2 : i + t.length ≤ n := by omega
    have hn3 : n ≤ 16777216 := by omega
    have Hfn := Lib.hid hfn
    have Hn := Lib.hid hn
    have Hn1 := Lib.hid hn1
    have Hn2 := Lib.hid hn2
    have Hn3 := Lib.hid hn3
    have Htl := Lib.hid htl
    have b1 : (s.length : Int) ≤ 16777216 := by omega
    have b2 : (i : Int) + t.length ≤ 16777216 := by omega
    have Hmx := Lib.hid hmx
    clear hfn hn hn1 hn2 hn3 hs hi htl hmx ht
    go_enter Tryz.func113, Tryz.ntmps113
    have hsz1 : ((⟨s.toArray⟩ : ByteArray).size) = s.length := by simp [ByteArray.size]
    have Hsz1 := Lib.hid hsz1
    have hsz2 : ((⟨t.toArray⟩ : ByteArray).size) = t.length := by simp [ByteArray.size]
    have Hsz2 := Lib.hid hsz2
    have hlr : (Lib.byteCells (List.replicate n 0)).length = n := by simp [Lib.byteCells]
    clear hsz1 hsz2 hlr
    go_wp2_with (at_make; refine wpList_makeB rfl _ _ 168 5 rfl Tryz.underlying168 infoByte n (congrArg (Value.int .i64) Hmx.out) (congrArg (Value.int .i64) Hmx.out) (by have := Hn3.out; omega) ?_)
    intro w1 hb1 u1
    have Hb1 := Lib.hid hb1
    clear hb1
    go_wp2_with (refine wpList_copyB rfl _ _ 168 9 rfl 5 Tryz.underlying168 (by kernel_rfl) w.heap.size 0 n n rfl ⟨s.toArray⟩ rfl (List.replicate n 0) 5 Hb1.out (by rw [Hsz1.out]; exact Hn1.out) (by rw [Hsz1.out, List.length_replicate]; have := Hn1.out; omega) hgb ?_)
    intro w2 hb2 u2
    have Hb2 := Lib.hid hb2
    clear hb2
    have hlt : i < n := by have := Hn2.out; have := Htl.out; omega
    have hle : (i : Int) ≤ n := by omega
    have HU2 : Hid (Nw w w2) := u1.trans' u2 (fun k hk e => by omega)
    have hb2' : w2.heap[w.heap.size]? = some (.cells (Lib.byteCells (s ++ List.replicate (n - s.length) 0)).toArray 5 (0, 0)) := by simpa using Hb2.out
    have Hb3 := Lib.hid hb2'
    clear u2 Hb2 Hb1 u1 hb2'
    go_wp2_with (refine wpList_copyB rfl _ _ 168 9 rfl 5 Tryz.underlying168 (by kernel_rfl) w.heap.size i _ _ rfl ⟨t.toArray⟩ rfl (s ++ List.replicate (n - s.length) 0) 5 Hb3.out (by rw [Hsz2.out]; have := Hn2.out; omega) (by rw [Hsz2.out, List.length_append, List.length_replicate]; have := Hn2.out; have := Hn1.out; omega) hgb ?_)
    intro w3 hb3 u3
    have HU3 : Hid (Nw w w3) := HU2.out.trans' u3 (fun k hk e => by omega)
    have hb3' : w3.heap[w.heap.size]? = some (.cells (Lib.byteCells (Dk.put s i t)).toArray 5 (0, 0)) := by
      rw [← Hfn.out, hb3, List.append_assoc]
    have hpl : (Dk.put s i t).length = n := by rw [Dk.put_len s i t hT.out, Hn.out]
    have hcv := run_convert_bytes_back (P := Tryz.prog) w3 168 9 5 ⟨w.heap.size, 0, none⟩ n (Dk.put s i t) Tryz.underlying168 Tryz.underlying5 Tryz.underlying9 (fun j hj => by
      rw [add_plain, cells_cell hb3', Nat.zero_add]
      simpa using byteCells_get (Dk.put s i t) j hj)
    rw [hpl] at hcv
    clear u3 Hb3 hb3 hb3' hpl Hfn
    go_wp2_with fail
    go_ret
    exact ⟨rfl, HU3.out⟩
theorem dnew_c (w : World) (g : Gl w) : Calls Tryz.prog 36 #[] w fun e w' => ∃ r, e = .returned (.pointer (some ⟨r.db, 0, none⟩)) ∧ DiskAt w.heap.size w' r Dk.new ∧ Nw w w' := by
  have hmm := @run_makeMap Tryz.prog
  have hgb := g.big
  have f1 := FilesL.made w
  have n1 := nw_alloc w (.map #[] 0)
  have s2 := SetL.made (w.alloc (.map #[] 0))
  have n2 := nw_alloc (w.alloc (.map #[] 0)) (.map #[] 0)
  have n3 := nw_alloc ((w.alloc (.map #[] 0)).alloc (.map #[] 0)) (.cells #[.map (some w.heap.size), .slice none 0 0, .map (some (w.heap.size + 1)), .int .i64 0, .bool false, .int .i64 0, .slice none 0 0] tDisk)
  have k3 := heap_new ((w.alloc (.map #[] 0)).alloc (.map #[] 0)) (.cells #[.map (some w.heap.size), .slice none 0 0, .map (some (w.heap.size + 1)), .int .i64 0, .bool false, .int .i64 0, .slice none 0 0] tDisk)
  have F := Lib.hid ((f1.upd n2 id).upd n3 id)
  have S := Lib.hid (s2.upd n3 id)
  have U := Lib.hid ((n1.trans n2).trans n3)
  have K := Lib.hid k3
  clear f1 s2 n1 n2 n3 k3
  go_enter Tryz.func36, Tryz.ntmps36
  go_wp2_with fail
  go_ret
  refine ⟨⟨w.heap.size + 1 + 1, w.heap.size, w.heap.size + 1, .slice none 0 0, .slice none 0 0⟩, by simp, ⟨g.big, (by show w.heap.size ≤ w.heap.size + 1 + 1; omega), (by show w.heap.size ≤ w.heap.size; omega), (by show w.heap.size ≤ w.heap.size + 1; omega), (by show w.heap.size ≠ w.heap.size + 1; omega), ?_, F.out, ?_, World.ownsRow_nil _ _ _ _, World.ownsRow_nil _ _ _ _, Dk.new_ok, fun x hx => by cases hx⟩, U.out⟩
  · have := K.out
    rw [show ((w.alloc (.map #[] 0)).alloc (.map #[] 0)).heap.size = w.heap.size + 1 + 1 by simp] at this
    exact this
  · have := S.out
    rw [show (w.alloc (.map #[] 0)).heap.size = w.heap.size + 1 by simp] at this
    exact this
section
variable {B : Nat} {w : World} {r : DiskR} {D : Dk.Disk}
theorem may_c (h : DiskAt B w r D) (f : Int) :
    Calls Tryz.prog 197 #[.pointer (some ⟨r.db, 0, none⟩), .int .i64 f] w fun e w' => e = .returned (.int .i64 (Dk.may D f)) ∧ w = w' := by
  obtain ⟨_, _, _, _, c4, _, _⟩ := h.cells
  cases hd : D.down with
  | true =>
    rw [hd] at c4
    have hr : Hid (Dk.may D f = 8) := by show _ = _; unfold Dk.may; rw [hd, if_pos rfl]
    clear h hd
    go_enter Tryz.func197, Tryz.ntmps197
    go_wp2_with fail
    go_ret
    exact ⟨by rw [hr.out]; rfl, rfl⟩
  | false =>
    rw [hd] at c4
    have hr0 : Dk.may D f = if f < 0 ∨ 16 ≤ f then 1 else 0 := by unfold Dk.may; rw [hd, if_neg (by decide)]
    by_cases h1 : f < 0
    · have hr : Hid (Dk.may D f = 1) := by show _ = _; rw [hr0, if_pos (Or.inl h1)]
      clear h hd hr0
      go_enter Tryz.func197, Tryz.ntmps197
      go_wp2_with fail
      go_ret
      exact ⟨by rw [hr.out]; rfl, rfl⟩
    by_cases h2 : 16 ≤ f
    · have hr : Hid (Dk.may D f = 1) := by show _ = _; rw [hr0, if_pos (Or.inr h2)]
      clear h hd hr0
      go_enter Tryz.func197, Tryz.ntmps197
      go_wp2_with fail
      go_ret
      exact ⟨by rw [hr.out]; rfl, rfl⟩
    · have hr : Hid (Dk.may D f = 0) := by show _ = _; rw [hr0, if_neg (by omega)]
      clear h hd hr0
      go_enter Tryz.func197, Tryz.ntmps197
      go_wp2_with fail
      go_ret
      exact ⟨by rw [hr.out]; rfl, rfl⟩
/-- A cell of the disk's block is stored into. -/
theorem DiskAt.store {D' : Dk.Disk} (h : DiskAt B w r D) (i : Nat) (v : Value) (hc : (diskC r D).setIfInBounds i v = diskC r D') (e1 : D'.fs = D.fs) (e2 : D'.q = D.q) (e3 : D'.keep = D.keep) (hk : Dk.Ok D') :
    DiskAt B (w.setCell ⟨r.db, i, none⟩ v) r D' ∧ Upd (fun k => k = r.db) w (w.setCell ⟨r.db, i, none⟩ v) := by
  obtain ⟨a1, a2, a3, a4, a5, a6, a7, a8, a9⟩ := h.apart
  have hb := h.hb
  have hdb := h.db
  have u : Upd (fun k => k = r.db) w (w.setCell ⟨r.db, i, none⟩ v) := Upd.set1 (Upd.refl _ _) (by omega) i v
  refine ⟨⟨h.hb, h.db, h.fm, h.sm, h.ne, by rw [← hc]; exact setCell_block h.blk i v, ?_, ?_, ?_, ?_, hk, by rw [e3]; exact h.kI⟩, u⟩
  · rw [e1]; exact h.files.upd u (fun e => a1 e.symm)
  · rw [e2]; exact h.set.upd u (fun e => a2 e.symm)
  · rw [e2]; exact owns_updD h.queue u (fun k hk2 e => by subst e; exact a3 hk2)
  · rw [e3]; exact owns_updD h.keep u (fun k hk2 e => by subst e; exact a6 hk2)
theorem DiskTo.set {D' : Dk.Disk} (h : DiskAt B w r D) (i : Nat) (v : Value) (hc : (diskC r D).setIfInBounds i v = diskC r D') (e1 : D'.fs = D.fs) (e2 : D'.q = D.q) (e3 : D'.keep = D.keep) (hk : Dk.Ok D') :
    DiskTo B r D' w (w.setCell ⟨r.db, i, none⟩ v) := by
  obtain ⟨h1, u⟩ := h.store i v hc e1 e2 e3 hk
  exact ⟨r, h1, rfl, u.mono (fun k _ e => Or.inl e), fun j hj => Or.inl hj⟩
theorem ends_c (h : DiskAt B w r D) :
    Calls Tryz.prog 196 #[.pointer (some ⟨r.db, 0, none⟩)] w fun e w' => e = .returned (.bool (Dk.ends D)) ∧ DiskTo B r (Dk.counted D) w w' := by
  obtain ⟨_, _, _, _, c4, c5, _⟩ := h.cells
  have f5 := h.frozen 5
  have hok := Dk.counted_ok h.ok
  have har := h.ok.armed
  have hset := fun (hd : ¬ (D.down = true ∨ D.armed = 0)) => DiskTo.set (D' := Dk.counted D) h 5 (.int .i64 (D.armed - 1)) (by unfold Dk.counted; rw [if_neg hd]; rfl) (by unfold Dk.counted; rw [if_neg hd]) (by unfold Dk.counted; rw [if_neg hd]) (by unfold Dk.counted; rw [if_neg hd]) hok
  have Hset := Lib.hid hset
  have H := Lib.hid h
  have har1 : 0 ≤ D.armed := har.1
  have har2 : D.armed ≤ 9223372036854775807 := har.2
  clear hset h hok har
  cases hd : D.down with
  | true =>
    rw [hd] at c4
    have hr : Hid (Dk.ends D = false) := by show _ = _; unfold Dk.ends; rw [hd]; rfl
    have hc : Hid (Dk.counted D = D) := by show _ = _; unfold Dk.counted; rw [if_pos (Or.inl hd)]
    clear hd Hset
    go_enter Tryz.func196, Tryz.ntmps196
    go_wp2_with fail
    go_ret
    exact ⟨by rw [hr.out]; rfl, by rw [hc.out]; exact DiskTo.refl H.out⟩
  | false =>
    rw [hd] at c4
    by_cases h0 : D.armed = 0
    · have hr : Hid (Dk.ends D = false) := by show _ = _; unfold Dk.ends; rw [hd, h0]; rfl
      have hc : Hid (Dk.counted D = D) := by show _ = _; unfold Dk.counted; rw [if_pos (Or.inr h0)]
      have d0 : (D.armed == 0) = true := beq_iff_eq.2 h0
      clear hd Hset h0
      go_enter Tryz.func196, Tryz.ntmps196
      go_wp2_with fail
      go_ret
      exact ⟨by rw [hr.out]; rfl, by rw [hc.out]; exact DiskTo.refl H.out⟩
    · have d0 : (D.armed == 0) = false := beq_eq_false_iff_ne.2 h0
      have hs := Hset.out (by rw [hd]; simp [h0])
      have Hs := Lib.hid hs
      have ha : 0 ≤ D.armed - 1 := by omega
      have he : Dk.ends D = (D.armed - 1 == 0) := by
        unfold Dk.ends
        rw [hd]
        by_cases h1 : D.armed = 1
        · rw [h1]; rfl
        · rw [decide_eq_false h1, beq_eq_false_iff_ne.2 (show D.armed - 1 ≠ 0 by omega)]; rfl
      have He := Lib.hid he
      clear hd Hset hs he h0
      go_enter Tryz.func196, Tryz.ntmps196
      go_wp2_with fail
      go_ret
      exact ⟨by rw [He.out]; rfl, Hs.out⟩
theorem field_now (x : Dk.Fil) (w : World) : (Instr.field tFile (.agg #[.string ⟨x.now.toArray⟩, .string ⟨x.last.toArray⟩]) 0).run Tryz.prog w = .ok (.string ⟨x.now.toArray⟩) w := by
  simp [Instr.field, run_underlying Tryz.underlying199, part, asAgg]
  done
/-- A field of a struct that a look-up gave. -/
theorem wpList_fieldL {P : Program} {w : World} {ops : Array Oper} {rest : List Oper} {o : Oper} {a : Act} {Q : Exit → Act → World → Prop} (hg : o.guard = none) (x : Operand) (t : TypeId) (i : Nat) (hop : o.op = Op.field t x i)
    (vx v : Value) (hrun : (Instr.field t vx i).run P w = .ok v w) (hx : a.eval x = vx) (h : wpList P ops Q rest (a.put o.dst v) w) : wpList P ops Q (o :: rest) a w := by
  refine wpList_plain hg fun K hK => ?_
  unfold Oper.wp
  simp [execOp, hop, hx, hrun, Result.andThen]
  exact hK _ _ h
theorem size_c (h : DiskAt B w r D) {f : Int} (hf : I64 f) :
    Calls Tryz.prog 160 #[.pointer (some ⟨r.db, 0, none⟩), .int .i64 f] w fun e w' => e = .returned (.int .i64 (Dk.size D f)) ∧ w = w' := by
  obtain ⟨c0, _, _, _, _, _, _⟩ := h.cells
  have hl := h.files.look hf
  unfold filV at hl
  have hr : Hid (Dk.size D f = (D.fs f).now.length) := rfl
  have Hl := Lib.hid hl
  have Hf := Lib.hid (field_now (D.fs f) w)
  clear h hl
  go_enter Tryz.func160, Tryz.ntmps160
  go_wp2_with (first | (at_lookup; refine wpList_lookL rfl _ _ tFiles false rfl _ _ _ rfl rfl Hl.out ?_) | (with_reducible refine wpList_fieldL (o := ⟨some 11, _, _, _, _, _⟩) rfl _ tFile 0 rfl _ _ Hf.out (by with_unfolding_all rfl) ?_))
  go_ret
  exact ⟨by rw [hr.out]; rfl, rfl⟩
theorem start_c (h : DiskAt B w r D) : Calls Tryz.prog 49 #[.pointer (some ⟨r.db, 0, none⟩)] w fun e w' => e = .returned (.tuple #[]) ∧ DiskTo B r (Dk.start D) w w' := by
  obtain ⟨_, _, _, _, c4, _, _⟩ := h.cells
  have f4 := h.frozen 4
  have hs := Lib.hid (DiskTo.set (D' := Dk.start D) h 4 (.bool false) rfl rfl rfl rfl (Dk.start_ok h.ok))
  clear h
  go_enter Tryz.func49, Tryz.ntmps49
  go_wp2_with fail
  go_end0
  exact ⟨rfl, hs.out⟩
theorem read_ret (s : List UInt8) (i n : Nat) : Ending.returned (.tuple #[.string (((⟨s.toArray⟩ : ByteArray).extract (min (i : Int) s.length).toNat s.length).extract 0 (min (n : Int) ↑(s.length - (min (i : Int) s.length).toNat)).toNat), .int .i64 0]) =
    Ending.returned (.tuple #[.string ⟨((s.drop (i : Int).toNat).take (n : Int).toNat).toArray⟩, .int .i64 0]) := by
  rw [bs_extract, bs_extract]
  have e : List.take ((min (n : Int) ↑(s.length - (min (i : Int) s.length).toNat)).toNat - 0) (List.drop 0 (List.take (s.length - (min (i : Int) s.length).toNat) (List.drop (min (i : Int) s.length).toNat s))) = (s.drop (i : Int).toNat).take (n : Int).toNat := by
    refine List.ext_getElem? (fun k => ?_)
    simp only [List.drop_zero, List.getElem?_take, List.getElem?_drop, Int.toNat_natCast]
    by_cases hi : i ≤ s.length
    · have ha : (min (i : Int) s.length).toNat = i := by omega
      rw [ha]
      by_cases hk : k < n
      · rw [if_pos hk]
        by_cases h2 : i + k < s.length
        · rw [if_pos (by omega), if_pos (by omega)]
        · rw [List.getElem?_eq_none (by omega)]; split <;> (try split) <;> rfl
      · rw [if_neg hk, if_neg (by omega)]
    · have h0 : s[i + k]? = none := List.getElem?_eq_none (by omega)
      rw [h0, if_neg (by omega)]; split <;> rfl
  rw [e]
set_option maxHeartbeats 400000 in
set_option maxRecDepth 100000 in
theorem read_c (h : DiskAt B w r D) {f i n : Int} (hf : I64 f) (hi : I64 i) (hn : I64 n) :
    Calls Tryz.prog 159 #[.pointer (some ⟨r.db, 0, none⟩), .int .i64 f, .int .i64 i, .int .i64 n] w fun e w' => e = .returned (.tuple #[.string ⟨(Dk.read D f i n).1.toArray⟩, .int .i64 (Dk.read D f i n).2]) ∧ w = w' := by
  obtain ⟨c0, _, _, _, _, _, _⟩ := h.cells
  have hl := h.files.look hf
  have hm := Lib.hid (may_c h f)
  have hnow := h.ok.now f
  unfold filV at hl
  have hfn := field_now (D.fs f) w
  generalize hA : (D.fs f).now = s at *
  generalize (D.fs f).last = s2 at *
  have Hl := Lib.hid hl
  have Hf := Lib.hid hfn
  clear hl hfn
  have Hnow := Lib.hid hnow
  clear h hnow
  by_cases hm0 : Dk.may D f = 0
  rotate_left
  · have hr : Hid (Dk.read D f i n = ([], Dk.may D f)) := by show _ = _; unfold Dk.read; rw [if_pos hm0]
    have d0 : (Dk.may D f == 0) = false := beq_eq_false_iff_ne.2 hm0
    have d1 : (Dk.may D f != 0) = true := by simp [hm0]
    clear hm0 hA
    go_enter Tryz.func159, Tryz.ntmps159
    go_wp2_with fail
    (with_reducible refine (hm.out).mono ?_)
    rintro _ _ ⟨rfl, rfl⟩
    go_wp2_with fail
    go_ret2
    exact ⟨by rw [hr.out]; rfl, rfl⟩
  have hr0 : Dk.read D f i n = if i < 0 ∨ n < 0 then ([], 1) else ((s.drop i.toNat).take n.toNat, 0) := by unfold Dk.read; rw [if_neg (by omega), hA]
  rw [hm0] at hm
  clear hA hm0
  by_cases h1 : i < 0
  · have hr : Hid (Dk.read D f i n = ([], 1)) := by show _ = _; rw [hr0, if_pos (Or.inl h1)]
    clear hr0
    go_enter Tryz.func159, Tryz.ntmps159
    go_wp2_with fail
    (with_reducible refine (hm.out).mono ?_)
    rintro _ _ ⟨rfl, rfl⟩
    go_wp2_with fail
    go_ret2
    exact ⟨by rw [hr.out]; rfl, rfl⟩
  by_cases h2 : n < 0
  · have hr : Hid (Dk.read D f i n = ([], 1)) := by show _ = _; rw [hr0, if_pos (Or.inr h2)]
    clear hr0
    go_enter Tryz.func159, Tryz.ntmps159
    go_wp2_with fail
    (with_reducible refine (hm.out).mono ?_)
    rintro _ _ ⟨rfl, rfl⟩
    go_wp2_with fail
    go_ret2
    exact ⟨by rw [hr.out]; rfl, rfl⟩
  have hr : Hid (Dk.read D f i n = ((s.drop i.toNat).take n.toNat, 0)) := by show _ = _; rw [hr0, if_neg (by omega)]
  clear hr0
  obtain ⟨i, rfl⟩ : ∃ m : Nat, i = m := ⟨i.toNat, by omega⟩
  obtain ⟨n, rfl⟩ : ∃ m : Nat, n = m := ⟨n.toNat, by omega⟩
  go_enter Tryz.func159, Tryz.ntmps159
  go_wp2_with fail
  (with_reducible refine (hm.out).mono ?_)
  rintro _ _ ⟨rfl, rfl⟩
  go_wp2_with (first | (at_lookup; refine wpList_lookL rfl _ _ tFiles false rfl _ _ _ rfl rfl Hl.out ?_) | (with_reducible refine wpList_fieldL (o := ⟨some 30, _, _, _, _, _⟩) rfl _ tFile 0 rfl _ _ Hf.out (by with_unfolding_all rfl) ?_))
  go_ret2
  exact ⟨by rw [hr.out]; exact read_ret s i n, rfl⟩
end
end Go.Proofs.YtagmlemlagbfkaaGreatDoor
