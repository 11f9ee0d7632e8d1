/- The disk (layer 2) in memory: where it lies, what its maps answer and how they are stored into. -/
import Derived.Test.YtiambnllidingaaGreatDoorMapS
import Derived.Test.YtiambnllidingaaGreatDoorDskPl
import Derived.Test.YtiambnllidingaaGreatDoorLib
import Derived.Test.YtiambnllidingaaGreatDoorLaid
import Derived.Test.YtiambnllidingaaGreatDoorOwns
import Derived.DeepKeys5
namespace Go.Proofs.YtiambnllidingaaGreatDoor
open Go.RowKit Go.MapKept
open Go.Maps (Keyed)
set_option linter.unusedVariables false
set_option linter.unusedSimpArgs false
attribute [local irreducible] Calls

abbrev tDisk : TypeId := 87
abbrev tSec : TypeId := 103
abbrev tFile : TypeId := 105
abbrev tIntD : TypeId := 3
abbrev tFiles : TypeId := 83
abbrev tSet : TypeId := 84
def intD (n : Int) : Value := .int .i64 n
def bsV (s : List UInt8) : Value := .string ⟨s.toArray⟩
theorem bsV_inj {a b : List UInt8} (h : bsV a = bsV b) : a = b := by
  simp [bsV] at h
  exact h
def filV (x : Dk.Fil) : Value := .agg #[.string ⟨x.now.toArray⟩, .string ⟨x.last.toArray⟩]
def secV (p : Int × Int) : Value := .agg #[.int .i64 p.1, .int .i64 p.2]
def secL (p : Int × Int) : List Value := [.int .i64 p.1, .int .i64 p.2]
theorem secV_inj {p q : Int × Int} (h : secV p = secV q) : p = q := by
  simp [secV] at h
  exact Prod.ext h.1 h.2
theorem intKeyD : Keyed Tryz.prog tIntD := Maps.int_keyed Tryz.underlying3
theorem int_keyD {n : Int} (h : I64 n) : keyOf Tryz.prog tIntD (.int .i64 n) = some (.int .i64 n) := by
  unfold keyOf
  rw [Tryz.underlying3]
  unfold I64 at h
  simp [mapKey, Tryz.underlying3, i64_wf' h]
theorem secKeyed : Keyed Tryz.prog tSec := Keyed.of_law (deep_law_laid laidOut (m := 4) (by decide) (of_decide_eq_true (by kernel_rfl)) (by kernel_rfl) (by kernel_rfl))
/-- A struct of two ints can be read as a key. -/
theorem key_int_int {P : Program} {t ti : TypeId} {f1 f2 : Field} (hu : P.underlying t = some (.struct #[f1, f2])) (hi : P.underlying ti = some (.int .i64))
    (hk : P.keyType t = true) (h0 : 0 < P.types.size) (c : P.cellsOf t = 2) (ci : P.cellsOf ti = 1) (n1 : (f1.name != "_") = true) (n2 : (f2.name != "_") = true)
    (t1 : f1.type = ti) (t2 : f2.type = ti) (o1 : f1.offset = 0) (o2 : f2.offset = 1) (a b : Int) (ha : -9223372036854775808 ≤ a ∧ a ≤ 9223372036854775807) (hb : -9223372036854775808 ≤ b ∧ b ≤ 9223372036854775807) :
    ∃ l, keyOf P t (.agg #[.int .i64 a, .int .i64 b]) = some l := by
  obtain ⟨d, hd⟩ : ∃ d, P.types.size = d + 1 := ⟨P.types.size - 1, by omega⟩
  have n1' : ¬ f1.name = "_" := by simpa using n1
  have n2' : ¬ f2.name = "_" := by simpa using n2
  unfold keyOf
  rw [hu]
  simp [hk, Value.formed, hu, c, hd, Program.keyLits, hi, ci, i64_wf' ha, i64_wf' hb, Value.cells, n1', n2', t1, t2, o1, o2]
theorem sec_key {p : Int × Int} (h1 : I64 p.1) (h2 : I64 p.2) : ∃ l, keyOf Tryz.prog tSec (secV p) = some l :=
  key_int_int Tryz.underlying103 Tryz.underlying3 (by kernel_rfl) (of_decide_eq_true (by kernel_rfl)) (by kernel_rfl) (by kernel_rfl) (by decide) (by decide) rfl rfl rfl rfl _ _ h1 h2

/-! ### The files -/
/-- The entries l of the map of files say what fs says. -/
structure SaysF (l : List (Value × Value)) (fs : Int → Dk.Fil) : Prop where
  each : ∀ p ∈ l, ∃ f, I64 f ∧ p = (.int .i64 f, filV (fs f))
  none : ∀ f, (∀ p ∈ l, p.1 ≠ .int .i64 f) → fs f = Dk.noFil
theorem SaysF.put {l l' : List (Value × Value)} {fs : Int → Dk.Fil} (h : SaysF l fs) {f : Int} (hf : I64 f) (x : Dk.Fil) (hm : ∀ p, p ∈ l' ↔ (p ∈ l ∧ p.1 ≠ .int .i64 f) ∨ p = (.int .i64 f, filV x)) : SaysF l' (Dk.setF fs f x) := by
  refine ⟨fun p hp => ?_, fun g hg => ?_⟩
  · rcases (hm p).1 hp with ⟨h1, h2⟩ | rfl
    · obtain ⟨g, hg, rfl⟩ := h.each p h1
      have hne : g ≠ f := fun e => h2 (by rw [e])
      exact ⟨g, hg, by rw [Dk.setF_ne _ _ hne]⟩
    · exact ⟨f, hf, by rw [Dk.setF_self]⟩
  · have hne : g ≠ f := fun e => hg _ ((hm _).2 (Or.inr rfl)) (by rw [e])
    rw [Dk.setF_ne _ _ hne]
    exact h.none g (fun p hp e => hg p ((hm p).2 (Or.inl ⟨hp, fun e2 => hne (by rw [e] at e2; injection e2)⟩)) e)
def FilesL (w : World) (b : Nat) (fs : Int → Dk.Fil) : Prop := ∃ l, MapL Tryz.prog tIntD w b l ∧ SaysF l fs
theorem FilesL.lt {w : World} {b : Nat} {fs : Int → Dk.Fil} (h : FilesL w b fs) : b < w.heap.size := by obtain ⟨l, h1, _⟩ := h; exact h1.lt
theorem FilesL.upd {w w' : World} {b : Nat} {fs : Int → Dk.Fil} {S : Nat → Prop} (h : FilesL w b fs) (u : Upd S w w') (hn : ¬ S b) : FilesL w' b fs := by obtain ⟨l, h1, h2⟩ := h; exact ⟨l, h1.upd u hn, h2⟩
theorem filZero (w : World) : (zeroValue tFile).run Tryz.prog w = .ok (filV Dk.noFil) w := by kernel_rfl
theorem mapl_file {w : World} {b : Nat} {fs : Int → Dk.Fil} {l : List (Value × Value)} (h1 : MapL Tryz.prog tIntD w b l) (h2 : SaysF l fs) {f : Int} (hf : I64 f) :
    (Instr.lookup tFiles (.map (some b)) (.int .i64 f) false).run Tryz.prog w = .ok (filV (fs f)) w := by
  rcases h1.look intKeyD Tryz.underlying83 (filZero w) (int_keyD hf) with ⟨v, hv, hrun⟩ | ⟨hno, hrun⟩
  · obtain ⟨g, hg, e⟩ := h2.each _ hv
    obtain ⟨e1, e2⟩ := Prod.mk.inj e
    obtain rfl : f = g := (Value.int.inj e1).2
    rw [hrun false, e2]; rfl
  · rw [hrun false, h2.none f hno]; rfl
theorem FilesL.look {w : World} {b : Nat} {fs : Int → Dk.Fil} (h : FilesL w b fs) {f : Int} (hf : I64 f) :
    (Instr.lookup tFiles (.map (some b)) (.int .i64 f) false).run Tryz.prog w = .ok (filV (fs f)) w := by
  obtain ⟨l, h1, h2⟩ := h
  exact mapl_file h1 h2 hf
theorem FilesL.put {w : World} {b : Nat} {fs : Int → Dk.Fil} (h : FilesL w b fs) (hg : nG ≤ b) {f : Int} (hf : I64 f) (x : Dk.Fil) :
    ∃ w', (Instr.mapUpdate tFiles (.map (some b)) (.int .i64 f) (filV x)).run Tryz.prog w = .ok () w' ∧ FilesL w' b (Dk.setF fs f x) ∧ Upd (· = b) w w' := by
  obtain ⟨l, h1, h2⟩ := h
  obtain ⟨w', l', hrun, hm, hl, u⟩ := h1.put intKeyD Tryz.underlying83 hg (int_keyD hf) (filV x)
  exact ⟨w', hrun, ⟨l', hm, h2.put hf x hl⟩, u⟩
theorem FilesL.made (w : World) : FilesL (w.alloc (.map #[] 0)) w.heap.size (fun _ => Dk.noFil) :=
  ⟨[], MapL.made Tryz.prog tIntD w, ⟨(fun p hp => by cases hp), fun _ _ => rfl⟩⟩

/-! ### The set of pending sectors -/
def secE (p : Int × Int) : Value × Value := (secV p, .bool true)
def SetL (w : World) (b : Nat) (q : List (Int × Int)) : Prop := MapL Tryz.prog tSec w b (q.map secE)
theorem SetL.lt {w : World} {b : Nat} {q : List (Int × Int)} (h : SetL w b q) : b < w.heap.size := MapL.lt h
theorem SetL.upd {w w' : World} {b : Nat} {q : List (Int × Int)} {S : Nat → Prop} (h : SetL w b q) (u : Upd S w w') (hn : ¬ S b) : SetL w' b q := MapL.upd h u hn
theorem SetL.made (w : World) : SetL (w.alloc (.map #[] 0)) w.heap.size [] := MapL.made Tryz.prog tSec w
theorem SetL.look {w : World} {b : Nat} {q : List (Int × Int)} (h : SetL w b q) {p : Int × Int} (h1 : I64 p.1) (h2 : I64 p.2) :
    (Instr.lookup tSet (.map (some b)) (secV p) false).run Tryz.prog w = .ok (.bool (decide (p ∈ q))) w := by
  obtain ⟨l, hl⟩ := sec_key h1 h2
  have hz : (zeroValue 4).run Tryz.prog w = .ok (.bool false) w := by kernel_rfl
  rcases MapL.look h secKeyed Tryz.underlying84 hz hl with ⟨v, hv, hrun⟩ | ⟨hno, hrun⟩
  · obtain ⟨x, hx, e⟩ := List.mem_map.1 hv
    obtain ⟨e1, e2⟩ := Prod.mk.inj e
    have := secV_inj e1
    subst this
    rw [hrun false, ← e2, decide_eq_true hx]; rfl
  · have : p ∉ q := fun hp => hno (secE p) (List.mem_map.2 ⟨p, hp, rfl⟩) rfl
    rw [hrun false, decide_eq_false this]; rfl
theorem SetL.put {w : World} {b : Nat} {q : List (Int × Int)} (h : SetL w b q) (hg : nG ≤ b) {p : Int × Int} (h1 : I64 p.1) (h2 : I64 p.2) (hn : p ∉ q) :
    ∃ w', (Instr.mapUpdate tSet (.map (some b)) (secV p) (.bool true)).run Tryz.prog w = .ok () w' ∧ SetL w' b (q ++ [p]) ∧ Upd (· = b) w w' := by
  obtain ⟨l, hl⟩ := sec_key h1 h2
  obtain ⟨w', hrun, hm, u⟩ := MapL.store_new h secKeyed Tryz.underlying84 hg hl (fun x hx e => by
    obtain ⟨y, hy, rfl⟩ := List.mem_map.1 hx
    exact hn (secV_inj e ▸ hy)) (.bool true)
  exact ⟨w', hrun, by unfold SetL; rw [List.map_append]; exact hm, u⟩

/-! ### The disk -/
/-- Where a disk lies: its block, its two maps', the values of its two slices. -/
structure DiskR where
  db : Nat
  fm : Nat
  sm : Nat
  qv : Value
  kv : Value
/-- The blocks that belong to a disk. -/
def DiskR.foot (r : DiskR) (k : Nat) : Prop := k = r.db ∨ k = r.fm ∨ k = r.sm ∨ r.qv.ownBlock = some k ∨ r.kv.ownBlock = some k
def diskC (r : DiskR) (D : Dk.Disk) : Array Value := #[.map (some r.fm), r.qv, .map (some r.sm), .int .i64 D.lost, .bool D.down, .int .i64 D.armed, r.kv]
def flatQ (q : List (Int × Int)) : List Value := (q.map secL).flatten
theorem flatQ_snoc (q : List (Int × Int)) (p : Int × Int) : flatQ (q ++ [p]) = flatQ q ++ secL p := by simp [flatQ]
/-- In the blocks from B on lies the disk r, in the state D. -/
structure DiskAt (B : Nat) (w : World) (r : DiskR) (D : Dk.Disk) : Prop where
  hb : nG ≤ B
  db : B ≤ r.db
  fm : B ≤ r.fm
  sm : B ≤ r.sm
  ne : r.fm ≠ r.sm
  blk : w.heap[r.db]? = some (.cells (diskC r D) tDisk (0, 0))
  files : FilesL w r.fm D.fs
  set : SetL w r.sm D.q
  queue : w.ownsRow B tSec 2 r.qv D.q.length (flatQ D.q)
  keep : w.ownsRow B tIntD 1 r.kv D.keep.length (D.keep.map intD)
  ok : Dk.Ok D
  kI : ∀ x ∈ D.keep, I64 x
theorem own_blockD {B sz : Nat} {e : TypeId} {w : World} {v : Value} {n : Nat} {xs : List Value} (h : w.ownsRow B e sz v n xs) {k : Nat} (hk : v.ownBlock = some k) : B ≤ k ∧ ∃ cs, w.heap[k]? = some (.cells cs e (0, 0)) := by
  rcases h.2 with ⟨rfl, _⟩ | ⟨g, cap, cur, rfl, hb, hg, _⟩
  · cases hk
  · obtain rfl : g = k := by simpa [Value.ownBlock] using hk
    exact ⟨hb, _, hg⟩
theorem owns_updD {B sz : Nat} {S : Nat → Prop} {e : TypeId} {w w' : World} {v : Value} {n : Nat} {xs : List Value} (h : w.ownsRow B e sz v n xs) (u : Upd S w w') (hs : ∀ k, v.ownBlock = some k → ¬ S k) : w'.ownsRow B e sz v n xs := by
  obtain ⟨h1, h2⟩ := h
  refine ⟨h1, ?_⟩
  rcases h2 with h2 | ⟨g, cap, cur, rfl, hb, hg, r⟩
  · exact Or.inl h2
  · exact Or.inr ⟨g, cap, cur, rfl, hb, u.keep hg (hs g rfl), r⟩
section
variable {B : Nat} {w w' : World} {r : DiskR} {D : Dk.Disk}
theorem DiskAt.foot_lt (h : DiskAt B w r D) {k : Nat} (hk : r.foot k) : B ≤ k ∧ k < w.heap.size := by
  rcases hk with rfl | rfl | rfl | hk | hk
  · exact ⟨h.db, lt_of_block h.blk⟩
  · exact ⟨h.fm, h.files.lt⟩
  · exact ⟨h.sm, h.set.lt⟩
  · obtain ⟨h1, cs, h2⟩ := own_blockD h.queue hk
    exact ⟨h1, lt_of_block h2⟩
  · obtain ⟨h1, cs, h2⟩ := own_blockD h.keep hk
    exact ⟨h1, lt_of_block h2⟩
theorem DiskAt.upd {S : Nat → Prop} (h : DiskAt B w r D) (u : Upd S w w') (hs : ∀ k, r.foot k → ¬ S k) : DiskAt B w' r D :=
  ⟨h.hb, h.db, h.fm, h.sm, h.ne, u.keep h.blk (hs _ (Or.inl rfl)), h.files.upd u (hs _ (Or.inr (Or.inl rfl))), h.set.upd u (hs _ (Or.inr (Or.inr (Or.inl rfl)))),
    owns_updD h.queue u (fun k hk => hs k (Or.inr (Or.inr (Or.inr (Or.inl hk))))), owns_updD h.keep u (fun k hk => hs k (Or.inr (Or.inr (Or.inr (Or.inr hk))))), h.ok, h.kI⟩
theorem DiskAt.nw (h : DiskAt B w r D) (u : Nw w w') : DiskAt B w' r D := h.upd u (fun _ _ s => s)
theorem DiskAt.cells (h : DiskAt B w r D) :
    w.cell? ⟨r.db, 0, none⟩ = some (.map (some r.fm)) ∧ w.cell? ⟨r.db, 1, none⟩ = some r.qv ∧ w.cell? ⟨r.db, 2, none⟩ = some (.map (some r.sm)) ∧ w.cell? ⟨r.db, 3, none⟩ = some (.int .i64 D.lost) ∧
    w.cell? ⟨r.db, 4, none⟩ = some (.bool D.down) ∧ w.cell? ⟨r.db, 5, none⟩ = some (.int .i64 D.armed) ∧ w.cell? ⟨r.db, 6, none⟩ = some r.kv := by
  refine ⟨?_, ?_, ?_, ?_, ?_, ?_, ?_⟩ <;> (rw [cells_cell h.blk]; rfl)
theorem DiskAt.frozen (h : DiskAt B w r D) (i : Nat) : w.frozen? ⟨r.db, i, none⟩ = false := cells_frozen h.blk i
/-- A disk's blocks are different ones. -/
theorem DiskAt.apart (h : DiskAt B w r D) : r.db ≠ r.fm ∧ r.db ≠ r.sm ∧ r.qv.ownBlock ≠ some r.db ∧ r.qv.ownBlock ≠ some r.fm ∧ r.qv.ownBlock ≠ some r.sm ∧ r.kv.ownBlock ≠ some r.db ∧ r.kv.ownBlock ≠ some r.fm ∧ r.kv.ownBlock ≠ some r.sm ∧ (∀ k, r.qv.ownBlock = some k → r.kv.ownBlock ≠ some k) := by
  have hm : ∀ {b : Nat} {k : TypeId} {l : List (Value × Value)} {cs : Array Value} {T : TypeId}, MapL Tryz.prog k w b l → w.heap[b]? = some (.cells cs T (0, 0)) → False := fun {b k l cs T} hl e => by
    obtain ⟨es, clock, e2, _⟩ := hl
    rw [e] at e2
    cases e2
  have hf : ∃ l, MapL Tryz.prog tIntD w r.fm l := by obtain ⟨l, h1, _⟩ := h.files; exact ⟨l, h1⟩
  obtain ⟨lf, hf⟩ := hf
  have hs : MapL Tryz.prog tSec w r.sm _ := h.set
  have hb := h.blk
  refine ⟨fun e => hm hf (by rw [← e]; exact hb), fun e => hm hs (by rw [← e]; exact hb), fun e => ?_, fun e => ?_, fun e => ?_, fun e => ?_, fun e => ?_, fun e => ?_, fun k e1 e2 => ?_⟩
  · obtain ⟨_, cs, e2⟩ := own_blockD h.queue e
    rw [hb] at e2
    injection e2 with e2
    injection e2 with _ e2
    exact absurd e2 (by decide)
  · obtain ⟨_, cs, e2⟩ := own_blockD h.queue e
    exact hm hf e2
  · obtain ⟨_, cs, e2⟩ := own_blockD h.queue e
    exact hm hs e2
  · obtain ⟨_, cs, e2⟩ := own_blockD h.keep e
    rw [hb] at e2
    injection e2 with e2
    injection e2 with _ e2
    exact absurd e2 (by decide)
  · obtain ⟨_, cs, e2⟩ := own_blockD h.keep e
    exact hm hf e2
  · obtain ⟨_, cs, e2⟩ := own_blockD h.keep e
    exact hm hs e2
  · obtain ⟨_, cs, e3⟩ := own_blockD h.queue e1
    obtain ⟨_, cs', e4⟩ := own_blockD h.keep e2
    rw [e3] at e4
    injection e4 with e4
    injection e4 with _ e4
    exact absurd e4 (by decide)
/-- What a call leaves of a disk: it lies in the same block, other blocks of it are old ones or new. -/
def DiskTo (B : Nat) (r : DiskR) (D' : Dk.Disk) (w w' : World) : Prop :=
  ∃ r', DiskAt B w' r' D' ∧ r'.db = r.db ∧ Upd r.foot w w' ∧ ∀ j, r'.foot j → r.foot j ∨ w.heap.size ≤ j
theorem DiskTo.refl (h : DiskAt B w r D) : DiskTo B r D w w := ⟨r, h, rfl, Upd.refl _ _, fun j hj => Or.inl hj⟩
theorem DiskTo.of_nw (h : DiskAt B w r D) (u : Nw w w') : DiskTo B r D w w' := ⟨r, h.nw u, rfl, Nw.upd _ u, fun j hj => Or.inl hj⟩
theorem DiskTo.nw {D' : Dk.Disk} {w2 : World} (h : DiskTo B r D' w w') (u : Nw w' w2) : DiskTo B r D' w w2 := by
  obtain ⟨r', h1, h2, h3, h4⟩ := h
  exact ⟨r', h1.nw u, h2, h3.nw u, h4⟩
theorem DiskTo.after {D' : Dk.Disk} {w0 : World} (u : Nw w0 w) (h : DiskTo B r D' w w') : DiskTo B r D' w0 w' := by
  obtain ⟨r', h1, h2, h3, h4⟩ := h
  exact ⟨r', h1, h2, Nw.trans u h3, fun j hj => (h4 j hj).imp id (fun e => by have := u.size; omega)⟩
end
end Go.Proofs.YtiambnllidingaaGreatDoor
