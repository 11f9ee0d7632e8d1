/- Lemmas on worlds that all the seat's proofs use: what may have changed between two worlds; cells of a block that is known whole; slices that read as a list. Maps in memory, as lists of their entries in the order in which they came: made, looked up, stored into. Ranges over maps in memory, in whatever order the entries come: what has been handed out is a list, at the end a permutation of the map's entries. A region that draws its order: whatever comes first only looks, or calls what keeps a class of worlds; its last operations come in one order alone. One walk serves. The place of the first element of which something holds. Contracts of Go's library at this seat's numbers, in the words of this seat's proofs: Itoa, Atoi, IndexByte, CutPrefix, strings.Builder. How the arguments of a statement read: integers, strings, slices of them, structs, slices of structs; from the form's reading to the words of the walks. Slices of structs that a call has made itself: what they read as. Append of one element to a slice of the call's own, with the word on where the result lies: in the old block or in a new one. Things in memory side by side: each in blocks of its own, all made since a world W, apart from blocks F that are kept. What a call leaves that turns one of them, or two. Maps in memory that are stored into and deleted from, also while they are ranged over: what is in them is said by membership alone. Contents in memory: package content (size, Right, Print, Add, Text), for at most 90 contents of at most 100 bytes. Plain: parts of a text, contents with their parts, manifests. Plain: what is right of a manifest, what is missing, plans. Plain: a text cut into chunks: its contents and its manifest are right. The encoding of layer 1 and its reader, as plain functions on lists of bytes; no program stands in this text. Decimal forms: what is written is read back; the reference's way of reading a number gives the same. No program stands in this text. The documented examples of layer 1, in the plain words. No program stands in this text. Layer 1 in plain words: what is read has exactly the bytes that were read as its encoding; what is written is read back. No program stands in this text. Layer 1 in plain words: what is written is read back. No program stands in this text. Layer 2 (disk) in plain words: what its calls make of files, pending sectors, lost syncs and the scheduled crash. No program stands in this text. What the rows' lists of package-level variables give the walks; a world in which the variables lie as their initialisers lay them. The disk (layer 2) in memory: where it lies, what its maps answer and how they are stored into. -/
import Derived.Test.YtmlmdlbepppnlaaGreatDoorProg
import Derived.WalkKit
import Derived.Lib.Hide
import Derived.Lib.Builder
import Derived.Lib.LaidTab
import Derived.Lib.ItoaNum
import Derived.Deep.QuietTactic
import Derived.BigQuiet
import Derived.Outline
import Derived.Deep.RegionHeld3
import Derived.Maps.OwnSet
import Derived.Maps.OwnOps
import Derived.DeepKeys4
import Derived.Maps.RangeWalk
import Derived.StillTail
import Derived.Lib.SliceRun
import Derived.Test.YtmlmdlbepppnlaaGreatDoorShelf
import Derived.Lib.ItoaLen
import Derived.ProofKit
import Derived.OpenShut
import Derived.ShutString
import Derived.Lib.SmallJoins
import Derived.Deep.AppendLies
import Derived.WalkMore
import Derived.StillTailTactics
import Derived.BigRegion
import Derived.Deep.Cut
import Derived.Lib.AtoiAll
import Derived.Lib.Bytealg
import Derived.Lib.Atoi
import Derived.RowKit
import Derived.Test.YtmlmdlbepppnlaaGreatDoorCards
import Derived.Test.YtmlmdlbepppnlaaGreatDoorTie
import Derived.LaidMore
import Derived.MakeChecks
import Derived.Stop.Joined
import Derived.Stop.LaidErr
import Derived.Deep.DeepHandedRow
import Derived.Deep.DeepWitnessRowRef
import Derived.DeepKeys5
namespace Go.Proofs.YtmlmdlbepppnlaaGreatDoor
open Go.RowKit
set_option linter.unusedVariables false
set_option linter.unusedSimpArgs false

/-- The package-level variables that the walks read lie in blocks below this number. -/
def nG : Nat := 4

/-- Of what was there only blocks in S may have changed, and no package-level variable. -/
structure Upd (S : Nat → Prop) (w w' : World) : Prop where
  os : w'.os = w.os
  tape : w'.tape = w.tape
  output : w'.output = w.output
  size : w.heap.size ≤ w'.heap.size
  block : ∀ k, k < w.heap.size → (k < nG ∨ ¬ S k) → w'.heap[k]? = w.heap[k]?

/-- Nothing that was there has changed. -/
abbrev Nw (w w' : World) : Prop := Upd (fun _ => False) w w'

theorem Upd.refl (S : Nat → Prop) (w : World) : Upd S w w := ⟨rfl, rfl, rfl, Nat.le_refl _, fun _ _ _ => rfl⟩
theorem Upd.mono {S S' : Nat → Prop} {w w' : World} (h : Upd S w w') (hs : ∀ k, k < w.heap.size → S k → S' k) : Upd S' w w' :=
  ⟨h.os, h.tape, h.output, h.size, fun k hk hn => h.block k hk (hn.imp id (fun n s => n (hs k hk s)))⟩
theorem Upd.trans' {S S' : Nat → Prop} {a b c : World} (h : Upd S a b) (k : Upd S' b c) (hs : ∀ x, x < a.heap.size → S' x → S x) : Upd S a c :=
  ⟨k.os.trans h.os, k.tape.trans h.tape, k.output.trans h.output, Nat.le_trans h.size k.size,
    fun i hi hn => (k.block i (Nat.lt_of_lt_of_le hi h.size) (hn.imp id (fun n s => n (hs i hi s)))).trans (h.block i hi hn)⟩
theorem Upd.trans {S : Nat → Prop} {a b c : World} (h : Upd S a b) (k : Upd S b c) : Upd S a c := h.trans' k (fun _ _ s => s)
theorem Upd.nw {S : Nat → Prop} {a b c : World} (h : Upd S a b) (k : Nw b c) : Upd S a c := h.trans' k (fun _ _ s => s.elim)
theorem Nw.upd {w w' : World} (S : Nat → Prop) (h : Nw w w') : Upd S w w' := h.mono (fun _ _ s => s.elim)
theorem Nw.trans {S : Nat → Prop} {a b c : World} (h : Nw a b) (k : Upd S b c) : Upd S a c := (h.upd S).trans k
theorem Upd.of_below {w w' : World} (S : Nat → Prop) (h : Below w.heap.size w w') : Upd S w w' :=
  ⟨h.os, h.tape, h.output, h.size, fun k hk _ => h.block k hk⟩
theorem Nw.below {w w' : World} (h : Nw w w') : Below w.heap.size w w' := ⟨h.os, h.tape, h.output, h.size, fun k hk => h.block k hk (Or.inr id)⟩
theorem Upd.drew {S : Nat → Prop} {a b : World} (h : Upd S a b) : Upd S a b.drew := ⟨h.os, h.tape, h.output, h.size, h.block⟩
theorem Upd.drewN {S : Nat → Prop} {a b : World} (h : Upd S a b) (n : Nat) : Upd S a (b.drewN n) := ⟨h.os, h.tape, h.output, h.size, h.block⟩
theorem heap_alloc (w : World) (o : Obj) (k : Nat) (h : k < w.heap.size) : (w.alloc o).heap[k]? = w.heap[k]? := by
  show (w.heap.push o)[k]? = _
  rw [Array.getElem?_push, if_neg (by omega)]
theorem heap_new (w : World) (o : Obj) : (w.alloc o).heap[w.heap.size]? = some o := by
  show (w.heap.push o)[w.heap.size]? = _
  simp
theorem heap_setCell (w : World) (a : Addr) (u : Value) (k : Nat) (h : k ≠ a.block) : (w.setCell a u).heap[k]? = w.heap[k]? := by
  simp only [World.setCell, Array.getElem?_modify]
  rw [if_neg (by omega)]
theorem Upd.alloc {S : Nat → Prop} {a b : World} (h : Upd S a b) (o : Obj) : Upd S a (b.alloc o) :=
  ⟨h.os, h.tape, h.output, by have := h.size; simp; omega, fun k hk hn => (heap_alloc b o k (by have := h.size; omega)).trans (h.block k hk hn)⟩
theorem Upd.setCell {S : Nat → Prop} {a b : World} (h : Upd S a b) {p : Addr} (hp : S p.block ∨ a.heap.size ≤ p.block) (hg : nG ≤ p.block) (u : Value) : Upd S a (b.setCell p u) :=
  ⟨h.os, h.tape, h.output, by simpa [World.setCell] using h.size, fun k hk hn => by
    refine (heap_setCell b p u k ?_).trans (h.block k hk hn)
    rintro rfl
    rcases hp with hp | hp
    · rcases hn with hn | hn
      · omega
      · exact hn hp
    · omega⟩
theorem Upd.set1 {b : Nat} {a w : World} (h : Upd (fun x => x = b) a w) (hg : nG ≤ b) (i : Nat) (u : Value) : Upd (fun x => x = b) a (w.setCell ⟨b, i, none⟩ u) := h.setCell (Or.inl rfl) hg u
theorem Upd.new {S : Nat → Prop} {a w : World} (h : Upd S a w) {b : Nat} (hb : a.heap.size ≤ b) (hg : nG ≤ b) (i : Nat) (u : Value) : Upd S a (w.setCell ⟨b, i, none⟩ u) := h.setCell (Or.inr hb) hg u

theorem nw_drewN (w : World) (n : Nat) : ∃ w1, w.drewN n = w1 ∧ Nw w w1 := ⟨_, rfl, (Upd.refl _ _).drewN n⟩
/-! ### A region that draws its order, whose operations look at old memory alone and whose callees make new memory at most: one walk serves -/
/-- The worlds that have new blocks alone beyond w. -/
def Later (w : World) : Type := { w' : World // Nw w w' }
instance (w : World) : Nonempty (Later w) := ⟨⟨w, Upd.refl _ _⟩⟩
theorem Later.nw {w : World} (i : Later w) : Nw w i.1 := i.2
theorem wp_region_nw {P : Program} {id : Nat} {Q : Exit → Act → World → Prop} {a : Act} {w : World} {l : List Oper} (hm : P.follows .mixedOrders = true) (hB : Region.lexB .any l.toArray = true)
    (h : wpQuiet P l.toArray (fun w' => ∃ i : Later w, w' = i.1) (fun a' => ∀ w', (∃ i : Later w, w' = i.1) → Q .normal a' w') l a) : (Code.region id l.toArray true).wp P Q a w :=
  wp_region_quiet (C := fun w' => ∃ i : Later w, w' = i.1) hm hB ⟨⟨_, (Upd.refl _ w).drew⟩, rfl⟩ (by simpa using h)
theorem later_out {w w' : World} (h : ∃ i : Later w, w' = i.1) : Nw w w' := by
  obtain ⟨i, rfl⟩ := h
  exact i.2
/-- A callee's contract inside such a region. -/
theorem later_call {P : Program} {f : FuncId} {args : Array Value} {w : World} {i : Later w} {v : Value} (h : Calls P f args i.1 fun e w' => e = .returned v ∧ Nw i.1 w') :
    Calls P f args i.1 fun e w' => e = .returned v ∧ ∃ j : Later w, w' = j.1 :=
  h.mono fun _ _ ⟨he, hu⟩ => ⟨he, ⟨_, Upd.trans i.2 hu⟩, rfl⟩
theorem later_cell {w : World} (i : Later w) {a : Addr} {v : Value} (h : w.cell? a = some v) : i.1.cell? a = some v :=
  (World.cell?_of_block (i.2.block a.block (World.block_lt_of_cell? w a h) (Or.inr id))).trans h

/-! ### A block that is known whole -/
theorem lt_of_block {w : World} {b : Nat} {o : Obj} (h : w.heap[b]? = some o) : b < w.heap.size := by
  rcases Nat.lt_or_ge b w.heap.size with h' | h'
  · exact h'
  · simp [Array.getElem?_eq_none h'] at h
theorem cells_cell {w : World} {b : Nat} {cs : Array Value} {T : TypeId} {fz : Nat × Nat} (h : w.heap[b]? = some (.cells cs T fz)) (i : Nat) : w.cell? ⟨b, i, none⟩ = cs[i]? := by
  simp [World.cell?, h]
theorem cells_frozen {w : World} {b : Nat} {cs : Array Value} {T : TypeId} (h : w.heap[b]? = some (.cells cs T (0, 0))) (i : Nat) : w.frozen? ⟨b, i, none⟩ = false := by
  simp [World.frozen?, h]
theorem setCell_block {w : World} {b : Nat} {cs : Array Value} {T : TypeId} {fz : Nat × Nat} (h : w.heap[b]? = some (.cells cs T fz)) (i : Nat) (v : Value) :
    (w.setCell ⟨b, i, none⟩ v).heap[b]? = some (.cells (cs.setIfInBounds i v) T fz) := by
  simp [World.setCell, Array.getElem?_modify, h]
theorem Upd.keep {S : Nat → Prop} {w w' : World} {b : Nat} {o : Obj} (u : Upd S w w') (h : w.heap[b]? = some o) (hn : ¬ S b) : w'.heap[b]? = some o :=
  (u.block b (lt_of_block h) (Or.inr hn)).trans h
theorem Nw.keep {w w' : World} {b : Nat} {o : Obj} (u : Nw w w') (h : w.heap[b]? = some o) : w'.heap[b]? = some o := Upd.keep u h id

/-! ### Strings as lists of bytes -/
theorem bs_extract (l : List UInt8) (a b : Nat) : (ByteArray.mk l.toArray).extract a b = ByteArray.mk ((l.drop a).take (b - a)).toArray := ByteArray.extract_mk l a b
theorem bs_list (l : List UInt8) : (ByteArray.mk l.toArray).data.toList = l := by simp
theorem bs_extract_list (s : ByteArray) (a b : Nat) : (s.extract a b).data.toList = (s.data.toList.drop a).take (b - a) := by
  cases s with | mk d => rw [show (ByteArray.mk d) = ByteArray.mk d.toList.toArray by simp, bs_extract]
theorem bs_append_list (a b : ByteArray) : (a ++ b).data.toList = a.data.toList ++ b.data.toList := by simp [ByteArray.data_append]
theorem bs_size (s : ByteArray) : s.size = s.data.toList.length := by rw [Array.length_toList]; rfl
theorem bs_toList (s : ByteArray) : s.toList = s.data.toList := ByteArray.toList_eq s
theorem nw_alloc (w : World) (o : Obj) : Nw w (w.alloc o) := (Upd.refl _ w).alloc o
theorem bs_eta (s : ByteArray) : ByteArray.mk (s.data.toList).toArray = s := by cases s; simp
theorem ret_bs {s : ByteArray} {l : List UInt8} (h : s.data.toList = l) : Ending.returned (.string s) = .returned (.string ⟨l.toArray⟩) := by rw [← h, bs_eta]
theorem ret_int {k : IntKind} {a b : Int} (h : a = b) : Ending.returned (.int k a) = .returned (.int k b) := by rw [h]
theorem ret_bool {a b : Bool} (h : a = b) : Ending.returned (.bool a) = .returned (.bool b) := by rw [h]

/-! ### A slice whose elements have one cell each, and that reads as a list -/
/-- The slice v reads as xs; its array lies in a block from lo on, below hi. -/
def Sl (lo hi : Nat) (w : World) (v : Value) (xs : List Value) : Prop :=
  (∃ a cap, v = .slice a 0 cap ∧ xs = []) ∨
  ∃ b off cap, v = .slice (some ⟨b, off, none⟩) xs.length cap ∧ xs.length ≤ cap ∧ cap ≤ maxLen ∧ lo ≤ b ∧ b < hi ∧ b < w.heap.size ∧ ∀ i, i < xs.length → w.cell? ⟨b, off + i, none⟩ = xs[i]?
theorem Sl.nil {α : Type} (lo hi : Nat) (w : World) (f : α → Value) : Sl lo hi w (.slice none 0 0) (List.map f []) := Or.inl ⟨_, _, rfl, rfl⟩
theorem Sl.upd {lo hi : Nat} {S : Nat → Prop} {w w' : World} {v : Value} {xs : List Value} (h : Sl lo hi w v xs) (u : Upd S w w') (hs : ∀ k, lo ≤ k → k < hi → ¬ S k) : Sl lo hi w' v xs := by
  rcases h with h | ⟨b, off, cap, h1, h2, h3, h4, h5, h6, h7⟩
  · exact Or.inl h
  · refine Or.inr ⟨b, off, cap, h1, h2, h3, h4, h5, Nat.lt_of_lt_of_le h6 u.size, fun i hi' => ?_⟩
    rw [← h7 i hi']
    exact World.cell?_of_block (u.block b h6 (Or.inr (hs b h4 h5)))
theorem Sl.nw {lo hi : Nat} {w w' : World} {v : Value} {xs : List Value} (h : Sl lo hi w v xs) (u : Nw w w') : Sl lo hi w' v xs := h.upd u (fun _ _ _ s => s)
theorem Sl.len {lo hi : Nat} {w : World} {v : Value} {xs : List Value} (h : Sl lo hi w v xs) : xs.length ≤ maxLen := by
  rcases h with ⟨_, _, _, rfl⟩ | ⟨b, off, cap, h1, h2, h3, h4, h5, h6, h7⟩
  · exact Nat.zero_le _
  · exact Nat.le_trans h2 h3
/-- A slice that the call owns reads as a list, where each element has one cell. -/
theorem Sl.of_owns {base : Nat} {e : TypeId} {w : World} {v : Value} {n : Nat} {xs : List Value} (h : w.ownsRow base e 1 v n xs) : Sl base w.heap.size w v xs := by
  obtain ⟨h1, h2⟩ := h
  rw [Nat.mul_one] at h1
  rcases h2 with ⟨rfl, rfl⟩ | ⟨g, cap, cur, rfl, hb, hg, hn, hm, hs, ht⟩
  · exact Or.inl ⟨_, _, rfl, List.length_eq_zero_iff.1 h1⟩
  · subst h1
    refine Or.inr ⟨g, 0, cap, rfl, hn, hm, hb, lt_of_block hg, lt_of_block hg, fun i hi => ?_⟩
    rw [cells_cell hg, Nat.zero_add, ← ht, Nat.mul_one, List.getElem?_take, if_pos hi]
    simp
theorem Upd.grown {S : Nat → Prop} {a w w' : World} {row : Option Nat} (h : Upd S a w) (hg : w.grownBy w' row) (hr : ∀ k, row = some k → (S k ∨ a.heap.size ≤ k) ∧ nG ≤ k) : Upd S a w' :=
  ⟨hg.os.trans h.os, hg.tape.trans h.tape, hg.output.trans h.output, Nat.le_trans h.size hg.size, fun k hk hn => by
    refine (hg.block k (Nat.lt_of_lt_of_le hk h.size) (fun e => ?_)).trans (h.block k hk hn)
    obtain ⟨h1, h2⟩ := hr k e.symm
    rcases hn with hn | hn
    · omega
    · rcases h1 with h1 | h1
      · exact hn h1
      · omega⟩
theorem grown_keep {w w' : World} {row : Option Nat} {b : Nat} {o : Obj} (hg : w.grownBy w' row) (h : w.heap[b]? = some o) (hn : row ≠ some b) : w'.heap[b]? = some o :=
  (hg.block b (lt_of_block h) (fun e => hn e.symm)).trans h
/-- What the walk is told of a slice: an address (if there is an element), a length, a capacity, the cells. -/
theorem Sl.open_ {lo hi : Nat} {w : World} {v : Value} {xs : List Value} (h : Sl lo hi w v xs) :
    ∃ a cap, v = .slice a xs.length cap ∧ xs.length ≤ maxLen ∧ ((True ∧ True ∧ xs = []) ∨ ∃ b off, a = some ⟨b, off, none⟩ ∧ lo ≤ b ∧ b < hi ∧ b < w.heap.size ∧ ∀ i, i < xs.length → w.cell? ⟨b, off + i, none⟩ = xs[i]?) := by
  have hl := h.len
  rcases h with ⟨a, cap, rfl, rfl⟩ | ⟨b, off, cap, h1, h2, h3, h4, h5, h6, h7⟩
  · exact ⟨a, cap, rfl, hl, Or.inl ⟨trivial, trivial, rfl⟩⟩
  · exact ⟨some ⟨b, off, none⟩, cap, h1, hl, Or.inr ⟨b, off, rfl, h4, h5, h6, h7⟩⟩
theorem add_plain (b o j : Nat) : (⟨b, o, none⟩ : Addr).add j = ⟨b, o + j, none⟩ := by
  unfold Addr.add
  split
  · rename_i h; subst h; rfl
  · rfl
/-- 'out = append(out, x)' onto a slice that is nil or the call's own; x's cells lie in the new block that the walk has just made. -/
theorem wpList_app {P : Program} {w : World} {ops : Array Oper} {rest : List Oper} {o : Oper} {a : Act} {Q : Exit → Act → World → Prop} (hgd : o.guard = none) (s x : Operand) (t : TypeId)
    (ho : o.op = .call { callee := .builtin .append, args := #[s, x], argTypes := #[t, t] })
    (base : Nat) (e : TypeId) (z : Value) (size bytes : Nat) (ht : P.underlying t = some (.slice e)) (hinfo : (P.info? e).map (fun i => (i.zero, i.size, i.bytes)) = some (some z, size, bytes)) (hzs : z.cells.size = size) (hsz : 0 < size)
    (v : Value) (n : Nat) (xs : List Value) (hs : a.eval s = v) (hown : w.ownsRow base e size v n xs)
    (news : List Value) (hx : a.eval x = .slice (some ⟨w.heap.size, 0, none⟩) 1 1) (hl : news.length = size) (h1 : ∀ u ∈ news, u.oneCell' = true)
    (h63 : n + 1 ≤ maxLen) (hbytes : (n + 1) * bytes ≤ 140737488355328) (hbase : base ≤ w.heap.size)
    (h : ∀ v' w', w'.ownsRow base e size v' (n + 1) (xs ++ news) → Nw w (w.alloc (.cells news.toArray e)) → (w.alloc (.cells news.toArray e)).grownBy w' v.ownBlock → (∀ k, v.ownBlock = some k → base ≤ k ∧ k < w.heap.size) → wpList P ops Q rest (a.put o.dst v') w') : wpList P ops Q (o :: rest) a (w.alloc (.cells news.toArray e)) := by
  obtain ⟨i0, hi, hz0, hz1, hz2⟩ := info_parts hinfo
  refine wpList_append_own _ hgd s x t ho base e i0 z size bytes ht hi hz0 hz1 hz2 hzs hsz v n xs hs (hown.alloc _) ⟨w.heap.size, 0, none⟩ 1 1 news hx (by omega) ?_ h1 h63 hbytes (by simp; omega) fun v' w' h2 h3 _ => h v' w' h2 (nw_alloc _ _) h3 hown.lt
  intro j u hu
  have hb := heap_new w (.cells news.toArray e)
  rw [add_plain, cells_cell hb, Nat.zero_add]
  simpa using hu
end Go.Proofs.YtmlmdlbepppnlaaGreatDoor
namespace Go.Proofs.YtmlmdlbepppnlaaGreatDoor
open Go.RowKit Go.MapKept
open Go.Maps (Keyed)
set_option linter.unusedVariables false
set_option linter.unusedSimpArgs false

/-- Block b is a map whose entries are l, in some order; each key can be read, no two are the same. -/
def MapL (P : Program) (k : TypeId) (w : World) (b : Nat) (l : List (Value × Value)) : Prop :=
  ∃ es clock, w.heap[b]? = some (.map es clock) ∧ (es.toList.map (fun e => (e.key, e.val))).Perm l ∧ (∀ p ∈ l, ∃ x, keyOf P k p.1 = some x) ∧ Stamped es clock
theorem MapL.lt {P : Program} {k : TypeId} {w : World} {b : Nat} {l : List (Value × Value)} (h : MapL P k w b l) : b < w.heap.size := by
  obtain ⟨es, clock, hb, _⟩ := h
  exact lt_of_block hb
theorem MapL.upd {P : Program} {k : TypeId} {w w' : World} {b : Nat} {l : List (Value × Value)} {S : Nat → Prop} (h : MapL P k w b l) (u : Upd S w w') (hn : ¬ S b) : MapL P k w' b l := by
  obtain ⟨es, clock, hb, r⟩ := h
  exact ⟨es, clock, u.keep hb hn, r⟩
theorem MapL.nw {P : Program} {k : TypeId} {w w' : World} {b : Nat} {l : List (Value × Value)} (h : MapL P k w b l) (u : Nw w w') : MapL P k w' b l := h.upd u id
theorem MapL.made (P : Program) (k : TypeId) (w : World) : MapL P k (w.alloc (.map #[] 0)) w.heap.size [] :=
  ⟨#[], 0, heap_new w _, List.Perm.refl _, (fun p hp => by cases hp), stamped_empty 0⟩
theorem MapL.perm {P : Program} {k : TypeId} {w : World} {b : Nat} {l l' : List (Value × Value)} (h : MapL P k w b l) (hp : l.Perm l') : MapL P k w b l' := by
  obtain ⟨es, clock, hb, h1, h2, h3⟩ := h
  exact ⟨es, clock, hb, h1.trans hp, fun p hq => h2 p (hp.mem_iff.2 hq), h3⟩
/-- 'm[k]': an entry is there, or none is. -/
theorem MapL.look {P : Program} {t k e : TypeId} {w : World} {b : Nat} {l : List (Value × Value)} (h : MapL P k w b l) (K : Keyed P k) (ht : P.underlying t = some (.map k e)) {z : Value} (hz : (zeroValue e).run P w = .ok z w) {key : Value} {kl : Lit} (hkey : keyOf P k key = some kl) :
    (∃ v, (key, v) ∈ l ∧ ∀ c, (Instr.lookup t (.map (some b)) key c).run P w = .ok (if c then .tuple #[v, .bool true] else v) w) ∨
    ((∀ p ∈ l, p.1 ≠ key) ∧ ∀ c, (Instr.lookup t (.map (some b)) key c).run P w = .ok (if c then .tuple #[z, .bool false] else z) w) := by
  obtain ⟨es, clock, hb, hpm, hk, hs⟩ := h
  have hke : ∀ x ∈ es.toList, ∃ l, keyOf P k x.key = some l := fun x hx => hk (x.key, x.val) (hpm.mem_iff.1 (List.mem_map.2 ⟨x, hx, rfl⟩))
  rcases K.find w hkey es.toList hke with ⟨h1, h2⟩ | ⟨j, e0, h1, h2, h3⟩
  · refine Or.inr ⟨fun p hp => ?_, fun c => by simp [Instr.lookup, run_underlying ht, MapKept.run_getObj_map hb, K.check w _ hkey, h1, hz, Result.andThen]⟩
    obtain ⟨x, hx, rfl⟩ := List.mem_map.1 (hpm.mem_iff.2 hp)
    exact h2 x hx
  · have hm0 : e0 ∈ es.toList := List.mem_of_getElem? h2
    refine Or.inl ⟨e0.val, hpm.mem_iff.1 (List.mem_map.2 ⟨e0, hm0, by rw [h3]⟩), fun c => by simp [Instr.lookup, run_underlying ht, MapKept.run_getObj_map hb, K.check w _ hkey, h1, Result.andThen]⟩
theorem Upd.setBlock {w : World} {b : Nat} (hg : nG ≤ b) (o : Obj) : Upd (· = b) w { w with heap := w.heap.setIfInBounds b o } :=
  ⟨rfl, rfl, rfl, by simp, fun k hk hn => by
    have hne : b ≠ k := by
      rintro rfl
      rcases hn with hn | hn
      · omega
      · exact hn rfl
    simp [Array.getElem?_setIfInBounds, hne]⟩
/-- 'm[k] = v', the key not there: the entry comes last. -/
theorem MapL.store_new {P : Program} {t k e : TypeId} {w : World} {b : Nat} {l : List (Value × Value)} (h : MapL P k w b l) (K : Keyed P k) (ht : P.underlying t = some (.map k e)) (hg : nG ≤ b) {key : Value} {kl : Lit} (hkey : keyOf P k key = some kl) (hno : ∀ p ∈ l, p.1 ≠ key) (val : Value) :
    ∃ w', (Instr.mapUpdate t (.map (some b)) key val).run P w = .ok () w' ∧ MapL P k w' b (l ++ [(key, val)]) ∧ Upd (· = b) w w' := by
  obtain ⟨es, clock, hb, hpm, hk, hs⟩ := h
  have hke : ∀ x ∈ es.toList, ∃ l, keyOf P k x.key = some l := fun x hx => hk (x.key, x.val) (hpm.mem_iff.1 (List.mem_map.2 ⟨x, hx, rfl⟩))
  have hlt := lt_of_block hb
  have hno2 : ∀ x ∈ es.toList, x.key ≠ key := fun x hx => hno (x.key, x.val) (hpm.mem_iff.1 (List.mem_map.2 ⟨x, hx, rfl⟩))
  rcases K.find w hkey es.toList hke with ⟨h1, h2⟩ | ⟨j, e0, h1, h2, h3⟩
  · refine ⟨{ w with heap := w.heap.setIfInBounds b (.map (es.push ⟨key, val, clock⟩) (clock + 1)) }, ?_, ⟨es.push ⟨key, val, clock⟩, clock + 1, ?_, by simpa using hpm.append_right [(key, val)], ?_, stamped_push hs h2⟩, Upd.setBlock hg _⟩
    · simp [Instr.mapUpdate, run_underlying ht, MapKept.run_getObj_map hb, K.check w false hkey, h1, MapKept.run_setObj_map _ hb, Result.andThen]
    · simp [Array.getElem?_setIfInBounds, hlt]
    · intro p hp
      rcases List.mem_append.1 hp with hp | hp
      · exact hk p hp
      · rw [List.mem_singleton.1 hp]; exact ⟨kl, hkey⟩
  · exact absurd h3 (hno2 e0 (List.mem_of_getElem? h2))
/-- 'm[k]', 'v, ok := m[k]' at the operation, by its run. -/
theorem wpList_lookL {P : Program} {w : World} {ops : Array Oper} {rest : List Oper} {o : Oper} {a : Act} {Q : Exit → Act → World → Prop} (hg : o.guard = none) (m x : Operand) (t : TypeId) (c : Bool) (hop : o.op = Op.lookup t m x c)
    (vm key v : Value) (hm : a.eval m = vm) (hx : a.eval x = key) (hrun : (Instr.lookup t vm key c).run P w = .ok v w) (h : wpList P ops Q rest (a.put o.dst v) w) : wpList P ops Q (o :: rest) a w := by
  refine wpList_plain hg fun K hK => ?_
  unfold Oper.wp
  simp [execOp, hop, hm, hx, hrun, Result.andThen]
  exact hK _ _ h
/-- 'm[k] = v' at the operation, by its run. -/
theorem wpList_storeL {P : Program} {w w' : World} {ops : Array Oper} {rest : List Oper} {o : Oper} {a : Act} {Q : Exit → Act → World → Prop} (hg : o.guard = none) (m x y : Operand) (t : TypeId) (hop : o.op = Op.mapUpdate t m x y)
    (vm key v : Value) (hm : a.eval m = vm) (hx : a.eval x = key) (hy : a.eval y = v) (hrun : (Instr.mapUpdate t vm key v).run P w = .ok () w') (h : wpList P ops Q rest (a.put o.dst undef) w') : wpList P ops Q (o :: rest) a w := by
  refine wpList_plain hg fun K hK => ?_
  unfold Oper.wp
  simp [execOp, hop, hm, hx, hy, hrun, Result.andThen]
  exact hK _ _ h
theorem i64_wf' {k : Int} (h : -9223372036854775808 ≤ k ∧ k ≤ 9223372036854775807) : (Lit.int .i64 k).wf = true := by
  simp [Lit.wf, IntKind.min, IntKind.max, IntKind.signed, IntKind.bits]
  omega
end Go.Proofs.YtmlmdlbepppnlaaGreatDoor
namespace Go.Proofs.YtmlmdlbepppnlaaGreatDoor
open Go.RowKit Go.MapKept
open Go.Maps (Keyed)
open Go.ChangeMaps (setBlock)
set_option linter.unusedVariables false
set_option linter.unusedSimpArgs false

def kv (e : MapEntry) : Value × Value := (e.key, e.val)
/-- Block b is a map with the entries l; r is an iterator over it that has handed out d. -/
def RangeL (P : Program) (k : TypeId) (w : World) (b r : Nat) (l d : List (Value × Value)) : Prop :=
  ∃ es clock since seen c0, ∃ D : List MapEntry, w.heap[b]? = some (.map es clock) ∧ (es.toList.map kv).Perm l ∧ (∀ p ∈ l, ∃ x, keyOf P k p.1 = some x) ∧ Stamped es clock ∧
    w.heap[r]? = some (.mapIter (some b) since seen c0) ∧ (∀ x ∈ es.toList, x.born < since) ∧ since ≤ c0 ∧ since ≤ clock ∧ (∀ x ∈ D, x ∈ es.toList) ∧ D.Nodup ∧ seen.toList = D.map (·.born) ∧ D.map kv = d
variable {P : Program} {k : TypeId} {w : World} {b r : Nat} {l d : List (Value × Value)}
theorem RangeL.upd {S : Nat → Prop} {w' : World} (h : RangeL P k w b r l d) (u : Upd S w w') (hb : ¬ S b) (hr : ¬ S r) : RangeL P k w' b r l d ∧ w'.rangeLeft b r = w.rangeLeft b r := by
  obtain ⟨es, clock, since, seen, c0, D, h1, h2, h3, h4, h5, h6⟩ := h
  refine ⟨⟨es, clock, since, seen, c0, D, u.keep h1 hb, h2, h3, h4, u.keep h5 hr, h6⟩, ?_⟩
  unfold World.rangeLeft
  rw [u.keep h1 hb, h1, u.keep h5 hr, h5]
theorem RangeL.lt (h : RangeL P k w b r l d) : b < w.heap.size ∧ r < w.heap.size ∧ r ≠ b := by
  obtain ⟨es, clock, since, seen, c0, D, h1, h2, h3, h4, h5, h6⟩ := h
  refine ⟨lt_of_block h1, lt_of_block h5, fun e => ?_⟩
  rw [e, h1] at h5
  cases h5
theorem RangeL.map (h : RangeL P k w b r l d) : MapL P k w b l := by
  obtain ⟨es, clock, since, seen, c0, D, h1, h2, h3, h4, h5, h6⟩ := h
  exact ⟨es, clock, h1, h2, h3, h4⟩
/-- 'range m'. -/
theorem MapL.range {t e : TypeId} (h : MapL P k w b l) (ht : P.underlying t = some (.map k e)) :
    ∃ w', (Instr.range t (.map (some b))).run P w = .ok (.pointer (some ⟨w.heap.size, 0, none⟩)) w' ∧ RangeL P k w' b w.heap.size l [] ∧ Nw w w' := by
  obtain ⟨es, clock, h1, h2, h3, h4⟩ := h
  refine ⟨_, run_range_map w t k e b es clock ht h1, ⟨es, clock, clock, #[], clock, [], Nw.keep (nw_alloc w _) h1, h2, h3, h4, heap_new w _, h4.1, Nat.le_refl _, Nat.le_refl _, by simp, by simp, by simp, rfl⟩, nw_alloc _ _⟩
theorem stamp_nodup {es : List MapEntry} (h : (es.map (·.born)).Nodup) : es.Nodup := (List.pairwise_map.1 h).imp (fun hne e => hne (by rw [e]))
/-- THE STEP: nothing is left, and all has been handed out; or an entry comes whose key has not. -/
theorem RangeL.next (h : RangeL P k w b r l d) (hg : nG ≤ r) (ty : TypeId) :
    (l.Perm d ∧ (Instr.next (.pointer (some ⟨r, 0, none⟩)) false ty).run P w = .ok (.tuple #[.bool false]) w) ∨
    ∃ p, p ∈ l ∧ (∀ q ∈ d, q.1 ≠ p.1) ∧ ∃ w', (Instr.next (.pointer (some ⟨r, 0, none⟩)) false ty).run P w = .ok (.tuple #[.bool true, p.1, p.2]) w' ∧ RangeL P k w' b r l (d ++ [p]) ∧ Upd (· = r) w w' ∧
      w'.rangeLeft b r < w.rangeLeft b r ∧ (Instr.entry (.pointer (some ⟨r, 0, none⟩))).run P w' = .ok (.tuple #[p.1, p.2]) w' := by
  have hne := h.lt.2.2
  have hrlt := h.lt.2.1
  obtain ⟨es, clock, since, seen, c0, D, h1, h2, h3, h4, h5, h6, h7, h8, h9, h10, h11, rfl⟩ := h
  have hst := (stamped_iff es clock).1 h4
  rcases run_next_at (P := P) w ty r b since c0 seen es clock h5 h1 h6 h7 with ⟨h0, hrun⟩ | ⟨e, he, w1, hal, hrun⟩
  · refine Or.inl ⟨h2.symm.trans (List.Perm.map _ ?_), hrun⟩
    refine (List.perm_ext_iff_of_nodup (stamp_nodup hst.2.1) h10).2 fun x => ⟨fun hx => ?_, h9 x⟩
    have hs := all_seen es seen h0 x hx
    have hm : x.born ∈ D.map (·.born) := by rw [← h11]; simpa using hs
    obtain ⟨y, hy, hyb⟩ := List.mem_map.1 hm
    rw [← born_inj hst.2.1 (h9 y hy) hx hyb]
    exact hy
  · obtain ⟨hem, hes⟩ := mem_left he
    have hnot : e ∉ D := fun hd => by
      have hm : e.born ∈ seen.toList := by rw [h11]; exact List.mem_map.2 ⟨e, hd, rfl⟩
      rw [Array.contains_eq_mem] at hes
      simp at hm hes
      exact hes hm
    have hr1 : w1.heap[r]? = some (.mapIter (some b) since seen c0) := by rcases hal with rfl | rfl <;> exact h5
    have hb1 : w1.heap[b]? = some (.map es clock) := by rcases hal with rfl | rfl <;> exact h1
    have hset := heap_set (o' := .mapIter (some b) since (seen.push e.born) clock) hr1
    have hb' : (setBlock w1 r (.mapIter (some b) since (seen.push e.born) clock)).heap[b]? = some (.map es clock) := (hset.2 b (fun e1 => hne e1.symm)).trans hb1
    refine Or.inr ⟨kv e, h2.mem_iff.1 (List.mem_map.2 ⟨e, hem, rfl⟩), fun q hq hk => ?_, _, hrun, ⟨es, clock, since, seen.push e.born, clock, D ++ [e], hb', h2, h3, h4, hset.1, h6, h8, h8, fun x hx => ?_, ?_, ?_, by simp⟩, ?_, ?_, run_entry_at _ r b since seen es clock e hset.1 hb' hem hst.2.1⟩
    · obtain ⟨x, hx, rfl⟩ := List.mem_map.1 hq
      obtain rfl := entry_eq_of_key hst.2.2 (h9 x hx) hem hk
      exact hnot hx
    · rcases List.mem_append.1 hx with hx | hx
      · exact h9 x hx
      · rw [List.mem_singleton.1 hx]; exact hem
    · rw [List.nodup_append]
      exact ⟨h10, by simp, fun a ha y hy e1 => by rw [List.mem_singleton] at hy; subst hy; subst e1; exact hnot ha⟩
    · simp [h11]
    · rcases hal with rfl | rfl <;> exact ⟨rfl, rfl, rfl, by simp [setBlock], fun i _ hi => hset.2 i (fun e1 => by subst e1; rcases hi with hi | hi; omega; exact hi rfl)⟩
    · unfold World.rangeLeft
      have hr' : (setBlock w1 r (.mapIter (some b) since (seen.push e.born) clock)).heap[r]? = some (.mapIter (some b) since (seen.push e.born) clock) := hset.1
      rw [hb', hr', h1, h5]
      exact left_shrinks es seen e he
end Go.Proofs.YtmlmdlbepppnlaaGreatDoor
namespace Go.Proofs.YtmlmdlbepppnlaaGreatDoor
open Go.RowKit
set_option linter.unusedVariables false
set_option linter.unusedSimpArgs false
section
variable {P : Program} {md : Region.Mode} {ops : Array Oper} {C : World → Prop}
/-- All orders of the operations before number n, in every world of the class. -/
def headQ (P : Program) (md : Region.Mode) (ops : Array Oper) (C : World → Prop) (n : Nat) (L : Array Bool → Act → Prop) : Nat → Array Bool → Act → Prop
  | 0, listed, a => L listed a
  | f + 1, listed, a => Region.ready md ops listed ≠ [] ∧ ∀ i ∈ Region.ready md ops listed, i < n ∧ qOp P ops C i (headQ P md ops C n L f (listed.setIfInBounds i true)) a
theorem any_of_headQ {n g : Nat} {L : Array Bool → Act → Prop} {Q' : Exit → Act → World → Prop} (hL : ∀ listed a w, C w → L listed a → wpAny P md ops Q' g listed a w) :
    ∀ (f : Nat) (listed : Array Bool) (a : Act) (w : World), C w → headQ P md ops C n L f listed a → wpAny P md ops Q' (f + g) listed a w
  | 0, listed, a, w, hw, h => by rw [Nat.zero_add]; exact hL _ _ _ hw h
  | f + 1, listed, a, w, hw, h => by
    rw [show f + 1 + g = (f + g) + 1 by omega]
    exact ⟨fun h0 => absurd h0 h.1, fun i hi => wpOp_of_qOp hw (fun a' w' hw' h' => any_of_headQ hL f _ a' w' hw' h') (h.2 i hi).2⟩
theorem headQ_first {n i : Nat} {oi : Oper} {v : Value} {L : Array Bool → Act → Prop} (hi : ops[i]? = some oi) (hsel : ∀ (j : Nat) (o : Oper) cs b, ops[j]? = some o → o.op ≠ .select cs b)
    (hs : Region.sinkB md ops n = true) (hc : Region.chainB md ops n = true) (hn : n < ops.size) (hin : i < n)
    (hdone : ∀ listed a, L listed a → ∀ j ∈ Region.ready md ops listed, n ≤ j) :
    ∀ (f : Nat) (listed : Array Bool) (a : Act), HeadInv md ops n listed →
      (∀ j oj, ops[j]? = some oj → j ≠ i → listed.getD j true = false → (∀ e ∈ oj.after, Region.binds md e = true → e.on ≠ i) → oi.apart ops oj = true) →
      i ∈ Region.ready md ops listed → YieldsIn P ops C oi v a →
      headQ P md ops C n L f (listed.setIfInBounds i true) (a.put oi.dst v) → headQ P md ops C n L (f + 1) listed a := by
  intro f
  induction f with
  | zero =>
    intro listed a inv _ hr hy H
    have hun := (mem_ready.1 hr).1
    refine ⟨fun h => (by rw [h] at hr; cases hr), fun j hj => ?_⟩
    have hjn : j < n := by
      rcases Nat.lt_or_ge j n with h | h
      · exact h
      · exact absurd hj (tail_waits hs hc hn inv _ i rfl hin hun j h)
    refine ⟨hjn, ?_⟩
    by_cases hji : j = i
    · subst hji; exact hy.qOp hi H
    · have := hdone _ _ H j (ready_mono hj hji)
      omega
  | succ f ih =>
    intro listed a inv hfree hr hy H
    have hun := (mem_ready.1 hr).1
    refine ⟨fun h => (by rw [h] at hr; cases hr), fun j hj => ?_⟩
    have hjn : j < n := by
      rcases Nat.lt_or_ge j n with h | h
      · exact h
      · exact absurd hj (tail_waits hs hc hn inv _ i rfl hin hun j h)
    refine ⟨hjn, ?_⟩
    by_cases hji : j = i
    · subst hji; exact hy.qOp hi H
    · have h1 := (H.2 j (ready_mono hj hji)).2
      obtain ⟨hjun, oj, hoj, hall⟩ := mem_ready.1 hj
      have hnot : ∀ e ∈ oj.after, Region.binds md e = true → e.on ≠ i := fun e he hb heq => by
        have h1 := hall e he hb
        rw [heq, getD_both hun] at h1
        cases h1
      have h2 := qOp_put hoj (hfree j oj hoj hji hjun hnot) (fun cs b => hsel i oi cs b hi) (fun cs b => hsel j oj cs b hoj) hy h1
      have hfree' : ∀ k ok, ops[k]? = some ok → k ≠ i → (listed.setIfInBounds j true).getD k true = false →
          (∀ e ∈ ok.after, Region.binds md e = true → e.on ≠ i) → oi.apart ops ok = true := fun k ok hk hki hun hno => by
        refine hfree k ok hk hki ?_ hno
        by_cases hjk : j = k
        · subst hjk; exact hjun
        · rw [getD_set_ne true hjk] at hun; exact hun
      refine qOp_mono (fun a' h3 => ih (listed.setIfInBounds j true) a' (inv.set hj hjn) hfree' (ready_mono hr (Ne.symm hji)) h3.1 ?_) h2
      rw [Array.setIfInBounds_comm _ _ hji]
      exact h3.2
theorem headQ_lex {n g : Nat} {Lq : Act → Prop} (hsel : Region.noSelect ops = true) (hs : Region.sinkB md ops n = true) (hc : Region.chainB md ops n = true) (hn : n < ops.size) :
    ∀ (l : List Oper) (k : Nat) (listed : Array Bool) (a : Act), (∀ j, j < l.length → l[j]? = ops[k + j]?) → k + l.length = n → HeadInv md ops n listed →
    Region.lexHead md ops g l.length k listed = true → wpQuiet P ops C Lq l a →
    headQ P md ops C n (fun listed' a' => Region.seqB md ops g n listed' = true ∧ Lq a') l.length listed a
  | [], k, listed, a, _, hk, _, hB, h => by
    have : k = n := by simpa using hk
    subst this
    exact ⟨by simpa [Region.lexHead] using hB, h⟩
  | o :: l, k, listed, a, hl, hk, inv, hB, h => by
    have h0 : ops[k]? = some o := by simpa using (hl 0 (by simp)).symm
    simp only [List.length_cons, Region.lexHead, Bool.and_eq_true] at hB
    obtain ⟨⟨hr, hf⟩, hB'⟩ := hB
    have hkn : k < n := by simp only [List.length_cons] at hk; omega
    have hr' : k ∈ Region.ready md ops listed := by simpa using hr
    have hst : qOp P ops C k (wpQuiet P ops C Lq l) a := by unfold qOp; simp only [h0]; exact h
    obtain ⟨v, hy, hK⟩ := yieldsIn_of_qOp h0 hst
    exact headQ_first h0 (Region.noSelect_spec hsel) hs hc hn hkn (fun listed' a' hL => seqB_ready hL.1) l.length listed a inv (Region.free_spec h0 hf) hr' hy
      (headQ_lex hsel hs hc hn l (k + 1) _ _ (fun j hj => by have := hl (j + 1) (by simp; omega); simpa [Nat.add_assoc, Nat.add_comm 1 j] using this) (by simp only [List.length_cons] at hk; omega) (inv.set hr' hkn) hB' hK)
theorem wp_region_quiet_tail {id : Nat} {Q : Exit → Act → World → Prop} {a : Act} {w : World} {l : List Oper} (n : Nat) (hm : P.follows .mixedOrders = true) (hB : Region.lexTailB .any l.toArray n = true) (hC : C w.drew)
    (h : wpQuiet P l.toArray C (fun a' => ∀ w', C w' → wpList P l.toArray Q (l.drop n) a' w') (l.take n) a) : (Code.region id l.toArray true).wp P Q a w := by
  simp only [Region.lexTailB, Bool.and_eq_true, decide_eq_true_eq] at hB
  obtain ⟨⟨⟨⟨hsel, hn⟩, hs⟩, hc⟩, hlex⟩ := hB
  have hn' : n < l.length := by simpa using hn
  have htl : (l.take n).length = n := by simp; omega
  have hdl : (l.drop n).length = l.toArray.size - n := by simp
  have inv0 : HeadInv .any l.toArray n (Array.replicate l.toArray.size false) :=
    ⟨by simp, fun j oj _ hl => (by rw [getD_replicate_false] at hl; cases hl), fun t _ ht => getD_in (by simpa using ht) (getD_replicate_false _ _)⟩
  have H := headQ_lex (md := .any) (g := l.toArray.size - n) hsel hs hc hn (l.take n) 0 _ a (fun j hj => by
    have hj' : j < n := by rw [htl] at hj; exact hj
    simp [hj']) (by simpa using htl) inv0 (by rw [htl]; exact hlex) h
  refine wp_region_any hm ?_
  have := any_of_headQ (Q' := Q) (g := l.toArray.size - n) (fun listed a' w' hw' hL => by
    have := wpAny_of_seq (md := .any) (Q' := Q) (l.drop n) n listed a' w' (fun j => by simp [List.getElem?_drop]) (by rw [hdl]; exact hL.1) (hL.2 w' hw')
    rwa [hdl] at this) _ _ _ _ hC H
  rw [htl, show n + (l.toArray.size - n) = l.toArray.size by omega] at this
  exact this
end
/-- .. over the worlds that have new memory alone. -/
theorem wp_region_nw_tail {P : Program} {id : Nat} {Q : Exit → Act → World → Prop} {a : Act} {w : World} {l : List Oper} (n : Nat) (hm : P.follows .mixedOrders = true) (hB : Region.lexTailB .any l.toArray n = true)
    (h : wpQuiet P l.toArray (fun w' => ∃ i : Later w, w' = i.1) (fun a' => ∀ w', (∃ i : Later w, w' = i.1) → wpList P l.toArray Q (l.drop n) a' w') (l.take n) a) : (Code.region id l.toArray true).wp P Q a w :=
  wp_region_quiet_tail (C := fun w' => ∃ i : Later w, w' = i.1) n hm hB ⟨⟨_, (Upd.refl _ w).drew⟩, rfl⟩ h
end Go.Proofs.YtmlmdlbepppnlaaGreatDoor
namespace Go.Proofs.YtmlmdlbepppnlaaGreatDoor
open Go.RowKit
attribute [local irreducible] Calls
set_option linter.unusedVariables false
set_option linter.unusedSimpArgs false

/-- The place of the first one of which p holds, or -1. -/
def idxI {α : Type} (p : α → Bool) (X : List α) : Int := match X.findIdx? p with
  | some i => i
  | none => -1
theorem idx_hit {α : Type} {p : α → Bool} {X : List α} {n : Nat} (hn : n < X.length) (hp : p X[n] = true) (hno : ∀ j (h : j < X.length), j < n → p X[j] = false) : idxI p X = n := by
  have : X.findIdx? p = some n := by
    rw [List.findIdx?_eq_some_iff_getElem]
    exact ⟨hn, hp, fun j hj => by rw [hno j (by omega) hj]; simp⟩
  unfold idxI; rw [this]
theorem idx_miss {α : Type} {p : α → Bool} {X : List α} (hno : ∀ j (h : j < X.length), p X[j] = false) : idxI p X = -1 := by
  have : X.findIdx? p = none := by
    rw [List.findIdx?_eq_none_iff]
    intro x hx
    obtain ⟨j, hj, rfl⟩ := List.mem_iff_getElem.1 hx
    exact hno j hj
  unfold idxI; rw [this]
theorem idx_any {α : Type} (p : α → Bool) (X : List α) : decide (0 ≤ idxI p X) = X.any p := by
  unfold idxI
  cases h : X.findIdx? p with
  | none =>
    have := List.findIdx?_eq_none_iff.1 h
    rw [Bool.eq_iff_iff]
    simp only [decide_eq_true_eq, List.any_eq_true]
    constructor
    · intro h; omega
    · rintro ⟨x, hx, hp⟩; rw [this x hx] at hp; cases hp
  | some i =>
    obtain ⟨hi, hp, _⟩ := List.findIdx?_eq_some_iff_getElem.1 h
    rw [Bool.eq_iff_iff]
    simp only [decide_eq_true_eq, List.any_eq_true]
    exact ⟨fun _ => ⟨X[i], List.getElem_mem hi, hp⟩, fun _ => by omega⟩
theorem own_block {B sz : Nat} {e : TypeId} {w : World} {v : Value} {n : Nat} {xs : List Value} (h : w.ownsRow B e sz v n xs) {k : Nat} (hk : v.ownBlock = some k) : B ≤ k ∧ ∃ cs, w.heap[k]? = some (.cells cs e (0, 0)) := by
  rcases h.2 with ⟨rfl, _⟩ | ⟨g, cap, cur, rfl, hb, hg, _⟩
  · cases hk
  · obtain rfl : g = k := by simpa [Value.ownBlock] using hk
    exact ⟨hb, _, hg⟩
theorem owns_upd' {B sz : Nat} {S : Nat → Prop} {e : TypeId} {w w' : World} {v : Value} {n : Nat} {xs : List Value} (h : w.ownsRow B e sz v n xs) (u : Upd S w w') (hs : ∀ k, v.ownBlock = some k → ¬ S k) : w'.ownsRow B e sz v n xs := by
  obtain ⟨h1, h2⟩ := h
  refine ⟨h1, ?_⟩
  rcases h2 with h2 | ⟨g, cap, cur, rfl, hb, hg, r⟩
  · exact Or.inl h2
  · exact Or.inr ⟨g, cap, cur, rfl, hb, u.keep hg (hs g rfl), r⟩
theorem owns_empty (w : World) (e : TypeId) (sz : Nat) : (w.alloc (.cells #[] e)).ownsRow w.heap.size e sz (.slice (some ⟨w.heap.size, 0, none⟩) 0 0) 0 [] :=
  ⟨by simp, Or.inr ⟨w.heap.size, 0, #[], rfl, Nat.le_refl _, heap_new w _, Nat.le_refl _, Nat.zero_le _, by simp, by simp⟩⟩
/-- 'len(m)'. -/
theorem MapL.len {P : Program} {w : World} {k : TypeId} {b : Nat} {l : List (Value × Value)} (h : MapL P k w b l) : ∃ es clock, w.heap[b]? = some (.map es clock) ∧ es.size = l.length := by
  obtain ⟨es, clock, hb, hp, _⟩ := h
  exact ⟨es, clock, hb, by rw [← hp.length_eq, List.length_map, Array.length_toList]⟩
theorem wpList_lenL {P : Program} (w : World) {ops : Array Oper} {rest : List Oper} {o : Oper} {a : Act} {Q : Exit → Act → World → Prop} (hg : o.guard = none) (m : Operand) (t k e : TypeId) (hop : o.op = Op.call { callee := Callee.builtin Builtin.len, args := #[m], argTypes := #[t] })
    (ht : P.underlying t = some (.map k e)) (b : Nat) (l : List (Value × Value)) (hm : a.eval m = .map (some b)) (h : MapL P k w b l) (hK : wpList P ops Q rest (a.put o.dst (.int .i64 l.length)) w) : wpList P ops Q (o :: rest) a w := by
  refine wpList_plain hg fun K' hK' => ?_
  obtain ⟨es, clock, hb, hes⟩ := h.len
  unfold Oper.wp
  simp [execOp, hop, resolve, invoke, builtin, hm, Result.andThen, Builtin.len_, run_underlying ht, MapKept.run_getObj_map hb, goInt, hes]
  exact hK' _ _ hK
end Go.Proofs.YtmlmdlbepppnlaaGreatDoor
namespace Go.Proofs.YtmlmdlbepppnlaaGreatDoor
open Go.RowKit
set_option linter.unusedVariables false
set_option linter.unusedSimpArgs false
attribute [local irreducible] Calls

/-- What the package-level variables of the library hold, as their initialisers lay them. -/
structure Gl (w : World) : Prop where
  big : nG ≤ w.heap.size
  tab : Lib.TabIs Tryz.prog w "internal/strconv.uint64pow10" .u64 Lib.pow10Tab
  syn : ∃ tp p, w.var? Tryz.prog "strconv.ErrSyntax" = some #[.iface tp p]
  rng : ∃ tp p, w.var? Tryz.prog "strconv.ErrRange" = some #[.iface tp p]
theorem gTab : Tryz.prog.globalNamed "internal/strconv.uint64pow10" = some 3 := by kernel_rfl
theorem gSyn : Tryz.prog.globalNamed "strconv.ErrSyntax" = some 1 := by kernel_rfl
theorem gRng : Tryz.prog.globalNamed "strconv.ErrRange" = some 2 := by kernel_rfl
theorem var_of_block {w w' : World} {name : String} {g : Nat} (hg : Tryz.prog.globalNamed name = some g) (h : w'.heap[g]? = w.heap[g]?) : w'.var? Tryz.prog name = w.var? Tryz.prog name := by
  simp only [World.var?, hg, Option.bind_some, h]
theorem Gl.upd {S : Nat → Prop} {w w' : World} (g : Gl w) (u : Upd S w w') : Gl w' := by
  have hb := g.big
  have h : ∀ k, k < nG → w'.heap[k]? = w.heap[k]? := fun k hk => u.block k (Nat.lt_of_lt_of_le hk hb) (Or.inl hk)
  refine ⟨Nat.le_trans hb u.size, ?_, ?_, ?_⟩
  · show w'.var? Tryz.prog _ = _
    rw [var_of_block gTab (h _ (by decide))]; exact g.tab
  · obtain ⟨tp, p, e⟩ := g.syn
    exact ⟨tp, p, by rw [var_of_block gSyn (h _ (by decide))]; exact e⟩
  · obtain ⟨tp, p, e⟩ := g.rng
    exact ⟨tp, p, by rw [var_of_block gRng (h _ (by decide))]; exact e⟩
theorem Gl.drew {w : World} (g : Gl w) : Gl w.drew := g.upd ((Upd.refl (fun _ => False) w).drew)
theorem Gl.drewN {w : World} (g : Gl w) (n : Nat) : Gl (w.drewN n) := g.upd ((Upd.refl (fun _ => False) w).drewN n)
theorem nw_grow (w : World) (k : Nat) (os : Array Obj) : Nw w (Go.Sort.grow (w.drewN k) os) := by
  refine ⟨rfl, rfl, rfl, by simp [Go.Sort.grow], fun i hi _ => ?_⟩
  show ((w.drewN k).heap ++ os)[i]? = _
  have : (w.drewN k).heap = w.heap := rfl
  rw [this, Array.getElem?_append_left hi]

/-- An int64. -/
def I64 (n : Int) : Prop := -9223372036854775808 ≤ n ∧ n ≤ 9223372036854775807
theorem itoa_le {n : Int} (h : I64 n) : (Lib.itoa n).length ≤ 21 := Lib.itoa_length_le n h.1 h.2

theorem Itoa_c (n : Int) (w : World) (g : Gl w) (h : I64 n) :
    Calls Tryz.prog 123 #[.int .i64 n] w fun e w' => e = .returned (.string ⟨(Lib.itoa n).toArray⟩) ∧ Nw w w' :=
  (Tryz.strconv_Itoa n h.1 h.2 w g.tab).mono fun e w' ⟨he, k, os, hw⟩ => ⟨he, hw ▸ nw_grow w k os⟩
theorem IndexByte_c (s : ByteArray) (c : Int) (w : World) :
    Calls Tryz.prog 129 #[.string s, .int .u8 c] w fun e w' => e = .returned (.int .i64 (Lib.indexByte s.data.toList c.toNat.toUInt8)) ∧ w = w' :=
  (Tryz.strings_IndexByte s c w).mono fun e w' ⟨he, hw⟩ => ⟨he, hw.symm⟩
theorem CutPrefix_c (s p : ByteArray) (w : World) :
    Calls Tryz.prog 65 #[.string s, .string p] w fun e w' => e = .returned (.tuple #[.string ⟨(Lib.trimPrefix s.data.toList p.data.toList).toArray⟩, .bool (Lib.hasPrefix s.data.toList p.data.toList)]) ∧ w = w' :=
  (Tryz.strings_CutPrefix s p w).mono fun e w' ⟨he, hw⟩ => ⟨he, hw.symm⟩
theorem size_freeze (w : World) (a : Addr) (n : Nat) : (w.freeze a n).heap.size = w.heap.size := by
  unfold World.freeze; split <;> simp
theorem heap_freeze (w : World) (a : Addr) (n k : Nat) (h : k ≠ a.block) : (w.freeze a n).heap[k]? = w.heap[k]? := by
  unfold World.freeze
  split
  · rfl
  · simp only [Array.getElem?_modify]; rw [if_neg (by omega)]
theorem os_freeze (w : World) (a : Addr) (n : Nat) : (w.freeze a n).os = w.os ∧ (w.freeze a n).tape = w.tape ∧ (w.freeze a n).output = w.output := by
  unfold World.freeze; split <;> exact ⟨rfl, rfl, rfl⟩
theorem nw_bytes (w : World) (t : ByteArray) : Nw w (Lib.bytesWorld w 5 t) := by
  simp only [Lib.bytesWorld]
  refine ⟨(os_freeze _ _ _).1, (os_freeze _ _ _).2.1, (os_freeze _ _ _).2.2, by rw [size_freeze]; simp, fun i hi _ => ?_⟩
  rw [heap_freeze _ _ _ _ (by show i ≠ w.heap.size; omega)]
  exact heap_alloc w.drew _ i hi
/-- The third way in which a number's reading ends. -/
theorem atoi_rest {x : Lib.NumEnd Int} (h1 : ∀ m, x ≠ .ok m) (h2 : x ≠ .range) : x = Lib.atoiAll [] := by
  cases x with
  | ok v => exact absurd rfl (h1 v)
  | range => exact absurd rfl h2
  | _ => rfl
/-- strconv.Atoi: the number and no error, or some number and an error. -/
theorem Atoi_c (s : ByteArray) (w : World) (g : Gl w) (hs : s.size ≤ 281474976710656) :
    Calls Tryz.prog 130 #[.string s] w fun e w' => ∃ n v, e = .returned (.tuple #[.int .i64 n, v]) ∧ I64 n ∧
      ((v = .nilIface ∧ Lib.atoiAll s.data.toList = .ok n) ∨ (∃ t p, v = .iface t p) ∧ ∀ m, Lib.atoiAll s.data.toList ≠ .ok m) ∧ Nw w w' := by
  by_cases hok : ∃ v, Lib.atoiAll s.data.toList = .ok v
  · obtain ⟨v, h⟩ := hok
    refine (Tryz.strconv_Atoi_ok s (by omega) v h w).mono ?_
    rintro e w' ⟨rfl, hw⟩
    refine ⟨v, _, rfl, ?_, Or.inl ⟨rfl, h⟩, ?_⟩
    · unfold Lib.atoiAll at h
      unfold I64
      split at h
      · cases h
      · dsimp only at h
        split at h
        · cases h
        · cases h
        · split at h
          · cases h
          · split at h
            · cases h
            · injection h with h
              split at h <;> omega
    · rcases hw with rfl | ⟨t, rfl⟩
      · exact Upd.refl _ _
      · exact nw_bytes w t
  · have hno : ∀ m, Lib.atoiAll s.data.toList ≠ .ok m := fun m hm => hok ⟨m, hm⟩
    by_cases hr : Lib.atoiAll s.data.toList = .range
    · obtain ⟨tp, p, hv⟩ := g.rng
      refine Calls.mono (show Calls Tryz.prog 130 #[.string s] w _ from Any.strconv_Atoi_range_var Tryz.laysC172 s hs hr tp p w hv) ?_
      rintro e w' ⟨N, rfl, _, _, hb⟩
      refine ⟨_, _, rfl, ?_, Or.inr ⟨⟨_, _, rfl⟩, hno⟩, Upd.of_below _ hb⟩
      unfold Lib.atoiSat I64
      split <;> omega
    · obtain ⟨tp, p, hv⟩ := g.syn
      refine Calls.mono (show Calls Tryz.prog 130 #[.string s] w _ from Any.strconv_Atoi_syntax_var Tryz.laysC172 s hs (atoi_rest hno hr) tp p w hv) ?_
      rintro e w' ⟨N, rfl, _, _, hb⟩
      exact ⟨0, _, rfl, by unfold I64; omega, Or.inr ⟨⟨_, _, rfl⟩, hno⟩, Upd.of_below _ hb⟩
theorem Atoi_l (s : ByteArray) (l : List UInt8) (hl : s.data.toList = l) (w : World) (g : Gl w) (hs : l.length ≤ 281474976710656) :
    Calls Tryz.prog 130 #[.string s] w fun e w' => ∃ n v, e = .returned (.tuple #[.int .i64 n, v]) ∧ I64 n ∧
      ((v = .nilIface ∧ Lib.atoiAll l = .ok n) ∨ (∃ t p, v = .iface t p) ∧ ∀ m, Lib.atoiAll l ≠ .ok m) ∧ Nw w w' := by
  subst hl
  exact Atoi_c s w g (by rw [bs_size]; exact hs)
theorem IndexByte_l (s : ByteArray) (c : UInt8) (l : List UInt8) (hs : s.data.toList = l) (w : World) :
    Calls Tryz.prog 129 #[.string s, .int .u8 c.toNat] w fun e w' => e = .returned (.int .i64 (Lib.indexByte l c)) ∧ w = w' := by
  have h := IndexByte_c s c.toNat w
  rwa [hs, show ((c.toNat : Int).toNat.toUInt8) = c by simp] at h
end Go.Proofs.YtmlmdlbepppnlaaGreatDoor
namespace Go.Proofs.YtmlmdlbepppnlaaGreatDoor
open Go.ChangeShapes Go.WideShapes Go.ChangeAt Go.RowKit Go.Joins
set_option linter.unusedVariables false
set_option linter.unusedSimpArgs false

/-- A slice whose elements have sz cells each; xs: the cells of each element. -/
def SlS (sz lo hi : Nat) (w : World) (v : Value) (xs : List (List Value)) : Prop :=
  (∃ a cap, v = .slice a 0 cap ∧ xs = []) ∨
  ∃ b off cap, v = .slice (some ⟨b, off, none⟩) xs.length cap ∧ xs.length ≤ cap ∧ cap ≤ maxLen ∧ lo ≤ b ∧ b < hi ∧ b < w.heap.size ∧
    ∀ i (h : i < xs.length), xs[i].length = sz ∧ ∀ j, j < sz → w.cell? ⟨b, off + i * sz + j, none⟩ = xs[i][j]?
theorem SlS.upd {sz lo hi : Nat} {S : Nat → Prop} {w w' : World} {v : Value} {xs : List (List Value)} (h : SlS sz lo hi w v xs) (u : Upd S w w') (hs : ∀ k, lo ≤ k → k < hi → ¬ S k) : SlS sz lo hi w' v xs := by
  rcases h with h | ⟨b, off, cap, h1, h2, h3, h4, h5, h6, h7⟩
  · exact Or.inl h
  · refine Or.inr ⟨b, off, cap, h1, h2, h3, h4, h5, Nat.lt_of_lt_of_le h6 u.size, fun i hi' => ⟨(h7 i hi').1, fun j hj => ?_⟩⟩
    rw [← (h7 i hi').2 j hj]
    exact World.cell?_of_block (u.block b h6 (Or.inr (hs b h4 h5)))
theorem SlS.nw {sz lo hi : Nat} {w w' : World} {v : Value} {xs : List (List Value)} (h : SlS sz lo hi w v xs) (u : Nw w w') : SlS sz lo hi w' v xs := h.upd u (fun _ _ _ s => s)
theorem SlS.len {sz lo hi : Nat} {w : World} {v : Value} {xs : List (List Value)} (h : SlS sz lo hi w v xs) : xs.length ≤ maxLen := by
  rcases h with ⟨_, _, _, rfl⟩ | ⟨b, off, cap, h1, h2, h3, h4, h5, h6, h7⟩
  · exact Nat.zero_le _
  · exact Nat.le_trans h2 h3
theorem SlS.open_ {sz lo hi : Nat} {w : World} {v : Value} {xs : List (List Value)} (h : SlS sz lo hi w v xs) :
    ∃ a cap, v = .slice a xs.length cap ∧ xs.length ≤ maxLen ∧ (xs = [] ∨ ∃ b off, a = some ⟨b, off, none⟩ ∧ lo ≤ b ∧ b < hi ∧ b < w.heap.size ∧
      ∀ i (h : i < xs.length), xs[i].length = sz ∧ ∀ j, j < sz → w.cell? ⟨b, off + i * sz + j, none⟩ = xs[i][j]?) := by
  have hl := h.len
  rcases h with ⟨a, cap, rfl, rfl⟩ | ⟨b, off, cap, h1, h2, h3, h4, h5, h6, h7⟩
  · exact ⟨a, cap, rfl, hl, Or.inl rfl⟩
  · exact ⟨some ⟨b, off, none⟩, cap, h1, hl, Or.inr ⟨b, off, rfl, h4, h5, h6, h7⟩⟩

theorem cells?_spec {w : World} {base : Nat} {a : Addr} {n : Nat} {cs : List Value} (h : w.cells? base a n = some cs) : cs.length = n ∧ ∀ j, j < n → w.cell? (a.add j) = cs[j]? := by
  unfold World.cells? at h
  split at h
  · refine ⟨by have := Lib.mapM_length h; simpa using this, fun j hj => ?_⟩
    obtain ⟨b, hb, hf⟩ := Lib.mapM_at h j j (by simp [hj])
    rw [hf, hb]
  · cases h

section
variable {H : Type} {enc : TypeId × Value → H} {w : World} {base : Nat} {sp : Nat → Bool} {held : Bool} {n : Nat} {x : DataW H × List MemPlace}

theorem trod_int_cell {P : Program} {t : TypeId} {k : IntKind} {cs : List Value} (ht : P.underlying t = some (.int k)) (h : DataW.trod enc P w base sp held n t cs = some x) : ∃ m : Int, cs = [.int k m] ∧ (Lit.int k m).wf = true := by
  obtain ⟨m, h1, _, h2⟩ := DataW.trod_int ht h
  exact ⟨m, h1, h2⟩
theorem trod_str_cell {P : Program} {t : TypeId} {cs : List Value} (ht : P.underlying t = some .string) (h : DataW.trod enc P w base sp held n t cs = some x) : ∃ l : List UInt8, cs = [.string ⟨l.toArray⟩] ∧ l.length ≤ maxLen := by
  obtain ⟨s, h1, _, h2⟩ := DataW.trod_string ht h
  exact ⟨s.data.toList, by rw [bs_eta]; exact h1, by rw [← bs_size]; exact h2⟩
theorem i64_of_wf {m : Int} (h : (Lit.int .i64 m).wf = true) : I64 m := by
  have := h
  simp [Lit.wf, IntKind.min, IntKind.max, IntKind.signed, IntKind.bits] at this
  unfold I64; omega
/-- A slice whose elements read somehow. -/
theorem trod_slice_cells {P : Program} {t e : TypeId} {sz : Nat} {cs : List Value} (ht : P.underlying t = some (.slice e)) (hc : P.cellsOf e = sz) (hsz : 0 < sz) (h : DataW.trod enc P w base sp held n t cs = some x) :
    ∃ v xs, cs = [v] ∧ SlS sz 0 w.heap.size w v xs ∧ ∀ c ∈ xs, ∃ m y, DataW.trod enc P w base sp held m e c = some y := by
  rcases DataW.trod_slice ht h with ⟨h0, _⟩ | ⟨a, len, cap, elems, rest, m, _, rfl, rfl, hb, hl, hm, hlen, hel, _, _⟩
  · exact ⟨_, [], h0, Or.inl ⟨none, 0, rfl, rfl⟩, fun c hc => by cases hc⟩
  · have hel' : ∀ i, i < len → ∃ c y, w.cells? base (a.add (i * sz)) sz = some c ∧ DataW.trod enc P w base sp held m e c = some y := fun i hi => by
      have := hel i hi
      rw [hc] at this
      have hy : ∃ y, elems[i]? = some y := ⟨elems[i], by rw [List.getElem?_eq_getElem (by omega)]⟩
      obtain ⟨y, hy⟩ := hy
      rw [hy] at this
      obtain ⟨c, h1, h2⟩ := Option.bind_eq_some_iff.1 this
      exact ⟨c, y, h1, h2⟩
    by_cases h0 : len = 0
    · subst h0
      exact ⟨_, [], rfl, Or.inl ⟨some a, cap, rfl, rfl⟩, fun c hc => by cases hc⟩
    · obtain ⟨C, hC⟩ : ∃ C : Nat → List Value, ∀ i, i < len → w.cells? base (a.add (i * sz)) sz = some (C i) ∧ ∃ y, DataW.trod enc P w base sp held m e (C i) = some y := by
        refine ⟨fun i => if hi : i < len then (hel' i hi).choose else [], fun i hi => ?_⟩
        simp only [dif_pos hi]
        obtain ⟨y, h1, h2⟩ := (hel' i hi).choose_spec
        exact ⟨h1, y, h2⟩
      obtain ⟨hz, hcell⟩ := cells?_spec (hC 0 (by omega)).1
      have hc0 : ∃ u, w.cell? ((a.add (0 * sz)).add 0) = some u := by
        have := hcell 0 hsz
        rw [List.getElem?_eq_getElem (by omega)] at this
        exact ⟨_, this⟩
      obtain ⟨u, hu⟩ := hc0
      have hz0 : (a.add (0 * sz)).add 0 = a := by simp [Addr.add]
      rw [hz0] at hu
      obtain ⟨b, off, spot⟩ := a
      have hspot : spot = none := World.cell?_spot hu
      subst hspot
      have hbl := World.block_lt_of_cell? w _ hu
      refine ⟨_, (List.range len).map C, rfl, Or.inr ⟨b, off, cap, by simp, by simpa using hl, hm, Nat.zero_le _, hbl, hbl, fun i hi => ?_⟩, fun c hc => ?_⟩
      · have hi' : i < len := by simpa using hi
        obtain ⟨h1, h2⟩ := cells?_spec (hC i hi').1
        simp only [List.getElem_map, List.getElem_range]
        refine ⟨h1, fun j hj => ?_⟩
        rw [← h2 j hj, add_plain, add_plain]
      · obtain ⟨i, hi, rfl⟩ := List.mem_map.1 hc
        obtain ⟨y, hy⟩ := (hC i (List.mem_range.1 hi)).2
        exact ⟨m, y, hy⟩
/-- .. where an element has one cell, and reads as the value f of something. -/
theorem sl_of_sls {α : Type} {lo hi : Nat} {v : Value} {xs : List (List Value)} (h : SlS 1 lo hi w v xs) (f : α → Value) (Q : α → Prop) (hx : ∀ c ∈ xs, ∃ y, c = [f y] ∧ Q y) : ∃ l : List α, Sl lo hi w v (l.map f) ∧ ∀ y ∈ l, Q y := by
  obtain ⟨l, hl, hq⟩ : ∃ l : List α, xs = l.map (fun y => [f y]) ∧ ∀ y ∈ l, Q y := by
    clear h
    induction xs with
    | nil => exact ⟨[], rfl, fun y hy => by cases hy⟩
    | cons c xs ih =>
      obtain ⟨l, h1, h2⟩ := ih (fun c hc => hx c (List.mem_cons_of_mem _ hc))
      obtain ⟨y, h3, h4⟩ := hx c (List.mem_cons_self ..)
      exact ⟨y :: l, by rw [h1, h3]; rfl, fun z hz => by rcases List.mem_cons.1 hz with rfl | hz; exact h4; exact h2 z hz⟩
  refine ⟨l, ?_, hq⟩
  subst hl
  rcases h with ⟨a, cap, h1, h2⟩ | ⟨b, off, cap, h1, h2, h3, h4, h5, h6, h7⟩
  · exact Or.inl ⟨a, cap, h1, by rw [List.map_eq_nil_iff] at h2; rw [h2]; rfl⟩
  · refine Or.inr ⟨b, off, cap, by simpa using h1, by simpa using h2, h3, h4, h5, h6, fun i hi => ?_⟩
    have hi' : i < l.length := by simpa using hi
    have := (h7 i (by simpa using hi')).2 0 (by omega)
    simp only [Nat.mul_one, Nat.add_zero, List.getElem_map, List.getElem?_cons_zero] at this
    rw [this]
    simp [hi']
theorem trod_ints_cell {P : Program} {t e : TypeId} {k : IntKind} {cs : List Value} (ht : P.underlying t = some (.slice e)) (he : P.underlying e = some (.int k)) (hc : P.cellsOf e = 1) (h : DataW.trod enc P w base sp held n t cs = some x) :
    ∃ (v : Value) (l : List Int), cs = [v] ∧ Sl 0 w.heap.size w v (l.map (Value.int k)) ∧ ∀ m ∈ l, (Lit.int k m).wf = true := by
  obtain ⟨v, xs, h1, h2, h3⟩ := trod_slice_cells ht hc (by omega) h
  obtain ⟨l, h4, h5⟩ := sl_of_sls h2 (Value.int k) (fun m => (Lit.int k m).wf = true) (fun c hc => by
    obtain ⟨m, y, hy⟩ := h3 c hc
    exact trod_int_cell he hy)
  exact ⟨v, l, h1, h4, h5⟩
end
end Go.Proofs.YtmlmdlbepppnlaaGreatDoor
namespace Go.Proofs.YtmlmdlbepppnlaaGreatDoor
open Go.RowKit
set_option linter.unusedVariables false
set_option linter.unusedSimpArgs false

theorem flat_at {α : Type} {sz : Nat} : ∀ (xs : List (List α)) (i j : Nat), (∀ x ∈ xs, x.length = sz) → j < sz → ∀ h : i < xs.length, xs.flatten[i * sz + j]? = xs[i][j]? := by
  intro xs
  induction xs with
  | nil => intro i j _ _ h; simp at h
  | cons x xs ih =>
    intro i j hx hj h
    have h0 := hx x (List.mem_cons_self ..)
    rw [List.flatten_cons]
    cases i with
    | zero => rw [List.getElem?_append_left (by omega)]; simp
    | succ i =>
      rw [List.getElem?_append_right (by rw [h0, Nat.succ_mul]; omega), h0, show (i + 1) * sz + j - sz = i * sz + j by rw [Nat.succ_mul]; omega]
      rw [ih i j (fun y hy => hx y (List.mem_cons_of_mem _ hy)) hj (by simpa using h)]
      simp
theorem SlS.of_owns {base sz : Nat} {e : TypeId} {w : World} {v : Value} {n : Nat} {xs : List (List Value)} (h : w.ownsRow base e sz v n xs.flatten) (hn : n = xs.length) (hz : 0 < sz) (hx : ∀ x ∈ xs, x.length = sz) : SlS sz base w.heap.size w v xs := by
  obtain ⟨h1, h2⟩ := h
  rcases h2 with ⟨rfl, rfl⟩ | ⟨g, cap, cur, rfl, hb, hg, hc, hm, hs, ht⟩
  · exact Or.inl ⟨_, _, rfl, List.length_eq_zero_iff.1 hn.symm⟩
  · subst hn
    refine Or.inr ⟨g, 0, cap, rfl, hc, hm, hb, lt_of_block hg, lt_of_block hg, fun i hi => ⟨hx _ (List.getElem_mem hi), fun j hj => ?_⟩⟩
    rw [cells_cell hg, Nat.zero_add, ← flat_at xs i j hx hj hi, ← ht, List.getElem?_take, if_pos]
    · simp
    · have : (i + 1) * sz ≤ xs.length * sz := Nat.mul_le_mul_right _ hi
      rw [Nat.succ_mul] at this; omega
theorem owns_base {base base' sz : Nat} {e : TypeId} {w : World} {v : Value} {n : Nat} {xs : List Value} (h : w.ownsRow base e sz v n xs) (hb : base' ≤ base) : w.ownsRow base' e sz v n xs := by
  obtain ⟨h1, h2⟩ := h
  refine ⟨h1, ?_⟩
  rcases h2 with h2 | ⟨g, cap, cur, hv, hb2, r⟩
  · exact Or.inl h2
  · exact Or.inr ⟨g, cap, cur, hv, Nat.le_trans hb hb2, r⟩
/-- 'out = append(out, xs...)', both of them the call's own, xs nil or not. -/
theorem wpList_cat {P : Program} {w : World} {ops : Array Oper} {rest : List Oper} {o : Oper} {a : Act} {Q : Exit → Act → World → Prop} (hgd : o.guard = none) (s x : Operand) (t : TypeId)
    (ho : o.op = .call { callee := .builtin .append, args := #[s, x], argTypes := #[t, t] })
    (base base' : Nat) (e : TypeId) (z : Value) (size bytes : Nat) (ht : P.underlying t = some (.slice e)) (hinfo : (P.info? e).map (fun i => (i.zero, i.size, i.bytes)) = some (some z, size, bytes)) (hzs : z.cells.size = size) (hsz : 0 < size)
    (v vx : Value) (n m : Nat) (xs news : List Value) (hs : a.eval s = v) (hown : w.ownsRow base e size v n xs) (hx : a.eval x = vx) (hsrc : w.ownsRow base' e size vx m news)
    (h1 : ∀ u ∈ news, u.oneCell' = true) (h63 : n + m ≤ maxLen) (hbytes : (n + m) * bytes ≤ 140737488355328) (hbase : base ≤ w.heap.size)
    (h : ∀ v' w', w'.ownsRow base e size v' (n + m) (xs ++ news) → w.grownBy w' v.ownBlock → (∀ k, v.ownBlock = some k → base ≤ k ∧ k < w.heap.size) → wpList P ops Q rest (a.put o.dst v') w') : wpList P ops Q (o :: rest) a w := by
  obtain ⟨i0, hi, hz0, hz1, hz2⟩ := info_parts hinfo
  obtain ⟨hl, hsrc2⟩ := hsrc
  rcases hsrc2 with ⟨rfl, rfl⟩ | ⟨g, cap, cur, rfl, hb, hg, hc, hm, hsz2, htk⟩
  · have hnil : news = [] := List.eq_nil_of_length_eq_zero (by simpa using hl)
    subst hnil
    refine wpList_plain hgd fun K hK => ?_
    have hr : (Builtin.append_ #[t, t] o.type #[v, .slice none 0 0]).run P w = .ok v w := by
      rcases hown.2 with ⟨rfl, rfl⟩ | ⟨g, cap, cur, rfl, _, _, hnc, _⟩
      · simp [Builtin.append_, run_underlying ht, sizeOf, typeInfo, hi, Builtin.lenOf, Builtin.firstCells]
      · simp [Builtin.append_, run_underlying ht, sizeOf, typeInfo, hi, Builtin.lenOf, Builtin.firstCells, hnc, storeCells]
    unfold Oper.wp execOp
    simp only [ho, resolve, invoke, builtin, Sem.run_bind, Sem.run_pure, Result.andThen_ok, List.map_toArray, List.map_cons, List.map_nil, hs, hx, hr]
    exact hK _ _ (h v w (by simpa using hown) ⟨rfl, rfl, rfl, Nat.le_refl _, fun _ _ _ => rfl⟩ hown.lt)
  · refine wpList_append_own _ hgd s x t ho base e i0 z size bytes ht hi hz0 hz1 hz2 hzs hsz v n xs hs hown ⟨g, 0, none⟩ m cap news hx hl ?_ h1 h63 hbytes hbase fun v' w' h2 h3 _ => h v' w' h2 h3 hown.lt
    intro j u hu
    have hj : j < m * size := by
      rw [← hl]
      exact (List.getElem?_eq_some_iff.1 hu).1
    rw [add_plain, cells_cell hg, Nat.zero_add]
    rw [← htk, List.getElem?_take, if_pos hj] at hu
    simpa using hu
end Go.Proofs.YtmlmdlbepppnlaaGreatDoor
namespace Go.Proofs.YtmlmdlbepppnlaaGreatDoor
open Go.RowKit
set_option linter.unusedVariables false
set_option linter.unusedSimpArgs false

/-- 'out = append(out, x)' as wpList_app, with the word on the result's block. -/
theorem wpList_appL {P : Program} {w : World} {ops : Array Oper} {rest : List Oper} {o : Oper} {a : Act} {Q : Exit → Act → World → Prop} (hgd : o.guard = none) (s x : Operand) (t : TypeId)
    (ho : o.op = .call { callee := .builtin .append, args := #[s, x], argTypes := #[t, t] })
    (base : Nat) (e : TypeId) (z : Value) (size bytes : Nat) (ht : P.underlying t = some (.slice e)) (hinfo : (P.info? e).map (fun i => (i.zero, i.size, i.bytes)) = some (some z, size, bytes)) (hzs : z.cells.size = size) (hsz : 0 < size)
    (v : Value) (n : Nat) (xs : List Value) (hs : a.eval s = v) (hown : w.ownsRow base e size v n xs)
    (news : List Value) (hx : a.eval x = .slice (some ⟨w.heap.size, 0, none⟩) 1 1) (hl : news.length = size) (h1 : ∀ u ∈ news, u.oneCell' = true)
    (h63 : n + 1 ≤ maxLen) (hbytes : (n + 1) * bytes ≤ 140737488355328) (hbase : base ≤ w.heap.size) (hnG : nG ≤ base)
    (h : ∀ v' w', w'.ownsRow base e size v' (n + 1) (xs ++ news) → Upd (fun k => v.ownBlock = some k) w w' → (∀ k, v'.ownBlock = some k → v.ownBlock = some k ∨ w.heap.size ≤ k) → wpList P ops Q rest (a.put o.dst v') w') : wpList P ops Q (o :: rest) a (w.alloc (.cells news.toArray e)) := by
  obtain ⟨i0, hi, hz0, hz1, hz2⟩ := info_parts hinfo
  refine wpList_append_lies _ hgd s x t ho base e i0 z size bytes ht hi hz0 hz1 hz2 hzs hsz v n xs hs (hown.alloc _) ⟨w.heap.size, 0, none⟩ 1 1 news hx (by omega) ?_ h1 (by omega) h63 hbytes (by simp; omega) (w.heap.size + 1) (by simp) fun g cap w' h2 h3 h4 h5 => ?_
  · intro j u hu
    have hb := heap_new w (.cells news.toArray e)
    rw [add_plain, cells_cell hb, Nat.zero_add]
    simpa using hu
  · refine h _ w' h2 (((nw_alloc w _).upd _).grown h3 fun k hk => ⟨Or.inl hk, ?_⟩) fun k hk => ?_
    · have := (hown.lt k hk).1
      omega
    · obtain rfl : g = k := by simpa [Value.ownBlock] using hk
      rcases h4 with h4 | h4
      · exact Or.inl h4
      · exact Or.inr (by omega)
end Go.Proofs.YtmlmdlbepppnlaaGreatDoor
namespace Go.Proofs.YtmlmdlbepppnlaaGreatDoor
open Go.RowKit
set_option linter.unusedVariables false
set_option linter.unusedSimpArgs false
attribute [local irreducible] Calls

abbrev Res := (Nat → Prop) → World → Prop
/-- A thing in the blocks f: nothing else matters to it, and its blocks are from B on. -/
structure Stab (B : Nat) (P : Res) : Prop where
  upd : ∀ {f : Nat → Prop} {w w' : World} {S : Nat → Prop}, P f w → Upd S w w' → (∀ k, f k → ¬ S k) → P f w'
  lt : ∀ {f : Nat → Prop} {w : World} {k : Nat}, P f w → f k → B ≤ k ∧ k < w.heap.size
/-- The things c 0 .. c (N - 1). -/
def AtF (W : World) (N : Nat) (c : Nat → Res) (F : Nat → Prop) (f : Nat → Nat → Prop) (z : World) : Prop :=
  Nw W z ∧ (∀ i, i < N → Stab W.heap.size (c i)) ∧ (∀ i, i < N → c i (f i) z) ∧ (∀ i k, i < N → k < N → i ≠ k → ∀ j, f i j → ¬ f k j) ∧ ∀ j, F j → j < z.heap.size ∧ ∀ i, i < N → ¬ f i j
def At (W : World) (N : Nat) (c : Nat → Res) (F : Nat → Prop) (z : World) : Prop := ∃ f, AtF W N c F f z
abbrev MovesN (W : World) (F : Nat → Prop) (z z' : World) : Prop := Upd (fun k => ¬ F k ∧ W.heap.size ≤ k) z z'
def setC (c : Nat → Res) (i : Nat) (P : Res) : Nat → Res := fun k => if k = i then P else c k
theorem setC_self (c : Nat → Res) (i : Nat) (P : Res) : setC c i P i = P := by simp [setC]
theorem setC_ne (c : Nat → Res) {i k : Nat} (P : Res) (h : k ≠ i) : setC c i P k = c k := by simp [setC, h]
def setP (f : Nat → Nat → Prop) (i : Nat) (g : Nat → Prop) : Nat → Nat → Prop := fun k => if k = i then g else f k
theorem setP_pos {f : Nat → Nat → Prop} {i k : Nat} {g : Nat → Prop} (h : k = i) : setP f i g k = g := by simp [setP, h]
theorem setP_neg {f : Nat → Nat → Prop} {i k : Nat} {g : Nat → Prop} (h : ¬ k = i) : setP f i g k = f k := by simp [setP, h]
section
variable {W : World} {N : Nat} {c c' : Nat → Res} {F F' S : Nat → Prop} {z z' : World}
theorem At.nw0 (h : At W N c F z) : Nw W z := by obtain ⟨f, h⟩ := h; exact h.1
theorem At.gl (h : At W N c F z) (g : Gl W) : Gl z := g.upd h.nw0
theorem At.size (h : At W N c F z) : W.heap.size ≤ z.heap.size := h.nw0.size
theorem At.start (W : World) (c : Nat → Res) : At W 0 c (fun _ => False) W :=
  ⟨fun _ _ => False, Upd.refl _ _, fun i hi => by omega, fun i hi => by omega, fun i k hi => by omega, fun j hj => hj.elim⟩
theorem At.same (h : At W N c F z) (e : ∀ i, i < N → c' i = c i) : At W N c' F z := by
  obtain ⟨f, a, b, d, e2, k⟩ := h
  exact ⟨f, a, fun i hi => by rw [e i hi]; exact b i hi, fun i hi => by rw [e i hi]; exact d i hi, e2, k⟩
/-- What is kept is turned, and other blocks are kept from now on. -/
theorem At.upd_keep (h : At W N c F z) (u : Upd S z z') (hs : ∀ k, S k → (F k ∧ W.heap.size ≤ k) ∨ z.heap.size ≤ k) (hF : ∀ k, F' k → F k ∨ (z.heap.size ≤ k ∧ k < z'.heap.size)) : At W N c F' z' := by
  obtain ⟨f, a, b, d, e, k⟩ := h
  have hz := u.size
  have ha := a.size
  refine ⟨f, a.trans' u (fun j hj s => by rcases hs j s with t | t <;> omega), b, fun i hi => (b i hi).upd (d i hi) u (fun j hj s => ?_), e, fun j hj => ?_⟩
  · rcases hs j s with t | t
    · exact (k j t.1).2 i hi hj
    · have := ((b i hi).lt (d i hi) hj).2; omega
  · rcases hF j hj with t | t
    · exact ⟨by have := (k j t).1; omega, (k j t).2⟩
    · exact ⟨t.2, fun i hi s => by have := ((b i hi).lt (d i hi) s).2; omega⟩
theorem At.upd (h : At W N c F z) (u : Upd S z z') (hs : ∀ k, S k → (F k ∧ W.heap.size ≤ k) ∨ z.heap.size ≤ k) : At W N c F z' := h.upd_keep u hs (fun k hk => Or.inl hk)
theorem At.nw (h : At W N c F z) (u : Nw z z') : At W N c F z' := h.upd u (fun k s => s.elim)
theorem At.keep (h : At W N c F z) (u : Nw z z') (hF : ∀ k, F' k → F k ∨ (z.heap.size ≤ k ∧ k < z'.heap.size)) : At W N c F' z' := h.upd_keep u (fun k s => s.elim) hF
theorem At.less (h : At W N c F z) (hF : ∀ k, F' k → F k) : At W N c F' z := h.keep (Upd.refl _ _) (fun k hk => Or.inl (hF k hk))
/-- One more thing, in new blocks. -/
theorem At.push (h : At W N c F z) (u : Nw z z') {P : Res} (hP : Stab W.heap.size P) {f' : Nat → Prop} (hf : P f' z') (hn : ∀ j, f' j → z.heap.size ≤ j) : At W (N + 1) (setC c N P) F z' := by
  have h' := h.nw u
  have hz := u.size
  obtain ⟨f, a, b, d, e, k⟩ := h
  refine ⟨setP f N f', a.trans u, fun i hi => ?_, fun i hi => ?_, fun i l hi hl hil j hj => ?_, fun j hj => ⟨by have := (k j hj).1; omega, fun i hi => ?_⟩⟩
  · by_cases hN : i = N
    · rw [hN, setC_self]; exact hP
    · rw [setC_ne _ _ hN]; exact b i (by omega)
  · by_cases hN : i = N
    · rw [setP_pos hN, hN, setC_self]; exact hf
    · rw [setP_neg hN, setC_ne _ _ hN]; exact (b i (by omega)).upd (d i (by omega)) u (fun _ _ s => s)
  · by_cases hN : i = N
    · rw [setP_pos hN] at hj
      rw [setP_neg (fun e => hil (hN.trans e.symm))]
      exact fun s => by have := hn j hj; have := ((b l (by omega)).lt (d l (by omega)) s).2; omega
    · rw [setP_neg hN] at hj
      by_cases hN2 : l = N
      · rw [setP_pos hN2]
        exact fun s => by have := hn j s; have := ((b i (by omega)).lt (d i (by omega)) hj).2; omega
      · rw [setP_neg hN2]
        exact e i l (by omega) (by omega) hil j hj
  · by_cases hN : i = N
    · rw [setP_pos hN]; exact fun s => by have := hn j s; have := (k j hj).1; omega
    · rw [setP_neg hN]; exact (k j hj).2 i (by omega)
/-- One thing is turned. -/
theorem AtF.turn {f : Nat → Nat → Prop} (h : AtF W N c F f z) {i : Nat} (hi : i < N) {P : Res} (hP : Stab W.heap.size P) (t : ∃ f', P f' z' ∧ Upd (f i) z z' ∧ ∀ j, f' j → f i j ∨ z.heap.size ≤ j) : At W N (setC c i P) F z' ∧ MovesN W F z z' := by
  obtain ⟨a, b, d, e, k⟩ := h
  obtain ⟨f', t1, t2, t3⟩ := t
  have hz := t2.size
  have hlo : ∀ j, f i j → W.heap.size ≤ j := fun j hj => ((b i hi).lt (d i hi) hj).1
  have hno : ∀ l, l < N → l ≠ i → ∀ j, f l j → ¬ f' j := fun l hl hli j hj s => by
    rcases t3 j s with s | s
    · exact e l i hl hi hli j hj s
    · have := ((b l hl).lt (d l hl) hj).2; omega
  refine ⟨⟨setP f i f', a.trans' t2 (fun j hj s => by have := hlo j s; omega), fun l hl => ?_, fun l hl => ?_, fun l m hl hm hlm j hj => ?_, fun j hj => ⟨by have := (k j hj).1; omega, fun l hl => ?_⟩⟩, t2.mono (fun j _ s => ⟨fun q => (k j q).2 i hi s, hlo j s⟩)⟩
  · by_cases hl2 : l = i
    · rw [hl2, setC_self]; exact hP
    · rw [setC_ne _ _ hl2]; exact b l hl
  · by_cases hl2 : l = i
    · rw [setP_pos hl2, hl2, setC_self]; exact t1
    · rw [setP_neg hl2, setC_ne _ _ hl2]; exact (b l hl).upd (d l hl) t2 (fun j hj s => e l i hl hi hl2 j hj s)
  · by_cases hl2 : l = i
    · rw [setP_pos hl2] at hj
      have hm2 : m ≠ i := fun q => hlm (hl2.trans q.symm)
      rw [setP_neg hm2]
      exact fun s => hno m hm hm2 j s hj
    · rw [setP_neg hl2] at hj
      by_cases hm2 : m = i
      · rw [setP_pos hm2]; exact hno l hl hl2 j hj
      · rw [setP_neg hm2]; exact e l m hl hm hlm j hj
  · by_cases hl2 : l = i
    · rw [setP_pos hl2]
      intro s
      rcases t3 j s with s | s
      · exact (k j hj).2 i hi s
      · have := (k j hj).1; omega
    · rw [setP_neg hl2]; exact (k j hj).2 l hl
/-- A call that turns one thing. -/
theorem At.call (h : At W N c F z) {i : Nat} (hi : i < N) {P : Res} (hP : Stab W.heap.size P) {Q : Ending → Prop} {Pg : Program} {fn : FuncId} {args : Array Value}
    (k : ∀ f, c i f z → Calls Pg fn args z fun e z' => Q e ∧ ∃ f', P f' z' ∧ Upd f z z' ∧ ∀ j, f' j → f j ∨ z.heap.size ≤ j) : Calls Pg fn args z fun e z' => Q e ∧ At W N (setC c i P) F z' ∧ MovesN W F z z' := by
  obtain ⟨f, h⟩ := h
  exact (k _ (h.2.2.1 i hi)).mono fun e z' ⟨q, t⟩ => ⟨q, h.turn hi hP t⟩
end
theorem own_slG {B sz : Nat} {e : TypeId} {w : World} {v : Value} {n : Nat} {xs : List Value} (h : w.ownsRow B e sz v n xs) : ∃ a cap, v = .slice a n cap := by
  rcases h.2 with ⟨h1, h2⟩ | ⟨g, cap, cur, h1, _⟩
  · exact ⟨none, 0, by rw [h1, h2]⟩
  · exact ⟨_, _, h1⟩
/-! ### Simple things -/
end Go.Proofs.YtmlmdlbepppnlaaGreatDoor
namespace Go.Proofs.YtmlmdlbepppnlaaGreatDoor
open Go.RowKit Go.MapKept
open Go.Maps (Keyed)
open Go.ChangeMaps (setBlock)
set_option linter.unusedVariables false
set_option linter.unusedSimpArgs false

section
variable {P : Program} {k : TypeId} {w : World} {b r : Nat} {l : List (Value × Value)}
/-- The entries' list that a store leaves. -/
theorem store_raw {t e : TypeId} {es : Array MapEntry} {clock : Nat} (K : Keyed P k) (ht : P.underlying t = some (.map k e)) (hb : w.heap[b]? = some (.map es clock)) (hs : Stamped es clock) (hk : ∀ x ∈ es.toList, ∃ l, keyOf P k x.key = some l) {key : Value} {kl : Lit} (hkey : keyOf P k key = some kl) (val : Value) :
    ∃ es' clock', (Instr.mapUpdate t (.map (some b)) key val).run P w = .ok () { w with heap := w.heap.setIfInBounds b (.map es' clock') } ∧ Stamped es' clock' ∧ clock ≤ clock' ∧
      (∀ p, p ∈ es'.toList.map kv ↔ (p ∈ es.toList.map kv ∧ p.1 ≠ key) ∨ p = (key, val)) ∧
      ((∃ x ∈ es.toList, x.key = key) → clock' = clock ∧ (∀ x' ∈ es'.toList, ∃ x ∈ es.toList, x.born = x'.born ∧ x.key = x'.key) ∧ es'.toList.map (·.born) = es.toList.map (·.born)) := by
  have hst := (stamped_iff es clock).1 hs
  rcases K.find w hkey es.toList hk with ⟨h1, h2⟩ | ⟨j, e0, h1, h2, h3⟩
  · refine ⟨es.push ⟨key, val, clock⟩, clock + 1, ?_, stamped_push hs h2, by omega, fun p => ?_, fun ⟨x, hx, e⟩ => absurd e (h2 x hx)⟩
    · simp [Instr.mapUpdate, run_underlying ht, MapKept.run_getObj_map hb, K.check w false hkey, h1, MapKept.run_setObj_map _ hb, Result.andThen]
    · rw [Array.toList_push, List.map_append, List.mem_append]
      constructor
      · rintro (h | h)
        · obtain ⟨x, hx, rfl⟩ := List.mem_map.1 h
          exact Or.inl ⟨h, h2 x hx⟩
        · exact Or.inr (by simpa [kv] using h)
      · rintro (h | h)
        · exact Or.inl h.1
        · exact Or.inr (by simp [kv, h])
  · have hj : es[j]? = some e0 := by simpa using h2
    have hjl : j < es.toList.length := (List.getElem?_eq_some_iff.1 h2).1
    have hje : es.toList[j] = e0 := (List.getElem?_eq_some_iff.1 h2).2
    have hlist : (es.modify j (fun e' => { e' with key := key, val := val })).toList = es.toList.set j { e0 with key := key, val := val } := by rw [Array.toList_modify, Go.ChangeMaps.modify_eq_set _ _ _ _ h2]
    have hoth : ∀ i x, es.toList[i]? = some x → i ≠ j → x.key ≠ key := fun i x hi hne e => by
      have hx := List.mem_of_getElem? hi
      have h0 := List.mem_of_getElem? h2
      have := entry_eq_of_key hst.2.2 hx h0 (by rw [e, h3])
      subst this
      have hnd := stamp_nodup hst.2.1
      have hil := (List.getElem?_eq_some_iff.1 hi).1
      have hie := (List.getElem?_eq_some_iff.1 hi).2
      exact hne ((List.getElem_inj hnd).1 (hie.trans hje.symm))
    refine ⟨es.modify j (fun e' => { e' with key := key, val := val }), clock, ?_, stamped_modify hs j _ (fun _ _ => rfl) (fun e he he' => ?_), Nat.le_refl _, fun p => ?_, fun _ => ⟨rfl, fun x' hx' => ?_, ?_⟩⟩
    · simp [Instr.mapUpdate, run_underlying ht, MapKept.run_getObj_map hb, K.check w false hkey, h1, hj, h3, K.stays w hkey, MapKept.run_setObj_map _ hb, Result.andThen]
    · rw [hj] at he'
      cases he'
      exact h3.symm
    · rw [hlist]
      constructor
      · intro h
        obtain ⟨x, hx, rfl⟩ := List.mem_map.1 h
        obtain ⟨i, hi, ex⟩ := List.getElem_of_mem hx
        rw [List.getElem_set] at ex
        split at ex
        · exact Or.inr (by rw [← ex]; rfl)
        · rename_i hne
          have hi' : i < es.toList.length := by simpa using hi
          have hx2 : es.toList[i]? = some x := by rw [List.getElem?_eq_getElem hi', ex]
          exact Or.inl ⟨List.mem_map.2 ⟨x, List.mem_of_getElem? hx2, rfl⟩, hoth i x hx2 (fun e => hne e.symm)⟩
      · rintro (⟨h, hne⟩ | rfl)
        · obtain ⟨x, hx, rfl⟩ := List.mem_map.1 h
          obtain ⟨i, hi, ex⟩ := List.getElem_of_mem hx
          refine List.mem_map.2 ⟨x, List.mem_iff_getElem.2 ⟨i, by simpa using hi, ?_⟩, rfl⟩
          rw [List.getElem_set_ne, ex]
          rintro rfl
          rw [hje] at ex
          subst ex
          exact hne h3
        · exact List.mem_map.2 ⟨{ e0 with key := key, val := val }, List.mem_iff_getElem.2 ⟨j, by simpa using hjl, by simp⟩, rfl⟩
    · rw [hlist] at hx'
      obtain ⟨i, hi, ex⟩ := List.getElem_of_mem hx'
      rw [List.getElem_set] at ex
      split at ex
      · exact ⟨e0, List.mem_of_getElem? h2, by rw [← ex], by rw [← ex]; exact h3⟩
      · have hi' : i < es.toList.length := by simpa using hi
        exact ⟨x', by rw [← ex]; exact List.getElem_mem hi', rfl, rfl⟩
    · rw [hlist, List.map_set]
      refine List.ext_getElem? (fun i => ?_)
      rw [List.getElem?_set]
      split
      · rename_i e
        subst e
        split
        · rw [List.getElem?_map, h2]; rfl
        · rename_i hn; exact absurd (by simpa using hjl) hn
      · rfl
theorem kv_nodup {es : Array MapEntry} {clock : Nat} (hs : Stamped es clock) : (es.toList.map kv).Nodup := by
  have hst := (stamped_iff es clock).1 hs
  refine List.pairwise_map.2 (hst.2.2.imp (fun {a c} hne e => hne ?_))
  exact (Prod.mk.inj e).1
theorem MapL.nodup (h : MapL P k w b l) : l.Nodup := by
  obtain ⟨es, clock, hb, h1, h2, h3⟩ := h
  exact h1.nodup_iff.1 (kv_nodup h3)
theorem MapL.of_mem (h : MapL P k w b l) {l' : List (Value × Value)} (hn : l'.Nodup) (hm : ∀ p, p ∈ l' ↔ p ∈ l) : MapL P k w b l' :=
  h.perm ((List.perm_ext_iff_of_nodup h.nodup hn).2 (fun p => (hm p).symm))
/-- 'm[k] = v', the key there or not. -/
theorem MapL.put {t e : TypeId} (h : MapL P k w b l) (K : Keyed P k) (ht : P.underlying t = some (.map k e)) (hg : nG ≤ b) {key : Value} {kl : Lit} (hkey : keyOf P k key = some kl) (val : Value) :
    ∃ w' l', (Instr.mapUpdate t (.map (some b)) key val).run P w = .ok () w' ∧ MapL P k w' b l' ∧ (∀ p, p ∈ l' ↔ (p ∈ l ∧ p.1 ≠ key) ∨ p = (key, val)) ∧ Upd (· = b) w w' := by
  obtain ⟨es, clock, hb, hpm, hk, hs⟩ := h
  have hpm' : (es.toList.map kv).Perm l := hpm
  obtain ⟨es', clock', hrun, hs', _, hm, _⟩ := store_raw K ht hb hs (fun x hx => hk (x.key, x.val) (hpm.mem_iff.1 (List.mem_map.2 ⟨x, hx, rfl⟩))) hkey val
  refine ⟨_, es'.toList.map kv, hrun, ⟨es', clock', by simp [Array.getElem?_setIfInBounds, lt_of_block hb], List.Perm.refl _, fun p hp => ?_, hs'⟩, fun p => by rw [hm, hpm'.mem_iff], Upd.setBlock hg _⟩
  rcases (hm p).1 hp with ⟨h1, _⟩ | rfl
  · exact hk p (hpm'.mem_iff.1 h1)
  · exact ⟨kl, hkey⟩

/-- Block b is a map with the entries l; r is an iterator over it; whatever it has handed out is done. -/
def RangeS (P : Program) (k : TypeId) (w : World) (b r : Nat) (l : List (Value × Value)) (done : Value → Prop) : Prop :=
  ∃ es clock since seen c0, w.heap[b]? = some (.map es clock) ∧ (es.toList.map kv).Perm l ∧ (∀ p ∈ l, ∃ x, keyOf P k p.1 = some x) ∧ Stamped es clock ∧
    w.heap[r]? = some (.mapIter (some b) since seen c0) ∧ (∀ x ∈ es.toList, x.born < since) ∧ since ≤ c0 ∧ since ≤ clock ∧ ∀ x ∈ es.toList, x.born ∈ seen.toList → done x.key
variable {done : Value → Prop}
theorem RangeS.lt (h : RangeS P k w b r l done) : b < w.heap.size ∧ r < w.heap.size ∧ r ≠ b := by
  obtain ⟨es, clock, since, seen, c0, h1, h2, h3, h4, h5, h6⟩ := h
  refine ⟨lt_of_block h1, lt_of_block h5, fun e => ?_⟩
  rw [e, h1] at h5
  cases h5
theorem RangeS.map (h : RangeS P k w b r l done) : MapL P k w b l := by
  obtain ⟨es, clock, since, seen, c0, h1, h2, h3, h4, h5, h6⟩ := h
  exact ⟨es, clock, h1, h2, h3, h4⟩
theorem RangeS.upd {S : Nat → Prop} {w' : World} (h : RangeS P k w b r l done) (u : Upd S w w') (hb : ¬ S b) (hr : ¬ S r) : RangeS P k w' b r l done ∧ w'.rangeLeft b r = w.rangeLeft b r := by
  obtain ⟨es, clock, since, seen, c0, h1, h2, h3, h4, h5, h6⟩ := h
  refine ⟨⟨es, clock, since, seen, c0, u.keep h1 hb, h2, h3, h4, u.keep h5 hr, h6⟩, ?_⟩
  unfold World.rangeLeft
  rw [u.keep h1 hb, h1, u.keep h5 hr, h5]
theorem RangeS.mono {done' : Value → Prop} (h : RangeS P k w b r l done) (hd : ∀ x, done x → done' x) : RangeS P k w b r l done' := by
  obtain ⟨es, clock, since, seen, c0, h1, h2, h3, h4, h5, h6, h7, h8, h9⟩ := h
  exact ⟨es, clock, since, seen, c0, h1, h2, h3, h4, h5, h6, h7, h8, fun x hx hs => hd _ (h9 x hx hs)⟩
/-- 'range m'. -/
theorem MapL.rangeS {t e : TypeId} (h : MapL P k w b l) (ht : P.underlying t = some (.map k e)) :
    ∃ w', (Instr.range t (.map (some b))).run P w = .ok (.pointer (some ⟨w.heap.size, 0, none⟩)) w' ∧ RangeS P k w' b w.heap.size l (fun _ => False) ∧ Nw w w' := by
  obtain ⟨es, clock, h1, h2, h3, h4⟩ := h
  have hst := (stamped_iff es clock).1 h4
  exact ⟨_, run_range_map w t k e b es clock ht h1, ⟨es, clock, clock, #[], clock, Nw.keep (nw_alloc w _) h1, h2, h3, h4, heap_new w _, hst.1, Nat.le_refl _, Nat.le_refl _, fun x _ hs => by simp at hs⟩, nw_alloc _ _⟩
/-- THE STEP: all is done; or an entry comes. -/
theorem RangeS.next (h : RangeS P k w b r l done) (hg : nG ≤ r) (ty : TypeId) :
    ((∀ p ∈ l, done p.1) ∧ (Instr.next (.pointer (some ⟨r, 0, none⟩)) false ty).run P w = .ok (.tuple #[.bool false]) w) ∨
    ∃ p, p ∈ l ∧ ∃ w', (Instr.next (.pointer (some ⟨r, 0, none⟩)) false ty).run P w = .ok (.tuple #[.bool true, p.1, p.2]) w' ∧ RangeS P k w' b r l (fun x => done x ∨ x = p.1) ∧ Upd (· = r) w w' ∧
      w'.rangeLeft b r < w.rangeLeft b r ∧ (Instr.entry (.pointer (some ⟨r, 0, none⟩))).run P w' = .ok (.tuple #[p.1, p.2]) w' := by
  have hne := h.lt.2.2
  have hrlt := h.lt.2.1
  obtain ⟨es, clock, since, seen, c0, h1, h2, h3, h4, h5, h6, h7, h8, h9⟩ := h
  have hst := (stamped_iff es clock).1 h4
  rcases run_next_at (P := P) w ty r b since c0 seen es clock h5 h1 h6 h7 with ⟨h0, hrun⟩ | ⟨e, he, w1, hal, hrun⟩
  · refine Or.inl ⟨fun p hp => ?_, hrun⟩
    obtain ⟨x, hx, rfl⟩ := List.mem_map.1 (h2.mem_iff.2 hp)
    have hs := all_seen es seen h0 x hx
    exact h9 x hx (by simpa using hs)
  · obtain ⟨hem, hes⟩ := mem_left he
    have hr1 : w1.heap[r]? = some (.mapIter (some b) since seen c0) := by rcases hal with rfl | rfl <;> exact h5
    have hb1 : w1.heap[b]? = some (.map es clock) := by rcases hal with rfl | rfl <;> exact h1
    have hset := heap_set (o' := .mapIter (some b) since (seen.push e.born) clock) hr1
    have hb' : (setBlock w1 r (.mapIter (some b) since (seen.push e.born) clock)).heap[b]? = some (.map es clock) := (hset.2 b (fun e1 => hne e1.symm)).trans hb1
    refine Or.inr ⟨kv e, h2.mem_iff.1 (List.mem_map.2 ⟨e, hem, rfl⟩), _, hrun, ⟨es, clock, since, seen.push e.born, clock, hb', h2, h3, h4, hset.1, h6, h8, h8, fun x hx hs => ?_⟩, ?_, ?_, run_entry_at _ r b since seen es clock e hset.1 hb' hem hst.2.1⟩
    · rw [Array.toList_push, List.mem_append, List.mem_singleton] at hs
      rcases hs with hs | hs
      · exact Or.inl (h9 x hx hs)
      · rw [born_inj hst.2.1 hx hem hs]; exact Or.inr rfl
    · rcases hal with rfl | rfl <;> exact ⟨rfl, rfl, rfl, by simp [setBlock], fun i _ hi => hset.2 i (fun e1 => by subst e1; rcases hi with hi | hi; omega; exact hi rfl)⟩
    · unfold World.rangeLeft
      have hr' : (setBlock w1 r (.mapIter (some b) since (seen.push e.born) clock)).heap[r]? = some (.mapIter (some b) since (seen.push e.born) clock) := hset.1
      rw [hb', hr', h1, h5]
      exact left_shrinks es seen e he
/-- 'm[k] = v' in the round, the key there. -/
theorem RangeS.put {t e : TypeId} (h : RangeS P k w b r l done) (K : Keyed P k) (ht : P.underlying t = some (.map k e)) (hg : nG ≤ b) {key v : Value} (hin : (key, v) ∈ l) {kl : Lit} (hkey : keyOf P k key = some kl) (val : Value) :
    ∃ w' l', (Instr.mapUpdate t (.map (some b)) key val).run P w = .ok () w' ∧ RangeS P k w' b r l' done ∧ (∀ p, p ∈ l' ↔ (p ∈ l ∧ p.1 ≠ key) ∨ p = (key, val)) ∧ Upd (· = b) w w' ∧ w'.rangeLeft b r = w.rangeLeft b r := by
  have hne := h.lt.2.2
  obtain ⟨es, clock, since, seen, c0, h1, h2, h3, h4, h5, h6, h7, h8, h9⟩ := h
  obtain ⟨x0, hx0, e0⟩ := List.mem_map.1 (h2.mem_iff.2 hin)
  obtain ⟨es', clock', hrun, hs', _, hm, hold⟩ := store_raw K ht h1 h4 (fun x hx => h3 (kv x) (h2.mem_iff.1 (List.mem_map.2 ⟨x, hx, rfl⟩))) hkey val
  obtain ⟨rfl, hb1, hb2⟩ := hold ⟨x0, hx0, (Prod.mk.inj e0).1⟩
  have hset : ∀ o, ({ w with heap := w.heap.setIfInBounds b o } : World).heap[r]? = w.heap[r]? := fun o => by
    simp only [Array.getElem?_setIfInBounds]
    rw [if_neg (fun e => hne e.symm)]
  refine ⟨_, es'.toList.map kv, hrun, ⟨es', clock', since, seen, c0, by simp [Array.getElem?_setIfInBounds, lt_of_block h1], List.Perm.refl _, fun p hp => ?_, hs', by rw [hset]; exact h5, fun x hx => ?_, h7, h8, fun x hx hs => ?_⟩, fun p => by rw [hm, h2.mem_iff], Upd.setBlock hg _, ?_⟩
  · rcases (hm p).1 hp with ⟨q1, _⟩ | rfl
    · exact h3 p (h2.mem_iff.1 q1)
    · exact ⟨kl, hkey⟩
  · obtain ⟨y, hy, e1, e2⟩ := hb1 x hx
    rw [← e1]; exact h6 y hy
  · obtain ⟨y, hy, e1, e2⟩ := hb1 x hx
    rw [← e2]; exact h9 y hy (by rw [e1]; exact hs)
  · unfold World.rangeLeft
    rw [hset, h5, h1]
    have e1 : ({ w with heap := w.heap.setIfInBounds b (.map es' clock') } : World).heap[b]? = some (.map es' clock') := by simp [Array.getElem?_setIfInBounds, lt_of_block h1]
    rw [e1]
    dsimp only
    have e2 : ∀ a : Array MapEntry, (leftOf a seen).size = ((a.toList.map (·.born)).filter fun n => !seen.contains n).length := fun a => by
      unfold leftOf
      rw [← Array.length_toList, Array.toList_filter, List.filter_map, List.length_map]
      rfl
    rw [e2, e2, hb2]
/-- 'delete(m, k)' in the round. -/
theorem RangeS.drop {t e ty : TypeId} (h : RangeS P k w b r l done) (K : Keyed P k) (ht : P.underlying t = some (.map k e)) (hg : nG ≤ b) {key : Value} {kl : Lit} (hkey : keyOf P k key = some kl) :
    ∃ w' l', (Builtin.delete_ #[t, k] ty #[.map (some b), key]).run P w = .ok (.tuple #[]) w' ∧ RangeS P k w' b r l' done ∧ (∀ p, p ∈ l' ↔ p ∈ l ∧ p.1 ≠ key) ∧ Upd (· = b) w w' ∧ w'.rangeLeft b r ≤ w.rangeLeft b r := by
  have hne := h.lt.2.2
  obtain ⟨es, clock, since, seen, c0, h1, h2, h3, h4, h5, h6, h7, h8, h9⟩ := h
  have hst := (stamped_iff es clock).1 h4
  have hset : ∀ o, ({ w with heap := w.heap.setIfInBounds b o } : World).heap[r]? = w.heap[r]? := fun o => by
    simp only [Array.getElem?_setIfInBounds]
    rw [if_neg (fun e => hne e.symm)]
  have hcl : ∀ (es' : Array MapEntry), (Builtin.delete_ #[t, k] ty #[.map (some b), key]).run P w = .ok (.tuple #[]) { w with heap := w.heap.setIfInBounds b (.map es' clock) } → Stamped es' clock → es'.toList.Sublist es.toList → (∀ x, x ∈ es'.toList ↔ x ∈ es.toList ∧ x.key ≠ key) →
      ∃ w' l', (Builtin.delete_ #[t, k] ty #[.map (some b), key]).run P w = .ok (.tuple #[]) w' ∧ RangeS P k w' b r l' done ∧ (∀ p, p ∈ l' ↔ p ∈ l ∧ p.1 ≠ key) ∧ Upd (· = b) w w' ∧ w'.rangeLeft b r ≤ w.rangeLeft b r := fun es' hrun hs' hsub hmem => by
    have hmm : ∀ p, p ∈ es'.toList.map kv ↔ p ∈ l ∧ p.1 ≠ key := fun p => by
      rw [← h2.mem_iff]
      constructor
      · intro hp
        obtain ⟨x, hx, rfl⟩ := List.mem_map.1 hp
        obtain ⟨q1, q2⟩ := (hmem x).1 hx
        exact ⟨List.mem_map.2 ⟨x, q1, rfl⟩, q2⟩
      · rintro ⟨hp, hk⟩
        obtain ⟨x, hx, rfl⟩ := List.mem_map.1 hp
        exact List.mem_map.2 ⟨x, (hmem x).2 ⟨hx, hk⟩, rfl⟩
    refine ⟨_, es'.toList.map kv, hrun, ⟨es', clock, since, seen, c0, by simp [Array.getElem?_setIfInBounds, lt_of_block h1], List.Perm.refl _, fun p hp => h3 p ((hmm p).1 hp).1, hs', by rw [hset]; exact h5, fun x hx => h6 x ((hmem x).1 hx).1, h7, h8, fun x hx hs => h9 x ((hmem x).1 hx).1 hs⟩, hmm, Upd.setBlock hg _, ?_⟩
    unfold World.rangeLeft
    rw [hset, h5, h1]
    have e1 : ({ w with heap := w.heap.setIfInBounds b (.map es' clock) } : World).heap[b]? = some (.map es' clock) := by simp [Array.getElem?_setIfInBounds, lt_of_block h1]
    rw [e1]
    dsimp only
    have e2 : ∀ a : Array MapEntry, (leftOf a seen).size = (a.toList.filter fun e => !seen.contains e.born).length := fun a => by
      unfold leftOf
      rw [← Array.toList_filter, Array.length_toList]
    rw [e2, e2]
    exact (hsub.filter _).length_le
  rcases K.find w hkey es.toList (fun x hx => h3 (kv x) (h2.mem_iff.1 (List.mem_map.2 ⟨x, hx, rfl⟩))) with ⟨q1, q2⟩ | ⟨j, e0, q1, q2, q3⟩
  · refine hcl es ?_ h4 (List.Sublist.refl _) (fun x => ⟨fun hx => ⟨hx, q2 x hx⟩, fun hx => hx.1⟩)
    simp [Builtin.delete_, run_underlying ht, MapKept.run_getObj_map h1, K.check w _ hkey, q1, MapKept.run_setObj_map _ h1, Result.andThen]
  · have hjl : j < es.toList.length := (List.getElem?_eq_some_iff.1 q2).1
    have hjs : j < es.size := by simpa using hjl
    have hsub : (es.eraseIdxIfInBounds j).toList = es.toList.eraseIdx j := by
      unfold Array.eraseIdxIfInBounds
      rw [dif_pos hjs]
      simp
    refine hcl (es.eraseIdxIfInBounds j) ?_ (stamped_erase h4 j) (by rw [hsub]; exact List.eraseIdx_sublist _ _) (fun x => ?_)
    · simp [Builtin.delete_, run_underlying ht, MapKept.run_getObj_map h1, K.check w _ hkey, q1, MapKept.run_setObj_map _ h1, Result.andThen]
    · rw [hsub, List.mem_eraseIdx_iff_getElem?]
      constructor
      · rintro ⟨i, hne2, hi⟩
        refine ⟨List.mem_of_getElem? hi, fun e => hne2 ?_⟩
        have := entry_eq_of_key hst.2.2 (List.mem_of_getElem? hi) (List.mem_of_getElem? q2) (by rw [e, q3])
        subst this
        have hil := (List.getElem?_eq_some_iff.1 hi).1
        have hie := (List.getElem?_eq_some_iff.1 hi).2
        exact (List.getElem_inj (stamp_nodup hst.2.1)).1 (hie.trans (List.getElem?_eq_some_iff.1 q2).2.symm)
      · rintro ⟨hx, hne2⟩
        obtain ⟨i, hi⟩ := List.getElem?_of_mem hx
        refine ⟨i, fun e1 => hne2 ?_, hi⟩
        rw [e1, q2] at hi
        cases hi
        exact q3
/-- 'range m' at the operation. -/
theorem wpList_rangeS {ops : Array Oper} {rest : List Oper} {o : Oper} {a : Act} {Q : Exit → Act → World → Prop} (hg : o.guard = none) (m : Operand) (t e : TypeId) (hop : o.op = Op.range t m) (ht : P.underlying t = some (.map k e)) (hm : a.eval m = .map (some b)) (h : MapL P k w b l)
    (hK : ∀ w', RangeS P k w' b w.heap.size l (fun _ => False) → Nw w w' → wpList P ops Q rest (a.put o.dst (.pointer (some ⟨w.heap.size, 0, none⟩))) w') : wpList P ops Q (o :: rest) a w := by
  obtain ⟨w', hrun, h1, h2⟩ := h.rangeS ht
  refine wpList_plain hg fun K' hK' => ?_
  unfold Oper.wp
  simp [execOp, hop, hm, hrun, Result.andThen]
  exact hK' _ _ (hK w' h1 h2)
/-- The step at the operation. -/
theorem wpList_nextS {ops : Array Oper} {rest : List Oper} {o : Oper} {a : Act} {Q : Exit → Act → World → Prop} (hg : o.guard = none) (it : Operand) (hop : o.op = Op.next it false) (hit : a.eval it = .pointer (some ⟨r, 0, none⟩)) (h : RangeS P k w b r l done) (hr : nG ≤ r)
    (hDone : (∀ p ∈ l, done p.1) → wpList P ops Q rest (a.put o.dst (.tuple #[.bool false])) w)
    (hMore : ∀ p w', p ∈ l → RangeS P k w' b r l (fun x => done x ∨ x = p.1) → Upd (· = r) w w' → w'.rangeLeft b r < w.rangeLeft b r → (Instr.entry (.pointer (some ⟨r, 0, none⟩))).run P w' = .ok (.tuple #[p.1, p.2]) w' →
      wpList P ops Q rest (a.put o.dst (.tuple #[.bool true, p.1, p.2])) w') : wpList P ops Q (o :: rest) a w := by
  refine wpList_plain hg fun K' hK' => ?_
  unfold Oper.wp
  rcases h.next hr o.type with ⟨hd, hrun⟩ | ⟨p, h1, w', hrun, h3, h4, h5, h6⟩
  · simp [execOp, hop, hit, hrun, Result.andThen]
    exact hK' _ _ (hDone hd)
  · simp [execOp, hop, hit, hrun, Result.andThen]
    exact hK' _ _ (hMore p w' h1 h3 h4 h5 h6)
end
end Go.Proofs.YtmlmdlbepppnlaaGreatDoor
namespace Go.Proofs.YtmlmdlbepppnlaaGreatDoor
open Go.RowKit
open Go.Maps (Keyed)
set_option linter.unusedVariables false
set_option linter.unusedSimpArgs false
attribute [local irreducible] Calls

abbrev tStrMU : TypeId := 9
def bsMU (l : List UInt8) : Value := .string ⟨l.toArray⟩
theorem infoStrMU : (Tryz.prog.info? tStrMU).map (fun i => (i.zero, i.size, i.bytes)) = some (some (.string ⟨#[]⟩), 1, 16) := by kernel_rfl
theorem bsM_oneU (l : List (List UInt8)) : ∀ u ∈ l.map bsMU, u.oneCell' = true := by
  intro u hu; obtain ⟨s, _, rfl⟩ := List.mem_map.1 hu; rfl
abbrev tStrU : TypeId := 9
theorem strKeyedU : Keyed Tryz.prog tStrU := Maps.string_keyed Tryz.underlying9
def addMU (cs : List (List UInt8)) (t : List UInt8) : List (List UInt8) := if t ∈ cs then cs else cs ++ [t]
set_option maxRecDepth 100000 in
theorem clone_mU (B : Nat) (v : Value) (L : List (List UInt8)) (w : World) (g : Gl w) (h : w.ownsRow B tStrMU 1 v L.length (L.map bsMU)) (hL : L.length ≤ 1000000) :
    Calls Tryz.prog 40 #[v] w fun e w' => ∃ v', e = .returned v' ∧ w'.ownsRow w.heap.size tStrMU 1 v' L.length (L.map bsMU) ∧ Nw w w' := by
  have hgb := g.big
  have h' := h
  have HL := Lib.hid hL; clear hL
  have hnil := fun (w : World) (a : Option Addr) (n c : Nat) => Lib.run_eql_slice_nil (P := Tryz.prog) w 25 _ a n c 0 0 Tryz.underlying25
  rcases h.2 with ⟨rfl, hn⟩ | ⟨gg, cap, cur, rfl, _, _, _⟩
  · have hn' := Lib.hid hn
    obtain rfl : L = [] := List.length_eq_zero_iff.1 hn
    clear h h' hn
    go_enter Tryz.func40, Tryz.ntmps40
    go_wp2_with fail
    go_ret
    exact ⟨_, rfl, ⟨by simp, Or.inl ⟨rfl, rfl⟩⟩, Upd.refl _ _⟩
  · have Hn := Lib.hid (h'.alloc (.cells #[] tStrMU))
    clear h h'
    have n1 := nw_alloc w (.cells #[] tStrMU)
    have o1 := owns_empty w tStrMU 1
    go_enter Tryz.func40, Tryz.ntmps40
    go_wp2_with (at_builtin; refine wpList_cat rfl _ _ 25 rfl w.heap.size B tStrMU _ 1 16 Tryz.underlying25 infoStrMU rfl (by decide) _ _ _ _ _ _ rfl o1 rfl Hn.out ?c1 ?c2 ?c3 ?c4 ?_)
    case c1 => exact bsM_oneU L
    case c2 => have := HL.out; unfold maxLen; omega
    case c3 => have := HL.out; omega
    case c4 => simp
    intro v' w2 hown hgrow hob
    have u2 : Nw w w2 := n1.grown hgrow (fun k hk => ⟨Or.inr (hob k hk).1, by have := (hob k hk).1; omega⟩)
    go_wp2_with fail
    go_ret
    refine ⟨_, rfl, ?_, u2⟩
    simpa using hown
/-! ### What is signed is small -/
/-- A list of contents in memory. -/
structure CntOkU (l : List (List UInt8)) : Prop where
  n : l.length ≤ 90
  s : ∀ t ∈ l, t.length ≤ 100
theorem strs_cellsU {lo hi : Nat} {w : World} {v : Value} {l : List (List UInt8)} (h : Sl lo hi w v (l.map bsMU)) :
    ∃ a cap, v = .slice a l.length cap ∧ (l = [] ∨ ∃ b off, a = some ⟨b, off, none⟩ ∧ ∀ i (hi : i < l.length), w.cell? ⟨b, off + i, none⟩ = some (.string ⟨l[i].toArray⟩)) := by
  obtain ⟨a, cap, rfl, -, hc⟩ := h.open_
  refine ⟨a, cap, by rw [List.length_map], ?_⟩
  rcases hc with ⟨-, -, hnil⟩ | ⟨b, off, rfl, -, -, -, hc⟩
  · exact Or.inl (List.map_eq_nil_iff.1 hnil)
  · refine Or.inr ⟨b, off, rfl, fun i hi => ?_⟩
    rw [hc i (by rw [List.length_map]; exact hi), List.getElem?_map, List.getElem?_eq_getElem hi]
    rfl
def csumU (l : List (List UInt8)) : Nat := (l.map List.length).sum
theorem csum_takeU (l : List (List UInt8)) (i : Nat) (h : i < l.length) : csumU (l.take (i + 1)) = csumU (l.take i) + l[i].length := by
  unfold csumU
  rw [List.take_succ_eq_append_getElem h, List.map_append, List.sum_append]; simp
theorem csum_leU {l : List (List UInt8)} (h : ∀ t ∈ l, t.length ≤ 100) : csumU l ≤ l.length * 100 := by
  induction l with
  | nil => exact Nat.le_refl _
  | cons t l ih =>
    have h1 := h t (by simp)
    have h2 := ih (fun s hs => h s (by simp [hs]))
    unfold csumU at h2 ⊢
    rw [List.map_cons, List.sum_cons, List.length_cons]
    omega
set_option maxRecDepth 100000 in
theorem csize_wU (lo hi : Nat) (v : Value) (l : List (List UInt8)) (w : World) (hv : Sl lo hi w v (l.map bsMU)) (hl : CntOkU l) :
    Calls Tryz.prog 86 #[v] w fun e w' => e = .returned (.int .i64 (csumU l : Nat)) ∧ Nw w w' := by
  obtain ⟨a, cap, rfl, hc⟩ := strs_cellsU hv
  have HC := Lib.hid hc
  have hl1 : (l.length : Int) ≤ 90 := by have := hl.n; omega
  have HL := Lib.hid hl
  clear hv hc hl
  go_enter Tryz.func86, Tryz.ntmps86
  go_wp2_with fail
  go_loopw [3, 8] (fun sv iv wr => ∃ i : Nat, i ≤ l.length ∧ iv = .int .i64 (i : Int) ∧ sv = .int .i64 (csumU (l.take i) : Nat) ∧ csumU (l.take i) ≤ i * 100 ∧ Hid (Nw w wr)) (fun _ iv _ => l.length - (intOf iv).toNat)
  case atStart => exact ⟨0, Nat.zero_le _, rfl, rfl, by simp [csumU], Upd.refl _ _⟩
  case round =>
    obtain ⟨i, hi, rfl, rfl, hs, HU⟩ := hrel
    by_cases hlt : i < l.length
    · have hlt1 : (i : Int) < l.length := by omega
      rcases HC.out with hnil | ⟨b, off, rfl, hcell⟩
      · simp [hnil] at hlt
      have c0 : wr.cell? ⟨b, off + i, none⟩ = some (.string ⟨l[i].toArray⟩) := later_cell ⟨wr, HU.out⟩ (hcell i hlt)
      have h100 := HL.out.s l[i] (List.getElem_mem hlt)
      have HS : Hid (csumU (l.take (i + 1)) = csumU (l.take i) + l[i].length) := csum_takeU l i hlt
      have h101 : (l[i].length : Int) ≤ 100 := by omega
      have hs1 : (csumU (l.take i) : Int) ≤ 9000 := by omega
      clear hcell
      generalize csumU (l.take i) = S at *
      generalize l[i] = x at *
      go_wp2_with fail
      go_roundw
      case rel => exact ⟨i + 1, by omega, by go_num, by rw [HS.out]; go_num, by rw [HS.out]; omega, HU⟩
      case measure => simp [intOf]; omega
    · obtain rfl : i = l.length := by omega
      go_wp2_with fail
      go_ret
      rw [List.take_length]
      exact ⟨rfl, HU.out⟩
theorem str_keyAU (s : List UInt8) (h : s.length ≤ 100) : ∃ kl, keyOf Tryz.prog tStrU (.string ⟨s.toArray⟩) = some kl := ⟨_, WideMaps.keyOf_string_mk Tryz.underlying9 (by rw [bs_size, bs_list]; unfold maxLen; omega)⟩
def seenSU (l : List (List UInt8)) : List (Value × Value) := l.map fun s => (.string ⟨s.toArray⟩, .bool true)
theorem bs_injU {a b : List UInt8} (h : (Value.string ⟨a.toArray⟩) = .string ⟨b.toArray⟩) : a = b := by
  injection h with h
  injection h with h
  have := congrArg Array.toList h
  simpa using this
set_option maxRecDepth 100000 in
theorem right_w37U (lo0 hi0 : Nat) (v : Value) (l : List (List UInt8)) (w : World) (g : Gl w) (hv : Sl lo0 hi0 w v (l.map bsMU)) (hl : CntOkU l) (hn : l.Nodup) :
    Calls Tryz.prog 60 #[v] w fun e w' => e = .returned (.bool true) ∧ Nw w w' := by
  obtain ⟨a, cap, rfl, hc⟩ := strs_cellsU hv
  have hgb := g.big
  have n1 := nw_alloc w (.map #[] 0)
  have m1 := MapL.made Tryz.prog tStrU w
  have hmm := @run_makeMap Tryz.prog
  obtain ⟨mb, hmb⟩ : ∃ mb, w.heap.size = mb := ⟨_, rfl⟩
  obtain ⟨w1, hw1⟩ : ∃ w1, w.alloc (.map #[] 0) = w1 := ⟨_, rfl⟩
  have HW1 := Lib.hid hw1
  rw [hw1] at n1 m1
  rw [hmb] at m1
  have Hmb := Lib.hid hmb
  have hJ0 : Hid (MapL Tryz.prog tStrU w1 mb (seenSU (l.take 0)) ∧ Nw w w1) := ⟨m1, n1⟩
  have HC := Lib.hid hc
  have HV := Lib.hid hv
  have HN := Lib.hid hn
  have hl1 : (l.length : Int) ≤ 90 := by have := hl.n; omega
  have HL := Lib.hid hl
  have hsz := csum_leU hl.s
  have hsz1 : (csumU l : Int) ≤ 9000 := by have := hl.n; omega
  have hszd : decide ((csumU l : Int) ≤ 1048576) = true := decide_eq_true (by omega)
  clear hv hc hl hn m1 n1 hmb hw1 hsz
  go_enter Tryz.func60, Tryz.ntmps60
  go_upto_region 2 with fail
  rw [HW1.out]
  (try rw [Hmb.out])
  go_wp2_with fail
  go_loopw [9] (fun iv wr => ∃ i : Nat, i ≤ l.length ∧ iv = .int .i64 (i : Int) ∧ Hid (MapL Tryz.prog tStrU wr mb (seenSU (l.take i)) ∧ Nw w wr)) (fun iv _ => l.length - (intOf iv).toNat)
  case atStart => exact ⟨0, Nat.zero_le _, rfl, hJ0.out⟩
  case round =>
    obtain ⟨i, hi, rfl, HJ⟩ := hrel
    by_cases hlt : i < l.length
    · have hlt1 : (i : Int) < l.length := by omega
      rcases HC.out with hnil | ⟨b, off, rfl, hcell⟩
      · simp [hnil] at hlt
      have c0 : wr.cell? ⟨b, off + i, none⟩ = some (.string ⟨l[i].toArray⟩) := later_cell ⟨wr, HJ.out.2⟩ (hcell i hlt)
      have h100 := HL.out.s l[i] (List.getElem_mem hlt)
      obtain ⟨kl, hkl⟩ := str_keyAU l[i] h100
      obtain ⟨w3, hst, hm3, u3⟩ := HJ.out.1.store_new strKeyedU Tryz.underlying129 (by have := Hmb.out; omega) hkl (fun p hp e => by
        obtain ⟨s, hs, rfl⟩ := List.mem_map.1 hp
        have hx := bs_injU e
        subst hx
        obtain ⟨k, hk, hk2⟩ := List.mem_iff_getElem.1 hs
        rw [List.length_take] at hk
        rw [List.getElem_take] at hk2
        exact List.pairwise_iff_getElem.1 HN.out k i (by omega) hlt (by omega) hk2) (.bool true)
      have Hst := Lib.hid hst
      have hz : Hid (MapL Tryz.prog tStrU w3 mb (seenSU (l.take (i + 1))) ∧ Nw w w3) := by
        refine ⟨?_, HJ.out.2.trans' u3 (fun k hk e => by have := Hmb.out; omega)⟩
        unfold seenSU
        rw [List.take_succ_eq_append_getElem hlt, List.map_append]
        exact hm3
      clear hcell hst hm3 u3 hkl HJ
      generalize l[i] = x at *
      go_wp2_with (at_mapUpdate; refine wpList_storeL rfl _ _ _ 129 rfl _ _ _ rfl rfl rfl Hst.out ?_)
      go_roundw
      case rel => exact ⟨i + 1, by omega, by go_num, hz.out⟩
      case measure => simp [intOf]; omega
    · obtain rfl : i = l.length := by omega
      have hm := HJ.out.1
      rw [List.take_length] at hm
      have HM := Lib.hid hm
      have HU := Lib.hid HJ.out.2
      have hsl : (seenSU l).length = l.length := by unfold seenSU; rw [List.length_map]
      have hcs := Lib.hid (csize_wU lo0 hi0 _ l wr (HV.out.nw HU.out) HL.out)
      have hll : ((l.length : Int) == (l.length : Int)) = true := beq_self_eq_true _
      generalize seenSU l = SS at *
      clear HJ hm
      go_wp2_with (at_len; refine wpList_lenL _ rfl _ 129 tStrU 4 rfl Tryz.underlying129 mb SS rfl HM.out ?_)
      (with_reducible refine (hcs.out).mono ?_)
      rintro _ w5 ⟨rfl, u5⟩
      have HF := Lib.hid (HU.out.trans u5)
      clear u5 hcs
      go_wp2_with fail
      go_ret
      exact ⟨rfl, HF.out⟩
set_option maxRecDepth 100000 in
theorem index_sU (lo0 hi0 : Nat) (v : Value) (l : List (List UInt8)) (t : List UInt8) (w : World) (hv : Sl lo0 hi0 w v (l.map bsMU)) (hl : l.length ≤ 90) :
    Calls Tryz.prog 71 #[v, .string ⟨t.toArray⟩] w fun e w' => e = .returned (.int .i64 (idxI (fun x => decide (x = t)) l)) ∧ Nw w w' := by
  obtain ⟨a, cap, rfl, hc⟩ := strs_cellsU hv
  have HC := Lib.hid hc
  have hl1 : (l.length : Int) ≤ 90 := by omega
  clear hv hc
  go_enter Tryz.func71, Tryz.ntmps71
  go_wp2_with fail
  go_loopw [8] (fun i wr => ∃ n : Nat, n ≤ l.length ∧ i = .int .i64 (n : Int) ∧ Hid (∀ j (h : j < l.length), j < n → (decide (l[j] = t)) = false) ∧ Hid (Nw w wr)) (fun i _ => l.length - (intOf i).toNat)
  case atStart => exact ⟨0, Nat.zero_le _, rfl, fun j _ h => absurd h (Nat.not_lt_zero _), Upd.refl _ _⟩
  case round =>
    obtain ⟨n, hn, rfl, hall, HU⟩ := hrel
    by_cases hlt : n < l.length
    · have hlt1 : (n : Int) < l.length := by omega
      rcases HC.out with hnil | ⟨b, off, rfl, hcell⟩
      · simp [hnil] at hlt
      have c0 : wr.cell? ⟨b, off + n, none⟩ = some (.string ⟨l[n].toArray⟩) := later_cell ⟨wr, HU.out⟩ (hcell n hlt)
      have hnext : l[n] ≠ t → Hid (∀ j (h : j < l.length), j < n + 1 → (decide (l[j] = t)) = false) := fun e j h hj => by
        by_cases ej : j = n
        · subst ej; exact decide_eq_false e
        · exact hall.out j h (by omega)
      have hstop : l[n] = t → Hid (idxI (fun x => decide (x = t)) l = n) := fun e => idx_hit hlt (decide_eq_true e) hall.out
      clear hcell
      generalize l[n] = x at *
      by_cases he : x = t
      · have hr := hstop he
        have htt : (t == x) = true := by simp [he]
        clear hstop hnext he
        go_wp2_with fail
        go_ret
        rw [hr.out]
        exact ⟨rfl, HU.out⟩
      · have hz := hnext he
        have htt : (t == x) = false := by simp; exact fun e => he e.symm
        clear hstop hnext he
        go_wp2_with fail
        go_roundw
        case rel => exact ⟨n + 1, by omega, by go_num, hz, HU⟩
        case measure => simp [intOf]; omega
    · obtain rfl : n = l.length := by omega
      have hr : Hid (idxI (fun x => decide (x = t)) l = -1) := idx_miss (fun j h => hall.out j h h)
      clear hall
      go_wp2_with fail
      go_ret
      rw [hr.out]
      exact ⟨rfl, HU.out⟩
set_option maxRecDepth 100000 in
theorem cprint_wU (lo0 hi0 : Nat) (v : Value) (l : List (List UInt8)) (t : List UInt8) (w : World) (hv : Sl lo0 hi0 w v (l.map bsMU)) (hl : l.length ≤ 90) :
    Calls Tryz.prog 43 #[v, .string ⟨t.toArray⟩] w fun e w' => e = .returned (.int .i64 (idxI (fun x => decide (x = t)) l)) ∧ Nw w w' := by
  have hi := Lib.hid (index_sU lo0 hi0 v l t w hv hl)
  obtain ⟨a, cap, rfl, -⟩ := strs_cellsU hv
  clear hv
  generalize idxI (fun x => decide (x = t)) l = ix at *
  go_enter Tryz.func43, Tryz.ntmps43
  go_wp2_with fail
  (with_reducible refine (hi.out).mono ?_)
  rintro _ w1 ⟨rfl, u1⟩
  go_wp2_with fail
  go_ret
  exact ⟨rfl, u1⟩
theorem idx_inU {l : List (List UInt8)} {t : List UInt8} (h : t ∈ l) : 0 ≤ idxI (fun x => decide (x = t)) l := by
  have := idx_any (fun x => decide (x = t)) l
  rw [List.any_eq_true.2 ⟨t, h, by simp⟩] at this
  exact of_decide_eq_true this
theorem idx_outU {l : List (List UInt8)} {t : List UInt8} (h : t ∉ l) : idxI (fun x => decide (x = t)) l = -1 :=
  idx_miss (fun j hj => decide_eq_false (fun e => h (e ▸ List.getElem_mem hj)))
/-- The print that a text gets. -/
def prtU (l : List (List UInt8)) (t : List UInt8) : Int := if t ∈ l then idxI (fun x => decide (x = t)) l else (l.length : Nat)
theorem prt_inU {l : List (List UInt8)} {t : List UInt8} (h : t ∈ l) : prtU l t = idxI (fun x => decide (x = t)) l := if_pos h
theorem prt_outU {l : List (List UInt8)} {t : List UInt8} (h : t ∉ l) : prtU l t = (l.length : Nat) := if_neg h
theorem cadd_resultsU (tmps : Array Value) (w : World) : (results Tryz.f61 tmps).run Tryz.prog w = .ok (.tuple #[tmps.getD 4 undef, tmps.getD 5 undef, tmps.getD 6 undef]) w := by
  simp [results, Tryz.results61, go_sem]
set_option maxHeartbeats 2000000 in
set_option maxRecDepth 100000 in
theorem cadd_wU (B : Nat) (v : Value) (l : List (List UInt8)) (t : List UInt8) (w : World) (g : Gl w) (hv : w.ownsRow B tStrMU 1 v l.length (l.map bsMU)) (hl : CntOkU l) (hl2 : l.length ≤ 89) (hn : l.Nodup) (ht : t.length ≤ 100) :
    Calls Tryz.prog 61 #[v, .string ⟨t.toArray⟩] w fun e w' => ∃ v', e = .returned (.tuple #[v', .int .i64 (prtU l t), .int .i64 0]) ∧ w'.ownsRow w.heap.size tStrMU 1 v' (addMU l t).length ((addMU l t).map bsMU) ∧ Nw w w' := by
  have hgb := g.big
  have hsl := Sl.of_owns hv
  have HR := Lib.hid (right_w37U _ _ v l w g hsl hl hn)
  have HP := Lib.hid (fun (z : World) (u : Nw w z) => cprint_wU _ _ v l t z (hsl.nw u) hl.n)
  have HS := Lib.hid (fun (z : World) (u : Nw w z) => csize_wU _ _ v l z (hsl.nw u) hl)
  have HC := Lib.hid (fun (z : World) (u : Nw w z) => clone_mU B v l z (g.upd u) (owns_upd' hv u (fun _ _ e => e)) (by omega))
  obtain ⟨a, cap, rfl⟩ := own_slG hv
  have hcs := csum_leU hl.s
  have hcs1 : (csumU l : Int) ≤ 9000 := by omega
  have hl1 : (l.length : Int) ≤ 89 := by omega
  have ht1 : (t.length : Int) ≤ 100 := by omega
  have hI := Lib.hid (fun h : t ∈ l => idx_inU h)
  have hO := Lib.hid (fun h : t ∉ l => idx_outU h)
  clear hv hsl hcs
  generalize csumU l = S at *
  have hpr1 := Lib.hid (fun h : t ∈ l => prt_inU h)
  have hpr2 := Lib.hid (fun h : t ∉ l => prt_outU h)
  generalize idxI (fun x => decide (x = t)) l = ix at *
  generalize prtU l t = pr at *
  go_enter Tryz.func61, Tryz.ntmps61
  go_wp2_with fail
  (with_reducible refine (HR.out).mono ?_)
  rintro _ w1 ⟨rfl, u1⟩
  have HP1 := Lib.hid (HP.out w1 u1)
  clear HR HP
  go_wp2_with fail
  (with_reducible refine (HP1.out).mono ?_)
  rintro _ w2 ⟨rfl, u2⟩
  have HU2 := Lib.hid (u1.trans u2)
  clear HP1 u1 u2
  by_cases hm : t ∈ l
  · have h0 := hI.out hm
    have HA : Hid (addMU l t = l) := by show _ = _; unfold addMU; rw [if_pos hm]
    have HPR : Hid (pr = ix) := hpr1.out hm
    clear hpr1 hpr2
    have d0 : decide (0 ≤ ix) = true := decide_eq_true h0
    have hc := Lib.hid (HC.out w2 HU2.out)
    clear hI hO HS HC hm h0
    go_wp2_with fail
    (with_reducible refine (hc.out).mono ?_)
    rintro _ w3 ⟨v', rfl, o3, u3⟩
    obtain ⟨a3, c3, rfl⟩ := own_slG o3
    have hz : Hid (w3.ownsRow w.heap.size tStrMU 1 (.slice a3 l.length c3) l.length (l.map bsMU) ∧ Nw w w3) := ⟨owns_base o3 HU2.out.size, HU2.out.trans u3⟩
    clear o3 u3 hc
    go_wp2_with fail
    (try simp only [Exit.inBlock, Exit.then])
    refine bodyPost_ret (cadd_resultsU _ _) rfl ?_
    rw [HA.out, HPR.out]
    exact ⟨_, rfl, hz.out⟩
  · have h0 := hO.out hm
    have HA : Hid (addMU l t = l ++ [t]) := by show _ = _; unfold addMU; rw [if_neg hm]
    have HPR : Hid (pr = (l.length : Nat)) := hpr2.out hm
    clear hpr1 hpr2
    subst h0
    have hs := Lib.hid (HS.out w2 HU2.out)
    clear hI hO HS hm
    go_wp2_with fail
    (with_reducible refine (hs.out).mono ?_)
    rintro _ w3 ⟨rfl, u3⟩
    have HU3 := Lib.hid (HU2.out.trans u3)
    have hc := Lib.hid (HC.out w3 HU3.out)
    clear u3 hs HC
    go_wp2_with fail
    (with_reducible refine (hc.out).mono ?_)
    rintro _ w4 ⟨v', rfl, o4, u4⟩
    have HU4 := Lib.hid (HU3.out.trans u4)
    have HO4 := Lib.hid o4
    have hs34 : w3.heap.size ≤ w4.heap.size := u4.size
    have hgw : nG ≤ w3.heap.size := by have := HU3.out.size; omega
    obtain ⟨a4, c4, rfl⟩ := own_slG o4
    clear o4 u4 hc
    go_wp2_with (at_builtin; (refine wpList_appL rfl _ _ 25 rfl w3.heap.size tStrMU _ 1 16 Tryz.underlying25 infoStrMU rfl (by decide) _ _ _ rfl HO4.out [Value.string ⟨t.toArray⟩] rfl rfl ?c1 ?c2 ?c3 hs34 hgw ?_))
    case c1 => intro u hu; rw [List.mem_singleton.1 hu]; rfl
    case c2 => unfold maxLen; omega
    case c3 => omega
    intro v' w5 o5 u5 hob
    obtain ⟨a5, c5, rfl⟩ := own_slG o5
    have hz : Hid (w5.ownsRow w.heap.size tStrMU 1 (.slice a5 (l.length + 1) c5) (l ++ [t]).length ((l ++ [t]).map bsMU) ∧ Nw w w5) := by
      refine ⟨?_, HU4.out.trans' u5 (fun k hk e => by have := (HO4.out.lt k e).1; have := HU3.out.size; omega)⟩
      have := owns_base o5 HU3.out.size
      rw [List.length_append, List.map_append]
      exact this
    clear o5 u5 hob
    go_wp2_with fail
    (try simp only [Exit.inBlock, Exit.then])
    refine bodyPost_ret (cadd_resultsU _ _) rfl ?_
    rw [HA.out, HPR.out]
    exact ⟨_, rfl, hz.out⟩
/-- What package content says of a print. -/
def textAtU (l : List (List UInt8)) (n : Int) : List UInt8 := if 0 ≤ n then l.getD n.toNat [] else []
def hasAtU (l : List (List UInt8)) (n : Int) : Bool := decide (0 ≤ n) && decide (n < l.length)
theorem text_resultsU (tmps : Array Value) (w : World) : (results Tryz.f55 tmps).run Tryz.prog w = .ok (.tuple #[tmps.getD 4 undef, tmps.getD 5 undef]) w := by
  simp [results, Tryz.results55, go_sem]
set_option maxRecDepth 100000 in
theorem ctext_wU (lo hi : Nat) (v : Value) (l : List (List UInt8)) (n : Int) (w : World) (hv : Sl lo hi w v (l.map bsMU)) (hl : l.length ≤ 90) :
    Calls Tryz.prog 55 #[v, .int .i64 n] w fun e w' => e = .returned (.tuple #[.string ⟨(textAtU l n).toArray⟩, .bool (hasAtU l n)]) ∧ Nw w w' := by
  obtain ⟨a, cap, rfl, hc⟩ := strs_cellsU hv
  have HC := Lib.hid hc
  have hl1 : (l.length : Int) ≤ 90 := by omega
  clear hv hc hl
  by_cases h0 : n < 0
  · have d0 : decide (n < 0) = true := decide_eq_true h0
    have h1 : Hid (textAtU l n = [] ∧ hasAtU l n = false) := by
      refine ⟨?_, ?_⟩
      · unfold textAtU; rw [if_neg (by omega)]
      · unfold hasAtU; rw [decide_eq_false (by omega)]; rfl
    rw [h1.out.1, h1.out.2]
    clear h1 h0
    go_enter Tryz.func55, Tryz.ntmps55
    go_wp2_with fail
    (try simp only [Exit.inBlock, Exit.then])
    refine bodyPost_ret (text_resultsU _ _) rfl ?_
    exact ⟨rfl, Upd.refl _ _⟩
  · obtain ⟨k, rfl⟩ : ∃ k : Nat, n = (k : Int) := ⟨n.toNat, by omega⟩
    have d0 : decide ((k : Int) < 0) = false := decide_eq_false h0
    by_cases h1 : k < l.length
    · have d1 : decide ((l.length : Int) ≤ (k : Int)) = false := decide_eq_false (by omega)
      rcases HC.out with hnil | ⟨b, off, rfl, hcell⟩
      · simp [hnil] at h1
      have c0 := hcell k h1
      have h2 : Hid (textAtU l (k : Int) = l[k] ∧ hasAtU l (k : Int) = true) := by
        refine ⟨?_, ?_⟩
        · unfold textAtU; rw [if_pos (by omega)]; simp [h1]
        · unfold hasAtU; simp [h1]
      rw [h2.out.1, h2.out.2]
      clear h2 hcell h0
      generalize l[k] = x at *
      have hk1 : (k : Int) < l.length := by omega
      go_enter Tryz.func55, Tryz.ntmps55
      go_wp2_with fail
      (try simp only [Exit.inBlock, Exit.then])
      refine bodyPost_ret (text_resultsU _ _) rfl ?_
      exact ⟨rfl, Upd.refl _ _⟩
    · have d1 : decide ((l.length : Int) ≤ (k : Int)) = true := decide_eq_true (by omega)
      have h2 : Hid (textAtU l (k : Int) = [] ∧ hasAtU l (k : Int) = false) := by
        refine ⟨?_, ?_⟩
        · unfold textAtU; rw [if_pos (by omega)]; simp [List.getElem?_eq_none (Nat.le_of_not_lt h1)]
        · unfold hasAtU; simp; omega
      rw [h2.out.1, h2.out.2]
      clear h2 h0
      go_enter Tryz.func55, Tryz.ntmps55
      go_wp2_with fail
      (try simp only [Exit.inBlock, Exit.then])
      refine bodyPost_ret (text_resultsU _ _) rfl ?_
      exact ⟨rfl, Upd.refl _ _⟩
end Go.Proofs.YtmlmdlbepppnlaaGreatDoor
namespace Go.Proofs.YtmlmdlbepppnlaaGreatDoor
set_option linter.unusedVariables false
set_option linter.unusedSimpArgs false

namespace Ck
/-- The consecutive parts of n + 1 bytes. -/
def parts (n : Nat) (l : List UInt8) : List (List UInt8) :=
  if h : l = [] then [] else l.take (n + 1) :: parts n (l.drop (n + 1))
termination_by l.length
decreasing_by
  have : l.length ≠ 0 := fun e => h (List.length_eq_zero_iff.1 e)
  simp only [List.length_drop]; omega
theorem parts_nil (n : Nat) : parts n [] = [] := by rw [parts]; simp
theorem parts_cons (n : Nat) {l : List UInt8} (h : l ≠ []) : parts n l = l.take (n + 1) :: parts n (l.drop (n + 1)) := by rw [parts, dif_neg h]
theorem parts_len (n : Nat) : ∀ (k : Nat) (l : List UInt8), l.length ≤ k → (parts n l).length ≤ l.length := by
  intro k
  induction k with
  | zero => intro l h; obtain rfl : l = [] := List.length_eq_zero_iff.1 (by omega); simp [parts_nil]
  | succ k ih =>
    intro l h
    by_cases e : l = []
    · subst e; simp [parts_nil]
    · rw [parts_cons n e, List.length_cons]
      have hl : l.length ≠ 0 := fun c => e (List.length_eq_zero_iff.1 c)
      have := ih (l.drop (n + 1)) (by rw [List.length_drop]; omega)
      rw [List.length_drop] at this
      omega
theorem parts_sz (n : Nat) : ∀ (k : Nat) (l : List UInt8), l.length ≤ k → ∀ p ∈ parts n l, p.length ≤ n + 1 ∧ p ≠ [] := by
  intro k
  induction k with
  | zero => intro l h p hp; obtain rfl : l = [] := List.length_eq_zero_iff.1 (by omega); simp [parts_nil] at hp
  | succ k ih =>
    intro l h p hp
    by_cases e : l = []
    · subst e; simp [parts_nil] at hp
    · rw [parts_cons n e] at hp
      have hl : l.length ≠ 0 := fun c => e (List.length_eq_zero_iff.1 c)
      rcases List.mem_cons.1 hp with rfl | hp
      · exact ⟨by rw [List.length_take]; omega, fun c => by have := congrArg List.length c; rw [List.length_take, List.length_nil] at this; omega⟩
      · exact ih (l.drop (n + 1)) (by rw [List.length_drop]; omega) p hp
theorem parts_join (n : Nat) : ∀ (k : Nat) (l : List UInt8), l.length ≤ k → (parts n l).flatten = l := by
  intro k
  induction k with
  | zero => intro l h; obtain rfl : l = [] := List.length_eq_zero_iff.1 (by omega); simp [parts_nil]
  | succ k ih =>
    intro l h
    by_cases e : l = []
    · subst e; simp [parts_nil]
    · rw [parts_cons n e, List.flatten_cons]
      have hl : l.length ≠ 0 := fun c => e (List.length_eq_zero_iff.1 c)
      rw [ih (l.drop (n + 1)) (by rw [List.length_drop]; omega)]
      exact List.take_append_drop _ _

/-- Contents and prints behind adding texts. -/
def adds : List (List UInt8) → List (List UInt8) → List (List UInt8)
  | cs, [] => cs
  | cs, s :: l => adds (addMU cs s) l
def prts : List (List UInt8) → List (List UInt8) → List Int
  | _, [] => []
  | cs, s :: l => prtU cs s :: prts (addMU cs s) l
theorem adds_snoc (l : List (List UInt8)) (s : List UInt8) : ∀ cs, adds cs (l ++ [s]) = addMU (adds cs l) s := by
  induction l with
  | nil => intro cs; rfl
  | cons a l ih => intro cs; exact ih _
theorem prts_snoc (l : List (List UInt8)) (s : List UInt8) : ∀ cs, prts cs (l ++ [s]) = prts cs l ++ [prtU (adds cs l) s] := by
  induction l with
  | nil => intro cs; rfl
  | cons a l ih => intro cs; exact congrArg (prtU cs a :: ·) (ih (addMU cs a))
theorem prts_len (l : List (List UInt8)) : ∀ cs, (prts cs l).length = l.length := by
  induction l with
  | nil => intro cs; rfl
  | cons a l ih => intro cs; show (_ :: _).length = _; simp [ih]
theorem add_len (cs : List (List UInt8)) (s : List UInt8) : (addMU cs s).length ≤ cs.length + 1 := by unfold addMU; split <;> simp
theorem adds_len (l : List (List UInt8)) : ∀ cs, (adds cs l).length ≤ cs.length + l.length := by
  induction l with
  | nil => intro cs; exact Nat.le_refl _
  | cons a l ih =>
    intro cs
    have := ih (addMU cs a)
    have := add_len cs a
    show (adds (addMU cs a) l).length ≤ _
    rw [List.length_cons]; omega
theorem add_nodup {cs : List (List UInt8)} (h : cs.Nodup) (s : List UInt8) : (addMU cs s).Nodup := by
  unfold addMU
  split
  · exact h
  · next hs => exact List.nodup_append.2 ⟨h, by simp, fun a ha b hb => by rw [List.mem_singleton.1 hb]; rintro rfl; exact hs ha⟩
theorem adds_nodup (l : List (List UInt8)) : ∀ {cs : List (List UInt8)}, cs.Nodup → (adds cs l).Nodup := by
  induction l with
  | nil => intro cs h; exact h
  | cons a l ih => intro cs h; exact ih (add_nodup h a)
theorem add_mem {cs : List (List UInt8)} {s t : List UInt8} (h : t ∈ addMU cs s) : t ∈ cs ∨ t = s := by
  unfold addMU at h
  split at h
  · exact Or.inl h
  · rcases List.mem_append.1 h with h | h
    · exact Or.inl h
    · exact Or.inr (List.mem_singleton.1 h)
theorem adds_mem (l : List (List UInt8)) : ∀ {cs : List (List UInt8)} {t : List UInt8}, t ∈ adds cs l → t ∈ cs ∨ t ∈ l := by
  induction l with
  | nil => intro cs t h; exact Or.inl h
  | cons a l ih =>
    intro cs t h
    rcases ih h with h | h
    · rcases add_mem h with h | rfl
      · exact Or.inl h
      · exact Or.inr (by simp)
    · exact Or.inr (by simp [h])

/-- A manifest. -/
structure Man where
  print : Int
  size : Int
  chunks : List Int
/-- The manifest that Of returns for contents cs. -/
def man (cs : List (List UInt8)) (t : List UInt8) (n : Nat) : Man := { print := prtU cs t, size := t.length, chunks := prts (addMU cs t) (parts n t) }
def conts (cs : List (List UInt8)) (t : List UInt8) (n : Nat) : List (List UInt8) := adds (addMU cs t) (parts n t)
end Ck
end Go.Proofs.YtmlmdlbepppnlaaGreatDoor
namespace Go.Proofs.YtmlmdlbepppnlaaGreatDoor
set_option linter.unusedVariables false
set_option linter.unusedSimpArgs false

namespace Ft
/-- The rest of a text is made up by the contents with some prints. -/
def eats (cs : List (List UInt8)) : List Int → List UInt8 → Bool
  | [], t => t.isEmpty
  | n :: ns, t => (hasAtU cs n && !(textAtU cs n).isEmpty && decide ((textAtU cs n).length ≤ 4096) && (textAtU cs n).isPrefixOf t) && eats cs ns (t.drop (textAtU cs n).length)
def rightM (cs : List (List UInt8)) (m : Ck.Man) : Bool :=
  hasAtU cs m.print && decide (m.size = (textAtU cs m.print).length) && decide (m.chunks.length ≤ 1000) && eats cs m.chunks (textAtU cs m.print)
def checkM (cs : List (List UInt8)) (chunks : List Int) (i : Int) (t : List UInt8) : Bool :=
  (decide (0 ≤ i) && decide (i < chunks.length)) && (hasAtU cs (chunks.getD i.toNat 0) && decide (textAtU cs (chunks.getD i.toNat 0) = t))
/-- The indices, from k on, of the prints that are not in a list. -/
def missF (have_ : List Int) : Nat → List Int → List Int
  | _, [] => []
  | k, n :: ns => if n ∈ have_ then missF have_ (k + 1) ns else (k : Int) :: missF have_ (k + 1) ns
def miss (chunks have_ : List Int) : List Int := missF have_ 0 chunks
theorem missF_snoc (hv : List Int) (n : Int) : ∀ (l : List Int) (k : Nat), missF hv k (l ++ [n]) = missF hv k l ++ if n ∈ hv then [] else [((k + l.length : Nat) : Int)] := by
  intro l
  induction l with
  | nil => intro k; show (if n ∈ hv then missF hv (k + 1) [] else _) = _; split <;> simp [missF]
  | cons a l ih =>
    intro k
    show (if a ∈ hv then missF hv (k + 1) (l ++ [n]) else _ :: missF hv (k + 1) (l ++ [n])) = (if a ∈ hv then missF hv (k + 1) l else _ :: missF hv (k + 1) l) ++ _
    rw [ih (k + 1), List.length_cons, show k + 1 + l.length = k + (l.length + 1) by omega]
    split <;> rfl
theorem miss_snoc (hv : List Int) (n : Int) (l : List Int) : miss (l ++ [n]) hv = miss l hv ++ if n ∈ hv then [] else [(l.length : Int)] := by
  unfold miss; rw [missF_snoc]; simp
theorem missF_len (hv : List Int) : ∀ (l : List Int) (k : Nat), (missF hv k l).length ≤ l.length := by
  intro l
  induction l with
  | nil => intro k; exact Nat.le_refl _
  | cons a l ih =>
    intro k
    have := ih (k + 1)
    show (if a ∈ hv then _ else _ :: _).length ≤ _
    split
    · rw [List.length_cons]; omega
    · rw [List.length_cons, List.length_cons]; omega
theorem miss_len (l hv : List Int) : (miss l hv).length ≤ l.length := missF_len hv l 0
theorem mem_missF (hv : List Int) (x : Int) : ∀ (l : List Int) (k : Nat), x ∈ missF hv k l ↔ ∃ i, ∃ h : i < l.length, x = ((k + i : Nat) : Int) ∧ l[i] ∉ hv := by
  intro l
  induction l with
  | nil => intro k; simp [missF]
  | cons a l ih =>
    intro k
    have key : x ∈ missF hv (k + 1) l ↔ ∃ i, ∃ h : i + 1 < (a :: l).length, x = ((k + (i + 1) : Nat) : Int) ∧ (a :: l)[i + 1] ∉ hv := by
      rw [ih (k + 1)]
      constructor
      · rintro ⟨i, h, e, n⟩; exact ⟨i, by simpa using h, by rw [e]; congr 1; omega, n⟩
      · rintro ⟨i, h, e, n⟩; exact ⟨i, by simpa using h, by rw [e]; congr 1; omega, n⟩
    show x ∈ (if a ∈ hv then missF hv (k + 1) l else (k : Int) :: missF hv (k + 1) l) ↔ _
    by_cases ha : a ∈ hv
    · rw [if_pos ha, key]
      constructor
      · rintro ⟨i, h, e, n⟩; exact ⟨i + 1, h, e, n⟩
      · rintro ⟨i, h, e, n⟩
        cases i with
        | zero => exact absurd ha n
        | succ i => exact ⟨i, h, e, n⟩
    · rw [if_neg ha, List.mem_cons, key]
      constructor
      · rintro (e | ⟨i, h, e, n⟩)
        · exact ⟨0, by simp, by simpa using e, ha⟩
        · exact ⟨i + 1, h, e, n⟩
      · rintro ⟨i, h, e, n⟩
        cases i with
        | zero => exact Or.inl (by simpa using e)
        | succ i => exact Or.inr ⟨i, h, e, n⟩
theorem mem_miss {l hv : List Int} {x : Int} : x ∈ miss l hv ↔ ∃ i, ∃ h : i < l.length, x = (i : Int) ∧ l[i] ∉ hv := by
  unfold miss; rw [mem_missF]; simp
theorem miss_nil {l hv : List Int} (h : ∀ n ∈ l, n ∈ hv) : miss l hv = [] := by
  apply List.eq_nil_iff_forall_not_mem.2
  intro x hx
  obtain ⟨i, hi, _, hn⟩ := mem_miss.1 hx
  exact hn (h _ (List.getElem_mem hi))
theorem miss_nil_iff {l hv : List Int} : miss l hv = [] ↔ ∀ n ∈ l, n ∈ hv := by
  refine ⟨fun h n hn => ?_, miss_nil⟩
  obtain ⟨i, hi, rfl⟩ := List.mem_iff_getElem.1 hn
  by_cases hc : l[i] ∈ hv
  · exact hc
  · have : ((i : Nat) : Int) ∈ miss l hv := mem_miss.2 ⟨i, hi, rfl, hc⟩
    rw [h] at this
    cases this

/-! ### Plans -/
/-- The mirror of least load, among the first k, that has print p; -1 if there is none. -/
def best (p : Int) (load : List Int) (ls : List (List Int)) : Nat → Int
  | 0 => -1
  | k + 1 => if (best p load ls k < 0 ∨ load.getD k 0 < load.getD (best p load ls k).toNat 0) ∧ p ∈ ls.getD k [] then (k : Int) else best p load ls k
theorem best_succ (p : Int) (load : List Int) (ls : List (List Int)) (k : Nat) : best p load ls (k + 1) = if (best p load ls k < 0 ∨ load.getD k 0 < load.getD (best p load ls k).toNat 0) ∧ p ∈ ls.getD k [] then (k : Int) else best p load ls k := rfl
theorem best_lo (p : Int) (load : List Int) (ls : List (List Int)) : ∀ k, -1 ≤ best p load ls k ∧ best p load ls k < k := by
  intro k
  induction k with
  | zero => exact ⟨by show (-1 : Int) ≤ -1; omega, by show (-1 : Int) < 0; omega⟩
  | succ k ih =>
    rw [best_succ]
    split <;> omega
def stepP (ls : List (List Int)) (s : List Int × List Int) (p : Int) : List Int × List Int :=
  let b := best p s.1 ls ls.length
  (s.1.set b.toNat (s.1.getD b.toNat 0 + 1), s.2 ++ [b])
def runP (ls : List (List Int)) (ps : List Int) : List Int × List Int := ps.foldl (stepP ls) (List.replicate ls.length 0, [])
theorem runP_snoc (ls : List (List Int)) (ps : List Int) (p : Int) : runP ls (ps ++ [p]) = stepP ls (runP ls ps) p := by unfold runP; rw [List.foldl_append]; rfl
theorem runP_len (ls : List (List Int)) (ps : List Int) : (runP ls ps).1.length = ls.length ∧ (runP ls ps).2.length = ps.length := by
  have key : ∀ (ps : List Int) (s : List Int × List Int), (ps.foldl (stepP ls) s).1.length = s.1.length ∧ (ps.foldl (stepP ls) s).2.length = s.2.length + ps.length := by
    intro ps
    induction ps with
    | nil => intro s; exact ⟨rfl, rfl⟩
    | cons p ps ih =>
      intro s
      obtain ⟨h1, h2⟩ := ih (stepP ls s p)
      refine ⟨h1.trans (by simp [stepP]), h2.trans (by simp [stepP]; omega)⟩
  obtain ⟨h1, h2⟩ := key ps (List.replicate ls.length 0, [])
  exact ⟨by unfold runP; rw [h1]; simp, by unfold runP; rw [h2]; simp⟩
theorem stepP_bd {ls : List (List Int)} {s : List Int × List Int} {n : Nat} (h : ∀ x ∈ s.1, 0 ≤ x ∧ x ≤ n) (p : Int) : ∀ x ∈ (stepP ls s p).1, 0 ≤ x ∧ x ≤ (n + 1 : Nat) := by
  intro x hx
  have hx : x ∈ s.1.set (best p s.1 ls ls.length).toNat (s.1.getD (best p s.1 ls ls.length).toNat 0 + 1) := hx
  rcases List.mem_or_eq_of_mem_set hx with hx | rfl
  · have := h x hx; omega
  · rw [List.getD_eq_getElem?_getD]
    cases hc : s.1[(best p s.1 ls ls.length).toNat]? with
    | none => simp; omega
    | some y => have := h y (List.mem_of_getElem? hc); simp; omega
theorem runP_bd (ls : List (List Int)) (ps : List Int) : ∀ x ∈ (runP ls ps).1, 0 ≤ x ∧ x ≤ ps.length := by
  have key : ∀ (ps : List Int) (s : List Int × List Int) (n : Nat), (∀ x ∈ s.1, 0 ≤ x ∧ x ≤ n) → ∀ x ∈ (ps.foldl (stepP ls) s).1, 0 ≤ x ∧ x ≤ (n + ps.length : Nat) := by
    intro ps
    induction ps with
    | nil => intro s n h; exact h
    | cons p ps ih =>
      intro s n h x hx
      have := ih (stepP ls s p) (n + 1) (stepP_bd h p) x hx
      rw [List.length_cons]; omega
  intro x hx
  have := key ps (List.replicate ls.length 0, []) 0 (fun y hy => by rw [(List.mem_replicate.1 hy).2]; omega) x hx
  omega
theorem mem_flat {ls : List (List Int)} {p : Int} (h : p ∈ ls.flatten) : ∃ i, i < ls.length ∧ p ∈ ls.getD i [] := by
  obtain ⟨l, hl, hp⟩ := List.mem_flatten.1 h
  obtain ⟨i, hi, rfl⟩ := List.mem_iff_getElem.1 hl
  exact ⟨i, hi, by rw [List.getD_eq_getElem?_getD, List.getElem?_eq_getElem hi]; exact hp⟩
/-- Plan: the mirrors and the error. -/
def plan (chunks : List Int) (ls : List (List Int)) : List Int × Int :=
  if 20 < ls.length ∨ 1000 < chunks.length then ([], 6)
  else if 0 < (miss chunks ls.flatten).length then ([], 33)
  else ((runP ls chunks).2, 0)
theorem best_hit {p : Int} {load : List Int} {ls : List (List Int)} : ∀ k, (∃ i, i < k ∧ p ∈ ls.getD i []) → 0 ≤ best p load ls k ∧ p ∈ ls.getD (best p load ls k).toNat [] := by
  intro k
  induction k with
  | zero => rintro ⟨i, h, _⟩; omega
  | succ k ih =>
    rintro ⟨i, h, hp⟩
    rw [best_succ]
    split
    · next hc => exact ⟨by omega, by rw [Int.toNat_natCast]; exact hc.2⟩
    · next hc =>
      by_cases hik : i = k
      · subst hik
        have hb : ¬ best p load ls i < 0 := fun hb => hc ⟨Or.inl hb, hp⟩
        by_cases hx : ∃ i', i' < i ∧ p ∈ ls.getD i' []
        · exact ih hx
        · exfalso
          have : ∀ k, k ≤ i → best p load ls k = -1 := by
            intro k
            induction k with
            | zero => intro _; rfl
            | succ k ihk =>
              intro hk
              rw [best_succ, if_neg (fun q => hx ⟨k, by omega, q.2⟩)]
              exact ihk (by omega)
          have := this i (Nat.le_refl _)
          omega
      · exact ih ⟨i, by omega, hp⟩
end Ft
end Go.Proofs.YtmlmdlbepppnlaaGreatDoor
namespace Go.Proofs.YtmlmdlbepppnlaaGreatDoor
set_option linter.unusedVariables false
set_option linter.unusedSimpArgs false

namespace Ft
theorem has_nat {cs : List (List UInt8)} {k : Nat} (h : k < cs.length) : hasAtU cs (k : Int) = true := by unfold hasAtU; simp; omega
theorem text_nat {cs : List (List UInt8)} {k : Nat} (h : k < cs.length) : textAtU cs (k : Int) = cs[k] := by
  unfold textAtU; rw [if_pos (by omega)]; simp [h]
theorem has_inv {cs : List (List UInt8)} {n : Int} (h : hasAtU cs n = true) : ∃ k : Nat, ∃ hk : k < cs.length, n = k := by
  unfold hasAtU at h
  simp at h
  exact ⟨n.toNat, by omega, by omega⟩
theorem has_app {cs r : List (List UInt8)} {n : Int} (h : hasAtU cs n = true) : hasAtU (cs ++ r) n = true ∧ textAtU (cs ++ r) n = textAtU cs n := by
  obtain ⟨k, hk, rfl⟩ := has_inv h
  have hk2 : k < (cs ++ r).length := by rw [List.length_append]; omega
  exact ⟨has_nat hk2, by rw [text_nat hk2, text_nat hk, List.getElem_append_left hk]⟩
theorem add_pre (cs : List (List UInt8)) (s : List UInt8) : ∃ r, addMU cs s = cs ++ r := by
  unfold addMU
  split
  · exact ⟨[], by simp⟩
  · exact ⟨[s], rfl⟩
theorem adds_pre (l : List (List UInt8)) : ∀ cs, ∃ r, Ck.adds cs l = cs ++ r := by
  induction l with
  | nil => exact fun cs => ⟨[], by simp [Ck.adds]⟩
  | cons s l ih =>
    intro cs
    obtain ⟨r1, h1⟩ := add_pre cs s
    obtain ⟨r2, h2⟩ := ih (addMU cs s)
    exact ⟨r1 ++ r2, by rw [Ck.adds, h2, h1, List.append_assoc]⟩
theorem idx_spec {cs : List (List UInt8)} {s : List UInt8} (h : s ∈ cs) : ∃ k : Nat, ∃ hk : k < cs.length, idxI (fun x => decide (x = s)) cs = k ∧ cs[k] = s := by
  obtain ⟨k, hk⟩ : ∃ k, cs.findIdx? (fun x => decide (x = s)) = some k := by
    cases he : cs.findIdx? (fun x => decide (x = s)) with
    | some k => exact ⟨k, rfl⟩
    | none =>
      rw [List.findIdx?_eq_none_iff] at he
      simpa using he s h
  obtain ⟨h1, h2, _⟩ := List.findIdx?_eq_some_iff_getElem.1 hk
  exact ⟨k, h1, by unfold idxI; rw [hk], by simpa using h2⟩
theorem prt_spec (cs : List (List UInt8)) (s : List UInt8) : hasAtU (addMU cs s) (prtU cs s) = true ∧ textAtU (addMU cs s) (prtU cs s) = s := by
  unfold prtU addMU
  by_cases h : s ∈ cs
  · rw [if_pos h, if_pos h]
    obtain ⟨k, hk, e1, e2⟩ := idx_spec h
    rw [e1]
    exact ⟨has_nat hk, (text_nat hk).trans e2⟩
  · rw [if_neg h, if_neg h]
    have hk : cs.length < (cs ++ [s]).length := by simp
    exact ⟨has_nat hk, by rw [text_nat hk]; simp⟩
theorem prts_spec (l : List (List UInt8)) : ∀ cs, (∀ n ∈ Ck.prts cs l, hasAtU (Ck.adds cs l) n = true) ∧ (Ck.prts cs l).map (textAtU (Ck.adds cs l)) = l := by
  induction l with
  | nil => exact fun cs => ⟨fun n hn => (by cases hn), rfl⟩
  | cons s l ih =>
    intro cs
    obtain ⟨h1, h2⟩ := ih (addMU cs s)
    obtain ⟨p1, p2⟩ := prt_spec cs s
    obtain ⟨r, hr⟩ := adds_pre l (addMU cs s)
    obtain ⟨q1, q2⟩ := has_app (r := r) p1
    rw [← hr] at q1 q2
    refine ⟨fun n hn => ?_, ?_⟩
    · rcases List.mem_cons.1 hn with rfl | hn
      · exact q1
      · exact h1 n hn
    · show textAtU (Ck.adds (addMU cs s) l) (prtU cs s) :: (Ck.prts (addMU cs s) l).map (textAtU (Ck.adds (addMU cs s) l)) = s :: l
      rw [h2, q2, p2]
theorem eats_ok {cs : List (List UInt8)} : ∀ {ns : List Int} {ps : List (List UInt8)} {t : List UInt8}, (∀ n ∈ ns, hasAtU cs n = true) → ns.map (textAtU cs) = ps → (∀ p ∈ ps, p ≠ [] ∧ p.length ≤ 4096) → t = ps.flatten → eats cs ns t = true := by
  intro ns
  induction ns with
  | nil => rintro ps t _ rfl _ rfl; rfl
  | cons n ns ih =>
    rintro ps t h rfl hp rfl
    obtain ⟨h1, h2⟩ := hp (textAtU cs n) (by simp)
    show ((hasAtU cs n && !(textAtU cs n).isEmpty && decide _ && (textAtU cs n).isPrefixOf _) && eats cs ns _) = true
    rw [h n (by simp), decide_eq_true h2, ih (fun m hm => h m (by simp [hm])) rfl (fun p hq => hp p (by simp at hq ⊢; exact Or.inr hq)) (by simp)]
    simp [h1]
structure Cut (cs : List (List UInt8)) (m : Ck.Man) (t : List UInt8) : Prop where
  nodup : cs.Nodup
  len : cs.length ≤ 90
  sm : ∀ s ∈ cs, s.length ≤ 100
  right : rightM cs m = true
  text : textAtU cs m.print = t ∧ hasAtU cs m.print = true
  chunks : m.chunks.length ≤ 60
  each : ∀ n ∈ m.chunks, hasAtU cs n = true ∧ textAtU cs n ≠ [] ∧ (textAtU cs n).length ≤ 9
  flat : (m.chunks.map (textAtU cs)).flatten = t
theorem cut_ok {cs0 : List (List UInt8)} (hn : cs0.Nodup) {t : List UInt8} (hl : cs0.length + t.length ≤ 85) (hs : ∀ s ∈ cs0, s.length ≤ 100) (ht : t.length ≤ 60) {n : Nat} (hn8 : n ≤ 8) : Cut (Ck.conts cs0 t n) (Ck.man cs0 t n) t := by
  have p1 := Ck.parts_len n t.length t (Nat.le_refl _)
  have p2 := Ck.parts_sz n t.length t (Nat.le_refl _)
  have p3 := Ck.parts_join n t.length t (Nat.le_refl _)
  obtain ⟨q1, q2⟩ := prts_spec (Ck.parts n t) (addMU cs0 t)
  obtain ⟨r1, r2⟩ := prt_spec cs0 t
  obtain ⟨r, hr⟩ := adds_pre (Ck.parts n t) (addMU cs0 t)
  obtain ⟨s1, s2⟩ := has_app (r := r) r1
  rw [← hr] at s1 s2
  have hal := Ck.adds_len (Ck.parts n t) (addMU cs0 t)
  have hal2 := Ck.add_len cs0 t
  have hlen : (Ck.prts (addMU cs0 t) (Ck.parts n t)).length = (Ck.parts n t).length := Ck.prts_len _ _
  have hpp : ∀ p ∈ Ck.parts n t, p ≠ [] ∧ p.length ≤ 4096 := fun p hp => ⟨(p2 p hp).2, by have := (p2 p hp).1; omega⟩
  have he := eats_ok q1 q2 hpp p3.symm
  refine ⟨Ck.adds_nodup _ (Ck.add_nodup hn t), by unfold Ck.conts; omega, fun s hs' => ?_, ?_, ⟨s2.trans r2, s1⟩, by show (Ck.prts _ _).length ≤ 60; omega, fun k hk => ?_, by show ((Ck.prts _ _).map _).flatten = t; unfold Ck.conts; rw [q2, p3]⟩
  · rcases Ck.adds_mem _ hs' with h | h
    · rcases Ck.add_mem h with h | rfl
      · have := hs s h; omega
      · omega
    · have := (p2 s h).1; omega
  · show (hasAtU (Ck.adds (addMU cs0 t) (Ck.parts n t)) (prtU cs0 t) && decide (((t.length : Nat) : Int) = ((textAtU (Ck.adds (addMU cs0 t) (Ck.parts n t)) (prtU cs0 t)).length : Int)) && decide ((Ck.prts (addMU cs0 t) (Ck.parts n t)).length ≤ 1000) && eats (Ck.adds (addMU cs0 t) (Ck.parts n t)) (Ck.prts (addMU cs0 t) (Ck.parts n t)) (textAtU (Ck.adds (addMU cs0 t) (Ck.parts n t)) (prtU cs0 t))) = true
    rw [s1, s2, r2, he, decide_eq_true rfl, decide_eq_true (by omega)]
    rfl
  · have hk2 : k ∈ Ck.prts (addMU cs0 t) (Ck.parts n t) := hk
    have : textAtU (Ck.adds (addMU cs0 t) (Ck.parts n t)) k ∈ Ck.parts n t := by
      have h := List.mem_map_of_mem (f := textAtU (Ck.adds (addMU cs0 t) (Ck.parts n t))) hk2
      rw [q2] at h
      exact h
    refine ⟨q1 k hk2, (p2 _ this).2, ?_⟩
    have := (p2 _ this).1
    show (textAtU (Ck.adds (addMU cs0 t) (Ck.parts n t)) k).length ≤ 9
    omega
/-- In contents without two equal ones the texts tell the prints. -/
theorem text_inj {cs : List (List UInt8)} (hn : cs.Nodup) {a b : Int} (ha : hasAtU cs a = true) (hb : hasAtU cs b = true) (e : textAtU cs a = textAtU cs b) : a = b := by
  obtain ⟨i, hi, rfl⟩ := has_inv ha
  obtain ⟨k, hk, rfl⟩ := has_inv hb
  rw [text_nat hi, text_nat hk] at e
  have := (List.getElem_inj hn (h₀ := hi) (h₁ := hk)).1 e
  omega
theorem print_of {cs : List (List UInt8)} (hn : cs.Nodup) {a : Int} (ha : hasAtU cs a = true) : idxI (fun x => decide (x = textAtU cs a)) cs = a := by
  have hm : textAtU cs a ∈ cs := by
    obtain ⟨i, hi, rfl⟩ := has_inv ha
    rw [text_nat hi]; exact List.getElem_mem hi
  obtain ⟨k, hk, e1, e2⟩ := idx_spec hm
  rw [e1]
  exact text_inj hn (has_nat hk) ha (by rw [text_nat hk, e2])
end Ft
end Go.Proofs.YtmlmdlbepppnlaaGreatDoor
namespace Go.Proofs.YtmlmdlbepppnlaaGreatDoor.Wire
open Go.Lib
set_option linter.unusedVariables false
set_option linter.unusedSimpArgs false

/-! ### Writing -/
def intE (n : Int) : List UInt8 := itoa n ++ [59]
def numE (n : Int) : List UInt8 := if n < 0 then [] else intE n
def textE (s : List UInt8) : List UInt8 := itoa s.length ++ [58] ++ s ++ [44]
/-! ### Reading -/
/-- What a reader has left; none: it has failed. -/
abbrev St := Option (List UInt8)
/-- The int of which l is the decimal form. -/
def numOf (l : List UInt8) : Option Int :=
  match atoiAll l with
  | .ok v => if itoa v = l then some v else none
  | _ => none
def rNumber (st : St) (e : UInt8) (least : Int) : Int × St :=
  match st with
  | none => (0, none)
  | some r =>
    if indexByte (r.take 21) e < 0 then (0, none) else
    match numOf (r.take (indexByte (r.take 21) e).toNat) with
    | some n => if n < least then (0, none) else (n, some (r.drop ((indexByte (r.take 21) e).toNat + 1)))
    | none => (0, none)
def rClose (st : St) (e : UInt8) : St :=
  match st with
  | some (c :: r) => if c = e then some r else none
  | _ => none
def rNum (st : St) : Int × St := rNumber st 59 0
def rText (st : St) : List UInt8 × St :=
  match rNumber st 58 0 with
  | (n, some r) =>
    if r.length < n.toNat then ([], none) else
    match rClose (some (r.drop n.toNat)) 44 with
    | some r' => (r.take n.toNat, some r')
    | none => ([], none)
  | (_, none) => ([], none)
theorem indexByte_lt : ∀ (l : List UInt8) (c : UInt8), indexByte l c < l.length
  | [], c => by simp [indexByte]
  | b :: l, c => by
    have ih := indexByte_lt l c
    simp only [indexByte]
    split
    · simp only [List.length_cons]; omega
    · split <;> (simp only [List.length_cons]; omega)
theorem rNumber_eq (st : St) (e : UInt8) (least : Int) : rNumber st e least =
    if indexByte ((st.getD []).take 21) e < 0 then (0, none) else
    match numOf ((st.getD []).take (indexByte ((st.getD []).take 21) e).toNat) with
    | some n => if n < least then (0, none) else (n, some ((st.getD []).drop ((indexByte ((st.getD []).take 21) e).toNat + 1)))
    | none => (0, none) := by
  cases st with
  | none => rfl
  | some r => rfl
theorem rNumber_neg {st : St} {e : UInt8} {least : Int} (h : indexByte ((st.getD []).take 21) e < 0) : rNumber st e least = (0, none) := by
  rw [rNumber_eq, if_pos h]
theorem rNumber_none {st : St} {e : UInt8} {least i : Int} (hi : indexByte ((st.getD []).take 21) e = i) (h : 0 ≤ i) (hn : numOf ((st.getD []).take i.toNat) = none) : rNumber st e least = (0, none) := by
  rw [rNumber_eq, hi, if_neg (by omega), hn]
theorem rNumber_some {st : St} {e : UInt8} {least i n : Int} (hi : indexByte ((st.getD []).take 21) e = i) (h : 0 ≤ i) (hn : numOf ((st.getD []).take i.toNat) = some n) :
    rNumber st e least = if n < least then (0, none) else (n, some ((st.getD []).drop (i.toNat + 1))) := by
  rw [rNumber_eq, hi, if_neg (by omega), hn]
theorem isSome_of_index {st : St} {i : Int} {e : UInt8} (hi : indexByte ((st.getD []).take 21) e = i) (h : 0 ≤ i) : st.isNone = false := by
  cases st with
  | none => simp [indexByte] at hi; omega
  | some r => rfl
theorem numOf_none {l : List UInt8} (h : ∀ m, atoiAll l ≠ .ok m) : numOf l = none := by
  unfold numOf
  split
  · rename_i v hv; exact absurd hv (h v)
  · rfl
theorem numOf_ne {l : List UInt8} {n : Int} (h : atoiAll l = .ok n) (hn : itoa n ≠ l) : numOf l = none := by
  unfold numOf; rw [h]; exact if_neg hn
theorem numOf_eq {l : List UInt8} {n : Int} (h : atoiAll l = .ok n) (hn : itoa n = l) : numOf l = some n := by
  unfold numOf; rw [h]; exact if_pos hn
theorem numOf_i64 {l : List UInt8} {n : Int} (h : numOf l = some n) : -9223372036854775808 ≤ n ∧ n ≤ 9223372036854775807 := by
  unfold numOf at h
  split at h
  · rename_i v hv
    split at h
    · injection h with h
      subst h
      unfold atoiAll at hv
      split at hv
      · cases hv
      · dsimp only at hv
        split at hv
        · cases hv
        · cases hv
        · split at hv
          · cases hv
          · split at hv
            · cases hv
            · injection hv with hv
              split at hv <;> omega
    · cases h
  · cases h
theorem rNumber_least (st : St) (e : UInt8) (least : Int) (h0 : least ≤ 0) : least ≤ (rNumber st e least).1 := by
  unfold rNumber
  split
  · exact h0
  · split
    · exact h0
    · split
      · split
        · exact h0
        · dsimp only; omega
      · exact h0
/-- A number that was read has left less than there was. -/
theorem rNumber_len {r r' : List UInt8} {e : UInt8} {least n : Int} (h : rNumber (some r) e least = (n, some r')) : r'.length < r.length := by
  unfold rNumber at h
  dsimp only at h
  have hl := indexByte_lt (r.take 21) e
  split at h
  · simp at h
  · split at h
    · split at h
      · simp at h
      · simp only [Prod.mk.injEq, Option.some.injEq] at h
        rw [← h.2]
        simp only [List.length_drop, List.length_take] at hl ⊢
        omega
    · simp at h
theorem rClose_no {st : St} {c : UInt8} (h : hasPrefix (st.getD []) [c] = false) : rClose st c = none := by
  match st with
  | none => rfl
  | some [] => rfl
  | some (d :: r) =>
    simp only [hasPrefix, Option.getD_some, List.isPrefixOf, Bool.and_true] at h
    simp only [rClose]
    rw [if_neg]
    rintro rfl
    simp at h
theorem rClose_yes {st : St} {c : UInt8} (h : hasPrefix (st.getD []) [c] = true) : st.isNone = false ∧ rClose st c = some (trimPrefix (st.getD []) [c]) := by
  match st with
  | none => simp [hasPrefix, List.isPrefixOf] at h
  | some [] => simp [hasPrefix, List.isPrefixOf] at h
  | some (d :: r) =>
    refine ⟨rfl, ?_⟩
    have h' := h
    simp only [hasPrefix, Option.getD_some, List.isPrefixOf, Bool.and_true, beq_iff_eq] at h'
    simp only [trimPrefix, h, if_true, rClose]
    rw [if_pos h'.symm]
    rfl
theorem trimPrefix_no {s p : List UInt8} (h : hasPrefix s p = false) : trimPrefix s p = s := by simp [trimPrefix, h]
theorem rNumber_zero {st : St} {e : UInt8} {least n : Int} (h : rNumber st e least = (n, none)) : n = 0 := by
  unfold rNumber at h
  split at h
  · simp at h; exact h.symm
  · split at h
    · simp at h; exact h.symm
    · split at h
      · split at h
        · simp at h; exact h.symm
        · simp at h
      · simp at h; exact h.symm
theorem rText_none {st : St} {n : Int} (h : rNumber st 58 0 = (n, none)) : rText st = ([], none) := by simp [rText, h]
theorem rText_far {st : St} {n : Int} {r : List UInt8} (h : rNumber st 58 0 = (n, some r)) (hn : (r.length : Int) < n) : rText st = ([], none) := by
  simp only [rText, h]; rw [if_pos (by omega)]
theorem rText_open {st : St} {n : Int} {r : List UInt8} (h : rNumber st 58 0 = (n, some r)) (hn : n ≤ r.length) (hc : rClose (some (r.drop n.toNat)) 44 = none) : rText st = ([], none) := by
  simp only [rText, h]; rw [if_neg (by omega), hc]
theorem rText_ok {st : St} {n : Int} {r r' : List UInt8} (h : rNumber st 58 0 = (n, some r)) (hn : n ≤ r.length) (hc : rClose (some (r.drop n.toNat)) 44 = some r') : rText st = (r.take n.toNat, some r') := by
  simp only [rText, h]; rw [if_neg (by omega), hc]
/-- A call leaves no more than there was. -/
theorem rNumber_le (st : St) (e : UInt8) (least : Int) : ((rNumber st e least).2.getD []).length ≤ (st.getD []).length := by
  cases st with
  | none => exact Nat.le_refl _
  | some r =>
    cases h : rNumber (some r) e least with
    | mk n s =>
      cases s with
      | none => exact Nat.zero_le _
      | some r' => have := rNumber_len h; simp only [Option.getD_some]; omega
theorem rClose_le (st : St) (e : UInt8) : ((rClose st e).getD []).length ≤ (st.getD []).length := by
  match st with
  | none => exact Nat.le_refl _
  | some [] => exact Nat.le_refl _
  | some (c :: r) => simp only [rClose]; split <;> simp
theorem rText_le (st : St) : ((rText st).2.getD []).length ≤ (st.getD []).length := by
  have h1 := rNumber_le st 58 0
  cases h : rNumber st 58 0 with
  | mk n s =>
    rw [h] at h1
    cases s with
    | none => rw [rText_none h]; exact Nat.zero_le _
    | some r =>
      by_cases hn : n ≤ r.length
      · have h2 := rClose_le (some (r.drop n.toNat)) 44
        cases hc : rClose (some (r.drop n.toNat)) 44 with
        | none => rw [rText_open h hn hc]; exact Nat.zero_le _
        | some r' => rw [rText_ok h hn hc]; rw [hc] at h2; simp at h1 h2 ⊢; omega
      · rw [rText_far h (by omega)]; exact Nat.zero_le _
end Go.Proofs.YtmlmdlbepppnlaaGreatDoor.Wire
namespace Go.Proofs.YtmlmdlbepppnlaaGreatDoor.Wire
open Go.Lib Go.RowKit
set_option linter.unusedVariables false
set_option linter.unusedSimpArgs false

theorem parse_append : ∀ (l r : List UInt8) (a b : Nat), parseUint10 a l = .ok b → parseUint10 a (l ++ r) = parseUint10 b r
  | [], r, a, b, h => by simp only [parseUint10] at h; injection h with h; rw [h]; rfl
  | c :: l, r, a, b, h => by
    simp only [List.cons_append, parseUint10] at h ⊢
    split at h
    · rename_i h1
      rw [if_pos h1]
      split at h
      · cases h
      · rename_i h2
        rw [if_neg h2]
        split at h
        · cases h
        · rename_i h3
          rw [if_neg h3]
          exact parse_append l r _ b h
    · cases h
theorem digit_toNat {d : Nat} (h : d < 10) : (UInt8.ofNat (48 + d)).toNat = 48 + d := by
  simp; omega
theorem decDigits_step' {u : Nat} (h : ¬ u < 10) : decDigits u = decDigits (u / 10) ++ [UInt8.ofNat (48 + u % 10)] := by
  conv => lhs; rw [decDigits, dif_neg h]
theorem parse_decDigits (k : Nat) : ∀ u, u < k → u ≤ 9223372036854775808 → parseUint10 0 (decDigits u) = .ok u := by
  induction k with
  | zero => intro u h; omega
  | succ k ih =>
    intro u h hb
    by_cases h10 : u < 10
    · rw [decDigits_one h10]
      simp only [parseUint10, digit_toNat h10]
      rw [if_pos (by omega), if_neg (by omega), if_neg (by omega)]
      congr 1; omega
    · rw [decDigits_step' h10, parse_append _ _ _ _ (ih (u / 10) (by omega) (by omega))]
      have hd : u % 10 < 10 := by omega
      simp only [parseUint10, digit_toNat hd]
      rw [if_pos (by omega), if_neg (by omega), if_neg (by omega)]
      congr 1; omega
theorem decDigits_digits (k : Nat) : ∀ u, u < k → ∀ c ∈ decDigits u, 48 ≤ c.toNat ∧ c.toNat ≤ 57 := by
  induction k with
  | zero => intro u h; omega
  | succ k ih =>
    intro u h c hc
    by_cases h10 : u < 10
    · rw [decDigits_one h10, List.mem_singleton] at hc
      rw [hc, digit_toNat h10]; omega
    · rw [decDigits_step' h10, List.mem_append] at hc
      rcases hc with hc | hc
      · exact ih (u / 10) (by omega) c hc
      · rw [List.mem_singleton] at hc
        rw [hc, digit_toNat (by omega)]; omega
theorem decDigits_ne (u : Nat) : decDigits u ≠ [] := by
  rw [decDigits]; split <;> simp
theorem atoiAll_neg {r : List UInt8} {u : Nat} (h : parseMag r = .ok u) (hu : u ≤ 9223372036854775808) : atoiAll (45 :: r) = .ok (-(u : Int)) := by
  have e : (if (45 : UInt8).toNat = 43 ∨ (45 : UInt8).toNat = 45 then r else 45 :: r) = r := if_pos (by decide)
  unfold atoiAll
  simp only [e, h]
  rw [if_neg (by simp), if_neg (by omega), if_pos (by decide)]
theorem atoiAll_pos {c : UInt8} {r : List UInt8} {u : Nat} (hc : 48 ≤ c.toNat) (h : parseMag (c :: r) = .ok u) (hu : u < 9223372036854775808) : atoiAll (c :: r) = .ok (u : Int) := by
  have e : (if c.toNat = 43 ∨ c.toNat = 45 then r else c :: r) = c :: r := if_neg (by omega)
  unfold atoiAll
  simp only [e, h]
  rw [if_neg (by omega), if_neg (by omega), if_neg (by omega)]
theorem atoi_itoa {v : Int} (h0 : -9223372036854775808 ≤ v) (h1 : v ≤ 9223372036854775807) : atoiAll (itoa v) = .ok v := by
  by_cases hn : v < 0
  · have hp := parse_decDigits (v.natAbs + 1) v.natAbs (by omega) (by omega)
    have hm : parseMag (decDigits v.natAbs) = .ok v.natAbs := by unfold parseMag; rw [if_neg (decDigits_ne _), hp]
    rw [show itoa v = 45 :: decDigits v.natAbs by simp [itoa, hn], atoiAll_neg hm (by omega)]
    congr 1; omega
  · have hp := parse_decDigits (v.toNat + 1) v.toNat (by omega) (by omega)
    have hm : parseMag (decDigits v.toNat) = .ok v.toNat := by unfold parseMag; rw [if_neg (decDigits_ne _), hp]
    have hd := decDigits_digits (v.toNat + 1) v.toNat (by omega)
    rw [show itoa v = decDigits v.toNat by simp [itoa, hn]]
    cases hl : decDigits v.toNat with
    | nil => exact absurd hl (decDigits_ne _)
    | cons c r =>
      rw [hl] at hm hd
      rw [atoiAll_pos (hd c (by simp)).1 hm (by omega)]
      congr 1; omega
theorem numOf_itoa {v : Int} (h0 : -9223372036854775808 ≤ v) (h1 : v ≤ 9223372036854775807) : numOf (itoa v) = some v := numOf_eq (atoi_itoa h0 h1) rfl
theorem numOf_some {l : List UInt8} {v : Int} (h : numOf l = some v) : itoa v = l ∧ -9223372036854775808 ≤ v ∧ v ≤ 9223372036854775807 := by
  refine ⟨?_, numOf_i64 h⟩
  unfold numOf at h
  split at h
  · split at h
    · injection h with h; subst h; assumption
    · cases h
  · cases h

/-! ### The reference's way -/
def backGo (acc : Int) (i : Nat) : List UInt8 → Option Int
  | [] => some acc
  | c :: r => if c.toNat < 48 ∨ 57 < c.toNat ∨ 20 < i then none else backGo (wrap64 (wrap64 (10 * acc) - ((c.toNat : Int) - 48))) (i + 1) r
def backFrom (l : List UInt8) : Nat := if l.head? = some 45 then 1 else 0
theorem backGo_append : ∀ (l r : List UInt8) (a : Int) (i : Nat), backGo a i (l ++ r) = match backGo a i l with | some b => backGo b (i + l.length) r | none => none
  | [], r, a, i => rfl
  | c :: l, r, a, i => by
    simp only [List.cons_append, backGo]
    split
    · rfl
    · rw [backGo_append l r]; simp [Nat.add_assoc, Nat.add_comm 1]
theorem w64 {n : Int} (h : -9223372036854775808 ≤ n ∧ n ≤ 9223372036854775807) : wrap64 n = n := by unfold wrap64; omega
theorem backGo_dec (k : Nat) : ∀ u, u < k → u ≤ 9223372036854775808 → ∀ i, i + (decDigits u).length ≤ 21 → backGo 0 i (decDigits u) = some (-(u : Int)) := by
  induction k with
  | zero => intro u h; omega
  | succ k ih =>
    intro u h hb i hi
    by_cases h10 : u < 10
    · rw [decDigits_one h10] at hi ⊢
      simp only [backGo, digit_toNat h10]
      simp only [List.length_cons, List.length_nil] at hi
      rw [if_neg (by omega), w64 (n := 10 * 0) (by omega), w64 (by omega)]
      congr 1; omega
    · rw [decDigits_step' h10] at hi ⊢
      simp only [List.length_append, List.length_cons, List.length_nil] at hi
      rw [backGo_append, ih (u / 10) (by omega) (by omega) i (by omega)]
      simp only [backGo, digit_toNat (show u % 10 < 10 by omega)]
      rw [if_neg (by omega), w64 (n := 10 * _) (by omega), w64 (by omega)]
      congr 1; omega
theorem back_itoa {v : Int} (h0 : -9223372036854775808 ≤ v) (h1 : v ≤ 9223372036854775807) (hlen : (itoa v).length ≤ 21) :
    ∃ a, backGo 0 (backFrom (itoa v)) ((itoa v).drop (backFrom (itoa v))) = some a ∧ (if backFrom (itoa v) = 0 then wrap64 (-a) else a) = v := by
  by_cases hn : v < 0
  · have e : itoa v = 45 :: decDigits v.natAbs := by simp [itoa, hn]
    have hf : backFrom (itoa v) = 1 := by rw [e]; rfl
    have hl : 1 + (decDigits v.natAbs).length ≤ 21 := by rw [e] at hlen; simp only [List.length_cons] at hlen; omega
    rw [hf, e]
    refine ⟨_, backGo_dec (v.natAbs + 1) v.natAbs (by omega) (by omega) 1 hl, ?_⟩
    rw [if_neg (by decide)]; omega
  · have e : itoa v = decDigits v.toNat := by simp [itoa, hn]
    have hf : backFrom (itoa v) = 0 := by
      rw [e]
      unfold backFrom
      cases hl : decDigits v.toNat with
      | nil => rfl
      | cons c r =>
        have hc := decDigits_digits (v.toNat + 1) v.toNat (by omega) c (by rw [hl]; simp)
        rw [if_neg]
        intro h
        simp only [List.head?_cons, Option.some.injEq] at h
        rw [h] at hc
        simp at hc
    have hl : 0 + (decDigits v.toNat).length ≤ 21 := by rw [e] at hlen; omega
    rw [hf, e]
    refine ⟨_, backGo_dec (v.toNat + 1) v.toNat (by omega) (by omega) 0 hl, ?_⟩
    rw [if_pos rfl, w64 (by omega)]; omega
theorem back_none {l : List UInt8} (h : backGo 0 (backFrom l) (l.drop (backFrom l)) = none) (hlen : ∀ v, -9223372036854775808 ≤ v → v ≤ 9223372036854775807 → (itoa v).length ≤ 21) : numOf l = none := by
  cases hx : numOf l with
  | none => rfl
  | some v =>
    obtain ⟨e, h0, h1⟩ := numOf_some hx
    obtain ⟨a, ha, _⟩ := back_itoa h0 h1 (hlen v h0 h1)
    rw [e, h] at ha
    cases ha
theorem back_some {l : List UInt8} {a n : Int} (h : backGo 0 (backFrom l) (l.drop (backFrom l)) = some a) (hn : (if backFrom l = 0 then wrap64 (-a) else a) = n) (hi : -9223372036854775808 ≤ n ∧ n ≤ 9223372036854775807)
    (hlen : ∀ v, -9223372036854775808 ≤ v → v ≤ 9223372036854775807 → (itoa v).length ≤ 21) : numOf l = if itoa n = l then some n else none := by
  split
  · rename_i e
    rw [← e]; exact numOf_itoa hi.1 hi.2
  · rename_i e
    cases hx : numOf l with
    | none => rfl
    | some v =>
      obtain ⟨e', h0, h1⟩ := numOf_some hx
      obtain ⟨b, hb, hb'⟩ := back_itoa h0 h1 (hlen v h0 h1)
      rw [e', h] at hb
      injection hb with hb
      rw [e', ← hb, hn] at hb'
      rw [hb', e'] at e
      exact absurd rfl e
/-! ### Where a byte stands -/
def rInt' (st : St) (c : UInt8) : Int × St := rNumber st c (-9223372036854775808)
theorem indexByte_at : ∀ (l : List UInt8) (c : UInt8) (k : Nat), (∀ x ∈ l.take k, x ≠ c) → l[k]? = some c → indexByte l c = k
  | [], c, k, _, h => by simp at h
  | b :: l, c, 0, _, h => by
    simp at h; subst h; simp [indexByte]
  | b :: l, c, k + 1, h0, h => by
    have hb : b ≠ c := h0 b (by simp)
    have ih := indexByte_at l c k (fun x hx => h0 x (by simp [hx])) (by simpa using h)
    simp only [indexByte]
    rw [if_neg (by simpa using hb), ih, if_neg (by simp)]
    omega
theorem indexByte_none : ∀ (l : List UInt8) (c : UInt8), (∀ x ∈ l, x ≠ c) → indexByte l c = -1
  | [], c, _ => rfl
  | b :: l, c, h => by
    have hb : b ≠ c := h b (by simp)
    have ih := indexByte_none l c (fun x hx => h x (by simp [hx]))
    simp only [indexByte]
    rw [if_neg (by simpa using hb), ih, if_pos (by simp)]
theorem nDigits_le : ∀ (k u : Nat), u < 10 ^ (k + 1) → nDigits u ≤ k + 1
  | 0, u, h => by rw [nDigits_small (by simpa using h)]; exact Nat.le_refl _
  | k + 1, u, h => by
    by_cases h10 : u < 10
    · rw [nDigits_small h10]; omega
    · rw [nDigits_big h10]
      have := nDigits_le k (u / 10) (by rw [Nat.pow_succ] at h; omega)
      omega
theorem itoa_le20 {v : Int} (h0 : -9223372036854775808 ≤ v) (h1 : v ≤ 9223372036854775807) : (itoa v).length ≤ 20 := by
  unfold itoa
  split
  · have := nDigits_le 18 v.natAbs (by omega)
    simp only [List.length_cons, decDigits_length]; omega
  · have := nDigits_le 18 v.toNat (by omega)
    simp only [decDigits_length]; omega
theorem numOf_long {l : List UInt8} (h : 20 < l.length) : numOf l = none := by
  cases hx : numOf l with
  | none => rfl
  | some v =>
    obtain ⟨e, h0, h1⟩ := numOf_some hx
    have := itoa_le20 h0 h1
    rw [e] at this
    omega
theorem rNumber_min {st : St} {e : UInt8} {least : Int} (h : least ≤ -9223372036854775808) : rNumber st e least =
    if indexByte ((st.getD []).take 21) e < 0 then (0, none) else
    match numOf ((st.getD []).take (indexByte ((st.getD []).take 21) e).toNat) with
    | some n => (n, some ((st.getD []).drop ((indexByte ((st.getD []).take 21) e).toNat + 1)))
    | none => (0, none) := by
  rw [rNumber_eq]
  split
  · rfl
  · cases hx : numOf ((st.getD []).take (indexByte ((st.getD []).take 21) e).toNat) with
    | none => rfl
    | some n =>
      have := numOf_i64 hx
      simp only []
      rw [if_neg (by omega)]
/-- No end within the first 21 bytes. -/
theorem ahead_no {st : St} {c : UInt8} (h : ∀ x ∈ (st.getD []).take 21, x ≠ c) : rInt' st c = (0, none) := by
  unfold rInt'
  rw [rNumber_min (Int.le_refl _), indexByte_none _ _ h, if_pos (by decide)]
theorem ahead_at {st : St} {c : UInt8} {k : Nat} (hk : k < 21) (h : ∀ x ∈ (st.getD []).take k, x ≠ c) (hc : (st.getD [])[k]? = some c) :
    rInt' st c = match numOf ((st.getD []).take k) with | some n => (n, some ((st.getD []).drop (k + 1))) | none => (0, none) := by
  have e : indexByte ((st.getD []).take 21) c = k := indexByte_at _ _ _ (by rw [List.take_take, Nat.min_eq_left (by omega)]; exact h) (by rw [List.getElem?_take, if_pos hk]; exact hc)
  unfold rInt'
  rw [rNumber_min (Int.le_refl _), e, if_neg (by omega)]
  simp
theorem rNumber_zero_eq (st : St) (c : UInt8) : rNumber st c 0 = if (rInt' st c).1 < 0 then (0, none) else rInt' st c := by
  unfold rInt'
  rw [rNumber_min (Int.le_refl _), rNumber_eq]
  split
  · rfl
  · cases hx : numOf ((st.getD []).take (indexByte ((st.getD []).take 21) c).toNat) with
    | none => rfl
    | some n => rfl
end Go.Proofs.YtmlmdlbepppnlaaGreatDoor.Wire
namespace Go.Proofs.YtmlmdlbepppnlaaGreatDoor.Wire
open Go.Lib Go.RowKit
set_option linter.unusedVariables false
set_option linter.unusedSimpArgs false
end Go.Proofs.YtmlmdlbepppnlaaGreatDoor.Wire
namespace Go.Proofs.YtmlmdlbepppnlaaGreatDoor.Wire
open Go.Lib Go.RowKit
set_option linter.unusedVariables false
set_option linter.unusedSimpArgs false

/-! ### What was read is the encoding -/
theorem indexByte_get : ∀ (l : List UInt8) (c : UInt8), 0 ≤ indexByte l c → l[(indexByte l c).toNat]? = some c
  | [], c, h => by simp [indexByte] at h
  | b :: l, c, h => by
    simp only [indexByte] at h ⊢
    split
    · rename_i hb
      have : b = c := by simpa using hb
      simp [this]
    · rename_i hb
      rw [if_neg hb] at h
      split at h
      · omega
      · rename_i h1
        have h1' : indexByte l c ≠ -1 := by simpa using h1
        rw [if_neg h1]
        have ih := indexByte_get l c (by have := indexByte_ge l c; omega)
        have e : (indexByte l c + 1).toNat = (indexByte l c).toNat + 1 := by have := indexByte_ge l c; omega
        rw [e, List.getElem?_cons_succ]
        exact ih
theorem rNumber_inv {r r' : List UInt8} {e : UInt8} {least n : Int} (h : rNumber (some r) e least = (n, some r')) :
    r = itoa n ++ e :: r' ∧ least ≤ n ∧ -9223372036854775808 ≤ n ∧ n ≤ 9223372036854775807 := by
  unfold rNumber at h
  dsimp only at h
  split at h
  · simp at h
  · rename_i hi
    split at h
    · rename_i m hm
      split at h
      · simp at h
      · rename_i hl
        simp only [Prod.mk.injEq, Option.some.injEq] at h
        obtain ⟨rfl, rfl⟩ := h
        obtain ⟨e1, h0, h1⟩ := numOf_some hm
        refine ⟨?_, by omega, h0, h1⟩
        have hlt := indexByte_lt (r.take 21) e
        have hg := indexByte_get (r.take 21) e (by omega)
        generalize (indexByte (r.take 21) e).toNat = i at *
        rw [List.getElem?_take] at hg
        split at hg
        · have hil : i < r.length := by
            rcases Nat.lt_or_ge i r.length with h' | h'
            · exact h'
            · rw [List.getElem?_eq_none h'] at hg; cases hg
          rw [e1, ← List.take_append_drop i r]
          congr 1
          · simp
          · rw [List.take_append_drop, List.drop_eq_getElem_cons hil]
            rw [List.getElem?_eq_getElem hil] at hg
            injection hg with hg
            rw [hg]
        · cases hg
    · simp at h
theorem rClose_inv {r r' : List UInt8} {c : UInt8} (h : rClose (some r) c = some r') : r = c :: r' := by
  cases r with
  | nil => simp [rClose] at h
  | cons d r =>
    simp only [rClose] at h
    split at h
    · rename_i hd; injection h with h; rw [hd, h]
    · cases h
theorem rNum_inv {r r' : List UInt8} {n : Int} (h : rNum (some r) = (n, some r')) : r = numE n ++ r' := by
  obtain ⟨e, h0, _⟩ := rNumber_inv h
  rw [e, numE, if_neg (by omega), intE]; simp
theorem rText_inv {r r' t : List UInt8} (h : rText (some r) = (t, some r')) : r = textE t ++ r' := by
  cases hq : rNumber (some r) 58 0 with
  | mk n s =>
    cases s with
    | none => rw [rText_none hq] at h; simp at h
    | some r1 =>
      obtain ⟨e, h0, _⟩ := rNumber_inv hq
      by_cases hn : n ≤ r1.length
      · cases hc : rClose (some (r1.drop n.toNat)) 44 with
        | none => rw [rText_open hq hn hc] at h; simp at h
        | some r2 =>
          rw [rText_ok hq hn hc] at h
          simp only [Prod.mk.injEq, Option.some.injEq] at h
          obtain ⟨rfl, rfl⟩ := h
          have hd := rClose_inv hc
          have hlen : (r1.take n.toNat).length = n.toNat := by rw [List.length_take]; omega
          rw [e, textE, hlen, show ((n.toNat : Nat) : Int) = n by omega]
          conv => lhs; rw [← List.take_append_drop n.toNat r1, hd]
          simp
      · rw [rText_far hq (by omega)] at h; simp at h
theorem rText_fail {st : St} (h : (rText st).2 = none) : (rText st).1 = [] := by
  cases hq : rNumber st 58 0 with
  | mk n s =>
    cases s with
    | none => rw [rText_none hq]
    | some r =>
      by_cases hn : n ≤ r.length
      · cases hc : rClose (some (r.drop n.toNat)) 44 with
        | none => rw [rText_open hq hn hc]
        | some r' => rw [rText_ok hq hn hc] at h; simp at h
      · rw [rText_far hq (by omega)]
end Go.Proofs.YtmlmdlbepppnlaaGreatDoor.Wire
namespace Go.Proofs.YtmlmdlbepppnlaaGreatDoor.Wire
open Go.Lib Go.RowKit
set_option linter.unusedVariables false
set_option linter.unusedSimpArgs false

def Int64 (n : Int) : Prop := -9223372036854775808 ≤ n ∧ n ≤ 9223372036854775807
theorem itoa_chars {n : Int} {c : UInt8} (h : c ∈ itoa n) : c.toNat = 45 ∨ (48 ≤ c.toNat ∧ c.toNat ≤ 57) := by
  unfold itoa at h
  split at h
  · rcases List.mem_cons.1 h with rfl | h
    · exact Or.inl rfl
    · exact Or.inr (decDigits_digits _ _ (Nat.lt_succ_self _) c h)
  · exact Or.inr (decDigits_digits _ _ (Nat.lt_succ_self _) c h)
theorem rNumber_back {n least : Int} {e : UInt8} {r : List UInt8} (h : Int64 n) (hl : least ≤ n) (he : 58 ≤ e.toNat) : rNumber (some (itoa n ++ e :: r)) e least = (n, some r) := by
  have h20 := itoa_le20 h.1 h.2
  have hne : ∀ x ∈ itoa n, x ≠ e := fun x hx heq => by
    have := itoa_chars hx
    rw [heq] at this; omega
  have hi : indexByte ((itoa n ++ e :: r).take 21) e = (itoa n).length := by
    refine indexByte_at _ _ _ ?_ ?_
    · intro x hx
      rw [List.take_take, Nat.min_eq_left (by omega), List.take_left'] at hx
      · exact hne x hx
      · rfl
    · rw [List.getElem?_take, if_pos (by omega), List.getElem?_append_right (Nat.le_refl _)]; simp
  simp only [rNumber, hi]
  rw [if_neg (by omega)]
  have ht : (itoa n ++ e :: r).take (((itoa n).length : Int)).toNat = itoa n := by simp
  rw [ht, numOf_itoa h.1 h.2]
  simp only []
  rw [if_neg (by omega)]
  simp
theorem rNum_back {n : Int} {r : List UInt8} (h : Int64 n) (h0 : 0 ≤ n) : rNum (some (numE n ++ r)) = (n, some r) := by
  have e : numE n ++ r = itoa n ++ 59 :: r := by rw [numE, if_neg (by omega), intE]; simp
  rw [e]; exact rNumber_back h h0 (by decide)
theorem rText_back {s r : List UInt8} (h : s.length ≤ 9223372036854775807) : rText (some (textE s ++ r)) = (s, some r) := by
  have e : textE s ++ r = itoa (s.length : Int) ++ 58 :: (s ++ 44 :: r) := by rw [textE]; simp
  have hq := rNumber_back (n := s.length) (least := 0) (e := 58) (r := s ++ 44 :: r) ⟨by omega, by omega⟩ (by omega) (by decide)
  rw [e, rText_ok (r' := r) hq (by simp; omega) (by simp [rClose])]
  simp
end Go.Proofs.YtmlmdlbepppnlaaGreatDoor.Wire
namespace Go.Proofs.YtmlmdlbepppnlaaGreatDoor.Dk
set_option linter.unusedVariables false
set_option linter.unusedSimpArgs false

/-- A file and its durable part. -/
structure Fil where
  now : List UInt8
  last : List UInt8
structure Disk where
  fs : Int → Fil
  q : List (Int × Int)
  lost : Int
  down : Bool
  armed : Int
  keep : List Int
def noFil : Fil := ⟨[], []⟩
def new : Disk := ⟨fun _ => noFil, [], 0, false, 0, []⟩
def setF (fs : Int → Fil) (f : Int) (x : Fil) : Int → Fil := fun g => if g = f then x else fs g
theorem setF_self (fs : Int → Fil) (f : Int) (x : Fil) : setF fs f x f = x := by simp [setF]
theorem setF_ne (fs : Int → Fil) {f g : Int} (x : Fil) (h : g ≠ f) : setF fs f x g = fs g := by simp [setF, h]
/-- To put bytes into a string at an offset. -/
def put (s : List UInt8) (i : Nat) (t : List UInt8) : List UInt8 :=
  if t = [] then s else s.take i ++ List.replicate (i - s.length) 0 ++ t ++ s.drop (i + t.length)
def may (D : Disk) (f : Int) : Int := if D.down = true then 8 else if f < 0 ∨ 16 ≤ f then 1 else 0
/-- The sectors of bytes, in ascending order. -/
def secs (i n : Nat) : List Int := (List.range ((i + n - 1) / 64 + 1 - i / 64)).map fun k => ((i / 64 + k : Nat) : Int)
def addS (q : List (Int × Int)) (p : Int × Int) : List (Int × Int) := if p ∈ q then q else q ++ [p]
def addQ (q : List (Int × Int)) (f : Int) (ns : List Int) : List (Int × Int) := ns.foldl (fun q n => addS q (f, n)) q
/-- A write that is possible. -/
def add (D : Disk) (f : Int) (i : Nat) (s : List UInt8) : Disk :=
  if s = [] then D else { D with fs := setF D.fs f ⟨put (D.fs f).now i s, (D.fs f).last⟩, q := addQ D.q f (secs i s.length) }
/-- What a write returns, if the file can be written. -/
def wErr (i : Int) (n : Nat) : Int := if i < 0 then 1 else if 16777216 < i ∨ 16777216 - i < n then 6 else 0
def write0 (D : Disk) (f i : Int) (s : List UInt8) : Disk × Int :=
  if may D f ≠ 0 then (D, may D f) else if wErr i s.length ≠ 0 then (D, wErr i s.length) else (add D f i.toNat s, 0)
def odd (keep : List Int) (i : Nat) : Bool := decide (keep ≠ []) && decide (keep.getD (i % keep.length) 0 % 2 = 1)
/-- What survives of the sector p, which is pending as number i. -/
def survive (keep : List Int) (fs : Int → Fil) (p : Int × Int) (i : Nat) : Int → Fil :=
  if odd keep i = true ∧ 64 * p.2.toNat < (fs p.1).now.length then setF fs p.1 ⟨(fs p.1).now, put (fs p.1).last (64 * p.2.toNat) (((fs p.1).now.drop (64 * p.2.toNat)).take 64)⟩ else fs
def survives (keep : List Int) : List (Int × Int) → Nat → (Int → Fil) → Int → Fil
  | [], _, fs => fs
  | p :: q, i, fs => survives keep q (i + 1) (survive keep fs p i)
def crash (D : Disk) (keep : List Int) : Disk :=
  if D.down = true then D else { D with fs := fun f => ⟨(survives keep D.q 0 D.fs f).last, (survives keep D.q 0 D.fs f).last⟩, q := [], down := true, armed := 0 }
/-- A call is counted: does the scheduled crash happen in it? -/
def ends (D : Disk) : Bool := !D.down && decide (D.armed = 1)
def counted (D : Disk) : Disk := if D.down = true ∨ D.armed = 0 then D else { D with armed := D.armed - 1 }
def write (D : Disk) (f i : Int) (s : List UInt8) : Disk × Int :=
  if ends D = true then (crash (write0 (counted D) f i s).1 (counted D).keep, 8) else write0 (counted D) f i s
def come (D : Disk) : Disk := if ends D = true then crash (counted D) D.keep else counted D
def settle (D : Disk) (f : Int) (s : List UInt8) : Disk := { D with fs := setF D.fs f ⟨s, s⟩, q := D.q.filter fun p => !decide (p.1 = f) }
def sync (D : Disk) (f : Int) : Disk × Int :=
  if may (come D) f ≠ 0 then (come D, may (come D) f)
  else if 0 < (come D).lost then ({ come D with lost := (come D).lost - 1 }, 9) else (settle (come D) f ((come D).fs f).now, 0)
def truncate (D : Disk) (f n : Int) : Disk × Int :=
  if may (come D) f ≠ 0 then (come D, may (come D) f)
  else if n < 0 ∨ ((((come D).fs f).now.length : Nat) : Int) < n then (come D, 1) else (settle (come D) f (((come D).fs f).now.take n.toNat), 0)
def read (D : Disk) (f i n : Int) : List UInt8 × Int :=
  if may D f ≠ 0 then ([], may D f) else if i < 0 ∨ n < 0 then ([], 1) else (((D.fs f).now.drop i.toNat).take n.toNat, 0)
def size (D : Disk) (f : Int) : Int := (D.fs f).now.length
def lose (D : Disk) (n : Int) : Disk := { D with lost := max n 0 }
def arm (D : Disk) (n : Int) (keep : List Int) : Disk := { D with armed := max n 0, keep := keep }
def start (D : Disk) : Disk := { D with down := false }

/-! ### What is true of every disk -/
/-- Files, durable parts and the list of pending sectors are bounded. -/
structure Ok (D : Disk) : Prop where
  now : ∀ f, (D.fs f).now.length ≤ 16777216
  last : ∀ f, (D.fs f).last.length ≤ 16777216
  q : ∀ p ∈ D.q, 0 ≤ p.1 ∧ p.1 < 16 ∧ 0 ≤ p.2 ∧ p.2 < 262144
  nd : D.q.Nodup
  lost : 0 ≤ D.lost ∧ D.lost ≤ 9223372036854775807
  armed : 0 ≤ D.armed ∧ D.armed ≤ 9223372036854775807
theorem new_ok : Ok new := by
  refine ⟨fun f => ?_, fun f => ?_, fun p hp => ?_, List.nodup_nil, ⟨by decide, by decide⟩, ⟨by decide, by decide⟩⟩
  · simp [new, noFil]
  · simp [new, noFil]
  · simp [new] at hp
theorem put_len (s : List UInt8) (i : Nat) (t : List UInt8) (h : t ≠ []) : (put s i t).length = max s.length (i + t.length) := by
  unfold put
  rw [if_neg h]
  simp only [List.length_append, List.length_take, List.length_replicate, List.length_drop]
  omega
theorem put_le {s : List UInt8} {i : Nat} {t : List UInt8} {n : Nat} (hs : s.length ≤ n) (ht : i + t.length ≤ n) : (put s i t).length ≤ n := by
  by_cases h : t = []
  · unfold put; rw [if_pos h]; exact hs
  · rw [put_len s i t h]; omega
/-- Each byte of a string into which bytes are put. -/
theorem put_get (s : List UInt8) (i : Nat) (t : List UInt8) (ht : t ≠ []) (k : Nat) :
    (put s i t)[k]? = if k < i then (if k < s.length then s[k]? else some 0) else if k < i + t.length then t[k - i]? else s[k]? := by
  unfold put
  rw [if_neg ht]
  by_cases h1 : k < i
  · rw [if_pos h1, List.append_assoc, List.append_assoc]
    by_cases h2 : k < s.length
    · rw [if_pos h2, List.getElem?_append_left (by rw [List.length_take]; omega), List.getElem?_take, if_pos h1]
    · rw [if_neg h2, List.getElem?_append_right (by rw [List.length_take]; omega), List.length_take, List.getElem?_append_left (by rw [List.length_replicate]; omega), List.getElem?_replicate, if_pos (by omega)]
  · rw [if_neg h1]
    have hl : (s.take i ++ List.replicate (i - s.length) (0 : UInt8)).length = i := by rw [List.length_append, List.length_take, List.length_replicate]; omega
    by_cases h2 : k < i + t.length
    · rw [if_pos h2, List.append_assoc, List.getElem?_append_right (by omega), hl, List.getElem?_append_left (by omega)]
    · rw [if_neg h2, List.getElem?_append_right (by rw [List.length_append, hl]; omega), List.length_append, hl, List.getElem?_drop]
      congr 1
      omega
/-- As many different pairs as there are places at most. -/
theorem nodup_le : ∀ (n : Nat) (l : List Nat), l.Nodup → (∀ x ∈ l, x < n) → l.length ≤ n := by
  intro n
  induction n with
  | zero =>
    intro l _ h
    cases l with
    | nil => simp
    | cons x l => exact absurd (h x (List.mem_cons_self ..)) (Nat.not_lt_zero _)
  | succ n ih =>
    intro l hd h
    have h1 := ih (l.erase n) (hd.erase n) (fun x hx => by
      have hne : x ≠ n := (hd.mem_erase_iff.1 hx).1
      have := h x (List.mem_of_mem_erase hx)
      omega)
    by_cases hm : n ∈ l
    · rw [List.length_erase_of_mem hm] at h1; omega
    · rw [List.erase_of_not_mem hm] at h1; omega
theorem Ok.q_len {D : Disk} (h : Ok D) : D.q.length ≤ 4194304 := by
  have := nodup_le 4194304 (D.q.map fun p => p.1.toNat * 262144 + p.2.toNat) (by
    refine List.pairwise_map.2 (List.Pairwise.imp_of_mem (fun {a b} ha hb hne => ?_) h.nd)
    intro e
    have h1 := h.q a ha
    have h2 := h.q b hb
    apply hne
    have e1 : a.1 = b.1 := by omega
    have e2 : a.2 = b.2 := by omega
    exact Prod.ext e1 e2) (fun x hx => by
    obtain ⟨p, hp, rfl⟩ := List.mem_map.1 hx
    have := h.q p hp
    omega)
  simpa using this
theorem mem_addS {q : List (Int × Int)} {p x : Int × Int} : x ∈ addS q p ↔ x ∈ q ∨ x = p := by
  unfold addS
  split
  · rename_i h
    constructor
    · exact Or.inl
    · rintro (h1 | rfl)
      · exact h1
      · exact h
  · simp
theorem addS_nodup {q : List (Int × Int)} {p : Int × Int} (h : q.Nodup) : (addS q p).Nodup := by
  unfold addS
  split
  · exact h
  · rename_i hn
    rw [List.nodup_append]
    exact ⟨h, by simp, fun a ha b hb e => by rw [List.mem_singleton] at hb; subst hb; subst e; exact hn ha⟩
theorem addQ_cons (q : List (Int × Int)) (f n : Int) (ns : List Int) : addQ q f (n :: ns) = addQ (addS q (f, n)) f ns := rfl
theorem mem_addQ {f : Int} {x : Int × Int} : ∀ {ns : List Int} {q : List (Int × Int)}, x ∈ addQ q f ns ↔ x ∈ q ∨ (x.1 = f ∧ x.2 ∈ ns) := by
  intro ns
  induction ns with
  | nil => intro q; simp [addQ]
  | cons n ns ih =>
    intro q
    rw [addQ_cons, ih, mem_addS]
    constructor
    · rintro ((h | rfl) | h)
      · exact Or.inl h
      · exact Or.inr ⟨rfl, List.mem_cons_self ..⟩
      · exact Or.inr ⟨h.1, List.mem_cons_of_mem _ h.2⟩
    · rintro (h | ⟨h1, h2⟩)
      · exact Or.inl (Or.inl h)
      · rcases List.mem_cons.1 h2 with h3 | h3
        · exact Or.inl (Or.inr (Prod.ext h1 h3))
        · exact Or.inr ⟨h1, h3⟩
theorem addQ_nodup {f : Int} : ∀ {ns : List Int} {q : List (Int × Int)}, q.Nodup → (addQ q f ns).Nodup := by
  intro ns
  induction ns with
  | nil => intro q h; exact h
  | cons n ns ih => intro q h; rw [addQ_cons]; exact ih (addS_nodup h)
theorem addQ_snoc (q : List (Int × Int)) (f : Int) (ns : List Int) (n : Int) : addQ q f (ns ++ [n]) = addS (addQ q f ns) (f, n) := by
  unfold addQ; rw [List.foldl_append]; rfl
theorem mem_secs {i n : Nat} {x : Int} : x ∈ secs i n ↔ ∃ k : Nat, x = k ∧ i / 64 ≤ k ∧ k ≤ (i + n - 1) / 64 := by
  unfold secs
  rw [List.mem_map]
  constructor
  · rintro ⟨k, hk, rfl⟩
    rw [List.mem_range] at hk
    exact ⟨_, rfl, by omega, by omega⟩
  · rintro ⟨k, rfl, h1, h2⟩
    exact ⟨k - i / 64, List.mem_range.2 (by omega), by omega⟩
theorem may_file {D : Disk} {f : Int} (h : may D f = 0) : D.down = false ∧ 0 ≤ f ∧ f < 16 := by
  unfold may at h
  split at h
  · cases h
  · rename_i hd
    split at h
    · cases h
    · exact ⟨by simpa using hd, by omega, by omega⟩
theorem wErr_ok {i : Int} {n : Nat} (h : wErr i n = 0) : 0 ≤ i ∧ i.toNat + n ≤ 16777216 := by
  unfold wErr at h
  split at h
  · cases h
  · split at h
    · cases h
    · exact ⟨by omega, by omega⟩
theorem add_ok {D : Disk} (h : Ok D) {f : Int} {i : Nat} {s : List UInt8} (hf : 0 ≤ f ∧ f < 16) (hi : i + s.length ≤ 16777216) : Ok (add D f i s) := by
  unfold add
  split
  · exact h
  · rename_i hs
    have hl : 0 < s.length := List.length_pos_iff.2 hs
    refine ⟨fun g => ?_, fun g => ?_, fun p hp => ?_, addQ_nodup h.nd, h.lost, h.armed⟩
    · dsimp only [setF]
      split
      · exact put_le (h.now f) hi
      · exact h.now g
    · dsimp only [setF]
      split
      · exact h.last f
      · exact h.last g
    · rcases mem_addQ.1 hp with hp | ⟨h1, h2⟩
      · exact h.q p hp
      · obtain ⟨k, e, h3, h4⟩ := mem_secs.1 h2
        rw [h1, e]
        exact ⟨hf.1, hf.2, by omega, by omega⟩
theorem write0_ok {D : Disk} (h : Ok D) (f i : Int) (s : List UInt8) : Ok (write0 D f i s).1 := by
  unfold write0
  split
  · exact h
  · rename_i h1
    split
    · exact h
    · rename_i h2
      have a := may_file (Decidable.not_not.1 h1)
      have b := wErr_ok (Decidable.not_not.1 h2)
      exact add_ok h a.2 b.2
theorem survive_now (keep : List Int) (fs : Int → Fil) (p : Int × Int) (i : Nat) (f : Int) : (survive keep fs p i f).now = (fs f).now := by
  unfold survive
  split
  · unfold setF
    split
    · rename_i e; subst e; rfl
    · rfl
  · rfl
theorem survives_now (keep : List Int) : ∀ (q : List (Int × Int)) (i : Nat) (fs : Int → Fil) (f : Int), (survives keep q i fs f).now = (fs f).now := by
  intro q
  induction q with
  | nil => intro i fs f; rfl
  | cons p q ih => intro i fs f; rw [survives, ih, survive_now]
theorem survive_last {keep : List Int} {fs : Int → Fil} {p : Int × Int} {i : Nat} {n : Nat} (h1 : ∀ f, (fs f).now.length ≤ n) (h2 : ∀ f, (fs f).last.length ≤ n) (f : Int) : (survive keep fs p i f).last.length ≤ n := by
  unfold survive
  split
  · rename_i hc
    unfold setF
    split
    · have := h1 p.1
      refine put_le (h2 p.1) ?_
      rw [List.length_take, List.length_drop]
      omega
    · exact h2 f
  · exact h2 f
theorem survives_last {keep : List Int} {n : Nat} : ∀ (q : List (Int × Int)) (i : Nat) (fs : Int → Fil), (∀ f, (fs f).now.length ≤ n) → (∀ f, (fs f).last.length ≤ n) → ∀ f, (survives keep q i fs f).last.length ≤ n := by
  intro q
  induction q with
  | nil => intro i fs h1 h2 f; exact h2 f
  | cons p q ih =>
    intro i fs h1 h2 f
    exact ih (i + 1) _ (fun g => by rw [survive_now]; exact h1 g) (fun g => survive_last h1 h2 g) f
theorem crash_ok {D : Disk} (h : Ok D) (keep : List Int) : Ok (crash D keep) := by
  unfold crash
  split
  · exact h
  · have := survives_last D.q 0 D.fs h.now h.last (keep := keep)
    refine ⟨fun f => this f, fun f => this f, fun p hp => ?_, List.nodup_nil, h.lost, ⟨Int.le_refl 0, by dsimp only; omega⟩⟩
    cases hp
theorem counted_ok {D : Disk} (h : Ok D) : Ok (counted D) := by
  unfold counted
  split
  · exact h
  · rename_i hc
    have := h.armed
    refine ⟨h.now, h.last, h.q, h.nd, h.lost, ?_⟩
    dsimp only
    have : D.armed ≠ 0 := fun e => hc (Or.inr e)
    omega
theorem come_ok {D : Disk} (h : Ok D) : Ok (come D) := by
  unfold come
  split
  · exact crash_ok (counted_ok h) _
  · exact counted_ok h
theorem settle_ok {D : Disk} (h : Ok D) (f : Int) {s : List UInt8} (hs : s.length ≤ 16777216) : Ok (settle D f s) := by
  refine ⟨fun g => ?_, fun g => ?_, fun p hp => h.q p (List.mem_filter.1 hp).1, h.nd.filter _, h.lost, h.armed⟩
  · dsimp only [settle, setF]
    split
    · exact hs
    · exact h.now g
  · dsimp only [settle, setF]
    split
    · exact hs
    · exact h.last g
theorem sync_ok {D : Disk} (h : Ok D) (f : Int) : Ok (sync D f).1 := by
  have hc := come_ok h
  unfold sync
  split
  · exact hc
  · split
    · rename_i h0
      have := hc.lost
      exact ⟨hc.now, hc.last, hc.q, hc.nd, ⟨by dsimp only; omega, by dsimp only; omega⟩, hc.armed⟩
    · exact settle_ok hc f (hc.now f)
theorem truncate_ok {D : Disk} (h : Ok D) (f n : Int) : Ok (truncate D f n).1 := by
  have hc := come_ok h
  unfold truncate
  split
  · exact hc
  · split
    · exact hc
    · have := hc.now f
      exact settle_ok hc f (by rw [List.length_take]; omega)
theorem lose_ok {D : Disk} (h : Ok D) {n : Int} (hn : n ≤ 9223372036854775807) : Ok (lose D n) := ⟨h.now, h.last, h.q, h.nd, ⟨by dsimp only [lose]; omega, by dsimp only [lose]; omega⟩, h.armed⟩
theorem arm_ok {D : Disk} (h : Ok D) {n : Int} (hn : n ≤ 9223372036854775807) (keep : List Int) : Ok (arm D n keep) := ⟨h.now, h.last, h.q, h.nd, h.lost, ⟨by dsimp only [arm]; omega, by dsimp only [arm]; omega⟩⟩
theorem start_ok {D : Disk} (h : Ok D) : Ok (start D) := ⟨h.now, h.last, h.q, h.nd, h.lost, h.armed⟩
/-- A write that is possible, while its first k sectors have been noted. -/
def addK (D : Disk) (f : Int) (i : Nat) (s : List UInt8) (k : Nat) : Disk := { D with fs := setF D.fs f ⟨put (D.fs f).now i s, (D.fs f).last⟩, q := addQ D.q f ((secs i s.length).take k) }
theorem secs_len (i n : Nat) : (secs i n).length = (i + n - 1) / 64 + 1 - i / 64 := by simp [secs]
theorem secs_get {i n k : Nat} (h : k < (secs i n).length) : (secs i n)[k] = ((i / 64 + k : Nat) : Int) := by simp [secs]
theorem addK_all {D : Disk} {f : Int} {i : Nat} {s : List UInt8} (hs : s ≠ []) : addK D f i s (secs i s.length).length = add D f i s := by
  unfold addK add
  rw [if_neg hs, List.take_length]
theorem addK_succ {D : Disk} {f : Int} {i : Nat} {s : List UInt8} {k : Nat} (h : k < (secs i s.length).length) : addK D f i s (k + 1) = { addK D f i s k with q := addS (addK D f i s k).q (f, ((i / 64 + k : Nat) : Int)) } := by
  unfold addK
  dsimp only
  rw [List.take_succ_eq_append_getElem h, addQ_snoc, secs_get h]
theorem addK_ok {D : Disk} (h : Ok D) {f : Int} {i : Nat} {s : List UInt8} (hs : s ≠ []) (hf : 0 ≤ f ∧ f < 16) (hi : i + s.length ≤ 16777216) (k : Nat) : Ok (addK D f i s k) := by
  have ha := add_ok h hf hi
  unfold add at ha
  rw [if_neg hs] at ha
  refine ⟨ha.now, ha.last, fun p hp => ?_, addQ_nodup h.nd, h.lost, h.armed⟩
  rcases mem_addQ.1 hp with hp | ⟨h1, h2⟩
  · exact h.q p hp
  · exact ha.q p (mem_addQ.2 (Or.inr ⟨h1, List.mem_of_mem_take h2⟩))
theorem addS_in {q : List (Int × Int)} {p : Int × Int} (h : p ∈ q) : addS q p = q := if_pos h
theorem addS_out {q : List (Int × Int)} {p : Int × Int} (h : p ∉ q) : addS q p = q ++ [p] := if_neg h
theorem survives_append (keep : List Int) : ∀ (a b : List (Int × Int)) (i : Nat) (fs : Int → Fil), survives keep (a ++ b) i fs = survives keep b (i + a.length) (survives keep a i fs) := by
  intro a
  induction a with
  | nil => intro b i fs; rfl
  | cons p a ih =>
    intro b i fs
    rw [List.cons_append, survives, ih, survives, List.length_cons]
    congr 1
    omega
/-- A crash, while the first k pending sectors have been looked at. -/
def crashK (D : Disk) (keep : List Int) (k : Nat) : Disk := { D with fs := survives keep (D.q.take k) 0 D.fs, down := true, armed := 0 }
theorem crashK_ok {D : Disk} (h : Ok D) (keep : List Int) (k : Nat) : Ok (crashK D keep k) :=
  ⟨fun f => by unfold crashK; dsimp only; rw [survives_now]; exact h.now f, fun f => survives_last _ _ _ h.now h.last f, h.q, h.nd, h.lost, ⟨Int.le_refl 0, by show (0 : Int) ≤ _; omega⟩⟩
theorem crashK_succ {D : Disk} {keep : List Int} {k : Nat} (h : k < D.q.length) : (crashK D keep (k + 1)).fs = survive keep (crashK D keep k).fs D.q[k] k := by
  unfold crashK
  dsimp only
  rw [List.take_succ_eq_append_getElem h, survives_append]
  simp only [survives, Nat.zero_add, List.length_take]
  rw [Nat.min_eq_left (Nat.le_of_lt h)]
theorem crash_eq {D : Disk} (h : D.down = false) (keep : List Int) : crash D keep = { D with fs := fun f => ⟨((crashK D keep D.q.length).fs f).last, ((crashK D keep D.q.length).fs f).last⟩, q := [], down := true, armed := 0 } := by
  unfold crash crashK
  rw [h, if_neg (by decide), List.take_length]
theorem odd_not {keep : List Int} {i : Nat} {fs : Int → Fil} {p : Int × Int} (h : odd keep i = false) : survive keep fs p i = fs := by
  unfold survive; rw [if_neg (by rw [h]; simp)]
theorem far_not {keep : List Int} {i : Nat} {fs : Int → Fil} {p : Int × Int} (h : (fs p.1).now.length ≤ 64 * p.2.toNat) : survive keep fs p i = fs := by
  unfold survive; rw [if_neg (by omega)]
theorem survive_yes {keep : List Int} {i : Nat} {fs : Int → Fil} {p : Int × Int} (h : odd keep i = true) (hl : 64 * p.2.toNat < (fs p.1).now.length) :
    survive keep fs p i = setF fs p.1 ⟨(fs p.1).now, put (fs p.1).last (64 * p.2.toNat) (((fs p.1).now.drop (64 * p.2.toNat)).take 64)⟩ := by
  unfold survive; rw [if_pos ⟨h, hl⟩]
end Go.Proofs.YtmlmdlbepppnlaaGreatDoor.Dk
namespace Go.Proofs.YtmlmdlbepppnlaaGreatDoor
open Go.ChangeShapes Go.WideShapes Go.ChangeAt Go.RowKit
set_option linter.unusedVariables false
set_option linter.unusedSimpArgs false

theorem own : ownKnob Tryz.prog.godebug = none := by kernel_rfl
theorem laidOut : laidOutB Tryz.prog = true := by kernel_rfl
def laidAll {H : Type} : List (String × DataW H) := [("math/bits.deBruijn32tab", Rows.laid_math_bits_deBruijn32tab), ("math/bits.deBruijn64tab", Rows.laid_math_bits_deBruijn64tab), ("internal/strconv.uint64pow10", Rows.laid_internal_strconv_uint64pow10), ("strconv.ErrRange", Rows.laid_strconv_ErrRange), ("strconv.ErrSyntax", Rows.laid_strconv_ErrSyntax)]
theorem tTab : (Tryz.prog.globals[3]?).map (·.type) = some 186 := by kernel_rfl
theorem tErr1 : (Tryz.prog.globals[2]?).map (·.type) = some 160 := by kernel_rfl
theorem tErr2 : (Tryz.prog.globals[1]?).map (·.type) = some 160 := by kernel_rfl
theorem cTab : Tryz.prog.cellsOf 186 = 20 := by kernel_rfl
theorem cU64 : Tryz.prog.cellsOf 174 = 1 := by kernel_rfl
theorem pow_eq : (Rows.laid_internal_strconv_uint64pow10 : DataW Unit) = Lib.tabData .u64 Lib.pow10Tab := by rfl
theorem rowErr : ∀ u, Tryz.prog.typeName? 3 u = some "*errors.errorString" → u = 192 :=
  fun u h => typeName_ptr_named (nm := "errors.errorString") (by kernel_rfl) (by kernel_rfl) (by decide) u h
theorem lt_of_var {W : World} {n : String} {g : Nat} {cs : Array Value} (hg : Tryz.prog.globalNamed n = some g) (h : W.var? Tryz.prog n = some cs) : g < W.heap.size := by
  simp only [World.var?, hg, Option.bind_some] at h
  rcases Nat.lt_or_ge g W.heap.size with h' | h'
  · exact h'
  · rw [Array.getElem?_eq_none h'] at h; cases h
theorem cErr : Tryz.prog.cellsOf 194 = 1 := by kernel_rfl
theorem cStr : Tryz.prog.cellsOf 9 = 1 := by kernel_rfl
theorem gl_of_laid {W : World} (h : laidMetH Tryz.prog laidAll W) : Gl W := by
  rw [MakeChecks.laidMetH_plain _ _ _ (by kernel_rfl)] at h
  have h1 := h.tail.tail
  have h2 := h1.tail
  have h3 := h2.tail
  have ht : Lib.TabIs Tryz.prog W "internal/strconv.uint64pow10" .u64 Lib.pow10Tab := by
    have h1' : laidMet Tryz.prog (("internal/strconv.uint64pow10", Lib.tabData .u64 Lib.pow10Tab) :: laidAll.tail.tail.tail) W := by rw [← pow_eq]; exact h1
    exact Lib.tabIs_of_head gTab tTab Tryz.underlying186 Tryz.underlying174 cU64 cTab h1'
  obtain ⟨a, s, hv, _⟩ := laid_sentinel h3 gSyn tErr2 Tryz.underlying160 rowErr Tryz.underlying192 Tryz.underlying194 rfl rfl Tryz.underlying9 cErr cStr
  obtain ⟨a', s', hv', _⟩ := laid_sentinel h2 gRng tErr1 Tryz.underlying160 rowErr Tryz.underlying192 Tryz.underlying194 rfl rfl Tryz.underlying9 cErr cStr
  have b1 := lt_of_var gTab ht
  have b2 := lt_of_var gSyn hv
  have b3 := lt_of_var gRng hv'
  exact ⟨by unfold nG; omega, ht, ⟨_, _, hv⟩, ⟨_, _, hv'⟩⟩
noncomputable def laidWorld (os : Os) : World := World.doorLaid Tryz.prog 400 os
end Go.Proofs.YtmlmdlbepppnlaaGreatDoor
namespace Go.Proofs.YtmlmdlbepppnlaaGreatDoor
open Go.RowKit Go.MapKept
open Go.Maps (Keyed)
set_option linter.unusedVariables false
set_option linter.unusedSimpArgs false
attribute [local irreducible] Calls

abbrev tDisk : TypeId := 66
abbrev tSec : TypeId := 95
abbrev tFile : TypeId := 97
abbrev tIntD : TypeId := 3
abbrev tFiles : TypeId := 62
abbrev tSet : TypeId := 63
def intD (n : Int) : Value := .int .i64 n
def bsV (s : List UInt8) : Value := .string ⟨s.toArray⟩
def filV (x : Dk.Fil) : Value := .agg #[.string ⟨x.now.toArray⟩, .string ⟨x.last.toArray⟩]
def secV (p : Int × Int) : Value := .agg #[.int .i64 p.1, .int .i64 p.2]
def secL (p : Int × Int) : List Value := [.int .i64 p.1, .int .i64 p.2]
theorem secV_inj {p q : Int × Int} (h : secV p = secV q) : p = q := by
  simp [secV] at h
  exact Prod.ext h.1 h.2
theorem intKeyD : Keyed Tryz.prog tIntD := Maps.int_keyed Tryz.underlying3
theorem int_keyD {n : Int} (h : I64 n) : keyOf Tryz.prog tIntD (.int .i64 n) = some (.int .i64 n) := by
  unfold keyOf
  rw [Tryz.underlying3]
  unfold I64 at h
  simp [mapKey, Tryz.underlying3, i64_wf' h]
theorem secKeyed : Keyed Tryz.prog tSec := Keyed.of_law (deep_law_laid laidOut (m := 4) (by decide) (of_decide_eq_true (by kernel_rfl)) (by kernel_rfl) (by kernel_rfl))
/-- A struct of two ints can be read as a key. -/
theorem key_int_int {P : Program} {t ti : TypeId} {f1 f2 : Field} (hu : P.underlying t = some (.struct #[f1, f2])) (hi : P.underlying ti = some (.int .i64))
    (hk : P.keyType t = true) (h0 : 0 < P.types.size) (c : P.cellsOf t = 2) (ci : P.cellsOf ti = 1) (n1 : (f1.name != "_") = true) (n2 : (f2.name != "_") = true)
    (t1 : f1.type = ti) (t2 : f2.type = ti) (o1 : f1.offset = 0) (o2 : f2.offset = 1) (a b : Int) (ha : -9223372036854775808 ≤ a ∧ a ≤ 9223372036854775807) (hb : -9223372036854775808 ≤ b ∧ b ≤ 9223372036854775807) :
    ∃ l, keyOf P t (.agg #[.int .i64 a, .int .i64 b]) = some l := by
  obtain ⟨d, hd⟩ : ∃ d, P.types.size = d + 1 := ⟨P.types.size - 1, by omega⟩
  have n1' : ¬ f1.name = "_" := by simpa using n1
  have n2' : ¬ f2.name = "_" := by simpa using n2
  unfold keyOf
  rw [hu]
  simp [hk, Value.formed, hu, c, hd, Program.keyLits, hi, ci, i64_wf' ha, i64_wf' hb, Value.cells, n1', n2', t1, t2, o1, o2]
theorem sec_key {p : Int × Int} (h1 : I64 p.1) (h2 : I64 p.2) : ∃ l, keyOf Tryz.prog tSec (secV p) = some l :=
  key_int_int Tryz.underlying95 Tryz.underlying3 (by kernel_rfl) (of_decide_eq_true (by kernel_rfl)) (by kernel_rfl) (by kernel_rfl) (by decide) (by decide) rfl rfl rfl rfl _ _ h1 h2

/-! ### The files -/
/-- The entries l of the map of files say what fs says. -/
structure SaysF (l : List (Value × Value)) (fs : Int → Dk.Fil) : Prop where
  each : ∀ p ∈ l, ∃ f, I64 f ∧ p = (.int .i64 f, filV (fs f))
  none : ∀ f, (∀ p ∈ l, p.1 ≠ .int .i64 f) → fs f = Dk.noFil
theorem SaysF.put {l l' : List (Value × Value)} {fs : Int → Dk.Fil} (h : SaysF l fs) {f : Int} (hf : I64 f) (x : Dk.Fil) (hm : ∀ p, p ∈ l' ↔ (p ∈ l ∧ p.1 ≠ .int .i64 f) ∨ p = (.int .i64 f, filV x)) : SaysF l' (Dk.setF fs f x) := by
  refine ⟨fun p hp => ?_, fun g hg => ?_⟩
  · rcases (hm p).1 hp with ⟨h1, h2⟩ | rfl
    · obtain ⟨g, hg, rfl⟩ := h.each p h1
      have hne : g ≠ f := fun e => h2 (by rw [e])
      exact ⟨g, hg, by rw [Dk.setF_ne _ _ hne]⟩
    · exact ⟨f, hf, by rw [Dk.setF_self]⟩
  · have hne : g ≠ f := fun e => hg _ ((hm _).2 (Or.inr rfl)) (by rw [e])
    rw [Dk.setF_ne _ _ hne]
    exact h.none g (fun p hp e => hg p ((hm p).2 (Or.inl ⟨hp, fun e2 => hne (by rw [e] at e2; injection e2)⟩)) e)
def FilesL (w : World) (b : Nat) (fs : Int → Dk.Fil) : Prop := ∃ l, MapL Tryz.prog tIntD w b l ∧ SaysF l fs
theorem FilesL.lt {w : World} {b : Nat} {fs : Int → Dk.Fil} (h : FilesL w b fs) : b < w.heap.size := by obtain ⟨l, h1, _⟩ := h; exact h1.lt
theorem FilesL.upd {w w' : World} {b : Nat} {fs : Int → Dk.Fil} {S : Nat → Prop} (h : FilesL w b fs) (u : Upd S w w') (hn : ¬ S b) : FilesL w' b fs := by obtain ⟨l, h1, h2⟩ := h; exact ⟨l, h1.upd u hn, h2⟩
theorem filZero (w : World) : (zeroValue tFile).run Tryz.prog w = .ok (filV Dk.noFil) w := by kernel_rfl
theorem mapl_file {w : World} {b : Nat} {fs : Int → Dk.Fil} {l : List (Value × Value)} (h1 : MapL Tryz.prog tIntD w b l) (h2 : SaysF l fs) {f : Int} (hf : I64 f) :
    (Instr.lookup tFiles (.map (some b)) (.int .i64 f) false).run Tryz.prog w = .ok (filV (fs f)) w := by
  rcases h1.look intKeyD Tryz.underlying62 (filZero w) (int_keyD hf) with ⟨v, hv, hrun⟩ | ⟨hno, hrun⟩
  · obtain ⟨g, hg, e⟩ := h2.each _ hv
    obtain ⟨e1, e2⟩ := Prod.mk.inj e
    obtain rfl : f = g := (Value.int.inj e1).2
    rw [hrun false, e2]; rfl
  · rw [hrun false, h2.none f hno]; rfl
theorem FilesL.look {w : World} {b : Nat} {fs : Int → Dk.Fil} (h : FilesL w b fs) {f : Int} (hf : I64 f) :
    (Instr.lookup tFiles (.map (some b)) (.int .i64 f) false).run Tryz.prog w = .ok (filV (fs f)) w := by
  obtain ⟨l, h1, h2⟩ := h
  exact mapl_file h1 h2 hf
theorem FilesL.put {w : World} {b : Nat} {fs : Int → Dk.Fil} (h : FilesL w b fs) (hg : nG ≤ b) {f : Int} (hf : I64 f) (x : Dk.Fil) :
    ∃ w', (Instr.mapUpdate tFiles (.map (some b)) (.int .i64 f) (filV x)).run Tryz.prog w = .ok () w' ∧ FilesL w' b (Dk.setF fs f x) ∧ Upd (· = b) w w' := by
  obtain ⟨l, h1, h2⟩ := h
  obtain ⟨w', l', hrun, hm, hl, u⟩ := h1.put intKeyD Tryz.underlying62 hg (int_keyD hf) (filV x)
  exact ⟨w', hrun, ⟨l', hm, h2.put hf x hl⟩, u⟩
theorem FilesL.made (w : World) : FilesL (w.alloc (.map #[] 0)) w.heap.size (fun _ => Dk.noFil) :=
  ⟨[], MapL.made Tryz.prog tIntD w, ⟨(fun p hp => by cases hp), fun _ _ => rfl⟩⟩

/-! ### The set of pending sectors -/
def secE (p : Int × Int) : Value × Value := (secV p, .bool true)
def SetL (w : World) (b : Nat) (q : List (Int × Int)) : Prop := MapL Tryz.prog tSec w b (q.map secE)
theorem SetL.lt {w : World} {b : Nat} {q : List (Int × Int)} (h : SetL w b q) : b < w.heap.size := MapL.lt h
theorem SetL.upd {w w' : World} {b : Nat} {q : List (Int × Int)} {S : Nat → Prop} (h : SetL w b q) (u : Upd S w w') (hn : ¬ S b) : SetL w' b q := MapL.upd h u hn
theorem SetL.made (w : World) : SetL (w.alloc (.map #[] 0)) w.heap.size [] := MapL.made Tryz.prog tSec w
theorem SetL.look {w : World} {b : Nat} {q : List (Int × Int)} (h : SetL w b q) {p : Int × Int} (h1 : I64 p.1) (h2 : I64 p.2) :
    (Instr.lookup tSet (.map (some b)) (secV p) false).run Tryz.prog w = .ok (.bool (decide (p ∈ q))) w := by
  obtain ⟨l, hl⟩ := sec_key h1 h2
  have hz : (zeroValue 4).run Tryz.prog w = .ok (.bool false) w := by kernel_rfl
  rcases MapL.look h secKeyed Tryz.underlying63 hz hl with ⟨v, hv, hrun⟩ | ⟨hno, hrun⟩
  · obtain ⟨x, hx, e⟩ := List.mem_map.1 hv
    obtain ⟨e1, e2⟩ := Prod.mk.inj e
    have := secV_inj e1
    subst this
    rw [hrun false, ← e2, decide_eq_true hx]; rfl
  · have : p ∉ q := fun hp => hno (secE p) (List.mem_map.2 ⟨p, hp, rfl⟩) rfl
    rw [hrun false, decide_eq_false this]; rfl
theorem SetL.put {w : World} {b : Nat} {q : List (Int × Int)} (h : SetL w b q) (hg : nG ≤ b) {p : Int × Int} (h1 : I64 p.1) (h2 : I64 p.2) (hn : p ∉ q) :
    ∃ w', (Instr.mapUpdate tSet (.map (some b)) (secV p) (.bool true)).run Tryz.prog w = .ok () w' ∧ SetL w' b (q ++ [p]) ∧ Upd (· = b) w w' := by
  obtain ⟨l, hl⟩ := sec_key h1 h2
  obtain ⟨w', hrun, hm, u⟩ := MapL.store_new h secKeyed Tryz.underlying63 hg hl (fun x hx e => by
    obtain ⟨y, hy, rfl⟩ := List.mem_map.1 hx
    exact hn (secV_inj e ▸ hy)) (.bool true)
  exact ⟨w', hrun, by unfold SetL; rw [List.map_append]; exact hm, u⟩

/-! ### The disk -/
/-- Where a disk lies: its block, its two maps', the values of its two slices. -/
structure DiskR where
  db : Nat
  fm : Nat
  sm : Nat
  qv : Value
  kv : Value
/-- The blocks that belong to a disk. -/
def DiskR.foot (r : DiskR) (k : Nat) : Prop := k = r.db ∨ k = r.fm ∨ k = r.sm ∨ r.qv.ownBlock = some k ∨ r.kv.ownBlock = some k
def diskC (r : DiskR) (D : Dk.Disk) : Array Value := #[.map (some r.fm), r.qv, .map (some r.sm), .int .i64 D.lost, .bool D.down, .int .i64 D.armed, r.kv]
def flatQ (q : List (Int × Int)) : List Value := (q.map secL).flatten
theorem flatQ_snoc (q : List (Int × Int)) (p : Int × Int) : flatQ (q ++ [p]) = flatQ q ++ secL p := by simp [flatQ]
/-- In the blocks from B on lies the disk r, in the state D. -/
structure DiskAt (B : Nat) (w : World) (r : DiskR) (D : Dk.Disk) : Prop where
  hb : nG ≤ B
  db : B ≤ r.db
  fm : B ≤ r.fm
  sm : B ≤ r.sm
  ne : r.fm ≠ r.sm
  blk : w.heap[r.db]? = some (.cells (diskC r D) tDisk (0, 0))
  files : FilesL w r.fm D.fs
  set : SetL w r.sm D.q
  queue : w.ownsRow B tSec 2 r.qv D.q.length (flatQ D.q)
  keep : w.ownsRow B tIntD 1 r.kv D.keep.length (D.keep.map intD)
  ok : Dk.Ok D
  kI : ∀ x ∈ D.keep, I64 x
theorem own_blockD {B sz : Nat} {e : TypeId} {w : World} {v : Value} {n : Nat} {xs : List Value} (h : w.ownsRow B e sz v n xs) {k : Nat} (hk : v.ownBlock = some k) : B ≤ k ∧ ∃ cs, w.heap[k]? = some (.cells cs e (0, 0)) := by
  rcases h.2 with ⟨rfl, _⟩ | ⟨g, cap, cur, rfl, hb, hg, _⟩
  · cases hk
  · obtain rfl : g = k := by simpa [Value.ownBlock] using hk
    exact ⟨hb, _, hg⟩
theorem owns_updD {B sz : Nat} {S : Nat → Prop} {e : TypeId} {w w' : World} {v : Value} {n : Nat} {xs : List Value} (h : w.ownsRow B e sz v n xs) (u : Upd S w w') (hs : ∀ k, v.ownBlock = some k → ¬ S k) : w'.ownsRow B e sz v n xs := by
  obtain ⟨h1, h2⟩ := h
  refine ⟨h1, ?_⟩
  rcases h2 with h2 | ⟨g, cap, cur, rfl, hb, hg, r⟩
  · exact Or.inl h2
  · exact Or.inr ⟨g, cap, cur, rfl, hb, u.keep hg (hs g rfl), r⟩
section
variable {B : Nat} {w w' : World} {r : DiskR} {D : Dk.Disk}
theorem DiskAt.foot_lt (h : DiskAt B w r D) {k : Nat} (hk : r.foot k) : B ≤ k ∧ k < w.heap.size := by
  rcases hk with rfl | rfl | rfl | hk | hk
  · exact ⟨h.db, lt_of_block h.blk⟩
  · exact ⟨h.fm, h.files.lt⟩
  · exact ⟨h.sm, h.set.lt⟩
  · obtain ⟨h1, cs, h2⟩ := own_blockD h.queue hk
    exact ⟨h1, lt_of_block h2⟩
  · obtain ⟨h1, cs, h2⟩ := own_blockD h.keep hk
    exact ⟨h1, lt_of_block h2⟩
theorem DiskAt.upd {S : Nat → Prop} (h : DiskAt B w r D) (u : Upd S w w') (hs : ∀ k, r.foot k → ¬ S k) : DiskAt B w' r D :=
  ⟨h.hb, h.db, h.fm, h.sm, h.ne, u.keep h.blk (hs _ (Or.inl rfl)), h.files.upd u (hs _ (Or.inr (Or.inl rfl))), h.set.upd u (hs _ (Or.inr (Or.inr (Or.inl rfl)))),
    owns_updD h.queue u (fun k hk => hs k (Or.inr (Or.inr (Or.inr (Or.inl hk))))), owns_updD h.keep u (fun k hk => hs k (Or.inr (Or.inr (Or.inr (Or.inr hk))))), h.ok, h.kI⟩
theorem DiskAt.nw (h : DiskAt B w r D) (u : Nw w w') : DiskAt B w' r D := h.upd u (fun _ _ s => s)
theorem DiskAt.cells (h : DiskAt B w r D) :
    w.cell? ⟨r.db, 0, none⟩ = some (.map (some r.fm)) ∧ w.cell? ⟨r.db, 1, none⟩ = some r.qv ∧ w.cell? ⟨r.db, 2, none⟩ = some (.map (some r.sm)) ∧ w.cell? ⟨r.db, 3, none⟩ = some (.int .i64 D.lost) ∧
    w.cell? ⟨r.db, 4, none⟩ = some (.bool D.down) ∧ w.cell? ⟨r.db, 5, none⟩ = some (.int .i64 D.armed) ∧ w.cell? ⟨r.db, 6, none⟩ = some r.kv := by
  refine ⟨?_, ?_, ?_, ?_, ?_, ?_, ?_⟩ <;> (rw [cells_cell h.blk]; rfl)
theorem DiskAt.frozen (h : DiskAt B w r D) (i : Nat) : w.frozen? ⟨r.db, i, none⟩ = false := cells_frozen h.blk i
/-- A disk's blocks are different ones. -/
theorem DiskAt.apart (h : DiskAt B w r D) : r.db ≠ r.fm ∧ r.db ≠ r.sm ∧ r.qv.ownBlock ≠ some r.db ∧ r.qv.ownBlock ≠ some r.fm ∧ r.qv.ownBlock ≠ some r.sm ∧ r.kv.ownBlock ≠ some r.db ∧ r.kv.ownBlock ≠ some r.fm ∧ r.kv.ownBlock ≠ some r.sm ∧ (∀ k, r.qv.ownBlock = some k → r.kv.ownBlock ≠ some k) := by
  have hm : ∀ {b : Nat} {k : TypeId} {l : List (Value × Value)} {cs : Array Value} {T : TypeId}, MapL Tryz.prog k w b l → w.heap[b]? = some (.cells cs T (0, 0)) → False := fun {b k l cs T} hl e => by
    obtain ⟨es, clock, e2, _⟩ := hl
    rw [e] at e2
    cases e2
  have hf : ∃ l, MapL Tryz.prog tIntD w r.fm l := by obtain ⟨l, h1, _⟩ := h.files; exact ⟨l, h1⟩
  obtain ⟨lf, hf⟩ := hf
  have hs : MapL Tryz.prog tSec w r.sm _ := h.set
  have hb := h.blk
  refine ⟨fun e => hm hf (by rw [← e]; exact hb), fun e => hm hs (by rw [← e]; exact hb), fun e => ?_, fun e => ?_, fun e => ?_, fun e => ?_, fun e => ?_, fun e => ?_, fun k e1 e2 => ?_⟩
  · obtain ⟨_, cs, e2⟩ := own_blockD h.queue e
    rw [hb] at e2
    injection e2 with e2
    injection e2 with _ e2
    exact absurd e2 (by decide)
  · obtain ⟨_, cs, e2⟩ := own_blockD h.queue e
    exact hm hf e2
  · obtain ⟨_, cs, e2⟩ := own_blockD h.queue e
    exact hm hs e2
  · obtain ⟨_, cs, e2⟩ := own_blockD h.keep e
    rw [hb] at e2
    injection e2 with e2
    injection e2 with _ e2
    exact absurd e2 (by decide)
  · obtain ⟨_, cs, e2⟩ := own_blockD h.keep e
    exact hm hf e2
  · obtain ⟨_, cs, e2⟩ := own_blockD h.keep e
    exact hm hs e2
  · obtain ⟨_, cs, e3⟩ := own_blockD h.queue e1
    obtain ⟨_, cs', e4⟩ := own_blockD h.keep e2
    rw [e3] at e4
    injection e4 with e4
    injection e4 with _ e4
    exact absurd e4 (by decide)
/-- What a call leaves of a disk: it lies in the same block, other blocks of it are old ones or new. -/
def DiskTo (B : Nat) (r : DiskR) (D' : Dk.Disk) (w w' : World) : Prop :=
  ∃ r', DiskAt B w' r' D' ∧ r'.db = r.db ∧ Upd r.foot w w' ∧ ∀ j, r'.foot j → r.foot j ∨ w.heap.size ≤ j
theorem DiskTo.refl (h : DiskAt B w r D) : DiskTo B r D w w := ⟨r, h, rfl, Upd.refl _ _, fun j hj => Or.inl hj⟩
theorem DiskTo.of_nw (h : DiskAt B w r D) (u : Nw w w') : DiskTo B r D w w' := ⟨r, h.nw u, rfl, Nw.upd _ u, fun j hj => Or.inl hj⟩
theorem DiskTo.nw {D' : Dk.Disk} {w2 : World} (h : DiskTo B r D' w w') (u : Nw w' w2) : DiskTo B r D' w w2 := by
  obtain ⟨r', h1, h2, h3, h4⟩ := h
  exact ⟨r', h1.nw u, h2, h3.nw u, h4⟩
theorem DiskTo.after {D' : Dk.Disk} {w0 : World} (u : Nw w0 w) (h : DiskTo B r D' w w') : DiskTo B r D' w0 w' := by
  obtain ⟨r', h1, h2, h3, h4⟩ := h
  exact ⟨r', h1, h2, Nw.trans u h3, fun j hj => (h4 j hj).imp id (fun e => by have := u.size; omega)⟩
end
end Go.Proofs.YtmlmdlbepppnlaaGreatDoor
