/- Lemmas on worlds that all the seat's proofs use: what may have changed between two worlds; cells of a block that is known whole; slices that read as a list. Contracts of Go's library at this seat's numbers, in the words of this seat's proofs: Itoa, Atoi, IndexByte, CutPrefix, strings.Builder. How the arguments of a statement read: integers, strings, slices of them, structs, slices of structs; from the form's reading to the words of the walks. Slices of structs that a call has made itself: what they read as. Append of one element to a slice of the call's own, with the word on where the result lies: in the old block or in a new one. Things in memory side by side: each in blocks of its own, all made since a world W, apart from blocks F that are kept. What a call leaves that turns one of them, or two. The encoding of layer 1 and its reader, as plain functions on lists of bytes; no program stands in this text. Decimal forms: what is written is read back; the reference's way of reading a number gives the same. No program stands in this text. The documented examples of layer 1, in the plain words. No program stands in this text. Layer 1 in plain words: what is read has exactly the bytes that were read as its encoding; what is written is read back. No program stands in this text. Layer 1 in plain words: what is written is read back. No program stands in this text. Layer 6 in plain words: claims, their texts, what is read back, what contradicts. No program stands in this text. Layer 6 in plain words: contradiction. No program stands in this text. Layer 6 in plain words: what is true of a log. No program stands in this text. Layers 5 and 7 in plain words: the ring of signatures, the book, what they answer. No program stands in this text. Layer 7 in plain words: the first entry with a key. No program stands in this text. Layer 7 in plain words: the documentation's example. No program stands in this text. The reader of layer 1 in memory, and the contracts of its methods that only look at its string: fail, number, close, Num, Int, Text, Left, Done, Rest, Open. The contracts of the reader's methods Num, Int, Text, Left, Done, Rest, and of Open. strings.Builder at this seat's numbers: WriteString (copyCheck first), String; a builder that the call has made itself. The contracts of the encoders of layer 1: Int, Num, Text, list[int], list[string], Nums, Texts. -/
import Derived.Test.YtagmlemlagbfkaaGreatDoorProg
import Derived.WalkKit
import Derived.Lib.Hide
import Derived.Lib.Builder
import Derived.Lib.LaidTab
import Derived.Lib.ItoaNum
import Derived.Deep.QuietTactic
import Derived.BigQuiet
import Derived.Outline
import Derived.Deep.RegionHeld3
import Derived.Test.YtagmlemlagbfkaaGreatDoorShelf
import Derived.Lib.ItoaLen
import Derived.ProofKit
import Derived.OpenShut
import Derived.ShutString
import Derived.Lib.SmallJoins
import Derived.Deep.AppendLies
import Derived.Lib.AtoiAll
import Derived.Lib.Bytealg
import Derived.Lib.Atoi
import Derived.RowKit
namespace Go.Proofs.YtagmlemlagbfkaaGreatDoor
open Go.RowKit
set_option linter.unusedVariables false
set_option linter.unusedSimpArgs false

/-- The package-level variables that the walks read lie in blocks below this number. -/
def nG : Nat := 4

/-- Of what was there only blocks in S may have changed, and no package-level variable. -/
structure Upd (S : Nat → Prop) (w w' : World) : Prop where
  os : w'.os = w.os
  tape : w'.tape = w.tape
  output : w'.output = w.output
  size : w.heap.size ≤ w'.heap.size
  block : ∀ k, k < w.heap.size → (k < nG ∨ ¬ S k) → w'.heap[k]? = w.heap[k]?

/-- Nothing that was there has changed. -/
abbrev Nw (w w' : World) : Prop := Upd (fun _ => False) w w'

theorem Upd.refl (S : Nat → Prop) (w : World) : Upd S w w := ⟨rfl, rfl, rfl, Nat.le_refl _, fun _ _ _ => rfl⟩
theorem Upd.mono {S S' : Nat → Prop} {w w' : World} (h : Upd S w w') (hs : ∀ k, k < w.heap.size → S k → S' k) : Upd S' w w' :=
  ⟨h.os, h.tape, h.output, h.size, fun k hk hn => h.block k hk (hn.imp id (fun n s => n (hs k hk s)))⟩
theorem Upd.trans' {S S' : Nat → Prop} {a b c : World} (h : Upd S a b) (k : Upd S' b c) (hs : ∀ x, x < a.heap.size → S' x → S x) : Upd S a c :=
  ⟨k.os.trans h.os, k.tape.trans h.tape, k.output.trans h.output, Nat.le_trans h.size k.size,
    fun i hi hn => (k.block i (Nat.lt_of_lt_of_le hi h.size) (hn.imp id (fun n s => n (hs i hi s)))).trans (h.block i hi hn)⟩
theorem Upd.trans {S : Nat → Prop} {a b c : World} (h : Upd S a b) (k : Upd S b c) : Upd S a c := h.trans' k (fun _ _ s => s)
theorem Upd.nw {S : Nat → Prop} {a b c : World} (h : Upd S a b) (k : Nw b c) : Upd S a c := h.trans' k (fun _ _ s => s.elim)
theorem Nw.upd {w w' : World} (S : Nat → Prop) (h : Nw w w') : Upd S w w' := h.mono (fun _ _ s => s.elim)
theorem Nw.trans {S : Nat → Prop} {a b c : World} (h : Nw a b) (k : Upd S b c) : Upd S a c := (h.upd S).trans k
theorem Upd.of_below {w w' : World} (S : Nat → Prop) (h : Below w.heap.size w w') : Upd S w w' :=
  ⟨h.os, h.tape, h.output, h.size, fun k hk _ => h.block k hk⟩
theorem Nw.below {w w' : World} (h : Nw w w') : Below w.heap.size w w' := ⟨h.os, h.tape, h.output, h.size, fun k hk => h.block k hk (Or.inr id)⟩
theorem Upd.drew {S : Nat → Prop} {a b : World} (h : Upd S a b) : Upd S a b.drew := ⟨h.os, h.tape, h.output, h.size, h.block⟩
theorem Upd.drewN {S : Nat → Prop} {a b : World} (h : Upd S a b) (n : Nat) : Upd S a (b.drewN n) := ⟨h.os, h.tape, h.output, h.size, h.block⟩
theorem heap_alloc (w : World) (o : Obj) (k : Nat) (h : k < w.heap.size) : (w.alloc o).heap[k]? = w.heap[k]? := by
  show (w.heap.push o)[k]? = _
  rw [Array.getElem?_push, if_neg (by omega)]
theorem heap_new (w : World) (o : Obj) : (w.alloc o).heap[w.heap.size]? = some o := by
  show (w.heap.push o)[w.heap.size]? = _
  simp
theorem heap_setCell (w : World) (a : Addr) (u : Value) (k : Nat) (h : k ≠ a.block) : (w.setCell a u).heap[k]? = w.heap[k]? := by
  simp only [World.setCell, Array.getElem?_modify]
  rw [if_neg (by omega)]
theorem Upd.alloc {S : Nat → Prop} {a b : World} (h : Upd S a b) (o : Obj) : Upd S a (b.alloc o) :=
  ⟨h.os, h.tape, h.output, by have := h.size; simp; omega, fun k hk hn => (heap_alloc b o k (by have := h.size; omega)).trans (h.block k hk hn)⟩
theorem Upd.setCell {S : Nat → Prop} {a b : World} (h : Upd S a b) {p : Addr} (hp : S p.block ∨ a.heap.size ≤ p.block) (hg : nG ≤ p.block) (u : Value) : Upd S a (b.setCell p u) :=
  ⟨h.os, h.tape, h.output, by simpa [World.setCell] using h.size, fun k hk hn => by
    refine (heap_setCell b p u k ?_).trans (h.block k hk hn)
    rintro rfl
    rcases hp with hp | hp
    · rcases hn with hn | hn
      · omega
      · exact hn hp
    · omega⟩
theorem Upd.set1 {b : Nat} {a w : World} (h : Upd (fun x => x = b) a w) (hg : nG ≤ b) (i : Nat) (u : Value) : Upd (fun x => x = b) a (w.setCell ⟨b, i, none⟩ u) := h.setCell (Or.inl rfl) hg u
theorem Upd.new {S : Nat → Prop} {a w : World} (h : Upd S a w) {b : Nat} (hb : a.heap.size ≤ b) (hg : nG ≤ b) (i : Nat) (u : Value) : Upd S a (w.setCell ⟨b, i, none⟩ u) := h.setCell (Or.inr hb) hg u

theorem nw_drewN (w : World) (n : Nat) : ∃ w1, w.drewN n = w1 ∧ Nw w w1 := ⟨_, rfl, (Upd.refl _ _).drewN n⟩
theorem Nw.drew' {S : Nat → Prop} {w w' : World} (h : Upd S w.drew w') : Upd S w w' := ((Upd.refl S w).drew).trans h

/-! ### A region that draws its order, whose operations look at old memory alone and whose callees make new memory at most: one walk serves -/
/-- The worlds that have new blocks alone beyond w. -/
def Later (w : World) : Type := { w' : World // Nw w w' }
instance (w : World) : Nonempty (Later w) := ⟨⟨w, Upd.refl _ _⟩⟩
theorem Later.nw {w : World} (i : Later w) : Nw w i.1 := i.2
theorem wp_region_nw {P : Program} {id : Nat} {Q : Exit → Act → World → Prop} {a : Act} {w : World} {l : List Oper} (hm : P.follows .mixedOrders = true) (hB : Region.lexB .any l.toArray = true)
    (h : wpQuiet P l.toArray (fun w' => ∃ i : Later w, w' = i.1) (fun a' => ∀ w', (∃ i : Later w, w' = i.1) → Q .normal a' w') l a) : (Code.region id l.toArray true).wp P Q a w :=
  wp_region_quiet (C := fun w' => ∃ i : Later w, w' = i.1) hm hB ⟨⟨_, (Upd.refl _ w).drew⟩, rfl⟩ (by simpa using h)
theorem later_out {w w' : World} (h : ∃ i : Later w, w' = i.1) : Nw w w' := by
  obtain ⟨i, rfl⟩ := h
  exact i.2
/-- A callee's contract inside such a region. -/
theorem later_call {P : Program} {f : FuncId} {args : Array Value} {w : World} {i : Later w} {v : Value} (h : Calls P f args i.1 fun e w' => e = .returned v ∧ Nw i.1 w') :
    Calls P f args i.1 fun e w' => e = .returned v ∧ ∃ j : Later w, w' = j.1 :=
  h.mono fun _ _ ⟨he, hu⟩ => ⟨he, ⟨_, Upd.trans i.2 hu⟩, rfl⟩
theorem later_cell {w : World} (i : Later w) {a : Addr} {v : Value} (h : w.cell? a = some v) : i.1.cell? a = some v :=
  (World.cell?_of_block (i.2.block a.block (World.block_lt_of_cell? w a h) (Or.inr id))).trans h

/-! ### A block that is known whole -/
theorem lt_of_block {w : World} {b : Nat} {o : Obj} (h : w.heap[b]? = some o) : b < w.heap.size := by
  rcases Nat.lt_or_ge b w.heap.size with h' | h'
  · exact h'
  · simp [Array.getElem?_eq_none h'] at h
theorem cells_cell {w : World} {b : Nat} {cs : Array Value} {T : TypeId} {fz : Nat × Nat} (h : w.heap[b]? = some (.cells cs T fz)) (i : Nat) : w.cell? ⟨b, i, none⟩ = cs[i]? := by
  simp [World.cell?, h]
theorem cells_frozen {w : World} {b : Nat} {cs : Array Value} {T : TypeId} (h : w.heap[b]? = some (.cells cs T (0, 0))) (i : Nat) : w.frozen? ⟨b, i, none⟩ = false := by
  simp [World.frozen?, h]
theorem setCell_block {w : World} {b : Nat} {cs : Array Value} {T : TypeId} {fz : Nat × Nat} (h : w.heap[b]? = some (.cells cs T fz)) (i : Nat) (v : Value) :
    (w.setCell ⟨b, i, none⟩ v).heap[b]? = some (.cells (cs.setIfInBounds i v) T fz) := by
  simp [World.setCell, Array.getElem?_modify, h]
theorem Upd.keep {S : Nat → Prop} {w w' : World} {b : Nat} {o : Obj} (u : Upd S w w') (h : w.heap[b]? = some o) (hn : ¬ S b) : w'.heap[b]? = some o :=
  (u.block b (lt_of_block h) (Or.inr hn)).trans h
theorem Nw.keep {w w' : World} {b : Nat} {o : Obj} (u : Nw w w') (h : w.heap[b]? = some o) : w'.heap[b]? = some o := Upd.keep u h id

/-! ### Strings as lists of bytes -/
theorem bs_append (a b : List UInt8) : (ByteArray.mk a.toArray ++ ByteArray.mk b.toArray) = ByteArray.mk (a ++ b).toArray := ByteArray.mk_append_mk a b
theorem bs_extract (l : List UInt8) (a b : Nat) : (ByteArray.mk l.toArray).extract a b = ByteArray.mk ((l.drop a).take (b - a)).toArray := ByteArray.extract_mk l a b
theorem bs_list (l : List UInt8) : (ByteArray.mk l.toArray).data.toList = l := by simp
theorem bs_extract_list (s : ByteArray) (a b : Nat) : (s.extract a b).data.toList = (s.data.toList.drop a).take (b - a) := by
  cases s with | mk d => rw [show (ByteArray.mk d) = ByteArray.mk d.toList.toArray by simp, bs_extract]
theorem bs_append_list (a b : ByteArray) : (a ++ b).data.toList = a.data.toList ++ b.data.toList := by simp [ByteArray.data_append]
theorem bs_size (s : ByteArray) : s.size = s.data.toList.length := by rw [Array.length_toList]; rfl
theorem bs_toList (s : ByteArray) : s.toList = s.data.toList := ByteArray.toList_eq s
theorem bs_beq (a b : ByteArray) : (a.toList == b.toList) = decide (a.data.toList = b.data.toList) := by rw [bs_toList, bs_toList]; exact Bool.eq_iff_iff.2 (by simp)
theorem nw_alloc (w : World) (o : Obj) : Nw w (w.alloc o) := (Upd.refl _ w).alloc o
theorem bs_eta (s : ByteArray) : ByteArray.mk (s.data.toList).toArray = s := by cases s; simp
theorem ret_bs {s : ByteArray} {l : List UInt8} (h : s.data.toList = l) : Ending.returned (.string s) = .returned (.string ⟨l.toArray⟩) := by rw [← h, bs_eta]
theorem ret_int {k : IntKind} {a b : Int} (h : a = b) : Ending.returned (.int k a) = .returned (.int k b) := by rw [h]
theorem ret_bool {a b : Bool} (h : a = b) : Ending.returned (.bool a) = .returned (.bool b) := by rw [h]

/-! ### A slice whose elements have one cell each, and that reads as a list -/
/-- The slice v reads as xs; its array lies in a block from lo on, below hi. -/
def Sl (lo hi : Nat) (w : World) (v : Value) (xs : List Value) : Prop :=
  (∃ a cap, v = .slice a 0 cap ∧ xs = []) ∨
  ∃ b off cap, v = .slice (some ⟨b, off, none⟩) xs.length cap ∧ xs.length ≤ cap ∧ cap ≤ maxLen ∧ lo ≤ b ∧ b < hi ∧ b < w.heap.size ∧ ∀ i, i < xs.length → w.cell? ⟨b, off + i, none⟩ = xs[i]?
theorem Sl.nil {α : Type} (lo hi : Nat) (w : World) (f : α → Value) : Sl lo hi w (.slice none 0 0) (List.map f []) := Or.inl ⟨_, _, rfl, rfl⟩
theorem Sl.upd {lo hi : Nat} {S : Nat → Prop} {w w' : World} {v : Value} {xs : List Value} (h : Sl lo hi w v xs) (u : Upd S w w') (hs : ∀ k, lo ≤ k → k < hi → ¬ S k) : Sl lo hi w' v xs := by
  rcases h with h | ⟨b, off, cap, h1, h2, h3, h4, h5, h6, h7⟩
  · exact Or.inl h
  · refine Or.inr ⟨b, off, cap, h1, h2, h3, h4, h5, Nat.lt_of_lt_of_le h6 u.size, fun i hi' => ?_⟩
    rw [← h7 i hi']
    exact World.cell?_of_block (u.block b h6 (Or.inr (hs b h4 h5)))
theorem Sl.nw {lo hi : Nat} {w w' : World} {v : Value} {xs : List Value} (h : Sl lo hi w v xs) (u : Nw w w') : Sl lo hi w' v xs := h.upd u (fun _ _ _ s => s)
theorem Sl.len {lo hi : Nat} {w : World} {v : Value} {xs : List Value} (h : Sl lo hi w v xs) : xs.length ≤ maxLen := by
  rcases h with ⟨_, _, _, rfl⟩ | ⟨b, off, cap, h1, h2, h3, h4, h5, h6, h7⟩
  · exact Nat.zero_le _
  · exact Nat.le_trans h2 h3
/-- A slice that the call owns reads as a list, where each element has one cell. -/
theorem Sl.of_owns {base : Nat} {e : TypeId} {w : World} {v : Value} {n : Nat} {xs : List Value} (h : w.ownsRow base e 1 v n xs) : Sl base w.heap.size w v xs := by
  obtain ⟨h1, h2⟩ := h
  rw [Nat.mul_one] at h1
  rcases h2 with ⟨rfl, rfl⟩ | ⟨g, cap, cur, rfl, hb, hg, hn, hm, hs, ht⟩
  · exact Or.inl ⟨_, _, rfl, List.length_eq_zero_iff.1 h1⟩
  · subst h1
    refine Or.inr ⟨g, 0, cap, rfl, hn, hm, hb, lt_of_block hg, lt_of_block hg, fun i hi => ?_⟩
    rw [cells_cell hg, Nat.zero_add, ← ht, Nat.mul_one, List.getElem?_take, if_pos hi]
    simp
theorem Upd.grown {S : Nat → Prop} {a w w' : World} {row : Option Nat} (h : Upd S a w) (hg : w.grownBy w' row) (hr : ∀ k, row = some k → (S k ∨ a.heap.size ≤ k) ∧ nG ≤ k) : Upd S a w' :=
  ⟨hg.os.trans h.os, hg.tape.trans h.tape, hg.output.trans h.output, Nat.le_trans h.size hg.size, fun k hk hn => by
    refine (hg.block k (Nat.lt_of_lt_of_le hk h.size) (fun e => ?_)).trans (h.block k hk hn)
    obtain ⟨h1, h2⟩ := hr k e.symm
    rcases hn with hn | hn
    · omega
    · rcases h1 with h1 | h1
      · exact hn h1
      · omega⟩
theorem grown_keep {w w' : World} {row : Option Nat} {b : Nat} {o : Obj} (hg : w.grownBy w' row) (h : w.heap[b]? = some o) (hn : row ≠ some b) : w'.heap[b]? = some o :=
  (hg.block b (lt_of_block h) (fun e => hn e.symm)).trans h
/-- What the walk is told of a slice: an address (if there is an element), a length, a capacity, the cells. -/
theorem Sl.open_ {lo hi : Nat} {w : World} {v : Value} {xs : List Value} (h : Sl lo hi w v xs) :
    ∃ a cap, v = .slice a xs.length cap ∧ xs.length ≤ maxLen ∧ ((True ∧ True ∧ xs = []) ∨ ∃ b off, a = some ⟨b, off, none⟩ ∧ lo ≤ b ∧ b < hi ∧ b < w.heap.size ∧ ∀ i, i < xs.length → w.cell? ⟨b, off + i, none⟩ = xs[i]?) := by
  have hl := h.len
  rcases h with ⟨a, cap, rfl, rfl⟩ | ⟨b, off, cap, h1, h2, h3, h4, h5, h6, h7⟩
  · exact ⟨a, cap, rfl, hl, Or.inl ⟨trivial, trivial, rfl⟩⟩
  · exact ⟨some ⟨b, off, none⟩, cap, h1, hl, Or.inr ⟨b, off, rfl, h4, h5, h6, h7⟩⟩
theorem add_plain (b o j : Nat) : (⟨b, o, none⟩ : Addr).add j = ⟨b, o + j, none⟩ := by
  unfold Addr.add
  split
  · rename_i h; subst h; rfl
  · rfl
/-- 'out = append(out, x)' onto a slice that is nil or the call's own; x's cells lie in the new block that the walk has just made. -/
theorem wpList_app {P : Program} {w : World} {ops : Array Oper} {rest : List Oper} {o : Oper} {a : Act} {Q : Exit → Act → World → Prop} (hgd : o.guard = none) (s x : Operand) (t : TypeId)
    (ho : o.op = .call { callee := .builtin .append, args := #[s, x], argTypes := #[t, t] })
    (base : Nat) (e : TypeId) (z : Value) (size bytes : Nat) (ht : P.underlying t = some (.slice e)) (hinfo : (P.info? e).map (fun i => (i.zero, i.size, i.bytes)) = some (some z, size, bytes)) (hzs : z.cells.size = size) (hsz : 0 < size)
    (v : Value) (n : Nat) (xs : List Value) (hs : a.eval s = v) (hown : w.ownsRow base e size v n xs)
    (news : List Value) (hx : a.eval x = .slice (some ⟨w.heap.size, 0, none⟩) 1 1) (hl : news.length = size) (h1 : ∀ u ∈ news, u.oneCell' = true)
    (h63 : n + 1 ≤ maxLen) (hbytes : (n + 1) * bytes ≤ 140737488355328) (hbase : base ≤ w.heap.size)
    (h : ∀ v' w', w'.ownsRow base e size v' (n + 1) (xs ++ news) → Nw w (w.alloc (.cells news.toArray e)) → (w.alloc (.cells news.toArray e)).grownBy w' v.ownBlock → (∀ k, v.ownBlock = some k → base ≤ k ∧ k < w.heap.size) → wpList P ops Q rest (a.put o.dst v') w') : wpList P ops Q (o :: rest) a (w.alloc (.cells news.toArray e)) := by
  obtain ⟨i0, hi, hz0, hz1, hz2⟩ := info_parts hinfo
  refine wpList_append_own _ hgd s x t ho base e i0 z size bytes ht hi hz0 hz1 hz2 hzs hsz v n xs hs (hown.alloc _) ⟨w.heap.size, 0, none⟩ 1 1 news hx (by omega) ?_ h1 h63 hbytes (by simp; omega) fun v' w' h2 h3 _ => h v' w' h2 (nw_alloc _ _) h3 hown.lt
  intro j u hu
  have hb := heap_new w (.cells news.toArray e)
  rw [add_plain, cells_cell hb, Nat.zero_add]
  simpa using hu
end Go.Proofs.YtagmlemlagbfkaaGreatDoor
namespace Go.Proofs.YtagmlemlagbfkaaGreatDoor
open Go.RowKit
set_option linter.unusedVariables false
set_option linter.unusedSimpArgs false
attribute [local irreducible] Calls

/-- What the package-level variables of the library hold, as their initialisers lay them. -/
structure Gl (w : World) : Prop where
  big : nG ≤ w.heap.size
  tab : Lib.TabIs Tryz.prog w "internal/strconv.uint64pow10" .u64 Lib.pow10Tab
  syn : ∃ tp p, w.var? Tryz.prog "strconv.ErrSyntax" = some #[.iface tp p]
  rng : ∃ tp p, w.var? Tryz.prog "strconv.ErrRange" = some #[.iface tp p]
theorem gTab : Tryz.prog.globalNamed "internal/strconv.uint64pow10" = some 0 := by kernel_rfl
theorem gSyn : Tryz.prog.globalNamed "strconv.ErrSyntax" = some 2 := by kernel_rfl
theorem gRng : Tryz.prog.globalNamed "strconv.ErrRange" = some 3 := by kernel_rfl
theorem var_of_block {w w' : World} {name : String} {g : Nat} (hg : Tryz.prog.globalNamed name = some g) (h : w'.heap[g]? = w.heap[g]?) : w'.var? Tryz.prog name = w.var? Tryz.prog name := by
  simp only [World.var?, hg, Option.bind_some, h]
theorem Gl.upd {S : Nat → Prop} {w w' : World} (g : Gl w) (u : Upd S w w') : Gl w' := by
  have hb := g.big
  have h : ∀ k, k < nG → w'.heap[k]? = w.heap[k]? := fun k hk => u.block k (Nat.lt_of_lt_of_le hk hb) (Or.inl hk)
  refine ⟨Nat.le_trans hb u.size, ?_, ?_, ?_⟩
  · show w'.var? Tryz.prog _ = _
    rw [var_of_block gTab (h _ (by decide))]; exact g.tab
  · obtain ⟨tp, p, e⟩ := g.syn
    exact ⟨tp, p, by rw [var_of_block gSyn (h _ (by decide))]; exact e⟩
  · obtain ⟨tp, p, e⟩ := g.rng
    exact ⟨tp, p, by rw [var_of_block gRng (h _ (by decide))]; exact e⟩
theorem Gl.drew {w : World} (g : Gl w) : Gl w.drew := g.upd ((Upd.refl (fun _ => False) w).drew)
theorem Gl.drewN {w : World} (g : Gl w) (n : Nat) : Gl (w.drewN n) := g.upd ((Upd.refl (fun _ => False) w).drewN n)
theorem nw_grow (w : World) (k : Nat) (os : Array Obj) : Nw w (Go.Sort.grow (w.drewN k) os) := by
  refine ⟨rfl, rfl, rfl, by simp [Go.Sort.grow], fun i hi _ => ?_⟩
  show ((w.drewN k).heap ++ os)[i]? = _
  have : (w.drewN k).heap = w.heap := rfl
  rw [this, Array.getElem?_append_left hi]

/-- An int64. -/
def I64 (n : Int) : Prop := -9223372036854775808 ≤ n ∧ n ≤ 9223372036854775807
theorem itoa_le {n : Int} (h : I64 n) : (Lib.itoa n).length ≤ 21 := Lib.itoa_length_le n h.1 h.2

theorem Itoa_c (n : Int) (w : World) (g : Gl w) (h : I64 n) :
    Calls Tryz.prog 152 #[.int .i64 n] w fun e w' => e = .returned (.string ⟨(Lib.itoa n).toArray⟩) ∧ Nw w w' :=
  (Tryz.strconv_Itoa n h.1 h.2 w g.tab).mono fun e w' ⟨he, k, os, hw⟩ => ⟨he, hw ▸ nw_grow w k os⟩
theorem IndexByte_c (s : ByteArray) (c : Int) (w : World) :
    Calls Tryz.prog 224 #[.string s, .int .u8 c] w fun e w' => e = .returned (.int .i64 (Lib.indexByte s.data.toList c.toNat.toUInt8)) ∧ w = w' :=
  (Tryz.strings_IndexByte s c w).mono fun e w' ⟨he, hw⟩ => ⟨he, hw.symm⟩
theorem CutPrefix_c (s p : ByteArray) (w : World) :
    Calls Tryz.prog 157 #[.string s, .string p] w fun e w' => e = .returned (.tuple #[.string ⟨(Lib.trimPrefix s.data.toList p.data.toList).toArray⟩, .bool (Lib.hasPrefix s.data.toList p.data.toList)]) ∧ w = w' :=
  (Tryz.strings_CutPrefix s p w).mono fun e w' ⟨he, hw⟩ => ⟨he, hw.symm⟩
theorem size_freeze (w : World) (a : Addr) (n : Nat) : (w.freeze a n).heap.size = w.heap.size := by
  unfold World.freeze; split <;> simp
theorem heap_freeze (w : World) (a : Addr) (n k : Nat) (h : k ≠ a.block) : (w.freeze a n).heap[k]? = w.heap[k]? := by
  unfold World.freeze
  split
  · rfl
  · simp only [Array.getElem?_modify]; rw [if_neg (by omega)]
theorem os_freeze (w : World) (a : Addr) (n : Nat) : (w.freeze a n).os = w.os ∧ (w.freeze a n).tape = w.tape ∧ (w.freeze a n).output = w.output := by
  unfold World.freeze; split <;> exact ⟨rfl, rfl, rfl⟩
theorem nw_bytes (w : World) (t : ByteArray) : Nw w (Lib.bytesWorld w 5 t) := by
  simp only [Lib.bytesWorld]
  refine ⟨(os_freeze _ _ _).1, (os_freeze _ _ _).2.1, (os_freeze _ _ _).2.2, by rw [size_freeze]; simp, fun i hi _ => ?_⟩
  rw [heap_freeze _ _ _ _ (by show i ≠ w.heap.size; omega)]
  exact heap_alloc w.drew _ i hi
/-- The third way in which a number's reading ends. -/
theorem atoi_rest {x : Lib.NumEnd Int} (h1 : ∀ m, x ≠ .ok m) (h2 : x ≠ .range) : x = Lib.atoiAll [] := by
  cases x with
  | ok v => exact absurd rfl (h1 v)
  | range => exact absurd rfl h2
  | _ => rfl
/-- strconv.Atoi: the number and no error, or some number and an error. -/
theorem Atoi_c (s : ByteArray) (w : World) (g : Gl w) (hs : s.size ≤ 281474976710656) :
    Calls Tryz.prog 225 #[.string s] w fun e w' => ∃ n v, e = .returned (.tuple #[.int .i64 n, v]) ∧ I64 n ∧
      ((v = .nilIface ∧ Lib.atoiAll s.data.toList = .ok n) ∨ (∃ t p, v = .iface t p) ∧ ∀ m, Lib.atoiAll s.data.toList ≠ .ok m) ∧ Nw w w' := by
  by_cases hok : ∃ v, Lib.atoiAll s.data.toList = .ok v
  · obtain ⟨v, h⟩ := hok
    refine (Tryz.strconv_Atoi_ok s (by omega) v h w).mono ?_
    rintro e w' ⟨rfl, hw⟩
    refine ⟨v, _, rfl, ?_, Or.inl ⟨rfl, h⟩, ?_⟩
    · unfold Lib.atoiAll at h
      unfold I64
      split at h
      · cases h
      · dsimp only at h
        split at h
        · cases h
        · cases h
        · split at h
          · cases h
          · split at h
            · cases h
            · injection h with h
              split at h <;> omega
    · rcases hw with rfl | ⟨t, rfl⟩
      · exact Upd.refl _ _
      · exact nw_bytes w t
  · have hno : ∀ m, Lib.atoiAll s.data.toList ≠ .ok m := fun m hm => hok ⟨m, hm⟩
    by_cases hr : Lib.atoiAll s.data.toList = .range
    · obtain ⟨tp, p, hv⟩ := g.rng
      refine Calls.mono (show Calls Tryz.prog 225 #[.string s] w _ from Any.strconv_Atoi_range_var Tryz.laysC172 s hs hr tp p w hv) ?_
      rintro e w' ⟨N, rfl, _, _, hb⟩
      refine ⟨_, _, rfl, ?_, Or.inr ⟨⟨_, _, rfl⟩, hno⟩, Upd.of_below _ hb⟩
      unfold Lib.atoiSat I64
      split <;> omega
    · obtain ⟨tp, p, hv⟩ := g.syn
      refine Calls.mono (show Calls Tryz.prog 225 #[.string s] w _ from Any.strconv_Atoi_syntax_var Tryz.laysC172 s hs (atoi_rest hno hr) tp p w hv) ?_
      rintro e w' ⟨N, rfl, _, _, hb⟩
      exact ⟨0, _, rfl, by unfold I64; omega, Or.inr ⟨⟨_, _, rfl⟩, hno⟩, Upd.of_below _ hb⟩
theorem Atoi_l (s : ByteArray) (l : List UInt8) (hl : s.data.toList = l) (w : World) (g : Gl w) (hs : l.length ≤ 281474976710656) :
    Calls Tryz.prog 225 #[.string s] w fun e w' => ∃ n v, e = .returned (.tuple #[.int .i64 n, v]) ∧ I64 n ∧
      ((v = .nilIface ∧ Lib.atoiAll l = .ok n) ∨ (∃ t p, v = .iface t p) ∧ ∀ m, Lib.atoiAll l ≠ .ok m) ∧ Nw w w' := by
  subst hl
  exact Atoi_c s w g (by rw [bs_size]; exact hs)
theorem IndexByte_l (s : ByteArray) (c : UInt8) (l : List UInt8) (hs : s.data.toList = l) (w : World) :
    Calls Tryz.prog 224 #[.string s, .int .u8 c.toNat] w fun e w' => e = .returned (.int .i64 (Lib.indexByte l c)) ∧ w = w' := by
  have h := IndexByte_c s c.toNat w
  rwa [hs, show ((c.toNat : Int).toNat.toUInt8) = c by simp] at h
end Go.Proofs.YtagmlemlagbfkaaGreatDoor
namespace Go.Proofs.YtagmlemlagbfkaaGreatDoor
open Go.ChangeShapes Go.WideShapes Go.ChangeAt Go.RowKit Go.Joins
set_option linter.unusedVariables false
set_option linter.unusedSimpArgs false

/-- A slice whose elements have sz cells each; xs: the cells of each element. -/
def SlS (sz lo hi : Nat) (w : World) (v : Value) (xs : List (List Value)) : Prop :=
  (∃ a cap, v = .slice a 0 cap ∧ xs = []) ∨
  ∃ b off cap, v = .slice (some ⟨b, off, none⟩) xs.length cap ∧ xs.length ≤ cap ∧ cap ≤ maxLen ∧ lo ≤ b ∧ b < hi ∧ b < w.heap.size ∧
    ∀ i (h : i < xs.length), xs[i].length = sz ∧ ∀ j, j < sz → w.cell? ⟨b, off + i * sz + j, none⟩ = xs[i][j]?
theorem SlS.upd {sz lo hi : Nat} {S : Nat → Prop} {w w' : World} {v : Value} {xs : List (List Value)} (h : SlS sz lo hi w v xs) (u : Upd S w w') (hs : ∀ k, lo ≤ k → k < hi → ¬ S k) : SlS sz lo hi w' v xs := by
  rcases h with h | ⟨b, off, cap, h1, h2, h3, h4, h5, h6, h7⟩
  · exact Or.inl h
  · refine Or.inr ⟨b, off, cap, h1, h2, h3, h4, h5, Nat.lt_of_lt_of_le h6 u.size, fun i hi' => ⟨(h7 i hi').1, fun j hj => ?_⟩⟩
    rw [← (h7 i hi').2 j hj]
    exact World.cell?_of_block (u.block b h6 (Or.inr (hs b h4 h5)))
theorem SlS.nw {sz lo hi : Nat} {w w' : World} {v : Value} {xs : List (List Value)} (h : SlS sz lo hi w v xs) (u : Nw w w') : SlS sz lo hi w' v xs := h.upd u (fun _ _ _ s => s)
theorem SlS.len {sz lo hi : Nat} {w : World} {v : Value} {xs : List (List Value)} (h : SlS sz lo hi w v xs) : xs.length ≤ maxLen := by
  rcases h with ⟨_, _, _, rfl⟩ | ⟨b, off, cap, h1, h2, h3, h4, h5, h6, h7⟩
  · exact Nat.zero_le _
  · exact Nat.le_trans h2 h3
theorem SlS.open_ {sz lo hi : Nat} {w : World} {v : Value} {xs : List (List Value)} (h : SlS sz lo hi w v xs) :
    ∃ a cap, v = .slice a xs.length cap ∧ xs.length ≤ maxLen ∧ (xs = [] ∨ ∃ b off, a = some ⟨b, off, none⟩ ∧ lo ≤ b ∧ b < hi ∧ b < w.heap.size ∧
      ∀ i (h : i < xs.length), xs[i].length = sz ∧ ∀ j, j < sz → w.cell? ⟨b, off + i * sz + j, none⟩ = xs[i][j]?) := by
  have hl := h.len
  rcases h with ⟨a, cap, rfl, rfl⟩ | ⟨b, off, cap, h1, h2, h3, h4, h5, h6, h7⟩
  · exact ⟨a, cap, rfl, hl, Or.inl rfl⟩
  · exact ⟨some ⟨b, off, none⟩, cap, h1, hl, Or.inr ⟨b, off, rfl, h4, h5, h6, h7⟩⟩

theorem cells?_spec {w : World} {base : Nat} {a : Addr} {n : Nat} {cs : List Value} (h : w.cells? base a n = some cs) : cs.length = n ∧ ∀ j, j < n → w.cell? (a.add j) = cs[j]? := by
  unfold World.cells? at h
  split at h
  · refine ⟨by have := Lib.mapM_length h; simpa using this, fun j hj => ?_⟩
    obtain ⟨b, hb, hf⟩ := Lib.mapM_at h j j (by simp [hj])
    rw [hf, hb]
  · cases h

section
variable {H : Type} {enc : TypeId × Value → H} {w : World} {base : Nat} {sp : Nat → Bool} {held : Bool} {n : Nat} {x : DataW H × List MemPlace}

theorem trod_int_cell {P : Program} {t : TypeId} {k : IntKind} {cs : List Value} (ht : P.underlying t = some (.int k)) (h : DataW.trod enc P w base sp held n t cs = some x) : ∃ m : Int, cs = [.int k m] ∧ (Lit.int k m).wf = true := by
  obtain ⟨m, h1, _, h2⟩ := DataW.trod_int ht h
  exact ⟨m, h1, h2⟩
theorem trod_str_cell {P : Program} {t : TypeId} {cs : List Value} (ht : P.underlying t = some .string) (h : DataW.trod enc P w base sp held n t cs = some x) : ∃ l : List UInt8, cs = [.string ⟨l.toArray⟩] ∧ l.length ≤ maxLen := by
  obtain ⟨s, h1, _, h2⟩ := DataW.trod_string ht h
  exact ⟨s.data.toList, by rw [bs_eta]; exact h1, by rw [← bs_size]; exact h2⟩
theorem i64_of_wf {m : Int} (h : (Lit.int .i64 m).wf = true) : I64 m := by
  have := h
  simp [Lit.wf, IntKind.min, IntKind.max, IntKind.signed, IntKind.bits] at this
  unfold I64; omega
/-- A slice whose elements read somehow. -/
theorem trod_slice_cells {P : Program} {t e : TypeId} {sz : Nat} {cs : List Value} (ht : P.underlying t = some (.slice e)) (hc : P.cellsOf e = sz) (hsz : 0 < sz) (h : DataW.trod enc P w base sp held n t cs = some x) :
    ∃ v xs, cs = [v] ∧ SlS sz 0 w.heap.size w v xs ∧ ∀ c ∈ xs, ∃ m y, DataW.trod enc P w base sp held m e c = some y := by
  rcases DataW.trod_slice ht h with ⟨h0, _⟩ | ⟨a, len, cap, elems, rest, m, _, rfl, rfl, hb, hl, hm, hlen, hel, _, _⟩
  · exact ⟨_, [], h0, Or.inl ⟨none, 0, rfl, rfl⟩, fun c hc => by cases hc⟩
  · have hel' : ∀ i, i < len → ∃ c y, w.cells? base (a.add (i * sz)) sz = some c ∧ DataW.trod enc P w base sp held m e c = some y := fun i hi => by
      have := hel i hi
      rw [hc] at this
      have hy : ∃ y, elems[i]? = some y := ⟨elems[i], by rw [List.getElem?_eq_getElem (by omega)]⟩
      obtain ⟨y, hy⟩ := hy
      rw [hy] at this
      obtain ⟨c, h1, h2⟩ := Option.bind_eq_some_iff.1 this
      exact ⟨c, y, h1, h2⟩
    by_cases h0 : len = 0
    · subst h0
      exact ⟨_, [], rfl, Or.inl ⟨some a, cap, rfl, rfl⟩, fun c hc => by cases hc⟩
    · obtain ⟨C, hC⟩ : ∃ C : Nat → List Value, ∀ i, i < len → w.cells? base (a.add (i * sz)) sz = some (C i) ∧ ∃ y, DataW.trod enc P w base sp held m e (C i) = some y := by
        refine ⟨fun i => if hi : i < len then (hel' i hi).choose else [], fun i hi => ?_⟩
        simp only [dif_pos hi]
        obtain ⟨y, h1, h2⟩ := (hel' i hi).choose_spec
        exact ⟨h1, y, h2⟩
      obtain ⟨hz, hcell⟩ := cells?_spec (hC 0 (by omega)).1
      have hc0 : ∃ u, w.cell? ((a.add (0 * sz)).add 0) = some u := by
        have := hcell 0 hsz
        rw [List.getElem?_eq_getElem (by omega)] at this
        exact ⟨_, this⟩
      obtain ⟨u, hu⟩ := hc0
      have hz0 : (a.add (0 * sz)).add 0 = a := by simp [Addr.add]
      rw [hz0] at hu
      obtain ⟨b, off, spot⟩ := a
      have hspot : spot = none := World.cell?_spot hu
      subst hspot
      have hbl := World.block_lt_of_cell? w _ hu
      refine ⟨_, (List.range len).map C, rfl, Or.inr ⟨b, off, cap, by simp, by simpa using hl, hm, Nat.zero_le _, hbl, hbl, fun i hi => ?_⟩, fun c hc => ?_⟩
      · have hi' : i < len := by simpa using hi
        obtain ⟨h1, h2⟩ := cells?_spec (hC i hi').1
        simp only [List.getElem_map, List.getElem_range]
        refine ⟨h1, fun j hj => ?_⟩
        rw [← h2 j hj, add_plain, add_plain]
      · obtain ⟨i, hi, rfl⟩ := List.mem_map.1 hc
        obtain ⟨y, hy⟩ := (hC i (List.mem_range.1 hi)).2
        exact ⟨m, y, hy⟩
/-- .. where an element has one cell, and reads as the value f of something. -/
theorem sl_of_sls {α : Type} {lo hi : Nat} {v : Value} {xs : List (List Value)} (h : SlS 1 lo hi w v xs) (f : α → Value) (Q : α → Prop) (hx : ∀ c ∈ xs, ∃ y, c = [f y] ∧ Q y) : ∃ l : List α, Sl lo hi w v (l.map f) ∧ ∀ y ∈ l, Q y := by
  obtain ⟨l, hl, hq⟩ : ∃ l : List α, xs = l.map (fun y => [f y]) ∧ ∀ y ∈ l, Q y := by
    clear h
    induction xs with
    | nil => exact ⟨[], rfl, fun y hy => by cases hy⟩
    | cons c xs ih =>
      obtain ⟨l, h1, h2⟩ := ih (fun c hc => hx c (List.mem_cons_of_mem _ hc))
      obtain ⟨y, h3, h4⟩ := hx c (List.mem_cons_self ..)
      exact ⟨y :: l, by rw [h1, h3]; rfl, fun z hz => by rcases List.mem_cons.1 hz with rfl | hz; exact h4; exact h2 z hz⟩
  refine ⟨l, ?_, hq⟩
  subst hl
  rcases h with ⟨a, cap, h1, h2⟩ | ⟨b, off, cap, h1, h2, h3, h4, h5, h6, h7⟩
  · exact Or.inl ⟨a, cap, h1, by rw [List.map_eq_nil_iff] at h2; rw [h2]; rfl⟩
  · refine Or.inr ⟨b, off, cap, by simpa using h1, by simpa using h2, h3, h4, h5, h6, fun i hi => ?_⟩
    have hi' : i < l.length := by simpa using hi
    have := (h7 i (by simpa using hi')).2 0 (by omega)
    simp only [Nat.mul_one, Nat.add_zero, List.getElem_map, List.getElem?_cons_zero] at this
    rw [this]
    simp [hi']
theorem trod_ints_cell {P : Program} {t e : TypeId} {k : IntKind} {cs : List Value} (ht : P.underlying t = some (.slice e)) (he : P.underlying e = some (.int k)) (hc : P.cellsOf e = 1) (h : DataW.trod enc P w base sp held n t cs = some x) :
    ∃ (v : Value) (l : List Int), cs = [v] ∧ Sl 0 w.heap.size w v (l.map (Value.int k)) ∧ ∀ m ∈ l, (Lit.int k m).wf = true := by
  obtain ⟨v, xs, h1, h2, h3⟩ := trod_slice_cells ht hc (by omega) h
  obtain ⟨l, h4, h5⟩ := sl_of_sls h2 (Value.int k) (fun m => (Lit.int k m).wf = true) (fun c hc => by
    obtain ⟨m, y, hy⟩ := h3 c hc
    exact trod_int_cell he hy)
  exact ⟨v, l, h1, h4, h5⟩
end
end Go.Proofs.YtagmlemlagbfkaaGreatDoor
namespace Go.Proofs.YtagmlemlagbfkaaGreatDoor
open Go.RowKit
set_option linter.unusedVariables false
set_option linter.unusedSimpArgs false

theorem flat_at {α : Type} {sz : Nat} : ∀ (xs : List (List α)) (i j : Nat), (∀ x ∈ xs, x.length = sz) → j < sz → ∀ h : i < xs.length, xs.flatten[i * sz + j]? = xs[i][j]? := by
  intro xs
  induction xs with
  | nil => intro i j _ _ h; simp at h
  | cons x xs ih =>
    intro i j hx hj h
    have h0 := hx x (List.mem_cons_self ..)
    rw [List.flatten_cons]
    cases i with
    | zero => rw [List.getElem?_append_left (by omega)]; simp
    | succ i =>
      rw [List.getElem?_append_right (by rw [h0, Nat.succ_mul]; omega), h0, show (i + 1) * sz + j - sz = i * sz + j by rw [Nat.succ_mul]; omega]
      rw [ih i j (fun y hy => hx y (List.mem_cons_of_mem _ hy)) hj (by simpa using h)]
      simp
theorem SlS.of_owns {base sz : Nat} {e : TypeId} {w : World} {v : Value} {n : Nat} {xs : List (List Value)} (h : w.ownsRow base e sz v n xs.flatten) (hn : n = xs.length) (hz : 0 < sz) (hx : ∀ x ∈ xs, x.length = sz) : SlS sz base w.heap.size w v xs := by
  obtain ⟨h1, h2⟩ := h
  rcases h2 with ⟨rfl, rfl⟩ | ⟨g, cap, cur, rfl, hb, hg, hc, hm, hs, ht⟩
  · exact Or.inl ⟨_, _, rfl, List.length_eq_zero_iff.1 hn.symm⟩
  · subst hn
    refine Or.inr ⟨g, 0, cap, rfl, hc, hm, hb, lt_of_block hg, lt_of_block hg, fun i hi => ⟨hx _ (List.getElem_mem hi), fun j hj => ?_⟩⟩
    rw [cells_cell hg, Nat.zero_add, ← flat_at xs i j hx hj hi, ← ht, List.getElem?_take, if_pos]
    · simp
    · have : (i + 1) * sz ≤ xs.length * sz := Nat.mul_le_mul_right _ hi
      rw [Nat.succ_mul] at this; omega
theorem owns_base {base base' sz : Nat} {e : TypeId} {w : World} {v : Value} {n : Nat} {xs : List Value} (h : w.ownsRow base e sz v n xs) (hb : base' ≤ base) : w.ownsRow base' e sz v n xs := by
  obtain ⟨h1, h2⟩ := h
  refine ⟨h1, ?_⟩
  rcases h2 with h2 | ⟨g, cap, cur, hv, hb2, r⟩
  · exact Or.inl h2
  · exact Or.inr ⟨g, cap, cur, hv, Nat.le_trans hb hb2, r⟩
/-- 'out = append(out, xs...)', both of them the call's own, xs nil or not. -/
theorem wpList_cat {P : Program} {w : World} {ops : Array Oper} {rest : List Oper} {o : Oper} {a : Act} {Q : Exit → Act → World → Prop} (hgd : o.guard = none) (s x : Operand) (t : TypeId)
    (ho : o.op = .call { callee := .builtin .append, args := #[s, x], argTypes := #[t, t] })
    (base base' : Nat) (e : TypeId) (z : Value) (size bytes : Nat) (ht : P.underlying t = some (.slice e)) (hinfo : (P.info? e).map (fun i => (i.zero, i.size, i.bytes)) = some (some z, size, bytes)) (hzs : z.cells.size = size) (hsz : 0 < size)
    (v vx : Value) (n m : Nat) (xs news : List Value) (hs : a.eval s = v) (hown : w.ownsRow base e size v n xs) (hx : a.eval x = vx) (hsrc : w.ownsRow base' e size vx m news)
    (h1 : ∀ u ∈ news, u.oneCell' = true) (h63 : n + m ≤ maxLen) (hbytes : (n + m) * bytes ≤ 140737488355328) (hbase : base ≤ w.heap.size)
    (h : ∀ v' w', w'.ownsRow base e size v' (n + m) (xs ++ news) → w.grownBy w' v.ownBlock → (∀ k, v.ownBlock = some k → base ≤ k ∧ k < w.heap.size) → wpList P ops Q rest (a.put o.dst v') w') : wpList P ops Q (o :: rest) a w := by
  obtain ⟨i0, hi, hz0, hz1, hz2⟩ := info_parts hinfo
  obtain ⟨hl, hsrc2⟩ := hsrc
  rcases hsrc2 with ⟨rfl, rfl⟩ | ⟨g, cap, cur, rfl, hb, hg, hc, hm, hsz2, htk⟩
  · have hnil : news = [] := List.eq_nil_of_length_eq_zero (by simpa using hl)
    subst hnil
    refine wpList_plain hgd fun K hK => ?_
    have hr : (Builtin.append_ #[t, t] o.type #[v, .slice none 0 0]).run P w = .ok v w := by
      rcases hown.2 with ⟨rfl, rfl⟩ | ⟨g, cap, cur, rfl, _, _, hnc, _⟩
      · simp [Builtin.append_, run_underlying ht, sizeOf, typeInfo, hi, Builtin.lenOf, Builtin.firstCells]
      · simp [Builtin.append_, run_underlying ht, sizeOf, typeInfo, hi, Builtin.lenOf, Builtin.firstCells, hnc, storeCells]
    unfold Oper.wp execOp
    simp only [ho, resolve, invoke, builtin, Sem.run_bind, Sem.run_pure, Result.andThen_ok, List.map_toArray, List.map_cons, List.map_nil, hs, hx, hr]
    exact hK _ _ (h v w (by simpa using hown) ⟨rfl, rfl, rfl, Nat.le_refl _, fun _ _ _ => rfl⟩ hown.lt)
  · refine wpList_append_own _ hgd s x t ho base e i0 z size bytes ht hi hz0 hz1 hz2 hzs hsz v n xs hs hown ⟨g, 0, none⟩ m cap news hx hl ?_ h1 h63 hbytes hbase fun v' w' h2 h3 _ => h v' w' h2 h3 hown.lt
    intro j u hu
    have hj : j < m * size := by
      rw [← hl]
      exact (List.getElem?_eq_some_iff.1 hu).1
    rw [add_plain, cells_cell hg, Nat.zero_add]
    rw [← htk, List.getElem?_take, if_pos hj] at hu
    simpa using hu
end Go.Proofs.YtagmlemlagbfkaaGreatDoor
namespace Go.Proofs.YtagmlemlagbfkaaGreatDoor
open Go.RowKit
set_option linter.unusedVariables false
set_option linter.unusedSimpArgs false

/-- 'out = append(out, x)' as wpList_app, with the word on the result's block. -/
theorem wpList_appL {P : Program} {w : World} {ops : Array Oper} {rest : List Oper} {o : Oper} {a : Act} {Q : Exit → Act → World → Prop} (hgd : o.guard = none) (s x : Operand) (t : TypeId)
    (ho : o.op = .call { callee := .builtin .append, args := #[s, x], argTypes := #[t, t] })
    (base : Nat) (e : TypeId) (z : Value) (size bytes : Nat) (ht : P.underlying t = some (.slice e)) (hinfo : (P.info? e).map (fun i => (i.zero, i.size, i.bytes)) = some (some z, size, bytes)) (hzs : z.cells.size = size) (hsz : 0 < size)
    (v : Value) (n : Nat) (xs : List Value) (hs : a.eval s = v) (hown : w.ownsRow base e size v n xs)
    (news : List Value) (hx : a.eval x = .slice (some ⟨w.heap.size, 0, none⟩) 1 1) (hl : news.length = size) (h1 : ∀ u ∈ news, u.oneCell' = true)
    (h63 : n + 1 ≤ maxLen) (hbytes : (n + 1) * bytes ≤ 140737488355328) (hbase : base ≤ w.heap.size) (hnG : nG ≤ base)
    (h : ∀ v' w', w'.ownsRow base e size v' (n + 1) (xs ++ news) → Upd (fun k => v.ownBlock = some k) w w' → (∀ k, v'.ownBlock = some k → v.ownBlock = some k ∨ w.heap.size ≤ k) → wpList P ops Q rest (a.put o.dst v') w') : wpList P ops Q (o :: rest) a (w.alloc (.cells news.toArray e)) := by
  obtain ⟨i0, hi, hz0, hz1, hz2⟩ := info_parts hinfo
  refine wpList_append_lies _ hgd s x t ho base e i0 z size bytes ht hi hz0 hz1 hz2 hzs hsz v n xs hs (hown.alloc _) ⟨w.heap.size, 0, none⟩ 1 1 news hx (by omega) ?_ h1 (by omega) h63 hbytes (by simp; omega) (w.heap.size + 1) (by simp) fun g cap w' h2 h3 h4 h5 => ?_
  · intro j u hu
    have hb := heap_new w (.cells news.toArray e)
    rw [add_plain, cells_cell hb, Nat.zero_add]
    simpa using hu
  · refine h _ w' h2 (((nw_alloc w _).upd _).grown h3 fun k hk => ⟨Or.inl hk, ?_⟩) fun k hk => ?_
    · have := (hown.lt k hk).1
      omega
    · obtain rfl : g = k := by simpa [Value.ownBlock] using hk
      rcases h4 with h4 | h4
      · exact Or.inl h4
      · exact Or.inr (by omega)
end Go.Proofs.YtagmlemlagbfkaaGreatDoor
namespace Go.Proofs.YtagmlemlagbfkaaGreatDoor
open Go.RowKit
set_option linter.unusedVariables false
set_option linter.unusedSimpArgs false
attribute [local irreducible] Calls

abbrev Res := (Nat → Prop) → World → Prop
/-- A thing in the blocks f: nothing else matters to it, and its blocks are from B on. -/
structure Stab (B : Nat) (P : Res) : Prop where
  upd : ∀ {f : Nat → Prop} {w w' : World} {S : Nat → Prop}, P f w → Upd S w w' → (∀ k, f k → ¬ S k) → P f w'
  lt : ∀ {f : Nat → Prop} {w : World} {k : Nat}, P f w → f k → B ≤ k ∧ k < w.heap.size
/-- The things c 0 .. c (N - 1). -/
def AtF (W : World) (N : Nat) (c : Nat → Res) (F : Nat → Prop) (f : Nat → Nat → Prop) (z : World) : Prop :=
  Nw W z ∧ (∀ i, i < N → Stab W.heap.size (c i)) ∧ (∀ i, i < N → c i (f i) z) ∧ (∀ i k, i < N → k < N → i ≠ k → ∀ j, f i j → ¬ f k j) ∧ ∀ j, F j → j < z.heap.size ∧ ∀ i, i < N → ¬ f i j
def At (W : World) (N : Nat) (c : Nat → Res) (F : Nat → Prop) (z : World) : Prop := ∃ f, AtF W N c F f z
abbrev MovesN (W : World) (F : Nat → Prop) (z z' : World) : Prop := Upd (fun k => ¬ F k ∧ W.heap.size ≤ k) z z'
def setC (c : Nat → Res) (i : Nat) (P : Res) : Nat → Res := fun k => if k = i then P else c k
theorem setC_self (c : Nat → Res) (i : Nat) (P : Res) : setC c i P i = P := by simp [setC]
theorem setC_ne (c : Nat → Res) {i k : Nat} (P : Res) (h : k ≠ i) : setC c i P k = c k := by simp [setC, h]
def setP (f : Nat → Nat → Prop) (i : Nat) (g : Nat → Prop) : Nat → Nat → Prop := fun k => if k = i then g else f k
theorem setP_pos {f : Nat → Nat → Prop} {i k : Nat} {g : Nat → Prop} (h : k = i) : setP f i g k = g := by simp [setP, h]
theorem setP_neg {f : Nat → Nat → Prop} {i k : Nat} {g : Nat → Prop} (h : ¬ k = i) : setP f i g k = f k := by simp [setP, h]
section
variable {W : World} {N : Nat} {c c' : Nat → Res} {F F' S : Nat → Prop} {z z' : World}
theorem At.nw0 (h : At W N c F z) : Nw W z := by obtain ⟨f, h⟩ := h; exact h.1
theorem At.gl (h : At W N c F z) (g : Gl W) : Gl z := g.upd h.nw0
theorem At.size (h : At W N c F z) : W.heap.size ≤ z.heap.size := h.nw0.size
theorem At.start (W : World) (c : Nat → Res) : At W 0 c (fun _ => False) W :=
  ⟨fun _ _ => False, Upd.refl _ _, fun i hi => by omega, fun i hi => by omega, fun i k hi => by omega, fun j hj => hj.elim⟩
theorem At.same (h : At W N c F z) (e : ∀ i, i < N → c' i = c i) : At W N c' F z := by
  obtain ⟨f, a, b, d, e2, k⟩ := h
  exact ⟨f, a, fun i hi => by rw [e i hi]; exact b i hi, fun i hi => by rw [e i hi]; exact d i hi, e2, k⟩
/-- What is kept is turned, and other blocks are kept from now on. -/
theorem At.upd_keep (h : At W N c F z) (u : Upd S z z') (hs : ∀ k, S k → (F k ∧ W.heap.size ≤ k) ∨ z.heap.size ≤ k) (hF : ∀ k, F' k → F k ∨ (z.heap.size ≤ k ∧ k < z'.heap.size)) : At W N c F' z' := by
  obtain ⟨f, a, b, d, e, k⟩ := h
  have hz := u.size
  have ha := a.size
  refine ⟨f, a.trans' u (fun j hj s => by rcases hs j s with t | t <;> omega), b, fun i hi => (b i hi).upd (d i hi) u (fun j hj s => ?_), e, fun j hj => ?_⟩
  · rcases hs j s with t | t
    · exact (k j t.1).2 i hi hj
    · have := ((b i hi).lt (d i hi) hj).2; omega
  · rcases hF j hj with t | t
    · exact ⟨by have := (k j t).1; omega, (k j t).2⟩
    · exact ⟨t.2, fun i hi s => by have := ((b i hi).lt (d i hi) s).2; omega⟩
theorem At.upd (h : At W N c F z) (u : Upd S z z') (hs : ∀ k, S k → (F k ∧ W.heap.size ≤ k) ∨ z.heap.size ≤ k) : At W N c F z' := h.upd_keep u hs (fun k hk => Or.inl hk)
theorem At.nw (h : At W N c F z) (u : Nw z z') : At W N c F z' := h.upd u (fun k s => s.elim)
theorem At.keep (h : At W N c F z) (u : Nw z z') (hF : ∀ k, F' k → F k ∨ (z.heap.size ≤ k ∧ k < z'.heap.size)) : At W N c F' z' := h.upd_keep u (fun k s => s.elim) hF
theorem At.less (h : At W N c F z) (hF : ∀ k, F' k → F k) : At W N c F' z := h.keep (Upd.refl _ _) (fun k hk => Or.inl (hF k hk))
/-- One more thing, in new blocks. -/
theorem At.push (h : At W N c F z) (u : Nw z z') {P : Res} (hP : Stab W.heap.size P) {f' : Nat → Prop} (hf : P f' z') (hn : ∀ j, f' j → z.heap.size ≤ j) : At W (N + 1) (setC c N P) F z' := by
  have h' := h.nw u
  have hz := u.size
  obtain ⟨f, a, b, d, e, k⟩ := h
  refine ⟨setP f N f', a.trans u, fun i hi => ?_, fun i hi => ?_, fun i l hi hl hil j hj => ?_, fun j hj => ⟨by have := (k j hj).1; omega, fun i hi => ?_⟩⟩
  · by_cases hN : i = N
    · rw [hN, setC_self]; exact hP
    · rw [setC_ne _ _ hN]; exact b i (by omega)
  · by_cases hN : i = N
    · rw [setP_pos hN, hN, setC_self]; exact hf
    · rw [setP_neg hN, setC_ne _ _ hN]; exact (b i (by omega)).upd (d i (by omega)) u (fun _ _ s => s)
  · by_cases hN : i = N
    · rw [setP_pos hN] at hj
      rw [setP_neg (fun e => hil (hN.trans e.symm))]
      exact fun s => by have := hn j hj; have := ((b l (by omega)).lt (d l (by omega)) s).2; omega
    · rw [setP_neg hN] at hj
      by_cases hN2 : l = N
      · rw [setP_pos hN2]
        exact fun s => by have := hn j s; have := ((b i (by omega)).lt (d i (by omega)) hj).2; omega
      · rw [setP_neg hN2]
        exact e i l (by omega) (by omega) hil j hj
  · by_cases hN : i = N
    · rw [setP_pos hN]; exact fun s => by have := hn j s; have := (k j hj).1; omega
    · rw [setP_neg hN]; exact (k j hj).2 i (by omega)
/-- One thing is turned. -/
theorem AtF.turn {f : Nat → Nat → Prop} (h : AtF W N c F f z) {i : Nat} (hi : i < N) {P : Res} (hP : Stab W.heap.size P) (t : ∃ f', P f' z' ∧ Upd (f i) z z' ∧ ∀ j, f' j → f i j ∨ z.heap.size ≤ j) : At W N (setC c i P) F z' ∧ MovesN W F z z' := by
  obtain ⟨a, b, d, e, k⟩ := h
  obtain ⟨f', t1, t2, t3⟩ := t
  have hz := t2.size
  have hlo : ∀ j, f i j → W.heap.size ≤ j := fun j hj => ((b i hi).lt (d i hi) hj).1
  have hno : ∀ l, l < N → l ≠ i → ∀ j, f l j → ¬ f' j := fun l hl hli j hj s => by
    rcases t3 j s with s | s
    · exact e l i hl hi hli j hj s
    · have := ((b l hl).lt (d l hl) hj).2; omega
  refine ⟨⟨setP f i f', a.trans' t2 (fun j hj s => by have := hlo j s; omega), fun l hl => ?_, fun l hl => ?_, fun l m hl hm hlm j hj => ?_, fun j hj => ⟨by have := (k j hj).1; omega, fun l hl => ?_⟩⟩, t2.mono (fun j _ s => ⟨fun q => (k j q).2 i hi s, hlo j s⟩)⟩
  · by_cases hl2 : l = i
    · rw [hl2, setC_self]; exact hP
    · rw [setC_ne _ _ hl2]; exact b l hl
  · by_cases hl2 : l = i
    · rw [setP_pos hl2, hl2, setC_self]; exact t1
    · rw [setP_neg hl2, setC_ne _ _ hl2]; exact (b l hl).upd (d l hl) t2 (fun j hj s => e l i hl hi hl2 j hj s)
  · by_cases hl2 : l = i
    · rw [setP_pos hl2] at hj
      have hm2 : m ≠ i := fun q => hlm (hl2.trans q.symm)
      rw [setP_neg hm2]
      exact fun s => hno m hm hm2 j s hj
    · rw [setP_neg hl2] at hj
      by_cases hm2 : m = i
      · rw [setP_pos hm2]; exact hno l hl hl2 j hj
      · rw [setP_neg hm2]; exact e l m hl hm hlm j hj
  · by_cases hl2 : l = i
    · rw [setP_pos hl2]
      intro s
      rcases t3 j s with s | s
      · exact (k j hj).2 i hi s
      · have := (k j hj).1; omega
    · rw [setP_neg hl2]; exact (k j hj).2 l hl
/-- Two things are turned. -/
theorem AtF.turn2 {f : Nat → Nat → Prop} (h : AtF W N c F f z) {i m : Nat} (hi : i < N) (hm : m < N) (him : i ≠ m) {P Q : Res} (hP : Stab W.heap.size P) (hQ : Stab W.heap.size Q)
    (t : ∃ f' g', P f' z' ∧ Q g' z' ∧ Upd (fun j => f i j ∨ f m j) z z' ∧ (∀ j, f' j → f i j ∨ z.heap.size ≤ j) ∧ (∀ j, g' j → f m j ∨ z.heap.size ≤ j) ∧ ∀ j, f' j → ¬ g' j) :
    At W N (setC (setC c i P) m Q) F z' ∧ MovesN W F z z' := by
  obtain ⟨a, b, d, e, k⟩ := h
  obtain ⟨f', g', t1, t2, t3, t4, t5, t6⟩ := t
  have hz := t3.size
  have hlo : ∀ j, f i j ∨ f m j → W.heap.size ≤ j := fun j hj => hj.elim (fun s => ((b i hi).lt (d i hi) s).1) (fun s => ((b m hm).lt (d m hm) s).1)
  have hnf : ∀ l, l < N → l ≠ i → ∀ j, f l j → ¬ f' j := fun l hl hli j hj s => by
    rcases t4 j s with s | s
    · exact e l i hl hi hli j hj s
    · have := ((b l hl).lt (d l hl) hj).2; omega
  have hng : ∀ l, l < N → l ≠ m → ∀ j, f l j → ¬ g' j := fun l hl hli j hj s => by
    rcases t5 j s with s | s
    · exact e l m hl hm hli j hj s
    · have := ((b l hl).lt (d l hl) hj).2; omega
  refine ⟨⟨setP (setP f i f') m g', a.trans' t3 (fun j hj s => by have := hlo j s; omega), fun l hl => ?_, fun l hl => ?_, fun l n hl hn hln j hj => ?_, fun j hj => ⟨by have := (k j hj).1; omega, fun l hl => ?_⟩⟩, t3.mono (fun j _ s => ⟨fun q => s.elim ((k j q).2 i hi) ((k j q).2 m hm), hlo j s⟩)⟩
  · by_cases hl2 : l = m
    · rw [hl2, setC_self]; exact hQ
    · rw [setC_ne _ _ hl2]
      by_cases hl3 : l = i
      · rw [hl3, setC_self]; exact hP
      · rw [setC_ne _ _ hl3]; exact b l hl
  · by_cases hl2 : l = m
    · rw [setP_pos hl2, hl2, setC_self]; exact t2
    · rw [setP_neg hl2, setC_ne _ _ hl2]
      by_cases hl3 : l = i
      · rw [setP_pos hl3, hl3, setC_self]; exact t1
      · rw [setP_neg hl3, setC_ne _ _ hl3]; exact (b l hl).upd (d l hl) t3 (fun j hj s => s.elim (e l i hl hi hl3 j hj) (e l m hl hm hl2 j hj))
  · by_cases hl2 : l = m
    · rw [setP_pos hl2] at hj
      have hn2 : n ≠ m := fun q => hln (hl2.trans q.symm)
      rw [setP_neg hn2]
      by_cases hn3 : n = i
      · rw [setP_pos hn3]; exact fun s => t6 j s hj
      · rw [setP_neg hn3]; exact fun s => hng n hn hn2 j s hj
    · rw [setP_neg hl2] at hj
      by_cases hl3 : l = i
      · rw [setP_pos hl3] at hj
        by_cases hn2 : n = m
        · rw [setP_pos hn2]; exact t6 j hj
        · rw [setP_neg hn2, setP_neg (fun q => hln (hl3.trans q.symm))]
          exact fun s => hnf n hn (fun q => hln (hl3.trans q.symm)) j s hj
      · rw [setP_neg hl3] at hj
        by_cases hn2 : n = m
        · rw [setP_pos hn2]; exact hng l hl hl2 j hj
        · rw [setP_neg hn2]
          by_cases hn3 : n = i
          · rw [setP_pos hn3]; exact hnf l hl hl3 j hj
          · rw [setP_neg hn3]; exact e l n hl hn hln j hj
  · by_cases hl2 : l = m
    · rw [setP_pos hl2]
      intro s
      rcases t5 j s with s | s
      · exact (k j hj).2 m hm s
      · have := (k j hj).1; omega
    · rw [setP_neg hl2]
      by_cases hl3 : l = i
      · rw [setP_pos hl3]
        intro s
        rcases t4 j s with s | s
        · exact (k j hj).2 i hi s
        · have := (k j hj).1; omega
      · rw [setP_neg hl3]; exact (k j hj).2 l hl
/-- A call that turns one thing. -/
theorem At.call (h : At W N c F z) {i : Nat} (hi : i < N) {P : Res} (hP : Stab W.heap.size P) {Q : Ending → Prop} {Pg : Program} {fn : FuncId} {args : Array Value}
    (k : ∀ f, c i f z → Calls Pg fn args z fun e z' => Q e ∧ ∃ f', P f' z' ∧ Upd f z z' ∧ ∀ j, f' j → f j ∨ z.heap.size ≤ j) : Calls Pg fn args z fun e z' => Q e ∧ At W N (setC c i P) F z' ∧ MovesN W F z z' := by
  obtain ⟨f, h⟩ := h
  exact (k _ (h.2.2.1 i hi)).mono fun e z' ⟨q, t⟩ => ⟨q, h.turn hi hP t⟩
/-- A call that turns one thing and reads another one. -/
theorem At.callR (h : At W N c F z) {i m : Nat} (hi : i < N) (hm : m < N) (him : i ≠ m) {P : Res} (hP : Stab W.heap.size P) {Q : Ending → Prop} {Pg : Program} {fn : FuncId} {args : Array Value}
    (k : ∀ f g, c i f z → c m g z → (∀ j, f j → ¬ g j) → Calls Pg fn args z fun e z' => Q e ∧ ∃ f', P f' z' ∧ Upd f z z' ∧ ∀ j, f' j → f j ∨ z.heap.size ≤ j) : Calls Pg fn args z fun e z' => Q e ∧ At W N (setC c i P) F z' ∧ MovesN W F z z' := by
  obtain ⟨f, h⟩ := h
  exact (k _ _ (h.2.2.1 i hi) (h.2.2.1 m hm) (h.2.2.2.1 i m hi hm him)).mono fun e z' ⟨q, t⟩ => ⟨q, h.turn hi hP t⟩
/-- A call that turns two things. -/
theorem At.call2 (h : At W N c F z) {i m : Nat} (hi : i < N) (hm : m < N) (him : i ≠ m) {P P2 : Res} (hP : Stab W.heap.size P) (hP2 : Stab W.heap.size P2) {Q : Ending → Prop} {Pg : Program} {fn : FuncId} {args : Array Value}
    (k : ∀ f g, c i f z → c m g z → (∀ j, f j → ¬ g j) → Calls Pg fn args z fun e z' => Q e ∧ ∃ f' g', P f' z' ∧ P2 g' z' ∧ Upd (fun j => f j ∨ g j) z z' ∧ (∀ j, f' j → f j ∨ z.heap.size ≤ j) ∧ (∀ j, g' j → g j ∨ z.heap.size ≤ j) ∧ ∀ j, f' j → ¬ g' j) :
    Calls Pg fn args z fun e z' => Q e ∧ At W N (setC (setC c i P) m P2) F z' ∧ MovesN W F z z' := by
  obtain ⟨f, h⟩ := h
  exact (k _ _ (h.2.2.1 i hi) (h.2.2.1 m hm) (h.2.2.2.1 i m hi hm him)).mono fun e z' ⟨q, t⟩ => ⟨q, h.turn2 hi hm him hP hP2 t⟩
/-- What a thing says is read. -/
theorem At.get (h : At W N c F z) {i : Nat} (hi : i < N) : ∃ f, c i f z := by
  obtain ⟨f, a, b, d, e, k⟩ := h
  exact ⟨f i, d i hi⟩
end
theorem own_slG {B sz : Nat} {e : TypeId} {w : World} {v : Value} {n : Nat} {xs : List Value} (h : w.ownsRow B e sz v n xs) : ∃ a cap, v = .slice a n cap := by
  rcases h.2 with ⟨h1, h2⟩ | ⟨g, cap, cur, h1, _⟩
  · exact ⟨none, 0, by rw [h1, h2]⟩
  · exact ⟨_, _, h1⟩
/-! ### Simple things -/
/-- A block that is known whole. -/
def BoxC (B : Nat) (b : Nat) (o : Obj) : Res := fun f w => w.heap[b]? = some o ∧ B ≤ b ∧ f = fun k => k = b
theorem BoxC.stab (B b : Nat) (o : Obj) : Stab B (BoxC B b o) :=
  ⟨fun {f w w' S} h u hs => ⟨u.keep h.1 (hs b (by rw [h.2.2])), h.2.1, h.2.2⟩, fun {f w k} h hk => by
    rw [h.2.2] at hk
    subst hk
    exact ⟨h.2.1, lt_of_block h.1⟩⟩
end Go.Proofs.YtagmlemlagbfkaaGreatDoor
namespace Go.Proofs.YtagmlemlagbfkaaGreatDoor.Wire
open Go.Lib
set_option linter.unusedVariables false
set_option linter.unusedSimpArgs false

/-! ### Writing -/
def intE (n : Int) : List UInt8 := itoa n ++ [59]
def numE (n : Int) : List UInt8 := if n < 0 then [] else intE n
def textE (s : List UInt8) : List UInt8 := itoa s.length ++ [58] ++ s ++ [44]
/-! ### Reading -/
/-- What a reader has left; none: it has failed. -/
abbrev St := Option (List UInt8)
/-- The int of which l is the decimal form. -/
def numOf (l : List UInt8) : Option Int :=
  match atoiAll l with
  | .ok v => if itoa v = l then some v else none
  | _ => none
def rNumber (st : St) (e : UInt8) (least : Int) : Int × St :=
  match st with
  | none => (0, none)
  | some r =>
    if indexByte (r.take 21) e < 0 then (0, none) else
    match numOf (r.take (indexByte (r.take 21) e).toNat) with
    | some n => if n < least then (0, none) else (n, some (r.drop ((indexByte (r.take 21) e).toNat + 1)))
    | none => (0, none)
def rClose (st : St) (e : UInt8) : St :=
  match st with
  | some (c :: r) => if c = e then some r else none
  | _ => none
def rNum (st : St) : Int × St := rNumber st 59 0
def rText (st : St) : List UInt8 × St :=
  match rNumber st 58 0 with
  | (n, some r) =>
    if r.length < n.toNat then ([], none) else
    match rClose (some (r.drop n.toNat)) 44 with
    | some r' => (r.take n.toNat, some r')
    | none => ([], none)
  | (_, none) => ([], none)
theorem indexByte_lt : ∀ (l : List UInt8) (c : UInt8), indexByte l c < l.length
  | [], c => by simp [indexByte]
  | b :: l, c => by
    have ih := indexByte_lt l c
    simp only [indexByte]
    split
    · simp only [List.length_cons]; omega
    · split <;> (simp only [List.length_cons]; omega)
theorem rNumber_eq (st : St) (e : UInt8) (least : Int) : rNumber st e least =
    if indexByte ((st.getD []).take 21) e < 0 then (0, none) else
    match numOf ((st.getD []).take (indexByte ((st.getD []).take 21) e).toNat) with
    | some n => if n < least then (0, none) else (n, some ((st.getD []).drop ((indexByte ((st.getD []).take 21) e).toNat + 1)))
    | none => (0, none) := by
  cases st with
  | none => rfl
  | some r => rfl
theorem rNumber_neg {st : St} {e : UInt8} {least : Int} (h : indexByte ((st.getD []).take 21) e < 0) : rNumber st e least = (0, none) := by
  rw [rNumber_eq, if_pos h]
theorem rNumber_none {st : St} {e : UInt8} {least i : Int} (hi : indexByte ((st.getD []).take 21) e = i) (h : 0 ≤ i) (hn : numOf ((st.getD []).take i.toNat) = none) : rNumber st e least = (0, none) := by
  rw [rNumber_eq, hi, if_neg (by omega), hn]
theorem rNumber_some {st : St} {e : UInt8} {least i n : Int} (hi : indexByte ((st.getD []).take 21) e = i) (h : 0 ≤ i) (hn : numOf ((st.getD []).take i.toNat) = some n) :
    rNumber st e least = if n < least then (0, none) else (n, some ((st.getD []).drop (i.toNat + 1))) := by
  rw [rNumber_eq, hi, if_neg (by omega), hn]
theorem isSome_of_index {st : St} {i : Int} {e : UInt8} (hi : indexByte ((st.getD []).take 21) e = i) (h : 0 ≤ i) : st.isNone = false := by
  cases st with
  | none => simp [indexByte] at hi; omega
  | some r => rfl
theorem numOf_none {l : List UInt8} (h : ∀ m, atoiAll l ≠ .ok m) : numOf l = none := by
  unfold numOf
  split
  · rename_i v hv; exact absurd hv (h v)
  · rfl
theorem numOf_ne {l : List UInt8} {n : Int} (h : atoiAll l = .ok n) (hn : itoa n ≠ l) : numOf l = none := by
  unfold numOf; rw [h]; exact if_neg hn
theorem numOf_eq {l : List UInt8} {n : Int} (h : atoiAll l = .ok n) (hn : itoa n = l) : numOf l = some n := by
  unfold numOf; rw [h]; exact if_pos hn
theorem numOf_i64 {l : List UInt8} {n : Int} (h : numOf l = some n) : -9223372036854775808 ≤ n ∧ n ≤ 9223372036854775807 := by
  unfold numOf at h
  split at h
  · rename_i v hv
    split at h
    · injection h with h
      subst h
      unfold atoiAll at hv
      split at hv
      · cases hv
      · dsimp only at hv
        split at hv
        · cases hv
        · cases hv
        · split at hv
          · cases hv
          · split at hv
            · cases hv
            · injection hv with hv
              split at hv <;> omega
    · cases h
  · cases h
theorem rNumber_i64 (st : St) (e : UInt8) (least : Int) : -9223372036854775808 ≤ (rNumber st e least).1 ∧ (rNumber st e least).1 ≤ 9223372036854775807 := by
  unfold rNumber
  split
  · exact ⟨by decide, by decide⟩
  · split
    · exact ⟨by decide, by decide⟩
    · split
      · rename_i n hn
        split
        · exact ⟨by decide, by decide⟩
        · exact numOf_i64 hn
      · exact ⟨by decide, by decide⟩
theorem rNumber_least (st : St) (e : UInt8) (least : Int) (h0 : least ≤ 0) : least ≤ (rNumber st e least).1 := by
  unfold rNumber
  split
  · exact h0
  · split
    · exact h0
    · split
      · split
        · exact h0
        · dsimp only; omega
      · exact h0
/-- A number that was read has left less than there was. -/
theorem rNumber_len {r r' : List UInt8} {e : UInt8} {least n : Int} (h : rNumber (some r) e least = (n, some r')) : r'.length < r.length := by
  unfold rNumber at h
  dsimp only at h
  have hl := indexByte_lt (r.take 21) e
  split at h
  · simp at h
  · split at h
    · split at h
      · simp at h
      · simp only [Prod.mk.injEq, Option.some.injEq] at h
        rw [← h.2]
        simp only [List.length_drop, List.length_take] at hl ⊢
        omega
    · simp at h
theorem rClose_no {st : St} {c : UInt8} (h : hasPrefix (st.getD []) [c] = false) : rClose st c = none := by
  match st with
  | none => rfl
  | some [] => rfl
  | some (d :: r) =>
    simp only [hasPrefix, Option.getD_some, List.isPrefixOf, Bool.and_true] at h
    simp only [rClose]
    rw [if_neg]
    rintro rfl
    simp at h
theorem rClose_yes {st : St} {c : UInt8} (h : hasPrefix (st.getD []) [c] = true) : st.isNone = false ∧ rClose st c = some (trimPrefix (st.getD []) [c]) := by
  match st with
  | none => simp [hasPrefix, List.isPrefixOf] at h
  | some [] => simp [hasPrefix, List.isPrefixOf] at h
  | some (d :: r) =>
    refine ⟨rfl, ?_⟩
    have h' := h
    simp only [hasPrefix, Option.getD_some, List.isPrefixOf, Bool.and_true, beq_iff_eq] at h'
    simp only [trimPrefix, h, if_true, rClose]
    rw [if_pos h'.symm]
    rfl
theorem trimPrefix_no {s p : List UInt8} (h : hasPrefix s p = false) : trimPrefix s p = s := by simp [trimPrefix, h]
theorem rNumber_zero {st : St} {e : UInt8} {least n : Int} (h : rNumber st e least = (n, none)) : n = 0 := by
  unfold rNumber at h
  split at h
  · simp at h; exact h.symm
  · split at h
    · simp at h; exact h.symm
    · split at h
      · split at h
        · simp at h; exact h.symm
        · simp at h
      · simp at h; exact h.symm
theorem rText_none {st : St} {n : Int} (h : rNumber st 58 0 = (n, none)) : rText st = ([], none) := by simp [rText, h]
theorem rText_far {st : St} {n : Int} {r : List UInt8} (h : rNumber st 58 0 = (n, some r)) (hn : (r.length : Int) < n) : rText st = ([], none) := by
  simp only [rText, h]; rw [if_pos (by omega)]
theorem rText_open {st : St} {n : Int} {r : List UInt8} (h : rNumber st 58 0 = (n, some r)) (hn : n ≤ r.length) (hc : rClose (some (r.drop n.toNat)) 44 = none) : rText st = ([], none) := by
  simp only [rText, h]; rw [if_neg (by omega), hc]
theorem rText_ok {st : St} {n : Int} {r r' : List UInt8} (h : rNumber st 58 0 = (n, some r)) (hn : n ≤ r.length) (hc : rClose (some (r.drop n.toNat)) 44 = some r') : rText st = (r.take n.toNat, some r') := by
  simp only [rText, h]; rw [if_neg (by omega), hc]
/-- A call leaves no more than there was. -/
theorem rNumber_le (st : St) (e : UInt8) (least : Int) : ((rNumber st e least).2.getD []).length ≤ (st.getD []).length := by
  cases st with
  | none => exact Nat.le_refl _
  | some r =>
    cases h : rNumber (some r) e least with
    | mk n s =>
      cases s with
      | none => exact Nat.zero_le _
      | some r' => have := rNumber_len h; simp only [Option.getD_some]; omega
end Go.Proofs.YtagmlemlagbfkaaGreatDoor.Wire
namespace Go.Proofs.YtagmlemlagbfkaaGreatDoor.Wire
open Go.Lib Go.RowKit
set_option linter.unusedVariables false
set_option linter.unusedSimpArgs false

theorem parse_append : ∀ (l r : List UInt8) (a b : Nat), parseUint10 a l = .ok b → parseUint10 a (l ++ r) = parseUint10 b r
  | [], r, a, b, h => by simp only [parseUint10] at h; injection h with h; rw [h]; rfl
  | c :: l, r, a, b, h => by
    simp only [List.cons_append, parseUint10] at h ⊢
    split at h
    · rename_i h1
      rw [if_pos h1]
      split at h
      · cases h
      · rename_i h2
        rw [if_neg h2]
        split at h
        · cases h
        · rename_i h3
          rw [if_neg h3]
          exact parse_append l r _ b h
    · cases h
theorem digit_toNat {d : Nat} (h : d < 10) : (UInt8.ofNat (48 + d)).toNat = 48 + d := by
  simp; omega
theorem decDigits_step' {u : Nat} (h : ¬ u < 10) : decDigits u = decDigits (u / 10) ++ [UInt8.ofNat (48 + u % 10)] := by
  conv => lhs; rw [decDigits, dif_neg h]
theorem parse_decDigits (k : Nat) : ∀ u, u < k → u ≤ 9223372036854775808 → parseUint10 0 (decDigits u) = .ok u := by
  induction k with
  | zero => intro u h; omega
  | succ k ih =>
    intro u h hb
    by_cases h10 : u < 10
    · rw [decDigits_one h10]
      simp only [parseUint10, digit_toNat h10]
      rw [if_pos (by omega), if_neg (by omega), if_neg (by omega)]
      congr 1; omega
    · rw [decDigits_step' h10, parse_append _ _ _ _ (ih (u / 10) (by omega) (by omega))]
      have hd : u % 10 < 10 := by omega
      simp only [parseUint10, digit_toNat hd]
      rw [if_pos (by omega), if_neg (by omega), if_neg (by omega)]
      congr 1; omega
theorem decDigits_digits (k : Nat) : ∀ u, u < k → ∀ c ∈ decDigits u, 48 ≤ c.toNat ∧ c.toNat ≤ 57 := by
  induction k with
  | zero => intro u h; omega
  | succ k ih =>
    intro u h c hc
    by_cases h10 : u < 10
    · rw [decDigits_one h10, List.mem_singleton] at hc
      rw [hc, digit_toNat h10]; omega
    · rw [decDigits_step' h10, List.mem_append] at hc
      rcases hc with hc | hc
      · exact ih (u / 10) (by omega) c hc
      · rw [List.mem_singleton] at hc
        rw [hc, digit_toNat (by omega)]; omega
theorem decDigits_ne (u : Nat) : decDigits u ≠ [] := by
  rw [decDigits]; split <;> simp
theorem atoiAll_neg {r : List UInt8} {u : Nat} (h : parseMag r = .ok u) (hu : u ≤ 9223372036854775808) : atoiAll (45 :: r) = .ok (-(u : Int)) := by
  have e : (if (45 : UInt8).toNat = 43 ∨ (45 : UInt8).toNat = 45 then r else 45 :: r) = r := if_pos (by decide)
  unfold atoiAll
  simp only [e, h]
  rw [if_neg (by simp), if_neg (by omega), if_pos (by decide)]
theorem atoiAll_pos {c : UInt8} {r : List UInt8} {u : Nat} (hc : 48 ≤ c.toNat) (h : parseMag (c :: r) = .ok u) (hu : u < 9223372036854775808) : atoiAll (c :: r) = .ok (u : Int) := by
  have e : (if c.toNat = 43 ∨ c.toNat = 45 then r else c :: r) = c :: r := if_neg (by omega)
  unfold atoiAll
  simp only [e, h]
  rw [if_neg (by omega), if_neg (by omega), if_neg (by omega)]
theorem atoi_itoa {v : Int} (h0 : -9223372036854775808 ≤ v) (h1 : v ≤ 9223372036854775807) : atoiAll (itoa v) = .ok v := by
  by_cases hn : v < 0
  · have hp := parse_decDigits (v.natAbs + 1) v.natAbs (by omega) (by omega)
    have hm : parseMag (decDigits v.natAbs) = .ok v.natAbs := by unfold parseMag; rw [if_neg (decDigits_ne _), hp]
    rw [show itoa v = 45 :: decDigits v.natAbs by simp [itoa, hn], atoiAll_neg hm (by omega)]
    congr 1; omega
  · have hp := parse_decDigits (v.toNat + 1) v.toNat (by omega) (by omega)
    have hm : parseMag (decDigits v.toNat) = .ok v.toNat := by unfold parseMag; rw [if_neg (decDigits_ne _), hp]
    have hd := decDigits_digits (v.toNat + 1) v.toNat (by omega)
    rw [show itoa v = decDigits v.toNat by simp [itoa, hn]]
    cases hl : decDigits v.toNat with
    | nil => exact absurd hl (decDigits_ne _)
    | cons c r =>
      rw [hl] at hm hd
      rw [atoiAll_pos (hd c (by simp)).1 hm (by omega)]
      congr 1; omega
theorem numOf_itoa {v : Int} (h0 : -9223372036854775808 ≤ v) (h1 : v ≤ 9223372036854775807) : numOf (itoa v) = some v := numOf_eq (atoi_itoa h0 h1) rfl
theorem numOf_some {l : List UInt8} {v : Int} (h : numOf l = some v) : itoa v = l ∧ -9223372036854775808 ≤ v ∧ v ≤ 9223372036854775807 := by
  refine ⟨?_, numOf_i64 h⟩
  unfold numOf at h
  split at h
  · split at h
    · injection h with h; subst h; assumption
    · cases h
  · cases h

/-! ### The reference's way -/
def backGo (acc : Int) (i : Nat) : List UInt8 → Option Int
  | [] => some acc
  | c :: r => if c.toNat < 48 ∨ 57 < c.toNat ∨ 20 < i then none else backGo (wrap64 (wrap64 (10 * acc) - ((c.toNat : Int) - 48))) (i + 1) r
def backFrom (l : List UInt8) : Nat := if l.head? = some 45 then 1 else 0
theorem backGo_append : ∀ (l r : List UInt8) (a : Int) (i : Nat), backGo a i (l ++ r) = match backGo a i l with | some b => backGo b (i + l.length) r | none => none
  | [], r, a, i => rfl
  | c :: l, r, a, i => by
    simp only [List.cons_append, backGo]
    split
    · rfl
    · rw [backGo_append l r]; simp [Nat.add_assoc, Nat.add_comm 1]
theorem w64 {n : Int} (h : -9223372036854775808 ≤ n ∧ n ≤ 9223372036854775807) : wrap64 n = n := by unfold wrap64; omega
theorem backGo_dec (k : Nat) : ∀ u, u < k → u ≤ 9223372036854775808 → ∀ i, i + (decDigits u).length ≤ 21 → backGo 0 i (decDigits u) = some (-(u : Int)) := by
  induction k with
  | zero => intro u h; omega
  | succ k ih =>
    intro u h hb i hi
    by_cases h10 : u < 10
    · rw [decDigits_one h10] at hi ⊢
      simp only [backGo, digit_toNat h10]
      simp only [List.length_cons, List.length_nil] at hi
      rw [if_neg (by omega), w64 (n := 10 * 0) (by omega), w64 (by omega)]
      congr 1; omega
    · rw [decDigits_step' h10] at hi ⊢
      simp only [List.length_append, List.length_cons, List.length_nil] at hi
      rw [backGo_append, ih (u / 10) (by omega) (by omega) i (by omega)]
      simp only [backGo, digit_toNat (show u % 10 < 10 by omega)]
      rw [if_neg (by omega), w64 (n := 10 * _) (by omega), w64 (by omega)]
      congr 1; omega
theorem back_itoa {v : Int} (h0 : -9223372036854775808 ≤ v) (h1 : v ≤ 9223372036854775807) (hlen : (itoa v).length ≤ 21) :
    ∃ a, backGo 0 (backFrom (itoa v)) ((itoa v).drop (backFrom (itoa v))) = some a ∧ (if backFrom (itoa v) = 0 then wrap64 (-a) else a) = v := by
  by_cases hn : v < 0
  · have e : itoa v = 45 :: decDigits v.natAbs := by simp [itoa, hn]
    have hf : backFrom (itoa v) = 1 := by rw [e]; rfl
    have hl : 1 + (decDigits v.natAbs).length ≤ 21 := by rw [e] at hlen; simp only [List.length_cons] at hlen; omega
    rw [hf, e]
    refine ⟨_, backGo_dec (v.natAbs + 1) v.natAbs (by omega) (by omega) 1 hl, ?_⟩
    rw [if_neg (by decide)]; omega
  · have e : itoa v = decDigits v.toNat := by simp [itoa, hn]
    have hf : backFrom (itoa v) = 0 := by
      rw [e]
      unfold backFrom
      cases hl : decDigits v.toNat with
      | nil => rfl
      | cons c r =>
        have hc := decDigits_digits (v.toNat + 1) v.toNat (by omega) c (by rw [hl]; simp)
        rw [if_neg]
        intro h
        simp only [List.head?_cons, Option.some.injEq] at h
        rw [h] at hc
        simp at hc
    have hl : 0 + (decDigits v.toNat).length ≤ 21 := by rw [e] at hlen; omega
    rw [hf, e]
    refine ⟨_, backGo_dec (v.toNat + 1) v.toNat (by omega) (by omega) 0 hl, ?_⟩
    rw [if_pos rfl, w64 (by omega)]; omega
theorem back_none {l : List UInt8} (h : backGo 0 (backFrom l) (l.drop (backFrom l)) = none) (hlen : ∀ v, -9223372036854775808 ≤ v → v ≤ 9223372036854775807 → (itoa v).length ≤ 21) : numOf l = none := by
  cases hx : numOf l with
  | none => rfl
  | some v =>
    obtain ⟨e, h0, h1⟩ := numOf_some hx
    obtain ⟨a, ha, _⟩ := back_itoa h0 h1 (hlen v h0 h1)
    rw [e, h] at ha
    cases ha
theorem back_some {l : List UInt8} {a n : Int} (h : backGo 0 (backFrom l) (l.drop (backFrom l)) = some a) (hn : (if backFrom l = 0 then wrap64 (-a) else a) = n) (hi : -9223372036854775808 ≤ n ∧ n ≤ 9223372036854775807)
    (hlen : ∀ v, -9223372036854775808 ≤ v → v ≤ 9223372036854775807 → (itoa v).length ≤ 21) : numOf l = if itoa n = l then some n else none := by
  split
  · rename_i e
    rw [← e]; exact numOf_itoa hi.1 hi.2
  · rename_i e
    cases hx : numOf l with
    | none => rfl
    | some v =>
      obtain ⟨e', h0, h1⟩ := numOf_some hx
      obtain ⟨b, hb, hb'⟩ := back_itoa h0 h1 (hlen v h0 h1)
      rw [e', h] at hb
      injection hb with hb
      rw [e', ← hb, hn] at hb'
      rw [hb', e'] at e
      exact absurd rfl e
/-! ### Where a byte stands -/
def rInt' (st : St) (c : UInt8) : Int × St := rNumber st c (-9223372036854775808)
theorem indexByte_at : ∀ (l : List UInt8) (c : UInt8) (k : Nat), (∀ x ∈ l.take k, x ≠ c) → l[k]? = some c → indexByte l c = k
  | [], c, k, _, h => by simp at h
  | b :: l, c, 0, _, h => by
    simp at h; subst h; simp [indexByte]
  | b :: l, c, k + 1, h0, h => by
    have hb : b ≠ c := h0 b (by simp)
    have ih := indexByte_at l c k (fun x hx => h0 x (by simp [hx])) (by simpa using h)
    simp only [indexByte]
    rw [if_neg (by simpa using hb), ih, if_neg (by simp)]
    omega
theorem indexByte_none : ∀ (l : List UInt8) (c : UInt8), (∀ x ∈ l, x ≠ c) → indexByte l c = -1
  | [], c, _ => rfl
  | b :: l, c, h => by
    have hb : b ≠ c := h b (by simp)
    have ih := indexByte_none l c (fun x hx => h x (by simp [hx]))
    simp only [indexByte]
    rw [if_neg (by simpa using hb), ih, if_pos (by simp)]
theorem nDigits_le : ∀ (k u : Nat), u < 10 ^ (k + 1) → nDigits u ≤ k + 1
  | 0, u, h => by rw [nDigits_small (by simpa using h)]; exact Nat.le_refl _
  | k + 1, u, h => by
    by_cases h10 : u < 10
    · rw [nDigits_small h10]; omega
    · rw [nDigits_big h10]
      have := nDigits_le k (u / 10) (by rw [Nat.pow_succ] at h; omega)
      omega
theorem itoa_le20 {v : Int} (h0 : -9223372036854775808 ≤ v) (h1 : v ≤ 9223372036854775807) : (itoa v).length ≤ 20 := by
  unfold itoa
  split
  · have := nDigits_le 18 v.natAbs (by omega)
    simp only [List.length_cons, decDigits_length]; omega
  · have := nDigits_le 18 v.toNat (by omega)
    simp only [decDigits_length]; omega
theorem numOf_long {l : List UInt8} (h : 20 < l.length) : numOf l = none := by
  cases hx : numOf l with
  | none => rfl
  | some v =>
    obtain ⟨e, h0, h1⟩ := numOf_some hx
    have := itoa_le20 h0 h1
    rw [e] at this
    omega
theorem rNumber_min {st : St} {e : UInt8} {least : Int} (h : least ≤ -9223372036854775808) : rNumber st e least =
    if indexByte ((st.getD []).take 21) e < 0 then (0, none) else
    match numOf ((st.getD []).take (indexByte ((st.getD []).take 21) e).toNat) with
    | some n => (n, some ((st.getD []).drop ((indexByte ((st.getD []).take 21) e).toNat + 1)))
    | none => (0, none) := by
  rw [rNumber_eq]
  split
  · rfl
  · cases hx : numOf ((st.getD []).take (indexByte ((st.getD []).take 21) e).toNat) with
    | none => rfl
    | some n =>
      have := numOf_i64 hx
      simp only []
      rw [if_neg (by omega)]
/-- No end within the first 21 bytes. -/
theorem ahead_no {st : St} {c : UInt8} (h : ∀ x ∈ (st.getD []).take 21, x ≠ c) : rInt' st c = (0, none) := by
  unfold rInt'
  rw [rNumber_min (Int.le_refl _), indexByte_none _ _ h, if_pos (by decide)]
theorem ahead_at {st : St} {c : UInt8} {k : Nat} (hk : k < 21) (h : ∀ x ∈ (st.getD []).take k, x ≠ c) (hc : (st.getD [])[k]? = some c) :
    rInt' st c = match numOf ((st.getD []).take k) with | some n => (n, some ((st.getD []).drop (k + 1))) | none => (0, none) := by
  have e : indexByte ((st.getD []).take 21) c = k := indexByte_at _ _ _ (by rw [List.take_take, Nat.min_eq_left (by omega)]; exact h) (by rw [List.getElem?_take, if_pos hk]; exact hc)
  unfold rInt'
  rw [rNumber_min (Int.le_refl _), e, if_neg (by omega)]
  simp
theorem rNumber_zero_eq (st : St) (c : UInt8) : rNumber st c 0 = if (rInt' st c).1 < 0 then (0, none) else rInt' st c := by
  unfold rInt'
  rw [rNumber_min (Int.le_refl _), rNumber_eq]
  split
  · rfl
  · cases hx : numOf ((st.getD []).take (indexByte ((st.getD []).take 21) c).toNat) with
    | none => rfl
    | some n => rfl
end Go.Proofs.YtagmlemlagbfkaaGreatDoor.Wire
namespace Go.Proofs.YtagmlemlagbfkaaGreatDoor.Wire
open Go.Lib Go.RowKit
set_option linter.unusedVariables false
set_option linter.unusedSimpArgs false
end Go.Proofs.YtagmlemlagbfkaaGreatDoor.Wire
namespace Go.Proofs.YtagmlemlagbfkaaGreatDoor.Wire
open Go.Lib Go.RowKit
set_option linter.unusedVariables false
set_option linter.unusedSimpArgs false

/-! ### What was read is the encoding -/
theorem indexByte_get : ∀ (l : List UInt8) (c : UInt8), 0 ≤ indexByte l c → l[(indexByte l c).toNat]? = some c
  | [], c, h => by simp [indexByte] at h
  | b :: l, c, h => by
    simp only [indexByte] at h ⊢
    split
    · rename_i hb
      have : b = c := by simpa using hb
      simp [this]
    · rename_i hb
      rw [if_neg hb] at h
      split at h
      · omega
      · rename_i h1
        have h1' : indexByte l c ≠ -1 := by simpa using h1
        rw [if_neg h1]
        have ih := indexByte_get l c (by have := indexByte_ge l c; omega)
        have e : (indexByte l c + 1).toNat = (indexByte l c).toNat + 1 := by have := indexByte_ge l c; omega
        rw [e, List.getElem?_cons_succ]
        exact ih
theorem rNumber_inv {r r' : List UInt8} {e : UInt8} {least n : Int} (h : rNumber (some r) e least = (n, some r')) :
    r = itoa n ++ e :: r' ∧ least ≤ n ∧ -9223372036854775808 ≤ n ∧ n ≤ 9223372036854775807 := by
  unfold rNumber at h
  dsimp only at h
  split at h
  · simp at h
  · rename_i hi
    split at h
    · rename_i m hm
      split at h
      · simp at h
      · rename_i hl
        simp only [Prod.mk.injEq, Option.some.injEq] at h
        obtain ⟨rfl, rfl⟩ := h
        obtain ⟨e1, h0, h1⟩ := numOf_some hm
        refine ⟨?_, by omega, h0, h1⟩
        have hlt := indexByte_lt (r.take 21) e
        have hg := indexByte_get (r.take 21) e (by omega)
        generalize (indexByte (r.take 21) e).toNat = i at *
        rw [List.getElem?_take] at hg
        split at hg
        · have hil : i < r.length := by
            rcases Nat.lt_or_ge i r.length with h' | h'
            · exact h'
            · rw [List.getElem?_eq_none h'] at hg; cases hg
          rw [e1, ← List.take_append_drop i r]
          congr 1
          · simp
          · rw [List.take_append_drop, List.drop_eq_getElem_cons hil]
            rw [List.getElem?_eq_getElem hil] at hg
            injection hg with hg
            rw [hg]
        · cases hg
    · simp at h
theorem rClose_inv {r r' : List UInt8} {c : UInt8} (h : rClose (some r) c = some r') : r = c :: r' := by
  cases r with
  | nil => simp [rClose] at h
  | cons d r =>
    simp only [rClose] at h
    split at h
    · rename_i hd; injection h with h; rw [hd, h]
    · cases h
theorem rNum_inv {r r' : List UInt8} {n : Int} (h : rNum (some r) = (n, some r')) : r = numE n ++ r' := by
  obtain ⟨e, h0, _⟩ := rNumber_inv h
  rw [e, numE, if_neg (by omega), intE]; simp
theorem rText_inv {r r' t : List UInt8} (h : rText (some r) = (t, some r')) : r = textE t ++ r' := by
  cases hq : rNumber (some r) 58 0 with
  | mk n s =>
    cases s with
    | none => rw [rText_none hq] at h; simp at h
    | some r1 =>
      obtain ⟨e, h0, _⟩ := rNumber_inv hq
      by_cases hn : n ≤ r1.length
      · cases hc : rClose (some (r1.drop n.toNat)) 44 with
        | none => rw [rText_open hq hn hc] at h; simp at h
        | some r2 =>
          rw [rText_ok hq hn hc] at h
          simp only [Prod.mk.injEq, Option.some.injEq] at h
          obtain ⟨rfl, rfl⟩ := h
          have hd := rClose_inv hc
          have hlen : (r1.take n.toNat).length = n.toNat := by rw [List.length_take]; omega
          rw [e, textE, hlen, show ((n.toNat : Nat) : Int) = n by omega]
          conv => lhs; rw [← List.take_append_drop n.toNat r1, hd]
          simp
      · rw [rText_far hq (by omega)] at h; simp at h
theorem rText_fail {st : St} (h : (rText st).2 = none) : (rText st).1 = [] := by
  cases hq : rNumber st 58 0 with
  | mk n s =>
    cases s with
    | none => rw [rText_none hq]
    | some r =>
      by_cases hn : n ≤ r.length
      · cases hc : rClose (some (r.drop n.toNat)) 44 with
        | none => rw [rText_open hq hn hc]
        | some r' => rw [rText_ok hq hn hc] at h; simp at h
      · rw [rText_far hq (by omega)]
end Go.Proofs.YtagmlemlagbfkaaGreatDoor.Wire
namespace Go.Proofs.YtagmlemlagbfkaaGreatDoor.Wire
open Go.Lib Go.RowKit
set_option linter.unusedVariables false
set_option linter.unusedSimpArgs false

def Int64 (n : Int) : Prop := -9223372036854775808 ≤ n ∧ n ≤ 9223372036854775807
theorem itoa_chars {n : Int} {c : UInt8} (h : c ∈ itoa n) : c.toNat = 45 ∨ (48 ≤ c.toNat ∧ c.toNat ≤ 57) := by
  unfold itoa at h
  split at h
  · rcases List.mem_cons.1 h with rfl | h
    · exact Or.inl rfl
    · exact Or.inr (decDigits_digits _ _ (Nat.lt_succ_self _) c h)
  · exact Or.inr (decDigits_digits _ _ (Nat.lt_succ_self _) c h)
theorem rNumber_back {n least : Int} {e : UInt8} {r : List UInt8} (h : Int64 n) (hl : least ≤ n) (he : 58 ≤ e.toNat) : rNumber (some (itoa n ++ e :: r)) e least = (n, some r) := by
  have h20 := itoa_le20 h.1 h.2
  have hne : ∀ x ∈ itoa n, x ≠ e := fun x hx heq => by
    have := itoa_chars hx
    rw [heq] at this; omega
  have hi : indexByte ((itoa n ++ e :: r).take 21) e = (itoa n).length := by
    refine indexByte_at _ _ _ ?_ ?_
    · intro x hx
      rw [List.take_take, Nat.min_eq_left (by omega), List.take_left'] at hx
      · exact hne x hx
      · rfl
    · rw [List.getElem?_take, if_pos (by omega), List.getElem?_append_right (Nat.le_refl _)]; simp
  simp only [rNumber, hi]
  rw [if_neg (by omega)]
  have ht : (itoa n ++ e :: r).take (((itoa n).length : Int)).toNat = itoa n := by simp
  rw [ht, numOf_itoa h.1 h.2]
  simp only []
  rw [if_neg (by omega)]
  simp
theorem rNum_back {n : Int} {r : List UInt8} (h : Int64 n) (h0 : 0 ≤ n) : rNum (some (numE n ++ r)) = (n, some r) := by
  have e : numE n ++ r = itoa n ++ 59 :: r := by rw [numE, if_neg (by omega), intE]; simp
  rw [e]; exact rNumber_back h h0 (by decide)
theorem rText_back {s r : List UInt8} (h : s.length ≤ 9223372036854775807) : rText (some (textE s ++ r)) = (s, some r) := by
  have e : textE s ++ r = itoa (s.length : Int) ++ 58 :: (s ++ 44 :: r) := by rw [textE]; simp
  have hq := rNumber_back (n := s.length) (least := 0) (e := 58) (r := s ++ 44 :: r) ⟨by omega, by omega⟩ (by omega) (by decide)
  rw [e, rText_ok (r' := r) hq (by simp; omega) (by simp [rClose])]
  simp
end Go.Proofs.YtagmlemlagbfkaaGreatDoor.Wire
namespace Go.Proofs.YtagmlemlagbfkaaGreatDoor.Cl
open Go.Lib Go.RowKit
open Wire (St rNum rText numE textE)
set_option linter.unusedVariables false
set_option linter.unusedSimpArgs false

structure Clm where
  kind : Int
  n : Int
  time : Int
  text : List UInt8
deriving DecidableEq
def zero : Clm := ⟨0, 0, 0, []⟩
/-- The key with which the text of an entry begins. -/
def key (t : List UInt8) : List UInt8 × Bool := match rText (some t) with
  | (k, some _) => (k, true)
  | (_, none) => ([], false)
def within (n a b : Int) : Bool := decide (a ≤ n) && decide (n ≤ b)
def right (c : Clm) : Bool :=
  if c.kind = 0 then within c.n 0 199999 && decide (c.time = 0) && decide (c.text.length ≤ 20000) && (key c.text).2
  else if c.kind = 1 then within c.n 0 200000 && within c.time 0 1073741824 && decide (c.text = [])
  else if c.kind = 2 then within c.n 0 200000 && decide (c.time = 0) && decide (c.text.length ≤ 20000)
  else if c.kind = 3 then within c.n 0 1073741824 && decide (c.time = 0) && decide (c.text.length ≤ 20000)
  else if c.kind = 4 then within c.n 0 1073741824 && within c.time 0 1073741824 && decide (c.text.length ≤ 20000)
  else false
theorem right_bounds {c : Clm} (h : right c = true) : 0 ≤ c.kind ∧ c.kind ≤ 4 ∧ 0 ≤ c.n ∧ c.n ≤ 1073741824 ∧ 0 ≤ c.time ∧ c.time ≤ 1073741824 ∧ c.text.length ≤ 20000 := by
  unfold right within at h
  (repeat' split at h) <;> first | (cases h; done) | simp only [Bool.and_eq_true, decide_eq_true_eq] at h
  · omega
  · have h2 : c.text.length = 0 := by rw [h.2]; rfl
    omega
  · omega
  · omega
  · omega
def enc (c : Clm) : List UInt8 := numE c.kind ++ (numE c.n ++ (numE c.time ++ textE c.text))
def text (c : Clm) : List UInt8 := if right c then enc c else []
/-- The four parts, one after the other. -/
def parts (st : St) : Clm × St :=
  (⟨(rNum st).1, (rNum (rNum st).2).1, (rNum (rNum (rNum st).2).2).1, (rText (rNum (rNum (rNum st).2).2).2).1⟩, (rText (rNum (rNum (rNum st).2).2).2).2)
def read (s : List UInt8) : Clm × Bool := if (parts (some s)).2 = some [] ∧ right (parts (some s)).1 = true then ((parts (some s)).1, true) else (zero, false)

theorem parts_back {c : Clm} {r : List UInt8} (h : right c = true) : parts (some (enc c ++ r)) = (c, some r) := by
  obtain ⟨h1, h2, h3, h4, h5, h6, h7⟩ := right_bounds h
  have e : enc c ++ r = numE c.kind ++ (numE c.n ++ (numE c.time ++ (textE c.text ++ r))) := by simp only [enc, List.append_assoc]
  have a1 := Wire.rNum_back (n := c.kind) (r := numE c.n ++ (numE c.time ++ (textE c.text ++ r))) (by unfold Wire.Int64; omega) h1
  have a2 := Wire.rNum_back (n := c.n) (r := numE c.time ++ (textE c.text ++ r)) (by unfold Wire.Int64; omega) h3
  have a3 := Wire.rNum_back (n := c.time) (r := textE c.text ++ r) (by unfold Wire.Int64; omega) h5
  have a4 := Wire.rText_back (s := c.text) (r := r) (by omega)
  rw [e]
  simp only [parts, a1, a2, a3, a4]
theorem rNum_none : rNum none = (0, none) := by rfl
theorem rText_none' : rText none = ([], none) := by rfl
theorem parts_inv {s r : List UInt8} {c : Clm} (h : parts (some s) = (c, some r)) : s = enc c ++ r := by
  cases h1 : rNum (some s) with
  | mk k s1 =>
  cases s1 with
  | none =>
    exfalso
    have := congrArg Prod.snd h
    simp only [parts, h1, rNum_none, rText_none'] at this
    cases this
  | some r1 =>
  cases h2 : rNum (some r1) with
  | mk n s2 =>
  cases s2 with
  | none =>
    exfalso
    have := congrArg Prod.snd h
    simp only [parts, h1, h2, rNum_none, rText_none'] at this
    cases this
  | some r2 =>
  cases h3 : rNum (some r2) with
  | mk tm s3 =>
  cases s3 with
  | none =>
    exfalso
    have := congrArg Prod.snd h
    simp only [parts, h1, h2, h3, rText_none'] at this
    cases this
  | some r3 =>
  cases h4 : rText (some r3) with
  | mk t s4 =>
  have hc := congrArg Prod.fst h
  have hr := congrArg Prod.snd h
  simp only [parts, h1, h2, h3, h4] at hc hr
  subst hc hr
  rw [Wire.rNum_inv h1, Wire.rNum_inv h2, Wire.rNum_inv h3, Wire.rText_inv h4]
  simp only [enc, List.append_assoc]
theorem enc_ne (c : Clm) : enc c ≠ [] := by
  intro h
  have := congrArg List.length h
  simp only [enc, textE, List.length_append, List.length_cons, List.length_nil] at this
  omega
theorem read_text {c : Clm} (h : right c = true) : read (text c) = (c, true) := by
  have hp := parts_back (r := []) h
  rw [List.append_nil] at hp
  rw [text, if_pos h, read, hp, if_pos ⟨rfl, h⟩]
theorem read_inv {s : List UInt8} {c : Clm} (h : read s = (c, true)) : right c = true ∧ text c = s := by
  unfold read at h
  split at h
  · rename_i hh
    obtain ⟨h1, h2⟩ := hh
    simp only [Prod.mk.injEq, and_true] at h
    rw [h] at h2
    have hs := parts_inv (s := s) (r := []) (c := c) (Prod.ext h h1)
    rw [List.append_nil] at hs
    exact ⟨h2, by rw [text, if_pos h2, hs]⟩
  · simp at h
theorem read_no {s : List UInt8} (h : (read s).2 = false) : (read s).1 = zero := by
  unfold read at *
  split at h
  · cases h
  · rw [if_neg (by assumption)]
/-- What begins, or goes on behind, the text of a right claim is no text. -/
theorem read_more {c : Clm} {r : List UInt8} (h : right c = true) (hr : r ≠ []) : read (text c ++ r) = (zero, false) := by
  rw [text, if_pos h, read, parts_back h, if_neg]
  rintro ⟨h1, _⟩
  exact hr (by simpa using h1)
theorem text_inj {a b : Clm} (ha : right a = true) : text a = text b ↔ a = b := by
  constructor
  · intro e
    by_cases hb : right b = true
    · have h1 := read_text ha
      rw [e, read_text hb] at h1
      exact (Prod.mk.inj h1).1.symm
    · rw [text, text, if_pos ha, if_neg hb] at e
      exact absurd e (enc_ne a)
  · intro e; rw [e]
/-- The key, as the program finds it. -/
def zeroE : List UInt8 := [48, 58, 44]
theorem zeroE_eq : textE [] = zeroE := by decide +kernel
theorem key_eq (t : List UInt8) : key t = if (rText (some t)).1 = [] then ([], decide (zeroE.length ≤ t.length) && decide (t.take zeroE.length = zeroE)) else ((rText (some t)).1, true) := by
  cases h : rText (some t) with
  | mk k s =>
  cases s with
  | none =>
    have hk : k = [] := by have := Wire.rText_fail (st := some t) (by rw [h]); rw [h] at this; exact this
    subst hk
    have hn : ¬ t.take zeroE.length = zeroE := fun e => by
      have e2 : t = textE [] ++ t.drop zeroE.length := by
        have := List.take_append_drop zeroE.length t
        rw [e] at this
        rw [zeroE_eq]; exact this.symm
      have := Wire.rText_back (s := []) (r := t.drop zeroE.length) (by simp)
      rw [← e2, h] at this
      simp at this
    simp only [key, h, if_true]
    rw [decide_eq_false hn, Bool.and_false]
  | some r =>
    simp only [key, h]
    by_cases hk : k = []
    · subst hk
      have e := Wire.rText_inv h
      rw [zeroE_eq] at e
      rw [if_pos rfl]
      have h1 : zeroE.length ≤ t.length := by rw [e, List.length_append]; omega
      have h2 : t.take zeroE.length = zeroE := by rw [e]; simp
      rw [decide_eq_true h1, decide_eq_true h2]; rfl
    · rw [if_neg hk]
/-- Which claims contradict each other. -/
def refutes (e a : Clm) : Bool := (key e.text).2 && decide (e.n < a.n) && decide ((key e.text).1 = a.text)
def contra (a b : Clm) : Bool :=
  if right a = false ∨ right b = false then false
  else if a.kind = 0 ∧ b.kind = 2 then refutes a b
  else if a.kind = 2 ∧ b.kind = 0 then refutes b a
  else if a.kind ≠ b.kind then false
  else if a.kind = 1 then (if a.time = b.time then decide (a.n ≠ b.n) else (decide (a.time < b.time) != decide (a.n < b.n)) && decide (a.n ≠ b.n))
  else if a.kind = 3 then decide (a.text = b.text) && decide (a.n ≠ b.n)
  else decide (a.kind ≠ 2) && decide (a.n = b.n) && decide (a.time = b.time) && decide (a.text ≠ b.text)
end Go.Proofs.YtagmlemlagbfkaaGreatDoor.Cl
namespace Go.Proofs.YtagmlemlagbfkaaGreatDoor.Cl
open Go.Lib Go.RowKit
set_option linter.unusedVariables false
set_option linter.unusedSimpArgs false

/-- The kinds' own conditions. -/
def Beats (a b : Clm) : Prop :=
  (a.kind = 0 ∧ b.kind = 2 ∧ refutes a b = true) ∨ (a.kind = 2 ∧ b.kind = 0 ∧ refutes b a = true) ∨
  (a.kind = 1 ∧ b.kind = 1 ∧ ((a.time = b.time ∧ a.n ≠ b.n) ∨ (a.time < b.time ∧ b.n < a.n) ∨ (b.time < a.time ∧ a.n < b.n))) ∨
  (a.kind = 3 ∧ b.kind = 3 ∧ a.text = b.text ∧ a.n ≠ b.n) ∨
  (a.kind = b.kind ∧ (a.kind = 0 ∨ a.kind = 4) ∧ a.n = b.n ∧ a.time = b.time ∧ a.text ≠ b.text)
theorem contra_iff (a b : Clm) : contra a b = true ↔ right a = true ∧ right b = true ∧ Beats a b := by
  unfold contra
  by_cases hr : right a = false ∨ right b = false
  · rw [if_pos hr]
    constructor
    · intro h; cases h
    · rintro ⟨h1, h2, _⟩
      rcases hr with h | h
      · rw [h1] at h; cases h
      · rw [h2] at h; cases h
  · rw [if_neg hr]
    have ha : right a = true := by cases h : right a with | true => rfl | false => exact absurd (Or.inl h) hr
    have hb : right b = true := by cases h : right b with | true => rfl | false => exact absurd (Or.inr h) hr
    obtain ⟨k1, k2, _⟩ := right_bounds ha
    obtain ⟨k3, k4, _⟩ := right_bounds hb
    simp only [ha, hb, true_and]
    unfold Beats
    by_cases c1 : a.kind = 0 ∧ b.kind = 2
    · rw [if_pos c1]
      constructor
      · intro h; exact Or.inl ⟨c1.1, c1.2, h⟩
      · rintro (⟨_, _, h⟩ | ⟨h, _⟩ | ⟨h, _⟩ | ⟨h, _⟩ | ⟨h, _⟩)
        · exact h
        all_goals omega
    rw [if_neg c1]
    by_cases c2 : a.kind = 2 ∧ b.kind = 0
    · rw [if_pos c2]
      constructor
      · intro h; exact Or.inr (Or.inl ⟨c2.1, c2.2, h⟩)
      · rintro (⟨h, h', _⟩ | ⟨_, _, h⟩ | ⟨h, _⟩ | ⟨h, _⟩ | ⟨h, _⟩)
        · omega
        · exact h
        all_goals omega
    rw [if_neg c2]
    by_cases c3 : a.kind ≠ b.kind
    · rw [if_pos c3]
      constructor
      · intro h; cases h
      · rintro (⟨h, h', _⟩ | ⟨h, h', _⟩ | ⟨h, h', _⟩ | ⟨h, h', _⟩ | ⟨h, _⟩) <;> omega
    rw [if_neg c3]
    by_cases c4 : a.kind = 1
    · rw [if_pos c4]
      by_cases ct : a.time = b.time
      · rw [if_pos ct, decide_eq_true_eq]
        constructor
        · intro h; exact Or.inr (Or.inr (Or.inl ⟨c4, by omega, Or.inl ⟨ct, h⟩⟩))
        · rintro (⟨h, h', _⟩ | ⟨h, h', _⟩ | ⟨_, _, h⟩ | ⟨h, h', _⟩ | ⟨h, h', _⟩) <;> omega
      · rw [if_neg ct, Bool.and_eq_true, bne_iff_ne, decide_eq_true_eq]
        have hd : (decide (a.time < b.time) ≠ decide (a.n < b.n)) ↔ ¬ (a.time < b.time ↔ a.n < b.n) := by
          rw [ne_eq, decide_eq_decide]
        rw [hd]
        constructor
        · intro h; exact Or.inr (Or.inr (Or.inl ⟨c4, by omega, by omega⟩))
        · rintro (⟨h, h', _⟩ | ⟨h, h', _⟩ | ⟨_, _, h⟩ | ⟨h, h', _⟩ | ⟨h, h', _⟩) <;> omega
    rw [if_neg c4]
    by_cases c5 : a.kind = 3
    · rw [if_pos c5, Bool.and_eq_true, decide_eq_true_eq, decide_eq_true_eq]
      constructor
      · intro h; exact Or.inr (Or.inr (Or.inr (Or.inl ⟨c5, by omega, h.1, h.2⟩)))
      · rintro (⟨h, h', _⟩ | ⟨h, h', _⟩ | ⟨h, _⟩ | ⟨_, _, h⟩ | ⟨h, h', _⟩)
        · omega
        · omega
        · omega
        · exact h
        · omega
    rw [if_neg c5]
    simp only [Bool.and_eq_true, decide_eq_true_eq]
    constructor
    · rintro ⟨⟨⟨h1, h2⟩, h3⟩, h4⟩
      exact Or.inr (Or.inr (Or.inr (Or.inr ⟨by omega, by omega, h2, h3, h4⟩)))
    · rintro (⟨h, h', _⟩ | ⟨h, h', _⟩ | ⟨h, _⟩ | ⟨h, _⟩ | ⟨h, h', h1, h2, h3⟩)
      · omega
      · omega
      · omega
      · omega
      · exact ⟨⟨⟨by omega, h1⟩, h2⟩, h3⟩
theorem beats_symm {a b : Clm} (h : Beats a b) : Beats b a := by
  rcases h with ⟨h1, h2, h3⟩ | ⟨h1, h2, h3⟩ | ⟨h1, h2, h3⟩ | ⟨h1, h2, h3, h4⟩ | ⟨h1, h2, h3, h4, h5⟩
  · exact Or.inr (Or.inl ⟨h2, h1, h3⟩)
  · exact Or.inl ⟨h2, h1, h3⟩
  · exact Or.inr (Or.inr (Or.inl ⟨h2, h1, by omega⟩))
  · exact Or.inr (Or.inr (Or.inr (Or.inl ⟨h2, h1, h3.symm, fun e => h4 e.symm⟩)))
  · exact Or.inr (Or.inr (Or.inr (Or.inr ⟨h1.symm, by omega, h3.symm, h4.symm, fun e => h5 e.symm⟩)))
theorem contra_symm (a b : Clm) : contra a b = contra b a := by
  rw [Bool.eq_iff_iff, contra_iff, contra_iff]
  exact ⟨fun ⟨h1, h2, h3⟩ => ⟨h2, h1, beats_symm h3⟩, fun ⟨h1, h2, h3⟩ => ⟨h2, h1, beats_symm h3⟩⟩
theorem contra_self (a : Clm) : contra a a = false := by
  rw [← Bool.not_eq_true, contra_iff]
  rintro ⟨_, _, h⟩
  rcases h with ⟨h1, h2, h3⟩ | ⟨h1, h2, h3⟩ | ⟨h1, h2, h3⟩ | ⟨h1, h2, h3, h4⟩ | ⟨h1, h2, h3, h4, h5⟩
  · omega
  · omega
  · omega
  · exact h4 rfl
  · exact h5 rfl
/-- As the reference has it. -/
def one (a b : Clm) : Bool :=
  if a.kind = 2 ∧ b.kind = 0 then refutes b a
  else if a.kind ≠ b.kind then false
  else if a.kind = 0 then decide (a.n = b.n) && decide (a.text ≠ b.text)
  else if a.kind = 1 then (decide (a.time = b.time) && decide (a.n ≠ b.n)) || (decide (a.time < b.time) && decide (b.n < a.n))
  else if a.kind = 3 then decide (a.text = b.text) && decide (a.n ≠ b.n)
  else if a.kind = 4 then decide (a.time = b.time) && decide (a.n = b.n) && decide (a.text ≠ b.text)
  else false
theorem right_time0 {c : Clm} (h : right c = true) (hk : c.kind = 0) : c.time = 0 := by
  unfold right at h
  rw [if_pos hk] at h
  simp only [Bool.and_eq_true, decide_eq_true_eq] at h
  exact h.1.1.2
theorem one_iff {a b : Clm} (ha : right a = true) (hb : right b = true) : (one a b || one b a) = true ↔ Beats a b := by
  obtain ⟨k1, k2, _⟩ := right_bounds ha
  obtain ⟨k3, k4, _⟩ := right_bounds hb
  have ta := right_time0 ha
  have tb := right_time0 hb
  rw [Bool.or_eq_true]
  have h1 : ∀ a b : Clm, one a b = true ↔ (a.kind = 2 ∧ b.kind = 0 ∧ refutes b a = true) ∨ (a.kind = b.kind ∧ ((a.kind = 0 ∧ a.n = b.n ∧ a.text ≠ b.text) ∨ (a.kind = 1 ∧ ((a.time = b.time ∧ a.n ≠ b.n) ∨ (a.time < b.time ∧ b.n < a.n))) ∨ (a.kind = 3 ∧ a.text = b.text ∧ a.n ≠ b.n) ∨ (a.kind = 4 ∧ a.time = b.time ∧ a.n = b.n ∧ a.text ≠ b.text))) := by
    intro a b
    unfold one
    (repeat' split) <;> (try simp only [Bool.and_eq_true, Bool.or_eq_true, decide_eq_true_eq]) <;> (constructor) <;> intro h <;> (try (simp_all; done)) <;> (try omega)
    all_goals (rcases h with ⟨e1, e2, e3⟩ | ⟨e0, ⟨e1, e2, e3⟩ | ⟨e1, e2⟩ | ⟨e1, e2, e3⟩ | ⟨e1, e2, e3, e4⟩⟩ <;> first | (exfalso; omega) | exact ⟨e2, e3⟩ | exact ⟨⟨e2, e3⟩, e4⟩ | exact e2)
  rw [h1, h1]
  unfold Beats
  constructor
  · rintro ((⟨h, h', hr⟩ | ⟨he, ⟨h, h', hr⟩ | ⟨h, hr⟩ | ⟨h, h', hr⟩ | ⟨h, h', h'', hr⟩⟩) | (⟨h, h', hr⟩ | ⟨he, ⟨h, h', hr⟩ | ⟨h, hr⟩ | ⟨h, h', hr⟩ | ⟨h, h', h'', hr⟩⟩))
    · exact Or.inr (Or.inl ⟨h, h', hr⟩)
    · exact Or.inr (Or.inr (Or.inr (Or.inr ⟨he, Or.inl h, h', by rw [ta h, tb (by omega)], hr⟩)))
    · exact Or.inr (Or.inr (Or.inl ⟨h, by omega, by omega⟩))
    · exact Or.inr (Or.inr (Or.inr (Or.inl ⟨h, by omega, h', hr⟩)))
    · exact Or.inr (Or.inr (Or.inr (Or.inr ⟨he, Or.inr h, h'', h', hr⟩)))
    · exact Or.inl ⟨h', h, hr⟩
    · exact Or.inr (Or.inr (Or.inr (Or.inr ⟨he.symm, by omega, h'.symm, by rw [ta (by omega), tb h], fun e => hr e.symm⟩)))
    · exact Or.inr (Or.inr (Or.inl ⟨by omega, h, by omega⟩))
    · exact Or.inr (Or.inr (Or.inr (Or.inl ⟨by omega, h, h'.symm, fun e => hr e.symm⟩)))
    · exact Or.inr (Or.inr (Or.inr (Or.inr ⟨he.symm, by omega, h''.symm, h'.symm, fun e => hr e.symm⟩)))
  · rintro (⟨h, h', hr⟩ | ⟨h, h', hr⟩ | ⟨h, h', hr⟩ | ⟨h, h', h'', hr⟩ | ⟨h, h', h2, h3, h4⟩)
    · exact Or.inr (Or.inl ⟨h', h, hr⟩)
    · exact Or.inl (Or.inl ⟨h, h', hr⟩)
    · rcases hr with hr | hr | hr
      · exact Or.inl (Or.inr ⟨by omega, Or.inr (Or.inl ⟨h, Or.inl hr⟩)⟩)
      · exact Or.inl (Or.inr ⟨by omega, Or.inr (Or.inl ⟨h, Or.inr hr⟩)⟩)
      · exact Or.inr (Or.inr ⟨by omega, Or.inr (Or.inl ⟨h', Or.inr hr⟩)⟩)
    · exact Or.inl (Or.inr ⟨by omega, Or.inr (Or.inr (Or.inl ⟨h, h'', hr⟩))⟩)
    · rcases h' with h' | h'
      · exact Or.inl (Or.inr ⟨h, Or.inl ⟨h', h2, h4⟩⟩)
      · exact Or.inl (Or.inr ⟨h, Or.inr (Or.inr (Or.inr ⟨h', h3, h2, h4⟩))⟩)
theorem contra_ref (a b : Clm) : (right a && right b && (one a b || one b a)) = contra a b := by
  rw [Bool.eq_iff_iff, contra_iff, Bool.and_eq_true, Bool.and_eq_true]
  constructor
  · rintro ⟨⟨h1, h2⟩, h3⟩; exact ⟨h1, h2, (one_iff h1 h2).1 h3⟩
  · rintro ⟨h1, h2, h3⟩; exact ⟨⟨h1, h2⟩, (one_iff h1 h2).2 h3⟩
end Go.Proofs.YtagmlemlagbfkaaGreatDoor.Cl
namespace Go.Proofs.YtagmlemlagbfkaaGreatDoor.Cl
open Go.Lib Go.RowKit
set_option linter.unusedVariables false
set_option linter.unusedSimpArgs false

/-- Whether none of the first n texts has the key. -/
def hasKey (k t : List UInt8) : Bool := (key t).2 && decide ((key t).1 = k)
def absentB (l : List (List UInt8)) (n : Nat) (k : List UInt8) : Bool := (l.take n).all fun t => !hasKey k t
def entryC (l : List (List UInt8)) (i : Nat) : Clm := ⟨0, i, 0, l.getD i []⟩
theorem absent_mem {l : List (List UInt8)} {n : Nat} {k : List UInt8} (h : absentB l n k = true) {i : Nat} (hi : i < n) (hl : i < l.length) : hasKey k l[i] = false := by
  have := List.all_eq_true.1 h l[i] (by
    rw [List.mem_iff_getElem]
    exact ⟨i, by simp; omega, by simp⟩)
  simpa using this
theorem absentB_succ (l : List (List UInt8)) (n : Nat) (k : List UInt8) (h : n < l.length) : absentB l (n + 1) k = (absentB l n k && !hasKey k l[n]) := by
  simp only [absentB]; rw [List.take_succ_eq_append_getElem h, List.all_append]; simp

theorem refutes_false {l : List (List UInt8)} {i n : Nat} {k : List UInt8} (hi : i < l.length) (h : absentB l n k = true) : refutes (entryC l i) ⟨2, n, 0, k⟩ = false := by
  rw [← Bool.not_eq_true]
  intro h2
  unfold refutes at h2
  simp only [Bool.and_eq_true, decide_eq_true_eq] at h2
  obtain ⟨⟨h3, h4⟩, h5⟩ := h2
  have h6 : i < n := by have : ((i : Int) < (n : Int)) := h4; omega
  have h7 := absent_mem h h6 hi
  have e : (entryC l i).text = l[i] := by simp [entryC, hi]
  rw [e] at h3 h5
  rw [hasKey, h3, decide_eq_true h5] at h7
  cases h7
end Go.Proofs.YtagmlemlagbfkaaGreatDoor.Cl
namespace Go.Proofs.YtagmlemlagbfkaaGreatDoor.Bk
open Go.Lib Go.RowKit
open Cl (Clm)
set_option linter.unusedVariables false
set_option linter.unusedSimpArgs false

/-- An entry of the ring. -/
structure Seal where
  key : Int
  text : List UInt8
deriving DecidableEq
structure Sgn where
  key : Int
  text : List UInt8
  mark : Int
deriving DecidableEq
def noSgn : Sgn := ⟨0, [], 0⟩
def isKey (k : Int) : Bool := decide (0 ≤ k) && decide (k < 200)
/-- The place of an entry. -/
def place : List Seal → Seal → Option Nat
  | [], _ => none
  | x :: l, e => if x = e then some 0 else (place l e).map (· + 1)
def sign (L : List Seal) (k : Int) (t : List UInt8) : Sgn × List Seal :=
  if isKey k then
    match place L ⟨k, t⟩ with
    | some i => (⟨k, t, i⟩, L)
    | none => (⟨k, t, L.length⟩, L ++ [⟨k, t⟩])
  else (noSgn, L)
def valid (L : List Seal) (s : Sgn) : Bool := match place L ⟨s.key, s.text⟩ with
  | some i => decide ((i : Int) = s.mark)
  | none => false
theorem place_some {L : List Seal} {e : Seal} {i : Nat} (h : place L e = some i) : L[i]? = some e := by
  induction L generalizing i with
  | nil => cases h
  | cons x l ih =>
    unfold place at h
    split at h
    · rename_i hx; cases h; rw [hx]; rfl
    · cases hp : place l e with
      | none => rw [hp] at h; cases h
      | some j =>
        rw [hp] at h
        obtain rfl : j + 1 = i := by simpa using h
        simpa using ih hp
theorem place_none {L : List Seal} {e : Seal} : place L e = none ↔ e ∉ L := by
  induction L with
  | nil => simp [place]
  | cons x l ih =>
    unfold place
    by_cases hx : x = e
    · simp [hx]
    · rw [if_neg hx, Option.map_eq_none_iff, ih, List.mem_cons]
      constructor
      · rintro h (h2 | h2)
        · exact hx h2.symm
        · exact h h2
      · exact fun h h2 => h (Or.inr h2)
theorem place_at {L : List Seal} (hn : L.Nodup) {i : Nat} (h : i < L.length) : place L L[i] = some i := by
  induction L generalizing i with
  | nil => simp at h
  | cons x l ih =>
    obtain ⟨h1, h2⟩ := List.nodup_cons.1 hn
    cases i with
    | zero => simp [place]
    | succ i =>
      have hi : i < l.length := by simpa using h
      have hne : ¬ x = l[i] := fun e => h1 (e ▸ List.getElem_mem hi)
      show place (x :: l) l[i] = _
      rw [place, if_neg hne, ih h2 hi]; rfl
theorem place_lt {L : List Seal} {e : Seal} {i : Nat} (h : place L e = some i) : i < L.length := by
  have := place_some h
  exact (List.getElem?_eq_some_iff.1 this).1
theorem place_snoc {L : List Seal} {e x : Seal} : place (L ++ [x]) e = match place L e with
    | some i => some i
    | none => if x = e then some L.length else none := by
  induction L with
  | nil => simp only [List.nil_append, place, List.length_nil]; split <;> rfl
  | cons y l ih =>
    simp only [List.cons_append, place]
    by_cases hy : y = e
    · simp [hy]
    · simp only [hy, if_false, ih]
      cases place l e with
      | some i => rfl
      | none => simp only [Option.map_none]; split <;> simp
theorem sign_nodup {L : List Seal} {k : Int} {t : List UInt8} (h : L.Nodup) : (sign L k t).2.Nodup := by
  unfold sign
  split
  · split
    · exact h
    · rename_i hp
      have := place_none.1 hp
      rw [List.nodup_append]
      exact ⟨h, by simp, fun a ha b hb e => by rw [List.mem_singleton] at hb; subst hb; subst e; exact this ha⟩
  · exact h

/-- A book: its key, its entries, the moment of its last head (-1: none), how many entries that told. -/
structure Book where
  key : Int
  es : List (List UInt8)
  last : Int
  told : Int
deriving DecidableEq
def new (key : Int) : Book := ⟨key, [], -1, 0⟩
/-- Append: the number, the error. -/
def append (b : Book) (t : List UInt8) : (Int × Int) × Book :=
  if (Cl.key t).2 = false then ((0, 2), b)
  else if 20000 < t.length then ((0, 3), b)
  else if 200000 ≤ b.es.length then ((0, 6), b)
  else ((b.es.length, 0), { b with es := b.es ++ [t] })
def textAt (b : Book) (i : Int) : List UInt8 × Bool := if i < 0 ∨ (b.es.length : Int) ≤ i then ([], false) else (b.es.getD i.toNat [], true)
def signC (L : List Seal) (b : Book) (c : Clm) : Sgn × List Seal := sign L b.key (Cl.text c)
def entry (L : List Seal) (b : Book) (i : Int) : (Sgn × Int) × List Seal :=
  if i < 0 ∨ (b.es.length : Int) ≤ i then ((noSgn, 4), L)
  else (((signC L b ⟨0, i, 0, b.es.getD i.toNat []⟩).1, 0), (signC L b ⟨0, i, 0, b.es.getD i.toNat []⟩).2)
def head (L : List Seal) (b : Book) (now : Int) : (Sgn × Int) × List Seal × Book :=
  if now < 0 ∨ 1073741824 < now then ((noSgn, 1), L, b)
  else if now < b.last ∨ (b.last = now ∧ b.told ≠ b.es.length) then ((noSgn, 7), L, b)
  else (((signC L b ⟨1, b.es.length, now, []⟩).1, 0), (signC L b ⟨1, b.es.length, now, []⟩).2, { b with last := now, told := b.es.length })
def absent (L : List Seal) (b : Book) (k : List UInt8) (n : Int) : (Sgn × Int) × List Seal :=
  if n < 0 ∨ (b.es.length : Int) < n ∨ 20000 < k.length then ((noSgn, 1), L)
  else if Cl.absentB b.es n.toNat k = false then ((noSgn, 5), L)
  else (((signC L b ⟨2, n, 0, k⟩).1, 0), (signC L b ⟨2, n, 0, k⟩).2)
end Go.Proofs.YtagmlemlagbfkaaGreatDoor.Bk
namespace Go.Proofs.YtagmlemlagbfkaaGreatDoor.Bk
open Go.Lib Go.RowKit
set_option linter.unusedVariables false
set_option linter.unusedSimpArgs false

def addF (F : List (List UInt8 × Nat)) (k : List UInt8) (i : Nat) : List (List UInt8 × Nat) := if F.any (fun p => decide (p.1 = k)) then F else F ++ [(k, i)]
/-- The keys of the entries, each with the first entry that has it. -/
def firstL (es : List (List UInt8)) : List (List UInt8 × Nat) := es.zipIdx.foldl (fun F p => addF F (Cl.key p.1).1 p.2) []
theorem first_snoc (es : List (List UInt8)) (t : List UInt8) : firstL (es ++ [t]) = addF (firstL es) (Cl.key t).1 es.length := by
  simp [firstL, List.zipIdx_append, List.foldl_append]
structure FirstOk (es : List (List UInt8)) (F : List (List UInt8 × Nat)) : Prop where
  at_ : ∀ k i, (k, i) ∈ F → ∃ h : i < es.length, (Cl.key es[i]).1 = k ∧ ∀ j (hj : j < i), (Cl.key (es[j]'(by omega))).1 ≠ k
  all : ∀ t ∈ es, ∃ i, ((Cl.key t).1, i) ∈ F
  one : ∀ k i j, (k, i) ∈ F → (k, j) ∈ F → i = j
theorem any_key {F : List (List UInt8 × Nat)} {k : List UInt8} : F.any (fun p => decide (p.1 = k)) = true ↔ ∃ i, (k, i) ∈ F := by
  rw [List.any_eq_true]
  constructor
  · rintro ⟨⟨a, i⟩, h, e⟩
    obtain rfl : a = k := by simpa using e
    exact ⟨i, h⟩
  · rintro ⟨i, h⟩
    exact ⟨(k, i), h, by simp⟩
theorem firstOk_rev (r : List (List UInt8)) : FirstOk r.reverse (firstL r.reverse) := by
  induction r with
  | nil => exact ⟨fun k i h => by simp [firstL] at h, fun t h => by simp at h, fun k i j h => by simp [firstL] at h⟩
  | cons t r ih =>
    rw [List.reverse_cons, first_snoc]
    generalize r.reverse = es at *
    unfold addF
    by_cases h : (firstL es).any (fun p => decide (p.1 = (Cl.key t).1)) = true
    · rw [if_pos h]
      refine ⟨fun k i hk => ?_, fun u hu => ?_, ih.one⟩
      · obtain ⟨h1, h2, h3⟩ := ih.at_ k i hk
        refine ⟨by rw [List.length_append]; omega, by rw [List.getElem_append_left h1]; exact h2, fun j hj => ?_⟩
        rw [List.getElem_append_left (by omega)]
        exact h3 j hj
      · rcases List.mem_append.1 hu with hu | hu
        · exact ih.all u hu
        · rw [List.mem_singleton.1 hu]; exact any_key.1 h
    · rw [if_neg h]
      have hno : ∀ i, ((Cl.key t).1, i) ∉ firstL es := fun i hi => h (any_key.2 ⟨i, hi⟩)
      refine ⟨fun k i hk => ?_, fun u hu => ?_, fun k i j hi hj => ?_⟩
      · rcases List.mem_append.1 hk with hk | hk
        · obtain ⟨h1, h2, h3⟩ := ih.at_ k i hk
          refine ⟨by rw [List.length_append]; omega, by rw [List.getElem_append_left h1]; exact h2, fun j hj => ?_⟩
          rw [List.getElem_append_left (by omega)]
          exact h3 j hj
        · simp only [List.mem_singleton, Prod.mk.injEq] at hk
          obtain ⟨rfl, rfl⟩ := hk
          refine ⟨by simp, by simp, fun j hj => ?_⟩
          rw [List.getElem_append_left hj]
          intro e
          obtain ⟨i, hi⟩ := ih.all _ (List.getElem_mem hj)
          rw [e] at hi
          exact hno i hi
      · rcases List.mem_append.1 hu with hu | hu
        · obtain ⟨i, hi⟩ := ih.all u hu
          exact ⟨i, List.mem_append_left _ hi⟩
        · rw [List.mem_singleton.1 hu]; exact ⟨es.length, List.mem_append_right _ (by simp)⟩
      · rcases List.mem_append.1 hi with hi | hi <;> rcases List.mem_append.1 hj with hj | hj
        · exact ih.one k i j hi hj
        · simp only [List.mem_singleton, Prod.mk.injEq] at hj
          obtain ⟨rfl, rfl⟩ := hj
          exact absurd hi (hno i)
        · simp only [List.mem_singleton, Prod.mk.injEq] at hi
          obtain ⟨rfl, rfl⟩ := hi
          exact absurd hj (hno j)
        · simp only [List.mem_singleton, Prod.mk.injEq] at hi hj
          omega
theorem firstOk (es : List (List UInt8)) : FirstOk es (firstL es) := by
  have := firstOk_rev es.reverse
  rwa [List.reverse_reverse] at this
theorem first_none {es : List (List UInt8)} {k : List UInt8} : (∀ i, (k, i) ∉ firstL es) ↔ ∀ t ∈ es, (Cl.key t).1 ≠ k := by
  constructor
  · intro h t ht e
    obtain ⟨i, hi⟩ := (firstOk es).all t ht
    rw [e] at hi
    exact h i hi
  · intro h i hi
    obtain ⟨h1, h2, _⟩ := (firstOk es).at_ k i hi
    exact h _ (List.getElem_mem h1) h2
theorem absent_first {es : List (List UInt8)} (hk : ∀ t ∈ es, (Cl.key t).2 = true) {k : List UInt8} {n i : Nat} (h : (k, i) ∈ firstL es) : Cl.absentB es n k = decide (n ≤ i) := by
  obtain ⟨h1, h2, h3⟩ := (firstOk es).at_ k i h
  by_cases hn : n ≤ i
  · rw [decide_eq_true hn]
    refine List.all_eq_true.2 fun t ht => ?_
    obtain ⟨j, hj, e⟩ := List.mem_iff_getElem.1 ht
    have hj2 : j < n := by simp at hj; omega
    rw [List.getElem_take] at e
    subst e
    unfold Cl.hasKey
    rw [decide_eq_false (h3 j (by omega))]
    simp
  · rw [decide_eq_false hn, ← Bool.not_eq_true]
    intro ha
    have := Cl.absent_mem ha (i := i) (by omega) h1
    unfold Cl.hasKey at this
    rw [hk _ (List.getElem_mem h1), decide_eq_true h2] at this
    cases this
theorem absent_first_none {es : List (List UInt8)} {k : List UInt8} {n : Nat} (h : ∀ i, (k, i) ∉ firstL es) : Cl.absentB es n k = true := by
  refine List.all_eq_true.2 fun t ht => ?_
  have := first_none.1 h t (List.mem_of_mem_take ht)
  unfold Cl.hasKey
  rw [decide_eq_false this]
  simp
end Go.Proofs.YtagmlemlagbfkaaGreatDoor.Bk
namespace Go.Proofs.YtagmlemlagbfkaaGreatDoor.Bk
def xt : List UInt8 := [49, 58, 107, 44, 118]
def xj : List UInt8 := [49, 58, 106, 44]
def xb1 : Book := ⟨3, [xt], -1, 0⟩
def xb2 : Book := ⟨3, [xt], 5, 1⟩
def xa : List UInt8 := [50, 59, 48, 59, 48, 59, 49, 58, 107, 44]
def xh : List UInt8 := [49, 59, 49, 59, 53, 59, 48, 58, 44]
def xi : List UInt8 := [49, 59, 50, 59, 54, 59, 48, 58, 44]
def xL1 : List Seal := [⟨3, xa⟩]
def xL2 : List Seal := [⟨3, xa⟩, ⟨3, xh⟩]
theorem x1 : append (new 3) xt = ((0, 0), xb1) := by decide +kernel
theorem x2 : absent [] xb1 [107] 0 = ((⟨3, xa, 0⟩, 0), xL1) := by decide +kernel
theorem x3 : absent xL1 xb1 [107] 1 = ((⟨0, [], 0⟩, 5), xL1) := by decide +kernel
theorem x4 : head xL1 xb1 5 = ((⟨3, xh, 1⟩, 0), xL2, xb2) := by decide +kernel
theorem xk : Wire.textE [107] = [49, 58, 107, 44] := by decide +kernel
end Go.Proofs.YtagmlemlagbfkaaGreatDoor.Bk
namespace Go.Proofs.YtagmlemlagbfkaaGreatDoor
open Go.RowKit
set_option linter.unusedVariables false
set_option linter.unusedSimpArgs false
attribute [local irreducible] Calls

/-- At block b lies a reader (of the type T) in the state st. -/
def Rdr (T : TypeId) (w : World) (b : Nat) (st : Wire.St) : Prop := nG ≤ b ∧ w.heap[b]? = some (.cells #[.string ⟨(st.getD []).toArray⟩, .bool st.isNone] T (0, 0))
abbrev tR : TypeId := 277
theorem Rdr.lt {T : TypeId} {w : World} {b : Nat} {st : Wire.St} (h : Rdr T w b st) : b < w.heap.size := lt_of_block h.2
theorem Rdr.c0 {T : TypeId} {w : World} {b : Nat} {st : Wire.St} (h : Rdr T w b st) : w.cell? ⟨b, 0, none⟩ = some (.string ⟨(st.getD []).toArray⟩) := by rw [cells_cell h.2]; rfl
theorem Rdr.c1 {T : TypeId} {w : World} {b : Nat} {st : Wire.St} (h : Rdr T w b st) : w.cell? ⟨b, 1, none⟩ = some (.bool st.isNone) := by rw [cells_cell h.2]; rfl
theorem Rdr.fz {T : TypeId} {w : World} {b : Nat} {st : Wire.St} (h : Rdr T w b st) (i : Nat) : w.frozen? ⟨b, i, none⟩ = false := cells_frozen h.2 i
theorem Rdr.upd {T : TypeId} {S : Nat → Prop} {w w' : World} {b : Nat} {st : Wire.St} (h : Rdr T w b st) (u : Upd S w w') (hn : ¬ S b) : Rdr T w' b st := ⟨h.1, u.keep h.2 hn⟩
theorem Rdr.nw {T : TypeId} {w w' : World} {b : Nat} {st : Wire.St} (h : Rdr T w b st) (u : Nw w w') : Rdr T w' b st := h.upd u id
theorem Rdr.set0 {T : TypeId} {w : World} {b : Nat} {st : Wire.St} (h : Rdr T w b st) (s : ByteArray) (r : List UInt8) (hs : st.isNone = false) (hr : s.data.toList = r) : Rdr T (w.setCell ⟨b, 0, none⟩ (.string s)) b (some r) := by
  refine ⟨h.1, ?_⟩
  rw [setCell_block h.2, hs, ← bs_eta s, hr]
  rfl
theorem Rdr.setr {T : TypeId} {w : World} {b : Nat} {st : Wire.St} (h : Rdr T w b st) (s : ByteArray) (st' : Wire.St) (hs : st'.isNone = st.isNone) (hr : s.data.toList = st'.getD []) : Rdr T (w.setCell ⟨b, 0, none⟩ (.string s)) b st' := by
  refine ⟨h.1, ?_⟩
  rw [setCell_block h.2, ← hs, ← bs_eta s, hr]
  rfl
theorem Rdr.set_fail {T : TypeId} {w : World} {b : Nat} {st : Wire.St} (h : Rdr T w b st) : Rdr T ((w.setCell ⟨b, 0, none⟩ (.string ⟨#[]⟩)).setCell ⟨b, 1, none⟩ (.bool true)) b none := by
  refine ⟨h.1, ?_⟩
  rw [setCell_block (setCell_block h.2 _ _)]
  rfl
theorem Rdr.set_same {T : TypeId} {w : World} {b : Nat} {st : Wire.St} (h : Rdr T w b st) : Rdr T (w.setCell ⟨b, 0, none⟩ (.string ⟨(st.getD []).toArray⟩)) b st := by
  refine ⟨h.1, ?_⟩
  rw [setCell_block h.2]
  rfl
set_option maxHeartbeats 400000 in
theorem fail_c (b : Nat) (st : Wire.St) (w : World) (h : Rdr tR w b st) :
    Calls Tryz.prog 212 #[.pointer (some ⟨b, 0, none⟩)] w fun e w' => e = .returned (.tuple #[]) ∧ Rdr tR w' b none ∧ Upd (· = b) w w' := by
  have c0 := h.c0
  have c1 := h.c1
  have f0 := h.fz 0
  have f1 := h.fz 1
  go_enter Tryz.func212, Tryz.ntmps212
  go_wp2
  go_end0
  exact ⟨rfl, h.set_fail, ((Upd.refl _ _).set1 h.1 _ _).set1 h.1 _ _⟩
theorem c58 : (58 : Int) = ((58 : UInt8).toNat : Int) := rfl
theorem c59 : (59 : Int) = ((59 : UInt8).toNat : Int) := rfl
theorem c91 : (91 : Int) = ((91 : UInt8).toNat : Int) := rfl
theorem c93 : (93 : Int) = ((93 : UInt8).toNat : Int) := rfl
theorem c44 : (44 : Int) = ((44 : UInt8).toNat : Int) := rfl
set_option maxHeartbeats 400000 in
theorem number_c (b : Nat) (st : Wire.St) (c : UInt8) (ci least : Int) (hci : ci = c.toNat) (w : World) (g : Gl w) (h : Rdr tR w b st) (hl : (st.getD []).length ≤ 9223372036854775807) :
    Calls Tryz.prog 211 #[.pointer (some ⟨b, 0, none⟩), .int .u8 ci, .int .i64 least] w fun e w' =>
      e = .returned (.int .i64 (Wire.rNumber st c least).1) ∧ Rdr tR w' b (Wire.rNumber st c least).2 ∧ Upd (· = b) w w' := by
  have c0 := h.c0
  have c1 := h.c1
  have f0 := h.fz 0
  have f1 := h.fz 1
  subst hci
  go_enter Tryz.func211, Tryz.ntmps211
  go_wp2
  go_quiet (fail)
  go_wp2_with fail
  obtain ⟨w1, e1, u1⟩ := nw_drewN w nq
  rw [e1]; clear e1
  replace h := h.nw u1
  replace g := g.upd u1
  obtain ⟨hd, ehd⟩ : ∃ hd : ByteArray, ({ data := (Option.getD st []).toArray } : ByteArray).extract 0 (min (↑(Option.getD st []).length) (21 : Int)).toNat = hd := ⟨_, rfl⟩
  have Hd : Hid (hd.data.toList = (st.getD []).take 21) := by rw [← ehd]; show _ = _; rw [bs_extract_list]; simp; omega
  have hds : hd.size = min 21 (st.getD []).length := by rw [bs_size, Hd.out, List.length_take]
  rw [ehd]; clear ehd
  (with_reducible refine (IndexByte_l hd c ((st.getD []).take 21) Hd.out _).mono ?_)
  rintro _ _ ⟨rfl, rfl⟩
  have i0 := Lib.indexByte_ge ((st.getD []).take 21) c
  have i1 := Wire.indexByte_lt ((st.getD []).take 21) c
  generalize hi : Lib.indexByte ((st.getD []).take 21) c = i at *
  have Hi := Lib.hid hi; clear hi
  rw [List.length_take, ← hds] at i1
  have i2 : i ≤ 20 := by omega
  have i3 : i < ((st.getD []).length : Int) := by omega
  have Hds := Lib.hid hds; clear hds
  go_wp2_with fail
  · (with_reducible refine (fail_c b st _ h).mono ?_)
    rintro _ w' ⟨rfl, h', u'⟩
    go_wp2_with fail
    go_ret
    rw [Wire.rNumber_neg (by rw [Hi.out]; assumption)]
    exact ⟨rfl, h', u1.trans u'⟩
  · have hs := Wire.isSome_of_index Hi.out (by assumption)
    have h0i : 0 ≤ i := by assumption
    obtain ⟨hp, ehp⟩ : ∃ hp : ByteArray, hd.extract 0 i.toNat = hp := ⟨_, rfl⟩
    have Hp : Hid (hp.data.toList = (st.getD []).take i.toNat) := by rw [← ehp]; show _ = _; rw [bs_extract_list, Hd.out]; have := Hds.out; simp [List.take_take]; omega
    rw [ehp]
    (with_reducible refine (Atoi_l hp ((st.getD []).take i.toNat) Hp.out _ g (by simp; omega)).mono ?_)
    rintro _ w2 ⟨n, v, rfl, hn, hv, u2⟩
    replace h := h.nw u2
    replace g := g.upd u2
    replace c0 := h.c0
    replace f0 := h.fz 0
    have h1 : i ≤ (hd.size : Int) := by omega
    rcases hv with ⟨rfl, hv⟩ | ⟨⟨tv, pv, rfl⟩, hv⟩
    · by_cases he : Lib.itoa n = (st.getD []).take i.toNat
      · have hb : (Lib.itoa n == hp.toList) = true := by rw [bs_toList, Hp.out, he]; simp
        have Hn := Lib.hid (Wire.rNumber_some (least := least) Hi.out h0i (Wire.numOf_eq hv he))
        have He := Lib.hid he; clear he
        have Hv := Lib.hid hv; clear hv
        by_cases hlt : n < least
        · have hdl : decide (n < least) = true := by simpa using hlt
          go_wp2_with fail
          refine wp_region_nw (by kernel_rfl) (by kernel_rfl) ?_
          repeat (go_big_quiet_step ((go_at_call 152; exact later_call (Itoa_c n _ (g.upd (Later.nw _)) hn))))
          refine wpQuiet_nil ?_
          intro w3 u3
          replace u3 := later_out u3
          replace h := h.nw u3
          go_wp2_with fail
          (with_reducible refine (fail_c b st _ h).mono ?_)
          rintro _ w' ⟨rfl, h', u'⟩
          go_wp2_with fail
          go_ret
          rw [Hn.out, if_pos hlt]
          exact ⟨rfl, h', Nw.trans u1 (Nw.trans u2 (Nw.trans u3 u'))⟩
        · have hdl : decide (n < least) = false := by simpa using hlt
          go_wp2_with fail
          refine wp_region_nw (by kernel_rfl) (by kernel_rfl) ?_
          repeat (go_big_quiet_step ((go_at_call 152; exact later_call (Itoa_c n _ (g.upd (Later.nw _)) hn))))
          refine wpQuiet_nil ?_
          intro w3 u3
          replace u3 := later_out u3
          replace h := h.nw u3
          replace c0 := h.c0
          replace f0 := h.fz 0
          go_wp2_with fail
          go_ret
          rw [Hn.out, if_neg (by omega)]
          exact ⟨rfl, h.set0 _ _ hs (by rw [bs_extract_list, bs_list, List.take_of_length_le (by simp <;> omega)]; congr 1 <;> omega), Nw.trans u1 (Nw.trans u2 (Nw.trans u3 ((Upd.refl _ _).set1 h.1 _ _)))⟩
      · have hb : (Lib.itoa n == hp.toList) = false := by rw [bs_toList, Hp.out]; simpa using he
        have Hn := Lib.hid (Wire.numOf_ne hv he)
        have Hv := Lib.hid hv; clear hv
        have He := Lib.hid he; clear he
        go_wp2_with fail
        refine wp_region_nw (by kernel_rfl) (by kernel_rfl) ?_
        repeat (go_big_quiet_step ((go_at_call 152; exact later_call (Itoa_c n _ (g.upd (Later.nw _)) hn))))
        refine wpQuiet_nil ?_
        intro w3 u3
        replace u3 := later_out u3
        replace h := h.nw u3
        go_wp2_with fail
        (with_reducible refine (fail_c b st _ h).mono ?_)
        rintro _ w' ⟨rfl, h', u'⟩
        go_wp2_with fail
        go_ret
        rw [Wire.rNumber_none Hi.out h0i Hn.out]
        exact ⟨rfl, h', Nw.trans u1 (Nw.trans u2 (Nw.trans u3 u'))⟩
    · go_wp2_with fail
      go_quiet (fail)
      obtain ⟨w3, e3, u3⟩ := nw_drewN w2 nq
      rw [e3]; clear e3
      replace h := h.nw u3
      go_wp2_with fail
      (with_reducible refine (fail_c b st _ h).mono ?_)
      rintro _ w' ⟨rfl, h', u'⟩
      go_wp2_with fail
      go_ret
      rw [Wire.rNumber_none Hi.out (by assumption) (Wire.numOf_none hv)]
      exact ⟨rfl, h', Nw.trans u1 (Nw.trans u2 (Nw.trans u3 u'))⟩

set_option maxHeartbeats 400000 in
theorem close_c (b : Nat) (st : Wire.St) (c : UInt8) (w : World) (h : Rdr tR w b st) :
    Calls Tryz.prog 213 #[.pointer (some ⟨b, 0, none⟩), .string ⟨#[c]⟩] w fun e w' =>
      e = .returned (.tuple #[]) ∧ Rdr tR w' b (Wire.rClose st c) ∧ Upd (· = b) w w' := by
  have c0 := h.c0
  have c1 := h.c1
  have f0 := h.fz 0
  have f1 := h.fz 1
  go_enter Tryz.func213, Tryz.ntmps213
  go_wp2_with fail
  (with_reducible refine (CutPrefix_c _ _ _).mono ?_)
  rintro _ _ ⟨rfl, rfl⟩
  cases hp : Lib.hasPrefix (st.getD []) [c] with
  | false =>
    have ht := Wire.trimPrefix_no hp
    go_wp2_with fail
    (with_reducible refine (fail_c b st _ h.set_same).mono ?_)
    rintro _ w' ⟨rfl, h', u'⟩
    go_wp2_with fail
    go_end0
    rw [Wire.rClose_no hp]
    exact ⟨rfl, h', ((Upd.refl _ _).set1 h.1 _ _).trans u'⟩
  | true =>
    have hr := Wire.rClose_yes hp
    go_wp2_with fail
    go_end0
    rw [hr.2]
    exact ⟨rfl, h.set0 _ _ hr.1 (bs_list _), (Upd.refl _ _).set1 h.1 _ _⟩
end Go.Proofs.YtagmlemlagbfkaaGreatDoor
namespace Go.Proofs.YtagmlemlagbfkaaGreatDoor
open Go.RowKit
set_option linter.unusedVariables false
set_option linter.unusedSimpArgs false
attribute [local irreducible] Calls

theorem Num_r (b : Nat) (st : Wire.St) (w : World) (g : Gl w) (h : Rdr tR w b st) (hl : (st.getD []).length ≤ 9223372036854775807) :
    Calls Tryz.prog 182 #[.pointer (some ⟨b, 0, none⟩)] w fun e w' =>
      e = .returned (.int .i64 (Wire.rNum st).1) ∧ Rdr tR w' b (Wire.rNum st).2 ∧ Upd (· = b) w w' := by
  go_enter Tryz.func182, Tryz.ntmps182
  go_wp2_with fail
  (with_reducible refine (number_c b st 59 59 _ c59 _ g h hl).mono ?_)
  rintro _ w' ⟨rfl, h', u'⟩
  go_wp2_with fail
  go_ret
  exact ⟨rfl, h', u'⟩
set_option maxHeartbeats 400000 in
theorem Text_r (b : Nat) (st : Wire.St) (w : World) (g : Gl w) (h : Rdr tR w b st) (hl : (st.getD []).length ≤ 9223372036854775807) :
    Calls Tryz.prog 180 #[.pointer (some ⟨b, 0, none⟩)] w fun e w' =>
      e = .returned (.string ⟨(Wire.rText st).1.toArray⟩) ∧ Rdr tR w' b (Wire.rText st).2 ∧ Upd (· = b) w w' := by
  have hle := Wire.rNumber_le st 58 0
  have hn0 := Wire.rNumber_least st 58 0 (Int.le_refl 0)
  go_enter Tryz.func180, Tryz.ntmps180
  go_wp2_with fail
  (with_reducible refine (number_c b st 58 58 _ c58 _ g h hl).mono ?_)
  rintro _ w1 ⟨rfl, h1, u1⟩
  cases hq : Wire.rNumber st 58 0 with
  | mk n s1 =>
  rw [hq] at hle hn0 h1
  have Hq := Lib.hid hq; clear hq
  replace hle : (s1.getD []).length ≤ (st.getD []).length := hle
  replace hn0 : 0 ≤ n := hn0
  replace h1 : Rdr tR w1 b s1 := h1
  have c0 := h1.c0
  have c1 := h1.c1
  have f0 := h1.fz 0
  have f1 := h1.fz 1
  by_cases hfar : ((s1.getD []).length : Int) < n
  · go_wp2_with fail
    (with_reducible refine (fail_c b s1 _ h1).mono ?_)
    rintro _ w2 ⟨rfl, h2, u2⟩
    go_wp2_with fail
    go_ret
    have e : Wire.rText st = ([], none) := by
      cases s1 with
      | none => exact Wire.rText_none Hq.out
      | some r => exact Wire.rText_far Hq.out hfar
    rw [e]
    exact ⟨rfl, h2, u1.trans u2⟩
  · have hs1 : s1 = none → n = 0 := fun e => Wire.rNumber_zero (by rw [Hq.out, e])
    have h2 : ∀ s : ByteArray, s.data.toList = (s1.getD []).drop n.toNat → Rdr tR (w1.setCell ⟨b, 0, none⟩ (.string s)) b (s1.map fun r => r.drop n.toNat) := fun s hs => by
      refine h1.setr s _ (by cases s1 <;> rfl) ?_
      rw [hs]
      cases s1 <;> simp
    have Hs1 := Lib.hid hs1; clear hs1
    have H2 := Lib.hid h2; clear h2
    go_wp2_with fail
    (with_reducible refine (close_c b (s1.map fun r => r.drop n.toNat) 44 _ (H2.out _ (by rw [bs_extract_list, bs_list, List.take_of_length_le (by simp)]))).mono ?_)
    rintro _ w3 ⟨rfl, h3, u3⟩
    have d1 := h3.c1
    have hc : Wire.rText st = ((if (Wire.rClose (s1.map fun r => r.drop n.toNat) 44).isNone then [] else (s1.getD []).take n.toNat), Wire.rClose (s1.map fun r => r.drop n.toNat) 44) := by
      cases s1 with
      | none => exact Wire.rText_none Hq.out
      | some r =>
        cases hx : Wire.rClose (some (r.drop n.toNat)) 44 with
        | none => rw [Wire.rText_open Hq.out (by simpa using hfar) hx]; simp [hx]
        | some r' => rw [Wire.rText_ok Hq.out (by simpa using hfar) hx]; simp [hx]
    have Hc := Lib.hid hc; clear hc
    generalize Wire.rClose (s1.map fun r => r.drop n.toNat) 44 = s3 at *
    cases s3 with
    | none =>
      go_wp2_with fail
      go_ret
      rw [Hc.out]
      exact ⟨rfl, h3, u1.trans (((Upd.refl _ _).set1 h1.1 _ _).trans u3)⟩
    | some r3 =>
      go_wp2_with fail
      go_ret
      rw [Hc.out]
      refine ⟨?_, h3, u1.trans (((Upd.refl _ _).set1 h1.1 _ _).trans u3)⟩
      rw [show (Value.string (ByteArray.extract ⟨(s1.getD []).toArray⟩ 0 n.toNat)) = .string ⟨((s1.getD []).take n.toNat).toArray⟩ by rw [bs_extract]; simp]
      rfl
theorem Done_r (b : Nat) (st : Wire.St) (w : World) (h : Rdr tR w b st) :
    Calls Tryz.prog 183 #[.pointer (some ⟨b, 0, none⟩)] w fun e w' => e = .returned (.bool (decide (st = some []))) ∧ w = w' := by
  have c0 := h.c0
  have c1 := h.c1
  rcases st with _ | r
  · go_enter Tryz.func183, Tryz.ntmps183
    go_wp2
    go_ret
    exact ⟨rfl, rfl⟩
  · go_enter Tryz.func183, Tryz.ntmps183
    go_wp2
    go_ret
    refine ⟨?_, rfl⟩
    cases r <;> rfl
theorem Open_r (s : ByteArray) (l : List UInt8) (hs : s.data.toList = l) (w : World) (g : Gl w) :
    Calls Tryz.prog 179 #[.string s] w fun e w' => ∃ b, e = .returned (.pointer (some ⟨b, 0, none⟩)) ∧ w.heap.size ≤ b ∧ Rdr tR w' b (some l) ∧ Nw w w' := by
  go_enter Tryz.func179, Tryz.ntmps179
  go_wp2
  go_ret
  refine ⟨_, rfl, Nat.le_refl _, ⟨g.big, ?_⟩, (Upd.refl _ _).alloc _⟩
  rw [heap_new, ← bs_eta s, hs]
  rfl
end Go.Proofs.YtagmlemlagbfkaaGreatDoor
namespace Go.Proofs.YtagmlemlagbfkaaGreatDoor
open Go.RowKit
set_option linter.unusedVariables false
set_option linter.unusedSimpArgs false

/-- A builder in block b (the call's own: from B on) that holds the bytes l. -/
def Bld (B b : Nat) (l : List UInt8) (w : World) : Prop := Lib.IsBuilder 170 5 B b (Lib.byteCells l) w
theorem bSize : (Tryz.prog.info? 170).map (·.size) = some 2 := by kernel_rfl
theorem bLies : liesAt Tryz.prog Tryz.prog.depth 170 (2 / Tryz.prog.cellsOf 170) 0 170 1 = true := by kernel_rfl
theorem bInfoByte : (Tryz.prog.info? 5).map (fun i => (i.zero, i.size, i.bytes)) = some (some (.int .u8 0), 1, 1) := by kernel_rfl

set_option maxHeartbeats 1000000 in
set_option maxRecDepth 100000 in
theorem copyCheck_used (b : Nat) (w : World) (h0 : w.cell? ⟨b, 0, none⟩ = some (.pointer (some ⟨b, 0, none⟩))) :
    Calls Tryz.prog 150 #[.pointer (some ⟨b, 0, none⟩)] w fun e w' => e = .returned (.tuple #[]) ∧ w' = w := by
  obtain ⟨j, hj, _⟩ := Option.map_eq_some_iff.1 bSize
  go_enter Tryz.func150, Tryz.ntmps150
  go_wp2
  rw [Lib.run_neq_ptr_same w _ Tryz.underlying167 hj]
  go_wp2
  go_end0
  exact ⟨rfl, rfl⟩
set_option maxHeartbeats 1000000 in
set_option maxRecDepth 100000 in
theorem copyCheck_fresh (b : Nat) (w : World) (h0 : w.cell? ⟨b, 0, none⟩ = some (.pointer none)) (hsh : w.shape? b = some (170, 2)) (hfz : w.frozen? ⟨b, 0, none⟩ = false) :
    Calls Tryz.prog 150 #[.pointer (some ⟨b, 0, none⟩)] w fun e w' => e = .returned (.tuple #[]) ∧ w' = w.setCell ⟨b, 0, none⟩ (.pointer (some ⟨b, 0, none⟩)) := by
  obtain ⟨j, hj, hjs⟩ := Option.map_eq_some_iff.1 bSize
  go_enter Tryz.func150, Tryz.ntmps150
  go_wp2
  rw [Lib.run_to_unsafe w ⟨b, 0, none⟩ Tryz.underlying167 Tryz.underlying269 hj (by rw [hjs]; decide) hsh (Nat.zero_lt_succ 1)]
  simp only [Result.andThen]
  rw [Oper.upon_value]
  go_wp2
  rw [run_callFunc_extern Tryz.func192 (by kernel_rfl) (by kernel_rfl) (by kernel_rfl) (e := Extern.AbiNoEscape.same) (by kernel_rfl)]
  rw [Lib.run_noEscape]
  simp only [Result.andThen]
  rw [Oper.upon_value]
  go_wp2
  rw [Lib.run_from_unsafe w ⟨b, 0, none⟩ Tryz.underlying269 Tryz.underlying167 hj hsh bLies]
  simp only [Result.andThen]
  rw [Oper.upon_value]
  go_wp2
  go_end0
  exact ⟨rfl, rfl⟩
theorem copyCheck_c (B b : Nat) (bs : List Value) (w : World) (h : Lib.IsBuilder 170 5 B b bs w) :
    Calls Tryz.prog 150 #[.pointer (some ⟨b, 0, none⟩)] w fun e w' => e = .returned (.tuple #[]) ∧ (Lib.BuilderAt 170 5 B b (.pointer (some ⟨b, 0, none⟩)) bs w' ∧ Below B w w') := by
  rcases h with h | h
  · refine (copyCheck_fresh b w h.cell0 h.shape h.frozen0).mono ?_
    rintro e w' ⟨rfl, rfl⟩
    exact ⟨rfl, h.used _, (Below.refl B w).setCell (p := ⟨b, 0, none⟩) h.1 _⟩
  · refine (copyCheck_used b w h.cell0).mono ?_
    rintro e w' ⟨rfl, rfl⟩
    exact ⟨rfl, h, Below.refl B _⟩
set_option maxHeartbeats 1000000 in
set_option maxRecDepth 100000 in
theorem WriteString_c (B b : Nat) (l : List UInt8) (s : ByteArray) (m : List UInt8) (hm : s.data.toList = m) (w : World) (h : Bld B b l w) (hlen : l.length + m.length ≤ 140737488355328) (hBw : B ≤ w.heap.size) :
    Calls Tryz.prog 97 #[.pointer (some ⟨b, 0, none⟩), .string s] w fun e w' => e = .returned (.tuple #[.int .i64 m.length, .nilIface]) ∧ (Bld B b (l ++ m) w' ∧ Below B w w') := by
  obtain ⟨i0, hi, hz0, hz1, hz2⟩ := info_parts bInfoByte
  subst hm
  have Hsz := Lib.hid (bs_size s)
  have Hbl := Lib.hid (Lib.byteCells_length l)
  go_enter Tryz.func97, Tryz.ntmps97
  go_wp2_with (go_at_call 150; refine (copyCheck_c B b _ _ h).mono ?_)
  rintro e w1 ⟨rfl, h1, hb1⟩
  obtain ⟨hB, v, hbk, hown, hne⟩ := h1
  have c0 : w1.cell? ⟨b, 0, none⟩ = some (.pointer (some ⟨b, 0, none⟩)) := by rw [Lib.cell_of_heap hbk]; rfl
  have c1 : w1.cell? ⟨b, 1, none⟩ = some v := by rw [Lib.cell_of_heap hbk]; rfl
  go_wp2_with (at_builtin; refine Lib.wpList_append_own_string _ rfl _ _ 168 9 rfl B 5 i0 Tryz.underlying168 Tryz.underlying9 hi hz0 hz1 hz2 _ _ _ rfl hown s rfl ?c3 ?c4 ?c5 ?_)
  case c3 => unfold maxLen; have := Hsz.out; have := Hbl.out; omega
  case c4 => have := Hsz.out; have := Hbl.out; omega
  case c5 => have := hb1.size; omega
  intro v' w2 hown' hgrow _
  have hlt : b < w1.heap.size := lt_of_block hbk
  have hb2 : w2.heap[b]? = some (.cells #[.pointer (some ⟨b, 0, none⟩), v] 170 (0, 0)) := by
    rw [hgrow.block b hlt (fun e => hne e.symm)]
    exact hbk
  have d0 : w2.cell? ⟨b, 0, none⟩ = some (.pointer (some ⟨b, 0, none⟩)) := by rw [Lib.cell_of_heap hb2]; rfl
  have d1 : w2.cell? ⟨b, 1, none⟩ = some v := by rw [Lib.cell_of_heap hb2]; rfl
  have f1 : w2.frozen? ⟨b, 1, none⟩ = false := Lib.frozen_of_heap hb2 1
  obtain ⟨ao, n', cap, rfl⟩ : ∃ ao n' cap, v' = .slice ao n' cap := by
    rcases hown'.2 with ⟨hv, _⟩ | ⟨g, cap, cur, hv, _⟩
    · exact ⟨_, _, _, hv⟩
    · exact ⟨_, _, _, hv⟩
  go_wp2
  go_ret2
  rw [Hsz.out]
  refine ⟨rfl, Or.inr ?_, ?_⟩
  · refine Lib.BuilderAt.put (T := 170) (e := 5) hB hb2 (bs' := Lib.byteCells (l ++ s.data.toList)) ?_ (by decide)
    rw [Lib.byteCells_length, Lib.byteCells_append, List.length_append, ← Hsz.out, ← Hbl.out]
    exact hown'
  · exact (hb1.grown hgrow (by have := hb1.size; omega) (fun k hk => (hown.lt k hk).1)).setCell (p := ⟨b, 1, none⟩) hB _
theorem String_c (B b : Nat) (l : List UInt8) (w : World) (h : Bld B b l w) (hBw : B ≤ w.heap.size) :
    Calls Tryz.prog 100 #[.pointer (some ⟨b, 0, none⟩)] w fun e w' => e = .returned (.string ⟨l.toArray⟩) ∧ Below B w w' :=
  Tryz.Builder_String_any B b l w h hBw
theorem Bld.fresh (w : World) : Bld w.heap.size w.heap.size [] (w.alloc (.cells #[.pointer none, .slice none 0 0] 170)) :=
  Lib.fresh_isBuilder 170 5 w
theorem builderAt_nw {T e : TypeId} {B b : Nat} {p : Value} {bs : List Value} {w w' : World} (h : Lib.BuilderAt T e B b p bs w) (u : Nw w w') : Lib.BuilderAt T e B b p bs w' := by
  obtain ⟨h1, v, h2, h3, h4⟩ := h
  refine ⟨h1, v, u.keep h2, ⟨h3.1, ?_⟩, h4⟩
  rcases h3.2 with h | ⟨g, cap, cur, r1, r2, r3, r4⟩
  · exact Or.inl h
  · exact Or.inr ⟨g, cap, cur, r1, r2, u.keep r3, r4⟩
theorem Bld.nw {B b : Nat} {l : List UInt8} {w w' : World} (h : Bld B b l w) (u : Nw w w') : Bld B b l w' := by
  rcases h with h | h
  · exact Or.inl (builderAt_nw h u)
  · exact Or.inr (builderAt_nw h u)
theorem Bld.lt {B b : Nat} {l : List UInt8} {w : World} (h : Bld B b l w) : b < w.heap.size := by
  rcases h with h | h <;> exact h.lt
end Go.Proofs.YtagmlemlagbfkaaGreatDoor
namespace Go.Proofs.YtagmlemlagbfkaaGreatDoor
open Go.RowKit
set_option linter.unusedVariables false
set_option linter.unusedSimpArgs false
attribute [local irreducible] Calls

theorem Int_e (n : Int) (w : World) (g : Gl w) (h : I64 n) :
    Calls Tryz.prog 151 #[.int .i64 n] w fun e w' => e = .returned (.string ⟨(Wire.intE n).toArray⟩) ∧ Nw w w' := by
  have hl := itoa_le h
  go_enter Tryz.func151, Tryz.ntmps151
  go_wp2_with fail
  (with_reducible refine (Itoa_c n _ g h).mono ?_)
  rintro _ w1 ⟨rfl, u1⟩
  go_wp2_with fail
  go_ret
  exact ⟨rfl, u1⟩
theorem Num_e (n : Int) (w : World) (g : Gl w) (h : I64 n) :
    Calls Tryz.prog 98 #[.int .i64 n] w fun e w' => e = .returned (.string ⟨(Wire.numE n).toArray⟩) ∧ Nw w w' := by
  by_cases hn : n < 0
  · go_enter Tryz.func98, Tryz.ntmps98
    go_wp2_with fail
    go_ret
    rw [show Wire.numE n = [] from if_pos hn]
    exact ⟨rfl, Upd.refl _ _⟩
  · go_enter Tryz.func98, Tryz.ntmps98
    go_wp2_with fail
    (with_reducible refine (Int_e n _ g h).mono ?_)
    rintro _ w1 ⟨rfl, u1⟩
    go_wp2_with fail
    go_ret
    rw [show Wire.numE n = Wire.intE n from if_neg (by omega)]
    exact ⟨rfl, u1⟩
theorem Text_e (s : ByteArray) (l : List UInt8) (hs : s.data.toList = l) (w : World) (g : Gl w) (h : l.length ≤ 140737488351232) :
    Calls Tryz.prog 99 #[.string s] w fun e w' => e = .returned (.string ⟨(Wire.textE l).toArray⟩) ∧ Nw w w' := by
  have hz := bs_size s
  rw [hs] at hz
  have hi : I64 s.size := by unfold I64; omega
  have hl := itoa_le hi
  have Hz := Lib.hid hz
  replace hz : s.size ≤ 140737488351232 := by omega
  go_enter Tryz.func99, Tryz.ntmps99
  go_wp2_with fail
  (with_reducible refine (Itoa_c _ _ g hi).mono ?_)
  rintro _ w1 ⟨rfl, u1⟩
  go_wp2_with fail
  go_ret
  refine ⟨ret_bs ?_, u1⟩
  simp only [bs_append_list, bs_list, hs, Hz.out]
  rfl
end Go.Proofs.YtagmlemlagbfkaaGreatDoor
