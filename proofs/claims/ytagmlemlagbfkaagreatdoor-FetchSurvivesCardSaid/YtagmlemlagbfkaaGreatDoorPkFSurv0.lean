/- Lemmas on worlds that all the seat's proofs use: what may have changed between two worlds; cells of a block that is known whole; slices that read as a list. Maps in memory, as lists of their entries in the order in which they came: made, looked up, stored into. Ranges over maps in memory, in whatever order the entries come: what has been handed out is a list, at the end a permutation of the map's entries. A region that draws its order: whatever comes first only looks, or calls what keeps a class of worlds; its last operations come in one order alone. One walk serves. -/
import Derived.Test.YtagmlemlagbfkaaGreatDoorProg
import Derived.WalkKit
import Derived.Lib.Hide
import Derived.Lib.Builder
import Derived.Lib.LaidTab
import Derived.Lib.ItoaNum
import Derived.Deep.QuietTactic
import Derived.BigQuiet
import Derived.Outline
import Derived.Deep.RegionHeld3
import Derived.Maps.OwnSet
import Derived.Maps.OwnOps
import Derived.DeepKeys4
import Derived.Maps.RangeWalk
import Derived.StillTail
namespace Go.Proofs.YtagmlemlagbfkaaGreatDoor
open Go.RowKit
set_option linter.unusedVariables false
set_option linter.unusedSimpArgs false

/-- The package-level variables that the walks read lie in blocks below this number. -/
def nG : Nat := 4

/-- Of what was there only blocks in S may have changed, and no package-level variable. -/
structure Upd (S : Nat → Prop) (w w' : World) : Prop where
  os : w'.os = w.os
  tape : w'.tape = w.tape
  output : w'.output = w.output
  size : w.heap.size ≤ w'.heap.size
  block : ∀ k, k < w.heap.size → (k < nG ∨ ¬ S k) → w'.heap[k]? = w.heap[k]?

/-- Nothing that was there has changed. -/
abbrev Nw (w w' : World) : Prop := Upd (fun _ => False) w w'

theorem Upd.refl (S : Nat → Prop) (w : World) : Upd S w w := ⟨rfl, rfl, rfl, Nat.le_refl _, fun _ _ _ => rfl⟩
theorem Upd.mono {S S' : Nat → Prop} {w w' : World} (h : Upd S w w') (hs : ∀ k, k < w.heap.size → S k → S' k) : Upd S' w w' :=
  ⟨h.os, h.tape, h.output, h.size, fun k hk hn => h.block k hk (hn.imp id (fun n s => n (hs k hk s)))⟩
theorem Upd.trans' {S S' : Nat → Prop} {a b c : World} (h : Upd S a b) (k : Upd S' b c) (hs : ∀ x, x < a.heap.size → S' x → S x) : Upd S a c :=
  ⟨k.os.trans h.os, k.tape.trans h.tape, k.output.trans h.output, Nat.le_trans h.size k.size,
    fun i hi hn => (k.block i (Nat.lt_of_lt_of_le hi h.size) (hn.imp id (fun n s => n (hs i hi s)))).trans (h.block i hi hn)⟩
theorem Upd.trans {S : Nat → Prop} {a b c : World} (h : Upd S a b) (k : Upd S b c) : Upd S a c := h.trans' k (fun _ _ s => s)
theorem Upd.nw {S : Nat → Prop} {a b c : World} (h : Upd S a b) (k : Nw b c) : Upd S a c := h.trans' k (fun _ _ s => s.elim)
theorem Nw.upd {w w' : World} (S : Nat → Prop) (h : Nw w w') : Upd S w w' := h.mono (fun _ _ s => s.elim)
theorem Nw.trans {S : Nat → Prop} {a b c : World} (h : Nw a b) (k : Upd S b c) : Upd S a c := (h.upd S).trans k
theorem Upd.of_below {w w' : World} (S : Nat → Prop) (h : Below w.heap.size w w') : Upd S w w' :=
  ⟨h.os, h.tape, h.output, h.size, fun k hk _ => h.block k hk⟩
theorem Nw.below {w w' : World} (h : Nw w w') : Below w.heap.size w w' := ⟨h.os, h.tape, h.output, h.size, fun k hk => h.block k hk (Or.inr id)⟩
theorem Upd.drew {S : Nat → Prop} {a b : World} (h : Upd S a b) : Upd S a b.drew := ⟨h.os, h.tape, h.output, h.size, h.block⟩
theorem Upd.drewN {S : Nat → Prop} {a b : World} (h : Upd S a b) (n : Nat) : Upd S a (b.drewN n) := ⟨h.os, h.tape, h.output, h.size, h.block⟩
theorem heap_alloc (w : World) (o : Obj) (k : Nat) (h : k < w.heap.size) : (w.alloc o).heap[k]? = w.heap[k]? := by
  show (w.heap.push o)[k]? = _
  rw [Array.getElem?_push, if_neg (by omega)]
theorem heap_new (w : World) (o : Obj) : (w.alloc o).heap[w.heap.size]? = some o := by
  show (w.heap.push o)[w.heap.size]? = _
  simp
theorem heap_setCell (w : World) (a : Addr) (u : Value) (k : Nat) (h : k ≠ a.block) : (w.setCell a u).heap[k]? = w.heap[k]? := by
  simp only [World.setCell, Array.getElem?_modify]
  rw [if_neg (by omega)]
theorem Upd.alloc {S : Nat → Prop} {a b : World} (h : Upd S a b) (o : Obj) : Upd S a (b.alloc o) :=
  ⟨h.os, h.tape, h.output, by have := h.size; simp; omega, fun k hk hn => (heap_alloc b o k (by have := h.size; omega)).trans (h.block k hk hn)⟩
theorem Upd.setCell {S : Nat → Prop} {a b : World} (h : Upd S a b) {p : Addr} (hp : S p.block ∨ a.heap.size ≤ p.block) (hg : nG ≤ p.block) (u : Value) : Upd S a (b.setCell p u) :=
  ⟨h.os, h.tape, h.output, by simpa [World.setCell] using h.size, fun k hk hn => by
    refine (heap_setCell b p u k ?_).trans (h.block k hk hn)
    rintro rfl
    rcases hp with hp | hp
    · rcases hn with hn | hn
      · omega
      · exact hn hp
    · omega⟩
theorem Upd.set1 {b : Nat} {a w : World} (h : Upd (fun x => x = b) a w) (hg : nG ≤ b) (i : Nat) (u : Value) : Upd (fun x => x = b) a (w.setCell ⟨b, i, none⟩ u) := h.setCell (Or.inl rfl) hg u
theorem Upd.new {S : Nat → Prop} {a w : World} (h : Upd S a w) {b : Nat} (hb : a.heap.size ≤ b) (hg : nG ≤ b) (i : Nat) (u : Value) : Upd S a (w.setCell ⟨b, i, none⟩ u) := h.setCell (Or.inr hb) hg u

theorem nw_drewN (w : World) (n : Nat) : ∃ w1, w.drewN n = w1 ∧ Nw w w1 := ⟨_, rfl, (Upd.refl _ _).drewN n⟩
/-! ### A region that draws its order, whose operations look at old memory alone and whose callees make new memory at most: one walk serves -/
/-- The worlds that have new blocks alone beyond w. -/
def Later (w : World) : Type := { w' : World // Nw w w' }
instance (w : World) : Nonempty (Later w) := ⟨⟨w, Upd.refl _ _⟩⟩
theorem Later.nw {w : World} (i : Later w) : Nw w i.1 := i.2
theorem wp_region_nw {P : Program} {id : Nat} {Q : Exit → Act → World → Prop} {a : Act} {w : World} {l : List Oper} (hm : P.follows .mixedOrders = true) (hB : Region.lexB .any l.toArray = true)
    (h : wpQuiet P l.toArray (fun w' => ∃ i : Later w, w' = i.1) (fun a' => ∀ w', (∃ i : Later w, w' = i.1) → Q .normal a' w') l a) : (Code.region id l.toArray true).wp P Q a w :=
  wp_region_quiet (C := fun w' => ∃ i : Later w, w' = i.1) hm hB ⟨⟨_, (Upd.refl _ w).drew⟩, rfl⟩ (by simpa using h)
theorem later_out {w w' : World} (h : ∃ i : Later w, w' = i.1) : Nw w w' := by
  obtain ⟨i, rfl⟩ := h
  exact i.2
/-- A callee's contract inside such a region. -/
theorem later_call {P : Program} {f : FuncId} {args : Array Value} {w : World} {i : Later w} {v : Value} (h : Calls P f args i.1 fun e w' => e = .returned v ∧ Nw i.1 w') :
    Calls P f args i.1 fun e w' => e = .returned v ∧ ∃ j : Later w, w' = j.1 :=
  h.mono fun _ _ ⟨he, hu⟩ => ⟨he, ⟨_, Upd.trans i.2 hu⟩, rfl⟩
theorem later_cell {w : World} (i : Later w) {a : Addr} {v : Value} (h : w.cell? a = some v) : i.1.cell? a = some v :=
  (World.cell?_of_block (i.2.block a.block (World.block_lt_of_cell? w a h) (Or.inr id))).trans h

/-! ### A block that is known whole -/
theorem lt_of_block {w : World} {b : Nat} {o : Obj} (h : w.heap[b]? = some o) : b < w.heap.size := by
  rcases Nat.lt_or_ge b w.heap.size with h' | h'
  · exact h'
  · simp [Array.getElem?_eq_none h'] at h
theorem cells_cell {w : World} {b : Nat} {cs : Array Value} {T : TypeId} {fz : Nat × Nat} (h : w.heap[b]? = some (.cells cs T fz)) (i : Nat) : w.cell? ⟨b, i, none⟩ = cs[i]? := by
  simp [World.cell?, h]
theorem cells_frozen {w : World} {b : Nat} {cs : Array Value} {T : TypeId} (h : w.heap[b]? = some (.cells cs T (0, 0))) (i : Nat) : w.frozen? ⟨b, i, none⟩ = false := by
  simp [World.frozen?, h]
theorem setCell_block {w : World} {b : Nat} {cs : Array Value} {T : TypeId} {fz : Nat × Nat} (h : w.heap[b]? = some (.cells cs T fz)) (i : Nat) (v : Value) :
    (w.setCell ⟨b, i, none⟩ v).heap[b]? = some (.cells (cs.setIfInBounds i v) T fz) := by
  simp [World.setCell, Array.getElem?_modify, h]
theorem Upd.keep {S : Nat → Prop} {w w' : World} {b : Nat} {o : Obj} (u : Upd S w w') (h : w.heap[b]? = some o) (hn : ¬ S b) : w'.heap[b]? = some o :=
  (u.block b (lt_of_block h) (Or.inr hn)).trans h
theorem Nw.keep {w w' : World} {b : Nat} {o : Obj} (u : Nw w w') (h : w.heap[b]? = some o) : w'.heap[b]? = some o := Upd.keep u h id

/-! ### Strings as lists of bytes -/
theorem bs_extract (l : List UInt8) (a b : Nat) : (ByteArray.mk l.toArray).extract a b = ByteArray.mk ((l.drop a).take (b - a)).toArray := ByteArray.extract_mk l a b
theorem bs_list (l : List UInt8) : (ByteArray.mk l.toArray).data.toList = l := by simp
theorem bs_extract_list (s : ByteArray) (a b : Nat) : (s.extract a b).data.toList = (s.data.toList.drop a).take (b - a) := by
  cases s with | mk d => rw [show (ByteArray.mk d) = ByteArray.mk d.toList.toArray by simp, bs_extract]
theorem bs_append_list (a b : ByteArray) : (a ++ b).data.toList = a.data.toList ++ b.data.toList := by simp [ByteArray.data_append]
theorem bs_size (s : ByteArray) : s.size = s.data.toList.length := by rw [Array.length_toList]; rfl
theorem bs_toList (s : ByteArray) : s.toList = s.data.toList := ByteArray.toList_eq s
theorem nw_alloc (w : World) (o : Obj) : Nw w (w.alloc o) := (Upd.refl _ w).alloc o
theorem bs_eta (s : ByteArray) : ByteArray.mk (s.data.toList).toArray = s := by cases s; simp
theorem ret_bs {s : ByteArray} {l : List UInt8} (h : s.data.toList = l) : Ending.returned (.string s) = .returned (.string ⟨l.toArray⟩) := by rw [← h, bs_eta]
theorem ret_int {k : IntKind} {a b : Int} (h : a = b) : Ending.returned (.int k a) = .returned (.int k b) := by rw [h]
theorem ret_bool {a b : Bool} (h : a = b) : Ending.returned (.bool a) = .returned (.bool b) := by rw [h]

/-! ### A slice whose elements have one cell each, and that reads as a list -/
/-- The slice v reads as xs; its array lies in a block from lo on, below hi. -/
def Sl (lo hi : Nat) (w : World) (v : Value) (xs : List Value) : Prop :=
  (∃ a cap, v = .slice a 0 cap ∧ xs = []) ∨
  ∃ b off cap, v = .slice (some ⟨b, off, none⟩) xs.length cap ∧ xs.length ≤ cap ∧ cap ≤ maxLen ∧ lo ≤ b ∧ b < hi ∧ b < w.heap.size ∧ ∀ i, i < xs.length → w.cell? ⟨b, off + i, none⟩ = xs[i]?
theorem Sl.nil {α : Type} (lo hi : Nat) (w : World) (f : α → Value) : Sl lo hi w (.slice none 0 0) (List.map f []) := Or.inl ⟨_, _, rfl, rfl⟩
theorem Sl.upd {lo hi : Nat} {S : Nat → Prop} {w w' : World} {v : Value} {xs : List Value} (h : Sl lo hi w v xs) (u : Upd S w w') (hs : ∀ k, lo ≤ k → k < hi → ¬ S k) : Sl lo hi w' v xs := by
  rcases h with h | ⟨b, off, cap, h1, h2, h3, h4, h5, h6, h7⟩
  · exact Or.inl h
  · refine Or.inr ⟨b, off, cap, h1, h2, h3, h4, h5, Nat.lt_of_lt_of_le h6 u.size, fun i hi' => ?_⟩
    rw [← h7 i hi']
    exact World.cell?_of_block (u.block b h6 (Or.inr (hs b h4 h5)))
theorem Sl.nw {lo hi : Nat} {w w' : World} {v : Value} {xs : List Value} (h : Sl lo hi w v xs) (u : Nw w w') : Sl lo hi w' v xs := h.upd u (fun _ _ _ s => s)
theorem Sl.len {lo hi : Nat} {w : World} {v : Value} {xs : List Value} (h : Sl lo hi w v xs) : xs.length ≤ maxLen := by
  rcases h with ⟨_, _, _, rfl⟩ | ⟨b, off, cap, h1, h2, h3, h4, h5, h6, h7⟩
  · exact Nat.zero_le _
  · exact Nat.le_trans h2 h3
/-- A slice that the call owns reads as a list, where each element has one cell. -/
theorem Sl.of_owns {base : Nat} {e : TypeId} {w : World} {v : Value} {n : Nat} {xs : List Value} (h : w.ownsRow base e 1 v n xs) : Sl base w.heap.size w v xs := by
  obtain ⟨h1, h2⟩ := h
  rw [Nat.mul_one] at h1
  rcases h2 with ⟨rfl, rfl⟩ | ⟨g, cap, cur, rfl, hb, hg, hn, hm, hs, ht⟩
  · exact Or.inl ⟨_, _, rfl, List.length_eq_zero_iff.1 h1⟩
  · subst h1
    refine Or.inr ⟨g, 0, cap, rfl, hn, hm, hb, lt_of_block hg, lt_of_block hg, fun i hi => ?_⟩
    rw [cells_cell hg, Nat.zero_add, ← ht, Nat.mul_one, List.getElem?_take, if_pos hi]
    simp
theorem Upd.grown {S : Nat → Prop} {a w w' : World} {row : Option Nat} (h : Upd S a w) (hg : w.grownBy w' row) (hr : ∀ k, row = some k → (S k ∨ a.heap.size ≤ k) ∧ nG ≤ k) : Upd S a w' :=
  ⟨hg.os.trans h.os, hg.tape.trans h.tape, hg.output.trans h.output, Nat.le_trans h.size hg.size, fun k hk hn => by
    refine (hg.block k (Nat.lt_of_lt_of_le hk h.size) (fun e => ?_)).trans (h.block k hk hn)
    obtain ⟨h1, h2⟩ := hr k e.symm
    rcases hn with hn | hn
    · omega
    · rcases h1 with h1 | h1
      · exact hn h1
      · omega⟩
theorem grown_keep {w w' : World} {row : Option Nat} {b : Nat} {o : Obj} (hg : w.grownBy w' row) (h : w.heap[b]? = some o) (hn : row ≠ some b) : w'.heap[b]? = some o :=
  (hg.block b (lt_of_block h) (fun e => hn e.symm)).trans h
/-- What the walk is told of a slice: an address (if there is an element), a length, a capacity, the cells. -/
theorem Sl.open_ {lo hi : Nat} {w : World} {v : Value} {xs : List Value} (h : Sl lo hi w v xs) :
    ∃ a cap, v = .slice a xs.length cap ∧ xs.length ≤ maxLen ∧ ((True ∧ True ∧ xs = []) ∨ ∃ b off, a = some ⟨b, off, none⟩ ∧ lo ≤ b ∧ b < hi ∧ b < w.heap.size ∧ ∀ i, i < xs.length → w.cell? ⟨b, off + i, none⟩ = xs[i]?) := by
  have hl := h.len
  rcases h with ⟨a, cap, rfl, rfl⟩ | ⟨b, off, cap, h1, h2, h3, h4, h5, h6, h7⟩
  · exact ⟨a, cap, rfl, hl, Or.inl ⟨trivial, trivial, rfl⟩⟩
  · exact ⟨some ⟨b, off, none⟩, cap, h1, hl, Or.inr ⟨b, off, rfl, h4, h5, h6, h7⟩⟩
theorem add_plain (b o j : Nat) : (⟨b, o, none⟩ : Addr).add j = ⟨b, o + j, none⟩ := by
  unfold Addr.add
  split
  · rename_i h; subst h; rfl
  · rfl
/-- 'out = append(out, x)' onto a slice that is nil or the call's own; x's cells lie in the new block that the walk has just made. -/
theorem wpList_app {P : Program} {w : World} {ops : Array Oper} {rest : List Oper} {o : Oper} {a : Act} {Q : Exit → Act → World → Prop} (hgd : o.guard = none) (s x : Operand) (t : TypeId)
    (ho : o.op = .call { callee := .builtin .append, args := #[s, x], argTypes := #[t, t] })
    (base : Nat) (e : TypeId) (z : Value) (size bytes : Nat) (ht : P.underlying t = some (.slice e)) (hinfo : (P.info? e).map (fun i => (i.zero, i.size, i.bytes)) = some (some z, size, bytes)) (hzs : z.cells.size = size) (hsz : 0 < size)
    (v : Value) (n : Nat) (xs : List Value) (hs : a.eval s = v) (hown : w.ownsRow base e size v n xs)
    (news : List Value) (hx : a.eval x = .slice (some ⟨w.heap.size, 0, none⟩) 1 1) (hl : news.length = size) (h1 : ∀ u ∈ news, u.oneCell' = true)
    (h63 : n + 1 ≤ maxLen) (hbytes : (n + 1) * bytes ≤ 140737488355328) (hbase : base ≤ w.heap.size)
    (h : ∀ v' w', w'.ownsRow base e size v' (n + 1) (xs ++ news) → Nw w (w.alloc (.cells news.toArray e)) → (w.alloc (.cells news.toArray e)).grownBy w' v.ownBlock → (∀ k, v.ownBlock = some k → base ≤ k ∧ k < w.heap.size) → wpList P ops Q rest (a.put o.dst v') w') : wpList P ops Q (o :: rest) a (w.alloc (.cells news.toArray e)) := by
  obtain ⟨i0, hi, hz0, hz1, hz2⟩ := info_parts hinfo
  refine wpList_append_own _ hgd s x t ho base e i0 z size bytes ht hi hz0 hz1 hz2 hzs hsz v n xs hs (hown.alloc _) ⟨w.heap.size, 0, none⟩ 1 1 news hx (by omega) ?_ h1 h63 hbytes (by simp; omega) fun v' w' h2 h3 _ => h v' w' h2 (nw_alloc _ _) h3 hown.lt
  intro j u hu
  have hb := heap_new w (.cells news.toArray e)
  rw [add_plain, cells_cell hb, Nat.zero_add]
  simpa using hu
end Go.Proofs.YtagmlemlagbfkaaGreatDoor
namespace Go.Proofs.YtagmlemlagbfkaaGreatDoor
open Go.RowKit Go.MapKept
open Go.Maps (Keyed)
set_option linter.unusedVariables false
set_option linter.unusedSimpArgs false

/-- Block b is a map whose entries are l, in some order; each key can be read, no two are the same. -/
def MapL (P : Program) (k : TypeId) (w : World) (b : Nat) (l : List (Value × Value)) : Prop :=
  ∃ es clock, w.heap[b]? = some (.map es clock) ∧ (es.toList.map (fun e => (e.key, e.val))).Perm l ∧ (∀ p ∈ l, ∃ x, keyOf P k p.1 = some x) ∧ Stamped es clock
theorem MapL.lt {P : Program} {k : TypeId} {w : World} {b : Nat} {l : List (Value × Value)} (h : MapL P k w b l) : b < w.heap.size := by
  obtain ⟨es, clock, hb, _⟩ := h
  exact lt_of_block hb
theorem MapL.upd {P : Program} {k : TypeId} {w w' : World} {b : Nat} {l : List (Value × Value)} {S : Nat → Prop} (h : MapL P k w b l) (u : Upd S w w') (hn : ¬ S b) : MapL P k w' b l := by
  obtain ⟨es, clock, hb, r⟩ := h
  exact ⟨es, clock, u.keep hb hn, r⟩
theorem MapL.nw {P : Program} {k : TypeId} {w w' : World} {b : Nat} {l : List (Value × Value)} (h : MapL P k w b l) (u : Nw w w') : MapL P k w' b l := h.upd u id
theorem MapL.made (P : Program) (k : TypeId) (w : World) : MapL P k (w.alloc (.map #[] 0)) w.heap.size [] :=
  ⟨#[], 0, heap_new w _, List.Perm.refl _, (fun p hp => by cases hp), stamped_empty 0⟩
theorem MapL.perm {P : Program} {k : TypeId} {w : World} {b : Nat} {l l' : List (Value × Value)} (h : MapL P k w b l) (hp : l.Perm l') : MapL P k w b l' := by
  obtain ⟨es, clock, hb, h1, h2, h3⟩ := h
  exact ⟨es, clock, hb, h1.trans hp, fun p hq => h2 p (hp.mem_iff.2 hq), h3⟩
/-- 'm[k]': an entry is there, or none is. -/
theorem MapL.look {P : Program} {t k e : TypeId} {w : World} {b : Nat} {l : List (Value × Value)} (h : MapL P k w b l) (K : Keyed P k) (ht : P.underlying t = some (.map k e)) {z : Value} (hz : (zeroValue e).run P w = .ok z w) {key : Value} {kl : Lit} (hkey : keyOf P k key = some kl) :
    (∃ v, (key, v) ∈ l ∧ ∀ c, (Instr.lookup t (.map (some b)) key c).run P w = .ok (if c then .tuple #[v, .bool true] else v) w) ∨
    ((∀ p ∈ l, p.1 ≠ key) ∧ ∀ c, (Instr.lookup t (.map (some b)) key c).run P w = .ok (if c then .tuple #[z, .bool false] else z) w) := by
  obtain ⟨es, clock, hb, hpm, hk, hs⟩ := h
  have hke : ∀ x ∈ es.toList, ∃ l, keyOf P k x.key = some l := fun x hx => hk (x.key, x.val) (hpm.mem_iff.1 (List.mem_map.2 ⟨x, hx, rfl⟩))
  rcases K.find w hkey es.toList hke with ⟨h1, h2⟩ | ⟨j, e0, h1, h2, h3⟩
  · refine Or.inr ⟨fun p hp => ?_, fun c => by simp [Instr.lookup, run_underlying ht, MapKept.run_getObj_map hb, K.check w _ hkey, h1, hz, Result.andThen]⟩
    obtain ⟨x, hx, rfl⟩ := List.mem_map.1 (hpm.mem_iff.2 hp)
    exact h2 x hx
  · have hm0 : e0 ∈ es.toList := List.mem_of_getElem? h2
    refine Or.inl ⟨e0.val, hpm.mem_iff.1 (List.mem_map.2 ⟨e0, hm0, by rw [h3]⟩), fun c => by simp [Instr.lookup, run_underlying ht, MapKept.run_getObj_map hb, K.check w _ hkey, h1, Result.andThen]⟩
theorem Upd.setBlock {w : World} {b : Nat} (hg : nG ≤ b) (o : Obj) : Upd (· = b) w { w with heap := w.heap.setIfInBounds b o } :=
  ⟨rfl, rfl, rfl, by simp, fun k hk hn => by
    have hne : b ≠ k := by
      rintro rfl
      rcases hn with hn | hn
      · omega
      · exact hn rfl
    simp [Array.getElem?_setIfInBounds, hne]⟩
/-- 'm[k] = v', the key not there: the entry comes last. -/
theorem MapL.store_new {P : Program} {t k e : TypeId} {w : World} {b : Nat} {l : List (Value × Value)} (h : MapL P k w b l) (K : Keyed P k) (ht : P.underlying t = some (.map k e)) (hg : nG ≤ b) {key : Value} {kl : Lit} (hkey : keyOf P k key = some kl) (hno : ∀ p ∈ l, p.1 ≠ key) (val : Value) :
    ∃ w', (Instr.mapUpdate t (.map (some b)) key val).run P w = .ok () w' ∧ MapL P k w' b (l ++ [(key, val)]) ∧ Upd (· = b) w w' := by
  obtain ⟨es, clock, hb, hpm, hk, hs⟩ := h
  have hke : ∀ x ∈ es.toList, ∃ l, keyOf P k x.key = some l := fun x hx => hk (x.key, x.val) (hpm.mem_iff.1 (List.mem_map.2 ⟨x, hx, rfl⟩))
  have hlt := lt_of_block hb
  have hno2 : ∀ x ∈ es.toList, x.key ≠ key := fun x hx => hno (x.key, x.val) (hpm.mem_iff.1 (List.mem_map.2 ⟨x, hx, rfl⟩))
  rcases K.find w hkey es.toList hke with ⟨h1, h2⟩ | ⟨j, e0, h1, h2, h3⟩
  · refine ⟨{ w with heap := w.heap.setIfInBounds b (.map (es.push ⟨key, val, clock⟩) (clock + 1)) }, ?_, ⟨es.push ⟨key, val, clock⟩, clock + 1, ?_, by simpa using hpm.append_right [(key, val)], ?_, stamped_push hs h2⟩, Upd.setBlock hg _⟩
    · simp [Instr.mapUpdate, run_underlying ht, MapKept.run_getObj_map hb, K.check w false hkey, h1, MapKept.run_setObj_map _ hb, Result.andThen]
    · simp [Array.getElem?_setIfInBounds, hlt]
    · intro p hp
      rcases List.mem_append.1 hp with hp | hp
      · exact hk p hp
      · rw [List.mem_singleton.1 hp]; exact ⟨kl, hkey⟩
  · exact absurd h3 (hno2 e0 (List.mem_of_getElem? h2))
/-- 'm[k]', 'v, ok := m[k]' at the operation, by its run. -/
theorem wpList_lookL {P : Program} {w : World} {ops : Array Oper} {rest : List Oper} {o : Oper} {a : Act} {Q : Exit → Act → World → Prop} (hg : o.guard = none) (m x : Operand) (t : TypeId) (c : Bool) (hop : o.op = Op.lookup t m x c)
    (vm key v : Value) (hm : a.eval m = vm) (hx : a.eval x = key) (hrun : (Instr.lookup t vm key c).run P w = .ok v w) (h : wpList P ops Q rest (a.put o.dst v) w) : wpList P ops Q (o :: rest) a w := by
  refine wpList_plain hg fun K hK => ?_
  unfold Oper.wp
  simp [execOp, hop, hm, hx, hrun, Result.andThen]
  exact hK _ _ h
/-- 'm[k] = v' at the operation, by its run. -/
theorem wpList_storeL {P : Program} {w w' : World} {ops : Array Oper} {rest : List Oper} {o : Oper} {a : Act} {Q : Exit → Act → World → Prop} (hg : o.guard = none) (m x y : Operand) (t : TypeId) (hop : o.op = Op.mapUpdate t m x y)
    (vm key v : Value) (hm : a.eval m = vm) (hx : a.eval x = key) (hy : a.eval y = v) (hrun : (Instr.mapUpdate t vm key v).run P w = .ok () w') (h : wpList P ops Q rest (a.put o.dst undef) w') : wpList P ops Q (o :: rest) a w := by
  refine wpList_plain hg fun K hK => ?_
  unfold Oper.wp
  simp [execOp, hop, hm, hx, hy, hrun, Result.andThen]
  exact hK _ _ h
theorem i64_wf' {k : Int} (h : -9223372036854775808 ≤ k ∧ k ≤ 9223372036854775807) : (Lit.int .i64 k).wf = true := by
  simp [Lit.wf, IntKind.min, IntKind.max, IntKind.signed, IntKind.bits]
  omega
end Go.Proofs.YtagmlemlagbfkaaGreatDoor
namespace Go.Proofs.YtagmlemlagbfkaaGreatDoor
open Go.RowKit Go.MapKept
open Go.Maps (Keyed)
open Go.ChangeMaps (setBlock)
set_option linter.unusedVariables false
set_option linter.unusedSimpArgs false

def kv (e : MapEntry) : Value × Value := (e.key, e.val)
/-- Block b is a map with the entries l; r is an iterator over it that has handed out d. -/
def RangeL (P : Program) (k : TypeId) (w : World) (b r : Nat) (l d : List (Value × Value)) : Prop :=
  ∃ es clock since seen c0, ∃ D : List MapEntry, w.heap[b]? = some (.map es clock) ∧ (es.toList.map kv).Perm l ∧ (∀ p ∈ l, ∃ x, keyOf P k p.1 = some x) ∧ Stamped es clock ∧
    w.heap[r]? = some (.mapIter (some b) since seen c0) ∧ (∀ x ∈ es.toList, x.born < since) ∧ since ≤ c0 ∧ since ≤ clock ∧ (∀ x ∈ D, x ∈ es.toList) ∧ D.Nodup ∧ seen.toList = D.map (·.born) ∧ D.map kv = d
variable {P : Program} {k : TypeId} {w : World} {b r : Nat} {l d : List (Value × Value)}
theorem RangeL.upd {S : Nat → Prop} {w' : World} (h : RangeL P k w b r l d) (u : Upd S w w') (hb : ¬ S b) (hr : ¬ S r) : RangeL P k w' b r l d ∧ w'.rangeLeft b r = w.rangeLeft b r := by
  obtain ⟨es, clock, since, seen, c0, D, h1, h2, h3, h4, h5, h6⟩ := h
  refine ⟨⟨es, clock, since, seen, c0, D, u.keep h1 hb, h2, h3, h4, u.keep h5 hr, h6⟩, ?_⟩
  unfold World.rangeLeft
  rw [u.keep h1 hb, h1, u.keep h5 hr, h5]
theorem RangeL.lt (h : RangeL P k w b r l d) : b < w.heap.size ∧ r < w.heap.size ∧ r ≠ b := by
  obtain ⟨es, clock, since, seen, c0, D, h1, h2, h3, h4, h5, h6⟩ := h
  refine ⟨lt_of_block h1, lt_of_block h5, fun e => ?_⟩
  rw [e, h1] at h5
  cases h5
theorem RangeL.map (h : RangeL P k w b r l d) : MapL P k w b l := by
  obtain ⟨es, clock, since, seen, c0, D, h1, h2, h3, h4, h5, h6⟩ := h
  exact ⟨es, clock, h1, h2, h3, h4⟩
/-- 'range m'. -/
theorem MapL.range {t e : TypeId} (h : MapL P k w b l) (ht : P.underlying t = some (.map k e)) :
    ∃ w', (Instr.range t (.map (some b))).run P w = .ok (.pointer (some ⟨w.heap.size, 0, none⟩)) w' ∧ RangeL P k w' b w.heap.size l [] ∧ Nw w w' := by
  obtain ⟨es, clock, h1, h2, h3, h4⟩ := h
  refine ⟨_, run_range_map w t k e b es clock ht h1, ⟨es, clock, clock, #[], clock, [], Nw.keep (nw_alloc w _) h1, h2, h3, h4, heap_new w _, h4.1, Nat.le_refl _, Nat.le_refl _, by simp, by simp, by simp, rfl⟩, nw_alloc _ _⟩
theorem stamp_nodup {es : List MapEntry} (h : (es.map (·.born)).Nodup) : es.Nodup := (List.pairwise_map.1 h).imp (fun hne e => hne (by rw [e]))
/-- THE STEP: nothing is left, and all has been handed out; or an entry comes whose key has not. -/
theorem RangeL.next (h : RangeL P k w b r l d) (hg : nG ≤ r) (ty : TypeId) :
    (l.Perm d ∧ (Instr.next (.pointer (some ⟨r, 0, none⟩)) false ty).run P w = .ok (.tuple #[.bool false]) w) ∨
    ∃ p, p ∈ l ∧ (∀ q ∈ d, q.1 ≠ p.1) ∧ ∃ w', (Instr.next (.pointer (some ⟨r, 0, none⟩)) false ty).run P w = .ok (.tuple #[.bool true, p.1, p.2]) w' ∧ RangeL P k w' b r l (d ++ [p]) ∧ Upd (· = r) w w' ∧
      w'.rangeLeft b r < w.rangeLeft b r ∧ (Instr.entry (.pointer (some ⟨r, 0, none⟩))).run P w' = .ok (.tuple #[p.1, p.2]) w' := by
  have hne := h.lt.2.2
  have hrlt := h.lt.2.1
  obtain ⟨es, clock, since, seen, c0, D, h1, h2, h3, h4, h5, h6, h7, h8, h9, h10, h11, rfl⟩ := h
  have hst := (stamped_iff es clock).1 h4
  rcases run_next_at (P := P) w ty r b since c0 seen es clock h5 h1 h6 h7 with ⟨h0, hrun⟩ | ⟨e, he, w1, hal, hrun⟩
  · refine Or.inl ⟨h2.symm.trans (List.Perm.map _ ?_), hrun⟩
    refine (List.perm_ext_iff_of_nodup (stamp_nodup hst.2.1) h10).2 fun x => ⟨fun hx => ?_, h9 x⟩
    have hs := all_seen es seen h0 x hx
    have hm : x.born ∈ D.map (·.born) := by rw [← h11]; simpa using hs
    obtain ⟨y, hy, hyb⟩ := List.mem_map.1 hm
    rw [← born_inj hst.2.1 (h9 y hy) hx hyb]
    exact hy
  · obtain ⟨hem, hes⟩ := mem_left he
    have hnot : e ∉ D := fun hd => by
      have hm : e.born ∈ seen.toList := by rw [h11]; exact List.mem_map.2 ⟨e, hd, rfl⟩
      rw [Array.contains_eq_mem] at hes
      simp at hm hes
      exact hes hm
    have hr1 : w1.heap[r]? = some (.mapIter (some b) since seen c0) := by rcases hal with rfl | rfl <;> exact h5
    have hb1 : w1.heap[b]? = some (.map es clock) := by rcases hal with rfl | rfl <;> exact h1
    have hset := heap_set (o' := .mapIter (some b) since (seen.push e.born) clock) hr1
    have hb' : (setBlock w1 r (.mapIter (some b) since (seen.push e.born) clock)).heap[b]? = some (.map es clock) := (hset.2 b (fun e1 => hne e1.symm)).trans hb1
    refine Or.inr ⟨kv e, h2.mem_iff.1 (List.mem_map.2 ⟨e, hem, rfl⟩), fun q hq hk => ?_, _, hrun, ⟨es, clock, since, seen.push e.born, clock, D ++ [e], hb', h2, h3, h4, hset.1, h6, h8, h8, fun x hx => ?_, ?_, ?_, by simp⟩, ?_, ?_, run_entry_at _ r b since seen es clock e hset.1 hb' hem hst.2.1⟩
    · obtain ⟨x, hx, rfl⟩ := List.mem_map.1 hq
      obtain rfl := entry_eq_of_key hst.2.2 (h9 x hx) hem hk
      exact hnot hx
    · rcases List.mem_append.1 hx with hx | hx
      · exact h9 x hx
      · rw [List.mem_singleton.1 hx]; exact hem
    · rw [List.nodup_append]
      exact ⟨h10, by simp, fun a ha y hy e1 => by rw [List.mem_singleton] at hy; subst hy; subst e1; exact hnot ha⟩
    · simp [h11]
    · rcases hal with rfl | rfl <;> exact ⟨rfl, rfl, rfl, by simp [setBlock], fun i _ hi => hset.2 i (fun e1 => by subst e1; rcases hi with hi | hi; omega; exact hi rfl)⟩
    · unfold World.rangeLeft
      have hr' : (setBlock w1 r (.mapIter (some b) since (seen.push e.born) clock)).heap[r]? = some (.mapIter (some b) since (seen.push e.born) clock) := hset.1
      rw [hb', hr', h1, h5]
      exact left_shrinks es seen e he
end Go.Proofs.YtagmlemlagbfkaaGreatDoor
namespace Go.Proofs.YtagmlemlagbfkaaGreatDoor
open Go.RowKit
set_option linter.unusedVariables false
set_option linter.unusedSimpArgs false
section
variable {P : Program} {md : Region.Mode} {ops : Array Oper} {C : World → Prop}
/-- All orders of the operations before number n, in every world of the class. -/
def headQ (P : Program) (md : Region.Mode) (ops : Array Oper) (C : World → Prop) (n : Nat) (L : Array Bool → Act → Prop) : Nat → Array Bool → Act → Prop
  | 0, listed, a => L listed a
  | f + 1, listed, a => Region.ready md ops listed ≠ [] ∧ ∀ i ∈ Region.ready md ops listed, i < n ∧ qOp P ops C i (headQ P md ops C n L f (listed.setIfInBounds i true)) a
theorem any_of_headQ {n g : Nat} {L : Array Bool → Act → Prop} {Q' : Exit → Act → World → Prop} (hL : ∀ listed a w, C w → L listed a → wpAny P md ops Q' g listed a w) :
    ∀ (f : Nat) (listed : Array Bool) (a : Act) (w : World), C w → headQ P md ops C n L f listed a → wpAny P md ops Q' (f + g) listed a w
  | 0, listed, a, w, hw, h => by rw [Nat.zero_add]; exact hL _ _ _ hw h
  | f + 1, listed, a, w, hw, h => by
    rw [show f + 1 + g = (f + g) + 1 by omega]
    exact ⟨fun h0 => absurd h0 h.1, fun i hi => wpOp_of_qOp hw (fun a' w' hw' h' => any_of_headQ hL f _ a' w' hw' h') (h.2 i hi).2⟩
theorem headQ_first {n i : Nat} {oi : Oper} {v : Value} {L : Array Bool → Act → Prop} (hi : ops[i]? = some oi) (hsel : ∀ (j : Nat) (o : Oper) cs b, ops[j]? = some o → o.op ≠ .select cs b)
    (hs : Region.sinkB md ops n = true) (hc : Region.chainB md ops n = true) (hn : n < ops.size) (hin : i < n)
    (hdone : ∀ listed a, L listed a → ∀ j ∈ Region.ready md ops listed, n ≤ j) :
    ∀ (f : Nat) (listed : Array Bool) (a : Act), HeadInv md ops n listed →
      (∀ j oj, ops[j]? = some oj → j ≠ i → listed.getD j true = false → (∀ e ∈ oj.after, Region.binds md e = true → e.on ≠ i) → oi.apart ops oj = true) →
      i ∈ Region.ready md ops listed → YieldsIn P ops C oi v a →
      headQ P md ops C n L f (listed.setIfInBounds i true) (a.put oi.dst v) → headQ P md ops C n L (f + 1) listed a := by
  intro f
  induction f with
  | zero =>
    intro listed a inv _ hr hy H
    have hun := (mem_ready.1 hr).1
    refine ⟨fun h => (by rw [h] at hr; cases hr), fun j hj => ?_⟩
    have hjn : j < n := by
      rcases Nat.lt_or_ge j n with h | h
      · exact h
      · exact absurd hj (tail_waits hs hc hn inv _ i rfl hin hun j h)
    refine ⟨hjn, ?_⟩
    by_cases hji : j = i
    · subst hji; exact hy.qOp hi H
    · have := hdone _ _ H j (ready_mono hj hji)
      omega
  | succ f ih =>
    intro listed a inv hfree hr hy H
    have hun := (mem_ready.1 hr).1
    refine ⟨fun h => (by rw [h] at hr; cases hr), fun j hj => ?_⟩
    have hjn : j < n := by
      rcases Nat.lt_or_ge j n with h | h
      · exact h
      · exact absurd hj (tail_waits hs hc hn inv _ i rfl hin hun j h)
    refine ⟨hjn, ?_⟩
    by_cases hji : j = i
    · subst hji; exact hy.qOp hi H
    · have h1 := (H.2 j (ready_mono hj hji)).2
      obtain ⟨hjun, oj, hoj, hall⟩ := mem_ready.1 hj
      have hnot : ∀ e ∈ oj.after, Region.binds md e = true → e.on ≠ i := fun e he hb heq => by
        have h1 := hall e he hb
        rw [heq, getD_both hun] at h1
        cases h1
      have h2 := qOp_put hoj (hfree j oj hoj hji hjun hnot) (fun cs b => hsel i oi cs b hi) (fun cs b => hsel j oj cs b hoj) hy h1
      have hfree' : ∀ k ok, ops[k]? = some ok → k ≠ i → (listed.setIfInBounds j true).getD k true = false →
          (∀ e ∈ ok.after, Region.binds md e = true → e.on ≠ i) → oi.apart ops ok = true := fun k ok hk hki hun hno => by
        refine hfree k ok hk hki ?_ hno
        by_cases hjk : j = k
        · subst hjk; exact hjun
        · rw [getD_set_ne true hjk] at hun; exact hun
      refine qOp_mono (fun a' h3 => ih (listed.setIfInBounds j true) a' (inv.set hj hjn) hfree' (ready_mono hr (Ne.symm hji)) h3.1 ?_) h2
      rw [Array.setIfInBounds_comm _ _ hji]
      exact h3.2
theorem headQ_lex {n g : Nat} {Lq : Act → Prop} (hsel : Region.noSelect ops = true) (hs : Region.sinkB md ops n = true) (hc : Region.chainB md ops n = true) (hn : n < ops.size) :
    ∀ (l : List Oper) (k : Nat) (listed : Array Bool) (a : Act), (∀ j, j < l.length → l[j]? = ops[k + j]?) → k + l.length = n → HeadInv md ops n listed →
    Region.lexHead md ops g l.length k listed = true → wpQuiet P ops C Lq l a →
    headQ P md ops C n (fun listed' a' => Region.seqB md ops g n listed' = true ∧ Lq a') l.length listed a
  | [], k, listed, a, _, hk, _, hB, h => by
    have : k = n := by simpa using hk
    subst this
    exact ⟨by simpa [Region.lexHead] using hB, h⟩
  | o :: l, k, listed, a, hl, hk, inv, hB, h => by
    have h0 : ops[k]? = some o := by simpa using (hl 0 (by simp)).symm
    simp only [List.length_cons, Region.lexHead, Bool.and_eq_true] at hB
    obtain ⟨⟨hr, hf⟩, hB'⟩ := hB
    have hkn : k < n := by simp only [List.length_cons] at hk; omega
    have hr' : k ∈ Region.ready md ops listed := by simpa using hr
    have hst : qOp P ops C k (wpQuiet P ops C Lq l) a := by unfold qOp; simp only [h0]; exact h
    obtain ⟨v, hy, hK⟩ := yieldsIn_of_qOp h0 hst
    exact headQ_first h0 (Region.noSelect_spec hsel) hs hc hn hkn (fun listed' a' hL => seqB_ready hL.1) l.length listed a inv (Region.free_spec h0 hf) hr' hy
      (headQ_lex hsel hs hc hn l (k + 1) _ _ (fun j hj => by have := hl (j + 1) (by simp; omega); simpa [Nat.add_assoc, Nat.add_comm 1 j] using this) (by simp only [List.length_cons] at hk; omega) (inv.set hr' hkn) hB' hK)
theorem wp_region_quiet_tail {id : Nat} {Q : Exit → Act → World → Prop} {a : Act} {w : World} {l : List Oper} (n : Nat) (hm : P.follows .mixedOrders = true) (hB : Region.lexTailB .any l.toArray n = true) (hC : C w.drew)
    (h : wpQuiet P l.toArray C (fun a' => ∀ w', C w' → wpList P l.toArray Q (l.drop n) a' w') (l.take n) a) : (Code.region id l.toArray true).wp P Q a w := by
  simp only [Region.lexTailB, Bool.and_eq_true, decide_eq_true_eq] at hB
  obtain ⟨⟨⟨⟨hsel, hn⟩, hs⟩, hc⟩, hlex⟩ := hB
  have hn' : n < l.length := by simpa using hn
  have htl : (l.take n).length = n := by simp; omega
  have hdl : (l.drop n).length = l.toArray.size - n := by simp
  have inv0 : HeadInv .any l.toArray n (Array.replicate l.toArray.size false) :=
    ⟨by simp, fun j oj _ hl => (by rw [getD_replicate_false] at hl; cases hl), fun t _ ht => getD_in (by simpa using ht) (getD_replicate_false _ _)⟩
  have H := headQ_lex (md := .any) (g := l.toArray.size - n) hsel hs hc hn (l.take n) 0 _ a (fun j hj => by
    have hj' : j < n := by rw [htl] at hj; exact hj
    simp [hj']) (by simpa using htl) inv0 (by rw [htl]; exact hlex) h
  refine wp_region_any hm ?_
  have := any_of_headQ (Q' := Q) (g := l.toArray.size - n) (fun listed a' w' hw' hL => by
    have := wpAny_of_seq (md := .any) (Q' := Q) (l.drop n) n listed a' w' (fun j => by simp [List.getElem?_drop]) (by rw [hdl]; exact hL.1) (hL.2 w' hw')
    rwa [hdl] at this) _ _ _ _ hC H
  rw [htl, show n + (l.toArray.size - n) = l.toArray.size by omega] at this
  exact this
end
/-- .. over the worlds that have new memory alone. -/
theorem wp_region_nw_tail {P : Program} {id : Nat} {Q : Exit → Act → World → Prop} {a : Act} {w : World} {l : List Oper} (n : Nat) (hm : P.follows .mixedOrders = true) (hB : Region.lexTailB .any l.toArray n = true)
    (h : wpQuiet P l.toArray (fun w' => ∃ i : Later w, w' = i.1) (fun a' => ∀ w', (∃ i : Later w, w' = i.1) → wpList P l.toArray Q (l.drop n) a' w') (l.take n) a) : (Code.region id l.toArray true).wp P Q a w :=
  wp_region_quiet_tail (C := fun w' => ∃ i : Later w, w' = i.1) n hm hB ⟨⟨_, (Upd.refl _ w).drew⟩, rfl⟩ h
end Go.Proofs.YtagmlemlagbfkaaGreatDoor
