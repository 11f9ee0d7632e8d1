/- Lemmas on worlds that all the seat's proofs use: what may have changed between two worlds; cells of a block that is known whole; slices that read as a list. -/
import Derived.Test.YtjlgmoemnhmgmaaGreatDoorProg
import Derived.WalkKit
import Derived.Lib.Hide
import Derived.Lib.Builder
import Derived.Lib.LaidTab
import Derived.Lib.ItoaNum
import Derived.Deep.QuietTactic
import Derived.BigQuiet
import Derived.Outline
import Derived.Deep.RegionHeld3
namespace Go.Proofs.YtjlgmoemnhmgmaaGreatDoor
open Go.RowKit
set_option linter.unusedVariables false
set_option linter.unusedSimpArgs false

/-- The package-level variables that the walks read lie in blocks below this number. -/
def nG : Nat := 4

/-- Of what was there only blocks in S may have changed, and no package-level variable. -/
structure Upd (S : Nat → Prop) (w w' : World) : Prop where
  os : w'.os = w.os
  tape : w'.tape = w.tape
  output : w'.output = w.output
  size : w.heap.size ≤ w'.heap.size
  block : ∀ k, k < w.heap.size → (k < nG ∨ ¬ S k) → w'.heap[k]? = w.heap[k]?

/-- Nothing that was there has changed. -/
abbrev Nw (w w' : World) : Prop := Upd (fun _ => False) w w'

theorem Upd.refl (S : Nat → Prop) (w : World) : Upd S w w := ⟨rfl, rfl, rfl, Nat.le_refl _, fun _ _ _ => rfl⟩
theorem Upd.mono {S S' : Nat → Prop} {w w' : World} (h : Upd S w w') (hs : ∀ k, k < w.heap.size → S k → S' k) : Upd S' w w' :=
  ⟨h.os, h.tape, h.output, h.size, fun k hk hn => h.block k hk (hn.imp id (fun n s => n (hs k hk s)))⟩
theorem Upd.trans' {S S' : Nat → Prop} {a b c : World} (h : Upd S a b) (k : Upd S' b c) (hs : ∀ x, x < a.heap.size → S' x → S x) : Upd S a c :=
  ⟨k.os.trans h.os, k.tape.trans h.tape, k.output.trans h.output, Nat.le_trans h.size k.size,
    fun i hi hn => (k.block i (Nat.lt_of_lt_of_le hi h.size) (hn.imp id (fun n s => n (hs i hi s)))).trans (h.block i hi hn)⟩
theorem Upd.trans {S : Nat → Prop} {a b c : World} (h : Upd S a b) (k : Upd S b c) : Upd S a c := h.trans' k (fun _ _ s => s)
theorem Upd.nw {S : Nat → Prop} {a b c : World} (h : Upd S a b) (k : Nw b c) : Upd S a c := h.trans' k (fun _ _ s => s.elim)
theorem Nw.upd {w w' : World} (S : Nat → Prop) (h : Nw w w') : Upd S w w' := h.mono (fun _ _ s => s.elim)
theorem Nw.trans {S : Nat → Prop} {a b c : World} (h : Nw a b) (k : Upd S b c) : Upd S a c := (h.upd S).trans k
theorem Upd.of_below {w w' : World} (S : Nat → Prop) (h : Below w.heap.size w w') : Upd S w w' :=
  ⟨h.os, h.tape, h.output, h.size, fun k hk _ => h.block k hk⟩
theorem Nw.below {w w' : World} (h : Nw w w') : Below w.heap.size w w' := ⟨h.os, h.tape, h.output, h.size, fun k hk => h.block k hk (Or.inr id)⟩
theorem Upd.drew {S : Nat → Prop} {a b : World} (h : Upd S a b) : Upd S a b.drew := ⟨h.os, h.tape, h.output, h.size, h.block⟩
theorem Upd.drewN {S : Nat → Prop} {a b : World} (h : Upd S a b) (n : Nat) : Upd S a (b.drewN n) := ⟨h.os, h.tape, h.output, h.size, h.block⟩
theorem heap_alloc (w : World) (o : Obj) (k : Nat) (h : k < w.heap.size) : (w.alloc o).heap[k]? = w.heap[k]? := by
  show (w.heap.push o)[k]? = _
  rw [Array.getElem?_push, if_neg (by omega)]
theorem heap_new (w : World) (o : Obj) : (w.alloc o).heap[w.heap.size]? = some o := by
  show (w.heap.push o)[w.heap.size]? = _
  simp
theorem heap_setCell (w : World) (a : Addr) (u : Value) (k : Nat) (h : k ≠ a.block) : (w.setCell a u).heap[k]? = w.heap[k]? := by
  simp only [World.setCell, Array.getElem?_modify]
  rw [if_neg (by omega)]
theorem Upd.alloc {S : Nat → Prop} {a b : World} (h : Upd S a b) (o : Obj) : Upd S a (b.alloc o) :=
  ⟨h.os, h.tape, h.output, by have := h.size; simp; omega, fun k hk hn => (heap_alloc b o k (by have := h.size; omega)).trans (h.block k hk hn)⟩
theorem Upd.setCell {S : Nat → Prop} {a b : World} (h : Upd S a b) {p : Addr} (hp : S p.block ∨ a.heap.size ≤ p.block) (hg : nG ≤ p.block) (u : Value) : Upd S a (b.setCell p u) :=
  ⟨h.os, h.tape, h.output, by simpa [World.setCell] using h.size, fun k hk hn => by
    refine (heap_setCell b p u k ?_).trans (h.block k hk hn)
    rintro rfl
    rcases hp with hp | hp
    · rcases hn with hn | hn
      · omega
      · exact hn hp
    · omega⟩
theorem Upd.set1 {b : Nat} {a w : World} (h : Upd (fun x => x = b) a w) (hg : nG ≤ b) (i : Nat) (u : Value) : Upd (fun x => x = b) a (w.setCell ⟨b, i, none⟩ u) := h.setCell (Or.inl rfl) hg u
theorem Upd.new {S : Nat → Prop} {a w : World} (h : Upd S a w) {b : Nat} (hb : a.heap.size ≤ b) (hg : nG ≤ b) (i : Nat) (u : Value) : Upd S a (w.setCell ⟨b, i, none⟩ u) := h.setCell (Or.inr hb) hg u

theorem nw_drewN (w : World) (n : Nat) : ∃ w1, w.drewN n = w1 ∧ Nw w w1 := ⟨_, rfl, (Upd.refl _ _).drewN n⟩
/-! ### A region that draws its order, whose operations look at old memory alone and whose callees make new memory at most: one walk serves -/
/-- The worlds that have new blocks alone beyond w. -/
def Later (w : World) : Type := { w' : World // Nw w w' }
instance (w : World) : Nonempty (Later w) := ⟨⟨w, Upd.refl _ _⟩⟩
theorem Later.nw {w : World} (i : Later w) : Nw w i.1 := i.2
theorem wp_region_nw {P : Program} {id : Nat} {Q : Exit → Act → World → Prop} {a : Act} {w : World} {l : List Oper} (hm : P.follows .mixedOrders = true) (hB : Region.lexB .any l.toArray = true)
    (h : wpQuiet P l.toArray (fun w' => ∃ i : Later w, w' = i.1) (fun a' => ∀ w', (∃ i : Later w, w' = i.1) → Q .normal a' w') l a) : (Code.region id l.toArray true).wp P Q a w :=
  wp_region_quiet (C := fun w' => ∃ i : Later w, w' = i.1) hm hB ⟨⟨_, (Upd.refl _ w).drew⟩, rfl⟩ (by simpa using h)
theorem later_out {w w' : World} (h : ∃ i : Later w, w' = i.1) : Nw w w' := by
  obtain ⟨i, rfl⟩ := h
  exact i.2
/-- A callee's contract inside such a region. -/
theorem later_call {P : Program} {f : FuncId} {args : Array Value} {w : World} {i : Later w} {v : Value} (h : Calls P f args i.1 fun e w' => e = .returned v ∧ Nw i.1 w') :
    Calls P f args i.1 fun e w' => e = .returned v ∧ ∃ j : Later w, w' = j.1 :=
  h.mono fun _ _ ⟨he, hu⟩ => ⟨he, ⟨_, Upd.trans i.2 hu⟩, rfl⟩
theorem later_cell {w : World} (i : Later w) {a : Addr} {v : Value} (h : w.cell? a = some v) : i.1.cell? a = some v :=
  (World.cell?_of_block (i.2.block a.block (World.block_lt_of_cell? w a h) (Or.inr id))).trans h

/-! ### A block that is known whole -/
theorem lt_of_block {w : World} {b : Nat} {o : Obj} (h : w.heap[b]? = some o) : b < w.heap.size := by
  rcases Nat.lt_or_ge b w.heap.size with h' | h'
  · exact h'
  · simp [Array.getElem?_eq_none h'] at h
theorem cells_cell {w : World} {b : Nat} {cs : Array Value} {T : TypeId} {fz : Nat × Nat} (h : w.heap[b]? = some (.cells cs T fz)) (i : Nat) : w.cell? ⟨b, i, none⟩ = cs[i]? := by
  simp [World.cell?, h]
theorem cells_frozen {w : World} {b : Nat} {cs : Array Value} {T : TypeId} (h : w.heap[b]? = some (.cells cs T (0, 0))) (i : Nat) : w.frozen? ⟨b, i, none⟩ = false := by
  simp [World.frozen?, h]
theorem setCell_block {w : World} {b : Nat} {cs : Array Value} {T : TypeId} {fz : Nat × Nat} (h : w.heap[b]? = some (.cells cs T fz)) (i : Nat) (v : Value) :
    (w.setCell ⟨b, i, none⟩ v).heap[b]? = some (.cells (cs.setIfInBounds i v) T fz) := by
  simp [World.setCell, Array.getElem?_modify, h]
theorem Upd.keep {S : Nat → Prop} {w w' : World} {b : Nat} {o : Obj} (u : Upd S w w') (h : w.heap[b]? = some o) (hn : ¬ S b) : w'.heap[b]? = some o :=
  (u.block b (lt_of_block h) (Or.inr hn)).trans h
theorem Nw.keep {w w' : World} {b : Nat} {o : Obj} (u : Nw w w') (h : w.heap[b]? = some o) : w'.heap[b]? = some o := Upd.keep u h id

/-! ### Strings as lists of bytes -/
theorem bs_extract (l : List UInt8) (a b : Nat) : (ByteArray.mk l.toArray).extract a b = ByteArray.mk ((l.drop a).take (b - a)).toArray := ByteArray.extract_mk l a b
theorem bs_list (l : List UInt8) : (ByteArray.mk l.toArray).data.toList = l := by simp
theorem bs_extract_list (s : ByteArray) (a b : Nat) : (s.extract a b).data.toList = (s.data.toList.drop a).take (b - a) := by
  cases s with | mk d => rw [show (ByteArray.mk d) = ByteArray.mk d.toList.toArray by simp, bs_extract]
theorem bs_append_list (a b : ByteArray) : (a ++ b).data.toList = a.data.toList ++ b.data.toList := by simp [ByteArray.data_append]
theorem bs_size (s : ByteArray) : s.size = s.data.toList.length := by rw [Array.length_toList]; rfl
theorem bs_toList (s : ByteArray) : s.toList = s.data.toList := ByteArray.toList_eq s
theorem nw_alloc (w : World) (o : Obj) : Nw w (w.alloc o) := (Upd.refl _ w).alloc o
theorem bs_eta (s : ByteArray) : ByteArray.mk (s.data.toList).toArray = s := by cases s; simp
theorem ret_bs {s : ByteArray} {l : List UInt8} (h : s.data.toList = l) : Ending.returned (.string s) = .returned (.string ⟨l.toArray⟩) := by rw [← h, bs_eta]
theorem ret_int {k : IntKind} {a b : Int} (h : a = b) : Ending.returned (.int k a) = .returned (.int k b) := by rw [h]
theorem ret_bool {a b : Bool} (h : a = b) : Ending.returned (.bool a) = .returned (.bool b) := by rw [h]

/-! ### A slice whose elements have one cell each, and that reads as a list -/
/-- The slice v reads as xs; its array lies in a block from lo on, below hi. -/
def Sl (lo hi : Nat) (w : World) (v : Value) (xs : List Value) : Prop :=
  (∃ a cap, v = .slice a 0 cap ∧ xs = []) ∨
  ∃ b off cap, v = .slice (some ⟨b, off, none⟩) xs.length cap ∧ xs.length ≤ cap ∧ cap ≤ maxLen ∧ lo ≤ b ∧ b < hi ∧ b < w.heap.size ∧ ∀ i, i < xs.length → w.cell? ⟨b, off + i, none⟩ = xs[i]?
theorem Sl.nil {α : Type} (lo hi : Nat) (w : World) (f : α → Value) : Sl lo hi w (.slice none 0 0) (List.map f []) := Or.inl ⟨_, _, rfl, rfl⟩
theorem Sl.upd {lo hi : Nat} {S : Nat → Prop} {w w' : World} {v : Value} {xs : List Value} (h : Sl lo hi w v xs) (u : Upd S w w') (hs : ∀ k, lo ≤ k → k < hi → ¬ S k) : Sl lo hi w' v xs := by
  rcases h with h | ⟨b, off, cap, h1, h2, h3, h4, h5, h6, h7⟩
  · exact Or.inl h
  · refine Or.inr ⟨b, off, cap, h1, h2, h3, h4, h5, Nat.lt_of_lt_of_le h6 u.size, fun i hi' => ?_⟩
    rw [← h7 i hi']
    exact World.cell?_of_block (u.block b h6 (Or.inr (hs b h4 h5)))
theorem Sl.nw {lo hi : Nat} {w w' : World} {v : Value} {xs : List Value} (h : Sl lo hi w v xs) (u : Nw w w') : Sl lo hi w' v xs := h.upd u (fun _ _ _ s => s)
theorem Sl.len {lo hi : Nat} {w : World} {v : Value} {xs : List Value} (h : Sl lo hi w v xs) : xs.length ≤ maxLen := by
  rcases h with ⟨_, _, _, rfl⟩ | ⟨b, off, cap, h1, h2, h3, h4, h5, h6, h7⟩
  · exact Nat.zero_le _
  · exact Nat.le_trans h2 h3
/-- A slice that the call owns reads as a list, where each element has one cell. -/
theorem Sl.of_owns {base : Nat} {e : TypeId} {w : World} {v : Value} {n : Nat} {xs : List Value} (h : w.ownsRow base e 1 v n xs) : Sl base w.heap.size w v xs := by
  obtain ⟨h1, h2⟩ := h
  rw [Nat.mul_one] at h1
  rcases h2 with ⟨rfl, rfl⟩ | ⟨g, cap, cur, rfl, hb, hg, hn, hm, hs, ht⟩
  · exact Or.inl ⟨_, _, rfl, List.length_eq_zero_iff.1 h1⟩
  · subst h1
    refine Or.inr ⟨g, 0, cap, rfl, hn, hm, hb, lt_of_block hg, lt_of_block hg, fun i hi => ?_⟩
    rw [cells_cell hg, Nat.zero_add, ← ht, Nat.mul_one, List.getElem?_take, if_pos hi]
    simp
theorem Upd.grown {S : Nat → Prop} {a w w' : World} {row : Option Nat} (h : Upd S a w) (hg : w.grownBy w' row) (hr : ∀ k, row = some k → (S k ∨ a.heap.size ≤ k) ∧ nG ≤ k) : Upd S a w' :=
  ⟨hg.os.trans h.os, hg.tape.trans h.tape, hg.output.trans h.output, Nat.le_trans h.size hg.size, fun k hk hn => by
    refine (hg.block k (Nat.lt_of_lt_of_le hk h.size) (fun e => ?_)).trans (h.block k hk hn)
    obtain ⟨h1, h2⟩ := hr k e.symm
    rcases hn with hn | hn
    · omega
    · rcases h1 with h1 | h1
      · exact hn h1
      · omega⟩
theorem grown_keep {w w' : World} {row : Option Nat} {b : Nat} {o : Obj} (hg : w.grownBy w' row) (h : w.heap[b]? = some o) (hn : row ≠ some b) : w'.heap[b]? = some o :=
  (hg.block b (lt_of_block h) (fun e => hn e.symm)).trans h
/-- What the walk is told of a slice: an address (if there is an element), a length, a capacity, the cells. -/
theorem Sl.open_ {lo hi : Nat} {w : World} {v : Value} {xs : List Value} (h : Sl lo hi w v xs) :
    ∃ a cap, v = .slice a xs.length cap ∧ xs.length ≤ maxLen ∧ ((True ∧ True ∧ xs = []) ∨ ∃ b off, a = some ⟨b, off, none⟩ ∧ lo ≤ b ∧ b < hi ∧ b < w.heap.size ∧ ∀ i, i < xs.length → w.cell? ⟨b, off + i, none⟩ = xs[i]?) := by
  have hl := h.len
  rcases h with ⟨a, cap, rfl, rfl⟩ | ⟨b, off, cap, h1, h2, h3, h4, h5, h6, h7⟩
  · exact ⟨a, cap, rfl, hl, Or.inl ⟨trivial, trivial, rfl⟩⟩
  · exact ⟨some ⟨b, off, none⟩, cap, h1, hl, Or.inr ⟨b, off, rfl, h4, h5, h6, h7⟩⟩
theorem add_plain (b o j : Nat) : (⟨b, o, none⟩ : Addr).add j = ⟨b, o + j, none⟩ := by
  unfold Addr.add
  split
  · rename_i h; subst h; rfl
  · rfl
/-- 'out = append(out, x)' onto a slice that is nil or the call's own; x's cells lie in the new block that the walk has just made. -/
theorem wpList_app {P : Program} {w : World} {ops : Array Oper} {rest : List Oper} {o : Oper} {a : Act} {Q : Exit → Act → World → Prop} (hgd : o.guard = none) (s x : Operand) (t : TypeId)
    (ho : o.op = .call { callee := .builtin .append, args := #[s, x], argTypes := #[t, t] })
    (base : Nat) (e : TypeId) (z : Value) (size bytes : Nat) (ht : P.underlying t = some (.slice e)) (hinfo : (P.info? e).map (fun i => (i.zero, i.size, i.bytes)) = some (some z, size, bytes)) (hzs : z.cells.size = size) (hsz : 0 < size)
    (v : Value) (n : Nat) (xs : List Value) (hs : a.eval s = v) (hown : w.ownsRow base e size v n xs)
    (news : List Value) (hx : a.eval x = .slice (some ⟨w.heap.size, 0, none⟩) 1 1) (hl : news.length = size) (h1 : ∀ u ∈ news, u.oneCell' = true)
    (h63 : n + 1 ≤ maxLen) (hbytes : (n + 1) * bytes ≤ 140737488355328) (hbase : base ≤ w.heap.size)
    (h : ∀ v' w', w'.ownsRow base e size v' (n + 1) (xs ++ news) → Nw w (w.alloc (.cells news.toArray e)) → (w.alloc (.cells news.toArray e)).grownBy w' v.ownBlock → (∀ k, v.ownBlock = some k → base ≤ k ∧ k < w.heap.size) → wpList P ops Q rest (a.put o.dst v') w') : wpList P ops Q (o :: rest) a (w.alloc (.cells news.toArray e)) := by
  obtain ⟨i0, hi, hz0, hz1, hz2⟩ := info_parts hinfo
  refine wpList_append_own _ hgd s x t ho base e i0 z size bytes ht hi hz0 hz1 hz2 hzs hsz v n xs hs (hown.alloc _) ⟨w.heap.size, 0, none⟩ 1 1 news hx (by omega) ?_ h1 h63 hbytes (by simp; omega) fun v' w' h2 h3 _ => h v' w' h2 (nw_alloc _ _) h3 hown.lt
  intro j u hu
  have hb := heap_new w (.cells news.toArray e)
  rw [add_plain, cells_cell hb, Nat.zero_add]
  simpa using hu
end Go.Proofs.YtjlgmoemnhmgmaaGreatDoor
