/- Contracts of Go's library at this seat's numbers, in the words of this seat's proofs: Itoa, Atoi, IndexByte, CutPrefix, strings.Builder. How the arguments of a statement read: integers, strings, slices of them, structs, slices of structs; from the form's reading to the words of the walks. Slices of structs that a call has made itself: what they read as. Append of one element to a slice of the call's own, with the word on where the result lies: in the old block or in a new one. Things in memory side by side: each in blocks of its own, all made since a world W, apart from blocks F that are kept. What a call leaves that turns one of them, or two. Maps in memory that are stored into and deleted from, also while they are ranged over: what is in them is said by membership alone. Contents in memory: package content (size, Right, Print, Add, Text), for at most 90 contents of at most 100 bytes. Plain: parts of a text, contents with their parts, manifests. Plain: what is right of a manifest, what is missing, plans. Plain: a text cut into chunks: its contents and its manifest are right. The encoding of layer 1 and its reader, as plain functions on lists of bytes; no program stands in this text. Decimal forms: what is written is read back; the reference's way of reading a number gives the same. No program stands in this text. The documented examples of layer 1, in the plain words. No program stands in this text. Layer 1 in plain words: what is read has exactly the bytes that were read as its encoding; what is written is read back. No program stands in this text. Layer 1 in plain words: what is written is read back. No program stands in this text. Layer 2 (disk) in plain words: what its calls make of files, pending sectors, lost syncs and the scheduled crash. No program stands in this text. Layer 3 (journal) in plain words: sums, forms, the records of a string, what a journal's calls make of a disk; torn files. No program stands in this text. Layer 3 (journal) in plain words: a file of which bytes are missing at the end, or have become 0, has a beginning of the records. No program stands in this text. Layer 3 (journal) in plain words: what is true of a journal's file whatever fails, crashes and is lost (P3.6). No program stands in this text. What is true of a calm disk (up, no crash scheduled, no sync lost): opening a journal. Plain; no program stands in this text. The law JournalStays in plain words: what holds of a disk on which no crash is scheduled, and of the journal in file 0. No program stands in this text. What JournalTorn needs, in plain words: appending on a calm disk; the greatest beginning of the records whose forms are all there. No program stands in this text. Plain: a fetch on a journal. The example of chapter 03, in plain words. The example of chapter 38, in plain words; a fetch on a calm disk. Plain: what FetchRefuses says of a fetch. Plain: taking what is missing, one by one. -/
import Derived.Test.YtagmlemlagbfkaaGreatDoorPkFSurv0
import Derived.Test.YtagmlemlagbfkaaGreatDoorShelf
import Derived.Lib.ItoaLen
import Derived.ProofKit
import Derived.OpenShut
import Derived.ShutString
import Derived.Lib.SmallJoins
import Derived.Deep.AppendLies
import Derived.Test.YtagmlemlagbfkaaGreatDoorPkFSurv1
import Derived.WalkMore
import Derived.StillTailTactics
import Derived.BigRegion
import Derived.Deep.Cut
import Derived.Lib.AtoiAll
import Derived.Lib.ItoaNum
import Derived.Lib.Bytealg
import Derived.Lib.Atoi
import Derived.RowKit
namespace Go.Proofs.YtagmlemlagbfkaaGreatDoor
open Go.RowKit
set_option linter.unusedVariables false
set_option linter.unusedSimpArgs false
attribute [local irreducible] Calls

/-- What the package-level variables of the library hold, as their initialisers lay them. -/
structure Gl (w : World) : Prop where
  big : nG ≤ w.heap.size
  tab : Lib.TabIs Tryz.prog w "internal/strconv.uint64pow10" .u64 Lib.pow10Tab
  syn : ∃ tp p, w.var? Tryz.prog "strconv.ErrSyntax" = some #[.iface tp p]
  rng : ∃ tp p, w.var? Tryz.prog "strconv.ErrRange" = some #[.iface tp p]
theorem gTab : Tryz.prog.globalNamed "internal/strconv.uint64pow10" = some 0 := by kernel_rfl
theorem gSyn : Tryz.prog.globalNamed "strconv.ErrSyntax" = some 2 := by kernel_rfl
theorem gRng : Tryz.prog.globalNamed "strconv.ErrRange" = some 3 := by kernel_rfl
theorem var_of_block {w w' : World} {name : String} {g : Nat} (hg : Tryz.prog.globalNamed name = some g) (h : w'.heap[g]? = w.heap[g]?) : w'.var? Tryz.prog name = w.var? Tryz.prog name := by
  simp only [World.var?, hg, Option.bind_some, h]
theorem Gl.upd {S : Nat → Prop} {w w' : World} (g : Gl w) (u : Upd S w w') : Gl w' := by
  have hb := g.big
  have h : ∀ k, k < nG → w'.heap[k]? = w.heap[k]? := fun k hk => u.block k (Nat.lt_of_lt_of_le hk hb) (Or.inl hk)
  refine ⟨Nat.le_trans hb u.size, ?_, ?_, ?_⟩
  · show w'.var? Tryz.prog _ = _
    rw [var_of_block gTab (h _ (by decide))]; exact g.tab
  · obtain ⟨tp, p, e⟩ := g.syn
    exact ⟨tp, p, by rw [var_of_block gSyn (h _ (by decide))]; exact e⟩
  · obtain ⟨tp, p, e⟩ := g.rng
    exact ⟨tp, p, by rw [var_of_block gRng (h _ (by decide))]; exact e⟩
theorem Gl.drew {w : World} (g : Gl w) : Gl w.drew := g.upd ((Upd.refl (fun _ => False) w).drew)
theorem Gl.drewN {w : World} (g : Gl w) (n : Nat) : Gl (w.drewN n) := g.upd ((Upd.refl (fun _ => False) w).drewN n)
theorem nw_grow (w : World) (k : Nat) (os : Array Obj) : Nw w (Go.Sort.grow (w.drewN k) os) := by
  refine ⟨rfl, rfl, rfl, by simp [Go.Sort.grow], fun i hi _ => ?_⟩
  show ((w.drewN k).heap ++ os)[i]? = _
  have : (w.drewN k).heap = w.heap := rfl
  rw [this, Array.getElem?_append_left hi]

/-- An int64. -/
def I64 (n : Int) : Prop := -9223372036854775808 ≤ n ∧ n ≤ 9223372036854775807
theorem itoa_le {n : Int} (h : I64 n) : (Lib.itoa n).length ≤ 21 := Lib.itoa_length_le n h.1 h.2

theorem Itoa_c (n : Int) (w : World) (g : Gl w) (h : I64 n) :
    Calls Tryz.prog 152 #[.int .i64 n] w fun e w' => e = .returned (.string ⟨(Lib.itoa n).toArray⟩) ∧ Nw w w' :=
  (Tryz.strconv_Itoa n h.1 h.2 w g.tab).mono fun e w' ⟨he, k, os, hw⟩ => ⟨he, hw ▸ nw_grow w k os⟩
theorem IndexByte_c (s : ByteArray) (c : Int) (w : World) :
    Calls Tryz.prog 224 #[.string s, .int .u8 c] w fun e w' => e = .returned (.int .i64 (Lib.indexByte s.data.toList c.toNat.toUInt8)) ∧ w = w' :=
  (Tryz.strings_IndexByte s c w).mono fun e w' ⟨he, hw⟩ => ⟨he, hw.symm⟩
theorem CutPrefix_c (s p : ByteArray) (w : World) :
    Calls Tryz.prog 157 #[.string s, .string p] w fun e w' => e = .returned (.tuple #[.string ⟨(Lib.trimPrefix s.data.toList p.data.toList).toArray⟩, .bool (Lib.hasPrefix s.data.toList p.data.toList)]) ∧ w = w' :=
  (Tryz.strings_CutPrefix s p w).mono fun e w' ⟨he, hw⟩ => ⟨he, hw.symm⟩
theorem size_freeze (w : World) (a : Addr) (n : Nat) : (w.freeze a n).heap.size = w.heap.size := by
  unfold World.freeze; split <;> simp
theorem heap_freeze (w : World) (a : Addr) (n k : Nat) (h : k ≠ a.block) : (w.freeze a n).heap[k]? = w.heap[k]? := by
  unfold World.freeze
  split
  · rfl
  · simp only [Array.getElem?_modify]; rw [if_neg (by omega)]
theorem os_freeze (w : World) (a : Addr) (n : Nat) : (w.freeze a n).os = w.os ∧ (w.freeze a n).tape = w.tape ∧ (w.freeze a n).output = w.output := by
  unfold World.freeze; split <;> exact ⟨rfl, rfl, rfl⟩
theorem nw_bytes (w : World) (t : ByteArray) : Nw w (Lib.bytesWorld w 5 t) := by
  simp only [Lib.bytesWorld]
  refine ⟨(os_freeze _ _ _).1, (os_freeze _ _ _).2.1, (os_freeze _ _ _).2.2, by rw [size_freeze]; simp, fun i hi _ => ?_⟩
  rw [heap_freeze _ _ _ _ (by show i ≠ w.heap.size; omega)]
  exact heap_alloc w.drew _ i hi
/-- The third way in which a number's reading ends. -/
theorem atoi_rest {x : Lib.NumEnd Int} (h1 : ∀ m, x ≠ .ok m) (h2 : x ≠ .range) : x = Lib.atoiAll [] := by
  cases x with
  | ok v => exact absurd rfl (h1 v)
  | range => exact absurd rfl h2
  | _ => rfl
/-- strconv.Atoi: the number and no error, or some number and an error. -/
theorem Atoi_c (s : ByteArray) (w : World) (g : Gl w) (hs : s.size ≤ 281474976710656) :
    Calls Tryz.prog 225 #[.string s] w fun e w' => ∃ n v, e = .returned (.tuple #[.int .i64 n, v]) ∧ I64 n ∧
      ((v = .nilIface ∧ Lib.atoiAll s.data.toList = .ok n) ∨ (∃ t p, v = .iface t p) ∧ ∀ m, Lib.atoiAll s.data.toList ≠ .ok m) ∧ Nw w w' := by
  by_cases hok : ∃ v, Lib.atoiAll s.data.toList = .ok v
  · obtain ⟨v, h⟩ := hok
    refine (Tryz.strconv_Atoi_ok s (by omega) v h w).mono ?_
    rintro e w' ⟨rfl, hw⟩
    refine ⟨v, _, rfl, ?_, Or.inl ⟨rfl, h⟩, ?_⟩
    · unfold Lib.atoiAll at h
      unfold I64
      split at h
      · cases h
      · dsimp only at h
        split at h
        · cases h
        · cases h
        · split at h
          · cases h
          · split at h
            · cases h
            · injection h with h
              split at h <;> omega
    · rcases hw with rfl | ⟨t, rfl⟩
      · exact Upd.refl _ _
      · exact nw_bytes w t
  · have hno : ∀ m, Lib.atoiAll s.data.toList ≠ .ok m := fun m hm => hok ⟨m, hm⟩
    by_cases hr : Lib.atoiAll s.data.toList = .range
    · obtain ⟨tp, p, hv⟩ := g.rng
      refine Calls.mono (show Calls Tryz.prog 225 #[.string s] w _ from Any.strconv_Atoi_range_var Tryz.laysC172 s hs hr tp p w hv) ?_
      rintro e w' ⟨N, rfl, _, _, hb⟩
      refine ⟨_, _, rfl, ?_, Or.inr ⟨⟨_, _, rfl⟩, hno⟩, Upd.of_below _ hb⟩
      unfold Lib.atoiSat I64
      split <;> omega
    · obtain ⟨tp, p, hv⟩ := g.syn
      refine Calls.mono (show Calls Tryz.prog 225 #[.string s] w _ from Any.strconv_Atoi_syntax_var Tryz.laysC172 s hs (atoi_rest hno hr) tp p w hv) ?_
      rintro e w' ⟨N, rfl, _, _, hb⟩
      exact ⟨0, _, rfl, by unfold I64; omega, Or.inr ⟨⟨_, _, rfl⟩, hno⟩, Upd.of_below _ hb⟩
theorem Atoi_l (s : ByteArray) (l : List UInt8) (hl : s.data.toList = l) (w : World) (g : Gl w) (hs : l.length ≤ 281474976710656) :
    Calls Tryz.prog 225 #[.string s] w fun e w' => ∃ n v, e = .returned (.tuple #[.int .i64 n, v]) ∧ I64 n ∧
      ((v = .nilIface ∧ Lib.atoiAll l = .ok n) ∨ (∃ t p, v = .iface t p) ∧ ∀ m, Lib.atoiAll l ≠ .ok m) ∧ Nw w w' := by
  subst hl
  exact Atoi_c s w g (by rw [bs_size]; exact hs)
theorem IndexByte_l (s : ByteArray) (c : UInt8) (l : List UInt8) (hs : s.data.toList = l) (w : World) :
    Calls Tryz.prog 224 #[.string s, .int .u8 c.toNat] w fun e w' => e = .returned (.int .i64 (Lib.indexByte l c)) ∧ w = w' := by
  have h := IndexByte_c s c.toNat w
  rwa [hs, show ((c.toNat : Int).toNat.toUInt8) = c by simp] at h
end Go.Proofs.YtagmlemlagbfkaaGreatDoor
namespace Go.Proofs.YtagmlemlagbfkaaGreatDoor
open Go.ChangeShapes Go.WideShapes Go.ChangeAt Go.RowKit Go.Joins
set_option linter.unusedVariables false
set_option linter.unusedSimpArgs false

/-- A slice whose elements have sz cells each; xs: the cells of each element. -/
def SlS (sz lo hi : Nat) (w : World) (v : Value) (xs : List (List Value)) : Prop :=
  (∃ a cap, v = .slice a 0 cap ∧ xs = []) ∨
  ∃ b off cap, v = .slice (some ⟨b, off, none⟩) xs.length cap ∧ xs.length ≤ cap ∧ cap ≤ maxLen ∧ lo ≤ b ∧ b < hi ∧ b < w.heap.size ∧
    ∀ i (h : i < xs.length), xs[i].length = sz ∧ ∀ j, j < sz → w.cell? ⟨b, off + i * sz + j, none⟩ = xs[i][j]?
theorem SlS.upd {sz lo hi : Nat} {S : Nat → Prop} {w w' : World} {v : Value} {xs : List (List Value)} (h : SlS sz lo hi w v xs) (u : Upd S w w') (hs : ∀ k, lo ≤ k → k < hi → ¬ S k) : SlS sz lo hi w' v xs := by
  rcases h with h | ⟨b, off, cap, h1, h2, h3, h4, h5, h6, h7⟩
  · exact Or.inl h
  · refine Or.inr ⟨b, off, cap, h1, h2, h3, h4, h5, Nat.lt_of_lt_of_le h6 u.size, fun i hi' => ⟨(h7 i hi').1, fun j hj => ?_⟩⟩
    rw [← (h7 i hi').2 j hj]
    exact World.cell?_of_block (u.block b h6 (Or.inr (hs b h4 h5)))
theorem SlS.nw {sz lo hi : Nat} {w w' : World} {v : Value} {xs : List (List Value)} (h : SlS sz lo hi w v xs) (u : Nw w w') : SlS sz lo hi w' v xs := h.upd u (fun _ _ _ s => s)
theorem SlS.len {sz lo hi : Nat} {w : World} {v : Value} {xs : List (List Value)} (h : SlS sz lo hi w v xs) : xs.length ≤ maxLen := by
  rcases h with ⟨_, _, _, rfl⟩ | ⟨b, off, cap, h1, h2, h3, h4, h5, h6, h7⟩
  · exact Nat.zero_le _
  · exact Nat.le_trans h2 h3
theorem SlS.open_ {sz lo hi : Nat} {w : World} {v : Value} {xs : List (List Value)} (h : SlS sz lo hi w v xs) :
    ∃ a cap, v = .slice a xs.length cap ∧ xs.length ≤ maxLen ∧ (xs = [] ∨ ∃ b off, a = some ⟨b, off, none⟩ ∧ lo ≤ b ∧ b < hi ∧ b < w.heap.size ∧
      ∀ i (h : i < xs.length), xs[i].length = sz ∧ ∀ j, j < sz → w.cell? ⟨b, off + i * sz + j, none⟩ = xs[i][j]?) := by
  have hl := h.len
  rcases h with ⟨a, cap, rfl, rfl⟩ | ⟨b, off, cap, h1, h2, h3, h4, h5, h6, h7⟩
  · exact ⟨a, cap, rfl, hl, Or.inl rfl⟩
  · exact ⟨some ⟨b, off, none⟩, cap, h1, hl, Or.inr ⟨b, off, rfl, h4, h5, h6, h7⟩⟩

theorem cells?_spec {w : World} {base : Nat} {a : Addr} {n : Nat} {cs : List Value} (h : w.cells? base a n = some cs) : cs.length = n ∧ ∀ j, j < n → w.cell? (a.add j) = cs[j]? := by
  unfold World.cells? at h
  split at h
  · refine ⟨by have := Lib.mapM_length h; simpa using this, fun j hj => ?_⟩
    obtain ⟨b, hb, hf⟩ := Lib.mapM_at h j j (by simp [hj])
    rw [hf, hb]
  · cases h

section
variable {H : Type} {enc : TypeId × Value → H} {w : World} {base : Nat} {sp : Nat → Bool} {held : Bool} {n : Nat} {x : DataW H × List MemPlace}

theorem trod_int_cell {P : Program} {t : TypeId} {k : IntKind} {cs : List Value} (ht : P.underlying t = some (.int k)) (h : DataW.trod enc P w base sp held n t cs = some x) : ∃ m : Int, cs = [.int k m] ∧ (Lit.int k m).wf = true := by
  obtain ⟨m, h1, _, h2⟩ := DataW.trod_int ht h
  exact ⟨m, h1, h2⟩
theorem trod_str_cell {P : Program} {t : TypeId} {cs : List Value} (ht : P.underlying t = some .string) (h : DataW.trod enc P w base sp held n t cs = some x) : ∃ l : List UInt8, cs = [.string ⟨l.toArray⟩] ∧ l.length ≤ maxLen := by
  obtain ⟨s, h1, _, h2⟩ := DataW.trod_string ht h
  exact ⟨s.data.toList, by rw [bs_eta]; exact h1, by rw [← bs_size]; exact h2⟩
theorem i64_of_wf {m : Int} (h : (Lit.int .i64 m).wf = true) : I64 m := by
  have := h
  simp [Lit.wf, IntKind.min, IntKind.max, IntKind.signed, IntKind.bits] at this
  unfold I64; omega
/-- A slice whose elements read somehow. -/
theorem trod_slice_cells {P : Program} {t e : TypeId} {sz : Nat} {cs : List Value} (ht : P.underlying t = some (.slice e)) (hc : P.cellsOf e = sz) (hsz : 0 < sz) (h : DataW.trod enc P w base sp held n t cs = some x) :
    ∃ v xs, cs = [v] ∧ SlS sz 0 w.heap.size w v xs ∧ ∀ c ∈ xs, ∃ m y, DataW.trod enc P w base sp held m e c = some y := by
  rcases DataW.trod_slice ht h with ⟨h0, _⟩ | ⟨a, len, cap, elems, rest, m, _, rfl, rfl, hb, hl, hm, hlen, hel, _, _⟩
  · exact ⟨_, [], h0, Or.inl ⟨none, 0, rfl, rfl⟩, fun c hc => by cases hc⟩
  · have hel' : ∀ i, i < len → ∃ c y, w.cells? base (a.add (i * sz)) sz = some c ∧ DataW.trod enc P w base sp held m e c = some y := fun i hi => by
      have := hel i hi
      rw [hc] at this
      have hy : ∃ y, elems[i]? = some y := ⟨elems[i], by rw [List.getElem?_eq_getElem (by omega)]⟩
      obtain ⟨y, hy⟩ := hy
      rw [hy] at this
      obtain ⟨c, h1, h2⟩ := Option.bind_eq_some_iff.1 this
      exact ⟨c, y, h1, h2⟩
    by_cases h0 : len = 0
    · subst h0
      exact ⟨_, [], rfl, Or.inl ⟨some a, cap, rfl, rfl⟩, fun c hc => by cases hc⟩
    · obtain ⟨C, hC⟩ : ∃ C : Nat → List Value, ∀ i, i < len → w.cells? base (a.add (i * sz)) sz = some (C i) ∧ ∃ y, DataW.trod enc P w base sp held m e (C i) = some y := by
        refine ⟨fun i => if hi : i < len then (hel' i hi).choose else [], fun i hi => ?_⟩
        simp only [dif_pos hi]
        obtain ⟨y, h1, h2⟩ := (hel' i hi).choose_spec
        exact ⟨h1, y, h2⟩
      obtain ⟨hz, hcell⟩ := cells?_spec (hC 0 (by omega)).1
      have hc0 : ∃ u, w.cell? ((a.add (0 * sz)).add 0) = some u := by
        have := hcell 0 hsz
        rw [List.getElem?_eq_getElem (by omega)] at this
        exact ⟨_, this⟩
      obtain ⟨u, hu⟩ := hc0
      have hz0 : (a.add (0 * sz)).add 0 = a := by simp [Addr.add]
      rw [hz0] at hu
      obtain ⟨b, off, spot⟩ := a
      have hspot : spot = none := World.cell?_spot hu
      subst hspot
      have hbl := World.block_lt_of_cell? w _ hu
      refine ⟨_, (List.range len).map C, rfl, Or.inr ⟨b, off, cap, by simp, by simpa using hl, hm, Nat.zero_le _, hbl, hbl, fun i hi => ?_⟩, fun c hc => ?_⟩
      · have hi' : i < len := by simpa using hi
        obtain ⟨h1, h2⟩ := cells?_spec (hC i hi').1
        simp only [List.getElem_map, List.getElem_range]
        refine ⟨h1, fun j hj => ?_⟩
        rw [← h2 j hj, add_plain, add_plain]
      · obtain ⟨i, hi, rfl⟩ := List.mem_map.1 hc
        obtain ⟨y, hy⟩ := (hC i (List.mem_range.1 hi)).2
        exact ⟨m, y, hy⟩
/-- .. where an element has one cell, and reads as the value f of something. -/
theorem sl_of_sls {α : Type} {lo hi : Nat} {v : Value} {xs : List (List Value)} (h : SlS 1 lo hi w v xs) (f : α → Value) (Q : α → Prop) (hx : ∀ c ∈ xs, ∃ y, c = [f y] ∧ Q y) : ∃ l : List α, Sl lo hi w v (l.map f) ∧ ∀ y ∈ l, Q y := by
  obtain ⟨l, hl, hq⟩ : ∃ l : List α, xs = l.map (fun y => [f y]) ∧ ∀ y ∈ l, Q y := by
    clear h
    induction xs with
    | nil => exact ⟨[], rfl, fun y hy => by cases hy⟩
    | cons c xs ih =>
      obtain ⟨l, h1, h2⟩ := ih (fun c hc => hx c (List.mem_cons_of_mem _ hc))
      obtain ⟨y, h3, h4⟩ := hx c (List.mem_cons_self ..)
      exact ⟨y :: l, by rw [h1, h3]; rfl, fun z hz => by rcases List.mem_cons.1 hz with rfl | hz; exact h4; exact h2 z hz⟩
  refine ⟨l, ?_, hq⟩
  subst hl
  rcases h with ⟨a, cap, h1, h2⟩ | ⟨b, off, cap, h1, h2, h3, h4, h5, h6, h7⟩
  · exact Or.inl ⟨a, cap, h1, by rw [List.map_eq_nil_iff] at h2; rw [h2]; rfl⟩
  · refine Or.inr ⟨b, off, cap, by simpa using h1, by simpa using h2, h3, h4, h5, h6, fun i hi => ?_⟩
    have hi' : i < l.length := by simpa using hi
    have := (h7 i (by simpa using hi')).2 0 (by omega)
    simp only [Nat.mul_one, Nat.add_zero, List.getElem_map, List.getElem?_cons_zero] at this
    rw [this]
    simp [hi']
theorem trod_ints_cell {P : Program} {t e : TypeId} {k : IntKind} {cs : List Value} (ht : P.underlying t = some (.slice e)) (he : P.underlying e = some (.int k)) (hc : P.cellsOf e = 1) (h : DataW.trod enc P w base sp held n t cs = some x) :
    ∃ (v : Value) (l : List Int), cs = [v] ∧ Sl 0 w.heap.size w v (l.map (Value.int k)) ∧ ∀ m ∈ l, (Lit.int k m).wf = true := by
  obtain ⟨v, xs, h1, h2, h3⟩ := trod_slice_cells ht hc (by omega) h
  obtain ⟨l, h4, h5⟩ := sl_of_sls h2 (Value.int k) (fun m => (Lit.int k m).wf = true) (fun c hc => by
    obtain ⟨m, y, hy⟩ := h3 c hc
    exact trod_int_cell he hy)
  exact ⟨v, l, h1, h4, h5⟩
end
end Go.Proofs.YtagmlemlagbfkaaGreatDoor
namespace Go.Proofs.YtagmlemlagbfkaaGreatDoor
open Go.RowKit
set_option linter.unusedVariables false
set_option linter.unusedSimpArgs false

theorem flat_at {α : Type} {sz : Nat} : ∀ (xs : List (List α)) (i j : Nat), (∀ x ∈ xs, x.length = sz) → j < sz → ∀ h : i < xs.length, xs.flatten[i * sz + j]? = xs[i][j]? := by
  intro xs
  induction xs with
  | nil => intro i j _ _ h; simp at h
  | cons x xs ih =>
    intro i j hx hj h
    have h0 := hx x (List.mem_cons_self ..)
    rw [List.flatten_cons]
    cases i with
    | zero => rw [List.getElem?_append_left (by omega)]; simp
    | succ i =>
      rw [List.getElem?_append_right (by rw [h0, Nat.succ_mul]; omega), h0, show (i + 1) * sz + j - sz = i * sz + j by rw [Nat.succ_mul]; omega]
      rw [ih i j (fun y hy => hx y (List.mem_cons_of_mem _ hy)) hj (by simpa using h)]
      simp
theorem SlS.of_owns {base sz : Nat} {e : TypeId} {w : World} {v : Value} {n : Nat} {xs : List (List Value)} (h : w.ownsRow base e sz v n xs.flatten) (hn : n = xs.length) (hz : 0 < sz) (hx : ∀ x ∈ xs, x.length = sz) : SlS sz base w.heap.size w v xs := by
  obtain ⟨h1, h2⟩ := h
  rcases h2 with ⟨rfl, rfl⟩ | ⟨g, cap, cur, rfl, hb, hg, hc, hm, hs, ht⟩
  · exact Or.inl ⟨_, _, rfl, List.length_eq_zero_iff.1 hn.symm⟩
  · subst hn
    refine Or.inr ⟨g, 0, cap, rfl, hc, hm, hb, lt_of_block hg, lt_of_block hg, fun i hi => ⟨hx _ (List.getElem_mem hi), fun j hj => ?_⟩⟩
    rw [cells_cell hg, Nat.zero_add, ← flat_at xs i j hx hj hi, ← ht, List.getElem?_take, if_pos]
    · simp
    · have : (i + 1) * sz ≤ xs.length * sz := Nat.mul_le_mul_right _ hi
      rw [Nat.succ_mul] at this; omega
theorem owns_base {base base' sz : Nat} {e : TypeId} {w : World} {v : Value} {n : Nat} {xs : List Value} (h : w.ownsRow base e sz v n xs) (hb : base' ≤ base) : w.ownsRow base' e sz v n xs := by
  obtain ⟨h1, h2⟩ := h
  refine ⟨h1, ?_⟩
  rcases h2 with h2 | ⟨g, cap, cur, hv, hb2, r⟩
  · exact Or.inl h2
  · exact Or.inr ⟨g, cap, cur, hv, Nat.le_trans hb hb2, r⟩
/-- 'out = append(out, xs...)', both of them the call's own, xs nil or not. -/
theorem wpList_cat {P : Program} {w : World} {ops : Array Oper} {rest : List Oper} {o : Oper} {a : Act} {Q : Exit → Act → World → Prop} (hgd : o.guard = none) (s x : Operand) (t : TypeId)
    (ho : o.op = .call { callee := .builtin .append, args := #[s, x], argTypes := #[t, t] })
    (base base' : Nat) (e : TypeId) (z : Value) (size bytes : Nat) (ht : P.underlying t = some (.slice e)) (hinfo : (P.info? e).map (fun i => (i.zero, i.size, i.bytes)) = some (some z, size, bytes)) (hzs : z.cells.size = size) (hsz : 0 < size)
    (v vx : Value) (n m : Nat) (xs news : List Value) (hs : a.eval s = v) (hown : w.ownsRow base e size v n xs) (hx : a.eval x = vx) (hsrc : w.ownsRow base' e size vx m news)
    (h1 : ∀ u ∈ news, u.oneCell' = true) (h63 : n + m ≤ maxLen) (hbytes : (n + m) * bytes ≤ 140737488355328) (hbase : base ≤ w.heap.size)
    (h : ∀ v' w', w'.ownsRow base e size v' (n + m) (xs ++ news) → w.grownBy w' v.ownBlock → (∀ k, v.ownBlock = some k → base ≤ k ∧ k < w.heap.size) → wpList P ops Q rest (a.put o.dst v') w') : wpList P ops Q (o :: rest) a w := by
  obtain ⟨i0, hi, hz0, hz1, hz2⟩ := info_parts hinfo
  obtain ⟨hl, hsrc2⟩ := hsrc
  rcases hsrc2 with ⟨rfl, rfl⟩ | ⟨g, cap, cur, rfl, hb, hg, hc, hm, hsz2, htk⟩
  · have hnil : news = [] := List.eq_nil_of_length_eq_zero (by simpa using hl)
    subst hnil
    refine wpList_plain hgd fun K hK => ?_
    have hr : (Builtin.append_ #[t, t] o.type #[v, .slice none 0 0]).run P w = .ok v w := by
      rcases hown.2 with ⟨rfl, rfl⟩ | ⟨g, cap, cur, rfl, _, _, hnc, _⟩
      · simp [Builtin.append_, run_underlying ht, sizeOf, typeInfo, hi, Builtin.lenOf, Builtin.firstCells]
      · simp [Builtin.append_, run_underlying ht, sizeOf, typeInfo, hi, Builtin.lenOf, Builtin.firstCells, hnc, storeCells]
    unfold Oper.wp execOp
    simp only [ho, resolve, invoke, builtin, Sem.run_bind, Sem.run_pure, Result.andThen_ok, List.map_toArray, List.map_cons, List.map_nil, hs, hx, hr]
    exact hK _ _ (h v w (by simpa using hown) ⟨rfl, rfl, rfl, Nat.le_refl _, fun _ _ _ => rfl⟩ hown.lt)
  · refine wpList_append_own _ hgd s x t ho base e i0 z size bytes ht hi hz0 hz1 hz2 hzs hsz v n xs hs hown ⟨g, 0, none⟩ m cap news hx hl ?_ h1 h63 hbytes hbase fun v' w' h2 h3 _ => h v' w' h2 h3 hown.lt
    intro j u hu
    have hj : j < m * size := by
      rw [← hl]
      exact (List.getElem?_eq_some_iff.1 hu).1
    rw [add_plain, cells_cell hg, Nat.zero_add]
    rw [← htk, List.getElem?_take, if_pos hj] at hu
    simpa using hu
end Go.Proofs.YtagmlemlagbfkaaGreatDoor
namespace Go.Proofs.YtagmlemlagbfkaaGreatDoor
open Go.RowKit
set_option linter.unusedVariables false
set_option linter.unusedSimpArgs false

/-- 'out = append(out, x)' as wpList_app, with the word on the result's block. -/
theorem wpList_appL {P : Program} {w : World} {ops : Array Oper} {rest : List Oper} {o : Oper} {a : Act} {Q : Exit → Act → World → Prop} (hgd : o.guard = none) (s x : Operand) (t : TypeId)
    (ho : o.op = .call { callee := .builtin .append, args := #[s, x], argTypes := #[t, t] })
    (base : Nat) (e : TypeId) (z : Value) (size bytes : Nat) (ht : P.underlying t = some (.slice e)) (hinfo : (P.info? e).map (fun i => (i.zero, i.size, i.bytes)) = some (some z, size, bytes)) (hzs : z.cells.size = size) (hsz : 0 < size)
    (v : Value) (n : Nat) (xs : List Value) (hs : a.eval s = v) (hown : w.ownsRow base e size v n xs)
    (news : List Value) (hx : a.eval x = .slice (some ⟨w.heap.size, 0, none⟩) 1 1) (hl : news.length = size) (h1 : ∀ u ∈ news, u.oneCell' = true)
    (h63 : n + 1 ≤ maxLen) (hbytes : (n + 1) * bytes ≤ 140737488355328) (hbase : base ≤ w.heap.size) (hnG : nG ≤ base)
    (h : ∀ v' w', w'.ownsRow base e size v' (n + 1) (xs ++ news) → Upd (fun k => v.ownBlock = some k) w w' → (∀ k, v'.ownBlock = some k → v.ownBlock = some k ∨ w.heap.size ≤ k) → wpList P ops Q rest (a.put o.dst v') w') : wpList P ops Q (o :: rest) a (w.alloc (.cells news.toArray e)) := by
  obtain ⟨i0, hi, hz0, hz1, hz2⟩ := info_parts hinfo
  refine wpList_append_lies _ hgd s x t ho base e i0 z size bytes ht hi hz0 hz1 hz2 hzs hsz v n xs hs (hown.alloc _) ⟨w.heap.size, 0, none⟩ 1 1 news hx (by omega) ?_ h1 (by omega) h63 hbytes (by simp; omega) (w.heap.size + 1) (by simp) fun g cap w' h2 h3 h4 h5 => ?_
  · intro j u hu
    have hb := heap_new w (.cells news.toArray e)
    rw [add_plain, cells_cell hb, Nat.zero_add]
    simpa using hu
  · refine h _ w' h2 (((nw_alloc w _).upd _).grown h3 fun k hk => ⟨Or.inl hk, ?_⟩) fun k hk => ?_
    · have := (hown.lt k hk).1
      omega
    · obtain rfl : g = k := by simpa [Value.ownBlock] using hk
      rcases h4 with h4 | h4
      · exact Or.inl h4
      · exact Or.inr (by omega)
end Go.Proofs.YtagmlemlagbfkaaGreatDoor
namespace Go.Proofs.YtagmlemlagbfkaaGreatDoor
open Go.RowKit
set_option linter.unusedVariables false
set_option linter.unusedSimpArgs false
attribute [local irreducible] Calls

abbrev Res := (Nat → Prop) → World → Prop
/-- A thing in the blocks f: nothing else matters to it, and its blocks are from B on. -/
structure Stab (B : Nat) (P : Res) : Prop where
  upd : ∀ {f : Nat → Prop} {w w' : World} {S : Nat → Prop}, P f w → Upd S w w' → (∀ k, f k → ¬ S k) → P f w'
  lt : ∀ {f : Nat → Prop} {w : World} {k : Nat}, P f w → f k → B ≤ k ∧ k < w.heap.size
/-- The things c 0 .. c (N - 1). -/
def AtF (W : World) (N : Nat) (c : Nat → Res) (F : Nat → Prop) (f : Nat → Nat → Prop) (z : World) : Prop :=
  Nw W z ∧ (∀ i, i < N → Stab W.heap.size (c i)) ∧ (∀ i, i < N → c i (f i) z) ∧ (∀ i k, i < N → k < N → i ≠ k → ∀ j, f i j → ¬ f k j) ∧ ∀ j, F j → j < z.heap.size ∧ ∀ i, i < N → ¬ f i j
def At (W : World) (N : Nat) (c : Nat → Res) (F : Nat → Prop) (z : World) : Prop := ∃ f, AtF W N c F f z
abbrev MovesN (W : World) (F : Nat → Prop) (z z' : World) : Prop := Upd (fun k => ¬ F k ∧ W.heap.size ≤ k) z z'
def setC (c : Nat → Res) (i : Nat) (P : Res) : Nat → Res := fun k => if k = i then P else c k
theorem setC_self (c : Nat → Res) (i : Nat) (P : Res) : setC c i P i = P := by simp [setC]
theorem setC_ne (c : Nat → Res) {i k : Nat} (P : Res) (h : k ≠ i) : setC c i P k = c k := by simp [setC, h]
def setP (f : Nat → Nat → Prop) (i : Nat) (g : Nat → Prop) : Nat → Nat → Prop := fun k => if k = i then g else f k
theorem setP_pos {f : Nat → Nat → Prop} {i k : Nat} {g : Nat → Prop} (h : k = i) : setP f i g k = g := by simp [setP, h]
theorem setP_neg {f : Nat → Nat → Prop} {i k : Nat} {g : Nat → Prop} (h : ¬ k = i) : setP f i g k = f k := by simp [setP, h]
section
variable {W : World} {N : Nat} {c c' : Nat → Res} {F F' S : Nat → Prop} {z z' : World}
theorem At.nw0 (h : At W N c F z) : Nw W z := by obtain ⟨f, h⟩ := h; exact h.1
theorem At.gl (h : At W N c F z) (g : Gl W) : Gl z := g.upd h.nw0
theorem At.size (h : At W N c F z) : W.heap.size ≤ z.heap.size := h.nw0.size
theorem At.start (W : World) (c : Nat → Res) : At W 0 c (fun _ => False) W :=
  ⟨fun _ _ => False, Upd.refl _ _, fun i hi => by omega, fun i hi => by omega, fun i k hi => by omega, fun j hj => hj.elim⟩
theorem At.same (h : At W N c F z) (e : ∀ i, i < N → c' i = c i) : At W N c' F z := by
  obtain ⟨f, a, b, d, e2, k⟩ := h
  exact ⟨f, a, fun i hi => by rw [e i hi]; exact b i hi, fun i hi => by rw [e i hi]; exact d i hi, e2, k⟩
/-- What is kept is turned, and other blocks are kept from now on. -/
theorem At.upd_keep (h : At W N c F z) (u : Upd S z z') (hs : ∀ k, S k → (F k ∧ W.heap.size ≤ k) ∨ z.heap.size ≤ k) (hF : ∀ k, F' k → F k ∨ (z.heap.size ≤ k ∧ k < z'.heap.size)) : At W N c F' z' := by
  obtain ⟨f, a, b, d, e, k⟩ := h
  have hz := u.size
  have ha := a.size
  refine ⟨f, a.trans' u (fun j hj s => by rcases hs j s with t | t <;> omega), b, fun i hi => (b i hi).upd (d i hi) u (fun j hj s => ?_), e, fun j hj => ?_⟩
  · rcases hs j s with t | t
    · exact (k j t.1).2 i hi hj
    · have := ((b i hi).lt (d i hi) hj).2; omega
  · rcases hF j hj with t | t
    · exact ⟨by have := (k j t).1; omega, (k j t).2⟩
    · exact ⟨t.2, fun i hi s => by have := ((b i hi).lt (d i hi) s).2; omega⟩
theorem At.upd (h : At W N c F z) (u : Upd S z z') (hs : ∀ k, S k → (F k ∧ W.heap.size ≤ k) ∨ z.heap.size ≤ k) : At W N c F z' := h.upd_keep u hs (fun k hk => Or.inl hk)
theorem At.nw (h : At W N c F z) (u : Nw z z') : At W N c F z' := h.upd u (fun k s => s.elim)
theorem At.keep (h : At W N c F z) (u : Nw z z') (hF : ∀ k, F' k → F k ∨ (z.heap.size ≤ k ∧ k < z'.heap.size)) : At W N c F' z' := h.upd_keep u (fun k s => s.elim) hF
theorem At.less (h : At W N c F z) (hF : ∀ k, F' k → F k) : At W N c F' z := h.keep (Upd.refl _ _) (fun k hk => Or.inl (hF k hk))
/-- One more thing, in new blocks. -/
theorem At.push (h : At W N c F z) (u : Nw z z') {P : Res} (hP : Stab W.heap.size P) {f' : Nat → Prop} (hf : P f' z') (hn : ∀ j, f' j → z.heap.size ≤ j) : At W (N + 1) (setC c N P) F z' := by
  have h' := h.nw u
  have hz := u.size
  obtain ⟨f, a, b, d, e, k⟩ := h
  refine ⟨setP f N f', a.trans u, fun i hi => ?_, fun i hi => ?_, fun i l hi hl hil j hj => ?_, fun j hj => ⟨by have := (k j hj).1; omega, fun i hi => ?_⟩⟩
  · by_cases hN : i = N
    · rw [hN, setC_self]; exact hP
    · rw [setC_ne _ _ hN]; exact b i (by omega)
  · by_cases hN : i = N
    · rw [setP_pos hN, hN, setC_self]; exact hf
    · rw [setP_neg hN, setC_ne _ _ hN]; exact (b i (by omega)).upd (d i (by omega)) u (fun _ _ s => s)
  · by_cases hN : i = N
    · rw [setP_pos hN] at hj
      rw [setP_neg (fun e => hil (hN.trans e.symm))]
      exact fun s => by have := hn j hj; have := ((b l (by omega)).lt (d l (by omega)) s).2; omega
    · rw [setP_neg hN] at hj
      by_cases hN2 : l = N
      · rw [setP_pos hN2]
        exact fun s => by have := hn j s; have := ((b i (by omega)).lt (d i (by omega)) hj).2; omega
      · rw [setP_neg hN2]
        exact e i l (by omega) (by omega) hil j hj
  · by_cases hN : i = N
    · rw [setP_pos hN]; exact fun s => by have := hn j s; have := (k j hj).1; omega
    · rw [setP_neg hN]; exact (k j hj).2 i (by omega)
/-- One thing is turned. -/
theorem AtF.turn {f : Nat → Nat → Prop} (h : AtF W N c F f z) {i : Nat} (hi : i < N) {P : Res} (hP : Stab W.heap.size P) (t : ∃ f', P f' z' ∧ Upd (f i) z z' ∧ ∀ j, f' j → f i j ∨ z.heap.size ≤ j) : At W N (setC c i P) F z' ∧ MovesN W F z z' := by
  obtain ⟨a, b, d, e, k⟩ := h
  obtain ⟨f', t1, t2, t3⟩ := t
  have hz := t2.size
  have hlo : ∀ j, f i j → W.heap.size ≤ j := fun j hj => ((b i hi).lt (d i hi) hj).1
  have hno : ∀ l, l < N → l ≠ i → ∀ j, f l j → ¬ f' j := fun l hl hli j hj s => by
    rcases t3 j s with s | s
    · exact e l i hl hi hli j hj s
    · have := ((b l hl).lt (d l hl) hj).2; omega
  refine ⟨⟨setP f i f', a.trans' t2 (fun j hj s => by have := hlo j s; omega), fun l hl => ?_, fun l hl => ?_, fun l m hl hm hlm j hj => ?_, fun j hj => ⟨by have := (k j hj).1; omega, fun l hl => ?_⟩⟩, t2.mono (fun j _ s => ⟨fun q => (k j q).2 i hi s, hlo j s⟩)⟩
  · by_cases hl2 : l = i
    · rw [hl2, setC_self]; exact hP
    · rw [setC_ne _ _ hl2]; exact b l hl
  · by_cases hl2 : l = i
    · rw [setP_pos hl2, hl2, setC_self]; exact t1
    · rw [setP_neg hl2, setC_ne _ _ hl2]; exact (b l hl).upd (d l hl) t2 (fun j hj s => e l i hl hi hl2 j hj s)
  · by_cases hl2 : l = i
    · rw [setP_pos hl2] at hj
      have hm2 : m ≠ i := fun q => hlm (hl2.trans q.symm)
      rw [setP_neg hm2]
      exact fun s => hno m hm hm2 j s hj
    · rw [setP_neg hl2] at hj
      by_cases hm2 : m = i
      · rw [setP_pos hm2]; exact hno l hl hl2 j hj
      · rw [setP_neg hm2]; exact e l m hl hm hlm j hj
  · by_cases hl2 : l = i
    · rw [setP_pos hl2]
      intro s
      rcases t3 j s with s | s
      · exact (k j hj).2 i hi s
      · have := (k j hj).1; omega
    · rw [setP_neg hl2]; exact (k j hj).2 l hl
/-- A call that turns one thing. -/
theorem At.call (h : At W N c F z) {i : Nat} (hi : i < N) {P : Res} (hP : Stab W.heap.size P) {Q : Ending → Prop} {Pg : Program} {fn : FuncId} {args : Array Value}
    (k : ∀ f, c i f z → Calls Pg fn args z fun e z' => Q e ∧ ∃ f', P f' z' ∧ Upd f z z' ∧ ∀ j, f' j → f j ∨ z.heap.size ≤ j) : Calls Pg fn args z fun e z' => Q e ∧ At W N (setC c i P) F z' ∧ MovesN W F z z' := by
  obtain ⟨f, h⟩ := h
  exact (k _ (h.2.2.1 i hi)).mono fun e z' ⟨q, t⟩ => ⟨q, h.turn hi hP t⟩
end
theorem own_slG {B sz : Nat} {e : TypeId} {w : World} {v : Value} {n : Nat} {xs : List Value} (h : w.ownsRow B e sz v n xs) : ∃ a cap, v = .slice a n cap := by
  rcases h.2 with ⟨h1, h2⟩ | ⟨g, cap, cur, h1, _⟩
  · exact ⟨none, 0, by rw [h1, h2]⟩
  · exact ⟨_, _, h1⟩
/-! ### Simple things -/
end Go.Proofs.YtagmlemlagbfkaaGreatDoor
namespace Go.Proofs.YtagmlemlagbfkaaGreatDoor
open Go.RowKit Go.MapKept
open Go.Maps (Keyed)
open Go.ChangeMaps (setBlock)
set_option linter.unusedVariables false
set_option linter.unusedSimpArgs false

section
variable {P : Program} {k : TypeId} {w : World} {b r : Nat} {l : List (Value × Value)}
/-- The entries' list that a store leaves. -/
theorem store_raw {t e : TypeId} {es : Array MapEntry} {clock : Nat} (K : Keyed P k) (ht : P.underlying t = some (.map k e)) (hb : w.heap[b]? = some (.map es clock)) (hs : Stamped es clock) (hk : ∀ x ∈ es.toList, ∃ l, keyOf P k x.key = some l) {key : Value} {kl : Lit} (hkey : keyOf P k key = some kl) (val : Value) :
    ∃ es' clock', (Instr.mapUpdate t (.map (some b)) key val).run P w = .ok () { w with heap := w.heap.setIfInBounds b (.map es' clock') } ∧ Stamped es' clock' ∧ clock ≤ clock' ∧
      (∀ p, p ∈ es'.toList.map kv ↔ (p ∈ es.toList.map kv ∧ p.1 ≠ key) ∨ p = (key, val)) ∧
      ((∃ x ∈ es.toList, x.key = key) → clock' = clock ∧ (∀ x' ∈ es'.toList, ∃ x ∈ es.toList, x.born = x'.born ∧ x.key = x'.key) ∧ es'.toList.map (·.born) = es.toList.map (·.born)) := by
  have hst := (stamped_iff es clock).1 hs
  rcases K.find w hkey es.toList hk with ⟨h1, h2⟩ | ⟨j, e0, h1, h2, h3⟩
  · refine ⟨es.push ⟨key, val, clock⟩, clock + 1, ?_, stamped_push hs h2, by omega, fun p => ?_, fun ⟨x, hx, e⟩ => absurd e (h2 x hx)⟩
    · simp [Instr.mapUpdate, run_underlying ht, MapKept.run_getObj_map hb, K.check w false hkey, h1, MapKept.run_setObj_map _ hb, Result.andThen]
    · rw [Array.toList_push, List.map_append, List.mem_append]
      constructor
      · rintro (h | h)
        · obtain ⟨x, hx, rfl⟩ := List.mem_map.1 h
          exact Or.inl ⟨h, h2 x hx⟩
        · exact Or.inr (by simpa [kv] using h)
      · rintro (h | h)
        · exact Or.inl h.1
        · exact Or.inr (by simp [kv, h])
  · have hj : es[j]? = some e0 := by simpa using h2
    have hjl : j < es.toList.length := (List.getElem?_eq_some_iff.1 h2).1
    have hje : es.toList[j] = e0 := (List.getElem?_eq_some_iff.1 h2).2
    have hlist : (es.modify j (fun e' => { e' with key := key, val := val })).toList = es.toList.set j { e0 with key := key, val := val } := by rw [Array.toList_modify, Go.ChangeMaps.modify_eq_set _ _ _ _ h2]
    have hoth : ∀ i x, es.toList[i]? = some x → i ≠ j → x.key ≠ key := fun i x hi hne e => by
      have hx := List.mem_of_getElem? hi
      have h0 := List.mem_of_getElem? h2
      have := entry_eq_of_key hst.2.2 hx h0 (by rw [e, h3])
      subst this
      have hnd := stamp_nodup hst.2.1
      have hil := (List.getElem?_eq_some_iff.1 hi).1
      have hie := (List.getElem?_eq_some_iff.1 hi).2
      exact hne ((List.getElem_inj hnd).1 (hie.trans hje.symm))
    refine ⟨es.modify j (fun e' => { e' with key := key, val := val }), clock, ?_, stamped_modify hs j _ (fun _ _ => rfl) (fun e he he' => ?_), Nat.le_refl _, fun p => ?_, fun _ => ⟨rfl, fun x' hx' => ?_, ?_⟩⟩
    · simp [Instr.mapUpdate, run_underlying ht, MapKept.run_getObj_map hb, K.check w false hkey, h1, hj, h3, K.stays w hkey, MapKept.run_setObj_map _ hb, Result.andThen]
    · rw [hj] at he'
      cases he'
      exact h3.symm
    · rw [hlist]
      constructor
      · intro h
        obtain ⟨x, hx, rfl⟩ := List.mem_map.1 h
        obtain ⟨i, hi, ex⟩ := List.getElem_of_mem hx
        rw [List.getElem_set] at ex
        split at ex
        · exact Or.inr (by rw [← ex]; rfl)
        · rename_i hne
          have hi' : i < es.toList.length := by simpa using hi
          have hx2 : es.toList[i]? = some x := by rw [List.getElem?_eq_getElem hi', ex]
          exact Or.inl ⟨List.mem_map.2 ⟨x, List.mem_of_getElem? hx2, rfl⟩, hoth i x hx2 (fun e => hne e.symm)⟩
      · rintro (⟨h, hne⟩ | rfl)
        · obtain ⟨x, hx, rfl⟩ := List.mem_map.1 h
          obtain ⟨i, hi, ex⟩ := List.getElem_of_mem hx
          refine List.mem_map.2 ⟨x, List.mem_iff_getElem.2 ⟨i, by simpa using hi, ?_⟩, rfl⟩
          rw [List.getElem_set_ne, ex]
          rintro rfl
          rw [hje] at ex
          subst ex
          exact hne h3
        · exact List.mem_map.2 ⟨{ e0 with key := key, val := val }, List.mem_iff_getElem.2 ⟨j, by simpa using hjl, by simp⟩, rfl⟩
    · rw [hlist] at hx'
      obtain ⟨i, hi, ex⟩ := List.getElem_of_mem hx'
      rw [List.getElem_set] at ex
      split at ex
      · exact ⟨e0, List.mem_of_getElem? h2, by rw [← ex], by rw [← ex]; exact h3⟩
      · have hi' : i < es.toList.length := by simpa using hi
        exact ⟨x', by rw [← ex]; exact List.getElem_mem hi', rfl, rfl⟩
    · rw [hlist, List.map_set]
      refine List.ext_getElem? (fun i => ?_)
      rw [List.getElem?_set]
      split
      · rename_i e
        subst e
        split
        · rw [List.getElem?_map, h2]; rfl
        · rename_i hn; exact absurd (by simpa using hjl) hn
      · rfl
theorem kv_nodup {es : Array MapEntry} {clock : Nat} (hs : Stamped es clock) : (es.toList.map kv).Nodup := by
  have hst := (stamped_iff es clock).1 hs
  refine List.pairwise_map.2 (hst.2.2.imp (fun {a c} hne e => hne ?_))
  exact (Prod.mk.inj e).1
theorem MapL.nodup (h : MapL P k w b l) : l.Nodup := by
  obtain ⟨es, clock, hb, h1, h2, h3⟩ := h
  exact h1.nodup_iff.1 (kv_nodup h3)
theorem MapL.of_mem (h : MapL P k w b l) {l' : List (Value × Value)} (hn : l'.Nodup) (hm : ∀ p, p ∈ l' ↔ p ∈ l) : MapL P k w b l' :=
  h.perm ((List.perm_ext_iff_of_nodup h.nodup hn).2 (fun p => (hm p).symm))
/-- 'm[k] = v', the key there or not. -/
theorem MapL.put {t e : TypeId} (h : MapL P k w b l) (K : Keyed P k) (ht : P.underlying t = some (.map k e)) (hg : nG ≤ b) {key : Value} {kl : Lit} (hkey : keyOf P k key = some kl) (val : Value) :
    ∃ w' l', (Instr.mapUpdate t (.map (some b)) key val).run P w = .ok () w' ∧ MapL P k w' b l' ∧ (∀ p, p ∈ l' ↔ (p ∈ l ∧ p.1 ≠ key) ∨ p = (key, val)) ∧ Upd (· = b) w w' := by
  obtain ⟨es, clock, hb, hpm, hk, hs⟩ := h
  have hpm' : (es.toList.map kv).Perm l := hpm
  obtain ⟨es', clock', hrun, hs', _, hm, _⟩ := store_raw K ht hb hs (fun x hx => hk (x.key, x.val) (hpm.mem_iff.1 (List.mem_map.2 ⟨x, hx, rfl⟩))) hkey val
  refine ⟨_, es'.toList.map kv, hrun, ⟨es', clock', by simp [Array.getElem?_setIfInBounds, lt_of_block hb], List.Perm.refl _, fun p hp => ?_, hs'⟩, fun p => by rw [hm, hpm'.mem_iff], Upd.setBlock hg _⟩
  rcases (hm p).1 hp with ⟨h1, _⟩ | rfl
  · exact hk p (hpm'.mem_iff.1 h1)
  · exact ⟨kl, hkey⟩

/-- Block b is a map with the entries l; r is an iterator over it; whatever it has handed out is done. -/
def RangeS (P : Program) (k : TypeId) (w : World) (b r : Nat) (l : List (Value × Value)) (done : Value → Prop) : Prop :=
  ∃ es clock since seen c0, w.heap[b]? = some (.map es clock) ∧ (es.toList.map kv).Perm l ∧ (∀ p ∈ l, ∃ x, keyOf P k p.1 = some x) ∧ Stamped es clock ∧
    w.heap[r]? = some (.mapIter (some b) since seen c0) ∧ (∀ x ∈ es.toList, x.born < since) ∧ since ≤ c0 ∧ since ≤ clock ∧ ∀ x ∈ es.toList, x.born ∈ seen.toList → done x.key
variable {done : Value → Prop}
theorem RangeS.lt (h : RangeS P k w b r l done) : b < w.heap.size ∧ r < w.heap.size ∧ r ≠ b := by
  obtain ⟨es, clock, since, seen, c0, h1, h2, h3, h4, h5, h6⟩ := h
  refine ⟨lt_of_block h1, lt_of_block h5, fun e => ?_⟩
  rw [e, h1] at h5
  cases h5
theorem RangeS.map (h : RangeS P k w b r l done) : MapL P k w b l := by
  obtain ⟨es, clock, since, seen, c0, h1, h2, h3, h4, h5, h6⟩ := h
  exact ⟨es, clock, h1, h2, h3, h4⟩
theorem RangeS.upd {S : Nat → Prop} {w' : World} (h : RangeS P k w b r l done) (u : Upd S w w') (hb : ¬ S b) (hr : ¬ S r) : RangeS P k w' b r l done ∧ w'.rangeLeft b r = w.rangeLeft b r := by
  obtain ⟨es, clock, since, seen, c0, h1, h2, h3, h4, h5, h6⟩ := h
  refine ⟨⟨es, clock, since, seen, c0, u.keep h1 hb, h2, h3, h4, u.keep h5 hr, h6⟩, ?_⟩
  unfold World.rangeLeft
  rw [u.keep h1 hb, h1, u.keep h5 hr, h5]
theorem RangeS.mono {done' : Value → Prop} (h : RangeS P k w b r l done) (hd : ∀ x, done x → done' x) : RangeS P k w b r l done' := by
  obtain ⟨es, clock, since, seen, c0, h1, h2, h3, h4, h5, h6, h7, h8, h9⟩ := h
  exact ⟨es, clock, since, seen, c0, h1, h2, h3, h4, h5, h6, h7, h8, fun x hx hs => hd _ (h9 x hx hs)⟩
/-- 'range m'. -/
theorem MapL.rangeS {t e : TypeId} (h : MapL P k w b l) (ht : P.underlying t = some (.map k e)) :
    ∃ w', (Instr.range t (.map (some b))).run P w = .ok (.pointer (some ⟨w.heap.size, 0, none⟩)) w' ∧ RangeS P k w' b w.heap.size l (fun _ => False) ∧ Nw w w' := by
  obtain ⟨es, clock, h1, h2, h3, h4⟩ := h
  have hst := (stamped_iff es clock).1 h4
  exact ⟨_, run_range_map w t k e b es clock ht h1, ⟨es, clock, clock, #[], clock, Nw.keep (nw_alloc w _) h1, h2, h3, h4, heap_new w _, hst.1, Nat.le_refl _, Nat.le_refl _, fun x _ hs => by simp at hs⟩, nw_alloc _ _⟩
/-- THE STEP: all is done; or an entry comes. -/
theorem RangeS.next (h : RangeS P k w b r l done) (hg : nG ≤ r) (ty : TypeId) :
    ((∀ p ∈ l, done p.1) ∧ (Instr.next (.pointer (some ⟨r, 0, none⟩)) false ty).run P w = .ok (.tuple #[.bool false]) w) ∨
    ∃ p, p ∈ l ∧ ∃ w', (Instr.next (.pointer (some ⟨r, 0, none⟩)) false ty).run P w = .ok (.tuple #[.bool true, p.1, p.2]) w' ∧ RangeS P k w' b r l (fun x => done x ∨ x = p.1) ∧ Upd (· = r) w w' ∧
      w'.rangeLeft b r < w.rangeLeft b r ∧ (Instr.entry (.pointer (some ⟨r, 0, none⟩))).run P w' = .ok (.tuple #[p.1, p.2]) w' := by
  have hne := h.lt.2.2
  have hrlt := h.lt.2.1
  obtain ⟨es, clock, since, seen, c0, h1, h2, h3, h4, h5, h6, h7, h8, h9⟩ := h
  have hst := (stamped_iff es clock).1 h4
  rcases run_next_at (P := P) w ty r b since c0 seen es clock h5 h1 h6 h7 with ⟨h0, hrun⟩ | ⟨e, he, w1, hal, hrun⟩
  · refine Or.inl ⟨fun p hp => ?_, hrun⟩
    obtain ⟨x, hx, rfl⟩ := List.mem_map.1 (h2.mem_iff.2 hp)
    have hs := all_seen es seen h0 x hx
    exact h9 x hx (by simpa using hs)
  · obtain ⟨hem, hes⟩ := mem_left he
    have hr1 : w1.heap[r]? = some (.mapIter (some b) since seen c0) := by rcases hal with rfl | rfl <;> exact h5
    have hb1 : w1.heap[b]? = some (.map es clock) := by rcases hal with rfl | rfl <;> exact h1
    have hset := heap_set (o' := .mapIter (some b) since (seen.push e.born) clock) hr1
    have hb' : (setBlock w1 r (.mapIter (some b) since (seen.push e.born) clock)).heap[b]? = some (.map es clock) := (hset.2 b (fun e1 => hne e1.symm)).trans hb1
    refine Or.inr ⟨kv e, h2.mem_iff.1 (List.mem_map.2 ⟨e, hem, rfl⟩), _, hrun, ⟨es, clock, since, seen.push e.born, clock, hb', h2, h3, h4, hset.1, h6, h8, h8, fun x hx hs => ?_⟩, ?_, ?_, run_entry_at _ r b since seen es clock e hset.1 hb' hem hst.2.1⟩
    · rw [Array.toList_push, List.mem_append, List.mem_singleton] at hs
      rcases hs with hs | hs
      · exact Or.inl (h9 x hx hs)
      · rw [born_inj hst.2.1 hx hem hs]; exact Or.inr rfl
    · rcases hal with rfl | rfl <;> exact ⟨rfl, rfl, rfl, by simp [setBlock], fun i _ hi => hset.2 i (fun e1 => by subst e1; rcases hi with hi | hi; omega; exact hi rfl)⟩
    · unfold World.rangeLeft
      have hr' : (setBlock w1 r (.mapIter (some b) since (seen.push e.born) clock)).heap[r]? = some (.mapIter (some b) since (seen.push e.born) clock) := hset.1
      rw [hb', hr', h1, h5]
      exact left_shrinks es seen e he
/-- 'm[k] = v' in the round, the key there. -/
theorem RangeS.put {t e : TypeId} (h : RangeS P k w b r l done) (K : Keyed P k) (ht : P.underlying t = some (.map k e)) (hg : nG ≤ b) {key v : Value} (hin : (key, v) ∈ l) {kl : Lit} (hkey : keyOf P k key = some kl) (val : Value) :
    ∃ w' l', (Instr.mapUpdate t (.map (some b)) key val).run P w = .ok () w' ∧ RangeS P k w' b r l' done ∧ (∀ p, p ∈ l' ↔ (p ∈ l ∧ p.1 ≠ key) ∨ p = (key, val)) ∧ Upd (· = b) w w' ∧ w'.rangeLeft b r = w.rangeLeft b r := by
  have hne := h.lt.2.2
  obtain ⟨es, clock, since, seen, c0, h1, h2, h3, h4, h5, h6, h7, h8, h9⟩ := h
  obtain ⟨x0, hx0, e0⟩ := List.mem_map.1 (h2.mem_iff.2 hin)
  obtain ⟨es', clock', hrun, hs', _, hm, hold⟩ := store_raw K ht h1 h4 (fun x hx => h3 (kv x) (h2.mem_iff.1 (List.mem_map.2 ⟨x, hx, rfl⟩))) hkey val
  obtain ⟨rfl, hb1, hb2⟩ := hold ⟨x0, hx0, (Prod.mk.inj e0).1⟩
  have hset : ∀ o, ({ w with heap := w.heap.setIfInBounds b o } : World).heap[r]? = w.heap[r]? := fun o => by
    simp only [Array.getElem?_setIfInBounds]
    rw [if_neg (fun e => hne e.symm)]
  refine ⟨_, es'.toList.map kv, hrun, ⟨es', clock', since, seen, c0, by simp [Array.getElem?_setIfInBounds, lt_of_block h1], List.Perm.refl _, fun p hp => ?_, hs', by rw [hset]; exact h5, fun x hx => ?_, h7, h8, fun x hx hs => ?_⟩, fun p => by rw [hm, h2.mem_iff], Upd.setBlock hg _, ?_⟩
  · rcases (hm p).1 hp with ⟨q1, _⟩ | rfl
    · exact h3 p (h2.mem_iff.1 q1)
    · exact ⟨kl, hkey⟩
  · obtain ⟨y, hy, e1, e2⟩ := hb1 x hx
    rw [← e1]; exact h6 y hy
  · obtain ⟨y, hy, e1, e2⟩ := hb1 x hx
    rw [← e2]; exact h9 y hy (by rw [e1]; exact hs)
  · unfold World.rangeLeft
    rw [hset, h5, h1]
    have e1 : ({ w with heap := w.heap.setIfInBounds b (.map es' clock') } : World).heap[b]? = some (.map es' clock') := by simp [Array.getElem?_setIfInBounds, lt_of_block h1]
    rw [e1]
    dsimp only
    have e2 : ∀ a : Array MapEntry, (leftOf a seen).size = ((a.toList.map (·.born)).filter fun n => !seen.contains n).length := fun a => by
      unfold leftOf
      rw [← Array.length_toList, Array.toList_filter, List.filter_map, List.length_map]
      rfl
    rw [e2, e2, hb2]
/-- 'delete(m, k)' in the round. -/
theorem RangeS.drop {t e ty : TypeId} (h : RangeS P k w b r l done) (K : Keyed P k) (ht : P.underlying t = some (.map k e)) (hg : nG ≤ b) {key : Value} {kl : Lit} (hkey : keyOf P k key = some kl) :
    ∃ w' l', (Builtin.delete_ #[t, k] ty #[.map (some b), key]).run P w = .ok (.tuple #[]) w' ∧ RangeS P k w' b r l' done ∧ (∀ p, p ∈ l' ↔ p ∈ l ∧ p.1 ≠ key) ∧ Upd (· = b) w w' ∧ w'.rangeLeft b r ≤ w.rangeLeft b r := by
  have hne := h.lt.2.2
  obtain ⟨es, clock, since, seen, c0, h1, h2, h3, h4, h5, h6, h7, h8, h9⟩ := h
  have hst := (stamped_iff es clock).1 h4
  have hset : ∀ o, ({ w with heap := w.heap.setIfInBounds b o } : World).heap[r]? = w.heap[r]? := fun o => by
    simp only [Array.getElem?_setIfInBounds]
    rw [if_neg (fun e => hne e.symm)]
  have hcl : ∀ (es' : Array MapEntry), (Builtin.delete_ #[t, k] ty #[.map (some b), key]).run P w = .ok (.tuple #[]) { w with heap := w.heap.setIfInBounds b (.map es' clock) } → Stamped es' clock → es'.toList.Sublist es.toList → (∀ x, x ∈ es'.toList ↔ x ∈ es.toList ∧ x.key ≠ key) →
      ∃ w' l', (Builtin.delete_ #[t, k] ty #[.map (some b), key]).run P w = .ok (.tuple #[]) w' ∧ RangeS P k w' b r l' done ∧ (∀ p, p ∈ l' ↔ p ∈ l ∧ p.1 ≠ key) ∧ Upd (· = b) w w' ∧ w'.rangeLeft b r ≤ w.rangeLeft b r := fun es' hrun hs' hsub hmem => by
    have hmm : ∀ p, p ∈ es'.toList.map kv ↔ p ∈ l ∧ p.1 ≠ key := fun p => by
      rw [← h2.mem_iff]
      constructor
      · intro hp
        obtain ⟨x, hx, rfl⟩ := List.mem_map.1 hp
        obtain ⟨q1, q2⟩ := (hmem x).1 hx
        exact ⟨List.mem_map.2 ⟨x, q1, rfl⟩, q2⟩
      · rintro ⟨hp, hk⟩
        obtain ⟨x, hx, rfl⟩ := List.mem_map.1 hp
        exact List.mem_map.2 ⟨x, (hmem x).2 ⟨hx, hk⟩, rfl⟩
    refine ⟨_, es'.toList.map kv, hrun, ⟨es', clock, since, seen, c0, by simp [Array.getElem?_setIfInBounds, lt_of_block h1], List.Perm.refl _, fun p hp => h3 p ((hmm p).1 hp).1, hs', by rw [hset]; exact h5, fun x hx => h6 x ((hmem x).1 hx).1, h7, h8, fun x hx hs => h9 x ((hmem x).1 hx).1 hs⟩, hmm, Upd.setBlock hg _, ?_⟩
    unfold World.rangeLeft
    rw [hset, h5, h1]
    have e1 : ({ w with heap := w.heap.setIfInBounds b (.map es' clock) } : World).heap[b]? = some (.map es' clock) := by simp [Array.getElem?_setIfInBounds, lt_of_block h1]
    rw [e1]
    dsimp only
    have e2 : ∀ a : Array MapEntry, (leftOf a seen).size = (a.toList.filter fun e => !seen.contains e.born).length := fun a => by
      unfold leftOf
      rw [← Array.toList_filter, Array.length_toList]
    rw [e2, e2]
    exact (hsub.filter _).length_le
  rcases K.find w hkey es.toList (fun x hx => h3 (kv x) (h2.mem_iff.1 (List.mem_map.2 ⟨x, hx, rfl⟩))) with ⟨q1, q2⟩ | ⟨j, e0, q1, q2, q3⟩
  · refine hcl es ?_ h4 (List.Sublist.refl _) (fun x => ⟨fun hx => ⟨hx, q2 x hx⟩, fun hx => hx.1⟩)
    simp [Builtin.delete_, run_underlying ht, MapKept.run_getObj_map h1, K.check w _ hkey, q1, MapKept.run_setObj_map _ h1, Result.andThen]
  · have hjl : j < es.toList.length := (List.getElem?_eq_some_iff.1 q2).1
    have hjs : j < es.size := by simpa using hjl
    have hsub : (es.eraseIdxIfInBounds j).toList = es.toList.eraseIdx j := by
      unfold Array.eraseIdxIfInBounds
      rw [dif_pos hjs]
      simp
    refine hcl (es.eraseIdxIfInBounds j) ?_ (stamped_erase h4 j) (by rw [hsub]; exact List.eraseIdx_sublist _ _) (fun x => ?_)
    · simp [Builtin.delete_, run_underlying ht, MapKept.run_getObj_map h1, K.check w _ hkey, q1, MapKept.run_setObj_map _ h1, Result.andThen]
    · rw [hsub, List.mem_eraseIdx_iff_getElem?]
      constructor
      · rintro ⟨i, hne2, hi⟩
        refine ⟨List.mem_of_getElem? hi, fun e => hne2 ?_⟩
        have := entry_eq_of_key hst.2.2 (List.mem_of_getElem? hi) (List.mem_of_getElem? q2) (by rw [e, q3])
        subst this
        have hil := (List.getElem?_eq_some_iff.1 hi).1
        have hie := (List.getElem?_eq_some_iff.1 hi).2
        exact (List.getElem_inj (stamp_nodup hst.2.1)).1 (hie.trans (List.getElem?_eq_some_iff.1 q2).2.symm)
      · rintro ⟨hx, hne2⟩
        obtain ⟨i, hi⟩ := List.getElem?_of_mem hx
        refine ⟨i, fun e1 => hne2 ?_, hi⟩
        rw [e1, q2] at hi
        cases hi
        exact q3
/-- 'range m' at the operation. -/
theorem wpList_rangeS {ops : Array Oper} {rest : List Oper} {o : Oper} {a : Act} {Q : Exit → Act → World → Prop} (hg : o.guard = none) (m : Operand) (t e : TypeId) (hop : o.op = Op.range t m) (ht : P.underlying t = some (.map k e)) (hm : a.eval m = .map (some b)) (h : MapL P k w b l)
    (hK : ∀ w', RangeS P k w' b w.heap.size l (fun _ => False) → Nw w w' → wpList P ops Q rest (a.put o.dst (.pointer (some ⟨w.heap.size, 0, none⟩))) w') : wpList P ops Q (o :: rest) a w := by
  obtain ⟨w', hrun, h1, h2⟩ := h.rangeS ht
  refine wpList_plain hg fun K' hK' => ?_
  unfold Oper.wp
  simp [execOp, hop, hm, hrun, Result.andThen]
  exact hK' _ _ (hK w' h1 h2)
/-- The step at the operation. -/
theorem wpList_nextS {ops : Array Oper} {rest : List Oper} {o : Oper} {a : Act} {Q : Exit → Act → World → Prop} (hg : o.guard = none) (it : Operand) (hop : o.op = Op.next it false) (hit : a.eval it = .pointer (some ⟨r, 0, none⟩)) (h : RangeS P k w b r l done) (hr : nG ≤ r)
    (hDone : (∀ p ∈ l, done p.1) → wpList P ops Q rest (a.put o.dst (.tuple #[.bool false])) w)
    (hMore : ∀ p w', p ∈ l → RangeS P k w' b r l (fun x => done x ∨ x = p.1) → Upd (· = r) w w' → w'.rangeLeft b r < w.rangeLeft b r → (Instr.entry (.pointer (some ⟨r, 0, none⟩))).run P w' = .ok (.tuple #[p.1, p.2]) w' →
      wpList P ops Q rest (a.put o.dst (.tuple #[.bool true, p.1, p.2])) w') : wpList P ops Q (o :: rest) a w := by
  refine wpList_plain hg fun K' hK' => ?_
  unfold Oper.wp
  rcases h.next hr o.type with ⟨hd, hrun⟩ | ⟨p, h1, w', hrun, h3, h4, h5, h6⟩
  · simp [execOp, hop, hit, hrun, Result.andThen]
    exact hK' _ _ (hDone hd)
  · simp [execOp, hop, hit, hrun, Result.andThen]
    exact hK' _ _ (hMore p w' h1 h3 h4 h5 h6)
end
end Go.Proofs.YtagmlemlagbfkaaGreatDoor
namespace Go.Proofs.YtagmlemlagbfkaaGreatDoor
open Go.RowKit
open Go.Maps (Keyed)
set_option linter.unusedVariables false
set_option linter.unusedSimpArgs false
attribute [local irreducible] Calls

abbrev tStrMU : TypeId := 9
def bsMU (l : List UInt8) : Value := .string ⟨l.toArray⟩
theorem infoStrMU : (Tryz.prog.info? tStrMU).map (fun i => (i.zero, i.size, i.bytes)) = some (some (.string ⟨#[]⟩), 1, 16) := by kernel_rfl
theorem bsM_oneU (l : List (List UInt8)) : ∀ u ∈ l.map bsMU, u.oneCell' = true := by
  intro u hu; obtain ⟨s, _, rfl⟩ := List.mem_map.1 hu; rfl
abbrev tStrU : TypeId := 9
theorem strKeyedU : Keyed Tryz.prog tStrU := Maps.string_keyed Tryz.underlying9
def addMU (cs : List (List UInt8)) (t : List UInt8) : List (List UInt8) := if t ∈ cs then cs else cs ++ [t]
set_option maxRecDepth 100000 in
theorem clone_mU (B : Nat) (v : Value) (L : List (List UInt8)) (w : World) (g : Gl w) (h : w.ownsRow B tStrMU 1 v L.length (L.map bsMU)) (hL : L.length ≤ 1000000) :
    Calls Tryz.prog 83 #[v] w fun e w' => ∃ v', e = .returned v' ∧ w'.ownsRow w.heap.size tStrMU 1 v' L.length (L.map bsMU) ∧ Nw w w' := by
  have hgb := g.big
  have h' := h
  have HL := Lib.hid hL; clear hL
  have hnil := fun (w : World) (a : Option Addr) (n c : Nat) => Lib.run_eql_slice_nil (P := Tryz.prog) w 30 _ a n c 0 0 Tryz.underlying30
  rcases h.2 with ⟨rfl, hn⟩ | ⟨gg, cap, cur, rfl, _, _, _⟩
  · have hn' := Lib.hid hn
    obtain rfl : L = [] := List.length_eq_zero_iff.1 hn
    clear h h' hn
    go_enter Tryz.func83, Tryz.ntmps83
    go_wp2_with fail
    go_ret
    exact ⟨_, rfl, ⟨by simp, Or.inl ⟨rfl, rfl⟩⟩, Upd.refl _ _⟩
  · have Hn := Lib.hid (h'.alloc (.cells #[] tStrMU))
    clear h h'
    have n1 := nw_alloc w (.cells #[] tStrMU)
    have o1 := owns_empty w tStrMU 1
    go_enter Tryz.func83, Tryz.ntmps83
    go_wp2_with (at_builtin; refine wpList_cat rfl _ _ 30 rfl w.heap.size B tStrMU _ 1 16 Tryz.underlying30 infoStrMU rfl (by decide) _ _ _ _ _ _ rfl o1 rfl Hn.out ?c1 ?c2 ?c3 ?c4 ?_)
    case c1 => exact bsM_oneU L
    case c2 => have := HL.out; unfold maxLen; omega
    case c3 => have := HL.out; omega
    case c4 => simp
    intro v' w2 hown hgrow hob
    have u2 : Nw w w2 := n1.grown hgrow (fun k hk => ⟨Or.inr (hob k hk).1, by have := (hob k hk).1; omega⟩)
    go_wp2_with fail
    go_ret
    refine ⟨_, rfl, ?_, u2⟩
    simpa using hown
/-! ### What is signed is small -/
/-- A list of contents in memory. -/
structure CntOkU (l : List (List UInt8)) : Prop where
  n : l.length ≤ 90
  s : ∀ t ∈ l, t.length ≤ 100
theorem strs_cellsU {lo hi : Nat} {w : World} {v : Value} {l : List (List UInt8)} (h : Sl lo hi w v (l.map bsMU)) :
    ∃ a cap, v = .slice a l.length cap ∧ (l = [] ∨ ∃ b off, a = some ⟨b, off, none⟩ ∧ ∀ i (hi : i < l.length), w.cell? ⟨b, off + i, none⟩ = some (.string ⟨l[i].toArray⟩)) := by
  obtain ⟨a, cap, rfl, -, hc⟩ := h.open_
  refine ⟨a, cap, by rw [List.length_map], ?_⟩
  rcases hc with ⟨-, -, hnil⟩ | ⟨b, off, rfl, -, -, -, hc⟩
  · exact Or.inl (List.map_eq_nil_iff.1 hnil)
  · refine Or.inr ⟨b, off, rfl, fun i hi => ?_⟩
    rw [hc i (by rw [List.length_map]; exact hi), List.getElem?_map, List.getElem?_eq_getElem hi]
    rfl
def csumU (l : List (List UInt8)) : Nat := (l.map List.length).sum
theorem csum_takeU (l : List (List UInt8)) (i : Nat) (h : i < l.length) : csumU (l.take (i + 1)) = csumU (l.take i) + l[i].length := by
  unfold csumU
  rw [List.take_succ_eq_append_getElem h, List.map_append, List.sum_append]; simp
theorem csum_leU {l : List (List UInt8)} (h : ∀ t ∈ l, t.length ≤ 100) : csumU l ≤ l.length * 100 := by
  induction l with
  | nil => exact Nat.le_refl _
  | cons t l ih =>
    have h1 := h t (by simp)
    have h2 := ih (fun s hs => h s (by simp [hs]))
    unfold csumU at h2 ⊢
    rw [List.map_cons, List.sum_cons, List.length_cons]
    omega
set_option maxRecDepth 100000 in
theorem csize_wU (lo hi : Nat) (v : Value) (l : List (List UInt8)) (w : World) (hv : Sl lo hi w v (l.map bsMU)) (hl : CntOkU l) :
    Calls Tryz.prog 84 #[v] w fun e w' => e = .returned (.int .i64 (csumU l : Nat)) ∧ Nw w w' := by
  obtain ⟨a, cap, rfl, hc⟩ := strs_cellsU hv
  have HC := Lib.hid hc
  have hl1 : (l.length : Int) ≤ 90 := by have := hl.n; omega
  have HL := Lib.hid hl
  clear hv hc hl
  go_enter Tryz.func84, Tryz.ntmps84
  go_wp2_with fail
  go_loopw [3, 8] (fun sv iv wr => ∃ i : Nat, i ≤ l.length ∧ iv = .int .i64 (i : Int) ∧ sv = .int .i64 (csumU (l.take i) : Nat) ∧ csumU (l.take i) ≤ i * 100 ∧ Hid (Nw w wr)) (fun _ iv _ => l.length - (intOf iv).toNat)
  case atStart => exact ⟨0, Nat.zero_le _, rfl, rfl, by simp [csumU], Upd.refl _ _⟩
  case round =>
    obtain ⟨i, hi, rfl, rfl, hs, HU⟩ := hrel
    by_cases hlt : i < l.length
    · have hlt1 : (i : Int) < l.length := by omega
      rcases HC.out with hnil | ⟨b, off, rfl, hcell⟩
      · simp [hnil] at hlt
      have c0 : wr.cell? ⟨b, off + i, none⟩ = some (.string ⟨l[i].toArray⟩) := later_cell ⟨wr, HU.out⟩ (hcell i hlt)
      have h100 := HL.out.s l[i] (List.getElem_mem hlt)
      have HS : Hid (csumU (l.take (i + 1)) = csumU (l.take i) + l[i].length) := csum_takeU l i hlt
      have h101 : (l[i].length : Int) ≤ 100 := by omega
      have hs1 : (csumU (l.take i) : Int) ≤ 9000 := by omega
      clear hcell
      generalize csumU (l.take i) = S at *
      generalize l[i] = x at *
      go_wp2_with fail
      go_roundw
      case rel => exact ⟨i + 1, by omega, by go_num, by rw [HS.out]; go_num, by rw [HS.out]; omega, HU⟩
      case measure => simp [intOf]; omega
    · obtain rfl : i = l.length := by omega
      go_wp2_with fail
      go_ret
      rw [List.take_length]
      exact ⟨rfl, HU.out⟩
theorem str_keyAU (s : List UInt8) (h : s.length ≤ 100) : ∃ kl, keyOf Tryz.prog tStrU (.string ⟨s.toArray⟩) = some kl := ⟨_, WideMaps.keyOf_string_mk Tryz.underlying9 (by rw [bs_size, bs_list]; unfold maxLen; omega)⟩
def seenSU (l : List (List UInt8)) : List (Value × Value) := l.map fun s => (.string ⟨s.toArray⟩, .bool true)
theorem bs_injU {a b : List UInt8} (h : (Value.string ⟨a.toArray⟩) = .string ⟨b.toArray⟩) : a = b := by
  injection h with h
  injection h with h
  have := congrArg Array.toList h
  simpa using this
set_option maxRecDepth 100000 in
theorem right_w37U (lo0 hi0 : Nat) (v : Value) (l : List (List UInt8)) (w : World) (g : Gl w) (hv : Sl lo0 hi0 w v (l.map bsMU)) (hl : CntOkU l) (hn : l.Nodup) :
    Calls Tryz.prog 81 #[v] w fun e w' => e = .returned (.bool true) ∧ Nw w w' := by
  obtain ⟨a, cap, rfl, hc⟩ := strs_cellsU hv
  have hgb := g.big
  have n1 := nw_alloc w (.map #[] 0)
  have m1 := MapL.made Tryz.prog tStrU w
  have hmm := @run_makeMap Tryz.prog
  obtain ⟨mb, hmb⟩ : ∃ mb, w.heap.size = mb := ⟨_, rfl⟩
  obtain ⟨w1, hw1⟩ : ∃ w1, w.alloc (.map #[] 0) = w1 := ⟨_, rfl⟩
  have HW1 := Lib.hid hw1
  rw [hw1] at n1 m1
  rw [hmb] at m1
  have Hmb := Lib.hid hmb
  have hJ0 : Hid (MapL Tryz.prog tStrU w1 mb (seenSU (l.take 0)) ∧ Nw w w1) := ⟨m1, n1⟩
  have HC := Lib.hid hc
  have HV := Lib.hid hv
  have HN := Lib.hid hn
  have hl1 : (l.length : Int) ≤ 90 := by have := hl.n; omega
  have HL := Lib.hid hl
  have hsz := csum_leU hl.s
  have hsz1 : (csumU l : Int) ≤ 9000 := by have := hl.n; omega
  have hszd : decide ((csumU l : Int) ≤ 1048576) = true := decide_eq_true (by omega)
  clear hv hc hl hn m1 n1 hmb hw1 hsz
  go_enter Tryz.func81, Tryz.ntmps81
  go_upto_region 2 with fail
  rw [HW1.out]
  (try rw [Hmb.out])
  go_wp2_with fail
  go_loopw [9] (fun iv wr => ∃ i : Nat, i ≤ l.length ∧ iv = .int .i64 (i : Int) ∧ Hid (MapL Tryz.prog tStrU wr mb (seenSU (l.take i)) ∧ Nw w wr)) (fun iv _ => l.length - (intOf iv).toNat)
  case atStart => exact ⟨0, Nat.zero_le _, rfl, hJ0.out⟩
  case round =>
    obtain ⟨i, hi, rfl, HJ⟩ := hrel
    by_cases hlt : i < l.length
    · have hlt1 : (i : Int) < l.length := by omega
      rcases HC.out with hnil | ⟨b, off, rfl, hcell⟩
      · simp [hnil] at hlt
      have c0 : wr.cell? ⟨b, off + i, none⟩ = some (.string ⟨l[i].toArray⟩) := later_cell ⟨wr, HJ.out.2⟩ (hcell i hlt)
      have h100 := HL.out.s l[i] (List.getElem_mem hlt)
      obtain ⟨kl, hkl⟩ := str_keyAU l[i] h100
      obtain ⟨w3, hst, hm3, u3⟩ := HJ.out.1.store_new strKeyedU Tryz.underlying231 (by have := Hmb.out; omega) hkl (fun p hp e => by
        obtain ⟨s, hs, rfl⟩ := List.mem_map.1 hp
        have hx := bs_injU e
        subst hx
        obtain ⟨k, hk, hk2⟩ := List.mem_iff_getElem.1 hs
        rw [List.length_take] at hk
        rw [List.getElem_take] at hk2
        exact List.pairwise_iff_getElem.1 HN.out k i (by omega) hlt (by omega) hk2) (.bool true)
      have Hst := Lib.hid hst
      have hz : Hid (MapL Tryz.prog tStrU w3 mb (seenSU (l.take (i + 1))) ∧ Nw w w3) := by
        refine ⟨?_, HJ.out.2.trans' u3 (fun k hk e => by have := Hmb.out; omega)⟩
        unfold seenSU
        rw [List.take_succ_eq_append_getElem hlt, List.map_append]
        exact hm3
      clear hcell hst hm3 u3 hkl HJ
      generalize l[i] = x at *
      go_wp2_with (at_mapUpdate; refine wpList_storeL rfl _ _ _ 231 rfl _ _ _ rfl rfl rfl Hst.out ?_)
      go_roundw
      case rel => exact ⟨i + 1, by omega, by go_num, hz.out⟩
      case measure => simp [intOf]; omega
    · obtain rfl : i = l.length := by omega
      have hm := HJ.out.1
      rw [List.take_length] at hm
      have HM := Lib.hid hm
      have HU := Lib.hid HJ.out.2
      have hsl : (seenSU l).length = l.length := by unfold seenSU; rw [List.length_map]
      have hcs := Lib.hid (csize_wU lo0 hi0 _ l wr (HV.out.nw HU.out) HL.out)
      have hll : ((l.length : Int) == (l.length : Int)) = true := beq_self_eq_true _
      generalize seenSU l = SS at *
      clear HJ hm
      go_wp2_with (at_len; refine wpList_lenL _ rfl _ 231 tStrU 4 rfl Tryz.underlying231 mb SS rfl HM.out ?_)
      (with_reducible refine (hcs.out).mono ?_)
      rintro _ w5 ⟨rfl, u5⟩
      have HF := Lib.hid (HU.out.trans u5)
      clear u5 hcs
      go_wp2_with fail
      go_ret
      exact ⟨rfl, HF.out⟩
set_option maxRecDepth 100000 in
theorem index_sU (lo0 hi0 : Nat) (v : Value) (l : List (List UInt8)) (t : List UInt8) (w : World) (hv : Sl lo0 hi0 w v (l.map bsMU)) (hl : l.length ≤ 90) :
    Calls Tryz.prog 139 #[v, .string ⟨t.toArray⟩] w fun e w' => e = .returned (.int .i64 (idxI (fun x => decide (x = t)) l)) ∧ Nw w w' := by
  obtain ⟨a, cap, rfl, hc⟩ := strs_cellsU hv
  have HC := Lib.hid hc
  have hl1 : (l.length : Int) ≤ 90 := by omega
  clear hv hc
  go_enter Tryz.func139, Tryz.ntmps139
  go_wp2_with fail
  go_loopw [8] (fun i wr => ∃ n : Nat, n ≤ l.length ∧ i = .int .i64 (n : Int) ∧ Hid (∀ j (h : j < l.length), j < n → (decide (l[j] = t)) = false) ∧ Hid (Nw w wr)) (fun i _ => l.length - (intOf i).toNat)
  case atStart => exact ⟨0, Nat.zero_le _, rfl, fun j _ h => absurd h (Nat.not_lt_zero _), Upd.refl _ _⟩
  case round =>
    obtain ⟨n, hn, rfl, hall, HU⟩ := hrel
    by_cases hlt : n < l.length
    · have hlt1 : (n : Int) < l.length := by omega
      rcases HC.out with hnil | ⟨b, off, rfl, hcell⟩
      · simp [hnil] at hlt
      have c0 : wr.cell? ⟨b, off + n, none⟩ = some (.string ⟨l[n].toArray⟩) := later_cell ⟨wr, HU.out⟩ (hcell n hlt)
      have hnext : l[n] ≠ t → Hid (∀ j (h : j < l.length), j < n + 1 → (decide (l[j] = t)) = false) := fun e j h hj => by
        by_cases ej : j = n
        · subst ej; exact decide_eq_false e
        · exact hall.out j h (by omega)
      have hstop : l[n] = t → Hid (idxI (fun x => decide (x = t)) l = n) := fun e => idx_hit hlt (decide_eq_true e) hall.out
      clear hcell
      generalize l[n] = x at *
      by_cases he : x = t
      · have hr := hstop he
        have htt : (t == x) = true := by simp [he]
        clear hstop hnext he
        go_wp2_with fail
        go_ret
        rw [hr.out]
        exact ⟨rfl, HU.out⟩
      · have hz := hnext he
        have htt : (t == x) = false := by simp; exact fun e => he e.symm
        clear hstop hnext he
        go_wp2_with fail
        go_roundw
        case rel => exact ⟨n + 1, by omega, by go_num, hz, HU⟩
        case measure => simp [intOf]; omega
    · obtain rfl : n = l.length := by omega
      have hr : Hid (idxI (fun x => decide (x = t)) l = -1) := idx_miss (fun j h => hall.out j h h)
      clear hall
      go_wp2_with fail
      go_ret
      rw [hr.out]
      exact ⟨rfl, HU.out⟩
set_option maxRecDepth 100000 in
theorem cprint_wU (lo0 hi0 : Nat) (v : Value) (l : List (List UInt8)) (t : List UInt8) (w : World) (hv : Sl lo0 hi0 w v (l.map bsMU)) (hl : l.length ≤ 90) :
    Calls Tryz.prog 82 #[v, .string ⟨t.toArray⟩] w fun e w' => e = .returned (.int .i64 (idxI (fun x => decide (x = t)) l)) ∧ Nw w w' := by
  have hi := Lib.hid (index_sU lo0 hi0 v l t w hv hl)
  obtain ⟨a, cap, rfl, -⟩ := strs_cellsU hv
  clear hv
  generalize idxI (fun x => decide (x = t)) l = ix at *
  go_enter Tryz.func82, Tryz.ntmps82
  go_wp2_with fail
  (with_reducible refine (hi.out).mono ?_)
  rintro _ w1 ⟨rfl, u1⟩
  go_wp2_with fail
  go_ret
  exact ⟨rfl, u1⟩
theorem idx_inU {l : List (List UInt8)} {t : List UInt8} (h : t ∈ l) : 0 ≤ idxI (fun x => decide (x = t)) l := by
  have := idx_any (fun x => decide (x = t)) l
  rw [List.any_eq_true.2 ⟨t, h, by simp⟩] at this
  exact of_decide_eq_true this
theorem idx_outU {l : List (List UInt8)} {t : List UInt8} (h : t ∉ l) : idxI (fun x => decide (x = t)) l = -1 :=
  idx_miss (fun j hj => decide_eq_false (fun e => h (e ▸ List.getElem_mem hj)))
/-- The print that a text gets. -/
def prtU (l : List (List UInt8)) (t : List UInt8) : Int := if t ∈ l then idxI (fun x => decide (x = t)) l else (l.length : Nat)
theorem prt_inU {l : List (List UInt8)} {t : List UInt8} (h : t ∈ l) : prtU l t = idxI (fun x => decide (x = t)) l := if_pos h
theorem prt_outU {l : List (List UInt8)} {t : List UInt8} (h : t ∉ l) : prtU l t = (l.length : Nat) := if_neg h
theorem cadd_resultsU (tmps : Array Value) (w : World) : (results Tryz.f23 tmps).run Tryz.prog w = .ok (.tuple #[tmps.getD 4 undef, tmps.getD 5 undef, tmps.getD 6 undef]) w := by
  simp [results, Tryz.results23, go_sem]
set_option maxHeartbeats 2000000 in
set_option maxRecDepth 100000 in
theorem cadd_wU (B : Nat) (v : Value) (l : List (List UInt8)) (t : List UInt8) (w : World) (g : Gl w) (hv : w.ownsRow B tStrMU 1 v l.length (l.map bsMU)) (hl : CntOkU l) (hl2 : l.length ≤ 89) (hn : l.Nodup) (ht : t.length ≤ 100) :
    Calls Tryz.prog 23 #[v, .string ⟨t.toArray⟩] w fun e w' => ∃ v', e = .returned (.tuple #[v', .int .i64 (prtU l t), .int .i64 0]) ∧ w'.ownsRow w.heap.size tStrMU 1 v' (addMU l t).length ((addMU l t).map bsMU) ∧ Nw w w' := by
  have hgb := g.big
  have hsl := Sl.of_owns hv
  have HR := Lib.hid (right_w37U _ _ v l w g hsl hl hn)
  have HP := Lib.hid (fun (z : World) (u : Nw w z) => cprint_wU _ _ v l t z (hsl.nw u) hl.n)
  have HS := Lib.hid (fun (z : World) (u : Nw w z) => csize_wU _ _ v l z (hsl.nw u) hl)
  have HC := Lib.hid (fun (z : World) (u : Nw w z) => clone_mU B v l z (g.upd u) (owns_upd' hv u (fun _ _ e => e)) (by omega))
  obtain ⟨a, cap, rfl⟩ := own_slG hv
  have hcs := csum_leU hl.s
  have hcs1 : (csumU l : Int) ≤ 9000 := by omega
  have hl1 : (l.length : Int) ≤ 89 := by omega
  have ht1 : (t.length : Int) ≤ 100 := by omega
  have hI := Lib.hid (fun h : t ∈ l => idx_inU h)
  have hO := Lib.hid (fun h : t ∉ l => idx_outU h)
  clear hv hsl hcs
  generalize csumU l = S at *
  have hpr1 := Lib.hid (fun h : t ∈ l => prt_inU h)
  have hpr2 := Lib.hid (fun h : t ∉ l => prt_outU h)
  generalize idxI (fun x => decide (x = t)) l = ix at *
  generalize prtU l t = pr at *
  go_enter Tryz.func23, Tryz.ntmps23
  go_wp2_with fail
  (with_reducible refine (HR.out).mono ?_)
  rintro _ w1 ⟨rfl, u1⟩
  have HP1 := Lib.hid (HP.out w1 u1)
  clear HR HP
  go_wp2_with fail
  (with_reducible refine (HP1.out).mono ?_)
  rintro _ w2 ⟨rfl, u2⟩
  have HU2 := Lib.hid (u1.trans u2)
  clear HP1 u1 u2
  by_cases hm : t ∈ l
  · have h0 := hI.out hm
    have HA : Hid (addMU l t = l) := by show _ = _; unfold addMU; rw [if_pos hm]
    have HPR : Hid (pr = ix) := hpr1.out hm
    clear hpr1 hpr2
    have d0 : decide (0 ≤ ix) = true := decide_eq_true h0
    have hc := Lib.hid (HC.out w2 HU2.out)
    clear hI hO HS HC hm h0
    go_wp2_with fail
    (with_reducible refine (hc.out).mono ?_)
    rintro _ w3 ⟨v', rfl, o3, u3⟩
    obtain ⟨a3, c3, rfl⟩ := own_slG o3
    have hz : Hid (w3.ownsRow w.heap.size tStrMU 1 (.slice a3 l.length c3) l.length (l.map bsMU) ∧ Nw w w3) := ⟨owns_base o3 HU2.out.size, HU2.out.trans u3⟩
    clear o3 u3 hc
    go_wp2_with fail
    (try simp only [Exit.inBlock, Exit.then])
    refine bodyPost_ret (cadd_resultsU _ _) rfl ?_
    rw [HA.out, HPR.out]
    exact ⟨_, rfl, hz.out⟩
  · have h0 := hO.out hm
    have HA : Hid (addMU l t = l ++ [t]) := by show _ = _; unfold addMU; rw [if_neg hm]
    have HPR : Hid (pr = (l.length : Nat)) := hpr2.out hm
    clear hpr1 hpr2
    subst h0
    have hs := Lib.hid (HS.out w2 HU2.out)
    clear hI hO HS hm
    go_wp2_with fail
    (with_reducible refine (hs.out).mono ?_)
    rintro _ w3 ⟨rfl, u3⟩
    have HU3 := Lib.hid (HU2.out.trans u3)
    have hc := Lib.hid (HC.out w3 HU3.out)
    clear u3 hs HC
    go_wp2_with fail
    (with_reducible refine (hc.out).mono ?_)
    rintro _ w4 ⟨v', rfl, o4, u4⟩
    have HU4 := Lib.hid (HU3.out.trans u4)
    have HO4 := Lib.hid o4
    have hs34 : w3.heap.size ≤ w4.heap.size := u4.size
    have hgw : nG ≤ w3.heap.size := by have := HU3.out.size; omega
    obtain ⟨a4, c4, rfl⟩ := own_slG o4
    clear o4 u4 hc
    go_wp2_with (at_builtin; (refine wpList_appL rfl _ _ 30 rfl w3.heap.size tStrMU _ 1 16 Tryz.underlying30 infoStrMU rfl (by decide) _ _ _ rfl HO4.out [Value.string ⟨t.toArray⟩] rfl rfl ?c1 ?c2 ?c3 hs34 hgw ?_))
    case c1 => intro u hu; rw [List.mem_singleton.1 hu]; rfl
    case c2 => unfold maxLen; omega
    case c3 => omega
    intro v' w5 o5 u5 hob
    obtain ⟨a5, c5, rfl⟩ := own_slG o5
    have hz : Hid (w5.ownsRow w.heap.size tStrMU 1 (.slice a5 (l.length + 1) c5) (l ++ [t]).length ((l ++ [t]).map bsMU) ∧ Nw w w5) := by
      refine ⟨?_, HU4.out.trans' u5 (fun k hk e => by have := (HO4.out.lt k e).1; have := HU3.out.size; omega)⟩
      have := owns_base o5 HU3.out.size
      rw [List.length_append, List.map_append]
      exact this
    clear o5 u5 hob
    go_wp2_with fail
    (try simp only [Exit.inBlock, Exit.then])
    refine bodyPost_ret (cadd_resultsU _ _) rfl ?_
    rw [HA.out, HPR.out]
    exact ⟨_, rfl, hz.out⟩
/-- What package content says of a print. -/
def textAtU (l : List (List UInt8)) (n : Int) : List UInt8 := if 0 ≤ n then l.getD n.toNat [] else []
def hasAtU (l : List (List UInt8)) (n : Int) : Bool := decide (0 ≤ n) && decide (n < l.length)
theorem text_resultsU (tmps : Array Value) (w : World) : (results Tryz.f71 tmps).run Tryz.prog w = .ok (.tuple #[tmps.getD 4 undef, tmps.getD 5 undef]) w := by
  simp [results, Tryz.results71, go_sem]
set_option maxRecDepth 100000 in
theorem ctext_wU (lo hi : Nat) (v : Value) (l : List (List UInt8)) (n : Int) (w : World) (hv : Sl lo hi w v (l.map bsMU)) (hl : l.length ≤ 90) :
    Calls Tryz.prog 71 #[v, .int .i64 n] w fun e w' => e = .returned (.tuple #[.string ⟨(textAtU l n).toArray⟩, .bool (hasAtU l n)]) ∧ Nw w w' := by
  obtain ⟨a, cap, rfl, hc⟩ := strs_cellsU hv
  have HC := Lib.hid hc
  have hl1 : (l.length : Int) ≤ 90 := by omega
  clear hv hc hl
  by_cases h0 : n < 0
  · have d0 : decide (n < 0) = true := decide_eq_true h0
    have h1 : Hid (textAtU l n = [] ∧ hasAtU l n = false) := by
      refine ⟨?_, ?_⟩
      · unfold textAtU; rw [if_neg (by omega)]
      · unfold hasAtU; rw [decide_eq_false (by omega)]; rfl
    rw [h1.out.1, h1.out.2]
    clear h1 h0
    go_enter Tryz.func71, Tryz.ntmps71
    go_wp2_with fail
    (try simp only [Exit.inBlock, Exit.then])
    refine bodyPost_ret (text_resultsU _ _) rfl ?_
    exact ⟨rfl, Upd.refl _ _⟩
  · obtain ⟨k, rfl⟩ : ∃ k : Nat, n = (k : Int) := ⟨n.toNat, by omega⟩
    have d0 : decide ((k : Int) < 0) = false := decide_eq_false h0
    by_cases h1 : k < l.length
    · have d1 : decide ((l.length : Int) ≤ (k : Int)) = false := decide_eq_false (by omega)
      rcases HC.out with hnil | ⟨b, off, rfl, hcell⟩
      · simp [hnil] at h1
      have c0 := hcell k h1
      have h2 : Hid (textAtU l (k : Int) = l[k] ∧ hasAtU l (k : Int) = true) := by
        refine ⟨?_, ?_⟩
        · unfold textAtU; rw [if_pos (by omega)]; simp [h1]
        · unfold hasAtU; simp [h1]
      rw [h2.out.1, h2.out.2]
      clear h2 hcell h0
      generalize l[k] = x at *
      have hk1 : (k : Int) < l.length := by omega
      go_enter Tryz.func71, Tryz.ntmps71
      go_wp2_with fail
      (try simp only [Exit.inBlock, Exit.then])
      refine bodyPost_ret (text_resultsU _ _) rfl ?_
      exact ⟨rfl, Upd.refl _ _⟩
    · have d1 : decide ((l.length : Int) ≤ (k : Int)) = true := decide_eq_true (by omega)
      have h2 : Hid (textAtU l (k : Int) = [] ∧ hasAtU l (k : Int) = false) := by
        refine ⟨?_, ?_⟩
        · unfold textAtU; rw [if_pos (by omega)]; simp [List.getElem?_eq_none (Nat.le_of_not_lt h1)]
        · unfold hasAtU; simp; omega
      rw [h2.out.1, h2.out.2]
      clear h2 h0
      go_enter Tryz.func71, Tryz.ntmps71
      go_wp2_with fail
      (try simp only [Exit.inBlock, Exit.then])
      refine bodyPost_ret (text_resultsU _ _) rfl ?_
      exact ⟨rfl, Upd.refl _ _⟩
end Go.Proofs.YtagmlemlagbfkaaGreatDoor
namespace Go.Proofs.YtagmlemlagbfkaaGreatDoor
set_option linter.unusedVariables false
set_option linter.unusedSimpArgs false

namespace Ck
/-- The consecutive parts of n + 1 bytes. -/
def parts (n : Nat) (l : List UInt8) : List (List UInt8) :=
  if h : l = [] then [] else l.take (n + 1) :: parts n (l.drop (n + 1))
termination_by l.length
decreasing_by
  have : l.length ≠ 0 := fun e => h (List.length_eq_zero_iff.1 e)
  simp only [List.length_drop]; omega
theorem parts_nil (n : Nat) : parts n [] = [] := by rw [parts]; simp
theorem parts_cons (n : Nat) {l : List UInt8} (h : l ≠ []) : parts n l = l.take (n + 1) :: parts n (l.drop (n + 1)) := by rw [parts, dif_neg h]
theorem parts_len (n : Nat) : ∀ (k : Nat) (l : List UInt8), l.length ≤ k → (parts n l).length ≤ l.length := by
  intro k
  induction k with
  | zero => intro l h; obtain rfl : l = [] := List.length_eq_zero_iff.1 (by omega); simp [parts_nil]
  | succ k ih =>
    intro l h
    by_cases e : l = []
    · subst e; simp [parts_nil]
    · rw [parts_cons n e, List.length_cons]
      have hl : l.length ≠ 0 := fun c => e (List.length_eq_zero_iff.1 c)
      have := ih (l.drop (n + 1)) (by rw [List.length_drop]; omega)
      rw [List.length_drop] at this
      omega
theorem parts_sz (n : Nat) : ∀ (k : Nat) (l : List UInt8), l.length ≤ k → ∀ p ∈ parts n l, p.length ≤ n + 1 ∧ p ≠ [] := by
  intro k
  induction k with
  | zero => intro l h p hp; obtain rfl : l = [] := List.length_eq_zero_iff.1 (by omega); simp [parts_nil] at hp
  | succ k ih =>
    intro l h p hp
    by_cases e : l = []
    · subst e; simp [parts_nil] at hp
    · rw [parts_cons n e] at hp
      have hl : l.length ≠ 0 := fun c => e (List.length_eq_zero_iff.1 c)
      rcases List.mem_cons.1 hp with rfl | hp
      · exact ⟨by rw [List.length_take]; omega, fun c => by have := congrArg List.length c; rw [List.length_take, List.length_nil] at this; omega⟩
      · exact ih (l.drop (n + 1)) (by rw [List.length_drop]; omega) p hp
theorem parts_join (n : Nat) : ∀ (k : Nat) (l : List UInt8), l.length ≤ k → (parts n l).flatten = l := by
  intro k
  induction k with
  | zero => intro l h; obtain rfl : l = [] := List.length_eq_zero_iff.1 (by omega); simp [parts_nil]
  | succ k ih =>
    intro l h
    by_cases e : l = []
    · subst e; simp [parts_nil]
    · rw [parts_cons n e, List.flatten_cons]
      have hl : l.length ≠ 0 := fun c => e (List.length_eq_zero_iff.1 c)
      rw [ih (l.drop (n + 1)) (by rw [List.length_drop]; omega)]
      exact List.take_append_drop _ _

/-- Contents and prints behind adding texts. -/
def adds : List (List UInt8) → List (List UInt8) → List (List UInt8)
  | cs, [] => cs
  | cs, s :: l => adds (addMU cs s) l
def prts : List (List UInt8) → List (List UInt8) → List Int
  | _, [] => []
  | cs, s :: l => prtU cs s :: prts (addMU cs s) l
theorem adds_snoc (l : List (List UInt8)) (s : List UInt8) : ∀ cs, adds cs (l ++ [s]) = addMU (adds cs l) s := by
  induction l with
  | nil => intro cs; rfl
  | cons a l ih => intro cs; exact ih _
theorem prts_snoc (l : List (List UInt8)) (s : List UInt8) : ∀ cs, prts cs (l ++ [s]) = prts cs l ++ [prtU (adds cs l) s] := by
  induction l with
  | nil => intro cs; rfl
  | cons a l ih => intro cs; exact congrArg (prtU cs a :: ·) (ih (addMU cs a))
theorem prts_len (l : List (List UInt8)) : ∀ cs, (prts cs l).length = l.length := by
  induction l with
  | nil => intro cs; rfl
  | cons a l ih => intro cs; show (_ :: _).length = _; simp [ih]
theorem add_len (cs : List (List UInt8)) (s : List UInt8) : (addMU cs s).length ≤ cs.length + 1 := by unfold addMU; split <;> simp
theorem adds_len (l : List (List UInt8)) : ∀ cs, (adds cs l).length ≤ cs.length + l.length := by
  induction l with
  | nil => intro cs; exact Nat.le_refl _
  | cons a l ih =>
    intro cs
    have := ih (addMU cs a)
    have := add_len cs a
    show (adds (addMU cs a) l).length ≤ _
    rw [List.length_cons]; omega
theorem add_nodup {cs : List (List UInt8)} (h : cs.Nodup) (s : List UInt8) : (addMU cs s).Nodup := by
  unfold addMU
  split
  · exact h
  · next hs => exact List.nodup_append.2 ⟨h, by simp, fun a ha b hb => by rw [List.mem_singleton.1 hb]; rintro rfl; exact hs ha⟩
theorem adds_nodup (l : List (List UInt8)) : ∀ {cs : List (List UInt8)}, cs.Nodup → (adds cs l).Nodup := by
  induction l with
  | nil => intro cs h; exact h
  | cons a l ih => intro cs h; exact ih (add_nodup h a)
theorem add_mem {cs : List (List UInt8)} {s t : List UInt8} (h : t ∈ addMU cs s) : t ∈ cs ∨ t = s := by
  unfold addMU at h
  split at h
  · exact Or.inl h
  · rcases List.mem_append.1 h with h | h
    · exact Or.inl h
    · exact Or.inr (List.mem_singleton.1 h)
theorem adds_mem (l : List (List UInt8)) : ∀ {cs : List (List UInt8)} {t : List UInt8}, t ∈ adds cs l → t ∈ cs ∨ t ∈ l := by
  induction l with
  | nil => intro cs t h; exact Or.inl h
  | cons a l ih =>
    intro cs t h
    rcases ih h with h | h
    · rcases add_mem h with h | rfl
      · exact Or.inl h
      · exact Or.inr (by simp)
    · exact Or.inr (by simp [h])

/-- A manifest. -/
structure Man where
  print : Int
  size : Int
  chunks : List Int
/-- The manifest that Of returns for contents cs. -/
def man (cs : List (List UInt8)) (t : List UInt8) (n : Nat) : Man := { print := prtU cs t, size := t.length, chunks := prts (addMU cs t) (parts n t) }
def conts (cs : List (List UInt8)) (t : List UInt8) (n : Nat) : List (List UInt8) := adds (addMU cs t) (parts n t)
end Ck
end Go.Proofs.YtagmlemlagbfkaaGreatDoor
namespace Go.Proofs.YtagmlemlagbfkaaGreatDoor
set_option linter.unusedVariables false
set_option linter.unusedSimpArgs false

namespace Ft
/-- The rest of a text is made up by the contents with some prints. -/
def eats (cs : List (List UInt8)) : List Int → List UInt8 → Bool
  | [], t => t.isEmpty
  | n :: ns, t => (hasAtU cs n && !(textAtU cs n).isEmpty && decide ((textAtU cs n).length ≤ 4096) && (textAtU cs n).isPrefixOf t) && eats cs ns (t.drop (textAtU cs n).length)
def rightM (cs : List (List UInt8)) (m : Ck.Man) : Bool :=
  hasAtU cs m.print && decide (m.size = (textAtU cs m.print).length) && decide (m.chunks.length ≤ 1000) && eats cs m.chunks (textAtU cs m.print)
def checkM (cs : List (List UInt8)) (chunks : List Int) (i : Int) (t : List UInt8) : Bool :=
  (decide (0 ≤ i) && decide (i < chunks.length)) && (hasAtU cs (chunks.getD i.toNat 0) && decide (textAtU cs (chunks.getD i.toNat 0) = t))
/-- The indices, from k on, of the prints that are not in a list. -/
def missF (have_ : List Int) : Nat → List Int → List Int
  | _, [] => []
  | k, n :: ns => if n ∈ have_ then missF have_ (k + 1) ns else (k : Int) :: missF have_ (k + 1) ns
def miss (chunks have_ : List Int) : List Int := missF have_ 0 chunks
theorem missF_snoc (hv : List Int) (n : Int) : ∀ (l : List Int) (k : Nat), missF hv k (l ++ [n]) = missF hv k l ++ if n ∈ hv then [] else [((k + l.length : Nat) : Int)] := by
  intro l
  induction l with
  | nil => intro k; show (if n ∈ hv then missF hv (k + 1) [] else _) = _; split <;> simp [missF]
  | cons a l ih =>
    intro k
    show (if a ∈ hv then missF hv (k + 1) (l ++ [n]) else _ :: missF hv (k + 1) (l ++ [n])) = (if a ∈ hv then missF hv (k + 1) l else _ :: missF hv (k + 1) l) ++ _
    rw [ih (k + 1), List.length_cons, show k + 1 + l.length = k + (l.length + 1) by omega]
    split <;> rfl
theorem miss_snoc (hv : List Int) (n : Int) (l : List Int) : miss (l ++ [n]) hv = miss l hv ++ if n ∈ hv then [] else [(l.length : Int)] := by
  unfold miss; rw [missF_snoc]; simp
theorem missF_len (hv : List Int) : ∀ (l : List Int) (k : Nat), (missF hv k l).length ≤ l.length := by
  intro l
  induction l with
  | nil => intro k; exact Nat.le_refl _
  | cons a l ih =>
    intro k
    have := ih (k + 1)
    show (if a ∈ hv then _ else _ :: _).length ≤ _
    split
    · rw [List.length_cons]; omega
    · rw [List.length_cons, List.length_cons]; omega
theorem miss_len (l hv : List Int) : (miss l hv).length ≤ l.length := missF_len hv l 0
theorem mem_missF (hv : List Int) (x : Int) : ∀ (l : List Int) (k : Nat), x ∈ missF hv k l ↔ ∃ i, ∃ h : i < l.length, x = ((k + i : Nat) : Int) ∧ l[i] ∉ hv := by
  intro l
  induction l with
  | nil => intro k; simp [missF]
  | cons a l ih =>
    intro k
    have key : x ∈ missF hv (k + 1) l ↔ ∃ i, ∃ h : i + 1 < (a :: l).length, x = ((k + (i + 1) : Nat) : Int) ∧ (a :: l)[i + 1] ∉ hv := by
      rw [ih (k + 1)]
      constructor
      · rintro ⟨i, h, e, n⟩; exact ⟨i, by simpa using h, by rw [e]; congr 1; omega, n⟩
      · rintro ⟨i, h, e, n⟩; exact ⟨i, by simpa using h, by rw [e]; congr 1; omega, n⟩
    show x ∈ (if a ∈ hv then missF hv (k + 1) l else (k : Int) :: missF hv (k + 1) l) ↔ _
    by_cases ha : a ∈ hv
    · rw [if_pos ha, key]
      constructor
      · rintro ⟨i, h, e, n⟩; exact ⟨i + 1, h, e, n⟩
      · rintro ⟨i, h, e, n⟩
        cases i with
        | zero => exact absurd ha n
        | succ i => exact ⟨i, h, e, n⟩
    · rw [if_neg ha, List.mem_cons, key]
      constructor
      · rintro (e | ⟨i, h, e, n⟩)
        · exact ⟨0, by simp, by simpa using e, ha⟩
        · exact ⟨i + 1, h, e, n⟩
      · rintro ⟨i, h, e, n⟩
        cases i with
        | zero => exact Or.inl (by simpa using e)
        | succ i => exact Or.inr ⟨i, h, e, n⟩
theorem mem_miss {l hv : List Int} {x : Int} : x ∈ miss l hv ↔ ∃ i, ∃ h : i < l.length, x = (i : Int) ∧ l[i] ∉ hv := by
  unfold miss; rw [mem_missF]; simp
theorem miss_nil {l hv : List Int} (h : ∀ n ∈ l, n ∈ hv) : miss l hv = [] := by
  apply List.eq_nil_iff_forall_not_mem.2
  intro x hx
  obtain ⟨i, hi, _, hn⟩ := mem_miss.1 hx
  exact hn (h _ (List.getElem_mem hi))
theorem miss_nil_iff {l hv : List Int} : miss l hv = [] ↔ ∀ n ∈ l, n ∈ hv := by
  refine ⟨fun h n hn => ?_, miss_nil⟩
  obtain ⟨i, hi, rfl⟩ := List.mem_iff_getElem.1 hn
  by_cases hc : l[i] ∈ hv
  · exact hc
  · have : ((i : Nat) : Int) ∈ miss l hv := mem_miss.2 ⟨i, hi, rfl, hc⟩
    rw [h] at this
    cases this

/-! ### Plans -/
/-- The mirror of least load, among the first k, that has print p; -1 if there is none. -/
def best (p : Int) (load : List Int) (ls : List (List Int)) : Nat → Int
  | 0 => -1
  | k + 1 => if (best p load ls k < 0 ∨ load.getD k 0 < load.getD (best p load ls k).toNat 0) ∧ p ∈ ls.getD k [] then (k : Int) else best p load ls k
theorem best_succ (p : Int) (load : List Int) (ls : List (List Int)) (k : Nat) : best p load ls (k + 1) = if (best p load ls k < 0 ∨ load.getD k 0 < load.getD (best p load ls k).toNat 0) ∧ p ∈ ls.getD k [] then (k : Int) else best p load ls k := rfl
theorem best_lo (p : Int) (load : List Int) (ls : List (List Int)) : ∀ k, -1 ≤ best p load ls k ∧ best p load ls k < k := by
  intro k
  induction k with
  | zero => exact ⟨by show (-1 : Int) ≤ -1; omega, by show (-1 : Int) < 0; omega⟩
  | succ k ih =>
    rw [best_succ]
    split <;> omega
def stepP (ls : List (List Int)) (s : List Int × List Int) (p : Int) : List Int × List Int :=
  let b := best p s.1 ls ls.length
  (s.1.set b.toNat (s.1.getD b.toNat 0 + 1), s.2 ++ [b])
def runP (ls : List (List Int)) (ps : List Int) : List Int × List Int := ps.foldl (stepP ls) (List.replicate ls.length 0, [])
theorem runP_snoc (ls : List (List Int)) (ps : List Int) (p : Int) : runP ls (ps ++ [p]) = stepP ls (runP ls ps) p := by unfold runP; rw [List.foldl_append]; rfl
theorem runP_len (ls : List (List Int)) (ps : List Int) : (runP ls ps).1.length = ls.length ∧ (runP ls ps).2.length = ps.length := by
  have key : ∀ (ps : List Int) (s : List Int × List Int), (ps.foldl (stepP ls) s).1.length = s.1.length ∧ (ps.foldl (stepP ls) s).2.length = s.2.length + ps.length := by
    intro ps
    induction ps with
    | nil => intro s; exact ⟨rfl, rfl⟩
    | cons p ps ih =>
      intro s
      obtain ⟨h1, h2⟩ := ih (stepP ls s p)
      refine ⟨h1.trans (by simp [stepP]), h2.trans (by simp [stepP]; omega)⟩
  obtain ⟨h1, h2⟩ := key ps (List.replicate ls.length 0, [])
  exact ⟨by unfold runP; rw [h1]; simp, by unfold runP; rw [h2]; simp⟩
theorem stepP_bd {ls : List (List Int)} {s : List Int × List Int} {n : Nat} (h : ∀ x ∈ s.1, 0 ≤ x ∧ x ≤ n) (p : Int) : ∀ x ∈ (stepP ls s p).1, 0 ≤ x ∧ x ≤ (n + 1 : Nat) := by
  intro x hx
  have hx : x ∈ s.1.set (best p s.1 ls ls.length).toNat (s.1.getD (best p s.1 ls ls.length).toNat 0 + 1) := hx
  rcases List.mem_or_eq_of_mem_set hx with hx | rfl
  · have := h x hx; omega
  · rw [List.getD_eq_getElem?_getD]
    cases hc : s.1[(best p s.1 ls ls.length).toNat]? with
    | none => simp; omega
    | some y => have := h y (List.mem_of_getElem? hc); simp; omega
theorem runP_bd (ls : List (List Int)) (ps : List Int) : ∀ x ∈ (runP ls ps).1, 0 ≤ x ∧ x ≤ ps.length := by
  have key : ∀ (ps : List Int) (s : List Int × List Int) (n : Nat), (∀ x ∈ s.1, 0 ≤ x ∧ x ≤ n) → ∀ x ∈ (ps.foldl (stepP ls) s).1, 0 ≤ x ∧ x ≤ (n + ps.length : Nat) := by
    intro ps
    induction ps with
    | nil => intro s n h; exact h
    | cons p ps ih =>
      intro s n h x hx
      have := ih (stepP ls s p) (n + 1) (stepP_bd h p) x hx
      rw [List.length_cons]; omega
  intro x hx
  have := key ps (List.replicate ls.length 0, []) 0 (fun y hy => by rw [(List.mem_replicate.1 hy).2]; omega) x hx
  omega
theorem mem_flat {ls : List (List Int)} {p : Int} (h : p ∈ ls.flatten) : ∃ i, i < ls.length ∧ p ∈ ls.getD i [] := by
  obtain ⟨l, hl, hp⟩ := List.mem_flatten.1 h
  obtain ⟨i, hi, rfl⟩ := List.mem_iff_getElem.1 hl
  exact ⟨i, hi, by rw [List.getD_eq_getElem?_getD, List.getElem?_eq_getElem hi]; exact hp⟩
/-- Plan: the mirrors and the error. -/
def plan (chunks : List Int) (ls : List (List Int)) : List Int × Int :=
  if 20 < ls.length ∨ 1000 < chunks.length then ([], 6)
  else if 0 < (miss chunks ls.flatten).length then ([], 33)
  else ((runP ls chunks).2, 0)
theorem best_hit {p : Int} {load : List Int} {ls : List (List Int)} : ∀ k, (∃ i, i < k ∧ p ∈ ls.getD i []) → 0 ≤ best p load ls k ∧ p ∈ ls.getD (best p load ls k).toNat [] := by
  intro k
  induction k with
  | zero => rintro ⟨i, h, _⟩; omega
  | succ k ih =>
    rintro ⟨i, h, hp⟩
    rw [best_succ]
    split
    · next hc => exact ⟨by omega, by rw [Int.toNat_natCast]; exact hc.2⟩
    · next hc =>
      by_cases hik : i = k
      · subst hik
        have hb : ¬ best p load ls i < 0 := fun hb => hc ⟨Or.inl hb, hp⟩
        by_cases hx : ∃ i', i' < i ∧ p ∈ ls.getD i' []
        · exact ih hx
        · exfalso
          have : ∀ k, k ≤ i → best p load ls k = -1 := by
            intro k
            induction k with
            | zero => intro _; rfl
            | succ k ihk =>
              intro hk
              rw [best_succ, if_neg (fun q => hx ⟨k, by omega, q.2⟩)]
              exact ihk (by omega)
          have := this i (Nat.le_refl _)
          omega
      · exact ih ⟨i, by omega, hp⟩
end Ft
end Go.Proofs.YtagmlemlagbfkaaGreatDoor
namespace Go.Proofs.YtagmlemlagbfkaaGreatDoor
set_option linter.unusedVariables false
set_option linter.unusedSimpArgs false

namespace Ft
theorem has_nat {cs : List (List UInt8)} {k : Nat} (h : k < cs.length) : hasAtU cs (k : Int) = true := by unfold hasAtU; simp; omega
theorem text_nat {cs : List (List UInt8)} {k : Nat} (h : k < cs.length) : textAtU cs (k : Int) = cs[k] := by
  unfold textAtU; rw [if_pos (by omega)]; simp [h]
theorem has_inv {cs : List (List UInt8)} {n : Int} (h : hasAtU cs n = true) : ∃ k : Nat, ∃ hk : k < cs.length, n = k := by
  unfold hasAtU at h
  simp at h
  exact ⟨n.toNat, by omega, by omega⟩
theorem has_app {cs r : List (List UInt8)} {n : Int} (h : hasAtU cs n = true) : hasAtU (cs ++ r) n = true ∧ textAtU (cs ++ r) n = textAtU cs n := by
  obtain ⟨k, hk, rfl⟩ := has_inv h
  have hk2 : k < (cs ++ r).length := by rw [List.length_append]; omega
  exact ⟨has_nat hk2, by rw [text_nat hk2, text_nat hk, List.getElem_append_left hk]⟩
theorem add_pre (cs : List (List UInt8)) (s : List UInt8) : ∃ r, addMU cs s = cs ++ r := by
  unfold addMU
  split
  · exact ⟨[], by simp⟩
  · exact ⟨[s], rfl⟩
theorem adds_pre (l : List (List UInt8)) : ∀ cs, ∃ r, Ck.adds cs l = cs ++ r := by
  induction l with
  | nil => exact fun cs => ⟨[], by simp [Ck.adds]⟩
  | cons s l ih =>
    intro cs
    obtain ⟨r1, h1⟩ := add_pre cs s
    obtain ⟨r2, h2⟩ := ih (addMU cs s)
    exact ⟨r1 ++ r2, by rw [Ck.adds, h2, h1, List.append_assoc]⟩
theorem idx_spec {cs : List (List UInt8)} {s : List UInt8} (h : s ∈ cs) : ∃ k : Nat, ∃ hk : k < cs.length, idxI (fun x => decide (x = s)) cs = k ∧ cs[k] = s := by
  obtain ⟨k, hk⟩ : ∃ k, cs.findIdx? (fun x => decide (x = s)) = some k := by
    cases he : cs.findIdx? (fun x => decide (x = s)) with
    | some k => exact ⟨k, rfl⟩
    | none =>
      rw [List.findIdx?_eq_none_iff] at he
      simpa using he s h
  obtain ⟨h1, h2, _⟩ := List.findIdx?_eq_some_iff_getElem.1 hk
  exact ⟨k, h1, by unfold idxI; rw [hk], by simpa using h2⟩
theorem prt_spec (cs : List (List UInt8)) (s : List UInt8) : hasAtU (addMU cs s) (prtU cs s) = true ∧ textAtU (addMU cs s) (prtU cs s) = s := by
  unfold prtU addMU
  by_cases h : s ∈ cs
  · rw [if_pos h, if_pos h]
    obtain ⟨k, hk, e1, e2⟩ := idx_spec h
    rw [e1]
    exact ⟨has_nat hk, (text_nat hk).trans e2⟩
  · rw [if_neg h, if_neg h]
    have hk : cs.length < (cs ++ [s]).length := by simp
    exact ⟨has_nat hk, by rw [text_nat hk]; simp⟩
theorem prts_spec (l : List (List UInt8)) : ∀ cs, (∀ n ∈ Ck.prts cs l, hasAtU (Ck.adds cs l) n = true) ∧ (Ck.prts cs l).map (textAtU (Ck.adds cs l)) = l := by
  induction l with
  | nil => exact fun cs => ⟨fun n hn => (by cases hn), rfl⟩
  | cons s l ih =>
    intro cs
    obtain ⟨h1, h2⟩ := ih (addMU cs s)
    obtain ⟨p1, p2⟩ := prt_spec cs s
    obtain ⟨r, hr⟩ := adds_pre l (addMU cs s)
    obtain ⟨q1, q2⟩ := has_app (r := r) p1
    rw [← hr] at q1 q2
    refine ⟨fun n hn => ?_, ?_⟩
    · rcases List.mem_cons.1 hn with rfl | hn
      · exact q1
      · exact h1 n hn
    · show textAtU (Ck.adds (addMU cs s) l) (prtU cs s) :: (Ck.prts (addMU cs s) l).map (textAtU (Ck.adds (addMU cs s) l)) = s :: l
      rw [h2, q2, p2]
theorem eats_ok {cs : List (List UInt8)} : ∀ {ns : List Int} {ps : List (List UInt8)} {t : List UInt8}, (∀ n ∈ ns, hasAtU cs n = true) → ns.map (textAtU cs) = ps → (∀ p ∈ ps, p ≠ [] ∧ p.length ≤ 4096) → t = ps.flatten → eats cs ns t = true := by
  intro ns
  induction ns with
  | nil => rintro ps t _ rfl _ rfl; rfl
  | cons n ns ih =>
    rintro ps t h rfl hp rfl
    obtain ⟨h1, h2⟩ := hp (textAtU cs n) (by simp)
    show ((hasAtU cs n && !(textAtU cs n).isEmpty && decide _ && (textAtU cs n).isPrefixOf _) && eats cs ns _) = true
    rw [h n (by simp), decide_eq_true h2, ih (fun m hm => h m (by simp [hm])) rfl (fun p hq => hp p (by simp at hq ⊢; exact Or.inr hq)) (by simp)]
    simp [h1]
structure Cut (cs : List (List UInt8)) (m : Ck.Man) (t : List UInt8) : Prop where
  nodup : cs.Nodup
  len : cs.length ≤ 90
  sm : ∀ s ∈ cs, s.length ≤ 100
  right : rightM cs m = true
  text : textAtU cs m.print = t ∧ hasAtU cs m.print = true
  chunks : m.chunks.length ≤ 60
  each : ∀ n ∈ m.chunks, hasAtU cs n = true ∧ textAtU cs n ≠ [] ∧ (textAtU cs n).length ≤ 9
  flat : (m.chunks.map (textAtU cs)).flatten = t
theorem cut_ok {cs0 : List (List UInt8)} (hn : cs0.Nodup) {t : List UInt8} (hl : cs0.length + t.length ≤ 85) (hs : ∀ s ∈ cs0, s.length ≤ 100) (ht : t.length ≤ 60) {n : Nat} (hn8 : n ≤ 8) : Cut (Ck.conts cs0 t n) (Ck.man cs0 t n) t := by
  have p1 := Ck.parts_len n t.length t (Nat.le_refl _)
  have p2 := Ck.parts_sz n t.length t (Nat.le_refl _)
  have p3 := Ck.parts_join n t.length t (Nat.le_refl _)
  obtain ⟨q1, q2⟩ := prts_spec (Ck.parts n t) (addMU cs0 t)
  obtain ⟨r1, r2⟩ := prt_spec cs0 t
  obtain ⟨r, hr⟩ := adds_pre (Ck.parts n t) (addMU cs0 t)
  obtain ⟨s1, s2⟩ := has_app (r := r) r1
  rw [← hr] at s1 s2
  have hal := Ck.adds_len (Ck.parts n t) (addMU cs0 t)
  have hal2 := Ck.add_len cs0 t
  have hlen : (Ck.prts (addMU cs0 t) (Ck.parts n t)).length = (Ck.parts n t).length := Ck.prts_len _ _
  have hpp : ∀ p ∈ Ck.parts n t, p ≠ [] ∧ p.length ≤ 4096 := fun p hp => ⟨(p2 p hp).2, by have := (p2 p hp).1; omega⟩
  have he := eats_ok q1 q2 hpp p3.symm
  refine ⟨Ck.adds_nodup _ (Ck.add_nodup hn t), by unfold Ck.conts; omega, fun s hs' => ?_, ?_, ⟨s2.trans r2, s1⟩, by show (Ck.prts _ _).length ≤ 60; omega, fun k hk => ?_, by show ((Ck.prts _ _).map _).flatten = t; unfold Ck.conts; rw [q2, p3]⟩
  · rcases Ck.adds_mem _ hs' with h | h
    · rcases Ck.add_mem h with h | rfl
      · have := hs s h; omega
      · omega
    · have := (p2 s h).1; omega
  · show (hasAtU (Ck.adds (addMU cs0 t) (Ck.parts n t)) (prtU cs0 t) && decide (((t.length : Nat) : Int) = ((textAtU (Ck.adds (addMU cs0 t) (Ck.parts n t)) (prtU cs0 t)).length : Int)) && decide ((Ck.prts (addMU cs0 t) (Ck.parts n t)).length ≤ 1000) && eats (Ck.adds (addMU cs0 t) (Ck.parts n t)) (Ck.prts (addMU cs0 t) (Ck.parts n t)) (textAtU (Ck.adds (addMU cs0 t) (Ck.parts n t)) (prtU cs0 t))) = true
    rw [s1, s2, r2, he, decide_eq_true rfl, decide_eq_true (by omega)]
    rfl
  · have hk2 : k ∈ Ck.prts (addMU cs0 t) (Ck.parts n t) := hk
    have : textAtU (Ck.adds (addMU cs0 t) (Ck.parts n t)) k ∈ Ck.parts n t := by
      have h := List.mem_map_of_mem (f := textAtU (Ck.adds (addMU cs0 t) (Ck.parts n t))) hk2
      rw [q2] at h
      exact h
    refine ⟨q1 k hk2, (p2 _ this).2, ?_⟩
    have := (p2 _ this).1
    show (textAtU (Ck.adds (addMU cs0 t) (Ck.parts n t)) k).length ≤ 9
    omega
/-- In contents without two equal ones the texts tell the prints. -/
theorem text_inj {cs : List (List UInt8)} (hn : cs.Nodup) {a b : Int} (ha : hasAtU cs a = true) (hb : hasAtU cs b = true) (e : textAtU cs a = textAtU cs b) : a = b := by
  obtain ⟨i, hi, rfl⟩ := has_inv ha
  obtain ⟨k, hk, rfl⟩ := has_inv hb
  rw [text_nat hi, text_nat hk] at e
  have := (List.getElem_inj hn (h₀ := hi) (h₁ := hk)).1 e
  omega
theorem print_of {cs : List (List UInt8)} (hn : cs.Nodup) {a : Int} (ha : hasAtU cs a = true) : idxI (fun x => decide (x = textAtU cs a)) cs = a := by
  have hm : textAtU cs a ∈ cs := by
    obtain ⟨i, hi, rfl⟩ := has_inv ha
    rw [text_nat hi]; exact List.getElem_mem hi
  obtain ⟨k, hk, e1, e2⟩ := idx_spec hm
  rw [e1]
  exact text_inj hn (has_nat hk) ha (by rw [text_nat hk, e2])
end Ft
end Go.Proofs.YtagmlemlagbfkaaGreatDoor
namespace Go.Proofs.YtagmlemlagbfkaaGreatDoor.Wire
open Go.Lib
set_option linter.unusedVariables false
set_option linter.unusedSimpArgs false

/-! ### Writing -/
def intE (n : Int) : List UInt8 := itoa n ++ [59]
def numE (n : Int) : List UInt8 := if n < 0 then [] else intE n
def textE (s : List UInt8) : List UInt8 := itoa s.length ++ [58] ++ s ++ [44]
/-! ### Reading -/
/-- What a reader has left; none: it has failed. -/
abbrev St := Option (List UInt8)
/-- The int of which l is the decimal form. -/
def numOf (l : List UInt8) : Option Int :=
  match atoiAll l with
  | .ok v => if itoa v = l then some v else none
  | _ => none
def rNumber (st : St) (e : UInt8) (least : Int) : Int × St :=
  match st with
  | none => (0, none)
  | some r =>
    if indexByte (r.take 21) e < 0 then (0, none) else
    match numOf (r.take (indexByte (r.take 21) e).toNat) with
    | some n => if n < least then (0, none) else (n, some (r.drop ((indexByte (r.take 21) e).toNat + 1)))
    | none => (0, none)
def rClose (st : St) (e : UInt8) : St :=
  match st with
  | some (c :: r) => if c = e then some r else none
  | _ => none
def rNum (st : St) : Int × St := rNumber st 59 0
def rText (st : St) : List UInt8 × St :=
  match rNumber st 58 0 with
  | (n, some r) =>
    if r.length < n.toNat then ([], none) else
    match rClose (some (r.drop n.toNat)) 44 with
    | some r' => (r.take n.toNat, some r')
    | none => ([], none)
  | (_, none) => ([], none)
theorem indexByte_lt : ∀ (l : List UInt8) (c : UInt8), indexByte l c < l.length
  | [], c => by simp [indexByte]
  | b :: l, c => by
    have ih := indexByte_lt l c
    simp only [indexByte]
    split
    · simp only [List.length_cons]; omega
    · split <;> (simp only [List.length_cons]; omega)
theorem rNumber_eq (st : St) (e : UInt8) (least : Int) : rNumber st e least =
    if indexByte ((st.getD []).take 21) e < 0 then (0, none) else
    match numOf ((st.getD []).take (indexByte ((st.getD []).take 21) e).toNat) with
    | some n => if n < least then (0, none) else (n, some ((st.getD []).drop ((indexByte ((st.getD []).take 21) e).toNat + 1)))
    | none => (0, none) := by
  cases st with
  | none => rfl
  | some r => rfl
theorem rNumber_neg {st : St} {e : UInt8} {least : Int} (h : indexByte ((st.getD []).take 21) e < 0) : rNumber st e least = (0, none) := by
  rw [rNumber_eq, if_pos h]
theorem rNumber_none {st : St} {e : UInt8} {least i : Int} (hi : indexByte ((st.getD []).take 21) e = i) (h : 0 ≤ i) (hn : numOf ((st.getD []).take i.toNat) = none) : rNumber st e least = (0, none) := by
  rw [rNumber_eq, hi, if_neg (by omega), hn]
theorem rNumber_some {st : St} {e : UInt8} {least i n : Int} (hi : indexByte ((st.getD []).take 21) e = i) (h : 0 ≤ i) (hn : numOf ((st.getD []).take i.toNat) = some n) :
    rNumber st e least = if n < least then (0, none) else (n, some ((st.getD []).drop (i.toNat + 1))) := by
  rw [rNumber_eq, hi, if_neg (by omega), hn]
theorem isSome_of_index {st : St} {i : Int} {e : UInt8} (hi : indexByte ((st.getD []).take 21) e = i) (h : 0 ≤ i) : st.isNone = false := by
  cases st with
  | none => simp [indexByte] at hi; omega
  | some r => rfl
theorem numOf_none {l : List UInt8} (h : ∀ m, atoiAll l ≠ .ok m) : numOf l = none := by
  unfold numOf
  split
  · rename_i v hv; exact absurd hv (h v)
  · rfl
theorem numOf_ne {l : List UInt8} {n : Int} (h : atoiAll l = .ok n) (hn : itoa n ≠ l) : numOf l = none := by
  unfold numOf; rw [h]; exact if_neg hn
theorem numOf_eq {l : List UInt8} {n : Int} (h : atoiAll l = .ok n) (hn : itoa n = l) : numOf l = some n := by
  unfold numOf; rw [h]; exact if_pos hn
theorem numOf_i64 {l : List UInt8} {n : Int} (h : numOf l = some n) : -9223372036854775808 ≤ n ∧ n ≤ 9223372036854775807 := by
  unfold numOf at h
  split at h
  · rename_i v hv
    split at h
    · injection h with h
      subst h
      unfold atoiAll at hv
      split at hv
      · cases hv
      · dsimp only at hv
        split at hv
        · cases hv
        · cases hv
        · split at hv
          · cases hv
          · split at hv
            · cases hv
            · injection hv with hv
              split at hv <;> omega
    · cases h
  · cases h
theorem rNumber_least (st : St) (e : UInt8) (least : Int) (h0 : least ≤ 0) : least ≤ (rNumber st e least).1 := by
  unfold rNumber
  split
  · exact h0
  · split
    · exact h0
    · split
      · split
        · exact h0
        · dsimp only; omega
      · exact h0
/-- A number that was read has left less than there was. -/
theorem rNumber_len {r r' : List UInt8} {e : UInt8} {least n : Int} (h : rNumber (some r) e least = (n, some r')) : r'.length < r.length := by
  unfold rNumber at h
  dsimp only at h
  have hl := indexByte_lt (r.take 21) e
  split at h
  · simp at h
  · split at h
    · split at h
      · simp at h
      · simp only [Prod.mk.injEq, Option.some.injEq] at h
        rw [← h.2]
        simp only [List.length_drop, List.length_take] at hl ⊢
        omega
    · simp at h
theorem rClose_no {st : St} {c : UInt8} (h : hasPrefix (st.getD []) [c] = false) : rClose st c = none := by
  match st with
  | none => rfl
  | some [] => rfl
  | some (d :: r) =>
    simp only [hasPrefix, Option.getD_some, List.isPrefixOf, Bool.and_true] at h
    simp only [rClose]
    rw [if_neg]
    rintro rfl
    simp at h
theorem rClose_yes {st : St} {c : UInt8} (h : hasPrefix (st.getD []) [c] = true) : st.isNone = false ∧ rClose st c = some (trimPrefix (st.getD []) [c]) := by
  match st with
  | none => simp [hasPrefix, List.isPrefixOf] at h
  | some [] => simp [hasPrefix, List.isPrefixOf] at h
  | some (d :: r) =>
    refine ⟨rfl, ?_⟩
    have h' := h
    simp only [hasPrefix, Option.getD_some, List.isPrefixOf, Bool.and_true, beq_iff_eq] at h'
    simp only [trimPrefix, h, if_true, rClose]
    rw [if_pos h'.symm]
    rfl
theorem trimPrefix_no {s p : List UInt8} (h : hasPrefix s p = false) : trimPrefix s p = s := by simp [trimPrefix, h]
theorem rNumber_zero {st : St} {e : UInt8} {least n : Int} (h : rNumber st e least = (n, none)) : n = 0 := by
  unfold rNumber at h
  split at h
  · simp at h; exact h.symm
  · split at h
    · simp at h; exact h.symm
    · split at h
      · split at h
        · simp at h; exact h.symm
        · simp at h
      · simp at h; exact h.symm
theorem rText_none {st : St} {n : Int} (h : rNumber st 58 0 = (n, none)) : rText st = ([], none) := by simp [rText, h]
theorem rText_far {st : St} {n : Int} {r : List UInt8} (h : rNumber st 58 0 = (n, some r)) (hn : (r.length : Int) < n) : rText st = ([], none) := by
  simp only [rText, h]; rw [if_pos (by omega)]
theorem rText_open {st : St} {n : Int} {r : List UInt8} (h : rNumber st 58 0 = (n, some r)) (hn : n ≤ r.length) (hc : rClose (some (r.drop n.toNat)) 44 = none) : rText st = ([], none) := by
  simp only [rText, h]; rw [if_neg (by omega), hc]
theorem rText_ok {st : St} {n : Int} {r r' : List UInt8} (h : rNumber st 58 0 = (n, some r)) (hn : n ≤ r.length) (hc : rClose (some (r.drop n.toNat)) 44 = some r') : rText st = (r.take n.toNat, some r') := by
  simp only [rText, h]; rw [if_neg (by omega), hc]
/-- A call leaves no more than there was. -/
theorem rNumber_le (st : St) (e : UInt8) (least : Int) : ((rNumber st e least).2.getD []).length ≤ (st.getD []).length := by
  cases st with
  | none => exact Nat.le_refl _
  | some r =>
    cases h : rNumber (some r) e least with
    | mk n s =>
      cases s with
      | none => exact Nat.zero_le _
      | some r' => have := rNumber_len h; simp only [Option.getD_some]; omega
theorem rClose_le (st : St) (e : UInt8) : ((rClose st e).getD []).length ≤ (st.getD []).length := by
  match st with
  | none => exact Nat.le_refl _
  | some [] => exact Nat.le_refl _
  | some (c :: r) => simp only [rClose]; split <;> simp
theorem rText_le (st : St) : ((rText st).2.getD []).length ≤ (st.getD []).length := by
  have h1 := rNumber_le st 58 0
  cases h : rNumber st 58 0 with
  | mk n s =>
    rw [h] at h1
    cases s with
    | none => rw [rText_none h]; exact Nat.zero_le _
    | some r =>
      by_cases hn : n ≤ r.length
      · have h2 := rClose_le (some (r.drop n.toNat)) 44
        cases hc : rClose (some (r.drop n.toNat)) 44 with
        | none => rw [rText_open h hn hc]; exact Nat.zero_le _
        | some r' => rw [rText_ok h hn hc]; rw [hc] at h2; simp at h1 h2 ⊢; omega
      · rw [rText_far h (by omega)]; exact Nat.zero_le _
end Go.Proofs.YtagmlemlagbfkaaGreatDoor.Wire
namespace Go.Proofs.YtagmlemlagbfkaaGreatDoor.Wire
open Go.Lib Go.RowKit
set_option linter.unusedVariables false
set_option linter.unusedSimpArgs false

theorem parse_append : ∀ (l r : List UInt8) (a b : Nat), parseUint10 a l = .ok b → parseUint10 a (l ++ r) = parseUint10 b r
  | [], r, a, b, h => by simp only [parseUint10] at h; injection h with h; rw [h]; rfl
  | c :: l, r, a, b, h => by
    simp only [List.cons_append, parseUint10] at h ⊢
    split at h
    · rename_i h1
      rw [if_pos h1]
      split at h
      · cases h
      · rename_i h2
        rw [if_neg h2]
        split at h
        · cases h
        · rename_i h3
          rw [if_neg h3]
          exact parse_append l r _ b h
    · cases h
theorem digit_toNat {d : Nat} (h : d < 10) : (UInt8.ofNat (48 + d)).toNat = 48 + d := by
  simp; omega
theorem decDigits_step' {u : Nat} (h : ¬ u < 10) : decDigits u = decDigits (u / 10) ++ [UInt8.ofNat (48 + u % 10)] := by
  conv => lhs; rw [decDigits, dif_neg h]
theorem parse_decDigits (k : Nat) : ∀ u, u < k → u ≤ 9223372036854775808 → parseUint10 0 (decDigits u) = .ok u := by
  induction k with
  | zero => intro u h; omega
  | succ k ih =>
    intro u h hb
    by_cases h10 : u < 10
    · rw [decDigits_one h10]
      simp only [parseUint10, digit_toNat h10]
      rw [if_pos (by omega), if_neg (by omega), if_neg (by omega)]
      congr 1; omega
    · rw [decDigits_step' h10, parse_append _ _ _ _ (ih (u / 10) (by omega) (by omega))]
      have hd : u % 10 < 10 := by omega
      simp only [parseUint10, digit_toNat hd]
      rw [if_pos (by omega), if_neg (by omega), if_neg (by omega)]
      congr 1; omega
theorem decDigits_digits (k : Nat) : ∀ u, u < k → ∀ c ∈ decDigits u, 48 ≤ c.toNat ∧ c.toNat ≤ 57 := by
  induction k with
  | zero => intro u h; omega
  | succ k ih =>
    intro u h c hc
    by_cases h10 : u < 10
    · rw [decDigits_one h10, List.mem_singleton] at hc
      rw [hc, digit_toNat h10]; omega
    · rw [decDigits_step' h10, List.mem_append] at hc
      rcases hc with hc | hc
      · exact ih (u / 10) (by omega) c hc
      · rw [List.mem_singleton] at hc
        rw [hc, digit_toNat (by omega)]; omega
theorem decDigits_ne (u : Nat) : decDigits u ≠ [] := by
  rw [decDigits]; split <;> simp
theorem atoiAll_neg {r : List UInt8} {u : Nat} (h : parseMag r = .ok u) (hu : u ≤ 9223372036854775808) : atoiAll (45 :: r) = .ok (-(u : Int)) := by
  have e : (if (45 : UInt8).toNat = 43 ∨ (45 : UInt8).toNat = 45 then r else 45 :: r) = r := if_pos (by decide)
  unfold atoiAll
  simp only [e, h]
  rw [if_neg (by simp), if_neg (by omega), if_pos (by decide)]
theorem atoiAll_pos {c : UInt8} {r : List UInt8} {u : Nat} (hc : 48 ≤ c.toNat) (h : parseMag (c :: r) = .ok u) (hu : u < 9223372036854775808) : atoiAll (c :: r) = .ok (u : Int) := by
  have e : (if c.toNat = 43 ∨ c.toNat = 45 then r else c :: r) = c :: r := if_neg (by omega)
  unfold atoiAll
  simp only [e, h]
  rw [if_neg (by omega), if_neg (by omega), if_neg (by omega)]
theorem atoi_itoa {v : Int} (h0 : -9223372036854775808 ≤ v) (h1 : v ≤ 9223372036854775807) : atoiAll (itoa v) = .ok v := by
  by_cases hn : v < 0
  · have hp := parse_decDigits (v.natAbs + 1) v.natAbs (by omega) (by omega)
    have hm : parseMag (decDigits v.natAbs) = .ok v.natAbs := by unfold parseMag; rw [if_neg (decDigits_ne _), hp]
    rw [show itoa v = 45 :: decDigits v.natAbs by simp [itoa, hn], atoiAll_neg hm (by omega)]
    congr 1; omega
  · have hp := parse_decDigits (v.toNat + 1) v.toNat (by omega) (by omega)
    have hm : parseMag (decDigits v.toNat) = .ok v.toNat := by unfold parseMag; rw [if_neg (decDigits_ne _), hp]
    have hd := decDigits_digits (v.toNat + 1) v.toNat (by omega)
    rw [show itoa v = decDigits v.toNat by simp [itoa, hn]]
    cases hl : decDigits v.toNat with
    | nil => exact absurd hl (decDigits_ne _)
    | cons c r =>
      rw [hl] at hm hd
      rw [atoiAll_pos (hd c (by simp)).1 hm (by omega)]
      congr 1; omega
theorem numOf_itoa {v : Int} (h0 : -9223372036854775808 ≤ v) (h1 : v ≤ 9223372036854775807) : numOf (itoa v) = some v := numOf_eq (atoi_itoa h0 h1) rfl
theorem numOf_some {l : List UInt8} {v : Int} (h : numOf l = some v) : itoa v = l ∧ -9223372036854775808 ≤ v ∧ v ≤ 9223372036854775807 := by
  refine ⟨?_, numOf_i64 h⟩
  unfold numOf at h
  split at h
  · split at h
    · injection h with h; subst h; assumption
    · cases h
  · cases h

/-! ### The reference's way -/
/-! ### Where a byte stands -/
theorem indexByte_at : ∀ (l : List UInt8) (c : UInt8) (k : Nat), (∀ x ∈ l.take k, x ≠ c) → l[k]? = some c → indexByte l c = k
  | [], c, k, _, h => by simp at h
  | b :: l, c, 0, _, h => by
    simp at h; subst h; simp [indexByte]
  | b :: l, c, k + 1, h0, h => by
    have hb : b ≠ c := h0 b (by simp)
    have ih := indexByte_at l c k (fun x hx => h0 x (by simp [hx])) (by simpa using h)
    simp only [indexByte]
    rw [if_neg (by simpa using hb), ih, if_neg (by simp)]
    omega
theorem nDigits_le : ∀ (k u : Nat), u < 10 ^ (k + 1) → nDigits u ≤ k + 1
  | 0, u, h => by rw [nDigits_small (by simpa using h)]; exact Nat.le_refl _
  | k + 1, u, h => by
    by_cases h10 : u < 10
    · rw [nDigits_small h10]; omega
    · rw [nDigits_big h10]
      have := nDigits_le k (u / 10) (by rw [Nat.pow_succ] at h; omega)
      omega
theorem itoa_le20 {v : Int} (h0 : -9223372036854775808 ≤ v) (h1 : v ≤ 9223372036854775807) : (itoa v).length ≤ 20 := by
  unfold itoa
  split
  · have := nDigits_le 18 v.natAbs (by omega)
    simp only [List.length_cons, decDigits_length]; omega
  · have := nDigits_le 18 v.toNat (by omega)
    simp only [decDigits_length]; omega
end Go.Proofs.YtagmlemlagbfkaaGreatDoor.Wire
namespace Go.Proofs.YtagmlemlagbfkaaGreatDoor.Wire
open Go.Lib Go.RowKit
set_option linter.unusedVariables false
set_option linter.unusedSimpArgs false
end Go.Proofs.YtagmlemlagbfkaaGreatDoor.Wire
namespace Go.Proofs.YtagmlemlagbfkaaGreatDoor.Wire
open Go.Lib Go.RowKit
set_option linter.unusedVariables false
set_option linter.unusedSimpArgs false

/-! ### What was read is the encoding -/
theorem indexByte_get : ∀ (l : List UInt8) (c : UInt8), 0 ≤ indexByte l c → l[(indexByte l c).toNat]? = some c
  | [], c, h => by simp [indexByte] at h
  | b :: l, c, h => by
    simp only [indexByte] at h ⊢
    split
    · rename_i hb
      have : b = c := by simpa using hb
      simp [this]
    · rename_i hb
      rw [if_neg hb] at h
      split at h
      · omega
      · rename_i h1
        have h1' : indexByte l c ≠ -1 := by simpa using h1
        rw [if_neg h1]
        have ih := indexByte_get l c (by have := indexByte_ge l c; omega)
        have e : (indexByte l c + 1).toNat = (indexByte l c).toNat + 1 := by have := indexByte_ge l c; omega
        rw [e, List.getElem?_cons_succ]
        exact ih
theorem rNumber_inv {r r' : List UInt8} {e : UInt8} {least n : Int} (h : rNumber (some r) e least = (n, some r')) :
    r = itoa n ++ e :: r' ∧ least ≤ n ∧ -9223372036854775808 ≤ n ∧ n ≤ 9223372036854775807 := by
  unfold rNumber at h
  dsimp only at h
  split at h
  · simp at h
  · rename_i hi
    split at h
    · rename_i m hm
      split at h
      · simp at h
      · rename_i hl
        simp only [Prod.mk.injEq, Option.some.injEq] at h
        obtain ⟨rfl, rfl⟩ := h
        obtain ⟨e1, h0, h1⟩ := numOf_some hm
        refine ⟨?_, by omega, h0, h1⟩
        have hlt := indexByte_lt (r.take 21) e
        have hg := indexByte_get (r.take 21) e (by omega)
        generalize (indexByte (r.take 21) e).toNat = i at *
        rw [List.getElem?_take] at hg
        split at hg
        · have hil : i < r.length := by
            rcases Nat.lt_or_ge i r.length with h' | h'
            · exact h'
            · rw [List.getElem?_eq_none h'] at hg; cases hg
          rw [e1, ← List.take_append_drop i r]
          congr 1
          · simp
          · rw [List.take_append_drop, List.drop_eq_getElem_cons hil]
            rw [List.getElem?_eq_getElem hil] at hg
            injection hg with hg
            rw [hg]
        · cases hg
    · simp at h
theorem rClose_inv {r r' : List UInt8} {c : UInt8} (h : rClose (some r) c = some r') : r = c :: r' := by
  cases r with
  | nil => simp [rClose] at h
  | cons d r =>
    simp only [rClose] at h
    split at h
    · rename_i hd; injection h with h; rw [hd, h]
    · cases h
theorem rNum_inv {r r' : List UInt8} {n : Int} (h : rNum (some r) = (n, some r')) : r = numE n ++ r' := by
  obtain ⟨e, h0, _⟩ := rNumber_inv h
  rw [e, numE, if_neg (by omega), intE]; simp
theorem rText_inv {r r' t : List UInt8} (h : rText (some r) = (t, some r')) : r = textE t ++ r' := by
  cases hq : rNumber (some r) 58 0 with
  | mk n s =>
    cases s with
    | none => rw [rText_none hq] at h; simp at h
    | some r1 =>
      obtain ⟨e, h0, _⟩ := rNumber_inv hq
      by_cases hn : n ≤ r1.length
      · cases hc : rClose (some (r1.drop n.toNat)) 44 with
        | none => rw [rText_open hq hn hc] at h; simp at h
        | some r2 =>
          rw [rText_ok hq hn hc] at h
          simp only [Prod.mk.injEq, Option.some.injEq] at h
          obtain ⟨rfl, rfl⟩ := h
          have hd := rClose_inv hc
          have hlen : (r1.take n.toNat).length = n.toNat := by rw [List.length_take]; omega
          rw [e, textE, hlen, show ((n.toNat : Nat) : Int) = n by omega]
          conv => lhs; rw [← List.take_append_drop n.toNat r1, hd]
          simp
      · rw [rText_far hq (by omega)] at h; simp at h
theorem rText_fail {st : St} (h : (rText st).2 = none) : (rText st).1 = [] := by
  cases hq : rNumber st 58 0 with
  | mk n s =>
    cases s with
    | none => rw [rText_none hq]
    | some r =>
      by_cases hn : n ≤ r.length
      · cases hc : rClose (some (r.drop n.toNat)) 44 with
        | none => rw [rText_open hq hn hc]
        | some r' => rw [rText_ok hq hn hc] at h; simp at h
      · rw [rText_far hq (by omega)]
end Go.Proofs.YtagmlemlagbfkaaGreatDoor.Wire
namespace Go.Proofs.YtagmlemlagbfkaaGreatDoor.Wire
open Go.Lib Go.RowKit
set_option linter.unusedVariables false
set_option linter.unusedSimpArgs false

def Int64 (n : Int) : Prop := -9223372036854775808 ≤ n ∧ n ≤ 9223372036854775807
theorem itoa_chars {n : Int} {c : UInt8} (h : c ∈ itoa n) : c.toNat = 45 ∨ (48 ≤ c.toNat ∧ c.toNat ≤ 57) := by
  unfold itoa at h
  split at h
  · rcases List.mem_cons.1 h with rfl | h
    · exact Or.inl rfl
    · exact Or.inr (decDigits_digits _ _ (Nat.lt_succ_self _) c h)
  · exact Or.inr (decDigits_digits _ _ (Nat.lt_succ_self _) c h)
theorem rNumber_back {n least : Int} {e : UInt8} {r : List UInt8} (h : Int64 n) (hl : least ≤ n) (he : 58 ≤ e.toNat) : rNumber (some (itoa n ++ e :: r)) e least = (n, some r) := by
  have h20 := itoa_le20 h.1 h.2
  have hne : ∀ x ∈ itoa n, x ≠ e := fun x hx heq => by
    have := itoa_chars hx
    rw [heq] at this; omega
  have hi : indexByte ((itoa n ++ e :: r).take 21) e = (itoa n).length := by
    refine indexByte_at _ _ _ ?_ ?_
    · intro x hx
      rw [List.take_take, Nat.min_eq_left (by omega), List.take_left'] at hx
      · exact hne x hx
      · rfl
    · rw [List.getElem?_take, if_pos (by omega), List.getElem?_append_right (Nat.le_refl _)]; simp
  simp only [rNumber, hi]
  rw [if_neg (by omega)]
  have ht : (itoa n ++ e :: r).take (((itoa n).length : Int)).toNat = itoa n := by simp
  rw [ht, numOf_itoa h.1 h.2]
  simp only []
  rw [if_neg (by omega)]
  simp
theorem rNum_back {n : Int} {r : List UInt8} (h : Int64 n) (h0 : 0 ≤ n) : rNum (some (numE n ++ r)) = (n, some r) := by
  have e : numE n ++ r = itoa n ++ 59 :: r := by rw [numE, if_neg (by omega), intE]; simp
  rw [e]; exact rNumber_back h h0 (by decide)
theorem rText_back {s r : List UInt8} (h : s.length ≤ 9223372036854775807) : rText (some (textE s ++ r)) = (s, some r) := by
  have e : textE s ++ r = itoa (s.length : Int) ++ 58 :: (s ++ 44 :: r) := by rw [textE]; simp
  have hq := rNumber_back (n := s.length) (least := 0) (e := 58) (r := s ++ 44 :: r) ⟨by omega, by omega⟩ (by omega) (by decide)
  rw [e, rText_ok (r' := r) hq (by simp; omega) (by simp [rClose])]
  simp
end Go.Proofs.YtagmlemlagbfkaaGreatDoor.Wire
namespace Go.Proofs.YtagmlemlagbfkaaGreatDoor.Dk
set_option linter.unusedVariables false
set_option linter.unusedSimpArgs false

/-- A file and its durable part. -/
structure Fil where
  now : List UInt8
  last : List UInt8
structure Disk where
  fs : Int → Fil
  q : List (Int × Int)
  lost : Int
  down : Bool
  armed : Int
  keep : List Int
def noFil : Fil := ⟨[], []⟩
def new : Disk := ⟨fun _ => noFil, [], 0, false, 0, []⟩
def setF (fs : Int → Fil) (f : Int) (x : Fil) : Int → Fil := fun g => if g = f then x else fs g
theorem setF_self (fs : Int → Fil) (f : Int) (x : Fil) : setF fs f x f = x := by simp [setF]
theorem setF_ne (fs : Int → Fil) {f g : Int} (x : Fil) (h : g ≠ f) : setF fs f x g = fs g := by simp [setF, h]
/-- To put bytes into a string at an offset. -/
def put (s : List UInt8) (i : Nat) (t : List UInt8) : List UInt8 :=
  if t = [] then s else s.take i ++ List.replicate (i - s.length) 0 ++ t ++ s.drop (i + t.length)
def may (D : Disk) (f : Int) : Int := if D.down = true then 8 else if f < 0 ∨ 16 ≤ f then 1 else 0
/-- The sectors of bytes, in ascending order. -/
def secs (i n : Nat) : List Int := (List.range ((i + n - 1) / 64 + 1 - i / 64)).map fun k => ((i / 64 + k : Nat) : Int)
def addS (q : List (Int × Int)) (p : Int × Int) : List (Int × Int) := if p ∈ q then q else q ++ [p]
def addQ (q : List (Int × Int)) (f : Int) (ns : List Int) : List (Int × Int) := ns.foldl (fun q n => addS q (f, n)) q
/-- A write that is possible. -/
def add (D : Disk) (f : Int) (i : Nat) (s : List UInt8) : Disk :=
  if s = [] then D else { D with fs := setF D.fs f ⟨put (D.fs f).now i s, (D.fs f).last⟩, q := addQ D.q f (secs i s.length) }
/-- What a write returns, if the file can be written. -/
def wErr (i : Int) (n : Nat) : Int := if i < 0 then 1 else if 16777216 < i ∨ 16777216 - i < n then 6 else 0
def write0 (D : Disk) (f i : Int) (s : List UInt8) : Disk × Int :=
  if may D f ≠ 0 then (D, may D f) else if wErr i s.length ≠ 0 then (D, wErr i s.length) else (add D f i.toNat s, 0)
def odd (keep : List Int) (i : Nat) : Bool := decide (keep ≠ []) && decide (keep.getD (i % keep.length) 0 % 2 = 1)
/-- What survives of the sector p, which is pending as number i. -/
def survive (keep : List Int) (fs : Int → Fil) (p : Int × Int) (i : Nat) : Int → Fil :=
  if odd keep i = true ∧ 64 * p.2.toNat < (fs p.1).now.length then setF fs p.1 ⟨(fs p.1).now, put (fs p.1).last (64 * p.2.toNat) (((fs p.1).now.drop (64 * p.2.toNat)).take 64)⟩ else fs
def survives (keep : List Int) : List (Int × Int) → Nat → (Int → Fil) → Int → Fil
  | [], _, fs => fs
  | p :: q, i, fs => survives keep q (i + 1) (survive keep fs p i)
def crash (D : Disk) (keep : List Int) : Disk :=
  if D.down = true then D else { D with fs := fun f => ⟨(survives keep D.q 0 D.fs f).last, (survives keep D.q 0 D.fs f).last⟩, q := [], down := true, armed := 0 }
/-- A call is counted: does the scheduled crash happen in it? -/
def ends (D : Disk) : Bool := !D.down && decide (D.armed = 1)
def counted (D : Disk) : Disk := if D.down = true ∨ D.armed = 0 then D else { D with armed := D.armed - 1 }
def write (D : Disk) (f i : Int) (s : List UInt8) : Disk × Int :=
  if ends D = true then (crash (write0 (counted D) f i s).1 (counted D).keep, 8) else write0 (counted D) f i s
def come (D : Disk) : Disk := if ends D = true then crash (counted D) D.keep else counted D
def settle (D : Disk) (f : Int) (s : List UInt8) : Disk := { D with fs := setF D.fs f ⟨s, s⟩, q := D.q.filter fun p => !decide (p.1 = f) }
def sync (D : Disk) (f : Int) : Disk × Int :=
  if may (come D) f ≠ 0 then (come D, may (come D) f)
  else if 0 < (come D).lost then ({ come D with lost := (come D).lost - 1 }, 9) else (settle (come D) f ((come D).fs f).now, 0)
def truncate (D : Disk) (f n : Int) : Disk × Int :=
  if may (come D) f ≠ 0 then (come D, may (come D) f)
  else if n < 0 ∨ ((((come D).fs f).now.length : Nat) : Int) < n then (come D, 1) else (settle (come D) f (((come D).fs f).now.take n.toNat), 0)
def read (D : Disk) (f i n : Int) : List UInt8 × Int :=
  if may D f ≠ 0 then ([], may D f) else if i < 0 ∨ n < 0 then ([], 1) else (((D.fs f).now.drop i.toNat).take n.toNat, 0)
def size (D : Disk) (f : Int) : Int := (D.fs f).now.length
def arm (D : Disk) (n : Int) (keep : List Int) : Disk := { D with armed := max n 0, keep := keep }
def start (D : Disk) : Disk := { D with down := false }

/-! ### What is true of every disk -/
/-- Files, durable parts and the list of pending sectors are bounded. -/
structure Ok (D : Disk) : Prop where
  now : ∀ f, (D.fs f).now.length ≤ 16777216
  last : ∀ f, (D.fs f).last.length ≤ 16777216
  q : ∀ p ∈ D.q, 0 ≤ p.1 ∧ p.1 < 16 ∧ 0 ≤ p.2 ∧ p.2 < 262144
  nd : D.q.Nodup
  lost : 0 ≤ D.lost ∧ D.lost ≤ 9223372036854775807
  armed : 0 ≤ D.armed ∧ D.armed ≤ 9223372036854775807
theorem new_ok : Ok new := by
  refine ⟨fun f => ?_, fun f => ?_, fun p hp => ?_, List.nodup_nil, ⟨by decide, by decide⟩, ⟨by decide, by decide⟩⟩
  · simp [new, noFil]
  · simp [new, noFil]
  · simp [new] at hp
theorem put_len (s : List UInt8) (i : Nat) (t : List UInt8) (h : t ≠ []) : (put s i t).length = max s.length (i + t.length) := by
  unfold put
  rw [if_neg h]
  simp only [List.length_append, List.length_take, List.length_replicate, List.length_drop]
  omega
theorem put_le {s : List UInt8} {i : Nat} {t : List UInt8} {n : Nat} (hs : s.length ≤ n) (ht : i + t.length ≤ n) : (put s i t).length ≤ n := by
  by_cases h : t = []
  · unfold put; rw [if_pos h]; exact hs
  · rw [put_len s i t h]; omega
/-- Each byte of a string into which bytes are put. -/
theorem put_get (s : List UInt8) (i : Nat) (t : List UInt8) (ht : t ≠ []) (k : Nat) :
    (put s i t)[k]? = if k < i then (if k < s.length then s[k]? else some 0) else if k < i + t.length then t[k - i]? else s[k]? := by
  unfold put
  rw [if_neg ht]
  by_cases h1 : k < i
  · rw [if_pos h1, List.append_assoc, List.append_assoc]
    by_cases h2 : k < s.length
    · rw [if_pos h2, List.getElem?_append_left (by rw [List.length_take]; omega), List.getElem?_take, if_pos h1]
    · rw [if_neg h2, List.getElem?_append_right (by rw [List.length_take]; omega), List.length_take, List.getElem?_append_left (by rw [List.length_replicate]; omega), List.getElem?_replicate, if_pos (by omega)]
  · rw [if_neg h1]
    have hl : (s.take i ++ List.replicate (i - s.length) (0 : UInt8)).length = i := by rw [List.length_append, List.length_take, List.length_replicate]; omega
    by_cases h2 : k < i + t.length
    · rw [if_pos h2, List.append_assoc, List.getElem?_append_right (by omega), hl, List.getElem?_append_left (by omega)]
    · rw [if_neg h2, List.getElem?_append_right (by rw [List.length_append, hl]; omega), List.length_append, hl, List.getElem?_drop]
      congr 1
      omega
/-- As many different pairs as there are places at most. -/
theorem nodup_le : ∀ (n : Nat) (l : List Nat), l.Nodup → (∀ x ∈ l, x < n) → l.length ≤ n := by
  intro n
  induction n with
  | zero =>
    intro l _ h
    cases l with
    | nil => simp
    | cons x l => exact absurd (h x (List.mem_cons_self ..)) (Nat.not_lt_zero _)
  | succ n ih =>
    intro l hd h
    have h1 := ih (l.erase n) (hd.erase n) (fun x hx => by
      have hne : x ≠ n := (hd.mem_erase_iff.1 hx).1
      have := h x (List.mem_of_mem_erase hx)
      omega)
    by_cases hm : n ∈ l
    · rw [List.length_erase_of_mem hm] at h1; omega
    · rw [List.erase_of_not_mem hm] at h1; omega
theorem Ok.q_len {D : Disk} (h : Ok D) : D.q.length ≤ 4194304 := by
  have := nodup_le 4194304 (D.q.map fun p => p.1.toNat * 262144 + p.2.toNat) (by
    refine List.pairwise_map.2 (List.Pairwise.imp_of_mem (fun {a b} ha hb hne => ?_) h.nd)
    intro e
    have h1 := h.q a ha
    have h2 := h.q b hb
    apply hne
    have e1 : a.1 = b.1 := by omega
    have e2 : a.2 = b.2 := by omega
    exact Prod.ext e1 e2) (fun x hx => by
    obtain ⟨p, hp, rfl⟩ := List.mem_map.1 hx
    have := h.q p hp
    omega)
  simpa using this
theorem mem_addS {q : List (Int × Int)} {p x : Int × Int} : x ∈ addS q p ↔ x ∈ q ∨ x = p := by
  unfold addS
  split
  · rename_i h
    constructor
    · exact Or.inl
    · rintro (h1 | rfl)
      · exact h1
      · exact h
  · simp
theorem addS_nodup {q : List (Int × Int)} {p : Int × Int} (h : q.Nodup) : (addS q p).Nodup := by
  unfold addS
  split
  · exact h
  · rename_i hn
    rw [List.nodup_append]
    exact ⟨h, by simp, fun a ha b hb e => by rw [List.mem_singleton] at hb; subst hb; subst e; exact hn ha⟩
theorem addQ_cons (q : List (Int × Int)) (f n : Int) (ns : List Int) : addQ q f (n :: ns) = addQ (addS q (f, n)) f ns := rfl
theorem mem_addQ {f : Int} {x : Int × Int} : ∀ {ns : List Int} {q : List (Int × Int)}, x ∈ addQ q f ns ↔ x ∈ q ∨ (x.1 = f ∧ x.2 ∈ ns) := by
  intro ns
  induction ns with
  | nil => intro q; simp [addQ]
  | cons n ns ih =>
    intro q
    rw [addQ_cons, ih, mem_addS]
    constructor
    · rintro ((h | rfl) | h)
      · exact Or.inl h
      · exact Or.inr ⟨rfl, List.mem_cons_self ..⟩
      · exact Or.inr ⟨h.1, List.mem_cons_of_mem _ h.2⟩
    · rintro (h | ⟨h1, h2⟩)
      · exact Or.inl (Or.inl h)
      · rcases List.mem_cons.1 h2 with h3 | h3
        · exact Or.inl (Or.inr (Prod.ext h1 h3))
        · exact Or.inr ⟨h1, h3⟩
theorem addQ_nodup {f : Int} : ∀ {ns : List Int} {q : List (Int × Int)}, q.Nodup → (addQ q f ns).Nodup := by
  intro ns
  induction ns with
  | nil => intro q h; exact h
  | cons n ns ih => intro q h; rw [addQ_cons]; exact ih (addS_nodup h)
theorem addQ_snoc (q : List (Int × Int)) (f : Int) (ns : List Int) (n : Int) : addQ q f (ns ++ [n]) = addS (addQ q f ns) (f, n) := by
  unfold addQ; rw [List.foldl_append]; rfl
theorem mem_secs {i n : Nat} {x : Int} : x ∈ secs i n ↔ ∃ k : Nat, x = k ∧ i / 64 ≤ k ∧ k ≤ (i + n - 1) / 64 := by
  unfold secs
  rw [List.mem_map]
  constructor
  · rintro ⟨k, hk, rfl⟩
    rw [List.mem_range] at hk
    exact ⟨_, rfl, by omega, by omega⟩
  · rintro ⟨k, rfl, h1, h2⟩
    exact ⟨k - i / 64, List.mem_range.2 (by omega), by omega⟩
theorem may_file {D : Disk} {f : Int} (h : may D f = 0) : D.down = false ∧ 0 ≤ f ∧ f < 16 := by
  unfold may at h
  split at h
  · cases h
  · rename_i hd
    split at h
    · cases h
    · exact ⟨by simpa using hd, by omega, by omega⟩
theorem wErr_ok {i : Int} {n : Nat} (h : wErr i n = 0) : 0 ≤ i ∧ i.toNat + n ≤ 16777216 := by
  unfold wErr at h
  split at h
  · cases h
  · split at h
    · cases h
    · exact ⟨by omega, by omega⟩
theorem add_ok {D : Disk} (h : Ok D) {f : Int} {i : Nat} {s : List UInt8} (hf : 0 ≤ f ∧ f < 16) (hi : i + s.length ≤ 16777216) : Ok (add D f i s) := by
  unfold add
  split
  · exact h
  · rename_i hs
    have hl : 0 < s.length := List.length_pos_iff.2 hs
    refine ⟨fun g => ?_, fun g => ?_, fun p hp => ?_, addQ_nodup h.nd, h.lost, h.armed⟩
    · dsimp only [setF]
      split
      · exact put_le (h.now f) hi
      · exact h.now g
    · dsimp only [setF]
      split
      · exact h.last f
      · exact h.last g
    · rcases mem_addQ.1 hp with hp | ⟨h1, h2⟩
      · exact h.q p hp
      · obtain ⟨k, e, h3, h4⟩ := mem_secs.1 h2
        rw [h1, e]
        exact ⟨hf.1, hf.2, by omega, by omega⟩
theorem write0_ok {D : Disk} (h : Ok D) (f i : Int) (s : List UInt8) : Ok (write0 D f i s).1 := by
  unfold write0
  split
  · exact h
  · rename_i h1
    split
    · exact h
    · rename_i h2
      have a := may_file (Decidable.not_not.1 h1)
      have b := wErr_ok (Decidable.not_not.1 h2)
      exact add_ok h a.2 b.2
theorem survive_now (keep : List Int) (fs : Int → Fil) (p : Int × Int) (i : Nat) (f : Int) : (survive keep fs p i f).now = (fs f).now := by
  unfold survive
  split
  · unfold setF
    split
    · rename_i e; subst e; rfl
    · rfl
  · rfl
theorem survives_now (keep : List Int) : ∀ (q : List (Int × Int)) (i : Nat) (fs : Int → Fil) (f : Int), (survives keep q i fs f).now = (fs f).now := by
  intro q
  induction q with
  | nil => intro i fs f; rfl
  | cons p q ih => intro i fs f; rw [survives, ih, survive_now]
theorem survive_last {keep : List Int} {fs : Int → Fil} {p : Int × Int} {i : Nat} {n : Nat} (h1 : ∀ f, (fs f).now.length ≤ n) (h2 : ∀ f, (fs f).last.length ≤ n) (f : Int) : (survive keep fs p i f).last.length ≤ n := by
  unfold survive
  split
  · rename_i hc
    unfold setF
    split
    · have := h1 p.1
      refine put_le (h2 p.1) ?_
      rw [List.length_take, List.length_drop]
      omega
    · exact h2 f
  · exact h2 f
theorem survives_last {keep : List Int} {n : Nat} : ∀ (q : List (Int × Int)) (i : Nat) (fs : Int → Fil), (∀ f, (fs f).now.length ≤ n) → (∀ f, (fs f).last.length ≤ n) → ∀ f, (survives keep q i fs f).last.length ≤ n := by
  intro q
  induction q with
  | nil => intro i fs h1 h2 f; exact h2 f
  | cons p q ih =>
    intro i fs h1 h2 f
    exact ih (i + 1) _ (fun g => by rw [survive_now]; exact h1 g) (fun g => survive_last h1 h2 g) f
theorem crash_ok {D : Disk} (h : Ok D) (keep : List Int) : Ok (crash D keep) := by
  unfold crash
  split
  · exact h
  · have := survives_last D.q 0 D.fs h.now h.last (keep := keep)
    refine ⟨fun f => this f, fun f => this f, fun p hp => ?_, List.nodup_nil, h.lost, ⟨Int.le_refl 0, by dsimp only; omega⟩⟩
    cases hp
theorem counted_ok {D : Disk} (h : Ok D) : Ok (counted D) := by
  unfold counted
  split
  · exact h
  · rename_i hc
    have := h.armed
    refine ⟨h.now, h.last, h.q, h.nd, h.lost, ?_⟩
    dsimp only
    have : D.armed ≠ 0 := fun e => hc (Or.inr e)
    omega
theorem come_ok {D : Disk} (h : Ok D) : Ok (come D) := by
  unfold come
  split
  · exact crash_ok (counted_ok h) _
  · exact counted_ok h
theorem settle_ok {D : Disk} (h : Ok D) (f : Int) {s : List UInt8} (hs : s.length ≤ 16777216) : Ok (settle D f s) := by
  refine ⟨fun g => ?_, fun g => ?_, fun p hp => h.q p (List.mem_filter.1 hp).1, h.nd.filter _, h.lost, h.armed⟩
  · dsimp only [settle, setF]
    split
    · exact hs
    · exact h.now g
  · dsimp only [settle, setF]
    split
    · exact hs
    · exact h.last g
theorem sync_ok {D : Disk} (h : Ok D) (f : Int) : Ok (sync D f).1 := by
  have hc := come_ok h
  unfold sync
  split
  · exact hc
  · split
    · rename_i h0
      have := hc.lost
      exact ⟨hc.now, hc.last, hc.q, hc.nd, ⟨by dsimp only; omega, by dsimp only; omega⟩, hc.armed⟩
    · exact settle_ok hc f (hc.now f)
theorem truncate_ok {D : Disk} (h : Ok D) (f n : Int) : Ok (truncate D f n).1 := by
  have hc := come_ok h
  unfold truncate
  split
  · exact hc
  · split
    · exact hc
    · have := hc.now f
      exact settle_ok hc f (by rw [List.length_take]; omega)
theorem arm_ok {D : Disk} (h : Ok D) {n : Int} (hn : n ≤ 9223372036854775807) (keep : List Int) : Ok (arm D n keep) := ⟨h.now, h.last, h.q, h.nd, h.lost, ⟨by dsimp only [arm]; omega, by dsimp only [arm]; omega⟩⟩
theorem start_ok {D : Disk} (h : Ok D) : Ok (start D) := ⟨h.now, h.last, h.q, h.nd, h.lost, h.armed⟩
/-- A write that is possible, while its first k sectors have been noted. -/
def addK (D : Disk) (f : Int) (i : Nat) (s : List UInt8) (k : Nat) : Disk := { D with fs := setF D.fs f ⟨put (D.fs f).now i s, (D.fs f).last⟩, q := addQ D.q f ((secs i s.length).take k) }
theorem secs_len (i n : Nat) : (secs i n).length = (i + n - 1) / 64 + 1 - i / 64 := by simp [secs]
theorem secs_get {i n k : Nat} (h : k < (secs i n).length) : (secs i n)[k] = ((i / 64 + k : Nat) : Int) := by simp [secs]
theorem addK_all {D : Disk} {f : Int} {i : Nat} {s : List UInt8} (hs : s ≠ []) : addK D f i s (secs i s.length).length = add D f i s := by
  unfold addK add
  rw [if_neg hs, List.take_length]
theorem addK_succ {D : Disk} {f : Int} {i : Nat} {s : List UInt8} {k : Nat} (h : k < (secs i s.length).length) : addK D f i s (k + 1) = { addK D f i s k with q := addS (addK D f i s k).q (f, ((i / 64 + k : Nat) : Int)) } := by
  unfold addK
  dsimp only
  rw [List.take_succ_eq_append_getElem h, addQ_snoc, secs_get h]
theorem addK_ok {D : Disk} (h : Ok D) {f : Int} {i : Nat} {s : List UInt8} (hs : s ≠ []) (hf : 0 ≤ f ∧ f < 16) (hi : i + s.length ≤ 16777216) (k : Nat) : Ok (addK D f i s k) := by
  have ha := add_ok h hf hi
  unfold add at ha
  rw [if_neg hs] at ha
  refine ⟨ha.now, ha.last, fun p hp => ?_, addQ_nodup h.nd, h.lost, h.armed⟩
  rcases mem_addQ.1 hp with hp | ⟨h1, h2⟩
  · exact h.q p hp
  · exact ha.q p (mem_addQ.2 (Or.inr ⟨h1, List.mem_of_mem_take h2⟩))
theorem addS_in {q : List (Int × Int)} {p : Int × Int} (h : p ∈ q) : addS q p = q := if_pos h
theorem addS_out {q : List (Int × Int)} {p : Int × Int} (h : p ∉ q) : addS q p = q ++ [p] := if_neg h
theorem survives_append (keep : List Int) : ∀ (a b : List (Int × Int)) (i : Nat) (fs : Int → Fil), survives keep (a ++ b) i fs = survives keep b (i + a.length) (survives keep a i fs) := by
  intro a
  induction a with
  | nil => intro b i fs; rfl
  | cons p a ih =>
    intro b i fs
    rw [List.cons_append, survives, ih, survives, List.length_cons]
    congr 1
    omega
/-- A crash, while the first k pending sectors have been looked at. -/
def crashK (D : Disk) (keep : List Int) (k : Nat) : Disk := { D with fs := survives keep (D.q.take k) 0 D.fs, down := true, armed := 0 }
theorem crashK_ok {D : Disk} (h : Ok D) (keep : List Int) (k : Nat) : Ok (crashK D keep k) :=
  ⟨fun f => by unfold crashK; dsimp only; rw [survives_now]; exact h.now f, fun f => survives_last _ _ _ h.now h.last f, h.q, h.nd, h.lost, ⟨Int.le_refl 0, by show (0 : Int) ≤ _; omega⟩⟩
theorem crashK_succ {D : Disk} {keep : List Int} {k : Nat} (h : k < D.q.length) : (crashK D keep (k + 1)).fs = survive keep (crashK D keep k).fs D.q[k] k := by
  unfold crashK
  dsimp only
  rw [List.take_succ_eq_append_getElem h, survives_append]
  simp only [survives, Nat.zero_add, List.length_take]
  rw [Nat.min_eq_left (Nat.le_of_lt h)]
theorem crash_eq {D : Disk} (h : D.down = false) (keep : List Int) : crash D keep = { D with fs := fun f => ⟨((crashK D keep D.q.length).fs f).last, ((crashK D keep D.q.length).fs f).last⟩, q := [], down := true, armed := 0 } := by
  unfold crash crashK
  rw [h, if_neg (by decide), List.take_length]
theorem odd_not {keep : List Int} {i : Nat} {fs : Int → Fil} {p : Int × Int} (h : odd keep i = false) : survive keep fs p i = fs := by
  unfold survive; rw [if_neg (by rw [h]; simp)]
theorem far_not {keep : List Int} {i : Nat} {fs : Int → Fil} {p : Int × Int} (h : (fs p.1).now.length ≤ 64 * p.2.toNat) : survive keep fs p i = fs := by
  unfold survive; rw [if_neg (by omega)]
theorem survive_yes {keep : List Int} {i : Nat} {fs : Int → Fil} {p : Int × Int} (h : odd keep i = true) (hl : 64 * p.2.toNat < (fs p.1).now.length) :
    survive keep fs p i = setF fs p.1 ⟨(fs p.1).now, put (fs p.1).last (64 * p.2.toNat) (((fs p.1).now.drop (64 * p.2.toNat)).take 64)⟩ := by
  unfold survive; rw [if_pos ⟨h, hl⟩]
end Go.Proofs.YtagmlemlagbfkaaGreatDoor.Dk
namespace Go.Proofs.YtagmlemlagbfkaaGreatDoor.Jr
open Go.Lib Go.RowKit
open Wire (textE numE rText rNum rText_inv rNum_inv rText_back rNum_back)
open Dk (Disk)
set_option linter.unusedVariables false
set_option linter.unusedSimpArgs false

/-- Each byte multiplied by its position, from position i + 1 on. -/
def wt (i : Nat) : List UInt8 → Nat
  | [] => 0
  | c :: l => c.toNat * (i + 1) + wt (i + 1) l
def sumN (l : List UInt8) : Int := ((wt 0 l % 2147483647 : Nat) : Int)
theorem wt_append : ∀ (a b : List UInt8) (i : Nat), wt i (a ++ b) = wt i a + wt (i + a.length) b := by
  intro a
  induction a with
  | nil => intro b i; simp [wt]
  | cons c a ih =>
    intro b i
    rw [List.cons_append, wt, wt, ih, List.length_cons, show i + 1 + a.length = i + (a.length + 1) by omega]
    omega
theorem sumN_snoc (l : List UInt8) (c : UInt8) : sumN (l ++ [c]) = (sumN l + c.toNat * ((l.length : Int) + 1)) % 2147483647 := by
  unfold sumN
  rw [wt_append]
  simp only [wt, Nat.zero_add, Nat.add_zero]
  have e : (wt 0 l + c.toNat * (l.length + 1)) % 2147483647 = (wt 0 l % 2147483647 + c.toNat * (l.length + 1)) % 2147483647 := by omega
  rw [e]
  simp only [Int.natCast_emod, Int.natCast_add, Int.natCast_mul]
  rfl
theorem sumN_bd (l : List UInt8) : 0 ≤ sumN l ∧ sumN l < 2147483647 := by unfold sumN; omega
def form (t : List UInt8) : List UInt8 := textE t ++ numE (sumN t)
def forms (l : List (List UInt8)) : List UInt8 := (l.map form).flatten
theorem form_pos (t : List UInt8) : 0 < (form t).length := by
  unfold form textE
  simp only [List.length_append, List.length_cons]
  omega
theorem forms_cons (t : List UInt8) (l : List (List UInt8)) : forms (t :: l) = form t ++ forms l := by simp [forms]
theorem forms_snoc (a : List (List UInt8)) (t : List UInt8) : forms (a ++ [t]) = forms a ++ form t := by simp [forms]
theorem form_len (t : List UInt8) (h : t.length ≤ 9223372036854775807) : (form t).length ≤ t.length + 43 := by
  have h1 := Wire.itoa_le20 (v := (t.length : Int)) (by omega) (by omega)
  have h2 := sumN_bd t
  have h3 := Wire.itoa_le20 (v := sumN t) (by omega) (by omega)
  unfold form textE numE
  rw [if_neg (by omega)]
  unfold Wire.intE
  simp only [List.length_append, List.length_cons, List.length_nil]
  omega
theorem forms_len {n : Nat} : ∀ {l : List (List UInt8)}, (∀ t ∈ l, t.length ≤ n) → n ≤ 9223372036854775807 → (forms l).length ≤ l.length * (n + 43) := by
  intro l
  induction l with
  | nil => intro _ _; simp [forms]
  | cons t l ih =>
    intro h hn
    have h1 := ih (fun x hx => h x (List.mem_cons_of_mem _ hx)) hn
    have h2 := form_len t (Nat.le_trans (h t (List.mem_cons_self ..)) hn)
    have h3 := h t (List.mem_cons_self ..)
    rw [forms_cons, List.length_append, List.length_cons, Nat.succ_mul]
    omega
theorem len_forms (l : List (List UInt8)) : l.length ≤ (forms l).length := by
  induction l with
  | nil => simp [forms]
  | cons t l ih =>
    have := form_pos t
    rw [forms_cons, List.length_append, List.length_cons]
    omega
/-- The record at the beginning of a string. -/
def one (s : List UInt8) : Option (List UInt8) :=
  if (rNum (rText (some s)).2).2.isSome = true ∧ (rText (some s)).1.length ≤ 20000 ∧ (rNum (rText (some s)).2).1 = sumN (rText (some s)).1 then some (rText (some s)).1 else none
theorem rNum_none : rNum none = (0, none) := by decide
theorem one_inv {s t : List UInt8} (h : one s = some t) : ∃ r, s = form t ++ r ∧ t.length ≤ 20000 := by
  unfold one at h
  split at h
  · rename_i hc
    obtain ⟨h1, h2, h3⟩ := hc
    injection h with h
    rcases hx : rText (some s) with ⟨t', s1⟩
    rw [hx] at h h1 h2 h3
    dsimp only at h h1 h2 h3
    subst h
    cases s1 with
    | none => rw [rNum_none] at h1; cases h1
    | some r1 =>
      rcases hy : rNum (some r1) with ⟨n, s2⟩
      rw [hy] at h1 h3
      dsimp only at h1 h3
      cases s2 with
      | none => cases h1
      | some r2 =>
        refine ⟨r2, ?_, h2⟩
        rw [rText_inv hx, rNum_inv hy, h3, form, List.append_assoc]
  · cases h
theorem rForm {t r : List UInt8} (ht : t.length ≤ 9223372036854775807) : rText (some (form t ++ r)) = (t, some (numE (sumN t) ++ r)) ∧ rNum (some (numE (sumN t) ++ r)) = (sumN t, some r) := by
  have hb := sumN_bd t
  exact ⟨by rw [form, List.append_assoc]; exact rText_back ht, rNum_back ⟨by omega, by omega⟩ hb.1⟩
theorem one_form {t r : List UInt8} (ht : t.length ≤ 20000) : one (form t ++ r) = some t := by
  obtain ⟨h1, h2⟩ := rForm (t := t) (r := r) (by omega)
  unfold one
  rw [h1, h2]
  simp [ht]
theorem one_nil : one [] = none := by
  cases h : one [] with
  | none => rfl
  | some t =>
    obtain ⟨r, e, _⟩ := one_inv h
    have := congrArg List.length e
    have := form_pos t
    simp at *
    omega
/-- The records of a string, at most n of them. -/
def recsGo : Nat → List UInt8 → List (List UInt8)
  | 0, _ => []
  | n + 1, s => match one s with
    | some t => t :: recsGo n (s.drop (form t).length)
    | none => []
def recs (s : List UInt8) : List (List UInt8) := recsGo s.length s
theorem recsGo_more : ∀ (n m : Nat) (s : List UInt8), s.length ≤ n → n ≤ m → recsGo m s = recsGo n s := by
  intro n
  induction n with
  | zero =>
    intro m s h _
    obtain rfl : s = [] := List.length_eq_zero_iff.1 (by omega)
    cases m with
    | zero => rfl
    | succ m => unfold recsGo; rw [one_nil]
  | succ n ih =>
    intro m s h hm
    obtain ⟨m, rfl⟩ : ∃ k, m = k + 1 := ⟨m - 1, by omega⟩
    unfold recsGo
    cases ho : one s with
    | none => rfl
    | some t =>
      dsimp only
      have := form_pos t
      rw [ih m _ (by rw [List.length_drop]; omega) (by omega)]
theorem recs_some {s t : List UInt8} (h : one s = some t) : recs s = t :: recs (s.drop (form t).length) := by
  have hp := form_pos t
  obtain ⟨r, e, _⟩ := one_inv h
  have hl : 0 < s.length := by rw [e, List.length_append]; omega
  have hg : ∀ n, recsGo (n + 1) s = t :: recsGo n (s.drop (form t).length) := fun n => by
    show (match one s with
      | some t => t :: recsGo n (s.drop (form t).length)
      | none => []) = _
    rw [h]
  obtain ⟨n, hn⟩ : ∃ n, s.length = n + 1 := ⟨s.length - 1, by omega⟩
  unfold recs
  rw [hn, hg, recsGo_more (s.drop (form t).length).length n _ (Nat.le_refl _) (by rw [List.length_drop]; omega)]
theorem recs_none {s : List UInt8} (h : one s = none) : recs s = [] := by
  unfold recs
  cases s.length with
  | zero => rfl
  | succ n => unfold recsGo; rw [h]
theorem recs_form {t r : List UInt8} (ht : t.length ≤ 20000) : recs (form t ++ r) = t :: recs r := by
  rw [recs_some (one_form ht), List.drop_left]
/-- A string is the forms of its records, and a rest without one. -/
theorem recs_split : ∀ (n : Nat) (s : List UInt8), s.length ≤ n → ∃ r, s = forms (recs s) ++ r ∧ one r = none := by
  intro n
  induction n with
  | zero =>
    intro s h
    obtain rfl : s = [] := List.length_eq_zero_iff.1 (by omega)
    exact ⟨[], rfl, one_nil⟩
  | succ n ih =>
    intro s h
    cases ho : one s with
    | none => exact ⟨s, by rw [recs_none ho]; rfl, ho⟩
    | some t =>
      obtain ⟨r, e, _⟩ := one_inv ho
      have := form_pos t
      obtain ⟨r2, e2, h2⟩ := ih (s.drop (form t).length) (by rw [List.length_drop]; omega)
      refine ⟨r2, ?_, h2⟩
      rw [recs_some ho, forms_cons, List.append_assoc, ← e2]
      conv => lhs; rw [e]
      congr 1
      rw [e, List.drop_left]
theorem recs_pre (s : List UInt8) : forms (recs s) <+: s := by
  obtain ⟨r, e, _⟩ := recs_split s.length s (Nat.le_refl _)
  exact ⟨r, e.symm⟩
theorem recs_len (s : List UInt8) : (forms (recs s)).length ≤ s.length := (recs_pre s).length_le
/-! ### The journal -/
structure Jn where
  file : Int
  recs : List (List UInt8)
  broken : Bool
def openJ (D : Disk) (f : Int) : Disk × Option Jn × Int :=
  if f < 0 ∨ 15 < f then (D, none, 1)
  else if (Dk.sync D f).2 ≠ 0 then ((Dk.sync D f).1, none, (Dk.sync D f).2)
  else if (forms (recs ((Dk.sync D f).1.fs f).now)).length < ((Dk.sync D f).1.fs f).now.length then
    (if (Dk.truncate (Dk.sync D f).1 f (forms (recs ((Dk.sync D f).1.fs f).now)).length).2 ≠ 0 then ((Dk.truncate (Dk.sync D f).1 f (forms (recs ((Dk.sync D f).1.fs f).now)).length).1, none, (Dk.truncate (Dk.sync D f).1 f (forms (recs ((Dk.sync D f).1.fs f).now)).length).2)
      else ((Dk.truncate (Dk.sync D f).1 f (forms (recs ((Dk.sync D f).1.fs f).now)).length).1, some ⟨f, recs ((Dk.sync D f).1.fs f).now, false⟩, 0))
  else ((Dk.sync D f).1, some ⟨f, recs ((Dk.sync D f).1.fs f).now, false⟩, 0)
def append (D : Disk) (j : Jn) (s : List UInt8) : Disk × Jn × Int :=
  if j.broken = true then (D, j, 7) else if 20000 < s.length then (D, j, 3)
  else if 1048576 < (forms j.recs).length + (form s).length then (D, j, 6)
  else if (Dk.write D j.file (forms j.recs).length (form s)).2 ≠ 0 then ((Dk.write D j.file (forms j.recs).length (form s)).1, { j with broken := true }, (Dk.write D j.file (forms j.recs).length (form s)).2)
  else ((Dk.write D j.file (forms j.recs).length (form s)).1, { j with recs := j.recs ++ [s] }, 0)
def syncJ (D : Disk) (j : Jn) : Disk × Jn × Int :=
  if j.broken = true then (D, j, 7) else ((Dk.sync D j.file).1, { j with broken := decide ((Dk.sync D j.file).2 ≠ 0) }, (Dk.sync D j.file).2)
end Go.Proofs.YtagmlemlagbfkaaGreatDoor.Jr
namespace Go.Proofs.YtagmlemlagbfkaaGreatDoor.Jr
open Go.Lib Go.RowKit
open Wire (textE numE rText rNum rText_inv rNum_inv rText_back rNum_back)
open Dk (Disk)
set_option linter.unusedVariables false
set_option linter.unusedSimpArgs false

/-- x is what is left of N: bytes at the end are missing, others are 0. -/
def Tn : List UInt8 → List UInt8 → Prop
  | [], _ => True
  | _ :: _, [] => False
  | c :: x, d :: N => (c = d ∨ c = 0) ∧ Tn x N
theorem tn_refl : ∀ (x : List UInt8), Tn x x
  | [] => trivial
  | c :: x => ⟨Or.inl rfl, tn_refl x⟩
theorem tn_iff : ∀ {x N : List UInt8}, Tn x N ↔ x.length ≤ N.length ∧ ∀ k, k < x.length → x[k]? = N[k]? ∨ x[k]? = some 0 := by
  intro x
  induction x with
  | nil => intro N; simp [Tn]
  | cons c x ih =>
    intro N
    cases N with
    | nil => simp [Tn]
    | cons d N =>
      unfold Tn
      rw [ih]
      constructor
      · rintro ⟨h1, h2, h3⟩
        refine ⟨by simp; omega, fun k hk => ?_⟩
        cases k with
        | zero => simpa using h1
        | succ k => simpa using h3 k (by simpa using hk)
      · rintro ⟨h2, h3⟩
        refine ⟨by simpa using h3 0 (by simp), by simpa using h2, fun k hk => ?_⟩
        simpa using h3 (k + 1) (by simpa using hk)
theorem tn_split : ∀ {p x N : List UInt8}, Tn (p ++ x) N → Tn p N ∧ Tn x (N.drop p.length) := by
  intro p
  induction p with
  | nil => intro x N h; exact ⟨trivial, h⟩
  | cons c p ih =>
    intro x N h
    cases N with
    | nil => cases h
    | cons d N => exact ⟨⟨h.1, (ih h.2).1⟩, (ih h.2).2⟩
theorem tn_nz : ∀ {p N : List UInt8}, Tn p N → (∀ c ∈ p, c ≠ 0) → p <+: N := by
  intro p
  induction p with
  | nil => intro N _ _; exact List.nil_prefix
  | cons c p ih =>
    intro N h hz
    cases N with
    | nil => cases h
    | cons d N =>
      rcases h.1 with h1 | h1
      · rw [h1]
        exact List.cons_prefix_cons.2 ⟨rfl, ih h.2 (fun x hx => hz x (List.mem_cons_of_mem _ hx))⟩
      · exact absurd h1 (hz c (List.mem_cons_self ..))
theorem tn_more : ∀ {x N M : List UInt8}, Tn x N → Tn x (N ++ M) := by
  intro x
  induction x with
  | nil => intro N M _; exact trivial
  | cons c x ih =>
    intro N M h
    cases N with
    | nil => cases h
    | cons d N => exact ⟨h.1, ih h.2⟩
theorem tn_trans : ∀ {x y N : List UInt8}, Tn x y → Tn y N → Tn x N := by
  intro x
  induction x with
  | nil => intro y N _ _; exact trivial
  | cons c x ih =>
    intro y N h k
    cases y with
    | nil => cases h
    | cons d y =>
      cases N with
      | nil => cases k
      | cons e N =>
        refine ⟨?_, ih h.2 k.2⟩
        rcases h.1 with h1 | h1
        · rw [h1]; exact k.1
        · exact Or.inr h1
theorem tn_nil {x : List UInt8} (h : Tn x []) : x = [] := by
  cases x with
  | nil => rfl
  | cons c x => cases h
theorem tn_pre {x N : List UInt8} (h : x <+: N) : Tn x N := by
  obtain ⟨r, rfl⟩ := h
  exact tn_more (tn_refl x)
/-- Of two lists as long as one another the one with zeroes has the lesser sum. -/
theorem wt_tn : ∀ {t a : List UInt8} (i : Nat), Tn t a → t.length = a.length → wt i t ≤ wt i a ∧ (wt i t = wt i a → t = a) := by
  intro t
  induction t with
  | nil => intro a i _ hl; obtain rfl : a = [] := List.length_eq_zero_iff.1 hl.symm; exact ⟨Nat.le_refl _, fun _ => rfl⟩
  | cons c t ih =>
    intro a i h hl
    cases a with
    | nil => cases h
    | cons d a =>
      obtain ⟨h1, h2⟩ := ih (i + 1) h.2 (by simpa using hl)
      unfold wt
      rcases h.1 with h3 | h3
      · subst h3
        exact ⟨by omega, fun e => by rw [h2 (by omega)]⟩
      · subst h3
        have hz : (0 : UInt8).toNat = 0 := rfl
        have hp : (0 : UInt8).toNat * (i + 1) = 0 := by rw [hz, Nat.zero_mul]
        have hd : d.toNat * (i + 1) ≥ d.toNat := Nat.le_mul_of_pos_right _ (by omega)
        rw [hp]
        refine ⟨by omega, fun e => ?_⟩
        have h0 : d.toNat = 0 := by omega
        have : d = 0 := UInt8.toNat_inj.1 (by rw [h0]; rfl)
        rw [this, h2 (by rw [this] at e; rw [hp] at e; omega)]
theorem wt_le : ∀ (l : List UInt8) (i n : Nat), i + l.length ≤ n → wt i l ≤ l.length * (255 * n) := by
  intro l
  induction l with
  | nil => intro i n _; simp [wt]
  | cons c l ih =>
    intro i n h
    rw [List.length_cons] at h
    have h1 := ih (i + 1) n (by omega)
    have h2 : c.toNat * (i + 1) ≤ 255 * n := Nat.mul_le_mul (by have := c.toNat_lt; omega) (by omega)
    rw [wt, List.length_cons, Nat.succ_mul]
    omega
theorem wt_small {l : List UInt8} (h : l.length ≤ 2000) : wt 0 l < 2147483647 := by
  have h1 := wt_le l 0 2000 (by omega)
  have h2 : l.length * (255 * 2000) ≤ 2000 * (255 * 2000) := Nat.mul_le_mul_right _ h
  omega
theorem itoa_nz {n : Int} : ∀ c ∈ itoa n, c ≠ 0 := by
  intro c hc e
  have := Wire.itoa_chars hc
  rw [e] at this
  simp at this
theorem form_eq (t : List UInt8) : form t = (itoa (t.length : Int) ++ [58]) ++ (t ++ (44 :: numE (sumN t))) := by
  unfold form textE
  simp
theorem num_pre {n m : Int} {M r : List UInt8} (hn : 0 ≤ n) (hm : 0 ≤ m) (hn2 : n ≤ 9223372036854775807) (hm2 : m ≤ 9223372036854775807) (h : numE n <+: numE m ++ M) : n = m := by
  obtain ⟨r, e⟩ := h
  have h1 := rNum_back (n := n) (r := r) ⟨by omega, by omega⟩ hn
  have h2 := rNum_back (n := m) (r := M) ⟨by omega, by omega⟩ hm
  rw [e, h2] at h1
  exact (Prod.mk.inj h1).1.symm
/-- The first record of what is left is the first record. -/
theorem one_tn {x a M t : List UInt8} (h : Tn x (form a ++ M)) (ha : a.length ≤ 2000) (ho : one x = some t) : t = a := by
  obtain ⟨r, rfl, ht⟩ := one_inv ho
  rw [form_eq t, form_eq a, List.append_assoc (itoa (t.length : Int) ++ [58]), List.append_assoc (itoa (a.length : Int) ++ [58])] at h
  obtain ⟨h1, h2⟩ := tn_split h
  have hp := tn_nz h1 (fun c hc => by
    rcases List.mem_append.1 hc with hc | hc
    · exact itoa_nz c hc
    · rw [List.mem_singleton.1 hc]; decide)
  obtain ⟨r1, e1⟩ := hp
  have q1 := Wire.rNumber_back (n := (t.length : Int)) (least := 0) (e := 58) (r := r1) ⟨by omega, by omega⟩ (by omega) (by decide)
  have q2 := Wire.rNumber_back (n := (a.length : Int)) (least := 0) (e := 58) (r := (a ++ 44 :: numE (sumN a)) ++ M) ⟨by omega, by omega⟩ (by omega) (by decide)
  have e1' : itoa (t.length : Int) ++ 58 :: r1 = itoa (a.length : Int) ++ 58 :: ((a ++ 44 :: numE (sumN a)) ++ M) := by simpa using e1
  rw [e1', q2] at q1
  have hlen : t.length = a.length := by have := (Prod.mk.inj q1).1; omega
  rw [hlen, List.drop_left] at h2
  rw [List.append_assoc t, List.append_assoc a] at h2
  obtain ⟨h3, h4⟩ := tn_split h2
  rw [hlen, List.drop_left] at h4
  have h3' : Tn t a := by
    rw [tn_iff] at h3 ⊢
    refine ⟨by omega, fun k hk => ?_⟩
    have := h3.2 k hk
    rwa [List.getElem?_append_left (by omega)] at this
  have h5 : Tn (numE (sumN t) ++ r) (numE (sumN a) ++ M) := h4.2
  have hbt := sumN_bd t
  have hba := sumN_bd a
  have h6 := tn_nz (tn_split h5).1 (fun c hc => by
    unfold numE at hc
    rw [if_neg (by omega)] at hc
    rcases List.mem_append.1 hc with hc | hc
    · exact itoa_nz c hc
    · rw [List.mem_singleton.1 hc]; decide)
  have hs : sumN t = sumN a := num_pre (r := []) hbt.1 hba.1 (by omega) (by omega) h6
  obtain ⟨hw, heq⟩ := wt_tn 0 h3' hlen
  have hwa := wt_small ha
  refine heq ?_
  unfold sumN at hs
  omega
/-- The records of what is left: the first m, where all bytes of their forms are there, and not all of the next one's. -/
theorem recs_tn : ∀ {A : List (List UInt8)} {x : List UInt8}, Tn x (forms A) → (∀ a ∈ A, a.length ≤ 2000) →
    ∃ m, m ≤ A.length ∧ recs x = A.take m ∧ forms (A.take m) <+: x ∧ ∀ k, k ≤ A.length → forms (A.take k) <+: x → k ≤ m := by
  intro A
  induction A with
  | nil =>
    intro x h _
    rw [tn_nil h]
    exact ⟨0, Nat.le_refl _, rfl, List.prefix_refl _, fun k hk _ => hk⟩
  | cons a A ih =>
    intro x h hs
    rw [forms_cons] at h
    cases ho : one x with
    | none =>
      refine ⟨0, Nat.zero_le _, recs_none ho, List.nil_prefix, fun k hk hp => ?_⟩
      cases k with
      | zero => exact Nat.le_refl _
      | succ k =>
        rw [List.take_succ_cons, forms_cons] at hp
        obtain ⟨r, e⟩ := hp
        rw [← e, List.append_assoc, one_form (by have := hs a (List.mem_cons_self ..); omega)] at ho
        cases ho
    | some t =>
      obtain rfl := one_tn h (hs a (List.mem_cons_self ..)) ho
      obtain ⟨r, rfl, ht⟩ := one_inv ho
      have h2 := (tn_split h).2
      rw [List.drop_left] at h2
      obtain ⟨m, h3, h4, h5, h6⟩ := ih h2 (fun b hb => hs b (List.mem_cons_of_mem _ hb))
      refine ⟨m + 1, by rw [List.length_cons]; omega, by rw [recs_form ht, h4, List.take_succ_cons], ?_, fun k hk hp => ?_⟩
      · rw [List.take_succ_cons, forms_cons]
        exact (List.prefix_append_right_inj _).2 h5
      · cases k with
        | zero => exact Nat.zero_le _
        | succ k =>
          rw [List.take_succ_cons, forms_cons] at hp
          have := h6 k (by rw [List.length_cons] at hk; omega) ((List.prefix_append_right_inj _).1 hp)
          omega
end Go.Proofs.YtagmlemlagbfkaaGreatDoor.Jr
namespace Go.Proofs.YtagmlemlagbfkaaGreatDoor.Jr
open Go.Lib Go.RowKit
open Dk (Disk Fil)
set_option linter.unusedVariables false
set_option linter.unusedSimpArgs false

theorem get_pre {a b : List UInt8} (h : a <+: b) {k : Nat} (hk : k < a.length) : b[k]? = a[k]? := by
  obtain ⟨r, rfl⟩ := h
  rw [List.getElem?_append_left hk]
theorem pre_get {a b : List UInt8} (hl : a.length ≤ b.length) (h : ∀ k, k < a.length → b[k]? = a[k]?) : a <+: b := by
  rw [List.prefix_iff_eq_take]
  refine List.ext_getElem? (fun k => ?_)
  rw [List.getElem?_take]
  by_cases hk : k < a.length
  · rw [if_pos hk, h k hk]
  · rw [if_neg hk, List.getElem?_eq_none (by omega)]
/-- A sector of N is put into what is left of N. -/
theorem put_tn {s N L : List UInt8} {i : Nat} (h : Tn s N) (h1 : L <+: s) (h2 : L <+: N) (hi : i < N.length) : Tn (Dk.put s i ((N.drop i).take 64)) N ∧ L <+: Dk.put s i ((N.drop i).take 64) := by
  have hl : ((N.drop i).take 64).length = min 64 (N.length - i) := by rw [List.length_take, List.length_drop]
  have hne : (N.drop i).take 64 ≠ [] := fun e => by rw [e] at hl; simp at hl; omega
  have hlen := Dk.put_len s i _ hne
  have hg := Dk.put_get s i _ hne
  rw [tn_iff] at h
  have hin : ∀ k, i ≤ k → k < i + ((N.drop i).take 64).length → ((N.drop i).take 64)[k - i]? = N[k]? := fun k h3 h4 => by
    rw [List.getElem?_take, if_pos (by omega), List.getElem?_drop]
    congr 1
    omega
  refine ⟨?_, ?_⟩
  · rw [tn_iff]
    refine ⟨by omega, fun k hk => ?_⟩
    rw [hg k]
    split
    · split
      · rename_i h4; exact h.2 k h4
      · exact Or.inr rfl
    · split
      · rename_i h3 h4; exact Or.inl (hin k (by omega) h4)
      · rename_i h3 h4; exact h.2 k (by omega)
  · have hll := h1.length_le
    refine pre_get (by omega) (fun k hk => ?_)
    rw [hg k]
    split
    · rw [if_pos (by omega)]; exact get_pre h1 hk
    · split
      · rename_i h3 h4
        rw [hin k (by omega) h4]; exact get_pre h2 hk
      · exact get_pre h1 hk
theorem survives_tn {keep : List Int} {f : Int} {N L : List UInt8} (h2 : L <+: N) : ∀ (q : List (Int × Int)) (i : Nat) (fs : Int → Fil), (fs f).now = N → Tn (fs f).last N → L <+: (fs f).last →
    Tn (Dk.survives keep q i fs f).last N ∧ L <+: (Dk.survives keep q i fs f).last := by
  intro q
  induction q with
  | nil => intro i fs _ h3 h4; exact ⟨h3, h4⟩
  | cons p q ih =>
    intro i fs h1 h3 h4
    have hs : Tn (Dk.survive keep fs p i f).last N ∧ L <+: (Dk.survive keep fs p i f).last := by
      unfold Dk.survive
      split
      · rename_i hc
        by_cases e : f = p.1
        · subst e
          rw [Dk.setF_self]
          dsimp only
          rw [h1] at hc ⊢
          exact put_tn h3 h4 h2 hc.2
        · rw [Dk.setF_ne _ _ e]
          exact ⟨h3, h4⟩
      · exact ⟨h3, h4⟩
    exact ih (i + 1) _ (by rw [Dk.survive_now]; exact h1) hs.1 hs.2
/-- Whatever fails: the file is what is left of the list's forms, and its durable part, a beginning of it, has all that was made sure of. -/
structure Inv (D : Disk) (f : Int) (all sure : List (List UInt8)) : Prop where
  ok : Dk.Ok D
  tn : Tn (D.fs f).now (forms all)
  pre : (D.fs f).last <+: (D.fs f).now
  has : forms sure <+: (D.fs f).last
  small : ∀ a ∈ all, a.length ≤ 2000
  sub : sure <+: all
variable {D : Disk} {f : Int} {all sure : List (List UInt8)}
theorem Inv.of_fs {D' : Disk} (h : Inv D f all sure) (hk : Dk.Ok D') (e : D'.fs = D.fs) : Inv D' f all sure := ⟨hk, by rw [e]; exact h.tn, by rw [e]; exact h.pre, by rw [e]; exact h.has, h.small, h.sub⟩
theorem Inv.more (h : Inv D f all sure) {s : List UInt8} (hs : s.length ≤ 2000) : Inv D f (all ++ [s]) sure :=
  ⟨h.ok, by rw [forms_snoc]; exact tn_more h.tn, h.pre, h.has, fun a ha => by
    rcases List.mem_append.1 ha with ha | ha
    · exact h.small a ha
    · rw [List.mem_singleton.1 ha]; exact hs, h.sub.trans (List.prefix_append _ _)⟩
theorem Inv.crash (h : Inv D f all sure) (keep : List Int) : Inv (Dk.crash D keep) f all sure := by
  have hk := Dk.crash_ok h.ok keep
  unfold Dk.crash at hk ⊢
  split
  · exact h
  · rename_i hd
    rw [if_neg hd] at hk
    obtain ⟨h1, h2⟩ := survives_tn (keep := keep) h.pre D.q 0 D.fs rfl (tn_pre h.pre) (List.prefix_refl _)
    exact ⟨hk, tn_trans h1 h.tn, List.prefix_refl _, h.has.trans h2, h.small, h.sub⟩
theorem counted_fs (D : Disk) : (Dk.counted D).fs = D.fs := by unfold Dk.counted; split <;> rfl
theorem counted_q (D : Disk) : (Dk.counted D).q = D.q := by unfold Dk.counted; split <;> rfl
theorem counted_lost (D : Disk) : (Dk.counted D).lost = D.lost := by unfold Dk.counted; split <;> rfl
theorem counted_down (D : Disk) : (Dk.counted D).down = D.down := by unfold Dk.counted; split <;> rfl
theorem counted_keep (D : Disk) : (Dk.counted D).keep = D.keep := by unfold Dk.counted; split <;> rfl
theorem Inv.counted (h : Inv D f all sure) : Inv (Dk.counted D) f all sure := h.of_fs (Dk.counted_ok h.ok) (counted_fs D)
theorem Inv.come (h : Inv D f all sure) : Inv (Dk.come D) f all sure := by
  unfold Dk.come
  split
  · exact h.counted.crash _
  · exact h.counted
theorem put_end (s t : List UInt8) : Dk.put s s.length t = s ++ t := by
  unfold Dk.put
  split
  · rename_i h; rw [h, List.append_nil]
  · rw [List.take_length, Nat.sub_self, List.drop_eq_nil_of_le (by omega)]
    simp
theorem form_ne (s : List UInt8) : form s ≠ [] := fun e => by have := form_pos s; rw [e] at this; cases this
/-- A record's form is added at the end. -/
theorem Inv.write0 (h : Inv D f all sure) (hn : (D.fs f).now = forms all) {s : List UInt8} (hs : s.length ≤ 2000) :
    Inv (Dk.write0 D f (forms all).length (form s)).1 f (all ++ [s]) sure ∧ ((Dk.write0 D f (forms all).length (form s)).2 = 0 → ((Dk.write0 D f (forms all).length (form s)).1.fs f).now = forms (all ++ [s])) := by
  have hk := Dk.write0_ok h.ok f (forms all).length (form s)
  have hm := h.more hs
  unfold Dk.write0 at hk ⊢
  split
  · rename_i h1
    exact ⟨hm, fun e => absurd e h1⟩
  · rename_i h1
    rw [if_neg h1] at hk
    split
    · rename_i h2
      exact ⟨hm, fun e => absurd e h2⟩
    · rename_i h2
      rw [if_neg h2] at hk
      have e1 : ((Dk.add D f (((forms all).length : Int)).toNat (form s)).fs f) = ⟨forms all ++ form s, (D.fs f).last⟩ := by
        unfold Dk.add
        rw [if_neg (form_ne s)]
        dsimp only
        rw [Dk.setF_self, hn, Int.toNat_natCast, put_end]
      refine ⟨⟨hk, ?_, ?_, ?_, hm.small, hm.sub⟩, fun _ => ?_⟩
      · rw [e1, forms_snoc]; exact tn_refl _
      · rw [e1, ← hn]; exact h.pre.trans (List.prefix_append _ _)
      · rw [e1]; exact h.has
      · rw [e1, forms_snoc]
theorem Inv.write (h : Inv D f all sure) (hn : (D.fs f).now = forms all) {s : List UInt8} (hs : s.length ≤ 2000) :
    Inv (Dk.write D f (forms all).length (form s)).1 f (all ++ [s]) sure ∧ ((Dk.write D f (forms all).length (form s)).2 = 0 → ((Dk.write D f (forms all).length (form s)).1.fs f).now = forms (all ++ [s])) := by
  obtain ⟨h1, h2⟩ := h.counted.write0 (by rw [counted_fs]; exact hn) hs
  unfold Dk.write
  split
  · exact ⟨h1.crash _, fun e => by cases e⟩
  · exact ⟨h1, h2⟩
/-- What a write of a form returns. -/
theorem write_err {n : Nat} {s : List UInt8} (hf : 0 ≤ f ∧ f < 16) (hn : n + s.length ≤ 16777216) : (Dk.write D f n s).2 = 0 ∨ (Dk.write D f n s).2 = 8 := by
  unfold Dk.write
  split
  · exact Or.inr rfl
  · unfold Dk.write0
    have hw : Dk.wErr (n : Int) s.length = 0 := by
      unfold Dk.wErr
      rw [if_neg (by omega), if_neg (by omega)]
    split
    · unfold Dk.may
      split
      · exact Or.inr rfl
      · rw [if_neg (by omega)]; exact Or.inl rfl
    · split
      · rename_i h2; exact absurd hw h2
      · exact Or.inl rfl
theorem write_up {n : Nat} {s : List UInt8} (hf : 0 ≤ f ∧ f < 16) (hn : n + s.length ≤ 16777216) (hd : D.down = false) (ha : D.armed = 0) :
    (Dk.write D f n s).2 = 0 ∧ (Dk.write D f n s).1 = Dk.add D f n s := by
  have hc : Dk.counted D = D := by unfold Dk.counted; rw [if_pos (Or.inr ha)]
  unfold Dk.write Dk.ends
  rw [hc, hd, ha]
  rw [if_neg (by decide)]
  unfold Dk.write0
  have hm : Dk.may D f = 0 := by unfold Dk.may; rw [hd, if_neg (by decide), if_neg (by omega)]
  have hw : Dk.wErr (n : Int) s.length = 0 := by
    unfold Dk.wErr
    rw [if_neg (by omega), if_neg (by omega)]
  rw [hm, if_neg (by decide), hw, if_neg (by decide)]
  simp
theorem come_down {D : Disk} (h : (Dk.come D).down = false) : Dk.ends D = false ∧ Dk.come D = Dk.counted D ∧ D.down = false := by
  unfold Dk.come at h ⊢
  cases he : Dk.ends D with
  | true =>
    rw [he] at h
    simp only [if_true] at h
    have hd : (Dk.counted D).down = false := by
      rw [counted_down]
      unfold Dk.ends at he
      cases hx : D.down with
      | true => rw [hx] at he; simp at he
      | false => rfl
    unfold Dk.crash at h
    rw [hd] at h
    simp at h
  | false =>
    rw [he, if_neg (by decide)] at h
    rw [counted_down] at h
    exact ⟨rfl, by rw [if_neg (by decide)], h⟩
/-- A sync that is done makes sure of all. -/
theorem sync_done (h : (Dk.sync D f).2 = 0) : ((Dk.sync D f).1.fs f).now = (D.fs f).now ∧ ((Dk.sync D f).1.fs f).last = (D.fs f).now ∧ (Dk.sync D f).1.down = false ∧ 0 ≤ f ∧ f < 16 := by
  unfold Dk.sync at h ⊢
  split at h
  · rename_i h1; exact absurd h h1
  · rename_i h1
    have hm := Dk.may_file (Decidable.not_not.1 h1)
    rw [if_neg h1]
    split at h
    · cases h
    · rename_i h2
      rw [if_neg h2]
      have hc := (come_down hm.1).2.1
      unfold Dk.settle
      dsimp only
      rw [Dk.setF_self, hc, counted_fs]
      exact ⟨rfl, rfl, by rw [← hc]; exact hm.1, hm.2⟩
theorem Inv.settle (h : Inv D f all sure) (hk : Dk.Ok (Dk.settle D f (D.fs f).now)) : Inv (Dk.settle D f (D.fs f).now) f all sure := by
  refine ⟨hk, ?_, ?_, ?_, h.small, h.sub⟩ <;> unfold Dk.settle <;> dsimp only <;> rw [Dk.setF_self]
  · exact h.tn
  · exact List.prefix_refl _
  · exact h.has.trans h.pre
theorem Inv.sync (h : Inv D f all sure) : Inv (Dk.sync D f).1 f all sure := by
  have hk := Dk.sync_ok h.ok f
  have hc := h.come
  unfold Dk.sync at hk ⊢
  split
  · exact hc
  · rename_i h1
    rw [if_neg h1] at hk
    split
    · rename_i h2
      rw [if_pos h2] at hk
      exact hc.of_fs hk rfl
    · rename_i h2
      rw [if_neg h2] at hk
      exact hc.settle hk
theorem sync_err (hf : 0 ≤ f ∧ f < 16) : (Dk.sync D f).2 = 0 ∨ (Dk.sync D f).2 = 8 ∨ (Dk.sync D f).2 = 9 := by
  unfold Dk.sync
  split
  · unfold Dk.may
    split
    · exact Or.inr (Or.inl rfl)
    · rw [if_neg (by omega)]; exact Or.inl rfl
  · split
    · exact Or.inr (Or.inr rfl)
    · exact Or.inl rfl
theorem sync_up (hf : 0 ≤ f ∧ f < 16) (hd : D.down = false) (ha : D.armed = 0) : (Dk.sync D f).2 = (if 0 < D.lost then 9 else 0) ∧ (Dk.sync D f).1.armed = 0 ∧ (Dk.sync D f).1.down = false ∧ (Dk.sync D f).1.lost = (if 0 < D.lost then D.lost - 1 else D.lost) := by
  have hc : Dk.come D = D := by
    unfold Dk.come Dk.ends Dk.counted
    rw [ha, hd]
    simp
  have hm : Dk.may D f = 0 := by unfold Dk.may; rw [hd, if_neg (by decide), if_neg (by omega)]
  unfold Dk.sync
  rw [hc, hm, if_neg (by decide)]
  split
  · exact ⟨rfl, ha, hd, rfl⟩
  · exact ⟨rfl, ha, hd, rfl⟩
/-- The file is cut after its records. -/
theorem trunc_done {n : Int} (hn : 0 ≤ n) (h : (Dk.truncate D f n).2 = 0) : ((Dk.truncate D f n).1.fs f).now = (D.fs f).now.take n.toNat ∧ ((Dk.truncate D f n).1.fs f).last = (D.fs f).now.take n.toNat ∧ (Dk.truncate D f n).1.down = false := by
  unfold Dk.truncate at h ⊢
  split at h
  · rename_i h1; exact absurd h h1
  · rename_i h1
    have hm := Dk.may_file (Decidable.not_not.1 h1)
    rw [if_neg h1]
    split at h
    · cases h
    · rename_i h2
      rw [if_neg h2]
      have hc := (come_down hm.1).2.1
      unfold Dk.settle
      dsimp only
      rw [Dk.setF_self, hc, counted_fs]
      exact ⟨rfl, rfl, by rw [← hc]; exact hm.1⟩
theorem come_now (D : Disk) (f : Int) (h : (D.fs f).last = (D.fs f).now) : ((Dk.come D).fs f).now = (D.fs f).now := by
  unfold Dk.come
  split
  · unfold Dk.crash
    split
    · rw [counted_fs]
    · dsimp only
      rw [counted_fs, counted_q]
      obtain ⟨h1, h2⟩ := survives_tn (keep := D.keep) (f := f) (List.prefix_refl (D.fs f).now) D.q 0 D.fs rfl (by rw [h]; exact tn_refl _) (by rw [h]; exact List.prefix_refl _)
      have := (tn_iff.1 h1).1
      exact (h2.eq_of_length_le this).symm
  · rw [counted_fs]
theorem trunc_err {n : Int} (hf : 0 ≤ f ∧ f < 16) (hn : 0 ≤ n) (hl : (D.fs f).last = (D.fs f).now) (hle : n ≤ (D.fs f).now.length) : (Dk.truncate D f n).2 = 0 ∨ (Dk.truncate D f n).2 = 8 := by
  have hc := come_now D f hl
  unfold Dk.truncate
  split
  · unfold Dk.may
    split
    · exact Or.inr rfl
    · rw [if_neg (by omega)]; exact Or.inl rfl
  · rw [if_neg (by rw [hc]; omega)]
    exact Or.inl rfl
theorem trunc_up {n : Int} (hf : 0 ≤ f ∧ f < 16) (hd : D.down = false) (ha : D.armed = 0) (hn : 0 ≤ n) (hle : n ≤ (D.fs f).now.length) : (Dk.truncate D f n).2 = 0 ∧ (Dk.truncate D f n).1.armed = 0 ∧ (Dk.truncate D f n).1.lost = D.lost := by
  have hc : Dk.come D = D := by
    unfold Dk.come Dk.ends Dk.counted
    rw [ha, hd]
    simp
  have hm : Dk.may D f = 0 := by unfold Dk.may; rw [hd, if_neg (by decide), if_neg (by omega)]
  unfold Dk.truncate
  rw [hc, hm, if_neg (by decide), if_neg (by omega)]
  exact ⟨rfl, ha, rfl⟩
theorem Inv.lists (h : Inv D f all sure) : ∃ m, m ≤ all.length ∧ recs (D.fs f).now = all.take m ∧ sure.length ≤ m := by
  obtain ⟨m, h1, h2, h3, h4⟩ := recs_tn h.tn h.small
  refine ⟨m, h1, h2, h4 sure.length h.sub.length_le ?_⟩
  have e := List.prefix_iff_eq_take.1 h.sub
  rw [← e]
  exact h.has.trans h.pre
/-- What Open leaves, and returns. -/
theorem Inv.open_ (h : Inv D f all sure) (hf : 0 ≤ f ∧ f < 16) :
    ((openJ D f).2.1 = none ∧ ((openJ D f).2.2 = 8 ∨ (openJ D f).2.2 = 9) ∧ Inv (openJ D f).1 f all sure) ∨
    ∃ l, (openJ D f).2.1 = some ⟨f, l, false⟩ ∧ (openJ D f).2.2 = 0 ∧ l <+: all ∧ sure <+: l ∧ Inv (openJ D f).1 f l l ∧ ((openJ D f).1.fs f).now = forms l ∧ (openJ D f).1.down = false := by
  have hs := h.sync
  unfold openJ
  rw [if_neg (by omega)]
  rcases sync_err (D := D) hf with h0 | h0
  · obtain ⟨e1, e2, e3, _⟩ := sync_done h0
    rw [if_neg (by rw [h0]; decide), e1]
    obtain ⟨m, hm, hr, hsm⟩ := h.lists
    rw [hr]
    have hpre : all.take m <+: all := List.take_prefix _ _
    have hsl : sure <+: all.take m := by
      rw [List.prefix_iff_eq_take.1 h.sub]
      exact List.take_prefix_take_left (by omega)
    have hsmall : ∀ a ∈ all.take m, a.length ≤ 2000 := fun a ha => h.small a (List.mem_of_mem_take ha)
    have hfp : forms (all.take m) <+: (D.fs f).now := by rw [← hr]; exact recs_pre _
    have htake : (D.fs f).now.take (forms (all.take m)).length = forms (all.take m) := (List.prefix_iff_eq_take.1 hfp).symm
    split
    · rename_i hlt
      rcases trunc_err (D := (Dk.sync D f).1) (n := ((forms (all.take m)).length : Int)) hf (by omega) (by rw [e1, e2]) (by rw [e1]; omega) with h8 | h8
      · obtain ⟨t1, t2, t3⟩ := trunc_done (by omega) h8
        rw [if_neg (by rw [h8]; decide)]
        rw [e1, Int.toNat_natCast, htake] at t1 t2
        exact Or.inr ⟨all.take m, rfl, rfl, hpre, hsl, ⟨Dk.truncate_ok hs.ok _ _, by rw [t1]; exact tn_refl _, by rw [t1, t2]; exact List.prefix_refl _, by rw [t2]; exact List.prefix_refl _, hsmall, List.prefix_refl _⟩, t1, t3⟩
      · rw [if_pos (by rw [h8]; decide)]
        refine Or.inl ⟨rfl, Or.inl h8, ?_⟩
        have hc := hs.come
        have hk := Dk.truncate_ok hs.ok f ((forms (all.take m)).length : Int)
        unfold Dk.truncate at h8 hk ⊢
        split at h8
        · rename_i h9
          rw [if_pos h9]; exact hc
        · split at h8 <;> cases h8
    · rename_i hlt
      have hle := hfp.length_le
      have heq : forms (all.take m) = (D.fs f).now := hfp.eq_of_length (by omega)
      exact Or.inr ⟨all.take m, rfl, rfl, hpre, hsl, ⟨hs.ok, by rw [e1, heq]; exact tn_refl _, by rw [e1, e2]; exact List.prefix_refl _, by rw [e2, heq]; exact List.prefix_refl _, hsmall, List.prefix_refl _⟩, by rw [e1, heq], e3⟩
  · rw [if_pos (by omega)]
    exact Or.inl ⟨rfl, h0, hs⟩
/-- With nothing lost, and no crash, it can be opened. -/
theorem open_up (h : Inv D f all sure) (hf : 0 ≤ f ∧ f < 16) (hd : D.down = false) (ha : D.armed = 0) (hl : D.lost = 0) : (openJ D f).2.2 = 0 ∧ (openJ D f).1.armed = 0 ∧ (openJ D f).1.lost = 0 := by
  have hs := sync_up hf hd ha
  rw [if_neg (by omega)] at hs
  rw [if_neg (by omega)] at hs
  obtain ⟨e1, e2, e3, _⟩ := sync_done hs.1
  unfold openJ
  rw [if_neg (by omega), hs.1, if_neg (by decide)]
  split
  · rename_i hlt
    have ht := trunc_up (D := (Dk.sync D f).1) (n := ((forms (recs ((Dk.sync D f).1.fs f).now)).length : Int)) hf e3 hs.2.1 (by omega) (by omega)
    rw [ht.1, if_neg (by decide)]
    exact ⟨rfl, ht.2.1, by rw [ht.2.2, hs.2.2.2, hl]⟩
  · exact ⟨rfl, hs.2.1, by rw [hs.2.2.2, hl]⟩
end Go.Proofs.YtagmlemlagbfkaaGreatDoor.Jr
namespace Go.Proofs.YtagmlemlagbfkaaGreatDoor.Jr
open Dk (Disk)
set_option linter.unusedVariables false
set_option linter.unusedSimpArgs false

structure Calm (D : Disk) : Prop where
  down : D.down = false
  armed : D.armed = 0
  lost : D.lost = 0
theorem Calm.may {D : Disk} (h : Calm D) {f : Int} (hf : 0 ≤ f ∧ f < 16) : Dk.may D f = 0 := by
  unfold Dk.may; rw [h.down, if_neg (by decide), if_neg (by omega)]
theorem Calm.write {D : Disk} (h : Calm D) {f : Int} (hf : 0 ≤ f ∧ f < 16) {n : Nat} {s : List UInt8} (hn : n + s.length ≤ 16777216) :
    (Dk.write D f n s).2 = 0 ∧ Calm (Dk.write D f n s).1 ∧ ((Dk.write D f n s).1.fs f).now = Dk.put (D.fs f).now n s ∧ ∀ g, g ≠ f → ((Dk.write D f n s).1.fs g) = D.fs g := by
  obtain ⟨h1, h2⟩ := write_up (f := f) (n := n) (s := s) hf hn h.down h.armed
  rw [h2]
  refine ⟨h1, ?_⟩
  unfold Dk.add
  split
  · rename_i e
    exact ⟨h, by rw [e]; unfold Dk.put; rw [if_pos rfl], fun _ _ => rfl⟩
  · refine ⟨⟨h.down, h.armed, h.lost⟩, ?_, fun g hg => ?_⟩
    · dsimp only; rw [Dk.setF_self]
    · dsimp only; rw [Dk.setF_ne _ _ hg]
/-- A journal is opened. -/
theorem Calm.open_ {D : Disk} (h : Calm D) {f : Int} (hf : 0 ≤ f ∧ f < 16) :
    ∃ D', openJ D f = (D', some ⟨f, recs (D.fs f).now, false⟩, 0) ∧ Calm D' ∧ (D'.fs f).now = forms (recs (D.fs f).now) := by
  obtain ⟨s1, s2, s3, s4⟩ := sync_up (f := f) hf h.down h.armed
  rw [h.lost, if_neg (by omega)] at s1 s4
  obtain ⟨t1, t2, t3, _⟩ := sync_done s1
  have hl := recs_len (D.fs f).now
  unfold openJ
  rw [if_neg (by omega), s1, if_neg (by omega), t1]
  by_cases hlt : (forms (recs (D.fs f).now)).length < (D.fs f).now.length
  · rw [if_pos hlt]
    obtain ⟨q1, q2, q3⟩ := trunc_up (D := (Dk.sync D f).1) (f := f) (n := ((forms (recs (D.fs f).now)).length : Nat)) hf s3 s2 (by omega) (by rw [t1]; omega)
    obtain ⟨r1, r2, r3⟩ := trunc_done (D := (Dk.sync D f).1) (f := f) (n := ((forms (recs (D.fs f).now)).length : Nat)) (by omega) q1
    rw [q1, if_neg (by omega)]
    refine ⟨_, rfl, ⟨r3, q2, q3.trans s4⟩, ?_⟩
    rw [r1, t1, Int.toNat_natCast]
    obtain ⟨r, e, _⟩ := recs_split _ (D.fs f).now (Nat.le_refl _)
    conv => lhs; arg 2; rw [e]
    rw [List.take_left]
  · rw [if_neg hlt]
    refine ⟨_, rfl, ⟨s3, s2, s4⟩, ?_⟩
    rw [t1]
    exact ((recs_pre _).eq_of_length (by omega)).symm
end Go.Proofs.YtagmlemlagbfkaaGreatDoor.Jr
namespace Go.Proofs.YtagmlemlagbfkaaGreatDoor.Jr
open Dk (Disk)
set_option linter.unusedVariables false
set_option linter.unusedSimpArgs false

/-- The disk is up, no crash is scheduled; the file is what is left of a list of at most n records of at most 200 bytes, and a journal that is not broken has that list. -/
structure St (D : Disk) (jo : Option Jn) (n : Nat) : Prop where
  down : D.down = false
  armed : D.armed = 0
  inv : ∃ all sure, Inv D 0 all sure ∧ all.length ≤ n ∧ (∀ a ∈ all, a.length ≤ 200) ∧
    ∀ j, jo = some j → j.file = 0 ∧ j.recs.length ≤ n ∧ (∀ a ∈ j.recs, a.length ≤ 200) ∧ (j.broken = false → all = j.recs ∧ (D.fs 0).now = forms all)
theorem St.mono {D : Disk} {jo : Option Jn} {n m : Nat} (h : St D jo n) (hm : n ≤ m) : St D jo m := by
  obtain ⟨h1, h2, all, sure, h3, h4, h5, h6⟩ := h
  exact ⟨h1, h2, all, sure, h3, by omega, h5, fun j hj => ⟨(h6 j hj).1, by have := (h6 j hj).2.1; omega, (h6 j hj).2.2⟩⟩
theorem forms_small {l : List (List UInt8)} {n : Nat} (h : ∀ a ∈ l, a.length ≤ 200) (hn : l.length ≤ n) : (forms l).length ≤ n * 243 := by
  have := forms_len (n := 200) h (by omega)
  exact Nat.le_trans this (Nat.mul_le_mul_right _ hn)
/-- Opening. -/
theorem St.open_ {D : Disk} {jo : Option Jn} {n : Nat} (h : St D jo n) : St (openJ D 0).1 (openJ D 0).2.1 n := by
  obtain ⟨h1, h2, all, sure, h3, h4, h5, h6⟩ := h
  have hs := sync_up (f := 0) (by omega) h1 h2
  have hD : (openJ D 0).1.down = false ∧ (openJ D 0).1.armed = 0 := by
    unfold openJ
    rw [if_neg (by omega)]
    split
    · exact ⟨hs.2.2.1, hs.2.1⟩
    · rename_i e0
      have e0 : (Dk.sync D 0).2 = 0 := Decidable.not_not.1 e0
      split
      · rename_i hlt
        obtain ⟨q1, q2, q3⟩ := trunc_up (D := (Dk.sync D 0).1) (f := 0) (n := ((forms (recs ((Dk.sync D 0).1.fs 0).now)).length : Nat)) (by omega) hs.2.2.1 hs.2.1 (by omega) (by omega)
        obtain ⟨_, _, r3⟩ := trunc_done (D := (Dk.sync D 0).1) (f := 0) (n := ((forms (recs ((Dk.sync D 0).1.fs 0).now)).length : Nat)) (by omega) q1
        rw [if_neg (by omega)]
        exact ⟨r3, q2⟩
      · exact ⟨hs.2.2.1, hs.2.1⟩
  rcases h3.open_ (by omega) with ⟨e1, _, e3⟩ | ⟨l, e1, _, e3, e4, e5, e6, _⟩
  · rw [e1]
    exact ⟨hD.1, hD.2, all, sure, e3, h4, h5, fun j hj => by cases hj⟩
  · rw [e1]
    have hl := e3.length_le
    have hsm : ∀ a ∈ l, a.length ≤ 200 := fun a ha => h5 a (e3.subset ha)
    refine ⟨hD.1, hD.2, l, l, e5, by omega, hsm, fun j hj => ?_⟩
    obtain rfl := Option.some.inj hj
    exact ⟨rfl, by dsimp only; omega, hsm, fun _ => ⟨rfl, e6⟩⟩
/-- A record is appended. -/
theorem St.append {D : Disk} {j : Jn} {n : Nat} (h : St D (some j) n) (hn : n ≤ 100) {s : List UInt8} (hs : s.length ≤ 200) :
    St (append D j s).1 (some (append D j s).2.1) (n + 1) ∧ ((j.broken = true ∧ append D j s = (D, j, 7)) ∨ (j.broken = false ∧ (append D j s).2 = ({ j with recs := j.recs ++ [s] }, 0))) := by
  have hall := h
  obtain ⟨h1, h2, all, sure, h3, h4, h5, h6⟩ := h
  obtain ⟨k1, k2, k3, k4⟩ := h6 j rfl
  cases hb : j.broken with
  | true =>
    have e : Jr.append D j s = (D, j, 7) := by unfold Jr.append; rw [if_pos hb]
    rw [e]
    exact ⟨hall.mono (by omega), Or.inl ⟨rfl, rfl⟩⟩
  | false =>
    obtain ⟨rfl, k5⟩ := k4 hb
    have hfl := forms_small k3 k2
    have hf2 := form_len s (by omega)
    have e : Jr.append D j s = ((Dk.write D 0 (forms j.recs).length (form s)).1, { j with recs := j.recs ++ [s] }, 0) := by
      obtain ⟨w1, _⟩ := write_up (D := D) (f := 0) (n := (forms j.recs).length) (s := form s) (by omega) (by omega) h1 h2
      unfold Jr.append
      rw [if_neg (by rw [hb]; decide), if_neg (by omega), if_neg (by omega), k1, w1, if_neg (by omega)]
    obtain ⟨w1, w2⟩ := write_up (D := D) (f := 0) (n := (forms j.recs).length) (s := form s) (by omega) (by omega) h1 h2
    obtain ⟨i1, i2⟩ := h3.write k5 (s := s) (by omega)
    rw [e]
    have hsm : ∀ a ∈ j.recs ++ [s], a.length ≤ 200 := fun a ha => by
      rcases List.mem_append.1 ha with ha | ha
      · exact k3 a ha
      · rw [List.mem_singleton.1 ha]; exact hs
    refine ⟨⟨?_, ?_, j.recs ++ [s], sure, i1, by rw [List.length_append]; simp; omega, hsm, fun j' hj => ?_⟩, Or.inr ⟨rfl, by simp [hb]⟩⟩
    · dsimp only; rw [w2]; unfold Dk.add; split <;> exact h1
    · dsimp only; rw [w2]; unfold Dk.add; split <;> exact h2
    · obtain rfl := Option.some.inj hj
      exact ⟨k1, by dsimp only; rw [List.length_append]; simp; omega, hsm, fun _ => ⟨rfl, i2 w1⟩⟩
theorem St.sync {D : Disk} {j : Jn} {n : Nat} (h : St D (some j) n) : St (syncJ D j).1 (some (syncJ D j).2.1) n ∧ (syncJ D j).2.1.recs = j.recs ∧
    ((syncJ D j).2.2 = 0 → (syncJ D j).2.1.broken = false ∧ Inv (syncJ D j).1 0 j.recs j.recs) := by
  have hall := h
  obtain ⟨h1, h2, all, sure, h3, h4, h5, h6⟩ := h
  obtain ⟨k1, k2, k3, k4⟩ := h6 j rfl
  cases hb : j.broken with
  | true =>
    have e : syncJ D j = (D, j, 7) := by unfold Jr.syncJ; rw [if_pos hb]
    rw [e]
    exact ⟨hall, rfl, fun e => by cases e⟩
  | false =>
    obtain ⟨rfl, k5⟩ := k4 hb
    have e : syncJ D j = ((Dk.sync D 0).1, { j with broken := decide ((Dk.sync D 0).2 ≠ 0) }, (Dk.sync D 0).2) := by unfold Jr.syncJ; rw [if_neg (by rw [hb]; decide), k1]
    have hs := sync_up (f := 0) (by omega) h1 h2
    rw [e]
    refine ⟨⟨hs.2.2.1, hs.2.1, j.recs, sure, h3.sync, h4, h5, fun j' hj => ?_⟩, rfl, fun e0 => ?_⟩
    · obtain rfl := Option.some.inj hj
      refine ⟨k1, k2, k3, fun hbr => ⟨rfl, ?_⟩⟩
      have e0 : (Dk.sync D 0).2 = 0 := by
        have := of_decide_eq_false hbr
        exact Decidable.not_not.1 this
      dsimp only
      rw [(sync_done e0).1]; exact k5
    · obtain ⟨t1, t2, _⟩ := sync_done e0
      have hi := h3.sync
      refine ⟨by dsimp only at e0 ⊢; rw [e0]; rfl, ⟨hi.ok, hi.tn, hi.pre, ?_, hi.small, List.prefix_refl _⟩⟩
      dsimp only
      rw [t2, k5]
      exact List.prefix_refl _
/-- A crash, and the start. -/
theorem St.crash {D : Disk} {jo : Option Jn} {n : Nat} (h : St D jo n) (keep : List Int) : St (Dk.start (Dk.crash D keep)) none n := by
  obtain ⟨h1, h2, all, sure, h3, h4, h5, h6⟩ := h
  have hc := h3.crash keep
  refine ⟨rfl, ?_, all, sure, hc.of_fs (Dk.start_ok hc.ok) rfl, h4, h5, fun j hj => by cases hj⟩
  rw [show (Dk.start (Dk.crash D keep)).armed = (Dk.crash D keep).armed from rfl, Dk.crash_eq h1]
end Go.Proofs.YtagmlemlagbfkaaGreatDoor.Jr
namespace Go.Proofs.YtagmlemlagbfkaaGreatDoor.Jr
open Dk (Disk)
set_option linter.unusedVariables false
set_option linter.unusedSimpArgs false

/-- A record is appended on a calm disk. -/
theorem Calm.append {D : Disk} (h : Calm D) {f : Int} (hf : 0 ≤ f ∧ f < 16) {L : List (List UInt8)} (hn : (D.fs f).now = forms L) {s : List UInt8} (hs : s.length ≤ 200) (hL : (forms L).length ≤ 100000) :
    ∃ D', append D ⟨f, L, false⟩ s = (D', ⟨f, L ++ [s], false⟩, 0) ∧ Calm D' ∧ (D'.fs f).now = forms (L ++ [s]) ∧ ∀ g, g ≠ f → D'.fs g = D.fs g := by
  have hf2 := form_len s (by omega)
  obtain ⟨e1, e2, e3, e4⟩ := h.write (f := f) hf (n := (forms L).length) (s := form s) (by omega)
  refine ⟨(Dk.write D f (forms L).length (form s)).1, ?_, e2, ?_, e4⟩
  · unfold Jr.append
    rw [if_neg (by simp), if_neg (by omega), if_neg (by dsimp only; omega)]
    dsimp only
    rw [if_neg (by omega)]
  · rw [e3, hn, put_end, forms_snoc]
end Go.Proofs.YtagmlemlagbfkaaGreatDoor.Jr
namespace Go.Proofs.YtagmlemlagbfkaaGreatDoor
set_option linter.unusedVariables false
set_option linter.unusedSimpArgs false

namespace Ft
open Dk (Disk)
open Jr (Jn)
def prOf (cs : List (List UInt8)) (s : List UInt8) : Int := idxI (fun x => decide (x = s)) cs
def come (cs : List (List UInt8)) (j : Jn) : List Int := j.recs.map (prOf cs)
/-- All that has come is a chunk. -/
def fitsJ (cs : List (List UInt8)) (m : Ck.Man) (j : Jn) : Bool := (come cs j).all fun p => decide (p ∈ m.chunks)
def fopen (D : Disk) (f : Int) (cs : List (List UInt8)) (m : Ck.Man) : Disk × Option Jn × Int :=
  if rightM cs m = false then (D, none, 1)
  else if (Jr.openJ D f).2.2 ≠ 0 then ((Jr.openJ D f).1, none, (Jr.openJ D f).2.2)
  else match (Jr.openJ D f).2.1 with
    | none => ((Jr.openJ D f).1, none, 28)
    | some j => if fitsJ cs m j then ((Jr.openJ D f).1, some j, 0) else ((Jr.openJ D f).1, none, 28)
def take (D : Disk) (cs : List (List UInt8)) (m : Ck.Man) (j : Jn) (i : Int) (t : List UInt8) : Disk × Jn × Int :=
  if i < 0 ∨ (m.chunks.length : Int) ≤ i then (D, j, 3)
  else if checkM cs m.chunks i t = false then (D, j, 28)
  else if m.chunks.getD i.toNat 0 ∈ come cs j then (D, j, 0)
  else Jr.append D j t
def gone (cs : List (List UInt8)) (m : Ck.Man) (j : Jn) : List Int := miss m.chunks (come cs j)
def ftext (cs : List (List UInt8)) (m : Ck.Man) (j : Jn) : List UInt8 × Int := if gone cs m j = [] then (textAtU cs m.print, 0) else ([], 33)
theorem open_err (D : Disk) (f : Int) : ((Jr.openJ D f).2.2 = 0 ↔ (Jr.openJ D f).2.1.isSome = true) := by
  unfold Jr.openJ
  split
  · simp
  · split
    · next h => simp; exact h
    · split
      · split
        · next h => simp; exact h
        · simp
      · simp
theorem append_recs (D : Disk) (j : Jn) (s : List UInt8) : ((Jr.append D j s).2.2 = 0 ∧ (Jr.append D j s).2.1.recs = j.recs ++ [s]) ∨ ((Jr.append D j s).2.2 ≠ 0 ∧ (Jr.append D j s).2.1.recs = j.recs) := by
  unfold Jr.append
  split
  · exact Or.inr ⟨(by show (7 : Int) ≠ 0; decide), rfl⟩
  · split
    · exact Or.inr ⟨(by show (3 : Int) ≠ 0; decide), rfl⟩
    · split
      · exact Or.inr ⟨(by show (6 : Int) ≠ 0; decide), rfl⟩
      · split
        · next h => exact Or.inr ⟨h, rfl⟩
        · exact Or.inl ⟨rfl, rfl⟩
theorem sync_recs (D : Disk) (j : Jn) : (Jr.syncJ D j).2.1.recs = j.recs := by unfold Jr.syncJ; split <;> rfl
end Ft
end Go.Proofs.YtagmlemlagbfkaaGreatDoor
namespace Go.Proofs.YtagmlemlagbfkaaGreatDoor.Jr
set_option linter.unusedVariables false
def bAB : List UInt8 := [97, 98]
theorem jn_eq {j : Jn} {f : Int} {r : List (List UInt8)} {b : Bool} (h : (j.file, j.recs, j.broken) = (f, r, b)) : j = ⟨f, r, b⟩ := by
  obtain ⟨a, b, c⟩ := j
  simp at h
  obtain ⟨rfl, rfl, rfl⟩ := h
  rfl
theorem jo_eq {o : Option Jn} {f : Int} {r : List (List UInt8)} {b : Bool} (h : (o.map fun j => (j.file, j.recs, j.broken)) = some (f, r, b)) : o = some ⟨f, r, b⟩ := by
  cases o with
  | none => cases h
  | some j => rw [jn_eq (Option.some.inj h)]
def xD1 : Dk.Disk := (openJ Dk.new 3).1
def xD2 : Dk.Disk := (append xD1 ⟨3, [], false⟩ bAB).1
def xD3 : Dk.Disk := (append xD2 ⟨3, [bAB], false⟩ []).1
def xBytes : List UInt8 := [50, 58, 97, 98, 44, 50, 57, 51, 59, 49, 58, 97, 44, 57, 56, 59]
def xD4 : Dk.Disk := (Dk.write xD3 4 0 xBytes).1
theorem x1 : openJ Dk.new 3 = (xD1, some ⟨3, [], false⟩, 0) := Prod.ext rfl (Prod.ext (jo_eq (by decide +kernel)) (by decide +kernel))
theorem x2 : append xD1 ⟨3, [], false⟩ bAB = (xD2, ⟨3, [bAB], false⟩, 0) := Prod.ext rfl (Prod.ext (jn_eq (by decide +kernel)) (by decide +kernel))
theorem x3 : append xD2 ⟨3, [bAB], false⟩ [] = (xD3, ⟨3, [bAB, []], false⟩, 0) := Prod.ext rfl (Prod.ext (jn_eq (by decide +kernel)) (by decide +kernel))
theorem x4 : Dk.read xD3 3 0 99 = ([50, 58, 97, 98, 44, 50, 57, 51, 59, 48, 58, 44, 48, 59], 0) := by decide +kernel
theorem x5 : Dk.write xD3 4 0 xBytes = (xD4, 0) := Prod.ext rfl (by decide +kernel)
theorem x8 : sumN [] = 0 ∧ sumN [97] = 97 ∧ sumN [97, 98] = 293 := by decide +kernel
end Go.Proofs.YtagmlemlagbfkaaGreatDoor.Jr
namespace Go.Proofs.YtagmlemlagbfkaaGreatDoor
set_option linter.unusedVariables false
set_option linter.unusedSimpArgs false

namespace Ft
open Dk (Disk)
open Jr (Jn forms form)
def xcs : List (List UInt8) := [[97, 98, 99, 100], [97, 98], [99, 100]]
def xm : Ck.Man := ⟨0, 4, [1, 2]⟩
def xj0 : Jn := ⟨0, [], false⟩
def xj1 : Jn := ⟨0, [[99, 100]], false⟩
def xj2 : Jn := ⟨0, [[99, 100], [97, 98]], false⟩
def xE1 : Disk := (fopen Dk.new 0 xcs xm).1
def xE2 : Disk := (take xE1 xcs xm xj0 1 [99, 100]).1
def xE3 : Disk := (take xE2 xcs xm xj1 0 [97, 98]).1
theorem y1 : fopen Dk.new 0 xcs xm = (xE1, some xj0, 0) := Prod.ext rfl (Prod.ext (Jr.jo_eq (by decide +kernel)) (by decide +kernel))
theorem y2 : take xE1 xcs xm xj0 0 [99, 100] = (xE1, xj0, 28) := by unfold take; rw [if_neg (by decide), if_pos (by decide)]
theorem y3 : take xE1 xcs xm xj0 2 [97, 98] = (xE1, xj0, 3) := by unfold take; rw [if_pos (by decide)]
theorem y4 : take xE1 xcs xm xj0 1 [99, 100] = (xE2, xj1, 0) := Prod.ext rfl (Prod.ext (Jr.jn_eq (by decide +kernel)) (by decide +kernel))
theorem y5 : gone xcs xm xj1 = [0] ∧ ftext xcs xm xj1 = ([], 33) := by decide +kernel
theorem y6 : take xE2 xcs xm xj1 0 [97, 98] = (xE3, xj2, 0) := Prod.ext rfl (Prod.ext (Jr.jn_eq (by decide +kernel)) (by decide +kernel))
theorem y7 : ftext xcs xm xj2 = ([97, 98, 99, 100], 0) := by decide +kernel
theorem y8 : plan [1, 2] [[1, 2], [2]] = ([0, 1], 0) ∧ plan [1, 2] [[1], []] = ([], 33) ∧ miss [1, 2] [1] = [1] := by decide +kernel

/-- A journal in order, on a calm disk. -/
structure Up (D : Disk) (j : Jn) : Prop where
  calm : Jr.Calm D
  file : 0 ≤ j.file ∧ j.file < 16
  ok : j.broken = false
  now : (D.fs j.file).now = forms j.recs
theorem Up.append {D : Disk} {j : Jn} (h : Up D j) {s : List UInt8} (hs : s.length ≤ 1000) (hl : (forms j.recs).length ≤ 1000000) :
    ∃ D', Jr.append D j s = (D', { j with recs := j.recs ++ [s] }, 0) ∧ Up D' { j with recs := j.recs ++ [s] } ∧ ∀ g, g ≠ j.file → D'.fs g = D.fs g := by
  have hf := Jr.form_len s (by omega)
  obtain ⟨w1, w2, w3, w4⟩ := h.calm.write h.file (n := (forms j.recs).length) (s := form s) (by omega)
  refine ⟨(Dk.write D j.file (forms j.recs).length (form s)).1, ?_, ⟨w2, h.file, h.ok, ?_⟩, w4⟩
  · unfold Jr.append
    rw [if_neg (by rw [h.ok]; decide), if_neg (by omega), if_neg (by omega), w1, if_neg (by decide)]
  · show (((Dk.write D j.file (forms j.recs).length (form s)).1).fs j.file).now = forms (j.recs ++ [s])
    rw [w3, h.now, Jr.put_end, Jr.forms_snoc]
end Ft
end Go.Proofs.YtagmlemlagbfkaaGreatDoor
namespace Go.Proofs.YtagmlemlagbfkaaGreatDoor
set_option linter.unusedVariables false
set_option linter.unusedSimpArgs false

namespace Ft
open Dk (Disk)
open Jr (Jn forms form)
/-- Whether a number is that of a chunk with a text. -/
theorem check_in {cs : List (List UInt8)} {l : List Int} {i : Int} {t : List UInt8} (h : checkM cs l i t = true) : ∃ k : Nat, ∃ hk : k < l.length, i = k ∧ hasAtU cs l[k] = true ∧ textAtU cs l[k] = t := by
  unfold checkM at h
  simp only [Bool.and_eq_true, decide_eq_true_eq] at h
  obtain ⟨⟨h1, h2⟩, h3, h4⟩ := h
  have hk : i.toNat < l.length := by omega
  have e : l.getD i.toNat 0 = l[i.toNat] := by simp [hk]
  rw [e] at h3 h4
  exact ⟨i.toNat, hk, by omega, h3, h4⟩
end Ft
end Go.Proofs.YtagmlemlagbfkaaGreatDoor
namespace Go.Proofs.YtagmlemlagbfkaaGreatDoor
set_option linter.unusedVariables false
set_option linter.unusedSimpArgs false

namespace Ft
open Dk (Disk)
open Jr (Jn forms form)
/-! ### Mirrors that have some chunks -/
/-- The prints of the indices in range, among the first k. -/
def ownN (mc h : List Int) (k : Nat) : List Int := ((h.take k).filter fun n : Int => decide (0 ≤ n) && decide (n < mc.length)).map fun n : Int => mc.getD n.toNat 0
end Ft
end Go.Proofs.YtagmlemlagbfkaaGreatDoor
