/- Contracts of Go's library at this seat's numbers, in the words of this seat's proofs: Itoa, Atoi, IndexByte, CutPrefix, strings.Builder. How the arguments of a statement read: integers, strings, slices of them, structs, slices of structs; from the form's reading to the words of the walks. Slices of structs that a call has made itself: what they read as. Append of one element to a slice of the call's own, with the word on where the result lies: in the old block or in a new one. Types and values in memory, and among a statement's arguments. Names and right types. -/
import Derived.Test.YtjlgmoemnhmgmaaGreatDoorPkWTells1
import Derived.Test.YtjlgmoemnhmgmaaGreatDoorShelf
import Derived.Lib.ItoaLen
import Derived.ProofKit
import Derived.OpenShut
import Derived.ShutString
import Derived.Lib.SmallJoins
import Derived.Deep.AppendLies
import Derived.Test.YtjlgmoemnhmgmaaGreatDoorPkWTells5
namespace Go.Proofs.YtjlgmoemnhmgmaaGreatDoor
open Go.RowKit
set_option linter.unusedVariables false
set_option linter.unusedSimpArgs false
attribute [local irreducible] Calls

/-- What the package-level variables of the library hold, as their initialisers lay them. -/
structure Gl (w : World) : Prop where
  big : nG ≤ w.heap.size
  tab : Lib.TabIs Tryz.prog w "internal/strconv.uint64pow10" .u64 Lib.pow10Tab
  syn : ∃ tp p, w.var? Tryz.prog "strconv.ErrSyntax" = some #[.iface tp p]
  rng : ∃ tp p, w.var? Tryz.prog "strconv.ErrRange" = some #[.iface tp p]
theorem gTab : Tryz.prog.globalNamed "internal/strconv.uint64pow10" = some 3 := by kernel_rfl
theorem gSyn : Tryz.prog.globalNamed "strconv.ErrSyntax" = some 1 := by kernel_rfl
theorem gRng : Tryz.prog.globalNamed "strconv.ErrRange" = some 2 := by kernel_rfl
theorem var_of_block {w w' : World} {name : String} {g : Nat} (hg : Tryz.prog.globalNamed name = some g) (h : w'.heap[g]? = w.heap[g]?) : w'.var? Tryz.prog name = w.var? Tryz.prog name := by
  simp only [World.var?, hg, Option.bind_some, h]
theorem Gl.upd {S : Nat → Prop} {w w' : World} (g : Gl w) (u : Upd S w w') : Gl w' := by
  have hb := g.big
  have h : ∀ k, k < nG → w'.heap[k]? = w.heap[k]? := fun k hk => u.block k (Nat.lt_of_lt_of_le hk hb) (Or.inl hk)
  refine ⟨Nat.le_trans hb u.size, ?_, ?_, ?_⟩
  · show w'.var? Tryz.prog _ = _
    rw [var_of_block gTab (h _ (by decide))]; exact g.tab
  · obtain ⟨tp, p, e⟩ := g.syn
    exact ⟨tp, p, by rw [var_of_block gSyn (h _ (by decide))]; exact e⟩
  · obtain ⟨tp, p, e⟩ := g.rng
    exact ⟨tp, p, by rw [var_of_block gRng (h _ (by decide))]; exact e⟩
theorem Gl.drew {w : World} (g : Gl w) : Gl w.drew := g.upd ((Upd.refl (fun _ => False) w).drew)
theorem Gl.drewN {w : World} (g : Gl w) (n : Nat) : Gl (w.drewN n) := g.upd ((Upd.refl (fun _ => False) w).drewN n)
theorem nw_grow (w : World) (k : Nat) (os : Array Obj) : Nw w (Go.Sort.grow (w.drewN k) os) := by
  refine ⟨rfl, rfl, rfl, by simp [Go.Sort.grow], fun i hi _ => ?_⟩
  show ((w.drewN k).heap ++ os)[i]? = _
  have : (w.drewN k).heap = w.heap := rfl
  rw [this, Array.getElem?_append_left hi]

/-- An int64. -/
def I64 (n : Int) : Prop := -9223372036854775808 ≤ n ∧ n ≤ 9223372036854775807
theorem itoa_le {n : Int} (h : I64 n) : (Lib.itoa n).length ≤ 21 := Lib.itoa_length_le n h.1 h.2

theorem Itoa_c (n : Int) (w : World) (g : Gl w) (h : I64 n) :
    Calls Tryz.prog 113 #[.int .i64 n] w fun e w' => e = .returned (.string ⟨(Lib.itoa n).toArray⟩) ∧ Nw w w' :=
  (Tryz.strconv_Itoa n h.1 h.2 w g.tab).mono fun e w' ⟨he, k, os, hw⟩ => ⟨he, hw ▸ nw_grow w k os⟩
theorem IndexByte_c (s : ByteArray) (c : Int) (w : World) :
    Calls Tryz.prog 123 #[.string s, .int .u8 c] w fun e w' => e = .returned (.int .i64 (Lib.indexByte s.data.toList c.toNat.toUInt8)) ∧ w = w' :=
  (Tryz.strings_IndexByte s c w).mono fun e w' ⟨he, hw⟩ => ⟨he, hw.symm⟩
theorem CutPrefix_c (s p : ByteArray) (w : World) :
    Calls Tryz.prog 136 #[.string s, .string p] w fun e w' => e = .returned (.tuple #[.string ⟨(Lib.trimPrefix s.data.toList p.data.toList).toArray⟩, .bool (Lib.hasPrefix s.data.toList p.data.toList)]) ∧ w = w' :=
  (Tryz.strings_CutPrefix s p w).mono fun e w' ⟨he, hw⟩ => ⟨he, hw.symm⟩
theorem size_freeze (w : World) (a : Addr) (n : Nat) : (w.freeze a n).heap.size = w.heap.size := by
  unfold World.freeze; split <;> simp
theorem heap_freeze (w : World) (a : Addr) (n k : Nat) (h : k ≠ a.block) : (w.freeze a n).heap[k]? = w.heap[k]? := by
  unfold World.freeze
  split
  · rfl
  · simp only [Array.getElem?_modify]; rw [if_neg (by omega)]
theorem os_freeze (w : World) (a : Addr) (n : Nat) : (w.freeze a n).os = w.os ∧ (w.freeze a n).tape = w.tape ∧ (w.freeze a n).output = w.output := by
  unfold World.freeze; split <;> exact ⟨rfl, rfl, rfl⟩
theorem nw_bytes (w : World) (t : ByteArray) : Nw w (Lib.bytesWorld w 5 t) := by
  simp only [Lib.bytesWorld]
  refine ⟨(os_freeze _ _ _).1, (os_freeze _ _ _).2.1, (os_freeze _ _ _).2.2, by rw [size_freeze]; simp, fun i hi _ => ?_⟩
  rw [heap_freeze _ _ _ _ (by show i ≠ w.heap.size; omega)]
  exact heap_alloc w.drew _ i hi
/-- The third way in which a number's reading ends. -/
theorem atoi_rest {x : Lib.NumEnd Int} (h1 : ∀ m, x ≠ .ok m) (h2 : x ≠ .range) : x = Lib.atoiAll [] := by
  cases x with
  | ok v => exact absurd rfl (h1 v)
  | range => exact absurd rfl h2
  | _ => rfl
/-- strconv.Atoi: the number and no error, or some number and an error. -/
theorem Atoi_c (s : ByteArray) (w : World) (g : Gl w) (hs : s.size ≤ 281474976710656) :
    Calls Tryz.prog 125 #[.string s] w fun e w' => ∃ n v, e = .returned (.tuple #[.int .i64 n, v]) ∧ I64 n ∧
      ((v = .nilIface ∧ Lib.atoiAll s.data.toList = .ok n) ∨ (∃ t p, v = .iface t p) ∧ ∀ m, Lib.atoiAll s.data.toList ≠ .ok m) ∧ Nw w w' := by
  by_cases hok : ∃ v, Lib.atoiAll s.data.toList = .ok v
  · obtain ⟨v, h⟩ := hok
    refine (Tryz.strconv_Atoi_ok s (by omega) v h w).mono ?_
    rintro e w' ⟨rfl, hw⟩
    refine ⟨v, _, rfl, ?_, Or.inl ⟨rfl, h⟩, ?_⟩
    · unfold Lib.atoiAll at h
      unfold I64
      split at h
      · cases h
      · dsimp only at h
        split at h
        · cases h
        · cases h
        · split at h
          · cases h
          · split at h
            · cases h
            · injection h with h
              split at h <;> omega
    · rcases hw with rfl | ⟨t, rfl⟩
      · exact Upd.refl _ _
      · exact nw_bytes w t
  · have hno : ∀ m, Lib.atoiAll s.data.toList ≠ .ok m := fun m hm => hok ⟨m, hm⟩
    by_cases hr : Lib.atoiAll s.data.toList = .range
    · obtain ⟨tp, p, hv⟩ := g.rng
      refine Calls.mono (show Calls Tryz.prog 125 #[.string s] w _ from Any.strconv_Atoi_range_var Tryz.laysC172 s hs hr tp p w hv) ?_
      rintro e w' ⟨N, rfl, _, _, hb⟩
      refine ⟨_, _, rfl, ?_, Or.inr ⟨⟨_, _, rfl⟩, hno⟩, Upd.of_below _ hb⟩
      unfold Lib.atoiSat I64
      split <;> omega
    · obtain ⟨tp, p, hv⟩ := g.syn
      refine Calls.mono (show Calls Tryz.prog 125 #[.string s] w _ from Any.strconv_Atoi_syntax_var Tryz.laysC172 s hs (atoi_rest hno hr) tp p w hv) ?_
      rintro e w' ⟨N, rfl, _, _, hb⟩
      exact ⟨0, _, rfl, by unfold I64; omega, Or.inr ⟨⟨_, _, rfl⟩, hno⟩, Upd.of_below _ hb⟩
theorem Atoi_l (s : ByteArray) (l : List UInt8) (hl : s.data.toList = l) (w : World) (g : Gl w) (hs : l.length ≤ 281474976710656) :
    Calls Tryz.prog 125 #[.string s] w fun e w' => ∃ n v, e = .returned (.tuple #[.int .i64 n, v]) ∧ I64 n ∧
      ((v = .nilIface ∧ Lib.atoiAll l = .ok n) ∨ (∃ t p, v = .iface t p) ∧ ∀ m, Lib.atoiAll l ≠ .ok m) ∧ Nw w w' := by
  subst hl
  exact Atoi_c s w g (by rw [bs_size]; exact hs)
theorem IndexByte_l (s : ByteArray) (c : UInt8) (l : List UInt8) (hs : s.data.toList = l) (w : World) :
    Calls Tryz.prog 123 #[.string s, .int .u8 c.toNat] w fun e w' => e = .returned (.int .i64 (Lib.indexByte l c)) ∧ w = w' := by
  have h := IndexByte_c s c.toNat w
  rwa [hs, show ((c.toNat : Int).toNat.toUInt8) = c by simp] at h
end Go.Proofs.YtjlgmoemnhmgmaaGreatDoor
namespace Go.Proofs.YtjlgmoemnhmgmaaGreatDoor
open Go.ChangeShapes Go.WideShapes Go.ChangeAt Go.RowKit Go.Joins
set_option linter.unusedVariables false
set_option linter.unusedSimpArgs false

/-- A slice whose elements have sz cells each; xs: the cells of each element. -/
def SlS (sz lo hi : Nat) (w : World) (v : Value) (xs : List (List Value)) : Prop :=
  (∃ a cap, v = .slice a 0 cap ∧ xs = []) ∨
  ∃ b off cap, v = .slice (some ⟨b, off, none⟩) xs.length cap ∧ xs.length ≤ cap ∧ cap ≤ maxLen ∧ lo ≤ b ∧ b < hi ∧ b < w.heap.size ∧
    ∀ i (h : i < xs.length), xs[i].length = sz ∧ ∀ j, j < sz → w.cell? ⟨b, off + i * sz + j, none⟩ = xs[i][j]?
theorem SlS.upd {sz lo hi : Nat} {S : Nat → Prop} {w w' : World} {v : Value} {xs : List (List Value)} (h : SlS sz lo hi w v xs) (u : Upd S w w') (hs : ∀ k, lo ≤ k → k < hi → ¬ S k) : SlS sz lo hi w' v xs := by
  rcases h with h | ⟨b, off, cap, h1, h2, h3, h4, h5, h6, h7⟩
  · exact Or.inl h
  · refine Or.inr ⟨b, off, cap, h1, h2, h3, h4, h5, Nat.lt_of_lt_of_le h6 u.size, fun i hi' => ⟨(h7 i hi').1, fun j hj => ?_⟩⟩
    rw [← (h7 i hi').2 j hj]
    exact World.cell?_of_block (u.block b h6 (Or.inr (hs b h4 h5)))
theorem SlS.nw {sz lo hi : Nat} {w w' : World} {v : Value} {xs : List (List Value)} (h : SlS sz lo hi w v xs) (u : Nw w w') : SlS sz lo hi w' v xs := h.upd u (fun _ _ _ s => s)
theorem SlS.len {sz lo hi : Nat} {w : World} {v : Value} {xs : List (List Value)} (h : SlS sz lo hi w v xs) : xs.length ≤ maxLen := by
  rcases h with ⟨_, _, _, rfl⟩ | ⟨b, off, cap, h1, h2, h3, h4, h5, h6, h7⟩
  · exact Nat.zero_le _
  · exact Nat.le_trans h2 h3
theorem SlS.open_ {sz lo hi : Nat} {w : World} {v : Value} {xs : List (List Value)} (h : SlS sz lo hi w v xs) :
    ∃ a cap, v = .slice a xs.length cap ∧ xs.length ≤ maxLen ∧ (xs = [] ∨ ∃ b off, a = some ⟨b, off, none⟩ ∧ lo ≤ b ∧ b < hi ∧ b < w.heap.size ∧
      ∀ i (h : i < xs.length), xs[i].length = sz ∧ ∀ j, j < sz → w.cell? ⟨b, off + i * sz + j, none⟩ = xs[i][j]?) := by
  have hl := h.len
  rcases h with ⟨a, cap, rfl, rfl⟩ | ⟨b, off, cap, h1, h2, h3, h4, h5, h6, h7⟩
  · exact ⟨a, cap, rfl, hl, Or.inl rfl⟩
  · exact ⟨some ⟨b, off, none⟩, cap, h1, hl, Or.inr ⟨b, off, rfl, h4, h5, h6, h7⟩⟩

theorem cells?_spec {w : World} {base : Nat} {a : Addr} {n : Nat} {cs : List Value} (h : w.cells? base a n = some cs) : cs.length = n ∧ ∀ j, j < n → w.cell? (a.add j) = cs[j]? := by
  unfold World.cells? at h
  split at h
  · refine ⟨by have := Lib.mapM_length h; simpa using this, fun j hj => ?_⟩
    obtain ⟨b, hb, hf⟩ := Lib.mapM_at h j j (by simp [hj])
    rw [hf, hb]
  · cases h

section
variable {H : Type} {enc : TypeId × Value → H} {w : World} {base : Nat} {sp : Nat → Bool} {held : Bool} {n : Nat} {x : DataW H × List MemPlace}

theorem trod_int_cell {P : Program} {t : TypeId} {k : IntKind} {cs : List Value} (ht : P.underlying t = some (.int k)) (h : DataW.trod enc P w base sp held n t cs = some x) : ∃ m : Int, cs = [.int k m] ∧ (Lit.int k m).wf = true := by
  obtain ⟨m, h1, _, h2⟩ := DataW.trod_int ht h
  exact ⟨m, h1, h2⟩
theorem trod_str_cell {P : Program} {t : TypeId} {cs : List Value} (ht : P.underlying t = some .string) (h : DataW.trod enc P w base sp held n t cs = some x) : ∃ l : List UInt8, cs = [.string ⟨l.toArray⟩] ∧ l.length ≤ maxLen := by
  obtain ⟨s, h1, _, h2⟩ := DataW.trod_string ht h
  exact ⟨s.data.toList, by rw [bs_eta]; exact h1, by rw [← bs_size]; exact h2⟩
theorem i64_of_wf {m : Int} (h : (Lit.int .i64 m).wf = true) : I64 m := by
  have := h
  simp [Lit.wf, IntKind.min, IntKind.max, IntKind.signed, IntKind.bits] at this
  unfold I64; omega
/-- A slice whose elements read somehow. -/
theorem trod_slice_cells {P : Program} {t e : TypeId} {sz : Nat} {cs : List Value} (ht : P.underlying t = some (.slice e)) (hc : P.cellsOf e = sz) (hsz : 0 < sz) (h : DataW.trod enc P w base sp held n t cs = some x) :
    ∃ v xs, cs = [v] ∧ SlS sz 0 w.heap.size w v xs ∧ ∀ c ∈ xs, ∃ m y, DataW.trod enc P w base sp held m e c = some y := by
  rcases DataW.trod_slice ht h with ⟨h0, _⟩ | ⟨a, len, cap, elems, rest, m, _, rfl, rfl, hb, hl, hm, hlen, hel, _, _⟩
  · exact ⟨_, [], h0, Or.inl ⟨none, 0, rfl, rfl⟩, fun c hc => by cases hc⟩
  · have hel' : ∀ i, i < len → ∃ c y, w.cells? base (a.add (i * sz)) sz = some c ∧ DataW.trod enc P w base sp held m e c = some y := fun i hi => by
      have := hel i hi
      rw [hc] at this
      have hy : ∃ y, elems[i]? = some y := ⟨elems[i], by rw [List.getElem?_eq_getElem (by omega)]⟩
      obtain ⟨y, hy⟩ := hy
      rw [hy] at this
      obtain ⟨c, h1, h2⟩ := Option.bind_eq_some_iff.1 this
      exact ⟨c, y, h1, h2⟩
    by_cases h0 : len = 0
    · subst h0
      exact ⟨_, [], rfl, Or.inl ⟨some a, cap, rfl, rfl⟩, fun c hc => by cases hc⟩
    · obtain ⟨C, hC⟩ : ∃ C : Nat → List Value, ∀ i, i < len → w.cells? base (a.add (i * sz)) sz = some (C i) ∧ ∃ y, DataW.trod enc P w base sp held m e (C i) = some y := by
        refine ⟨fun i => if hi : i < len then (hel' i hi).choose else [], fun i hi => ?_⟩
        simp only [dif_pos hi]
        obtain ⟨y, h1, h2⟩ := (hel' i hi).choose_spec
        exact ⟨h1, y, h2⟩
      obtain ⟨hz, hcell⟩ := cells?_spec (hC 0 (by omega)).1
      have hc0 : ∃ u, w.cell? ((a.add (0 * sz)).add 0) = some u := by
        have := hcell 0 hsz
        rw [List.getElem?_eq_getElem (by omega)] at this
        exact ⟨_, this⟩
      obtain ⟨u, hu⟩ := hc0
      have hz0 : (a.add (0 * sz)).add 0 = a := by simp [Addr.add]
      rw [hz0] at hu
      obtain ⟨b, off, spot⟩ := a
      have hspot : spot = none := World.cell?_spot hu
      subst hspot
      have hbl := World.block_lt_of_cell? w _ hu
      refine ⟨_, (List.range len).map C, rfl, Or.inr ⟨b, off, cap, by simp, by simpa using hl, hm, Nat.zero_le _, hbl, hbl, fun i hi => ?_⟩, fun c hc => ?_⟩
      · have hi' : i < len := by simpa using hi
        obtain ⟨h1, h2⟩ := cells?_spec (hC i hi').1
        simp only [List.getElem_map, List.getElem_range]
        refine ⟨h1, fun j hj => ?_⟩
        rw [← h2 j hj, add_plain, add_plain]
      · obtain ⟨i, hi, rfl⟩ := List.mem_map.1 hc
        obtain ⟨y, hy⟩ := (hC i (List.mem_range.1 hi)).2
        exact ⟨m, y, hy⟩
/-- .. where an element has one cell, and reads as the value f of something. -/
theorem sl_of_sls {α : Type} {lo hi : Nat} {v : Value} {xs : List (List Value)} (h : SlS 1 lo hi w v xs) (f : α → Value) (Q : α → Prop) (hx : ∀ c ∈ xs, ∃ y, c = [f y] ∧ Q y) : ∃ l : List α, Sl lo hi w v (l.map f) ∧ ∀ y ∈ l, Q y := by
  obtain ⟨l, hl, hq⟩ : ∃ l : List α, xs = l.map (fun y => [f y]) ∧ ∀ y ∈ l, Q y := by
    clear h
    induction xs with
    | nil => exact ⟨[], rfl, fun y hy => by cases hy⟩
    | cons c xs ih =>
      obtain ⟨l, h1, h2⟩ := ih (fun c hc => hx c (List.mem_cons_of_mem _ hc))
      obtain ⟨y, h3, h4⟩ := hx c (List.mem_cons_self ..)
      exact ⟨y :: l, by rw [h1, h3]; rfl, fun z hz => by rcases List.mem_cons.1 hz with rfl | hz; exact h4; exact h2 z hz⟩
  refine ⟨l, ?_, hq⟩
  subst hl
  rcases h with ⟨a, cap, h1, h2⟩ | ⟨b, off, cap, h1, h2, h3, h4, h5, h6, h7⟩
  · exact Or.inl ⟨a, cap, h1, by rw [List.map_eq_nil_iff] at h2; rw [h2]; rfl⟩
  · refine Or.inr ⟨b, off, cap, by simpa using h1, by simpa using h2, h3, h4, h5, h6, fun i hi => ?_⟩
    have hi' : i < l.length := by simpa using hi
    have := (h7 i (by simpa using hi')).2 0 (by omega)
    simp only [Nat.mul_one, Nat.add_zero, List.getElem_map, List.getElem?_cons_zero] at this
    rw [this]
    simp [hi']
theorem trod_ints_cell {P : Program} {t e : TypeId} {k : IntKind} {cs : List Value} (ht : P.underlying t = some (.slice e)) (he : P.underlying e = some (.int k)) (hc : P.cellsOf e = 1) (h : DataW.trod enc P w base sp held n t cs = some x) :
    ∃ (v : Value) (l : List Int), cs = [v] ∧ Sl 0 w.heap.size w v (l.map (Value.int k)) ∧ ∀ m ∈ l, (Lit.int k m).wf = true := by
  obtain ⟨v, xs, h1, h2, h3⟩ := trod_slice_cells ht hc (by omega) h
  obtain ⟨l, h4, h5⟩ := sl_of_sls h2 (Value.int k) (fun m => (Lit.int k m).wf = true) (fun c hc => by
    obtain ⟨m, y, hy⟩ := h3 c hc
    exact trod_int_cell he hy)
  exact ⟨v, l, h1, h4, h5⟩
end
end Go.Proofs.YtjlgmoemnhmgmaaGreatDoor
namespace Go.Proofs.YtjlgmoemnhmgmaaGreatDoor
open Go.RowKit
set_option linter.unusedVariables false
set_option linter.unusedSimpArgs false

theorem flat_at {α : Type} {sz : Nat} : ∀ (xs : List (List α)) (i j : Nat), (∀ x ∈ xs, x.length = sz) → j < sz → ∀ h : i < xs.length, xs.flatten[i * sz + j]? = xs[i][j]? := by
  intro xs
  induction xs with
  | nil => intro i j _ _ h; simp at h
  | cons x xs ih =>
    intro i j hx hj h
    have h0 := hx x (List.mem_cons_self ..)
    rw [List.flatten_cons]
    cases i with
    | zero => rw [List.getElem?_append_left (by omega)]; simp
    | succ i =>
      rw [List.getElem?_append_right (by rw [h0, Nat.succ_mul]; omega), h0, show (i + 1) * sz + j - sz = i * sz + j by rw [Nat.succ_mul]; omega]
      rw [ih i j (fun y hy => hx y (List.mem_cons_of_mem _ hy)) hj (by simpa using h)]
      simp
theorem SlS.of_owns {base sz : Nat} {e : TypeId} {w : World} {v : Value} {n : Nat} {xs : List (List Value)} (h : w.ownsRow base e sz v n xs.flatten) (hn : n = xs.length) (hz : 0 < sz) (hx : ∀ x ∈ xs, x.length = sz) : SlS sz base w.heap.size w v xs := by
  obtain ⟨h1, h2⟩ := h
  rcases h2 with ⟨rfl, rfl⟩ | ⟨g, cap, cur, rfl, hb, hg, hc, hm, hs, ht⟩
  · exact Or.inl ⟨_, _, rfl, List.length_eq_zero_iff.1 hn.symm⟩
  · subst hn
    refine Or.inr ⟨g, 0, cap, rfl, hc, hm, hb, lt_of_block hg, lt_of_block hg, fun i hi => ⟨hx _ (List.getElem_mem hi), fun j hj => ?_⟩⟩
    rw [cells_cell hg, Nat.zero_add, ← flat_at xs i j hx hj hi, ← ht, List.getElem?_take, if_pos]
    · simp
    · have : (i + 1) * sz ≤ xs.length * sz := Nat.mul_le_mul_right _ hi
      rw [Nat.succ_mul] at this; omega
theorem owns_base {base base' sz : Nat} {e : TypeId} {w : World} {v : Value} {n : Nat} {xs : List Value} (h : w.ownsRow base e sz v n xs) (hb : base' ≤ base) : w.ownsRow base' e sz v n xs := by
  obtain ⟨h1, h2⟩ := h
  refine ⟨h1, ?_⟩
  rcases h2 with h2 | ⟨g, cap, cur, hv, hb2, r⟩
  · exact Or.inl h2
  · exact Or.inr ⟨g, cap, cur, hv, Nat.le_trans hb hb2, r⟩
end Go.Proofs.YtjlgmoemnhmgmaaGreatDoor
namespace Go.Proofs.YtjlgmoemnhmgmaaGreatDoor
open Go.RowKit
set_option linter.unusedVariables false
set_option linter.unusedSimpArgs false

/-- 'out = append(out, x)' as wpList_app, with the word on the result's block. -/
theorem wpList_appL {P : Program} {w : World} {ops : Array Oper} {rest : List Oper} {o : Oper} {a : Act} {Q : Exit → Act → World → Prop} (hgd : o.guard = none) (s x : Operand) (t : TypeId)
    (ho : o.op = .call { callee := .builtin .append, args := #[s, x], argTypes := #[t, t] })
    (base : Nat) (e : TypeId) (z : Value) (size bytes : Nat) (ht : P.underlying t = some (.slice e)) (hinfo : (P.info? e).map (fun i => (i.zero, i.size, i.bytes)) = some (some z, size, bytes)) (hzs : z.cells.size = size) (hsz : 0 < size)
    (v : Value) (n : Nat) (xs : List Value) (hs : a.eval s = v) (hown : w.ownsRow base e size v n xs)
    (news : List Value) (hx : a.eval x = .slice (some ⟨w.heap.size, 0, none⟩) 1 1) (hl : news.length = size) (h1 : ∀ u ∈ news, u.oneCell' = true)
    (h63 : n + 1 ≤ maxLen) (hbytes : (n + 1) * bytes ≤ 140737488355328) (hbase : base ≤ w.heap.size) (hnG : nG ≤ base)
    (h : ∀ v' w', w'.ownsRow base e size v' (n + 1) (xs ++ news) → Upd (fun k => v.ownBlock = some k) w w' → (∀ k, v'.ownBlock = some k → v.ownBlock = some k ∨ w.heap.size ≤ k) → wpList P ops Q rest (a.put o.dst v') w') : wpList P ops Q (o :: rest) a (w.alloc (.cells news.toArray e)) := by
  obtain ⟨i0, hi, hz0, hz1, hz2⟩ := info_parts hinfo
  refine wpList_append_lies _ hgd s x t ho base e i0 z size bytes ht hi hz0 hz1 hz2 hzs hsz v n xs hs (hown.alloc _) ⟨w.heap.size, 0, none⟩ 1 1 news hx (by omega) ?_ h1 (by omega) h63 hbytes (by simp; omega) (w.heap.size + 1) (by simp) fun g cap w' h2 h3 h4 h5 => ?_
  · intro j u hu
    have hb := heap_new w (.cells news.toArray e)
    rw [add_plain, cells_cell hb, Nat.zero_add]
    simpa using hu
  · refine h _ w' h2 (((nw_alloc w _).upd _).grown h3 fun k hk => ⟨Or.inl hk, ?_⟩) fun k hk => ?_
    · have := (hown.lt k hk).1
      omega
    · obtain rfl : g = k := by simpa [Value.ownBlock] using hk
      rcases h4 with h4 | h4
      · exact Or.inl h4
      · exact Or.inr (by omega)
end Go.Proofs.YtjlgmoemnhmgmaaGreatDoor
namespace Go.Proofs.YtjlgmoemnhmgmaaGreatDoor
open Go.ChangeShapes Go.WideShapes Go.ChangeAt Go.RowKit Go.Joins
set_option linter.unusedVariables false
set_option linter.unusedSimpArgs false

open Fm (Ty Vl Str)
abbrev tTy : TypeId := 50
abbrev tFd : TypeId := 115
abbrev tVl : TypeId := 58
def sF (s : Str) : Value := .string ⟨s.toArray⟩
/-- A slice of fields reads as those of a type. -/
inductive TyAt (w : World) : Value → Ty → Prop
  | mk {fv : Value} {k : Int} (lo hi : Nat) (C : List (Str × Value × Ty)) (hs : SlS 3 lo hi w fv (C.map fun c => [sF c.1, .int .i64 c.2.2.kind, c.2.1])) (hk : I64 k) (hl : ∀ c ∈ C, c.1.length ≤ maxLen) (hc : ∀ c ∈ C, TyAt w c.2.1 c.2.2) : TyAt w fv (.mk k (C.map fun c => (c.1, c.2.2)))
theorem TyAt.nw {w w' : World} {fv : Value} {t : Ty} (h : TyAt w fv t) (u : Nw w w') : TyAt w' fv t := by
  induction h with
  | mk lo hi C hs hk hl hc ih => exact .mk lo hi C (hs.nw u) hk hl ih
theorem TyAt.kind {w : World} {fv : Value} {t : Ty} (h : TyAt w fv t) : I64 t.kind := by cases h with | mk lo hi C hs hk hl hc => exact hk
theorem TyAt.open_ {w : World} {fv : Value} {t : Ty} (h : TyAt w fv t) : ∃ (lo hi : Nat) (C : List (Str × Value × Ty)), t.fs = (C.map fun c => (c.1, c.2.2)) ∧ SlS 3 lo hi w fv (C.map fun c => [sF c.1, .int .i64 c.2.2.kind, c.2.1]) ∧ (∀ c ∈ C, c.1.length ≤ maxLen) ∧ ∀ c ∈ C, TyAt w c.2.1 c.2.2 := by
  cases h with | mk lo hi C hs hk hl hc => exact ⟨lo, hi, C, rfl, hs, hl, hc⟩
theorem TyAt.cells {w : World} {fv : Value} {t : Ty} (h : TyAt w fv t) :
    ∃ a cap, fv = .slice a t.fs.length cap ∧ t.fs.length ≤ maxLen ∧ (t.fs = [] ∨ ∃ b off, a = some ⟨b, off, none⟩ ∧ b < w.heap.size ∧ ∀ i (h : i < t.fs.length), ∃ sv, w.cell? ⟨b, off + i * 3, none⟩ = some (.string ⟨(t.fs[i]).1.toArray⟩) ∧ w.cell? ⟨b, off + i * 3 + 1, none⟩ = some (.int .i64 (t.fs[i]).2.kind) ∧ w.cell? ⟨b, off + i * 3 + 2, none⟩ = some sv ∧ TyAt w sv (t.fs[i]).2 ∧ (t.fs[i]).1.length ≤ maxLen) := by
  obtain ⟨lo, hi, C, e, hs, hl, hc⟩ := h.open_
  rw [e]
  obtain ⟨a, cap, rfl, hm, h⟩ := hs.open_
  rw [List.length_map] at hm
  refine ⟨a, cap, by rw [List.length_map, List.length_map], by rw [List.length_map]; exact hm, ?_⟩
  rcases h with h | ⟨b, off, rfl, _, hb1, hb, hcl⟩
  · exact Or.inl (by rw [List.map_eq_nil_iff.1 h]; rfl)
  · refine Or.inr ⟨b, off, rfl, hb, fun i hi => ?_⟩
    rw [List.length_map] at hi
    have h2 := (hcl i (by simpa using hi)).2
    simp only [List.getElem_map] at h2 ⊢
    have hm := List.getElem_mem hi
    refine ⟨C[i].2.1, ?_, ?_, ?_, hc _ hm, hl _ hm⟩
    · exact h2 0 (by omega)
    · exact h2 1 (by omega)
    · exact h2 2 (by omega)
/-! ### Values -/
def SlP (P : Nat → Prop) (w : World) (v : Value) (xs : List Value) : Prop := (∃ a cap, v = .slice a 0 cap ∧ xs = []) ∨ ∃ b, P b ∧ Sl b (b + 1) w v xs
def SlSP (P : Nat → Prop) (sz : Nat) (w : World) (v : Value) (xs : List (List Value)) : Prop := (∃ a cap, v = .slice a 0 cap ∧ xs = []) ∨ ∃ b, P b ∧ SlS sz b (b + 1) w v xs
section
variable {P Q S : Nat → Prop} {w w' : World} {v : Value}
theorem SlP.upd {xs : List Value} (h : SlP P w v xs) (u : Upd S w w') (hs : ∀ k, P k → ¬ S k) : SlP P w' v xs :=
  h.imp id (fun ⟨b, hb, hl⟩ => ⟨b, hb, hl.upd u (fun k h1 h2 => (show k = b by omega) ▸ hs _ hb)⟩)
theorem SlSP.upd {sz : Nat} {xs : List (List Value)} (h : SlSP P sz w v xs) (u : Upd S w w') (hs : ∀ k, P k → ¬ S k) : SlSP P sz w' v xs :=
  h.imp id (fun ⟨b, hb, hl⟩ => ⟨b, hb, hl.upd u (fun k h1 h2 => (show k = b by omega) ▸ hs _ hb)⟩)
theorem SlP.mono {xs : List Value} (h : SlP P w v xs) (hs : ∀ k, k < w.heap.size → P k → Q k) : SlP Q w v xs := by
  rcases h with h | ⟨b, hb, hl⟩
  · exact Or.inl h
  · rcases hl with h | ⟨b', off, cap, h1, h2, h3, h4, h5, h6, h7⟩
    · exact Or.inl h
    · obtain rfl : b' = b := by omega
      exact Or.inr ⟨b', hs _ h6 hb, Or.inr ⟨b', off, cap, h1, h2, h3, h4, h5, h6, h7⟩⟩
theorem SlSP.mono {sz : Nat} {xs : List (List Value)} (h : SlSP P sz w v xs) (hs : ∀ k, k < w.heap.size → P k → Q k) : SlSP Q sz w v xs := by
  rcases h with h | ⟨b, hb, hl⟩
  · exact Or.inl h
  · rcases hl with h | ⟨b', off, cap, h1, h2, h3, h4, h5, h6, h7⟩
    · exact Or.inl h
    · obtain rfl : b' = b := by omega
      exact Or.inr ⟨b', hs _ h6 hb, Or.inr ⟨b', off, cap, h1, h2, h3, h4, h5, h6, h7⟩⟩
theorem SlP.of_sl {lo hi : Nat} {xs : List Value} (h : Sl lo hi w v xs) (hs : ∀ k, lo ≤ k → k < hi → k < w.heap.size → P k) : SlP P w v xs := by
  rcases h with h | ⟨b, off, cap, h1, h2, h3, h4, h5, h6, h7⟩
  · exact Or.inl h
  · exact Or.inr ⟨b, hs b h4 h5 h6, Or.inr ⟨b, off, cap, h1, h2, h3, Nat.le_refl _, Nat.lt_succ_self _, h6, h7⟩⟩
theorem SlSP.of_sls {sz lo hi : Nat} {xs : List (List Value)} (h : SlS sz lo hi w v xs) (hs : ∀ k, lo ≤ k → k < hi → k < w.heap.size → P k) : SlSP P sz w v xs := by
  rcases h with h | ⟨b, off, cap, h1, h2, h3, h4, h5, h6, h7⟩
  · exact Or.inl h
  · exact Or.inr ⟨b, hs b h4 h5 h6, Or.inr ⟨b, off, cap, h1, h2, h3, Nat.le_refl _, Nat.lt_succ_self _, h6, h7⟩⟩
theorem SlP.sl {xs : List Value} (h : SlP P w v xs) : ∃ lo hi, Sl lo hi w v xs := by
  rcases h with h | ⟨b, _, h⟩
  · exact ⟨0, 0, Or.inl h⟩
  · exact ⟨_, _, h⟩
theorem SlSP.sls {sz : Nat} {xs : List (List Value)} (h : SlSP P sz w v xs) : ∃ lo hi, SlS sz lo hi w v xs := by
  rcases h with h | ⟨b, _, h⟩
  · exact ⟨0, 0, Or.inl h⟩
  · exact ⟨_, _, h⟩
end
structure VC where
  nv : Value
  vv : Value
  v : Vl
def vcL (c : VC) : List Value := [.int .i64 c.v.kind, .int .i64 c.v.n, c.nv, c.vv]
/-- The slices of names and values read as those of a value; all of it lies in blocks that P holds of. -/
inductive VlAt (P : Nat → Prop) (w : World) : Value → Value → Vl → Prop
  | mk {nv vv : Value} {k n : Int} (N : List Str) (C : List VC) (hn : SlP P w nv (N.map sF)) (hs : SlSP P 4 w vv (C.map vcL)) (hk : I64 k) (hi : I64 n) (hl : ∀ s ∈ N, s.length ≤ maxLen) (hc : ∀ c ∈ C, VlAt P w c.nv c.vv c.v) : VlAt P w nv vv (.mk k n N (C.map VC.v))
section
variable {P Q S : Nat → Prop} {w w' : World} {nv vv : Value} {v : Vl}
theorem VlAt.upd (h : VlAt P w nv vv v) (u : Upd S w w') (hs : ∀ k, P k → ¬ S k) : VlAt P w' nv vv v := by
  induction h with
  | mk N C hn h2 hk hi hl hc ih => exact .mk N C (hn.upd u hs) (h2.upd u hs) hk hi hl ih
theorem VlAt.nw (h : VlAt P w nv vv v) (u : Nw w w') : VlAt P w' nv vv v := h.upd u (fun _ _ s => s)
theorem VlAt.mono (h : VlAt P w nv vv v) (hs : ∀ k, k < w.heap.size → P k → Q k) : VlAt Q w nv vv v := by
  induction h with
  | mk N C hn h2 hk hi hl hc ih => exact .mk N C (hn.mono hs) (h2.mono hs) hk hi hl ih
theorem VlAt.kind (h : VlAt P w nv vv v) : I64 v.kind := by cases h with | mk N C hn h2 hk hi hl hc => exact hk
theorem VlAt.num (h : VlAt P w nv vv v) : I64 v.n := by cases h with | mk N C hn h2 hk hi hl hc => exact hi
theorem VlAt.okI (h : VlAt P w nv vv v) : ∀ d, Fm.okI d v := by
  induction h with
  | mk N C hn h2 hk hi hl hc ih =>
    intro d
    cases d with
    | zero => trivial
    | succ d => exact ⟨hi, fun x hx => by
        obtain ⟨c, hc, rfl⟩ := List.mem_map.1 hx
        exact ih c hc d⟩
theorem VlAt.open_ (h : VlAt P w nv vv v) : ∃ C : List VC, v.vals = C.map VC.v ∧ SlP P w nv (v.names.map sF) ∧ SlSP P 4 w vv (C.map vcL) ∧ (∀ s ∈ v.names, s.length ≤ maxLen) ∧ ∀ c ∈ C, VlAt P w c.nv c.vv c.v := by
  cases h with | mk N C hn h2 hk hi hl hc => exact ⟨C, rfl, hn, h2, hl, hc⟩
theorem VlAt.names (h : VlAt P w nv vv v) : ∃ a cap, nv = .slice a v.names.length cap ∧ v.names.length ≤ maxLen ∧ (v.names = [] ∨ ∃ b off, a = some ⟨b, off, none⟩ ∧ b < w.heap.size ∧ ∀ i (h : i < v.names.length), w.cell? ⟨b, off + i, none⟩ = some (.string ⟨(v.names[i]).toArray⟩) ∧ (v.names[i]).length ≤ maxLen) := by
  obtain ⟨C, e, hn, h2, hl, hc⟩ := h.open_
  obtain ⟨lo, hi', hs⟩ := hn.sl
  obtain ⟨a, cap, rfl, hm, h⟩ := hs.open_
  rw [List.length_map] at hm
  refine ⟨a, cap, by rw [List.length_map], hm, ?_⟩
  rcases h with ⟨_, _, h⟩ | ⟨b, off, rfl, _, hb1, hb, hcl⟩
  · exact Or.inl (List.map_eq_nil_iff.1 h)
  · refine Or.inr ⟨b, off, rfl, hb, fun i hi => ⟨?_, hl _ (List.getElem_mem hi)⟩⟩
    rw [hcl i (by simpa using hi), List.getElem?_map, List.getElem?_eq_getElem hi]
    rfl
theorem VlAt.vals (h : VlAt P w nv vv v) : ∃ a cap, vv = .slice a v.vals.length cap ∧ v.vals.length ≤ maxLen ∧ (v.vals = [] ∨ ∃ b off, a = some ⟨b, off, none⟩ ∧ b < w.heap.size ∧ ∀ i (h : i < v.vals.length), ∃ nv' vv', w.cell? ⟨b, off + i * 4, none⟩ = some (.int .i64 (v.vals[i]).kind) ∧ w.cell? ⟨b, off + i * 4 + 1, none⟩ = some (.int .i64 (v.vals[i]).n) ∧ w.cell? ⟨b, off + i * 4 + 2, none⟩ = some nv' ∧ w.cell? ⟨b, off + i * 4 + 3, none⟩ = some vv' ∧ VlAt P w nv' vv' (v.vals[i])) := by
  obtain ⟨C, e, hn, h2, hl, hc⟩ := h.open_
  rw [e]
  obtain ⟨lo, hi', hs⟩ := h2.sls
  obtain ⟨a, cap, rfl, hm, h⟩ := hs.open_
  rw [List.length_map] at hm
  refine ⟨a, cap, by rw [List.length_map, List.length_map], by rw [List.length_map]; exact hm, ?_⟩
  rcases h with h | ⟨b, off, rfl, _, hb1, hb, hcl⟩
  · exact Or.inl (by rw [List.map_eq_nil_iff.1 h]; rfl)
  · refine Or.inr ⟨b, off, rfl, hb, fun i hi => ?_⟩
    rw [List.length_map] at hi
    have h2 := (hcl i (by simpa using hi)).2
    simp only [List.getElem_map] at h2 ⊢
    have hm := List.getElem_mem hi
    refine ⟨C[i].nv, C[i].vv, ?_, ?_, ?_, ?_, hc _ hm⟩
    · exact h2 0 (by omega)
    · exact h2 1 (by omega)
    · exact h2 2 (by omega)
    · exact h2 3 (by omega)
theorem VlAt.nil (P : Nat → Prop) (w : World) {k n : Int} (hk : I64 k) (hn : I64 n) : VlAt P w (.slice none 0 0) (.slice none 0 0) (.mk k n [] []) :=
  .mk [] [] (Or.inl ⟨_, _, rfl, rfl⟩) (Or.inl ⟨_, _, rfl, rfl⟩) hk hn (fun s hs => by cases hs) (fun s hs => by cases hs)
end
/-! ### Among the arguments -/
section
variable {H : Type} {enc : TypeId × Value → H} {w : World} {base : Nat} {sp : Nat → Bool} {held : Bool} {n : Nat} {x : DataW H × List MemPlace}
theorem trod_slice_fuel {P : Program} {t e : TypeId} {sz : Nat} {cs : List Value} (ht : P.underlying t = some (.slice e)) (hc : P.cellsOf e = sz) (hsz : 0 < sz) (h : DataW.trod enc P w base sp held n t cs = some x) :
    ∃ v xs, cs = [v] ∧ SlS sz 0 w.heap.size w v xs ∧ ∀ c ∈ xs, ∃ m y, m < n ∧ DataW.trod enc P w base sp held m e c = some y := by
  rcases DataW.trod_slice ht h with ⟨h0, _⟩ | ⟨a, len, cap, elems, rest, m, hfuel, rfl, rfl, hb, hl, hm, hlen, hel, _, _⟩
  · exact ⟨_, [], h0, Or.inl ⟨none, 0, rfl, rfl⟩, fun c hc => by cases hc⟩
  · have hel' : ∀ i, i < len → ∃ c y, w.cells? base (a.add (i * sz)) sz = some c ∧ DataW.trod enc P w base sp held m e c = some y := fun i hi => by
      have := hel i hi
      rw [hc] at this
      have hy : ∃ y, elems[i]? = some y := ⟨elems[i], by rw [List.getElem?_eq_getElem (by omega)]⟩
      obtain ⟨y, hy⟩ := hy
      rw [hy] at this
      obtain ⟨c, h1, h2⟩ := Option.bind_eq_some_iff.1 this
      exact ⟨c, y, h1, h2⟩
    by_cases h0 : len = 0
    · subst h0
      exact ⟨_, [], rfl, Or.inl ⟨some a, cap, rfl, rfl⟩, fun c hc => by cases hc⟩
    · obtain ⟨C, hC⟩ : ∃ C : Nat → List Value, ∀ i, i < len → w.cells? base (a.add (i * sz)) sz = some (C i) ∧ ∃ y, DataW.trod enc P w base sp held m e (C i) = some y := by
        refine ⟨fun i => if hi : i < len then (hel' i hi).choose else [], fun i hi => ?_⟩
        simp only [dif_pos hi]
        obtain ⟨y, h1, h2⟩ := (hel' i hi).choose_spec
        exact ⟨h1, y, h2⟩
      obtain ⟨hz, hcell⟩ := cells?_spec (hC 0 (by omega)).1
      have hc0 : ∃ u, w.cell? ((a.add (0 * sz)).add 0) = some u := by
        have := hcell 0 hsz
        rw [List.getElem?_eq_getElem (by omega)] at this
        exact ⟨_, this⟩
      obtain ⟨u, hu⟩ := hc0
      have hz0 : (a.add (0 * sz)).add 0 = a := by simp [Addr.add]
      rw [hz0] at hu
      obtain ⟨b, off, spot⟩ := a
      have hspot : spot = none := World.cell?_spot hu
      subst hspot
      have hbl := World.block_lt_of_cell? w _ hu
      refine ⟨_, (List.range len).map C, rfl, Or.inr ⟨b, off, cap, by simp, by simpa using hl, hm, Nat.zero_le _, hbl, hbl, fun i hi => ?_⟩, fun c hc => ?_⟩
      · have hi' : i < len := by simpa using hi
        obtain ⟨h1, h2⟩ := cells?_spec (hC i hi').1
        simp only [List.getElem_map, List.getElem_range]
        refine ⟨h1, fun j hj => ?_⟩
        rw [← h2 j hj, add_plain, add_plain]
      · obtain ⟨i, hi, rfl⟩ := List.mem_map.1 hc
        obtain ⟨y, hy⟩ := (hC i (List.mem_range.1 hi)).2
        exact ⟨m, y, by omega, hy⟩
theorem list_of_relT {α : Type} {f : α → List Value} {Q : α → Prop} : ∀ (xs : List (List Value)), (∀ c ∈ xs, ∃ y, c = f y ∧ Q y) → ∃ l : List α, xs = l.map f ∧ ∀ y ∈ l, Q y := by
  intro xs
  induction xs with
  | nil => exact fun _ => ⟨[], rfl, fun y hy => by cases hy⟩
  | cons c xs ih =>
    intro h
    obtain ⟨l, h1, h2⟩ := ih (fun c hc => h c (List.mem_cons_of_mem _ hc))
    obtain ⟨y, h3, h4⟩ := h c (List.mem_cons_self ..)
    exact ⟨y :: l, by rw [h1, h3]; rfl, fun z hz => by rcases List.mem_cons.1 hz with rfl | hz; exact h4; exact h2 z hz⟩
set_option maxRecDepth 100000 in
theorem trod_ty : ∀ (n : Nat) {cs : List Value} {x : DataW H × List MemPlace}, DataW.trod enc Tryz.prog w base sp held n tTy cs = some x → ∃ (fv : Value) (t : Ty), cs = [.int .i64 t.kind, fv] ∧ TyAt w fv t := by
  intro n
  induction n using Nat.strongRecOn with
  | ind n ih =>
    intro cs x h
    obtain ⟨xs, m, hm, rfl, hl, hlen, hf⟩ := DataW.trod_struct Tryz.underlying50 h
    have hc : Tryz.prog.cellsOf 50 = 2 := by kernel_rfl
    rw [hc] at hl
    match cs, hl with
    | [c0, c1], _ =>
      match xs, hlen with
      | [y0, y1], _ =>
        have k0 : DataW.trod enc Tryz.prog w base sp held m 3 [c0] = some y0 := hf 0 _ rfl
        have k1 : DataW.trod enc Tryz.prog w base sp held m 48 [c1] = some y1 := hf 1 _ rfl
        obtain ⟨z0, e0, w0⟩ := trod_int_cell Tryz.underlying3 k0
        obtain ⟨v, ys, e1, h2, h3⟩ := trod_slice_fuel Tryz.underlying48 (sz := 3) (by kernel_rfl) (by omega) k1
        simp only [List.cons.injEq, and_true] at e0 e1
        subst e0 e1
        obtain ⟨C, rfl, h5⟩ := list_of_relT (f := fun c : Str × Value × Ty => [sF c.1, .int .i64 c.2.2.kind, c.2.1]) (Q := fun c : Str × Value × Ty => c.1.length ≤ maxLen ∧ TyAt w c.2.1 c.2.2) ys (fun c hc => by
          obtain ⟨m2, y, hm2, hy⟩ := h3 c hc
          obtain ⟨xs2, m3, hm3, rfl, hl2, hlen2, hf2⟩ := DataW.trod_struct Tryz.underlying115 hy
          have hc2 : Tryz.prog.cellsOf 115 = 3 := by kernel_rfl
          rw [hc2] at hl2
          match c, hl2 with
          | [d0, d1, d2], _ =>
            match xs2, hlen2 with
            | [q0, q1], _ =>
              have r0 : DataW.trod enc Tryz.prog w base sp held m3 9 [d0] = some q0 := hf2 0 _ rfl
              have r1 : DataW.trod enc Tryz.prog w base sp held m3 50 [d1, d2] = some q1 := hf2 1 _ rfl
              obtain ⟨s, es, ls⟩ := trod_str_cell Tryz.underlying9 r0
              obtain ⟨fv, t, et, ht⟩ := ih m3 (by omega) r1
              simp only [List.cons.injEq, and_true] at es et
              obtain ⟨et1, et2⟩ := et
              subst es et1 et2
              exact ⟨(s, _, t), rfl, ls, ht⟩)
        exact ⟨_, .mk z0 (C.map fun c => (c.1, c.2.2)), rfl, .mk _ _ C h2 (i64_of_wf w0) (fun c hc => (h5 c hc).1) (fun c hc => (h5 c hc).2)⟩
end
end Go.Proofs.YtjlgmoemnhmgmaaGreatDoor
namespace Go.Proofs.YtjlgmoemnhmgmaaGreatDoor
open Go.RowKit
set_option linter.unusedVariables false
set_option linter.unusedSimpArgs false
attribute [local irreducible] Calls
open Fm (Ty Vl Str nameB wordB letterB digitB)

/-- The library's variables as laid, and one of its numbers, whatever it is. -/
structure Gm (w : World) : Prop where
  g : Gl w
  m : ∃ m : Int, w.cell? ⟨0, 0, none⟩ = some (.int .i64 m)
theorem Gm.upd {w w' : World} (h : Gm w) (u : Nw w w') : Gm w' := by
  obtain ⟨m, hm⟩ := h.m
  exact ⟨h.g.upd u, m, later_cell ⟨w', u⟩ hm⟩
theorem letter_c (c : UInt8) (w : World) : Calls Tryz.prog 101 #[.int .u8 c.toNat] w fun e w' => e = .returned (.bool (letterB c)) ∧ w = w' := by
  have h1 : (c.toNat : Int) ≤ 255 := by have := c.toNat_lt; omega
  have h2 : (0 : Int) ≤ c.toNat := by omega
  have hr : Hid (letterB c = (decide (97 ≤ c.toNat) && decide (c.toNat ≤ 122))) := rfl
  by_cases ha : 97 ≤ c.toNat
  · have d1 : decide ((97 : Int) ≤ (c.toNat : Int)) = true := decide_eq_true (by omega)
    by_cases hb : c.toNat ≤ 122
    · have d2 : decide ((c.toNat : Int) ≤ 122) = true := decide_eq_true (by omega)
      have e : Hid (letterB c = true) := by show _ = _; rw [hr.out, decide_eq_true ha, decide_eq_true hb]; rfl
      clear ha hb hr
      go_enter Tryz.func101, Tryz.ntmps101
      go_wp2_with fail
      go_ret
      exact ⟨by rw [e.out]; rfl, rfl⟩
    · have d2 : decide ((c.toNat : Int) ≤ 122) = false := decide_eq_false (by omega)
      have e : Hid (letterB c = false) := by show _ = _; rw [hr.out, decide_eq_true ha, decide_eq_false hb]; rfl
      clear ha hb hr
      go_enter Tryz.func101, Tryz.ntmps101
      go_wp2_with fail
      go_ret
      exact ⟨by rw [e.out]; rfl, rfl⟩
  · have d1 : decide ((97 : Int) ≤ (c.toNat : Int)) = false := decide_eq_false (by omega)
    have e : Hid (letterB c = false) := by show _ = _; rw [hr.out, decide_eq_false ha]; rfl
    clear ha hr
    go_enter Tryz.func101, Tryz.ntmps101
    go_wp2_with fail
    go_ret
    exact ⟨by rw [e.out]; rfl, rfl⟩
theorem digit_c (c : UInt8) (w : World) : Calls Tryz.prog 104 #[.int .u8 c.toNat] w fun e w' => e = .returned (.bool (digitB c)) ∧ w = w' := by
  have h1 : (c.toNat : Int) ≤ 255 := by have := c.toNat_lt; omega
  have h2 : (0 : Int) ≤ c.toNat := by omega
  have hr : Hid (digitB c = (decide (48 ≤ c.toNat) && decide (c.toNat ≤ 57))) := rfl
  by_cases ha : 48 ≤ c.toNat
  · have d1 : decide ((48 : Int) ≤ (c.toNat : Int)) = true := decide_eq_true (by omega)
    by_cases hb : c.toNat ≤ 57
    · have d2 : decide ((c.toNat : Int) ≤ 57) = true := decide_eq_true (by omega)
      have e : Hid (digitB c = true) := by show _ = _; rw [hr.out, decide_eq_true ha, decide_eq_true hb]; rfl
      clear ha hb hr
      go_enter Tryz.func104, Tryz.ntmps104
      go_wp2_with fail
      go_ret
      exact ⟨by rw [e.out]; rfl, rfl⟩
    · have d2 : decide ((c.toNat : Int) ≤ 57) = false := decide_eq_false (by omega)
      have e : Hid (digitB c = false) := by show _ = _; rw [hr.out, decide_eq_true ha, decide_eq_false hb]; rfl
      clear ha hb hr
      go_enter Tryz.func104, Tryz.ntmps104
      go_wp2_with fail
      go_ret
      exact ⟨by rw [e.out]; rfl, rfl⟩
  · have d1 : decide ((48 : Int) ≤ (c.toNat : Int)) = false := decide_eq_false (by omega)
    have e : Hid (digitB c = false) := by show _ = _; rw [hr.out, decide_eq_false ha]; rfl
    clear ha hr
    go_enter Tryz.func104, Tryz.ntmps104
    go_wp2_with fail
    go_ret
    exact ⟨by rw [e.out]; rfl, rfl⟩
theorem wordf_c (c : UInt8) (w : World) : Calls Tryz.prog 103 #[.int .u8 c.toNat] w fun e w' => e = .returned (.bool (letterB c || digitB c)) ∧ w = w' := by
  have hl := Lib.hid (letter_c c w)
  have hd := Lib.hid (digit_c c w)
  cases h1 : letterB c with
  | true =>
    rw [h1] at hl
    clear h1
    go_enter Tryz.func103, Tryz.ntmps103
    go_wp2_with fail
    (with_reducible refine (hl.out).mono ?_)
    rintro _ _ ⟨rfl, rfl⟩
    go_wp2_with fail
    go_ret
    exact ⟨rfl, rfl⟩
  | false =>
    rw [h1] at hl
    clear h1
    go_enter Tryz.func103, Tryz.ntmps103
    go_wp2_with fail
    (with_reducible refine (hl.out).mono ?_)
    rintro _ _ ⟨rfl, rfl⟩
    go_wp2_with fail
    (with_reducible refine (hd.out).mono ?_)
    rintro _ _ ⟨rfl, rfl⟩
    go_wp2_with fail
    go_ret
    exact ⟨rfl, rfl⟩
theorem tw_all {p : UInt8 → Bool} : ∀ {s : Str}, (∀ x ∈ s, p x = true) → s.takeWhile p = s := by
  intro s
  induction s with
  | nil => intro _; rfl
  | cons a s ih =>
    intro h
    rw [List.takeWhile_cons, h a (List.mem_cons_self ..)]
    simp [ih (fun x hx => h x (List.mem_cons_of_mem _ hx))]
theorem tw_mem {p : UInt8 → Bool} : ∀ {s : Str}, ∀ x ∈ s.takeWhile p, p x = true := by
  intro s
  induction s with
  | nil => intro x hx; cases hx
  | cons a s ih =>
    intro x hx
    rw [List.takeWhile_cons] at hx
    split at hx
    · next h =>
      rcases List.mem_cons.1 hx with rfl | hx
      · exact h
      · exact ih x hx
    · cases hx
/-- How many bytes at the beginning meet a test. -/
def spanN (p : UInt8 → Bool) (s : Str) : Nat := (s.takeWhile p).length
theorem span_at {p : UInt8 → Bool} {s : Str} {n : Nat} (hn : n < s.length) (ha : ∀ j (h : j < s.length), j < n → p s[j] = true) (hp : p s[n] = false) : spanN p s = n := by
  unfold spanN
  have e : s = s.take n ++ s[n] :: s.drop (n + 1) := by rw [List.getElem_cons_drop, List.take_append_drop]
  have h1 : ∀ x ∈ s.take n, p x = true := fun x hx => by
    obtain ⟨j, hj, rfl⟩ := List.mem_iff_getElem.1 hx
    rw [List.length_take] at hj
    rw [List.getElem_take]
    exact ha j (by omega) (by omega)
  rw [e, List.takeWhile_append_of_pos h1, List.takeWhile_cons, hp]
  simp
  omega
theorem span_all {p : UInt8 → Bool} {s : Str} (ha : ∀ j (h : j < s.length), p s[j] = true) : spanN p s = s.length := by
  unfold spanN
  rw [tw_all (fun x hx => by obtain ⟨j, hj, rfl⟩ := List.mem_iff_getElem.1 hx; exact ha j hj)]
theorem span_eq {p : UInt8 → Bool} {s : Str} : decide (spanN p s = s.length) = s.all p := by
  unfold spanN
  rw [Bool.eq_iff_iff, decide_eq_true_iff, List.all_eq_true]
  constructor
  · intro h x hx
    have := (List.takeWhile_sublist p).eq_of_length h
    rw [← this] at hx
    exact tw_mem x hx
  · intro h
    rw [tw_all h]
set_option maxRecDepth 100000 in
theorem span_c (s : Str) (hs : s.length ≤ 1000000) (w : World) : Calls Tryz.prog 102 #[.string ⟨s.toArray⟩, .func (.func 103) #[] #[]] w fun e w' => e = .returned (.int .i64 (spanN (fun c => letterB c || digitB c) s)) ∧ w = w' := by
  have hs1 : (s.length : Int) ≤ 1000000 := by omega
  go_enter Tryz.func102, Tryz.ntmps102
  go_wp2_with fail
  go_loopw [5] (fun i wr => ∃ n : Nat, n ≤ s.length ∧ i = .int .i64 (n : Int) ∧ Hid (∀ j (h : j < s.length), j < n → (letterB s[j] || digitB s[j]) = true) ∧ w = wr) (fun i _ => s.length - (intOf i).toNat)
  case atStart => exact ⟨0, Nat.zero_le _, rfl, fun j _ h => absurd h (Nat.not_lt_zero _), rfl⟩
  case round =>
    obtain ⟨n, hn, rfl, HA, rfl⟩ := hrel
    by_cases hlt : n < s.length
    · have hlt1 : (n : Int) < s.length := by omega
      have hsz : n < (⟨s.toArray⟩ : ByteArray).size := by show n < s.toArray.size; simp; exact hlt
      have hf := Lib.hid (wordf_c ((⟨s.toArray⟩ : ByteArray)[n]'hsz) w)
      cases hb : (letterB s[n] || digitB s[n]) with
      | true =>
        have hz : Hid (∀ j (h : j < s.length), j < n + 1 → (letterB s[j] || digitB s[j]) = true) := fun j h hj => by
          by_cases ej : j = n
          · subst ej; exact hb
          · exact HA.out j h (by omega)
        have hb2 : (letterB ((⟨s.toArray⟩ : ByteArray)[n]'hsz) || digitB ((⟨s.toArray⟩ : ByteArray)[n]'hsz)) = true := hb
        rw [hb2] at hf
        clear hb hb2
        go_wp2_with fail
        (with_reducible refine (hf.out).mono ?_)
        rintro _ _ ⟨rfl, rfl⟩
        go_wp2_with fail
        go_roundw
        case rel => exact ⟨n + 1, by omega, by go_num, hz.out, by first | rfl | trivial⟩
        case measure => simp [intOf]; omega
      | false =>
        have hz : Hid (spanN (fun c => letterB c || digitB c) s = n) := span_at hlt HA.out hb
        have hb2 : (letterB ((⟨s.toArray⟩ : ByteArray)[n]'hsz) || digitB ((⟨s.toArray⟩ : ByteArray)[n]'hsz)) = false := hb
        rw [hb2] at hf
        clear hb hb2
        go_wp2_with fail
        (with_reducible refine (hf.out).mono ?_)
        rintro _ _ ⟨rfl, rfl⟩
        go_wp2_with fail
        go_ret
        exact ⟨by rw [hz.out]; rfl, rfl⟩
    · obtain rfl : n = s.length := by omega
      have hz : Hid (spanN (fun c => letterB c || digitB c) s = s.length) := span_all (fun j h => HA.out j h h)
      go_wp2_with fail
      go_ret
      exact ⟨by rw [hz.out]; rfl, rfl⟩
set_option maxRecDepth 100000 in
theorem Word_c (s : Str) (hs : s.length ≤ maxLen) (w : World) : Calls Tryz.prog 76 #[.string ⟨s.toArray⟩] w fun e w' => e = .returned (.bool (wordB s)) ∧ w = w' := by
  cases s with
  | nil =>
    have e : Hid (wordB [] = false) := rfl
    go_enter Tryz.func76, Tryz.ntmps76
    go_wp2_with fail
    go_ret
    exact ⟨rfl, rfl⟩
  | cons c r =>
    have hsz : 0 < (⟨(c :: r).toArray⟩ : ByteArray).size := by show 0 < (c :: r).toArray.size; simp
    have hf := Lib.hid (letter_c ((⟨(c :: r).toArray⟩ : ByteArray)[0]'hsz) w)
    have hsp : (c :: r).length ≤ 20 → Hid (Calls Tryz.prog 102 #[.string ⟨(c :: r).toArray⟩, .func (.func 103) #[] #[]] w fun e w' => e = .returned (.int .i64 (spanN (fun c => letterB c || digitB c) (c :: r))) ∧ w = w') := fun h => span_c (c :: r) (by omega) w
    have hbs : (⟨(c :: r).toArray⟩ : ByteArray).isEmpty = false := rfl
    have hdef : wordB (c :: r) = (letterB c && decide ((c :: r).length ≤ 20) && (c :: r).all (fun c => letterB c || digitB c)) := rfl
    rw [← span_eq] at hdef
    have HD := Lib.hid hdef
    have e0 : ((c :: r : Str) == []) = false := rfl
    have e2 : ((c :: r : Str).isEmpty) = false := rfl
    unfold maxLen at hs
    have hs1 : ((c :: r).length : Int) ≤ 9223372036854775807 := by omega
    clear hdef
    cases h1 : letterB c with
    | false =>
      have h1' : letterB ((⟨(c :: r).toArray⟩ : ByteArray)[0]'hsz) = false := h1
      rw [h1'] at hf
      have e : Hid (wordB (c :: r) = false) := by show _ = _; rw [HD.out, h1]; rfl
      clear h1 h1' HD hsp
      generalize hX : (c :: r : Str) = X at *
      go_enter Tryz.func76, Tryz.ntmps76
      go_wp2_with fail
      (with_reducible refine (hf.out).mono ?_)
      rintro _ _ ⟨rfl, rfl⟩
      go_wp2_with fail
      go_ret
      exact ⟨by rw [e.out]; rfl, rfl⟩
    | true =>
      have h1' : letterB ((⟨(c :: r).toArray⟩ : ByteArray)[0]'hsz) = true := h1
      rw [h1'] at hf
      by_cases h2 : (c :: r).length ≤ 20
      · have d2 : decide ((20 : Int) < ((c :: r).length : Nat)) = false := decide_eq_false (by omega)
        have hs2 := hsp h2
        have e : Hid (wordB (c :: r) = decide (spanN (fun c => letterB c || digitB c) (c :: r) = (c :: r).length)) := by show _ = _; rw [HD.out, h1, decide_eq_true h2]; rfl
        clear h1 h1' HD hsp
        generalize hX : (c :: r : Str) = X at *
        generalize hsn : spanN (fun c => letterB c || digitB c) X = sn at *
        have e3 : ((sn : Int) == (X.length : Int)) = decide (sn = X.length) := by rw [Bool.eq_iff_iff]; simp; omega
        go_enter Tryz.func76, Tryz.ntmps76
        go_wp2_with fail
        (with_reducible refine (hf.out).mono ?_)
        rintro _ _ ⟨rfl, rfl⟩
        go_wp2_with fail
        (with_reducible refine (hs2.out).mono ?_)
        rintro _ _ ⟨rfl, rfl⟩
        go_wp2_with fail
        go_ret
        exact ⟨by rw [e.out]; first | rfl | (rw [← e3]; rfl), rfl⟩
      · have d2 : decide ((20 : Int) < ((c :: r).length : Nat)) = true := decide_eq_true (by omega)
        have e : Hid (wordB (c :: r) = false) := by show _ = _; rw [HD.out, h1, decide_eq_false h2]; rfl
        clear h1 h1' HD hsp h2
        generalize hX : (c :: r : Str) = X at *
        go_enter Tryz.func76, Tryz.ntmps76
        go_wp2_with fail
        (with_reducible refine (hf.out).mono ?_)
        rintro _ _ ⟨rfl, rfl⟩
        go_wp2_with fail
        go_ret
        exact ⟨by rw [e.out]; rfl, rfl⟩
set_option maxRecDepth 100000 in
theorem Name_c (s : Str) (hs : s.length ≤ maxLen) (w : World) (g : Gm w) : Calls Tryz.prog 60 #[.string ⟨s.toArray⟩] w fun e w' => e = .returned (.bool (nameB s)) ∧ Nw w w' := by
  obtain ⟨m, hm⟩ := g.m
  have hw := Lib.hid (Word_c s hs w)
  have hdef : nameB s = (wordB s && !Lib.contains Fm.reservedL ([32] ++ s ++ [32])) := rfl
  have HD := Lib.hid hdef
  have hcon : Hid (Calls Tryz.prog 77 #[.string ⟨#[32, 97, 110, 100, 32, 98, 97, 99, 107, 32, 98, 111, 111, 108, 32, 99, 108, 111, 99, 107, 32, 101, 108, 115, 101, 32, 102, 97, 108, 115, 101, 32, 102, 105, 108, 101, 115, 32, 102, 110, 32, 102, 111, 114, 119, 97, 114, 100, 32, 103, 101, 116, 32, 105, 102, 32, 105, 110, 32, 105, 110, 116, 32, 108, 101, 116, 32, 109, 111, 100, 117, 108, 101, 32, 109, 111, 118, 101, 32, 110, 101, 116, 32, 110, 111, 116, 32, 111, 114, 32, 112, 117, 98, 32, 115, 101, 99, 114, 101, 116, 115, 32, 115, 101, 116, 32, 116, 104, 101, 110, 32, 116, 114, 117, 101, 32, 117, 115, 101, 32, 118, 97, 114, 32]⟩, .string ({ data := #[32] } ++ { data := List.toArray s } ++ { data := #[32] })] w fun e w' => e = .returned (.bool (Lib.contains Fm.reservedL ([32] ++ s ++ [32]))) ∧ w' = w) := by
    have := Tryz.strings_Contains ⟨Fm.reservedL.toArray⟩ ({ data := #[32] } ++ { data := List.toArray s } ++ { data := #[32] }) m w (by decide) hm
    have e : (({ data := #[32] } ++ { data := List.toArray s } ++ { data := #[32] } : ByteArray)).data.toList = [32] ++ s ++ [32] := by simp
    rw [e] at this
    exact this
  clear hdef g
  cases h1 : wordB s with
  | false =>
    rw [h1] at hw
    have e : Hid (nameB s = false) := by show _ = _; rw [HD.out, h1]; rfl
    clear h1
    go_enter Tryz.func60, Tryz.ntmps60
    go_wp2_with fail
    (with_reducible refine (hw.out).mono ?_)
    rintro _ _ ⟨rfl, rfl⟩
    go_wp2_with fail
    go_ret
    exact ⟨by rw [e.out]; rfl, Upd.refl _ _⟩
  | true =>
    have hl := Fm.word_len h1
    have hl1 : (s.length : Int) ≤ 20 := by omega
    rw [h1] at hw
    have e : Hid (nameB s = !Lib.contains Fm.reservedL ([32] ++ s ++ [32])) := by show _ = _; rw [HD.out, h1]; rfl
    clear h1
    go_enter Tryz.func60, Tryz.ntmps60
    go_wp2_with fail
    (with_reducible refine (hw.out).mono ?_)
    rintro _ _ ⟨rfl, rfl⟩
    go_wp2_with fail
    generalize Lib.contains Fm.reservedL ([32] ++ s ++ [32]) = cb at *
    (with_reducible refine (hcon.out).mono ?_)
    rintro _ _ ⟨rfl, rfl⟩
    go_wp2_with fail
    go_ret
    exact ⟨by rw [e.out]; rfl, Upd.refl _ _⟩
end Go.Proofs.YtjlgmoemnhmgmaaGreatDoor
