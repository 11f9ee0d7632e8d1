/- The book (layer 7) in memory; the contracts of New, Len, Text. -/
import Derived.Test.YtjjdmmhlcdfplaaDoorSealC
import Derived.Test.YtjjdmmhlcdfplaaDoorBookQ
import Derived.Test.YtjjdmmhlcdfplaaDoorTail
namespace Go.Proofs.YtjjdmmhlcdfplaaDoor
open Go.RowKit
open Go.Maps (Keyed)
set_option linter.unusedVariables false
set_option linter.unusedSimpArgs false
attribute [local irreducible] Calls

abbrev tStr : TypeId := 9
abbrev tBook : TypeId := 82
def strB (s : List UInt8) : Value := .string ⟨s.toArray⟩
theorem strKeyed : Keyed Tryd.prog tStr := Maps.string_keyed Tryd.underlying9
def mapF (es : List (List UInt8)) : List (Value × Value) := (Bk.firstL es).map fun p => (strB p.1, .int .i64 p.2)
theorem strB_inj {a b : List UInt8} (h : strB a = strB b) : a = b := by
  simp [strB] at h
  exact h
theorem mapF_mem {es : List (List UInt8)} {p : Value × Value} : p ∈ mapF es ↔ ∃ k i, (k, i) ∈ Bk.firstL es ∧ p = (strB k, .int .i64 i) := by
  constructor
  · intro h
    obtain ⟨⟨k, i⟩, hq, rfl⟩ := List.mem_map.1 h
    exact ⟨k, i, hq, rfl⟩
  · rintro ⟨k, i, h, rfl⟩
    exact List.mem_map.2 ⟨(k, i), h, rfl⟩
structure BookR where
  bb : Nat
  fb : Nat
  ev : Value
def BookR.foot (r : BookR) (k : Nat) : Prop := k = r.bb ∨ k = r.fb ∨ r.ev.ownBlock = some k
def bookC (r : BookR) (rb : Nat) (b : Bk.Book) : Array Value :=
  #[.pointer (some ⟨rb, 0, none⟩), .int .i64 b.key, r.ev, .map (some r.fb), .bool (decide (0 ≤ b.last)), .int .i64 (if b.last < 0 then 0 else b.last), .int .i64 b.told]
/-- In the blocks from B on lies the book r, signing into the ring at rb, with the contents b. -/
structure BookAt (B : Nat) (w : World) (r : BookR) (rb : Nat) (b : Bk.Book) : Prop where
  hb : nG ≤ B
  bb : B ≤ r.bb
  fb : B ≤ r.fb
  blk : w.heap[r.bb]? = some (.cells (bookC r rb b) tBook (0, 0))
  own : w.ownsRow B tStr 1 r.ev b.es.length (b.es.map strB)
  map : MapL Tryd.prog tStr w r.fb (mapF b.es)
  keys : ∀ t ∈ b.es, (Cl.key t).2 = true ∧ t.length ≤ 20000
  len : b.es.length ≤ 200000
  last : -1 ≤ b.last ∧ b.last ≤ 1073741824
  told : 0 ≤ b.told ∧ b.told ≤ 200000
  key : 0 ≤ b.key ∧ b.key < 200
theorem BookAt.foot_lt {B : Nat} {w : World} {r : BookR} {rb : Nat} {b : Bk.Book} (h : BookAt B w r rb b) {k : Nat} (hk : r.foot k) : B ≤ k ∧ k < w.heap.size := by
  rcases hk with rfl | rfl | hk
  · exact ⟨h.bb, lt_of_block h.blk⟩
  · exact ⟨h.fb, h.map.lt⟩
  · obtain ⟨h1, cs, h2⟩ := own_block h.own hk
    exact ⟨h1, lt_of_block h2⟩
theorem BookAt.upd {B : Nat} {S : Nat → Prop} {w w' : World} {r : BookR} {rb : Nat} {b : Bk.Book} (h : BookAt B w r rb b) (u : Upd S w w') (hs : ∀ k, r.foot k → ¬ S k) : BookAt B w' r rb b :=
  ⟨h.hb, h.bb, h.fb, u.keep h.blk (hs _ (Or.inl rfl)), owns_upd' h.own u (fun k hk => hs k (Or.inr (Or.inr hk))), h.map.upd u (hs _ (Or.inr (Or.inl rfl))), h.keys, h.len, h.last, h.told, h.key⟩
theorem BookAt.nw {B : Nat} {w w' : World} {r : BookR} {rb : Nat} {b : Bk.Book} (h : BookAt B w r rb b) (u : Nw w w') : BookAt B w' r rb b := h.upd u (fun _ _ s => s)
theorem BookAt.slice {B : Nat} {w : World} {r : BookR} {rb : Nat} {b : Bk.Book} (h : BookAt B w r rb b) : ∃ a cap, r.ev = .slice a b.es.length cap := by
  rcases h.own.2 with ⟨h1, h2⟩ | ⟨g, cap, cur, h1, _⟩
  · exact ⟨none, 0, by rw [h1, h2]⟩
  · exact ⟨_, _, h1⟩
theorem BookAt.cells {B : Nat} {w : World} {r : BookR} {rb : Nat} {b : Bk.Book} (h : BookAt B w r rb b) :
    w.cell? ⟨r.bb, 0, none⟩ = some (.pointer (some ⟨rb, 0, none⟩)) ∧ w.cell? ⟨r.bb, 1, none⟩ = some (.int .i64 b.key) ∧ w.cell? ⟨r.bb, 2, none⟩ = some r.ev ∧ w.cell? ⟨r.bb, 3, none⟩ = some (.map (some r.fb)) ∧
    w.cell? ⟨r.bb, 4, none⟩ = some (.bool (decide (0 ≤ b.last))) ∧ w.cell? ⟨r.bb, 5, none⟩ = some (.int .i64 (if b.last < 0 then 0 else b.last)) ∧ w.cell? ⟨r.bb, 6, none⟩ = some (.int .i64 b.told) := by
  refine ⟨?_, ?_, ?_, ?_, ?_, ?_, ?_⟩ <;> (rw [cells_cell h.blk]; rfl)
/-- What the book's map answers. -/
theorem BookAt.look {B : Nat} {w : World} {r : BookR} {rb : Nat} {b : Bk.Book} (h : BookAt B w r rb b) (k : List UInt8) (ht : k.length ≤ 140737488351232) :
    (∃ i, (k, i) ∈ Bk.firstL b.es ∧ (Instr.lookup 80 (.map (some r.fb)) (.string ⟨k.toArray⟩) true).run Tryd.prog w = .ok (.tuple #[.int .i64 i, .bool true]) w) ∨
    ((∀ i, (k, i) ∉ Bk.firstL b.es) ∧ (Instr.lookup 80 (.map (some r.fb)) (.string ⟨k.toArray⟩) true).run Tryd.prog w = .ok (.tuple #[.int .i64 0, .bool false]) w) := by
  have hz : (zeroValue 3).run Tryd.prog w = .ok (.int .i64 0) w := by kernel_rfl
  have hl := WideMaps.keyOf_string_mk (P := Tryd.prog) (k := tStr) Tryd.underlying9 (s := ⟨k.toArray⟩) (by rw [bs_size, bs_list]; unfold maxLen; omega)
  rcases h.map.look strKeyed Tryd.underlying80 hz hl with ⟨v, hv, hrun⟩ | ⟨hno, hrun⟩
  · obtain ⟨k2, i, hi, e⟩ := mapF_mem.1 hv
    have e1 := strB_inj (a := k) (b := k2) (Prod.mk.inj e).1
    subst e1
    exact Or.inl ⟨i, hi, by rw [hrun true, (Prod.mk.inj e).2]; rfl⟩
  · exact Or.inr ⟨fun i hi => hno _ (mapF_mem.2 ⟨k, i, hi, rfl⟩) rfl, hrun true⟩
theorem len_b (B : Nat) (r : BookR) (rb : Nat) (b : Bk.Book) (w : World) (h : BookAt B w r rb b) :
    Calls Tryd.prog 17 #[.pointer (some ⟨r.bb, 0, none⟩)] w fun e w' => e = .returned (.int .i64 b.es.length) ∧ Nw w w' := by
  obtain ⟨a, cap, hev⟩ := h.slice
  obtain ⟨_, _, c2, _⟩ := h.cells
  rw [hev] at c2
  clear hev h
  go_enter Tryd.func17, Tryd.ntmps17
  go_wp2_with fail
  go_ret
  exact ⟨rfl, Upd.refl _ _⟩
theorem new_b (rb : Nat) (key : Int) (w : World) (g : Gl w) : Calls Tryd.prog 11 #[.pointer (some ⟨rb, 0, none⟩), .int .i64 key] w fun e w' =>
    (Bk.isKey key = true ∧ ∃ r, e = .returned (.tuple #[.pointer (some ⟨r.bb, 0, none⟩), .int .i64 0]) ∧ BookAt w.heap.size w' r rb (Bk.new key) ∧ Nw w w') ∨
    (Bk.isKey key = false ∧ e = .returned (.tuple #[.pointer none, .int .i64 22]) ∧ Nw w w') := by
  by_cases hk : 0 ≤ key ∧ key < 200
  · have hkk : Bk.isKey key = true := by unfold Bk.isKey; simp [hk]
    obtain ⟨hk1, hk2⟩ := hk
    have Hkk := Lib.hid hkk; clear hkk
    have hmm := @run_makeMap Tryd.prog
    have m1 := MapL.made Tryd.prog tStr w
    have u1 := nw_alloc w (.map #[] 0)
    have b2 := heap_new (w.alloc (.map #[] 0)) (.cells #[.pointer (some ⟨rb, 0, none⟩), .int .i64 key, .slice none 0 0, .map (some w.heap.size), .bool false, .int .i64 0, .int .i64 0] tBook)
    have u2 := u1.trans (nw_alloc (w.alloc (.map #[] 0)) (.cells #[.pointer (some ⟨rb, 0, none⟩), .int .i64 key, .slice none 0 0, .map (some w.heap.size), .bool false, .int .i64 0, .int .i64 0] tBook))
    have m2 := m1.nw (nw_alloc (w.alloc (.map #[] 0)) (.cells #[.pointer (some ⟨rb, 0, none⟩), .int .i64 key, .slice none 0 0, .map (some w.heap.size), .bool false, .int .i64 0, .int .i64 0] tBook))
    have M2 := Lib.hid m2
    have B2 := Lib.hid b2
    clear m1 m2 b2
    go_enter Tryd.func11, Tryd.ntmps11
    go_wp2_with fail
    go_ret2
    refine Or.inl ⟨Hkk.out, ⟨w.heap.size + 1, w.heap.size, .slice none 0 0⟩, by simp, ⟨g.big, by simp, by simp, ?_, World.ownsRow_nil _ _ _ _, M2.out, (fun t ht => by cases ht), by simp [Bk.new], by simp [Bk.new], by simp [Bk.new], ⟨hk1, hk2⟩⟩, u2⟩
    have := B2.out
    simpa [bookC, Bk.new] using this
  · have hkk : Bk.isKey key = false := by unfold Bk.isKey; rw [← Bool.not_eq_true]; simp; omega
    have Hkk := Lib.hid hkk; clear hkk
    have hk2 : key < 0 ∨ 200 ≤ key := by omega
    clear hk
    rcases hk2 with hk | hk
    all_goals go_enter Tryd.func11, Tryd.ntmps11
    all_goals go_wp2_with fail
    all_goals go_ret2
    all_goals exact Or.inr ⟨Hkk.out, rfl, Upd.refl _ _⟩
theorem text_b (B : Nat) (r : BookR) (rb : Nat) (b : Bk.Book) (i : Int) (w : World) (h : BookAt B w r rb b) :
    Calls Tryd.prog 15 #[.pointer (some ⟨r.bb, 0, none⟩), .int .i64 i] w fun e w' => e = .returned (.tuple #[.string ⟨(Bk.textAt b i).1.toArray⟩, .bool (Bk.textAt b i).2]) ∧ Nw w w' := by
  obtain ⟨a, cap, hev⟩ := h.slice
  obtain ⟨_, _, c2, _⟩ := h.cells
  have hsl := Sl.of_owns h.own
  have hlen := h.len
  rw [hev] at c2 hsl
  clear hev h
  by_cases h1 : i < 0
  · have hr : Hid (Bk.textAt b i = ([], false)) := by show _ = _; unfold Bk.textAt; rw [if_pos (Or.inl h1)]
    clear hsl
    go_enter Tryd.func15, Tryd.ntmps15
    go_wp2_with fail
    go_ret2
    exact ⟨by rw [hr.out]; rfl, Upd.refl _ _⟩
  by_cases h2 : (b.es.length : Int) ≤ i
  · have hr : Hid (Bk.textAt b i = ([], false)) := by show _ = _; unfold Bk.textAt; rw [if_pos (Or.inr h2)]
    clear hsl
    go_enter Tryd.func15, Tryd.ntmps15
    go_wp2_with fail
    go_ret2
    exact ⟨by rw [hr.out]; rfl, Upd.refl _ _⟩
  obtain ⟨n, rfl⟩ := Int.eq_ofNat_of_zero_le (show 0 ≤ i by omega)
  have hn : n < b.es.length := by omega
  have hr : Hid (Bk.textAt b n = (b.es[n], true)) := by
    show _ = _
    unfold Bk.textAt
    rw [if_neg (by omega), Int.toNat_natCast, List.getD_eq_getElem?_getD, List.getElem?_eq_getElem hn]; rfl
  rcases hsl with ⟨_, _, _, hnil⟩ | ⟨bl, off, cap2, he, _, _, _, _, _, hc⟩
  · rw [List.map_eq_nil_iff] at hnil; rw [hnil] at hn; simp at hn
  · have hcn : w.cell? ⟨bl, off + n, none⟩ = some (.string ⟨b.es[n].toArray⟩) := by
      rw [hc n (by simpa using hn)]; simp [hn, strB]
    obtain ⟨rfl, rfl⟩ : a = some ⟨bl, off, none⟩ ∧ cap = cap2 := by simpa using he
    clear hc he
    generalize b.es[n] = x at *
    go_enter Tryd.func15, Tryd.ntmps15
    go_wp2_with fail
    go_ret2
    exact ⟨by rw [hr.out]; rfl, Upd.refl _ _⟩
end Go.Proofs.YtjjdmmhlcdfplaaDoor
