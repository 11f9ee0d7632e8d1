/- The book (layer 7) in memory; the contracts of New, Len, Text. The contract of the book's Append. The contracts of the book's sign and Entry. -/
import Derived.Test.YtagmlemlagbfkaaGreatDoorPkMTells4
import Derived.Test.YtagmlemlagbfkaaGreatDoorPkMTells0
import Derived.Test.YtagmlemlagbfkaaGreatDoorPkMTells2
import Derived.Test.YtagmlemlagbfkaaGreatDoorPkMTells1
namespace Go.Proofs.YtagmlemlagbfkaaGreatDoor
open Go.RowKit
open Go.Maps (Keyed)
set_option linter.unusedVariables false
set_option linter.unusedSimpArgs false
attribute [local irreducible] Calls

abbrev tStr : TypeId := 9
abbrev tBook : TypeId := 218
def strB (s : List UInt8) : Value := .string ⟨s.toArray⟩
theorem strKeyed : Keyed Tryz.prog tStr := Maps.string_keyed Tryz.underlying9
def mapF (es : List (List UInt8)) : List (Value × Value) := (Bk.firstL es).map fun p => (strB p.1, .int .i64 p.2)
theorem strB_inj {a b : List UInt8} (h : strB a = strB b) : a = b := by
  simp [strB] at h
  exact h
theorem mapF_mem {es : List (List UInt8)} {p : Value × Value} : p ∈ mapF es ↔ ∃ k i, (k, i) ∈ Bk.firstL es ∧ p = (strB k, .int .i64 i) := by
  constructor
  · intro h
    obtain ⟨⟨k, i⟩, hq, rfl⟩ := List.mem_map.1 h
    exact ⟨k, i, hq, rfl⟩
  · rintro ⟨k, i, h, rfl⟩
    exact List.mem_map.2 ⟨(k, i), h, rfl⟩
structure BookR where
  bb : Nat
  fb : Nat
  ev : Value
def BookR.foot (r : BookR) (k : Nat) : Prop := k = r.bb ∨ k = r.fb ∨ r.ev.ownBlock = some k
def bookC (r : BookR) (rb : Nat) (b : Bk.Book) : Array Value :=
  #[.pointer (some ⟨rb, 0, none⟩), .int .i64 b.key, r.ev, .map (some r.fb), .bool (decide (0 ≤ b.last)), .int .i64 (if b.last < 0 then 0 else b.last), .int .i64 b.told]
/-- In the blocks from B on lies the book r, signing into the ring at rb, with the contents b. -/
structure BookAt (B : Nat) (w : World) (r : BookR) (rb : Nat) (b : Bk.Book) : Prop where
  hb : nG ≤ B
  bb : B ≤ r.bb
  fb : B ≤ r.fb
  blk : w.heap[r.bb]? = some (.cells (bookC r rb b) tBook (0, 0))
  own : w.ownsRow B tStr 1 r.ev b.es.length (b.es.map strB)
  map : MapL Tryz.prog tStr w r.fb (mapF b.es)
  keys : ∀ t ∈ b.es, (Cl.key t).2 = true ∧ t.length ≤ 20000
  len : b.es.length ≤ 200000
  last : -1 ≤ b.last ∧ b.last ≤ 1073741824
  told : 0 ≤ b.told ∧ b.told ≤ 200000
  key : 0 ≤ b.key ∧ b.key < 200
theorem BookAt.foot_lt {B : Nat} {w : World} {r : BookR} {rb : Nat} {b : Bk.Book} (h : BookAt B w r rb b) {k : Nat} (hk : r.foot k) : B ≤ k ∧ k < w.heap.size := by
  rcases hk with rfl | rfl | hk
  · exact ⟨h.bb, lt_of_block h.blk⟩
  · exact ⟨h.fb, h.map.lt⟩
  · obtain ⟨h1, cs, h2⟩ := own_block h.own hk
    exact ⟨h1, lt_of_block h2⟩
theorem BookAt.upd {B : Nat} {S : Nat → Prop} {w w' : World} {r : BookR} {rb : Nat} {b : Bk.Book} (h : BookAt B w r rb b) (u : Upd S w w') (hs : ∀ k, r.foot k → ¬ S k) : BookAt B w' r rb b :=
  ⟨h.hb, h.bb, h.fb, u.keep h.blk (hs _ (Or.inl rfl)), owns_upd' h.own u (fun k hk => hs k (Or.inr (Or.inr hk))), h.map.upd u (hs _ (Or.inr (Or.inl rfl))), h.keys, h.len, h.last, h.told, h.key⟩
theorem BookAt.nw {B : Nat} {w w' : World} {r : BookR} {rb : Nat} {b : Bk.Book} (h : BookAt B w r rb b) (u : Nw w w') : BookAt B w' r rb b := h.upd u (fun _ _ s => s)
theorem BookAt.slice {B : Nat} {w : World} {r : BookR} {rb : Nat} {b : Bk.Book} (h : BookAt B w r rb b) : ∃ a cap, r.ev = .slice a b.es.length cap := by
  rcases h.own.2 with ⟨h1, h2⟩ | ⟨g, cap, cur, h1, _⟩
  · exact ⟨none, 0, by rw [h1, h2]⟩
  · exact ⟨_, _, h1⟩
theorem BookAt.cells {B : Nat} {w : World} {r : BookR} {rb : Nat} {b : Bk.Book} (h : BookAt B w r rb b) :
    w.cell? ⟨r.bb, 0, none⟩ = some (.pointer (some ⟨rb, 0, none⟩)) ∧ w.cell? ⟨r.bb, 1, none⟩ = some (.int .i64 b.key) ∧ w.cell? ⟨r.bb, 2, none⟩ = some r.ev ∧ w.cell? ⟨r.bb, 3, none⟩ = some (.map (some r.fb)) ∧
    w.cell? ⟨r.bb, 4, none⟩ = some (.bool (decide (0 ≤ b.last))) ∧ w.cell? ⟨r.bb, 5, none⟩ = some (.int .i64 (if b.last < 0 then 0 else b.last)) ∧ w.cell? ⟨r.bb, 6, none⟩ = some (.int .i64 b.told) := by
  refine ⟨?_, ?_, ?_, ?_, ?_, ?_, ?_⟩ <;> (rw [cells_cell h.blk]; rfl)
/-- What the book's map answers. -/
theorem BookAt.look {B : Nat} {w : World} {r : BookR} {rb : Nat} {b : Bk.Book} (h : BookAt B w r rb b) (k : List UInt8) (ht : k.length ≤ 140737488351232) :
    (∃ i, (k, i) ∈ Bk.firstL b.es ∧ (Instr.lookup 133 (.map (some r.fb)) (.string ⟨k.toArray⟩) true).run Tryz.prog w = .ok (.tuple #[.int .i64 i, .bool true]) w) ∨
    ((∀ i, (k, i) ∉ Bk.firstL b.es) ∧ (Instr.lookup 133 (.map (some r.fb)) (.string ⟨k.toArray⟩) true).run Tryz.prog w = .ok (.tuple #[.int .i64 0, .bool false]) w) := by
  have hz : (zeroValue 3).run Tryz.prog w = .ok (.int .i64 0) w := by kernel_rfl
  have hl := WideMaps.keyOf_string_mk (P := Tryz.prog) (k := tStr) Tryz.underlying9 (s := ⟨k.toArray⟩) (by rw [bs_size, bs_list]; unfold maxLen; omega)
  rcases h.map.look strKeyed Tryz.underlying133 hz hl with ⟨v, hv, hrun⟩ | ⟨hno, hrun⟩
  · obtain ⟨k2, i, hi, e⟩ := mapF_mem.1 hv
    have e1 := strB_inj (a := k) (b := k2) (Prod.mk.inj e).1
    subst e1
    exact Or.inl ⟨i, hi, by rw [hrun true, (Prod.mk.inj e).2]; rfl⟩
  · exact Or.inr ⟨fun i hi => hno _ (mapF_mem.2 ⟨k, i, hi, rfl⟩) rfl, hrun true⟩
theorem len_b (B : Nat) (r : BookR) (rb : Nat) (b : Bk.Book) (w : World) (h : BookAt B w r rb b) :
    Calls Tryz.prog 126 #[.pointer (some ⟨r.bb, 0, none⟩)] w fun e w' => e = .returned (.int .i64 b.es.length) ∧ Nw w w' := by
  obtain ⟨a, cap, hev⟩ := h.slice
  obtain ⟨_, _, c2, _⟩ := h.cells
  rw [hev] at c2
  clear hev h
  go_enter Tryz.func126, Tryz.ntmps126
  go_wp2_with fail
  go_ret
  exact ⟨rfl, Upd.refl _ _⟩
theorem new_b (rb : Nat) (key : Int) (w : World) (g : Gl w) : Calls Tryz.prog 67 #[.pointer (some ⟨rb, 0, none⟩), .int .i64 key] w fun e w' =>
    (Bk.isKey key = true ∧ ∃ r, e = .returned (.tuple #[.pointer (some ⟨r.bb, 0, none⟩), .int .i64 0]) ∧ BookAt w.heap.size w' r rb (Bk.new key) ∧ Nw w w') ∨
    (Bk.isKey key = false ∧ e = .returned (.tuple #[.pointer none, .int .i64 22]) ∧ Nw w w') := by
  by_cases hk : 0 ≤ key ∧ key < 200
  · have hkk : Bk.isKey key = true := by unfold Bk.isKey; simp [hk]
    obtain ⟨hk1, hk2⟩ := hk
    have Hkk := Lib.hid hkk; clear hkk
    have hmm := @run_makeMap Tryz.prog
    have m1 := MapL.made Tryz.prog tStr w
    have u1 := nw_alloc w (.map #[] 0)
    have b2 := heap_new (w.alloc (.map #[] 0)) (.cells #[.pointer (some ⟨rb, 0, none⟩), .int .i64 key, .slice none 0 0, .map (some w.heap.size), .bool false, .int .i64 0, .int .i64 0] tBook)
    have u2 := u1.trans (nw_alloc (w.alloc (.map #[] 0)) (.cells #[.pointer (some ⟨rb, 0, none⟩), .int .i64 key, .slice none 0 0, .map (some w.heap.size), .bool false, .int .i64 0, .int .i64 0] tBook))
    have m2 := m1.nw (nw_alloc (w.alloc (.map #[] 0)) (.cells #[.pointer (some ⟨rb, 0, none⟩), .int .i64 key, .slice none 0 0, .map (some w.heap.size), .bool false, .int .i64 0, .int .i64 0] tBook))
    have M2 := Lib.hid m2
    have B2 := Lib.hid b2
    clear m1 m2 b2
    go_enter Tryz.func67, Tryz.ntmps67
    go_wp2_with fail
    go_ret2
    refine Or.inl ⟨Hkk.out, ⟨w.heap.size + 1, w.heap.size, .slice none 0 0⟩, by simp, ⟨g.big, by simp, by simp, ?_, World.ownsRow_nil _ _ _ _, M2.out, (fun t ht => by cases ht), by simp [Bk.new], by simp [Bk.new], by simp [Bk.new], ⟨hk1, hk2⟩⟩, u2⟩
    have := B2.out
    simpa [bookC, Bk.new] using this
  · have hkk : Bk.isKey key = false := by unfold Bk.isKey; rw [← Bool.not_eq_true]; simp; omega
    have Hkk := Lib.hid hkk; clear hkk
    have hk2 : key < 0 ∨ 200 ≤ key := by omega
    clear hk
    rcases hk2 with hk | hk
    all_goals go_enter Tryz.func67, Tryz.ntmps67
    all_goals go_wp2_with fail
    all_goals go_ret2
    all_goals exact Or.inr ⟨Hkk.out, rfl, Upd.refl _ _⟩
theorem text_b (B : Nat) (r : BookR) (rb : Nat) (b : Bk.Book) (i : Int) (w : World) (h : BookAt B w r rb b) :
    Calls Tryz.prog 181 #[.pointer (some ⟨r.bb, 0, none⟩), .int .i64 i] w fun e w' => e = .returned (.tuple #[.string ⟨(Bk.textAt b i).1.toArray⟩, .bool (Bk.textAt b i).2]) ∧ Nw w w' := by
  obtain ⟨a, cap, hev⟩ := h.slice
  obtain ⟨_, _, c2, _⟩ := h.cells
  have hsl := Sl.of_owns h.own
  have hlen := h.len
  rw [hev] at c2 hsl
  clear hev h
  by_cases h1 : i < 0
  · have hr : Hid (Bk.textAt b i = ([], false)) := by show _ = _; unfold Bk.textAt; rw [if_pos (Or.inl h1)]
    clear hsl
    go_enter Tryz.func181, Tryz.ntmps181
    go_wp2_with fail
    go_ret2
    exact ⟨by rw [hr.out]; rfl, Upd.refl _ _⟩
  by_cases h2 : (b.es.length : Int) ≤ i
  · have hr : Hid (Bk.textAt b i = ([], false)) := by show _ = _; unfold Bk.textAt; rw [if_pos (Or.inr h2)]
    clear hsl
    go_enter Tryz.func181, Tryz.ntmps181
    go_wp2_with fail
    go_ret2
    exact ⟨by rw [hr.out]; rfl, Upd.refl _ _⟩
  obtain ⟨n, rfl⟩ := Int.eq_ofNat_of_zero_le (show 0 ≤ i by omega)
  have hn : n < b.es.length := by omega
  have hr : Hid (Bk.textAt b n = (b.es[n], true)) := by
    show _ = _
    unfold Bk.textAt
    rw [if_neg (by omega), Int.toNat_natCast, List.getD_eq_getElem?_getD, List.getElem?_eq_getElem hn]; rfl
  rcases hsl with ⟨_, _, _, hnil⟩ | ⟨bl, off, cap2, he, _, _, _, _, _, hc⟩
  · rw [List.map_eq_nil_iff] at hnil; rw [hnil] at hn; simp at hn
  · have hcn : w.cell? ⟨bl, off + n, none⟩ = some (.string ⟨b.es[n].toArray⟩) := by
      rw [hc n (by simpa using hn)]; simp [hn, strB]
    obtain ⟨rfl, rfl⟩ : a = some ⟨bl, off, none⟩ ∧ cap = cap2 := by simpa using he
    clear hc he
    generalize b.es[n] = x at *
    go_enter Tryz.func181, Tryz.ntmps181
    go_wp2_with fail
    go_ret2
    exact ⟨by rw [hr.out]; rfl, Upd.refl _ _⟩
end Go.Proofs.YtagmlemlagbfkaaGreatDoor
namespace Go.Proofs.YtagmlemlagbfkaaGreatDoor
open Go.RowKit
open Go.Maps (Keyed)
set_option linter.unusedVariables false
set_option linter.unusedSimpArgs false
attribute [local irreducible] Calls

theorem infoStr' : (Tryz.prog.info? tStr).map (fun i => (i.zero, i.size, i.bytes)) = some (some (.string ⟨#[]⟩), 1, 16) := by kernel_rfl
theorem key_len (t : List UInt8) : (Cl.key t).1.length ≤ t.length := by
  cases h : Cl.key t with
  | mk k ok =>
    cases ok with
    | false =>
      have : k = [] := by
        unfold Cl.key at h
        split at h
        · simp at h
        · simp at h; exact h
      subst this
      exact Nat.zero_le _
    | true =>
      obtain ⟨r, e⟩ : ∃ r, t = Wire.textE k ++ r := by
        unfold Cl.key at h
        split at h
        · rename_i k' r e
          obtain rfl : k' = k := by simpa using h
          exact ⟨r, Wire.rText_inv e⟩
        · simp at h
      show k.length ≤ t.length
      rw [e]; simp only [Wire.textE, List.length_append]; omega
def AppendPost (B : Nat) (r : BookR) (rb : Nat) (b : Bk.Book) (t : List UInt8) (w : World) (e : Ending) (w' : World) : Prop :=
  ∃ r', e = .returned (.tuple #[.int .i64 (Bk.append b t).1.1, .int .i64 (Bk.append b t).1.2]) ∧ BookAt B w' r' rb (Bk.append b t).2 ∧ r'.bb = r.bb ∧ Upd r.foot w w' ∧ ∀ j, r'.foot j → r.foot j ∨ w.heap.size ≤ j
/-- The map behind 'if _, there := b.first[key]; !there { b.first[key] = n }'. -/
theorem first_there {es : List (List UInt8)} {t : List UInt8} {i : Nat} (h : ((Cl.key t).1, i) ∈ Bk.firstL es) : mapF (es ++ [t]) = mapF es := by
  unfold mapF; rw [Bk.first_snoc, Bk.addF, if_pos (Bk.any_key.2 ⟨i, h⟩)]
theorem first_new {es : List (List UInt8)} {t : List UInt8} (h : ∀ i, ((Cl.key t).1, i) ∉ Bk.firstL es) : mapF (es ++ [t]) = mapF es ++ [(strB (Cl.key t).1, .int .i64 es.length)] := by
  unfold mapF
  rw [Bk.first_snoc, Bk.addF, if_neg (fun e => by obtain ⟨i, hi⟩ := Bk.any_key.1 e; exact h i hi), List.map_append]; rfl
/-- What the store of the new slice into the book leaves. -/
theorem book_done {B rb gg cap2 : Nat} {r : BookR} {b : Bk.Book} {t : List UInt8} {w w3 w4 : World} (h : BookAt B w r rb b) (hBw : B ≤ w.heap.size) (u3 : Upd (· = r.fb) w w3) (hm : MapL Tryz.prog tStr w3 r.fb (mapF (b.es ++ [t])))
    (hown : w4.ownsRow B tStr 1 (.slice (some ⟨gg, 0, none⟩) (b.es.length + 1) cap2) (b.es.length + 1) (b.es.map strB ++ [strB t])) (o : Obj) (hgrow : (w3.alloc o).grownBy w4 r.ev.ownBlock) (hat : r.ev.ownBlock = some gg ∨ gg = w3.heap.size + 1)
    (hk : (Cl.key t).2 = true) (ht : t.length ≤ 20000) (hl : b.es.length < 200000) :
    w4.cell? ⟨r.bb, 2, none⟩ = some r.ev ∧ w4.frozen? ⟨r.bb, 2, none⟩ = false ∧
    BookAt B (w4.setCell ⟨r.bb, 2, none⟩ (.slice (some ⟨gg, 0, none⟩) (b.es.length + 1) cap2)) ⟨r.bb, r.fb, .slice (some ⟨gg, 0, none⟩) (b.es.length + 1) cap2⟩ rb { b with es := b.es ++ [t] } ∧
    Upd r.foot w (w4.setCell ⟨r.bb, 2, none⟩ (.slice (some ⟨gg, 0, none⟩) (b.es.length + 1) cap2)) ∧ ∀ j, BookR.foot ⟨r.bb, r.fb, .slice (some ⟨gg, 0, none⟩) (b.es.length + 1) cap2⟩ j → r.foot j ∨ w.heap.size ≤ j := by
  have hnG := h.hb
  have hbb := h.bb
  have hne1 : r.ev.ownBlock ≠ some r.bb := by
    intro e
    obtain ⟨_, cs, hh⟩ := own_block h.own e
    rw [h.blk] at hh
    simp [tBook, tStr] at hh
  have hne2 : r.ev.ownBlock ≠ some r.fb := by
    intro e
    obtain ⟨_, cs, hh⟩ := own_block h.own e
    obtain ⟨es, clock, hm, _⟩ := h.map
    rw [hh] at hm
    cases hm
  have hne3 : ¬ r.bb = r.fb := by
    intro e
    obtain ⟨es, clock, hm, _⟩ := h.map
    have := h.blk
    rw [e, hm] at this
    cases this
  have hbl := lt_of_block h.blk
  have hsz := u3.size
  have hgb : gg ≠ r.bb := by
    rintro rfl
    rcases hat with e | e
    · exact hne1 e
    · omega
  have n1 := nw_alloc w3 o
  have k3 := u3.keep h.blk hne3
  have k4 := grown_keep hgrow (Nw.keep n1 k3) hne1
  have u4 : Upd r.foot w w4 := ((u3.mono (S' := r.foot) (fun k _ e => Or.inr (Or.inl e))).nw n1).grown hgrow (fun k hk => ⟨Or.inl (Or.inr (Or.inr hk)), by have := (own_block h.own hk).1; omega⟩)
  have q : Upd (fun x => x = r.bb) w4 (w4.setCell ⟨r.bb, 2, none⟩ (.slice (some ⟨gg, 0, none⟩) (b.es.length + 1) cap2)) := Upd.set1 (Upd.refl _ _) (by omega) 2 _
  refine ⟨by rw [cells_cell k4]; rfl, cells_frozen k4 2, ⟨h.hb, h.bb, h.fb, setCell_block k4 2 _, ?_, ?_, ?_, ?_, h.last, h.told, h.key⟩, u4.trans' q (fun k _ e => Or.inl e), ?_⟩
  · have := owns_upd' hown q (fun k hk e => by
      have : gg = k := by simpa [Value.ownBlock] using hk
      omega)
    simpa using this
  · obtain ⟨es, clock, hm, rr⟩ := hm
    exact ⟨es, clock, q.keep (grown_keep hgrow (Nw.keep n1 hm) hne2) (fun e => hne3 e.symm), rr⟩
  · intro u hu
    rcases List.mem_append.1 hu with hu | hu
    · exact h.keys u hu
    · rw [List.mem_singleton.1 hu]; exact ⟨hk, ht⟩
  · simp; omega
  · rintro j (rfl | rfl | hj)
    · exact Or.inl (Or.inl rfl)
    · exact Or.inl (Or.inr (Or.inl rfl))
    · have : gg = j := by simpa [Value.ownBlock] using hj
      subst this
      rcases hat with e | e
      · exact Or.inl (Or.inr (Or.inr e))
      · exact Or.inr (by omega)
set_option maxHeartbeats 2000000 in
set_option maxRecDepth 100000 in
theorem append_b (B : Nat) (r : BookR) (rb : Nat) (b : Bk.Book) (t : List UInt8) (w : World) (g : Gl w) (h : BookAt B w r rb b) (hB : B ≤ w.heap.size) (ht : t.length ≤ 140737488351232) :
    Calls Tryz.prog 68 #[.pointer (some ⟨r.bb, 0, none⟩), .string ⟨t.toArray⟩] w (AppendPost B r rb b t w) := by
  obtain ⟨a, cap, hev⟩ := h.slice
  obtain ⟨i0, hi0, hz0, hz1, hz2⟩ := info_parts infoStr'
  have Hlen := Lib.hid h.len
  have hap : Bk.append b t = (if (Cl.key t).2 = false then (((0 : Int), (2 : Int)), b)
    else if 20000 < t.length then ((0, 3), b)
    else if 200000 ≤ b.es.length then ((0, 6), b)
    else (((b.es.length : Int), 0), { b with es := b.es ++ [t] }) : (Int × Int) × Bk.Book) := rfl
  have Hap := Lib.hid hap; clear hap
  have hne3 : ¬ r.bb = r.fb := by
    intro e
    obtain ⟨es, clock, hm, _⟩ := h.map
    have := h.blk
    rw [e, hm] at this
    cases this
  have hnf : ∀ k, r.ev.ownBlock = some k → ¬ k = r.fb := by
    rintro k hk rfl
    obtain ⟨_, cs, hh⟩ := own_block h.own hk
    obtain ⟨es, clock, hm, _⟩ := h.map
    rw [hh] at hm
    cases hm
  have Hev := Lib.hid hev; clear hev
  have hgf : nG ≤ r.fb := Nat.le_trans h.hb h.fb
  have hkl : (Cl.key t).1.length ≤ t.length := key_len t
  go_enter Tryz.func68, Tryz.ntmps68
  go_wp2_with fail
  (with_reducible refine (key_c ⟨t.toArray⟩ t (bs_list _) (by omega) _ g).mono ?_)
  rintro _ w1 ⟨rfl, u1⟩
  have h1 := h.nw u1
  have hB1 : B ≤ w1.heap.size := Nat.le_trans hB u1.size
  clear g
  cases hok : (Cl.key t).2 with
  | false =>
    have hr : Hid (Bk.append b t = ((0, 2), b)) := by show _ = _; rw [Hap.out, if_pos hok]
    clear hok
    go_wp2_with fail
    go_ret2
    exact ⟨r, by rw [hr.out]; rfl, by rw [hr.out]; exact h1, rfl, u1.mono (fun _ _ s => s.elim), fun j hj => Or.inl hj⟩
  | true =>
  by_cases ht1 : 20000 < t.length
  · have hr : Hid (Bk.append b t = ((0, 3), b)) := by show _ = _; rw [Hap.out, if_neg (by rw [hok]; simp), if_pos ht1]
    clear hok
    go_wp2_with fail
    go_ret2
    exact ⟨r, by rw [hr.out]; rfl, by rw [hr.out]; exact h1, rfl, u1.mono (fun _ _ s => s.elim), fun j hj => Or.inl hj⟩
  have ht2 : t.length ≤ 20000 := by omega
  have c2 : w1.cell? ⟨r.bb, 2, none⟩ = some (.slice a b.es.length cap) := by rw [h1.cells.2.2.1, Hev.out]
  by_cases hl : 200000 ≤ b.es.length
  · have hr : Hid (Bk.append b t = ((0, 6), b)) := by show _ = _; rw [Hap.out, if_neg (by rw [hok]; simp), if_neg ht1, if_pos hl]
    clear hok
    have hl2 : (200000 : Int) ≤ (b.es.length : Int) := by omega
    clear hl
    go_wp2_with fail
    go_ret2
    exact ⟨r, by rw [hr.out]; rfl, by rw [hr.out]; exact h1, rfl, u1.mono (fun _ _ s => s.elim), fun j hj => Or.inl hj⟩
  have hl3 : b.es.length < 200000 := by omega
  have Hl2 := Lib.hid hl3; clear hl3
  have hd0 : decide ((200000 : Int) ≤ (b.es.length : Int)) = false := decide_eq_false (by omega)
  have hr : Hid (Bk.append b t = (((b.es.length : Int), (0 : Int)), { b with es := b.es ++ [t] })) := by show _ = _; rw [Hap.out, if_neg (by rw [hok]; simp), if_neg ht1, if_neg hl]
  have c3 := h1.cells.2.2.2.1
  clear hl
  rcases h1.look (Cl.key t).1 (by omega) with ⟨i, hi, hrun⟩ | ⟨hno, hrun⟩
  · have hm3 : MapL Tryz.prog tStr w1 r.fb (mapF (b.es ++ [t])) := by rw [first_there hi]; exact h1.map
    have u3 : Upd (· = r.fb) w1 w1 := Upd.refl _ _
    have hok' := Lib.hid hok
    have hev := Hev.out
    have Hrun := Lib.hid hrun; clear hrun
    have c2 : w1.cell? ⟨r.bb, 2, none⟩ = some (.slice a b.es.length cap) := by rw [cells_cell (u3.keep h1.blk hne3)]; show some r.ev = _; rw [hev]
    have o3 : w1.ownsRow B tStr 1 (.slice a b.es.length cap) b.es.length (b.es.map strB) := by rw [← hev]; exact owns_upd' h1.own u3 hnf
    have hs3 := u3.size
    have HEV := Lib.hid hev
    clear hev
    go_wp2_with (first | (at_lookup; refine wpList_lookL rfl _ _ 133 true rfl _ _ _ rfl rfl Hrun.out ?_) | fail | (at_builtin; refine wpList_append_lies _ rfl _ _ _ rfl B tStr i0 _ 1 16 Tryz.underlying30 hi0 hz0 hz1 hz2 rfl (by omega) _ _ _ rfl (o3.alloc _) ⟨w1.heap.size, 0, none⟩ 1 1 [strB t] rfl rfl ?c0 ?c1 (by omega) ?c2 ?c3 ?c4 (w1.heap.size + 1) (by simp) ?_))
    case c0 => exact World.news_of_block (cs := #[strB t]) (t := tStr) (fr := (0, 0)) (heap_new w1 _)
    case c1 => intro u hu; rw [List.mem_singleton.1 hu]; rfl
    case c2 => have := Hl2.out; unfold maxLen; omega
    case c3 => have := Hl2.out; omega
    case c4 => simp; omega
    intro gg cap2 w4 hown4 hgrow hat hlt4
    have hd := book_done (cap2 := cap2) (o := .cells #[strB t] tStr) h1 hB1 u3 hm3 hown4 (by rw [HEV.out]; exact hgrow) (by rw [HEV.out]; exact hat) hok ht2 (by have := Hl2.out; omega)
    rw [HEV.out] at hd
    obtain ⟨d1, d2, d3, d4, d5⟩ := hd
    have D3 := Lib.hid d3
    have D4 := Lib.hid d4
    have D5 := Lib.hid d5
    clear d3 d4 d5 hown4 hgrow hat hlt4 c2 o3
    go_wp2_with fail
    go_ret2
    refine ⟨⟨r.bb, r.fb, .slice (some ⟨gg, 0, none⟩) (b.es.length + 1) cap2⟩, by rw [hr.out]; rfl, by rw [hr.out]; exact D3.out, rfl, Nw.trans u1 D4.out, fun j hj => (D5.out j hj).imp id (fun e => by have := u1.size; omega)⟩
  · obtain ⟨w3, hst, hm3', u3⟩ := h1.map.store_new strKeyed Tryz.underlying133 hgf (key := strB (Cl.key t).1) (WideMaps.keyOf_string_mk Tryz.underlying9 (by rw [bs_size, bs_list]; unfold maxLen; omega)) (fun p hp e => by
      obtain ⟨k2, i, hi, rfl⟩ := mapF_mem.1 hp
      rw [strB_inj e] at hi
      exact hno i hi) (.int .i64 b.es.length)
    have hm3 : MapL Tryz.prog tStr w3 r.fb (mapF (b.es ++ [t])) := by rw [first_new hno]; exact hm3'
    dsimp only [strB] at hst
    clear hm3'
    have hev := Hev.out
    have Hrun := Lib.hid hrun; clear hrun
    have Hst := Lib.hid hst; clear hst
    have c2 : w3.cell? ⟨r.bb, 2, none⟩ = some (.slice a b.es.length cap) := by rw [cells_cell (u3.keep h1.blk hne3)]; show some r.ev = _; rw [hev]
    have o3 : w3.ownsRow B tStr 1 (.slice a b.es.length cap) b.es.length (b.es.map strB) := by rw [← hev]; exact owns_upd' h1.own u3 hnf
    have hs3 := u3.size
    have HEV := Lib.hid hev
    clear hev
    go_wp2_with (first | (at_lookup; refine wpList_lookL rfl _ _ 133 true rfl _ _ _ rfl rfl Hrun.out ?_) | (at_mapUpdate; refine wpList_storeL rfl _ _ _ 133 rfl _ _ _ rfl rfl rfl Hst.out ?_) | (at_builtin; refine wpList_append_lies _ rfl _ _ _ rfl B tStr i0 _ 1 16 Tryz.underlying30 hi0 hz0 hz1 hz2 rfl (by omega) _ _ _ rfl (o3.alloc _) ⟨w3.heap.size, 0, none⟩ 1 1 [strB t] rfl rfl ?c0 ?c1 (by omega) ?c2 ?c3 ?c4 (w3.heap.size + 1) (by simp) ?_))
    case c0 => exact World.news_of_block (cs := #[strB t]) (t := tStr) (fr := (0, 0)) (heap_new w3 _)
    case c1 => intro u hu; rw [List.mem_singleton.1 hu]; rfl
    case c2 => have := Hl2.out; unfold maxLen; omega
    case c3 => have := Hl2.out; omega
    case c4 => simp; omega
    intro gg cap2 w4 hown4 hgrow hat hlt4
    have hd := book_done (cap2 := cap2) (o := .cells #[strB t] tStr) h1 hB1 u3 hm3 hown4 (by rw [HEV.out]; exact hgrow) (by rw [HEV.out]; exact hat) hok ht2 (by have := Hl2.out; omega)
    rw [HEV.out] at hd
    obtain ⟨d1, d2, d3, d4, d5⟩ := hd
    have D3 := Lib.hid d3
    have D4 := Lib.hid d4
    have D5 := Lib.hid d5
    clear d3 d4 d5 hown4 hgrow hat hlt4 c2 o3
    go_wp2_with fail
    go_ret2
    refine ⟨⟨r.bb, r.fb, .slice (some ⟨gg, 0, none⟩) (b.es.length + 1) cap2⟩, by rw [hr.out]; rfl, by rw [hr.out]; exact D3.out, rfl, Nw.trans u1 D4.out, fun j hj => (D5.out j hj).imp id (fun e => by have := u1.size; omega)⟩
end Go.Proofs.YtagmlemlagbfkaaGreatDoor
namespace Go.Proofs.YtagmlemlagbfkaaGreatDoor
open Go.RowKit
set_option linter.unusedVariables false
set_option linter.unusedSimpArgs false
attribute [local irreducible] Calls

theorem text_len (c : Cl.Clm) (hi : I64C c) : (Cl.text c).length ≤ 30000 := by
  cases h : Cl.right c with
  | false => rw [Cl.text, h]; simp
  | true =>
    obtain ⟨h1, h2, h3, h4, h5, h6, h7⟩ := Cl.right_bounds h
    have i1 := itoa_le hi.k
    have i2 := itoa_le hi.n
    have i3 := itoa_le hi.t
    have i4 := itoa_le (n := (c.text.length : Int)) (by unfold I64; omega)
    rw [Cl.text, if_pos h]
    unfold Cl.enc Wire.numE
    rw [if_neg (by omega), if_neg (by omega), if_neg (by omega)]
    simp only [Wire.intE, Wire.textE, List.length_append, List.length_cons, List.length_nil]
    omega
/-- What a signing leaves: the value v, the ring with L'. -/
def SgnPost (B : Nat) (r : RingR) (v : Value) (L' : List Bk.Seal) (w : World) (e : Ending) (w' : World) : Prop :=
  ∃ r', e = .returned v ∧ RingAt B w' r' L' ∧ r'.rb = r.rb ∧ Upd r.foot w w' ∧ ∀ j, r'.foot j → r.foot j ∨ w.heap.size ≤ j
theorem signb_results {w : World} {bp : Nat} {tmps : Array Value} {v0 v1 v2 : Value} {T : TypeId} {fz : Nat × Nat} (h : w.heap[bp]? = some (.cells #[v0, v1, v2] T fz)) (ht : tmps.getD 4 undef = .pointer (some ⟨bp, 0, none⟩)) :
    (results Tryz.f178 tmps).run Tryz.prog w = .ok (.tuple #[.agg #[v0, v1, v2], tmps.getD 5 undef]) w := by
  have c0 : w.cell? ⟨bp, 0, none⟩ = some v0 := by rw [cells_cell h]; rfl
  have c1 : w.cell? ⟨bp, 1, none⟩ = some v1 := by rw [cells_cell h]; rfl
  have c2 : w.cell? ⟨bp, 2, none⟩ = some v2 := by rw [cells_cell h]; rfl
  clear h
  have ht2 : tmps[4]?.getD undef = .pointer (some ⟨bp, 0, none⟩) := by simpa using ht
  clear ht
  simp [results, Tryz.results178, go_sem, ht2, c0, c1, c2]
theorem BookAt.later {B : Nat} {w : World} {r : BookR} {rb : Nat} {b : Bk.Book} (h : BookAt B w r rb b) :
    (∀ i : Later w, i.1.cell? ⟨r.bb, 0, none⟩ = some (.pointer (some ⟨rb, 0, none⟩))) ∧ (∀ i : Later w, i.1.cell? ⟨r.bb, 1, none⟩ = some (.int .i64 b.key)) := 
  ⟨fun i => (h.nw i.nw).cells.1, fun i => (h.nw i.nw).cells.2.1⟩
set_option maxHeartbeats 2000000 in
set_option maxRecDepth 100000 in
theorem sign_b (B : Nat) (r : RingR) (br : BookR) (L : List Bk.Seal) (b : Bk.Book) (c : Cl.Clm) (w : World) (g : Gl w) (hr : RingAt B w r L) (h : BookAt B w br r.rb b) (hB : B ≤ w.heap.size) (ic : I64C c) (hL : L.length ≤ 1000000) :
    Calls Tryz.prog 178 #[.pointer (some ⟨br.bb, 0, none⟩), .agg #[.int .i64 c.kind, .int .i64 c.n, .int .i64 c.time, .string ⟨c.text.toArray⟩]] w (SgnPost B r (.tuple #[sgnV (Bk.signC L b c).1, .int .i64 0]) (Bk.signC L b c).2 w) := by
  have n1 := nw_alloc w (.cells #[.int .i64 c.kind, .int .i64 c.n, .int .i64 c.time, .string ⟨c.text.toArray⟩] 138)
  have k1 := heap_new w (.cells #[.int .i64 c.kind, .int .i64 c.n, .int .i64 c.time, .string ⟨c.text.toArray⟩] 138)
  have n2 := nw_alloc (w.alloc (.cells #[.int .i64 c.kind, .int .i64 c.n, .int .i64 c.time, .string ⟨c.text.toArray⟩] 138)) (.cells #[.int .i64 0, .string ⟨#[]⟩, .int .i64 0] tSigned)
  have k2 := heap_new (w.alloc (.cells #[.int .i64 c.kind, .int .i64 c.n, .int .i64 c.time, .string ⟨c.text.toArray⟩] 138)) (.cells #[.int .i64 0, .string ⟨#[]⟩, .int .i64 0] tSigned)
  replace k1 := Nw.keep n2 k1
  have u2 := n1.trans n2
  rw [show (w.alloc (.cells #[.int .i64 c.kind, .int .i64 c.n, .int .i64 c.time, .string ⟨c.text.toArray⟩] 138)).heap.size = w.heap.size + 1 by simp] at k2
  obtain ⟨W2, hW2⟩ : ∃ W2, (w.alloc (.cells #[.int .i64 c.kind, .int .i64 c.n, .int .i64 c.time, .string ⟨c.text.toArray⟩] 138)).alloc (.cells #[.int .i64 0, .string ⟨#[]⟩, .int .i64 0] tSigned) = W2 := ⟨_, rfl⟩
  rw [hW2] at k1 k2 u2
  have HW2 := Lib.hid hW2; clear hW2
  have h2 := h.nw u2
  have g2 := g.upd u2
  obtain ⟨_, _⟩ := h2.later
  obtain ⟨_, _, _, _⟩ := later_claim k1
  have K2 := Lib.hid k2
  clear k1 k2 n1 n2
  have q := text_c c _ (bs_list _) ic
  have hl := text_len c ic
  have hkey := h.key
  have hs : Bk.signC L b c = Bk.sign L b.key (Cl.text c) := rfl
  rw [hs]
  generalize Cl.text c = T at *
  have Q := Lib.hid q; clear q hs
  go_enter Tryz.func178, Tryz.ntmps178
  go_wp2_with fail
  rw [HW2.out]
  refine wp_region_nw_tail 10 (by kernel_rfl) (by kernel_rfl) ?_
  simp only [List.take_succ_cons, List.take_zero, List.drop_succ_cons, List.drop_zero]
  repeat (go_big_quiet_step ((go_at_call 210; exact later_call (Q.out _ (g2.upd (Later.nw _))))))
  refine wpQuiet_nil ?_
  intro w3 u3
  replace u3 := later_out u3
  have hr3 := (hr.nw u2).nw u3
  have g3 := g2.upd u3
  have hs3 := (u2.trans u3).size
  go_wp2_with fail
  (with_reducible refine (sign_s B r L b.key T _ g3 hr3 (by unfold I64; omega) (by omega) hL (by omega)).mono ?_)
  rintro _ w4 ⟨r', rfl, hr4, hrb, u4, hf4⟩
  generalize Bk.sign L b.key T = sg at *
  obtain ⟨⟨sk, st, sm⟩, L'⟩ := sg
  unfold sgnV
  dsimp only at hr4
  dsimp only
  have k4 := u4.keep (u3.keep K2.out) (fun e => by have := (hr.foot_lt e).2; omega)
  have K4 := Lib.hid k4
  have f0 := cells_frozen k4 0
  have f1 := cells_frozen k4 1
  have f2 := cells_frozen k4 2
  obtain ⟨_, _, _⟩ := cell3 k4
  have hgb := g.big
  clear k4 Q
  go_wp2_with fail
  (try simp only [Exit.inBlock, Exit.then])
  have q : Upd (fun x => x = w.heap.size + 1) w4 (((w4.setCell ⟨w.heap.size + 1, 0, none⟩ (.int .i64 sk)).setCell ⟨w.heap.size + 1, 1, none⟩ (.string ⟨st.toArray⟩)).setCell ⟨w.heap.size + 1, 2, none⟩ (.int .i64 sm)) :=
    Upd.set1 (Upd.set1 (Upd.set1 (Upd.refl _ _) (by omega) 0 _) (by omega) 1 _) (by omega) 2 _
  have hk4 := lt_of_block (u3.keep K2.out)
  refine bodyPost_ret (signb_results (set3 K4.out) rfl) rfl ⟨r', rfl, hr4.upd q (fun j hj e => ?_), hrb, (Nw.trans (u2.trans u3) u4).trans' q (fun j hj e => by omega), fun j hj => (hf4 j hj).imp id (fun e => by omega)⟩
  rcases hf4 j hj with e2 | e2
  · have := (hr.foot_lt e2).2; omega
  · omega
theorem entryb_results {w : World} {bp : Nat} {tmps : Array Value} {v0 v1 v2 : Value} {T : TypeId} {fz : Nat × Nat} (h : w.heap[bp]? = some (.cells #[v0, v1, v2] T fz)) (ht : tmps.getD 4 undef = .pointer (some ⟨bp, 0, none⟩)) :
    (results Tryz.f127 tmps).run Tryz.prog w = .ok (.tuple #[.agg #[v0, v1, v2], tmps.getD 5 undef]) w := by
  have c0 : w.cell? ⟨bp, 0, none⟩ = some v0 := by rw [cells_cell h]; rfl
  have c1 : w.cell? ⟨bp, 1, none⟩ = some v1 := by rw [cells_cell h]; rfl
  have c2 : w.cell? ⟨bp, 2, none⟩ = some v2 := by rw [cells_cell h]; rfl
  clear h
  have ht2 : tmps[4]?.getD undef = .pointer (some ⟨bp, 0, none⟩) := by simpa using ht
  clear ht
  simp [results, Tryz.results127, go_sem, ht2, c0, c1, c2]
/-- What is left to do behind the signing: the result's three cells. -/
theorem sgn_end {B : Nat} {r r' : RingR} {L' : List Bk.Seal} {w w2 w4 : World} (hgb : nG ≤ w.heap.size) (hrb : r'.rb = r.rb) (hr4 : RingAt B w4 r' L') (hlt : ∀ j, r.foot j → j < w.heap.size) (u2 : Nw w w2) (u4 : Upd r.foot w2 w4) (hf4 : ∀ j, r'.foot j → r.foot j ∨ w2.heap.size ≤ j) (hw2 : w.heap.size < w2.heap.size) (v0 v1 v2 v : Value) :
    SgnPost B r v L' w (.returned v) (((w4.setCell ⟨w.heap.size, 0, none⟩ v0).setCell ⟨w.heap.size, 1, none⟩ v1).setCell ⟨w.heap.size, 2, none⟩ v2) := by
  have q : Upd (fun x => x = w.heap.size) w4 (((w4.setCell ⟨w.heap.size, 0, none⟩ v0).setCell ⟨w.heap.size, 1, none⟩ v1).setCell ⟨w.heap.size, 2, none⟩ v2) :=
    Upd.set1 (Upd.set1 (Upd.set1 (Upd.refl _ _) hgb 0 _) hgb 1 _) hgb 2 _
  refine ⟨r', rfl, hr4.upd q (fun j hj e => ?_), hrb, (Nw.trans u2 u4).trans' q (fun j hj e => by omega), fun j hj => (hf4 j hj).imp id (fun e => by omega)⟩
  rcases hf4 j hj with e2 | e2
  · have := hlt j e2; omega
  · omega
set_option maxHeartbeats 2000000 in
set_option maxRecDepth 100000 in
theorem entry_b (B : Nat) (r : RingR) (br : BookR) (L : List Bk.Seal) (b : Bk.Book) (i : Int) (w : World) (g : Gl w) (hr : RingAt B w r L) (h : BookAt B w br r.rb b) (hB : B ≤ w.heap.size) (hi : I64 i) (hL : L.length ≤ 1000000) :
    Calls Tryz.prog 127 #[.pointer (some ⟨br.bb, 0, none⟩), .int .i64 i] w (SgnPost B r (.tuple #[sgnV (Bk.entry L b i).1.1, .int .i64 (Bk.entry L b i).1.2]) (Bk.entry L b i).2 w) := by
  have n1 := nw_alloc w (.cells #[.int .i64 0, .string ⟨#[]⟩, .int .i64 0] tSigned)
  have k1 := heap_new w (.cells #[.int .i64 0, .string ⟨#[]⟩, .int .i64 0] tSigned)
  have h1 := h.nw n1
  have hgb := g.big
  have K1 := Lib.hid k1; clear k1
  by_cases hc : i < 0 ∨ (b.es.length : Int) ≤ i
  · have hx : Hid (Bk.entry L b i = ((Bk.noSgn, 4), L)) := by show _ = _; unfold Bk.entry; rw [if_pos hc]
    have ht : Hid (Bk.textAt b i = ([], false)) := by show _ = _; unfold Bk.textAt; rw [if_pos hc]
    clear hc
    go_enter Tryz.func127, Tryz.ntmps127
    go_wp2_with fail
    (with_reducible refine (text_b B br r.rb b i _ h1).mono ?_)
    rintro _ w2 ⟨rfl, u2⟩
    rw [ht.out]
    have k2 := u2.keep K1.out
    have f0 := cells_frozen k2 0
    have f1 := cells_frozen k2 1
    have f2 := cells_frozen k2 2
    obtain ⟨_, _, _⟩ := cell3 k2
    have K2 := Lib.hid k2; clear k2
    replace u2 := n1.trans u2
    go_wp2_with fail
    (try simp only [Exit.inBlock, Exit.then])
    rw [hx.out]
    exact bodyPost_ret (entryb_results (set3 K2.out) rfl) rfl (sgn_end hgb rfl (hr.nw u2) (fun j hj => (hr.foot_lt hj).2) u2 (Upd.refl _ _) (fun j hj => Or.inl hj) (lt_of_block K2.out) _ _ _ _)
  · have ⟨hc1, hc2⟩ : 0 ≤ i ∧ i < (b.es.length : Int) := by omega
    obtain ⟨n, rfl⟩ := Int.eq_ofNat_of_zero_le hc1
    have hn : n < b.es.length := by omega
    have hx : Bk.entry L b n = (((Bk.signC L b ⟨0, n, 0, b.es[n]⟩).1, 0), (Bk.signC L b ⟨0, n, 0, b.es[n]⟩).2) := by
      unfold Bk.entry
      rw [if_neg hc, Int.toNat_natCast, List.getD_eq_getElem?_getD, List.getElem?_eq_getElem hn]; rfl
    have ht : Hid (Bk.textAt b n = (b.es[n], true)) := by
      show _ = _
      unfold Bk.textAt
      rw [if_neg hc, Int.toNat_natCast, List.getD_eq_getElem?_getD, List.getElem?_eq_getElem hn]; rfl
    have hk := (h.keys _ (List.getElem_mem hn)).2
    rw [hx]
    dsimp only
    generalize b.es[n] = x at *
    clear hc hx hc2 hn
    have ic : I64C ⟨0, n, 0, x⟩ := ⟨by show I64 0; unfold I64; omega, hi, by show I64 0; unfold I64; omega, by show x.length ≤ _; omega⟩
    go_enter Tryz.func127, Tryz.ntmps127
    go_wp2_with fail
    (with_reducible refine (text_b B br r.rb b n _ h1).mono ?_)
    rintro _ w2 ⟨rfl, u2⟩
    rw [ht.out]
    have k2 := u2.keep K1.out
    replace u2 := n1.trans u2
    go_wp2_with fail
    (with_reducible refine (sign_b B r br L b ⟨0, n, 0, x⟩ _ (g.upd u2) (hr.nw u2) (h.nw u2) (Nat.le_trans hB u2.size) ic hL).mono ?_)
    rintro _ w4 ⟨r', rfl, hr4, hrb, u4, hf4⟩
    generalize Bk.signC L b ⟨0, n, 0, x⟩ = sg at *
    obtain ⟨⟨sk, st, sm⟩, L'⟩ := sg
    unfold sgnV
    dsimp only at hr4
    dsimp only
    have k4 := u4.keep k2 (fun e => by have := (hr.foot_lt e).2; omega)
    have K4 := Lib.hid k4
    have f0 := cells_frozen k4 0
    have f1 := cells_frozen k4 1
    have f2 := cells_frozen k4 2
    obtain ⟨_, _, _⟩ := cell3 k4
    clear k4
    go_wp2_with fail
    (try simp only [Exit.inBlock, Exit.then])
    exact bodyPost_ret (entryb_results (set3 K4.out) rfl) rfl (sgn_end hgb hrb hr4 (fun j hj => (hr.foot_lt hj).2) u2 u4 hf4 (lt_of_block k2) _ _ _ _)
end Go.Proofs.YtagmlemlagbfkaaGreatDoor
