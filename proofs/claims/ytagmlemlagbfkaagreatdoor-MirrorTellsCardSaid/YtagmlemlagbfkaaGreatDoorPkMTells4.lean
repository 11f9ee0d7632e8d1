/- The ring of signatures (layer 5) in memory; the contracts of New, key, Valid, Sign. The contracts of the ring's Valid and Sign. The contract of the ring's Sign. The contracts of slices.Clone on entries, and of the ring's All. -/
import Derived.Test.YtagmlemlagbfkaaGreatDoorPkMTells0
import Derived.Test.YtagmlemlagbfkaaGreatDoorPkMTells1
import Derived.Test.YtagmlemlagbfkaaGreatDoorPkMTells2
import Derived.Test.YtagmlemlagbfkaaGreatDoorPkMTells3
import Derived.StillTailTactics
import Derived.Deep.AppendLies
import Derived.Deep.RegionLaw
import Derived.BigRegion
import Derived.Lib.SliceRun
namespace Go.Proofs.YtagmlemlagbfkaaGreatDoor
open Go.RowKit
open Go.Maps (Keyed)
set_option linter.unusedVariables false
set_option linter.unusedSimpArgs false
attribute [local irreducible] Calls

abbrev tSealed : TypeId := 224
abbrev tSigned : TypeId := 51
abbrev tRing : TypeId := 122
def sealL (x : Bk.Seal) : List Value := [.int .i64 x.key, .string ⟨x.text.toArray⟩]
def sealV (x : Bk.Seal) : Value := .agg #[.int .i64 x.key, .string ⟨x.text.toArray⟩]
def sgnV (x : Bk.Sgn) : Value := .agg #[.int .i64 x.key, .string ⟨x.text.toArray⟩, .int .i64 x.mark]
theorem sealKeyed : Keyed Tryz.prog tSealed := Keyed.of_law (deep_law_laid laidOut (m := 4) (by decide) (of_decide_eq_true (by kernel_rfl)) (by kernel_rfl) (by kernel_rfl))
theorem sealV_key (x : Bk.Seal) (hk : I64 x.key) (ht : x.text.length ≤ maxLen) : ∃ l, keyOf Tryz.prog tSealed (sealV x) = some l :=
  key_int_str Tryz.underlying224 Tryz.underlying3 Tryz.underlying9 (by kernel_rfl) (of_decide_eq_true (by kernel_rfl)) (by kernel_rfl) (by kernel_rfl) (by kernel_rfl) (by decide) (by decide) rfl rfl rfl rfl _ hk _ (by rw [bs_size, bs_list]; exact ht)
/-- Where a ring lies: its own block, its map's, the value of its slice of entries. -/
structure RingR where
  rb : Nat
  mb : Nat
  ev : Value
/-- The blocks that belong to a ring. -/
def RingR.foot (r : RingR) (k : Nat) : Prop := k = r.rb ∨ k = r.mb ∨ r.ev.ownBlock = some k
def markL (L : List Bk.Seal) : List (Value × Value) := L.zipIdx.map fun p => (sealV p.1, .int .i64 p.2)
/-- In the blocks from B on lies the ring r with the entries L. -/
structure RingAt (B : Nat) (w : World) (r : RingR) (L : List Bk.Seal) : Prop where
  hb : nG ≤ B
  rb : B ≤ r.rb
  mb : B ≤ r.mb
  blk : w.heap[r.rb]? = some (.cells #[r.ev, .map (some r.mb)] tRing (0, 0))
  own : w.ownsRow B tSealed 2 r.ev L.length ((L.map sealL).flatten)
  map : MapL Tryz.prog tSealed w r.mb (markL L)
  nd : L.Nodup
  key : ∀ x ∈ L, I64 x.key ∧ x.text.length ≤ 140737488351232
theorem own_block {B sz : Nat} {e : TypeId} {w : World} {v : Value} {n : Nat} {xs : List Value} (h : w.ownsRow B e sz v n xs) {k : Nat} (hk : v.ownBlock = some k) : B ≤ k ∧ ∃ cs, w.heap[k]? = some (.cells cs e (0, 0)) := by
  rcases h.2 with ⟨rfl, _⟩ | ⟨g, cap, cur, rfl, hb, hg, _⟩
  · cases hk
  · obtain rfl : g = k := by simpa [Value.ownBlock] using hk
    exact ⟨hb, _, hg⟩
theorem owns_upd' {B sz : Nat} {S : Nat → Prop} {e : TypeId} {w w' : World} {v : Value} {n : Nat} {xs : List Value} (h : w.ownsRow B e sz v n xs) (u : Upd S w w') (hs : ∀ k, v.ownBlock = some k → ¬ S k) : w'.ownsRow B e sz v n xs := by
  obtain ⟨h1, h2⟩ := h
  refine ⟨h1, ?_⟩
  rcases h2 with h2 | ⟨g, cap, cur, rfl, hb, hg, r⟩
  · exact Or.inl h2
  · exact Or.inr ⟨g, cap, cur, rfl, hb, u.keep hg (hs g rfl), r⟩
theorem RingAt.foot_lt {B : Nat} {w : World} {r : RingR} {L : List Bk.Seal} (h : RingAt B w r L) {k : Nat} (hk : r.foot k) : B ≤ k ∧ k < w.heap.size := by
  rcases hk with rfl | rfl | hk
  · exact ⟨h.rb, lt_of_block h.blk⟩
  · exact ⟨h.mb, h.map.lt⟩
  · obtain ⟨h1, cs, h2⟩ := own_block h.own hk
    exact ⟨h1, lt_of_block h2⟩
theorem RingAt.upd {B : Nat} {S : Nat → Prop} {w w' : World} {r : RingR} {L : List Bk.Seal} (h : RingAt B w r L) (u : Upd S w w') (hs : ∀ k, r.foot k → ¬ S k) : RingAt B w' r L :=
  ⟨h.hb, h.rb, h.mb, u.keep h.blk (hs _ (Or.inl rfl)), owns_upd' h.own u (fun k hk => hs k (Or.inr (Or.inr hk))), h.map.upd u (hs _ (Or.inr (Or.inl rfl))), h.nd, h.key⟩
theorem RingAt.nw {B : Nat} {w w' : World} {r : RingR} {L : List Bk.Seal} (h : RingAt B w r L) (u : Nw w w') : RingAt B w' r L := h.upd u (fun _ _ s => s)
theorem RingAt.c0 {B : Nat} {w : World} {r : RingR} {L : List Bk.Seal} (h : RingAt B w r L) : w.cell? ⟨r.rb, 0, none⟩ = some r.ev := by rw [cells_cell h.blk]; rfl
theorem RingAt.c1 {B : Nat} {w : World} {r : RingR} {L : List Bk.Seal} (h : RingAt B w r L) : w.cell? ⟨r.rb, 1, none⟩ = some (.map (some r.mb)) := by rw [cells_cell h.blk]; rfl
theorem sealV_inj {x y : Bk.Seal} (h : sealV x = sealV y) : x = y := by
  obtain ⟨a, s⟩ := x
  obtain ⟨b, t⟩ := y
  simp [sealV] at h
  obtain ⟨rfl, rfl⟩ := h
  rfl
theorem mark_mem {L : List Bk.Seal} {p : Value × Value} : p ∈ markL L ↔ ∃ (i : Nat) (h : i < L.length), p = (sealV L[i], .int .i64 i) := by
  constructor
  · intro h
    obtain ⟨q, hq, rfl⟩ := List.mem_map.1 h
    obtain ⟨x, i⟩ := q
    rw [List.mk_mem_zipIdx_iff_getElem?] at hq
    obtain ⟨hi, e⟩ := List.getElem?_eq_some_iff.1 hq
    exact ⟨i, hi, by rw [e]⟩
  · rintro ⟨i, hi, rfl⟩
    exact List.mem_map.2 ⟨(L[i], i), by rw [List.mk_mem_zipIdx_iff_getElem?, List.getElem?_eq_getElem hi], rfl⟩
theorem mark_snoc (L : List Bk.Seal) (x : Bk.Seal) : markL (L ++ [x]) = markL L ++ [(sealV x, .int .i64 L.length)] := by
  simp [markL, List.zipIdx_append]
/-- What the ring's map answers. -/
theorem RingAt.look {B : Nat} {w : World} {r : RingR} {L : List Bk.Seal} (h : RingAt B w r L) (x : Bk.Seal) (hk : I64 x.key) (ht : x.text.length ≤ 140737488351232) :
    (Instr.lookup 119 (.map (some r.mb)) (sealV x) true).run Tryz.prog w = .ok (match Bk.place L x with | some i => .tuple #[.int .i64 i, .bool true] | none => .tuple #[.int .i64 0, .bool false]) w := by
  obtain ⟨l, hl⟩ := sealV_key x hk (by unfold maxLen; omega)
  have hz : (zeroValue 3).run Tryz.prog w = .ok (.int .i64 0) w := by kernel_rfl
  rcases h.map.look sealKeyed Tryz.underlying119 hz hl with ⟨v, hv, hrun⟩ | ⟨hno, hrun⟩
  · obtain ⟨i, hi, e⟩ := mark_mem.1 hv
    have e1 := sealV_inj (Prod.mk.inj e).1
    rw [hrun true, (Prod.mk.inj e).2, e1, Bk.place_at h.nd hi]
    rfl
  · have hp : Bk.place L x = none := Bk.place_none.2 fun hx => by
      obtain ⟨i, hi, e⟩ := List.mem_iff_getElem.1 hx
      exact hno _ (mark_mem.2 ⟨i, hi, rfl⟩) (by rw [e])
    rw [hrun true, hp]
    rfl
theorem key_s (n : Int) (w : World) : Calls Tryz.prog 223 #[.int .i64 n] w fun e w' => e = .returned (.bool (Bk.isKey n)) ∧ w = w' := by
  by_cases h1 : 0 ≤ n
  · by_cases h2 : n < 200
    · have hr : Hid (Bk.isKey n = true) := by show _ = _; unfold Bk.isKey; simp [h1, h2]
      go_enter Tryz.func223, Tryz.ntmps223
      go_wp2_with fail
      go_ret
      exact ⟨by rw [hr.out]; rfl, rfl⟩
    · have hr : Hid (Bk.isKey n = false) := by show _ = _; unfold Bk.isKey; simp [h1, h2]
      go_enter Tryz.func223, Tryz.ntmps223
      go_wp2_with fail
      go_ret
      exact ⟨by rw [hr.out]; rfl, rfl⟩
  · have hr : Hid (Bk.isKey n = false) := by show _ = _; unfold Bk.isKey; simp [h1]
    go_enter Tryz.func223, Tryz.ntmps223
    go_wp2_with fail
    go_ret
    exact ⟨by rw [hr.out]; rfl, rfl⟩
theorem new_s (w : World) (g : Gl w) : Calls Tryz.prog 9 #[] w fun e w' => ∃ r, e = .returned (.pointer (some ⟨r.rb, 0, none⟩)) ∧ RingAt w.heap.size w' r [] ∧ Nw w w' := by
  have hmm := @run_makeMap Tryz.prog
  have hk := g.big
  have m1 := MapL.made Tryz.prog tSealed w
  have u1 := nw_alloc w (.map #[] 0)
  have u2 := u1.trans (nw_alloc (w.alloc (.map #[] 0)) (.cells #[.slice none 0 0, .map (some w.heap.size)] tRing))
  have m2 := m1.nw (nw_alloc (w.alloc (.map #[] 0)) (.cells #[.slice none 0 0, .map (some w.heap.size)] tRing))
  have b2 := heap_new (w.alloc (.map #[] 0)) (.cells #[.slice none 0 0, .map (some w.heap.size)] tRing)
  have M2 := Lib.hid m2
  have B2 := Lib.hid b2
  clear m1 m2 b2
  go_enter Tryz.func9, Tryz.ntmps9
  go_wp2_with fail
  go_ret
  refine ⟨⟨w.heap.size + 1, w.heap.size, .slice none 0 0⟩, by simp, ⟨g.big, by simp, by simp, ?_, World.ownsRow_nil _ _ _ _, M2.out, List.nodup_nil, (fun x hx => by cases hx)⟩, u2⟩
  have := B2.out
  simpa using this
end Go.Proofs.YtagmlemlagbfkaaGreatDoor
namespace Go.Proofs.YtagmlemlagbfkaaGreatDoor
open Go.RowKit
open Go.Maps (Keyed)
set_option linter.unusedVariables false
set_option linter.unusedSimpArgs false
attribute [local irreducible] Calls

structure SgnOk (s : Bk.Sgn) : Prop where
  k : I64 s.key
  t : s.text.length ≤ 140737488351232
  m : I64 s.mark
theorem later3 {w : World} {b : Nat} {a0 a1 a2 : Value} {T : TypeId} (h : w.heap[b]? = some (.cells #[a0, a1, a2] T (0, 0))) :
    (∀ i : Later w, i.1.cell? ⟨b, 0, none⟩ = some a0) ∧ (∀ i : Later w, i.1.cell? ⟨b, 1, none⟩ = some a1) ∧ ∀ i : Later w, i.1.cell? ⟨b, 2, none⟩ = some a2 := by
  refine ⟨fun i => ?_, fun i => ?_, fun i => ?_⟩ <;> (rw [cells_cell (i.nw.keep h)]; rfl)
theorem later2 {w : World} {b : Nat} {a0 a1 : Value} {T : TypeId} (h : w.heap[b]? = some (.cells #[a0, a1] T (0, 0))) :
    (∀ i : Later w, i.1.cell? ⟨b, 0, none⟩ = some a0) ∧ ∀ i : Later w, i.1.cell? ⟨b, 1, none⟩ = some a1 := by
  refine ⟨fun i => ?_, fun i => ?_⟩ <;> (rw [cells_cell (i.nw.keep h)]; rfl)
theorem cell3 {w : World} {b : Nat} {a0 a1 a2 : Value} {T : TypeId} (h : w.heap[b]? = some (.cells #[a0, a1, a2] T (0, 0))) :
    w.cell? ⟨b, 0, none⟩ = some a0 ∧ w.cell? ⟨b, 1, none⟩ = some a1 ∧ w.cell? ⟨b, 2, none⟩ = some a2 := by
  refine ⟨?_, ?_, ?_⟩ <;> (rw [cells_cell h]; rfl)
theorem cell2 {w : World} {b : Nat} {a0 a1 : Value} {T : TypeId} (h : w.heap[b]? = some (.cells #[a0, a1] T (0, 0))) :
    w.cell? ⟨b, 0, none⟩ = some a0 ∧ w.cell? ⟨b, 1, none⟩ = some a1 := by
  refine ⟨?_, ?_⟩ <;> (rw [cells_cell h]; rfl)
set_option maxHeartbeats 1000000 in
theorem valid_s (B : Nat) (r : RingR) (L : List Bk.Seal) (s : Bk.Sgn) (w : World) (g : Gl w) (h : RingAt B w r L) (hs : SgnOk s) :
    Calls Tryz.prog 74 #[.pointer (some ⟨r.rb, 0, none⟩), .agg #[.int .i64 s.key, .string ⟨s.text.toArray⟩, .int .i64 s.mark]] w fun e w' => e = .returned (.bool (Bk.valid L s)) ∧ Nw w w' := by
  have n1 := nw_alloc w (.cells #[.int .i64 s.key, .string ⟨s.text.toArray⟩, .int .i64 s.mark] tSigned)
  have k1 := heap_new w (.cells #[.int .i64 s.key, .string ⟨s.text.toArray⟩, .int .i64 s.mark] tSigned)
  have h1 := h.nw n1
  have hl := fun i : Later (w.alloc (.cells #[.int .i64 s.key, .string ⟨s.text.toArray⟩, .int .i64 s.mark] tSigned)) => (h1.nw i.nw).look ⟨s.key, s.text⟩ hs.k hs.t
  have hv : Bk.valid L s = match Bk.place L ⟨s.key, s.text⟩ with
    | some i => decide ((i : Int) = s.mark)
    | none => false := rfl
  have Hv := Lib.hid hv; clear hv
  dsimp only [sealV] at hl
  obtain ⟨l0, l1, l2⟩ := later3 k1
  have c1 := fun i : Later (w.alloc (.cells #[.int .i64 s.key, .string ⟨s.text.toArray⟩, .int .i64 s.mark] tSigned)) => (h1.nw i.nw).c1
  have K1 := Lib.hid k1; clear k1
  cases hp : Bk.place L ⟨s.key, s.text⟩ with
  | none =>
    rw [hp] at hl Hv
    clear hp
    go_enter Tryz.func74, Tryz.ntmps74
    go_wp2_with fail
    refine wp_region_nw (by kernel_rfl) (by kernel_rfl) ?_
    repeat (go_big_quiet_step ((fail)))
    refine wpQuiet_nil ?_
    intro w2 u2
    replace u2 := later_out u2
    obtain ⟨_, _, _⟩ := cell3 (u2.keep K1.out)
    go_wp2_with fail
    go_ret
    exact ⟨ret_bool Hv.out.symm, n1.trans u2⟩
  | some i =>
    rw [hp] at hl Hv
    clear hp
    go_enter Tryz.func74, Tryz.ntmps74
    go_wp2_with fail
    refine wp_region_nw (by kernel_rfl) (by kernel_rfl) ?_
    repeat (go_big_quiet_step ((fail)))
    refine wpQuiet_nil ?_
    intro w2 u2
    replace u2 := later_out u2
    obtain ⟨_, _, _⟩ := cell3 (u2.keep K1.out)
    go_wp2_with fail
    all_goals go_ret
    all_goals exact ⟨ret_bool (by rw [Hv.out]; rw [Bool.eq_iff_iff]; simp), n1.trans u2⟩
end Go.Proofs.YtagmlemlagbfkaaGreatDoor
namespace Go.Proofs.YtagmlemlagbfkaaGreatDoor
open Go.RowKit
open Go.Maps (Keyed)
set_option linter.unusedVariables false
set_option linter.unusedSimpArgs false
attribute [local irreducible] Calls

def SignPost (B : Nat) (r : RingR) (L : List Bk.Seal) (k : Int) (t : List UInt8) (w : World) (e : Ending) (w' : World) : Prop :=
  ∃ r', e = .returned (sgnV (Bk.sign L k t).1) ∧ RingAt B w' r' (Bk.sign L k t).2 ∧ r'.rb = r.rb ∧ Upd r.foot w w' ∧ ∀ j, r'.foot j → r.foot j ∨ w.heap.size ≤ j
theorem sign_results {w : World} {bp : Nat} {tmps : Array Value} {v0 v1 v2 : Value} {T : TypeId} {fz : Nat × Nat} (h : w.heap[bp]? = some (.cells #[v0, v1, v2] T fz)) (ht : tmps.getD 6 undef = .pointer (some ⟨bp, 0, none⟩)) :
    (results Tryz.f209 tmps).run Tryz.prog w = .ok (.agg #[v0, v1, v2]) w := by
  have c0 : w.cell? ⟨bp, 0, none⟩ = some v0 := by rw [cells_cell h]; rfl
  have c1 : w.cell? ⟨bp, 1, none⟩ = some v1 := by rw [cells_cell h]; rfl
  have c2 : w.cell? ⟨bp, 2, none⟩ = some v2 := by rw [cells_cell h]; rfl
  clear h
  have ht2 : tmps[6]?.getD undef = .pointer (some ⟨bp, 0, none⟩) := by simpa using ht
  clear ht
  simp [results, Tryz.results209, go_sem, ht2, c0, c1, c2]
theorem set3 {w : World} {bp : Nat} {a0 a1 a2 v0 v1 v2 : Value} {T : TypeId} {fz : Nat × Nat} (h : w.heap[bp]? = some (.cells #[a0, a1, a2] T fz)) :
    (((w.setCell ⟨bp, 0, none⟩ v0).setCell ⟨bp, 1, none⟩ v1).setCell ⟨bp, 2, none⟩ v2).heap[bp]? = some (.cells #[v0, v1, v2] T fz) :=
  setCell_block (setCell_block (setCell_block h 0 v0) 1 v1) 2 v2
theorem set3_upd {S : Nat → Prop} {w w' : World} {bp : Nat} (u : Upd S w w') (hb : w.heap.size ≤ bp) (hg : nG ≤ bp) (v0 v1 v2 : Value) :
    Upd S w (((w'.setCell ⟨bp, 0, none⟩ v0).setCell ⟨bp, 1, none⟩ v1).setCell ⟨bp, 2, none⟩ v2) :=
  Upd.new (Upd.new (Upd.new u hb hg 0 v0) hb hg 1 v1) hb hg 2 v2
theorem infoSealed : (Tryz.prog.info? tSealed).map (fun i => (i.zero, i.size, i.bytes)) = some (some (.agg #[.int .i64 0, .string ⟨#[]⟩]), 2, 24) := by kernel_rfl
theorem mark_new {L : List Bk.Seal} {x : Bk.Seal} (h : Bk.place L x = none) : ∀ p ∈ markL L, p.1 ≠ sealV x := by
  intro p hp e
  obtain ⟨i, hi, rfl⟩ := mark_mem.1 hp
  have := sealV_inj e
  exact Bk.place_none.1 h (this ▸ List.getElem_mem hi)
theorem setCell0_block {w : World} {b : Nat} {a0 a1 v : Value} {T : TypeId} {fz : Nat × Nat} (h : w.heap[b]? = some (.cells #[a0, a1] T fz)) :
    (w.setCell ⟨b, 0, none⟩ v).heap[b]? = some (.cells #[v, a1] T fz) := setCell_block h 0 v
/-- What 'r.entries = append(r.entries, e)' leaves. -/
structure AppF (B rb mb gg cap2 : Nat) (v : Value) (L : List Bk.Seal) (x : Bk.Seal) (w3 w5 : World) : Prop where
  blk : w5.heap[rb]? = some (.cells #[.slice (some ⟨gg, 0, none⟩) (L.length + 1) cap2, .map (some mb)] tRing (0, 0))
  own : w5.ownsRow B tSealed 2 (.slice (some ⟨gg, 0, none⟩) (L.length + 1) cap2) (L.length + 1) (((L ++ [x]).map sealL).flatten)
  map : MapL Tryz.prog tSealed w5 mb (markL L)
  upd : Upd (RingR.foot ⟨rb, mb, v⟩) w3 w5
  gg : v.ownBlock = some gg ∨ w3.heap.size ≤ gg
theorem app_facts {B rb mb gg cap2 : Nat} {v : Value} {L : List Bk.Seal} {x : Bk.Seal} {w3 w4 : World} {o : Obj} (h3 : RingAt B w3 ⟨rb, mb, v⟩ L) (hB : B ≤ w3.heap.size)
    (hown4 : w4.ownsRow B tSealed 2 (.slice (some ⟨gg, 0, none⟩) (L.length + 1) cap2) (L.length + 1) ((L.map sealL).flatten ++ sealL x)) (hgrow : (w3.alloc o).drew.grownBy w4 v.ownBlock) (hat : v.ownBlock = some gg ∨ gg = w3.heap.size + 1) :
    AppF B rb mb gg cap2 v L x w3 (w4.setCell ⟨rb, 0, none⟩ (.slice (some ⟨gg, 0, none⟩) (L.length + 1) cap2)) := by
  have hnG := h3.hb
  have hrb := h3.rb
  have hlt := lt_of_block h3.blk
  have hml := h3.map.lt
  dsimp only at hrb hlt hml
  have hne1 : v.ownBlock ≠ some rb := by
    intro e
    obtain ⟨_, cs, hh⟩ := own_block h3.own e
    have := h3.blk
    dsimp only at this
    rw [hh] at this
    simp [tRing, tSealed] at this
  have hne2 : v.ownBlock ≠ some mb := by
    intro e
    obtain ⟨_, cs, hh⟩ := own_block h3.own e
    obtain ⟨es, clock, hm, _⟩ := h3.map
    dsimp only at hm
    rw [hh] at hm
    cases hm
  have hne3 : rb ≠ mb := by
    intro e
    obtain ⟨es, clock, hm, _⟩ := h3.map
    have := h3.blk
    dsimp only at this hm
    rw [e, hm] at this
    cases this
  have hgrb : gg ≠ rb := by
    rintro rfl
    rcases hat with e | e
    · exact hne1 e
    · omega
  have n1 := (nw_alloc w3 o).drew
  have k4 : w4.heap[rb]? = some (.cells #[v, .map (some mb)] tRing (0, 0)) := grown_keep hgrow (Nw.keep n1 h3.blk) hne1
  have u4 : Upd (RingR.foot ⟨rb, mb, v⟩) w3 w4 := (Nw.upd _ n1).grown hgrow (fun k hk => ⟨Or.inl (Or.inr (Or.inr hk)), by have := (own_block h3.own hk).1; omega⟩)
  have u5 : Upd (RingR.foot ⟨rb, mb, v⟩) w3 (w4.setCell ⟨rb, 0, none⟩ (.slice (some ⟨gg, 0, none⟩) (L.length + 1) cap2)) := u4.setCell (p := ⟨rb, 0, none⟩) (Or.inl (Or.inl rfl)) (by show nG ≤ rb; omega) _
  have q : Upd (fun x => x = rb) w4 (w4.setCell ⟨rb, 0, none⟩ (.slice (some ⟨gg, 0, none⟩) (L.length + 1) cap2)) := Upd.set1 (Upd.refl _ _) (by omega) 0 _
  refine ⟨setCell0_block k4, ?_, ?_, u5, hat.imp id (fun e => by omega)⟩
  · rw [List.map_append, List.flatten_append, show ([x].map sealL).flatten = sealL x by simp]
    exact owns_upd' hown4 q (fun k hk e => by
      have : gg = k := by simpa [Value.ownBlock] using hk
      omega)
  · obtain ⟨es, clock, hm, r⟩ := h3.map
    dsimp only at hm
    exact ⟨es, clock, q.keep (grown_keep hgrow (Nw.keep n1 hm) hne2) (fun e => hne3 e.symm), r⟩
theorem ring_done {B rb mb gg cap2 : Nat} {v : Value} {L : List Bk.Seal} {x : Bk.Seal} {w3 w5 w6 : World} (h3 : RingAt B w3 ⟨rb, mb, v⟩ L) (F : AppF B rb mb gg cap2 v L x w3 w5) (u6 : Upd (· = mb) w5.drew w6)
    (hm6 : MapL Tryz.prog tSealed w6 mb (markL L ++ [(sealV x, .int .i64 L.length)])) (hp : Bk.place L x = none) (hk : I64 x.key) (ht : x.text.length ≤ 140737488351232) :
    RingAt B w6 ⟨rb, mb, .slice (some ⟨gg, 0, none⟩) (L.length + 1) cap2⟩ (L ++ [x]) ∧ Upd (RingR.foot ⟨rb, mb, v⟩) w3 w6 ∧ ∀ j, RingR.foot ⟨rb, mb, .slice (some ⟨gg, 0, none⟩) (L.length + 1) cap2⟩ j → RingR.foot ⟨rb, mb, v⟩ j ∨ w3.heap.size ≤ j := by
  have hne3 : ¬ rb = mb := by
    intro e
    obtain ⟨es, clock, hm, _⟩ := h3.map
    have := h3.blk
    dsimp only at this hm
    rw [e, hm] at this
    cases this
  have b5 : w5.drew.heap[rb]? = _ := F.blk
  have o5 : w5.drew.ownsRow B tSealed 2 _ _ _ := F.own
  have hgm : ∀ k, (Value.slice (some ⟨gg, 0, none⟩) (L.length + 1) cap2).ownBlock = some k → ¬ k = mb := by
    rintro k hk rfl
    obtain ⟨_, cs, hh⟩ := own_block F.own hk
    obtain ⟨es, clock, hm, _⟩ := F.map
    rw [hh] at hm
    cases hm
  refine ⟨⟨h3.hb, h3.rb, h3.mb, u6.keep b5 hne3, ?_, by rw [mark_snoc]; exact hm6, ?_, ?_⟩, ?_, ?_⟩
  · rw [List.length_append, List.length_singleton]
    exact owns_upd' o5 u6 hgm
  · have := Bk.place_none.1 hp
    rw [List.nodup_append]
    exact ⟨h3.nd, by simp, fun a ha b hb e => by rw [List.mem_singleton] at hb; subst hb; subst e; exact this ha⟩
  · intro y hy
    rcases List.mem_append.1 hy with hy | hy
    · exact h3.key y hy
    · rw [List.mem_singleton.1 hy]; exact ⟨hk, ht⟩
  · exact (F.upd.drew).trans' u6 (fun j hj e => by subst e; exact Or.inr (Or.inl rfl))
  · rintro j (rfl | rfl | hj)
    · exact Or.inl (Or.inl rfl)
    · exact Or.inl (Or.inr (Or.inl rfl))
    · have : gg = j := by simpa [Value.ownBlock] using hj
      subst this
      exact F.gg.imp (fun e => Or.inr (Or.inr e)) id
set_option maxHeartbeats 2000000 in
set_option maxRecDepth 100000 in
theorem sign_s (B : Nat) (r : RingR) (L : List Bk.Seal) (k : Int) (t : List UInt8) (w : World) (g : Gl w) (h : RingAt B w r L) (hk : I64 k) (ht : t.length ≤ 140737488351232) (hL : L.length ≤ 1000000) (hB : B ≤ w.heap.size) :
    Calls Tryz.prog 209 #[.pointer (some ⟨r.rb, 0, none⟩), .int .i64 k, .string ⟨t.toArray⟩] w (SignPost B r L k t w) := by
  have n1 := nw_alloc w (.cells #[.int .i64 0, .string ⟨#[]⟩, .int .i64 0] tSigned)
  have k1 := heap_new w (.cells #[.int .i64 0, .string ⟨#[]⟩, .int .i64 0] tSigned)
  have h1 := h.nw n1
  have hgb := g.big
  have hs1 : (w.alloc (.cells #[.int .i64 0, .string ⟨#[]⟩, .int .i64 0] tSigned)).heap.size = w.heap.size + 1 := by simp
  cases hkk : Bk.isKey k with
  | false =>
    have hr : Bk.sign L k t = (Bk.noSgn, L) := by unfold Bk.sign; rw [if_neg (by rw [hkk]; simp)]
    have Hr := Lib.hid hr
    have Hkk := Lib.hid hkk
    have K1 := Lib.hid k1
    have f0 := cells_frozen k1 0
    have f1 := cells_frozen k1 1
    have f2 := cells_frozen k1 2
    obtain ⟨_, _, _⟩ := cell3 k1
    clear hr hkk k1
    go_enter Tryz.func209, Tryz.ntmps209
    go_wp2_with fail
    (with_reducible refine (key_s k _).mono ?_)
    rintro _ _ ⟨rfl, rfl⟩
    rw [Hkk.out]
    go_wp2_with fail
    (try simp only [Exit.inBlock, Exit.then])
    refine bodyPost_ret (sign_results K1.out rfl) rfl ⟨r, ?_, ?_, rfl, n1.mono (fun _ _ s => s.elim), fun j hj => Or.inl hj⟩
    · rw [Hr.out]; rfl
    · rw [Hr.out]; exact h1
  | true =>
    have n2 := nw_alloc (w.alloc (.cells #[.int .i64 0, .string ⟨#[]⟩, .int .i64 0] tSigned)) (.cells #[.int .i64 k, .string ⟨t.toArray⟩] tSealed)
    have k2 := heap_new (w.alloc (.cells #[.int .i64 0, .string ⟨#[]⟩, .int .i64 0] tSigned)) (.cells #[.int .i64 k, .string ⟨t.toArray⟩] tSealed)
    have k1' := n2.keep k1
    have h2 := h1.nw n2
    have u2 := n1.trans n2
    rw [hs1] at k2
    obtain ⟨W2, hW2⟩ : ∃ W2, (w.alloc (.cells #[.int .i64 0, .string ⟨#[]⟩, .int .i64 0] tSigned)).alloc (.cells #[.int .i64 k, .string ⟨t.toArray⟩] tSealed) = W2 := ⟨_, rfl⟩
    rw [hW2] at k1' k2 h2 u2
    have HW2 := Lib.hid hW2
    have Hkk := Lib.hid hkk
    clear n1 k1 h1 n2 hW2
    have hl := fun i : Later W2 => (h2.nw i.nw).look ⟨k, t⟩ hk ht
    dsimp only [sealV] at hl
    obtain ⟨l0, l1⟩ := later2 k2
    have c1 := fun i : Later W2 => (h2.nw i.nw).c1
    have K1 := Lib.hid k1'
    have K2 := Lib.hid k2
    clear k1' k2
    cases hp : Bk.place L ⟨k, t⟩ with
    | some i =>
      have hr : Bk.sign L k t = (⟨k, t, i⟩, L) := by unfold Bk.sign; rw [if_pos hkk, hp]
      have Hr := Lib.hid hr
      rw [hp] at hl
      clear hp hr hkk
      go_enter Tryz.func209, Tryz.ntmps209
      go_wp2_with fail
      (with_reducible refine (key_s k _).mono ?_)
      rintro _ _ ⟨rfl, rfl⟩
      rw [Hkk.out]
      go_wp2_with fail
      rw [HW2.out]
      refine wp_region_nw (by kernel_rfl) (by kernel_rfl) ?_
      repeat (go_big_quiet_step ((fail)))
      refine wpQuiet_nil ?_
      intro w3 u3
      replace u3 := later_out u3
      have K3 := Lib.hid (u3.keep K1.out)
      have f0 := cells_frozen K3.out 0
      have f1 := cells_frozen K3.out 1
      have f2 := cells_frozen K3.out 2
      obtain ⟨_, _, _⟩ := cell3 K3.out
      clear l0 l1 c1 hl
      go_wp2_with fail
      (try simp only [Exit.inBlock, Exit.then])
      have q : Upd (fun x => x = w.heap.size) w3 (((w3.setCell ⟨w.heap.size, 0, none⟩ (.int .i64 k)).setCell ⟨w.heap.size, 1, none⟩ (.string ⟨t.toArray⟩)).setCell ⟨w.heap.size, 2, none⟩ (.int .i64 i)) :=
        Upd.set1 (Upd.set1 (Upd.set1 (Upd.refl _ _) hgb 0 _) hgb 1 _) hgb 2 _
      refine bodyPost_ret (sign_results (set3 K3.out) rfl) rfl ⟨r, ?_, ?_, rfl, ?_, fun j hj => Or.inl hj⟩
      · rw [Hr.out]; rfl
      · rw [Hr.out]
        exact (h2.nw u3).upd q (fun j hj e => by have := (h.foot_lt hj).2; omega)
      · exact (Nw.upd r.foot (u2.trans u3)).trans' q (fun j hj e => by omega)
    | none =>
      obtain ⟨rb, mb, ev⟩ := r
      obtain ⟨a, cap, hev⟩ : ∃ a cap, ev = .slice a L.length cap := by
        rcases h.own.2 with ⟨h1, h2⟩ | ⟨g, cap, cur, h1, _⟩
        · exact ⟨none, 0, by rw [show ev = _ from h1, h2]⟩
        · exact ⟨_, _, h1⟩
      subst hev
      have hr : Bk.sign L k t = (⟨k, t, L.length⟩, L ++ [⟨k, t⟩]) := by unfold Bk.sign; rw [if_pos hkk, hp]
      have Hr := Lib.hid hr
      have Hp := Lib.hid hp
      rw [hp] at hl
      clear hp hr hkk
      go_enter Tryz.func209, Tryz.ntmps209
      go_wp2_with fail
      (with_reducible refine (key_s k _).mono ?_)
      rintro _ _ ⟨rfl, rfl⟩
      rw [Hkk.out]
      go_wp2_with fail
      rw [HW2.out]
      refine wp_region_nw (by kernel_rfl) (by kernel_rfl) ?_
      repeat (go_big_quiet_step ((fail)))
      refine wpQuiet_nil ?_
      intro w3 u3
      replace u3 := later_out u3
      have K3 := Lib.hid (u3.keep K1.out)
      have K4 := Lib.hid (u3.keep K2.out)
      have h3 := h2.nw u3
      have c0 := h3.c0
      have c1' := h3.c1
      dsimp only at c0 c1'
      obtain ⟨e0, e1⟩ := cell2 K4.out
      clear l0 l1 c1 hl
      obtain ⟨i0, hi0, hz0, hz1, hz2⟩ := info_parts infoSealed
      have hown := h3.own
      dsimp only at hown
      have hne := lt_of_block h3.blk
      dsimp only at hne
      have hB3 : B ≤ w3.heap.size := by have := u2.size; have := u3.size; omega
      have g0 := cells_frozen h3.blk 0
      dsimp only at g0
      have hfz : ∀ o, (w3.alloc o).frozen? ⟨rb, 0, none⟩ = false := fun o => cells_frozen ((nw_alloc w3 o).keep h3.blk) 0
      have hcz : ∀ o, (w3.alloc o).cell? ⟨rb, 0, none⟩ = some (.slice a L.length cap) := fun o => by rw [cells_cell ((nw_alloc w3 o).keep h3.blk)]; rfl
      have hne1 : (Value.slice a L.length cap).ownBlock ≠ some rb := by
        intro e
        obtain ⟨_, cs, hh⟩ := own_block hown e
        have := h3.blk
        dsimp only at this
        rw [hh] at this
        simp [tRing, tSealed] at this
      have hne2 : (Value.slice a L.length cap).ownBlock ≠ some (w.heap.size + 1) := by
        intro e
        have := (h.foot_lt (Or.inr (Or.inr e))).2
        omega
      go_wp2_with fail
      go_region_law
        ((refine step_append_lies _ (by rfl) _ _ _ (by rfl) B tSealed i0 _ 2 24 Tryz.underlying120 hi0 hz0 hz1 hz2 rfl (by omega) (.slice a L.length cap) L.length ((L.map sealL).flatten) (by rfl) ((hown.alloc _).drew)
            ⟨w3.heap.size, 0, none⟩ 1 1 [.int .i64 k, .string ⟨t.toArray⟩] (by rfl) (by rfl) (World.news_of_block (cs := #[.int .i64 k, .string ⟨t.toArray⟩]) (t := tSealed) (fr := (0, 0)) (heap_alloc_new w3 _)) (by simp [Value.oneCell'])
            (by omega) (by unfold maxLen; omega) (by omega) (by simp; omega) (w3.heap.size + 1) (by simp) ?_; intro gg cap2 w4 hown4 hgrow hat hlt; have hd4 := (hgrow.cell_far ⟨rb, 0, none⟩ (by simp; omega) (Ne.symm hne1)).trans (hcz _); have hf4 := (hgrow.frozen_far ⟨rb, 0, none⟩ (by simp; omega) (Ne.symm hne1)).trans (hfz _)))
      all_goals
        have F := app_facts (x := ⟨k, t⟩) h3 hB3 hown4 hgrow hat
        clear hown4 hgrow hat hlt hd4 hf4
      all_goals go_wp2_with fail
      all_goals
        generalize w4.setCell ⟨rb, 0, none⟩ (.slice (some ⟨gg, 0, none⟩) (L.length + 1) cap2) = w5 at *
        have hmb := h.mb
        dsimp only at hmb
        have hgmb : nG ≤ mb := by have := h.hb; omega
        obtain ⟨kl, hkl⟩ := sealV_key ⟨k, t⟩ hk (by show t.length ≤ maxLen; unfold maxLen; omega)
        have hm5 : MapL Tryz.prog tSealed w5.drew mb (markL L) := F.map.nw (Upd.refl _ _).drew
        obtain ⟨w6, hrun, hm6, u6⟩ := hm5.store_new sealKeyed Tryz.underlying119 hgmb hkl (mark_new Hp.out) (.int .i64 L.length)
        dsimp only [sealV] at hrun
        have k5 := F.upd.keep K3.out (fun e => by have := (h.foot_lt e).2; omega)
        have k6 := F.upd.keep K4.out (fun e => by have := (h.foot_lt e).2; omega)
        obtain ⟨_, _⟩ := cell2 k6
        obtain ⟨_, _⟩ := cell2 F.blk
        clear e0 e1 c0 c1' hcz hfz
        go_still_tail 6, (by kernel_rfl)
        change wpList _ _ _ _ _ w5.drew
        have hd5 := hm5.lt
        have hms := (h.foot_lt (Or.inr (Or.inl rfl))).2
        dsimp only at hms
        have k7 : w6.heap[w.heap.size]? = _ := Upd.keep u6 (w := w5.drew) k5 (fun e => by omega)
        have hd := ring_done h3 F u6 hm6 Hp.out hk (by show t.length ≤ _; exact ht)
        have K7 := Lib.hid k7
        have f0 := cells_frozen k7 0
        have f1 := cells_frozen k7 1
        have f2 := cells_frozen k7 2
        obtain ⟨_, _, _⟩ := cell3 k7
        have Hd := Lib.hid hd
        clear F k5 k6 hm5 k7 hd
        go_wp2_with fail
        (try simp only [Exit.inBlock, Exit.then])
        obtain ⟨d1, d2, d3⟩ := Hd.out
        have q : Upd (fun x => x = w.heap.size) w6 (((w6.setCell ⟨w.heap.size, 0, none⟩ (.int .i64 k)).setCell ⟨w.heap.size, 1, none⟩ (.string ⟨t.toArray⟩)).setCell ⟨w.heap.size, 2, none⟩ (.int .i64 L.length)) :=
          Upd.set1 (Upd.set1 (Upd.set1 (Upd.refl _ _) hgb 0 _) hgb 1 _) hgb 2 _
        have hsz3 := (u2.trans u3).size
        refine bodyPost_ret (sign_results (set3 K7.out) rfl) rfl ⟨⟨rb, mb, .slice (some ⟨gg, 0, none⟩) (L.length + 1) cap2⟩, ?_, ?_, rfl, ?_, fun j hj => (d3 j hj).imp id (fun e => by omega)⟩
        · rw [Hr.out]; rfl
        · rw [Hr.out]
          refine d1.upd q (fun j hj e => ?_)
          rcases d3 j hj with e2 | e2
          · have := (h.foot_lt e2).2; omega
          · have := lt_of_block K3.out; omega
        · exact ((Nw.trans (u2.trans u3) d2)).trans' q (fun j hj e => by omega)
end Go.Proofs.YtagmlemlagbfkaaGreatDoor
namespace Go.Proofs.YtagmlemlagbfkaaGreatDoor
open Go.RowKit
set_option linter.unusedVariables false
set_option linter.unusedSimpArgs false
attribute [local irreducible] Calls

theorem owns_empty (w : World) (e : TypeId) (sz : Nat) : (w.alloc (.cells #[] e)).ownsRow w.heap.size e sz (.slice (some ⟨w.heap.size, 0, none⟩) 0 0) 0 [] :=
  ⟨by simp, Or.inr ⟨w.heap.size, 0, #[], rfl, Nat.le_refl _, heap_new w _, Nat.le_refl _, Nat.zero_le _, by simp, by simp⟩⟩
end Go.Proofs.YtagmlemlagbfkaaGreatDoor
