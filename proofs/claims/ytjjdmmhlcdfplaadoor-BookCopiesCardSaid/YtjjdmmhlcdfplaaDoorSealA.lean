/- The ring of signatures (layer 5) in memory; the contracts of New, key, Valid, Sign. -/
import Derived.Test.YtjjdmmhlcdfplaaDoorBookP
import Derived.Test.YtjjdmmhlcdfplaaDoorClaimD
import Derived.Test.YtjjdmmhlcdfplaaDoorOwn
import Derived.Test.YtjjdmmhlcdfplaaDoorMap
import Derived.Test.YtjjdmmhlcdfplaaDoorLaid
namespace Go.Proofs.YtjjdmmhlcdfplaaDoor
open Go.RowKit
open Go.Maps (Keyed)
set_option linter.unusedVariables false
set_option linter.unusedSimpArgs false
attribute [local irreducible] Calls

abbrev tSealed : TypeId := 71
abbrev tSigned : TypeId := 37
abbrev tRing : TypeId := 77
def sealL (x : Bk.Seal) : List Value := [.int .i64 x.key, .string ⟨x.text.toArray⟩]
def sealV (x : Bk.Seal) : Value := .agg #[.int .i64 x.key, .string ⟨x.text.toArray⟩]
def sgnV (x : Bk.Sgn) : Value := .agg #[.int .i64 x.key, .string ⟨x.text.toArray⟩, .int .i64 x.mark]
theorem sealKeyed : Keyed Tryd.prog tSealed := Keyed.of_law (deep_law_laid laidOut (m := 4) (by decide) (of_decide_eq_true (by kernel_rfl)) (by kernel_rfl) (by kernel_rfl))
theorem sealV_key (x : Bk.Seal) (hk : I64 x.key) (ht : x.text.length ≤ maxLen) : ∃ l, keyOf Tryd.prog tSealed (sealV x) = some l :=
  key_int_str Tryd.underlying71 Tryd.underlying3 Tryd.underlying9 (by kernel_rfl) (of_decide_eq_true (by kernel_rfl)) (by kernel_rfl) (by kernel_rfl) (by kernel_rfl) (by decide) (by decide) rfl rfl rfl rfl _ hk _ (by rw [bs_size, bs_list]; exact ht)
/-- Where a ring lies: its own block, its map's, the value of its slice of entries. -/
structure RingR where
  rb : Nat
  mb : Nat
  ev : Value
/-- The blocks that belong to a ring. -/
def RingR.foot (r : RingR) (k : Nat) : Prop := k = r.rb ∨ k = r.mb ∨ r.ev.ownBlock = some k
def markL (L : List Bk.Seal) : List (Value × Value) := L.zipIdx.map fun p => (sealV p.1, .int .i64 p.2)
/-- In the blocks from B on lies the ring r with the entries L. -/
structure RingAt (B : Nat) (w : World) (r : RingR) (L : List Bk.Seal) : Prop where
  hb : nG ≤ B
  rb : B ≤ r.rb
  mb : B ≤ r.mb
  blk : w.heap[r.rb]? = some (.cells #[r.ev, .map (some r.mb)] tRing (0, 0))
  own : w.ownsRow B tSealed 2 r.ev L.length ((L.map sealL).flatten)
  map : MapL Tryd.prog tSealed w r.mb (markL L)
  nd : L.Nodup
  key : ∀ x ∈ L, I64 x.key ∧ x.text.length ≤ 140737488351232
theorem own_block {B sz : Nat} {e : TypeId} {w : World} {v : Value} {n : Nat} {xs : List Value} (h : w.ownsRow B e sz v n xs) {k : Nat} (hk : v.ownBlock = some k) : B ≤ k ∧ ∃ cs, w.heap[k]? = some (.cells cs e (0, 0)) := by
  rcases h.2 with ⟨rfl, _⟩ | ⟨g, cap, cur, rfl, hb, hg, _⟩
  · cases hk
  · obtain rfl : g = k := by simpa [Value.ownBlock] using hk
    exact ⟨hb, _, hg⟩
theorem owns_upd' {B sz : Nat} {S : Nat → Prop} {e : TypeId} {w w' : World} {v : Value} {n : Nat} {xs : List Value} (h : w.ownsRow B e sz v n xs) (u : Upd S w w') (hs : ∀ k, v.ownBlock = some k → ¬ S k) : w'.ownsRow B e sz v n xs := by
  obtain ⟨h1, h2⟩ := h
  refine ⟨h1, ?_⟩
  rcases h2 with h2 | ⟨g, cap, cur, rfl, hb, hg, r⟩
  · exact Or.inl h2
  · exact Or.inr ⟨g, cap, cur, rfl, hb, u.keep hg (hs g rfl), r⟩
theorem RingAt.foot_lt {B : Nat} {w : World} {r : RingR} {L : List Bk.Seal} (h : RingAt B w r L) {k : Nat} (hk : r.foot k) : B ≤ k ∧ k < w.heap.size := by
  rcases hk with rfl | rfl | hk
  · exact ⟨h.rb, lt_of_block h.blk⟩
  · exact ⟨h.mb, h.map.lt⟩
  · obtain ⟨h1, cs, h2⟩ := own_block h.own hk
    exact ⟨h1, lt_of_block h2⟩
theorem RingAt.upd {B : Nat} {S : Nat → Prop} {w w' : World} {r : RingR} {L : List Bk.Seal} (h : RingAt B w r L) (u : Upd S w w') (hs : ∀ k, r.foot k → ¬ S k) : RingAt B w' r L :=
  ⟨h.hb, h.rb, h.mb, u.keep h.blk (hs _ (Or.inl rfl)), owns_upd' h.own u (fun k hk => hs k (Or.inr (Or.inr hk))), h.map.upd u (hs _ (Or.inr (Or.inl rfl))), h.nd, h.key⟩
theorem RingAt.nw {B : Nat} {w w' : World} {r : RingR} {L : List Bk.Seal} (h : RingAt B w r L) (u : Nw w w') : RingAt B w' r L := h.upd u (fun _ _ s => s)
theorem RingAt.c0 {B : Nat} {w : World} {r : RingR} {L : List Bk.Seal} (h : RingAt B w r L) : w.cell? ⟨r.rb, 0, none⟩ = some r.ev := by rw [cells_cell h.blk]; rfl
theorem RingAt.c1 {B : Nat} {w : World} {r : RingR} {L : List Bk.Seal} (h : RingAt B w r L) : w.cell? ⟨r.rb, 1, none⟩ = some (.map (some r.mb)) := by rw [cells_cell h.blk]; rfl
theorem sealV_inj {x y : Bk.Seal} (h : sealV x = sealV y) : x = y := by
  obtain ⟨a, s⟩ := x
  obtain ⟨b, t⟩ := y
  simp [sealV] at h
  obtain ⟨rfl, rfl⟩ := h
  rfl
theorem mark_mem {L : List Bk.Seal} {p : Value × Value} : p ∈ markL L ↔ ∃ (i : Nat) (h : i < L.length), p = (sealV L[i], .int .i64 i) := by
  constructor
  · intro h
    obtain ⟨q, hq, rfl⟩ := List.mem_map.1 h
    obtain ⟨x, i⟩ := q
    rw [List.mk_mem_zipIdx_iff_getElem?] at hq
    obtain ⟨hi, e⟩ := List.getElem?_eq_some_iff.1 hq
    exact ⟨i, hi, by rw [e]⟩
  · rintro ⟨i, hi, rfl⟩
    exact List.mem_map.2 ⟨(L[i], i), by rw [List.mk_mem_zipIdx_iff_getElem?, List.getElem?_eq_getElem hi], rfl⟩
theorem mark_snoc (L : List Bk.Seal) (x : Bk.Seal) : markL (L ++ [x]) = markL L ++ [(sealV x, .int .i64 L.length)] := by
  simp [markL, List.zipIdx_append]
/-- What the ring's map answers. -/
theorem RingAt.look {B : Nat} {w : World} {r : RingR} {L : List Bk.Seal} (h : RingAt B w r L) (x : Bk.Seal) (hk : I64 x.key) (ht : x.text.length ≤ 140737488351232) :
    (Instr.lookup 75 (.map (some r.mb)) (sealV x) true).run Tryd.prog w = .ok (match Bk.place L x with | some i => .tuple #[.int .i64 i, .bool true] | none => .tuple #[.int .i64 0, .bool false]) w := by
  obtain ⟨l, hl⟩ := sealV_key x hk (by unfold maxLen; omega)
  have hz : (zeroValue 3).run Tryd.prog w = .ok (.int .i64 0) w := by kernel_rfl
  rcases h.map.look sealKeyed Tryd.underlying75 hz hl with ⟨v, hv, hrun⟩ | ⟨hno, hrun⟩
  · obtain ⟨i, hi, e⟩ := mark_mem.1 hv
    have e1 := sealV_inj (Prod.mk.inj e).1
    rw [hrun true, (Prod.mk.inj e).2, e1, Bk.place_at h.nd hi]
    rfl
  · have hp : Bk.place L x = none := Bk.place_none.2 fun hx => by
      obtain ⟨i, hi, e⟩ := List.mem_iff_getElem.1 hx
      exact hno _ (mark_mem.2 ⟨i, hi, rfl⟩) (by rw [e])
    rw [hrun true, hp]
    rfl
theorem key_s (n : Int) (w : World) : Calls Tryd.prog 50 #[.int .i64 n] w fun e w' => e = .returned (.bool (Bk.isKey n)) ∧ w = w' := by
  by_cases h1 : 0 ≤ n
  · by_cases h2 : n < 200
    · have hr : Hid (Bk.isKey n = true) := by show _ = _; unfold Bk.isKey; simp [h1, h2]
      go_enter Tryd.func50, Tryd.ntmps50
      go_wp2_with fail
      go_ret
      exact ⟨by rw [hr.out]; rfl, rfl⟩
    · have hr : Hid (Bk.isKey n = false) := by show _ = _; unfold Bk.isKey; simp [h1, h2]
      go_enter Tryd.func50, Tryd.ntmps50
      go_wp2_with fail
      go_ret
      exact ⟨by rw [hr.out]; rfl, rfl⟩
  · have hr : Hid (Bk.isKey n = false) := by show _ = _; unfold Bk.isKey; simp [h1]
    go_enter Tryd.func50, Tryd.ntmps50
    go_wp2_with fail
    go_ret
    exact ⟨by rw [hr.out]; rfl, rfl⟩
theorem new_s (w : World) (g : Gl w) : Calls Tryd.prog 9 #[] w fun e w' => ∃ r, e = .returned (.pointer (some ⟨r.rb, 0, none⟩)) ∧ RingAt w.heap.size w' r [] ∧ Nw w w' := by
  have hmm := @run_makeMap Tryd.prog
  have hk := g.big
  have m1 := MapL.made Tryd.prog tSealed w
  have u1 := nw_alloc w (.map #[] 0)
  have u2 := u1.trans (nw_alloc (w.alloc (.map #[] 0)) (.cells #[.slice none 0 0, .map (some w.heap.size)] tRing))
  have m2 := m1.nw (nw_alloc (w.alloc (.map #[] 0)) (.cells #[.slice none 0 0, .map (some w.heap.size)] tRing))
  have b2 := heap_new (w.alloc (.map #[] 0)) (.cells #[.slice none 0 0, .map (some w.heap.size)] tRing)
  have M2 := Lib.hid m2
  have B2 := Lib.hid b2
  clear m1 m2 b2
  go_enter Tryd.func9, Tryd.ntmps9
  go_wp2_with fail
  go_ret
  refine ⟨⟨w.heap.size + 1, w.heap.size, .slice none 0 0⟩, by simp, ⟨g.big, by simp, by simp, ?_, World.ownsRow_nil _ _ _ _, M2.out, List.nodup_nil, (fun x hx => by cases hx)⟩, u2⟩
  have := B2.out
  simpa using this
end Go.Proofs.YtjjdmmhlcdfplaaDoor
