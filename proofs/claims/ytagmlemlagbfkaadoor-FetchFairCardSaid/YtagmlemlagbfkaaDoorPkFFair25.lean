/- small and cut of chapter 38; Ints. small of chapter 38. Plain: mirrors that all have everything are given as many chunks each, or one less. -/
import Derived.Test.YtagmlemlagbfkaaDoorPkFFair21
import Derived.Test.YtagmlemlagbfkaaDoorPkFFair22
import Derived.Test.YtagmlemlagbfkaaDoorPkFFair23
import Derived.Test.YtagmlemlagbfkaaDoorPkFFair24
import Derived.Test.YtagmlemlagbfkaaDoorPkFFair2
namespace Go.Proofs.YtagmlemlagbfkaaDoor
open Go.RowKit
set_option linter.unusedVariables false
set_option linter.unusedSimpArgs false
attribute [local irreducible] Calls

set_option maxHeartbeats 1000000 in
set_option maxRecDepth 100000 in
theorem ints_c (lo hi lo2 hi2 : Nat) (v1 v2 : Value) (a b : List Int) (w : World) (h1 : Sl lo hi w v1 (a.map intD)) (h2 : Sl lo2 hi2 w v2 (b.map intD)) (ha : a.length ≤ 1000000000) (hb : b.length ≤ 1000000000) :
    Calls Tryd.prog 16 #[v1, v2] w fun e w' => e = .returned (.bool (decide (a = b))) ∧ Nw w w' := by
  obtain ⟨a1, c1, rfl, -, hc1⟩ := int_cells h1
  obtain ⟨a2, c2, rfl, -, hc2⟩ := int_cells h2
  have HC1 := Lib.hid hc1
  have HC2 := Lib.hid hc2
  have ha1 : (a.length : Int) ≤ 1000000000 := by omega
  have hb1 : (b.length : Int) ≤ 1000000000 := by omega
  clear h1 h2 hc1 hc2
  by_cases hlen : a.length = b.length
  · have hl1 : (a.length == b.length) = true := by simp [hlen]
    have hl2 : (a.length != b.length) = false := by simp [hlen]
    have HLen := Lib.hid hlen
    clear hlen
    go_enter Tryd.func16, Tryd.ntmps16
    go_wp2_with fail
    go_loopw [5] (fun iv wr => ∃ k : Nat, k ≤ a.length ∧ iv = .int .i64 (k : Int) ∧ Hid (∀ i (h : i < a.length) (h' : i < b.length), i < k → a[i] = b[i]) ∧ Hid (Nw w wr)) (fun iv _ => a.length - (intOf iv).toNat)
    case atStart => exact ⟨0, Nat.zero_le _, rfl, fun i _ _ h => by omega, Upd.refl _ _⟩
    case round =>
      obtain ⟨k, hk, rfl, HA, U⟩ := hrel
      by_cases hlt : k < a.length
      · have hlt2 : k < b.length := by have := HLen.out; omega
        rcases HC1.out with hnil | ⟨b1, o1, rfl, _, _, hcell1⟩
        · simp [hnil] at hlt
        rcases HC2.out with hnil | ⟨b2, o2, rfl, _, _, hcell2⟩
        · simp [hnil] at hlt2
        have k1 : ∀ i : Later wr, i.1.cell? ⟨b1, o1 + k, none⟩ = some (.int .i64 a[k]) := fun i => later_cell i (nw_cell U.out (hcell1 k hlt))
        have k2 : ∀ i : Later wr, i.1.cell? ⟨b2, o2 + k, none⟩ = some (.int .i64 b[k]) := fun i => later_cell i (nw_cell U.out (hcell2 k hlt2))
        have hlt3 : (k : Int) < a.length := by omega
        have hlt4 : (k : Int) < b.length := by omega
        have hno : Hid (a[k] ≠ b[k] → a ≠ b) := fun h e => h (by subst e; rfl)
        have hys : Hid (a[k] = b[k] → ∀ i (h : i < a.length) (h' : i < b.length), i < k + 1 → a[i] = b[i]) := fun e i h h' hi => by
          by_cases e2 : i = k
          · subst e2; exact e
          · exact HA.out i h h' (by omega)
        clear hcell1 hcell2
        generalize a[k] = x at *
        generalize b[k] = y at *
        by_cases hxy : x = y
        · have hz := Lib.hid (hys.out hxy)
          have e1 : (x == y) = true := by simp [hxy]
          have e2 : (x != y) = false := by simp [hxy]
          clear hno hys hxy
          go_wp2_with fail
          refine wp_region_nw (by kernel_rfl) (by kernel_rfl) ?_
          repeat (go_big_quiet_step ((fail)))
          refine wpQuiet_nil ?_
          intro w5 u5
          replace u5 := later_out u5
          go_wp2_with fail
          go_roundw
          case rel => exact ⟨k + 1, by omega, by go_num, hz, U.out.trans u5⟩
          case measure => simp [intOf]; omega
        · have hz : Hid (decide (a = b) = false) := decide_eq_false (hno.out hxy)
          have e1 : (x == y) = false := by simp [hxy]
          have e2 : (x != y) = true := by simp [hxy]
          clear hno hys hxy
          go_wp2_with fail
          refine wp_region_nw (by kernel_rfl) (by kernel_rfl) ?_
          repeat (go_big_quiet_step ((fail)))
          refine wpQuiet_nil ?_
          intro w5 u5
          replace u5 := later_out u5
          go_wp2_with fail
          go_ret
          exact ⟨by rw [hz.out]; rfl, U.out.trans u5⟩
      · obtain rfl : k = a.length := by omega
        have hz : Hid (decide (a = b) = true) := decide_eq_true (List.ext_getElem HLen.out (fun i h h' => HA.out i h h' h))
        go_wp2_with fail
        go_ret
        exact ⟨by rw [hz.out]; rfl, U.out⟩
  · have hl1 : (a.length == b.length) = false := by simp [hlen]
    have hl2 : (a.length != b.length) = true := by simp [hlen]
    have hz : Hid (decide (a = b) = false) := decide_eq_false (fun e => hlen (by rw [e]))
    clear hlen
    go_enter Tryd.func16, Tryd.ntmps16
    go_wp2_with fail
    go_ret
    exact ⟨by rw [hz.out]; rfl, Upd.refl _ _⟩
/-! ### cut -/
def otherB : List UInt8 := [111, 116, 104, 101, 114]
theorem owns_lit (w : World) (T : TypeId) (xs : List Value) (h : xs.length ≤ 1000) : (w.alloc (.cells xs.toArray T)).ownsRow w.heap.size T 1 (.slice (some ⟨w.heap.size, 0, none⟩) xs.length xs.length) xs.length xs :=
  ⟨by simp, Or.inr ⟨w.heap.size, xs.length, xs.toArray, rfl, Nat.le_refl _, heap_new w _, Nat.le_refl _, by unfold maxLen; omega, by simp, by simp⟩⟩
theorem cut_results (tmps : Array Value) (w : World) (b : Nat) (x y z : Value) (h5 : tmps.getD 5 undef = .pointer (some ⟨b, 0, none⟩)) (hb : w.heap[b]? = some (.cells #[x, y, z] tMan (0, 0))) : (results Tryd.f6 tmps).run Tryd.prog w = .ok (.tuple #[tmps.getD 4 undef, .agg #[x, y, z], tmps.getD 6 undef]) w := by
  have c0 : w.cell? ⟨b, 0, none⟩ = some x := by simp [World.cell?, hb]
  have c1 : w.cell? ⟨b, 1, none⟩ = some y := by simp [World.cell?, hb]
  have c2 : w.cell? ⟨b, 2, none⟩ = some z := by simp [World.cell?, hb]
  have h8 : tmps[5]?.getD undef = .pointer (some ⟨b, 0, none⟩) := by simpa using h5
  simp [results, Tryd.results6, go_sem, h8, c0, c1, c2]
set_option maxHeartbeats 2000000 in
set_option maxRecDepth 100000 in
theorem cut_c (t : List UInt8) (ht : t.length ≤ 60) (s : Nat) (hs : s < 256) (w : World) (g : Gl w) :
    Calls Tryd.prog 6 #[.string ⟨t.toArray⟩, .int .u8 s] w fun e w' => ∃ v kv, e = .returned (.tuple #[v, .agg #[.int .i64 (Ck.man [otherB] t (s % 9)).print, .int .i64 (Ck.man [otherB] t (s % 9)).size, kv], .bool true]) ∧ OfD w [otherB] t (s % 9) v kv w' := by
  have hgb := g.big
  have n1 := nw_alloc w (.cells #[.int .i64 0, .int .i64 0, .slice none 0 0] tMan)
  have b1 := heap_new w (.cells #[.int .i64 0, .int .i64 0, .slice none 0 0] tMan)
  have o2 := owns_lit (w.alloc (.cells #[.int .i64 0, .int .i64 0, .slice none 0 0] tMan)) tStrMU ([otherB].map bsMU) (by decide)
  have n2 := nw_alloc (w.alloc (.cells #[.int .i64 0, .int .i64 0, .slice none 0 0] tMan)) (.cells ([otherB].map bsMU).toArray tStrMU)
  have h9 : s % 9 ≤ 8 := by omega
  have hO := of_c _ _ [otherB] t (s % 9) h9 _ (g.upd (n1.trans n2)) o2 ⟨by decide, by decide⟩ (by decide) (by decide) ht
  have he : (((s % 9 : Nat) : Int) + 1) = 1 + ((s : Int) % 9) := by omega
  rw [he] at hO
  rw [World.size_alloc] at hO
  have HO : Hid (Calls Tryd.prog 14 #[.slice (some ⟨w.heap.size + 1, 0, none⟩) 1 1, .string ⟨t.toArray⟩, .int .i64 (1 + (s : Int) % 9)] ((w.alloc (.cells #[.int .i64 0, .int .i64 0, .slice none 0 0] tMan)).alloc (.cells #[.string ⟨#[111, 116, 104, 101, 114]⟩] 9)) _) := hO
  have HN := Lib.hid (n1.trans n2)
  have HB := Lib.hid (n2.keep b1)
  have hs1 : (s : Int) ≤ 255 := by omega
  clear n1 b1 o2 n2 hO he
  go_enter Tryd.func6, Tryd.ntmps6
  go_wp2_with fail
  (with_reducible refine (HO.out).mono ?_)
  rintro _ w2 ⟨v, kv, rfl, hd⟩
  have b2 := hd.nw.keep HB.out
  have hz2 := lt_of_block b2
  generalize hY1 : (Ck.man [otherB] t (s % 9)).print = mp at *
  generalize hY2 : (Ck.man [otherB] t (s % 9)).size = mz at *
  have HY1 := Lib.hid hY1
  have HY2 := Lib.hid hY2
  clear hY1 hY2
  have NT := HN.out.trans hd.nw
  have hkv := own_slG hd.row
  have hvv := own_slG hd.own
  have f0 := cells_frozen b2 0
  have f1 := cells_frozen b2 1
  have f2 := cells_frozen b2 2
  have k0 := cells_cell b2 0
  have k1 := cells_cell b2 1
  have k2 := cells_cell b2 2
  simp only [List.getElem?_toArray, List.getElem?_cons_succ, List.getElem?_cons_zero] at k0 k1 k2
  have UZ : Upd (fun k => k = w.heap.size) w2 (((w2.setCell ⟨w.heap.size, 0, none⟩ (.int .i64 mp)).setCell ⟨w.heap.size, 1, none⟩ (.int .i64 mz)).setCell ⟨w.heap.size, 2, none⟩ kv) :=
    (((Upd.refl (fun k => k = w.heap.size) _).set1 hgb 0 (.int .i64 mp)).set1 hgb 1 (.int .i64 mz)).set1 hgb 2 kv
  have bz : (((w2.setCell ⟨w.heap.size, 0, none⟩ (.int .i64 mp)).setCell ⟨w.heap.size, 1, none⟩ (.int .i64 mz)).setCell ⟨w.heap.size, 2, none⟩ kv).heap[w.heap.size]? = some (.cells #[.int .i64 mp, .int .i64 mz, kv] tMan (0, 0)) := by
    have h1 := setCell_block b2 0 (.int .i64 mp)
    have h2 := setCell_block h1 1 (.int .i64 mz)
    have h3 := setCell_block h2 2 kv
    simpa using h3
  have hsz : (((w2.setCell ⟨w.heap.size, 0, none⟩ (.int .i64 mp)).setCell ⟨w.heap.size, 1, none⟩ (.int .i64 mz)).setCell ⟨w.heap.size, 2, none⟩ kv).heap.size = w2.heap.size := by simp [World.setCell]
  have bn := heap_new (((w2.setCell ⟨w.heap.size, 0, none⟩ (.int .i64 mp)).setCell ⟨w.heap.size, 1, none⟩ (.int .i64 mz)).setCell ⟨w.heap.size, 2, none⟩ kv) (.cells #[.int .i64 mp, .int .i64 mz, kv] tMan)
  rw [hsz] at bn
  have bn2 := Nw.keep ((Upd.refl (fun _ => False) _).drew) bn
  have na := (nw_alloc (((w2.setCell ⟨w.heap.size, 0, none⟩ (.int .i64 mp)).setCell ⟨w.heap.size, 1, none⟩ (.int .i64 mz)).setCell ⟨w.heap.size, 2, none⟩ kv) (.cells #[.int .i64 mp, .int .i64 mz, kv] tMan)).drew
  have bz2 := Nw.keep na bz
  have HSK : Hid (_ ∧ _ ∧ _) := ⟨(cells_cell bn2 0), (cells_cell bn2 1), (cells_cell bn2 2)⟩
  have HD : Hid (OfD w [otherB] t (s % 9) v kv ((((w2.setCell ⟨w.heap.size, 0, none⟩ (.int .i64 mp)).setCell ⟨w.heap.size, 1, none⟩ (.int .i64 mz)).setCell ⟨w.heap.size, 2, none⟩ kv).alloc (.cells #[.int .i64 mp, .int .i64 mz, kv] tMan)).drew) := by
    have hle : w.heap.size ≤ ((w.alloc (.cells #[.int .i64 0, .int .i64 0, .slice none 0 0] tMan)).alloc (.cells ([otherB].map bsMU).toArray tStrMU)).heap.size := by simp; omega
    refine ⟨(NT.trans' UZ (fun k hk e => by omega)).trans na, owns_base (owns_upd' (owns_upd' hd.own UZ (fun k e e2 => ?_)) na (fun _ _ e => e)) hle, owns_base (owns_upd' (owns_upd' hd.row UZ (fun k e e2 => ?_)) na (fun _ _ e => e)) hle⟩
    · have := (hd.own.lt k e).1; simp at this; omega
    · have := (hd.row.lt k e).1; simp at this; omega
  obtain ⟨a1, cc1, rfl⟩ := hvv
  obtain ⟨a2, cc2, rfl⟩ := hkv
  have HBZ := Lib.hid bz2
  clear hd b2 na bn NT UZ bz bn2 HO bz2 hsz
  go_wp2_with fail
  go_region_held3 (fun y => y.cell? ⟨w2.heap.size, 0, none⟩ = some (.int .i64 mp) ∧ y.cell? ⟨w2.heap.size, 1, none⟩ = some (.int .i64 mz) ∧ y.cell? ⟨w2.heap.size, 2, none⟩ = some (.slice a2 (Ck.man [otherB] t (s % 9)).chunks.length cc2)) (first | exact HSK.out | go_keep) (fail)
  go_wp2_with fail
  (try simp only [Exit.inBlock, Exit.then])
  refine bodyPost_ret (cut_results _ _ _ _ _ _ rfl HBZ.out) rfl ?_
  exact ⟨_, _, by rw [HY1.out, HY2.out]; rfl, HD.out⟩
end Go.Proofs.YtagmlemlagbfkaaDoor
namespace Go.Proofs.YtagmlemlagbfkaaDoor
open Go.RowKit
set_option linter.unusedVariables false
set_option linter.unusedSimpArgs false
attribute [local irreducible] Calls

theorem sl_lit {w : World} {b : Nat} {xs : List Value} {T : TypeId} (h : w.heap[b]? = some (.cells xs.toArray T (0, 0))) (hl : xs.length ≤ 1000) : Sl b (b + 1) w (.slice (some ⟨b, 0, none⟩) xs.length xs.length) xs :=
  Or.inr ⟨b, 0, xs.length, rfl, Nat.le_refl _, by unfold maxLen; omega, Nat.le_refl _, by omega, lt_of_block h, fun i hi => by rw [cells_cell h]; simp⟩
theorem rows_lit {w : World} {b : Nat} {C : List (Value × List Int)} {T : TypeId} (h : w.heap[b]? = some (.cells (C.map (·.1)).toArray T (0, 0))) (hl : C.length ≤ 1000) (he : ∀ c ∈ C, ∃ lo hi, Sl lo hi w c.1 (c.2.map intD)) : RowsI w (.slice (some ⟨b, 0, none⟩) C.length C.length) C := by
  have := sl_lit h (by rw [List.length_map]; exact hl)
  rw [List.length_map] at this
  exact ⟨⟨_, _, this⟩, he⟩
theorem sl_nilI (w : World) : Sl 0 0 w (.slice none 0 0) (([] : List Int).map intD) := Or.inl ⟨_, _, rfl, rfl⟩
theorem alloc3 (w : World) (A B C : Obj) : (((w.alloc A).alloc B).alloc C).heap[w.heap.size]? = some A ∧ (((w.alloc A).alloc B).alloc C).heap[w.heap.size + 1]? = some B ∧
    (((w.alloc A).alloc B).alloc C).heap[w.heap.size + 1 + 1]? = some C ∧ Nw w (((w.alloc A).alloc B).alloc C) ∧ (((w.alloc A).alloc B).alloc C).heap.size = w.heap.size + 3 := by
  have a1 := heap_new w A
  have a2 := heap_new (w.alloc A) B
  have a3 := heap_new ((w.alloc A).alloc B) C
  simp only [World.size_alloc] at a2 a3
  refine ⟨?_, ?_, a3, ((nw_alloc w A).alloc B).alloc C, by simp⟩
  · rw [heap_alloc _ _ _ (by simp only [World.size_alloc]; omega), heap_alloc _ _ _ (by simp only [World.size_alloc]; omega)]; exact a1
  · rw [heap_alloc _ _ _ (by simp only [World.size_alloc]; omega)]; exact a2
theorem alloc2 (w : World) (A B : Obj) : ((w.alloc A).alloc B).heap[w.heap.size]? = some A ∧ ((w.alloc A).alloc B).heap[w.heap.size + 1]? = some B ∧ Nw w ((w.alloc A).alloc B) ∧ ((w.alloc A).alloc B).heap.size = w.heap.size + 2 := by
  have a1 := heap_new w A
  have a2 := heap_new (w.alloc A) B
  simp only [World.size_alloc] at a2
  refine ⟨?_, a2, (nw_alloc w A).alloc B, by simp⟩
  rw [heap_alloc _ _ _ (by simp only [World.size_alloc]; omega)]; exact a1
abbrev slB (b n : Nat) : Value := .slice (some ⟨b, 0, none⟩) n n
/-- The contents, the chunks and the manifest of the example. -/
structure XM (w : World) (B : Nat) : Prop where
  b0 : w.heap[B]? = some (.cells (Ft.xcs.map bsMU).toArray 9 (0, 0))
  b1 : w.heap[B + 1]? = some (.cells (Ft.xm.chunks.map intD).toArray 3 (0, 0))
  b2 : w.heap[B + 1 + 1]? = some (.cells #[.int .i64 0, .int .i64 4, slB (B + 1) 2] tManU (0, 0))
theorem XM.upd {w w' : World} {B : Nat} {S : Nat → Prop} (h : XM w B) (u : Upd S w w') (hs : ∀ k, k < B + 3 → ¬ S k) : XM w' B := ⟨u.keep h.b0 (hs _ (by omega)), u.keep h.b1 (hs _ (by omega)), u.keep h.b2 (hs _ (by omega))⟩
theorem XM.nw {w w' : World} {B : Nat} (h : XM w B) (u : Nw w w') : XM w' B := h.upd u (fun _ _ s => s)
theorem XM.cells {w : World} {B : Nat} (h : XM w B) : w.cell? ⟨B + 1 + 1, 0, none⟩ = some (.int .i64 0) ∧ w.cell? ⟨B + 1 + 1, 1, none⟩ = some (.int .i64 4) ∧ w.cell? ⟨B + 1 + 1, 2, none⟩ = some (slB (B + 1) 2) := ⟨by rw [cells_cell h.b2]; rfl, by rw [cells_cell h.b2]; rfl, by rw [cells_cell h.b2]; rfl⟩
theorem XM.ch {w : World} {B : Nat} (h : XM w B) : Sl (B + 1) (B + 1 + 1) w (slB (B + 1) 2) (Ft.xm.chunks.map intD) := sl_lit h.b1 (by decide)
theorem XM.own {w : World} {B : Nat} (h : XM w B) : w.ownsRow B tStrMU 1 (slB B 3) 3 (Ft.xcs.map bsMU) :=
  ⟨by rfl, Or.inr ⟨B, 3, _, rfl, Nat.le_refl _, h.b0, Nat.le_refl _, by unfold maxLen; omega, by rfl, by rfl⟩⟩
theorem xm_made (w : World) : XM (((w.alloc (.cells #[.string ⟨#[97, 98, 99, 100]⟩, .string ⟨#[97, 98]⟩, .string ⟨#[99, 100]⟩] 9)).alloc (.cells #[.int .i64 1, .int .i64 2] 3)).alloc (.cells #[.int .i64 0, .int .i64 4, .slice (some ⟨w.heap.size + 1, 0, none⟩) 2 2] tManU)) w.heap.size := by
  obtain ⟨a1, a2, a3, a4, a5⟩ := alloc3 w (.cells #[.string ⟨#[97, 98, 99, 100]⟩, .string ⟨#[97, 98]⟩, .string ⟨#[99, 100]⟩] 9) (.cells #[.int .i64 1, .int .i64 2] 3) (.cells #[.int .i64 0, .int .i64 4, .slice (some ⟨w.heap.size + 1, 0, none⟩) 2 2] tManU)
  exact ⟨a1, a2, a3⟩
theorem xplan1 (W0 : World) (g : Gl W0) (B : Nat) (h : XM W0 B) : Calls Tryd.prog 7 #[.agg #[.int .i64 0, .int .i64 4, slB (B + 1) 2], slB (W0.heap.size + 1 + 1) 2]
    (((W0.alloc (.cells #[.int .i64 1, .int .i64 2] 3)).alloc (.cells #[.int .i64 2] 3)).alloc (.cells #[slB W0.heap.size 2, slB (W0.heap.size + 1) 1] 24))
    fun e w' => ∃ a c, e = .returned (.tuple #[.slice a 2 c, .int .i64 0]) ∧ w'.ownsRow W0.heap.size 3 1 (.slice a 2 c) 2 [.int .i64 0, .int .i64 1] ∧ Nw W0 w' := by
  obtain ⟨a1, a2, a3, a4, a5⟩ := alloc3 W0 (.cells #[.int .i64 1, .int .i64 2] 3) (.cells #[.int .i64 2] 3) (.cells #[slB W0.heap.size 2, slB (W0.heap.size + 1) 1] 24)
  have hr := rows_lit (C := [(slB W0.heap.size 2, [1, 2]), (slB (W0.heap.size + 1) 1, [2])]) a3 (by simp) (fun c hc => by
    simp only [List.mem_cons, List.not_mem_nil, or_false] at hc
    rcases hc with rfl | rfl
    · exact ⟨_, _, sl_lit (xs := [.int .i64 1, .int .i64 2]) a1 (by decide)⟩
    · exact ⟨_, _, sl_lit (xs := [.int .i64 2]) a2 (by decide)⟩)
  refine (plan_c _ _ 0 4 _ [1, 2] _ _ _ (g.upd a4) ((h.nw a4).ch) (by decide) hr (by simp) (by simp [totL]) (fun c hc => by
    simp only [List.mem_cons, List.not_mem_nil, or_false] at hc
    rcases hc with rfl | rfl <;> simp)).mono ?_
  rintro e w' ⟨v', rfl, o, u⟩
  have e8 := Ft.y8.1
  simp only [List.map_cons, List.map_nil, e8] at o ⊢
  obtain ⟨a, c, rfl⟩ := own_slG o
  exact ⟨a, c, rfl, owns_base o (by omega), a4.trans u⟩
theorem xplan2 (W0 : World) (g : Gl W0) (B : Nat) (h : XM W0 B) : Calls Tryd.prog 7 #[.agg #[.int .i64 0, .int .i64 4, slB (B + 1) 2], slB (W0.heap.size + 1) 2]
    ((W0.alloc (.cells #[.int .i64 1] 3)).alloc (.cells #[slB W0.heap.size 1, .slice none 0 0] 24))
    fun e w' => ∃ a c, e = .returned (.tuple #[.slice a 0 c, .int .i64 33]) ∧ Nw W0 w' := by
  obtain ⟨a1, a2, a4, a5⟩ := alloc2 W0 (.cells #[.int .i64 1] 3) (.cells #[slB W0.heap.size 1, .slice none 0 0] 24)
  have hr := rows_lit (C := [(slB W0.heap.size 1, [1]), (.slice none 0 0, [])]) a2 (by simp) (fun c hc => by
    simp only [List.mem_cons, List.not_mem_nil, or_false] at hc
    rcases hc with rfl | rfl
    · exact ⟨_, _, sl_lit (xs := [.int .i64 1]) a1 (by decide)⟩
    · exact ⟨_, _, sl_nilI _⟩)
  refine (plan_c _ _ 0 4 _ [1, 2] _ _ _ (g.upd a4) ((h.nw a4).ch) (by decide) hr (by simp) (by simp [totL]) (fun c hc => by
    simp only [List.mem_cons, List.not_mem_nil, or_false] at hc
    rcases hc with rfl | rfl <;> simp)).mono ?_
  rintro e w' ⟨v', rfl, o, u⟩
  have e8 := Ft.y8.2.1
  simp only [List.map_cons, List.map_nil, e8] at o ⊢
  obtain ⟨a, c, rfl⟩ := own_slG o
  exact ⟨a, c, rfl, a4.trans u⟩
theorem xshort (W0 : World) (g : Gl W0) (B : Nat) (h : XM W0 B) : Calls Tryd.prog 17 #[.agg #[.int .i64 0, .int .i64 4, slB (B + 1) 2], slB (W0.heap.size + 1) 2]
    ((W0.alloc (.cells #[.int .i64 1] 3)).alloc (.cells #[slB W0.heap.size 1, .slice none 0 0] 24))
    fun e w' => ∃ a c, e = .returned (.slice a 1 c) ∧ w'.ownsRow W0.heap.size 3 1 (.slice a 1 c) 1 [.int .i64 1] ∧ Nw W0 w' := by
  obtain ⟨a1, a2, a4, a5⟩ := alloc2 W0 (.cells #[.int .i64 1] 3) (.cells #[slB W0.heap.size 1, .slice none 0 0] 24)
  have hr := rows_lit (C := [(slB W0.heap.size 1, [1]), (.slice none 0 0, [])]) a2 (by simp) (fun c hc => by
    simp only [List.mem_cons, List.not_mem_nil, or_false] at hc
    rcases hc with rfl | rfl
    · exact ⟨_, _, sl_lit (xs := [.int .i64 1]) a1 (by decide)⟩
    · exact ⟨_, _, sl_nilI _⟩)
  refine (short_c _ _ 0 4 _ [1, 2] _ _ _ (g.upd a4) ((h.nw a4).ch) (by decide) hr (by simp) (by simp [totL])).mono ?_
  rintro e w' ⟨v', rfl, o, u⟩
  have e8 := Ft.y8.2.2
  simp only [List.map_cons, List.map_nil, List.flatten_cons, List.flatten_nil, List.append_nil, e8] at o
  obtain ⟨a, c, rfl⟩ := own_slG o
  exact ⟨a, c, rfl, owns_base o (by omega), a4.trans u⟩
/-- Comparing with a literal. -/
theorem xints (W0 : World) (v : Value) (l m : List Int) (B n : Nat) (o : W0.ownsRow B 3 1 v n (l.map intD)) (hl : l.length ≤ 1000) (hm : m.length ≤ 1000) : Calls Tryd.prog 16 #[v, slB W0.heap.size m.length] (W0.alloc (.cells (m.map intD).toArray 3)) fun e w' => e = .returned (.bool (decide (l = m))) ∧ Nw W0 w' := by
  have na := nw_alloc W0 (.cells (m.map intD).toArray 3)
  have hs := sl_lit (heap_new W0 (.cells (m.map intD).toArray 3)) (by rw [List.length_map]; exact hm)
  rw [List.length_map] at hs
  exact (ints_c _ _ _ _ v _ l m _ (Sl.of_owns (owns_upd' o na (fun _ _ e => e))) hs (by omega) (by omega)).mono fun _ _ ⟨h, u⟩ => ⟨h, na.trans u⟩
/-- A Take of the example. -/
theorem xtake {W0 w : World} {db fb : Nat} {x : FtR} {j j' : Jr.Jn} {D D' : Dk.Disk} {F : Nat → Prop} {n : Int} (h : FS W0 db x j Ft.xcs Ft.xm D F w) (g : Gl W0) (hfb : x.fb = fb) (i : Int) (t : List UInt8) (hi : I64 i) (ht : t.length ≤ 100) (hr : j.recs.length ≤ 1000) (e : Ft.take D Ft.xcs Ft.xm j i t = (D', j', n)) :
    Calls Tryd.prog 10 #[.pointer (some ⟨fb, 0, none⟩), .int .i64 i, .string ⟨t.toArray⟩] w fun e w' => e = .returned (.int .i64 n) ∧ ∃ x' : FtR, x'.fb = fb ∧ FS W0 db x' j' Ft.xcs Ft.xm D' F w' ∧ Moves W0 F w w' := by
  subst hfb
  refine (take_t h g (by decide) (by omega) (by decide) (by decide) hi (by omega)).mono ?_
  rintro _ w' ⟨rfl, x', h1, h2, h3⟩
  rw [e] at h2 ⊢
  exact ⟨rfl, x', h1, h2, h3⟩
set_option maxHeartbeats 8000000 in
set_option maxRecDepth 100000 in
theorem small38_c (w : World) (g : Gl w) : Calls Tryd.prog 5 #[] w fun e w' => e = .returned (.bool true) ∧ Nw w w' := by
  have hgb := g.big
  have X0 := xm_made w
  have n0 : Nw w _ := (alloc3 w (.cells #[.string ⟨#[97, 98, 99, 100]⟩, .string ⟨#[97, 98]⟩, .string ⟨#[99, 100]⟩] 9) (.cells #[.int .i64 1, .int .i64 2] 3) (.cells #[.int .i64 0, .int .i64 4, .slice (some ⟨w.heap.size + 1, 0, none⟩) 2 2] tManU)).2.2.2.1
  have z0 := (alloc3 w (.cells #[.string ⟨#[97, 98, 99, 100]⟩, .string ⟨#[97, 98]⟩, .string ⟨#[99, 100]⟩] 9) (.cells #[.int .i64 1, .int .i64 2] 3) (.cells #[.int .i64 0, .int .i64 4, .slice (some ⟨w.heap.size + 1, 0, none⟩) 2 2] tManU)).2.2.2.2
  generalize hW0 : (((w.alloc (.cells #[.string ⟨#[97, 98, 99, 100]⟩, .string ⟨#[97, 98]⟩, .string ⟨#[99, 100]⟩] 9)).alloc (.cells #[.int .i64 1, .int .i64 2] 3)).alloc (.cells #[.int .i64 0, .int .i64 4, .slice (some ⟨w.heap.size + 1, 0, none⟩) 2 2] tManU)) = W0 at *
  obtain ⟨c0, c1, c2⟩ := X0.cells
  have hp1 := Lib.hid (xplan1 W0 (g.upd n0) w.heap.size X0)
  have HX0 := Lib.hid X0
  have N0 := Lib.hid n0
  have Z0 := Lib.hid z0
  clear X0 n0 z0
  go_enter Tryd.func5, Tryd.ntmps5
  go_wp2_with fail
  (with_reducible refine (hp1.out).mono ?_)
  rintro _ w1 ⟨a1, e1, rfl, o1, u1⟩
  have HO1 := Lib.hid o1
  have N1 := Lib.hid (N0.out.trans u1)
  have X1 := HX0.out.nw u1
  have hz1 := u1.size
  obtain ⟨c0', c1', c2'⟩ := X1.cells
  have hp2 := Lib.hid (xplan2 w1 (g.upd N1.out) w.heap.size X1)
  have HX1 := Lib.hid X1
  have HZ1 : Hid (w.heap.size + 3 ≤ w1.heap.size) := by show _ ≤ _; have := Z0.out; omega
  clear o1 u1 X1 hp1 c0 c1 c2 hz1
  go_wp2_with fail
  (with_reducible refine (hp2.out).mono ?_)
  rintro _ w2 ⟨a2, e2, rfl, u2⟩
  have N2 := Lib.hid (N1.out.trans u2)
  have HX2 := Lib.hid (HX1.out.nw u2)
  have HO2 := Lib.hid (owns_upd' HO1.out u2 (fun _ _ e => e))
  have hz12 := u2.size
  have HZ2 : Hid (w.heap.size + 3 ≤ w2.heap.size) := by show _ ≤ _; have := HZ1.out; omega
  have hn := Lib.hid (new_t w2 (g.upd N2.out))
  clear u2 hp2 c0' c1' c2' hz12
  go_wp2_with fail
  (with_reducible refine (hn.out).mono ?_)
  rintro _ w3 ⟨db, rfl, s3⟩
  have S3 := Lib.hid s3
  have n3 := s3.nw0
  have X3 := HX2.out.nw n3
  have HX3 := Lib.hid X3
  have HO3 := Lib.hid (owns_upd' HO2.out n3 (fun _ _ e => e))
  obtain ⟨c0, c1, c2⟩ := X3.cells
  have ho := fopen_t (m := Ft.xm) (cs := Ft.xcs) s3 (g.upd N2.out) (f := 0) (I64_s (by decide)) X3.own (fun k e => Or.inr (by have := HZ2.out; obtain rfl : w.heap.size = k := (by simpa [Value.ownBlock] using e); omega)) X3.ch (fun k h1 h2 => Or.inr (by have := HZ2.out; omega)) ⟨by decide, by decide⟩ (by decide) (by decide)
  rw [Ft.y1] at ho
  have Ho : Hid (Calls Tryd.prog 9 #[.pointer (some ⟨db, 0, none⟩), .int .i64 0, slB w.heap.size 3, .agg #[.int .i64 0, .int .i64 4, slB (w.heap.size + 1) 2]] w3 _) := ho
  clear s3 n3 X3 hn ho
  go_wp2_with fail
  (with_reducible refine (Ho.out).mono ?_)
  rintro _ w4 ⟨pv, rfl, m4, f4⟩
  rcases f4 with ⟨e, _, _⟩ | ⟨j4, x4, e, rfl, s4⟩
  · cases e
  obtain rfl := Option.some.inj e
  have GW2 := Lib.hid (g.upd N2.out)
  have X4 := HX3.out.upd m4 (fun k hk s => by have := HZ2.out; have := s.2; omega)
  have HX4 := Lib.hid X4
  have HO4 := owns_kept HO3.out m4 (fun k e => Or.inr ((HO2.out.lt k e).2))
  have i1 := Lib.hid (xints w4 _ [0, 1] [0, 1] _ _ HO4 (by decide) (by decide))
  have I1 : Hid (Calls Tryd.prog 16 #[.slice a1 2 e1, slB w4.heap.size 2] (w4.alloc (.cells #[.int .i64 0, .int .i64 1] 3)) fun e w' => e = .returned (.bool true) ∧ Nw w4 w') := i1.out
  obtain ⟨fb, hfb⟩ : ∃ fb, x4.fb = fb := ⟨_, rfl⟩
  rw [hfb]
  have HFB := Lib.hid hfb
  have S4 := Lib.hid s4
  clear e s4 m4 X4 HO4 i1 hfb HX3 HO3 HO2 HO1 S3 Ho c0 c1 c2
  go_wp2_with fail
  (with_reducible refine (I1.out).mono ?_)
  rintro _ w5 ⟨rfl, u5⟩
  have X5 := HX4.out.nw u5
  have S5 := Lib.hid (S4.out.nw u5)
  obtain ⟨c0, c1, c2⟩ := X5.cells
  have HX5 := Lib.hid X5
  have Hs := Lib.hid (xshort w5 (g.upd (N2.out.trans S5.out.nw0)) w.heap.size X5)
  clear u5 X5 I1 HX4 S4
  go_wp2_with fail
  (with_reducible refine (Hs.out).mono ?_)
  rintro _ w6 ⟨a6, e6, rfl, o6, u6⟩
  have S6 := Lib.hid (S5.out.nw u6)
  have i2 := Lib.hid (xints w6 _ [1] [1] _ _ o6 (by decide) (by decide))
  have I2 : Hid (Calls Tryd.prog 16 #[.slice a6 1 e6, slB w6.heap.size 1] (w6.alloc (.cells #[.int .i64 1] 3)) fun e w' => e = .returned (.bool true) ∧ Nw w6 w') := i2.out
  clear u6 o6 i2 S5 Hs c0 c1 c2
  go_wp2_with fail
  (with_reducible refine (I2.out).mono ?_)
  rintro _ w7 ⟨rfl, u7⟩
  have S7 := Lib.hid (S6.out.nw u7)
  have t1 := xtake S7.out GW2.out HFB.out 0 [99, 100] (I64_s (by decide)) (by decide) (by decide) Ft.y2
  have T1 : Hid (Calls Tryd.prog 10 #[.pointer (some ⟨fb, 0, none⟩), .int .i64 0, .string ⟨#[99, 100]⟩] w7 _) := t1
  clear u7 I2 S6 t1
  go_wp2_with fail
  (with_reducible refine (T1.out).mono ?_)
  rintro _ w8 ⟨rfl, x8, f8, s8, m8⟩
  have t2 := xtake s8 GW2.out f8 2 [97, 98] (I64_s (by decide)) (by decide) (by decide) Ft.y3
  have T2 : Hid (Calls Tryd.prog 10 #[.pointer (some ⟨fb, 0, none⟩), .int .i64 2, .string ⟨#[97, 98]⟩] w8 _) := t2
  clear t2 s8 m8 T1 S7 f8 HFB
  go_wp2_with fail
  (with_reducible refine (T2.out).mono ?_)
  rintro _ w9 ⟨rfl, x9, f9, s9, m9⟩
  have t3 := xtake s9 GW2.out f9 1 [99, 100] (I64_s (by decide)) (by decide) (by decide) Ft.y4
  have T3 : Hid (Calls Tryd.prog 10 #[.pointer (some ⟨fb, 0, none⟩), .int .i64 1, .string ⟨#[99, 100]⟩] w9 _) := t3
  clear t3 s9 m9 T2 f9
  go_wp2_with fail
  (with_reducible refine (T3.out).mono ?_)
  rintro _ w10 ⟨rfl, x10, f10, s10, m10⟩
  have mi := fmissing_t s10 GW2.out (by decide) (by decide)
  rw [f10, Ft.y5.1] at mi
  have Mi := Lib.hid mi
  have F10 := Lib.hid f10
  have S10 := Lib.hid s10
  clear mi s10 m10 T3 f10
  go_wp2_with fail
  (with_reducible refine (Mi.out).mono ?_)
  rintro _ w11 ⟨v11, rfl, o11, u11⟩
  have s11 := S10.out.keep (F' := fun k => v11.ownBlock = some k) u11 (fun k e => Or.inr (o11.lt k e))
  have tx := ftext_t s11 GW2.out (by decide) (by decide) (by decide)
  rw [F10.out, Ft.y5.2] at tx
  have Tx : Hid (Calls Tryd.prog 18 #[.pointer (some ⟨fb, 0, none⟩)] w11 fun e w' => e = .returned (.tuple #[.string ⟨#[]⟩, .int .i64 33]) ∧ Nw w11 w') := tx
  have HO11 := Lib.hid o11
  have S11 := Lib.hid s11
  obtain ⟨a11, e11, rfl⟩ := own_slG o11
  clear tx s11 u11 o11 Mi S10
  go_wp2_with fail
  (with_reducible refine (Tx.out).mono ?_)
  rintro _ w12 ⟨rfl, u12⟩
  have s12 := S11.out.nw u12
  have o12 := owns_upd' HO11.out u12 (fun _ _ e => e)
  have t4 := xtake s12 GW2.out F10.out 0 [97, 98] (I64_s (by decide)) (by decide) (by decide) Ft.y6
  have T4 : Hid (Calls Tryd.prog 10 #[.pointer (some ⟨fb, 0, none⟩), .int .i64 0, .string ⟨#[97, 98]⟩] w12 _) := t4
  have HO12 := Lib.hid o12
  clear t4 s12 o12 u12 Tx S11 HO11
  go_wp2_with fail
  (with_reducible refine (T4.out).mono ?_)
  rintro _ w13 ⟨rfl, x13, f13, s13, m13⟩
  have o13 := owns_kept HO12.out m13 (fun k e => Or.inl e)
  have tx := ftext_t s13 GW2.out (by decide) (by decide) (by decide)
  rw [f13, Ft.y7] at tx
  have Tx2 : Hid (Calls Tryd.prog 18 #[.pointer (some ⟨fb, 0, none⟩)] w13 fun e w' => e = .returned (.tuple #[.string ⟨#[97, 98, 99, 100]⟩, .int .i64 0]) ∧ Nw w13 w') := tx
  have HO13 := Lib.hid o13
  have N13 := Lib.hid (N2.out.trans s13.nw0)
  clear tx s13 m13 o13 T4 HO12 F10
  go_wp2_with fail
  (with_reducible refine (Tx2.out).mono ?_)
  rintro _ w14 ⟨rfl, u14⟩
  have o14 := owns_upd' HO13.out u14 (fun _ _ e => e)
  have N14 := Lib.hid (N13.out.trans u14)
  have i3 := Lib.hid (xints w14 _ [0] [0] _ _ o14 (by decide) (by decide))
  have I3 : Hid (Calls Tryd.prog 16 #[.slice a11 1 e11, slB w14.heap.size 1] (w14.alloc (.cells #[.int .i64 0] 3)) fun e w' => e = .returned (.bool true) ∧ Nw w14 w') := i3.out
  clear u14 o14 i3 Tx2 HO13 f13
  go_wp2_with fail
  (with_reducible refine (I3.out).mono ?_)
  rintro _ w15 ⟨rfl, u15⟩
  have N15 := Lib.hid (N14.out.trans u15)
  clear u15 I3
  go_wp2_with fail
  go_ret
  exact ⟨rfl, N15.out⟩
end Go.Proofs.YtagmlemlagbfkaaDoor
namespace Go.Proofs.YtagmlemlagbfkaaDoor
set_option linter.unusedVariables false
set_option linter.unusedSimpArgs false

namespace Ft
structure Even (k : Nat) (s : List Int × List Int) (q : Int) : Prop where
  len : s.1.length = k
  q0 : 0 ≤ q
  lo : ∀ i, i < k → q ≤ s.1.getD i 0 ∧ s.1.getD i 0 ≤ q + 1
  cnt : ∀ i, i < k → ((s.2.count (i : Int) : Nat) : Int) = s.1.getD i 0
  rng : ∀ x ∈ s.2, 0 ≤ x ∧ x < k
theorem getD_set {l : List Int} {b i : Nat} {v : Int} (hb : b < l.length) : (l.set b v).getD i 0 = if i = b then v else l.getD i 0 := by
  by_cases h : i = b
  · subst h; rw [if_pos rfl]; simp [hb]
  · rw [if_neg h]; simp [List.getElem?_set_ne (Ne.symm h)]
theorem Even.step {k : Nat} {s : List Int × List Int} {q : Int} (h : Even k s q) {ls : List (List Int)} (hk : ls.length = k) (h0 : 0 < k) {p : Int} (hp : ∀ l ∈ ls, p ∈ l) : ∃ q', Even k (stepP ls s p) q' := by
  have hall : ∀ n, p ∈ ls.getD n [] ∨ ls.length ≤ n := fun n => by
    by_cases hn : n < ls.length
    · left
      rw [List.getD_eq_getElem?_getD, List.getElem?_eq_getElem hn]
      exact hp _ (List.getElem_mem hn)
    · exact Or.inr (by omega)
  obtain ⟨b1, b2⟩ := best_all (load := s.1) hall ls.length (Nat.le_refl _) (by omega)
  have b3 := (best_lo p s.1 ls ls.length).2
  obtain ⟨b, hb⟩ : ∃ b : Nat, best p s.1 ls ls.length = b := ⟨(best p s.1 ls ls.length).toNat, by omega⟩
  have hbk : b < k := by omega
  have hbl : b < s.1.length := by rw [h.len]; exact hbk
  have e : stepP ls s p = (s.1.set b (s.1.getD b 0 + 1), s.2 ++ [(b : Int)]) := by unfold stepP; simp only [hb, Int.toNat_natCast]
  rw [hb, Int.toNat_natCast] at b2
  rw [e]
  have hlb := h.lo b hbk
  have hcnt : ∀ i, i < k → (((s.2 ++ [(b : Int)]).count (i : Int) : Nat) : Int) = (s.1.set b (s.1.getD b 0 + 1)).getD i 0 := fun i hi => by
    rw [getD_set hbl, List.count_append]
    have := h.cnt i hi
    by_cases hib : i = b
    · subst hib; rw [if_pos rfl, List.count_singleton_self]; omega
    · rw [if_neg hib, List.count_singleton]
      have : ((b : Int) == (i : Int)) = false := by simp; omega
      rw [this, if_neg (by decide)]; have := h.cnt i hi; omega
  have hrng : ∀ x ∈ s.2 ++ [(b : Int)], 0 ≤ x ∧ x < k := fun x hx => by
    rcases List.mem_append.1 hx with hx | hx
    · exact h.rng x hx
    · rw [List.mem_singleton.1 hx]; omega
  by_cases hq : s.1.getD b 0 = q
  · refine ⟨q, by simp [h.len], h.q0, fun i hi => ?_, hcnt, hrng⟩
    show q ≤ (s.1.set b (s.1.getD b 0 + 1)).getD i 0 ∧ (s.1.set b (s.1.getD b 0 + 1)).getD i 0 ≤ q + 1
    rw [getD_set hbl]
    have := h.lo i hi
    split <;> omega
  · refine ⟨q + 1, by simp [h.len], by have := h.q0; omega, fun i hi => ?_, hcnt, hrng⟩
    show q + 1 ≤ (s.1.set b (s.1.getD b 0 + 1)).getD i 0 ∧ (s.1.set b (s.1.getD b 0 + 1)).getD i 0 ≤ q + 1 + 1
    rw [getD_set hbl]
    have h1 := h.lo i hi
    have h2 := b2 i (by omega)
    split <;> omega
theorem even_run {ls : List (List Int)} (h0 : 0 < ls.length) : ∀ (ps : List Int) (s : List Int × List Int) (q : Int), Even ls.length s q → (∀ p ∈ ps, ∀ l ∈ ls, p ∈ l) → ∃ q', Even ls.length (ps.foldl (stepP ls) s) q' := by
  intro ps
  induction ps with
  | nil => exact fun s q h _ => ⟨q, h⟩
  | cons p ps ih =>
    intro s q h hp
    obtain ⟨q', h'⟩ := h.step rfl h0 (hp p (by simp))
    exact ih _ q' h' (fun p' hp' => hp p' (by simp [hp']))
theorem even_plan {chunks : List Int} {k : Nat} (h0 : 0 < k) (hk : k ≤ 20) (hc : chunks.length ≤ 1000) :
    plan chunks (List.replicate k chunks) = ((runP (List.replicate k chunks) chunks).2, 0) ∧ (runP (List.replicate k chunks) chunks).2.length = chunks.length ∧ ∃ q, Even k (runP (List.replicate k chunks) chunks) q := by
  have hall : ∀ p ∈ chunks, ∀ l ∈ List.replicate k chunks, p ∈ l := fun p hp l hl => by rw [(List.mem_replicate.1 hl).2]; exact hp
  refine ⟨?_, (runP_len _ _).2, ?_⟩
  · unfold plan
    rw [if_neg (by simp; omega), if_neg]
    rw [miss_nil]
    · simp
    · intro n hn
      rw [List.mem_flatten]
      exact ⟨chunks, List.mem_replicate.2 ⟨by omega, rfl⟩, hn⟩
  · have e := even_run (ls := List.replicate k chunks) (by simpa using h0) chunks (List.replicate (List.replicate k chunks).length 0, []) 0 ⟨by simp, by omega, fun i hi => ?_, fun i hi => ?_, fun x hx => by cases hx⟩ hall
    · rw [List.length_replicate] at e; unfold runP; rw [List.length_replicate]; exact e
    · rw [List.length_replicate] at hi; simp [hi]
    · rw [List.length_replicate] at hi; simp [hi]
/-- What the statement asks in the end. -/
theorem even_end {k : Nat} {s : List Int × List Int} {q : Int} (h : Even k s q) {i : Nat} (hi : i < k) : q ≤ ((s.2.count (i : Int) : Nat) : Int) ∧ ((s.2.count (i : Int) : Nat) : Int) ≤ q + 1 := by
  rw [h.cnt i hi]; exact h.lo i hi
theorem even_len {k : Nat} {s : List Int × List Int} {q : Int} (h : Even k s q) (h0 : 0 < k) : q ≤ ((s.2.length : Nat) : Int) := by
  have h1 := (even_end h h0).1
  have h2 := List.count_le_length (a := ((0 : Nat) : Int)) (l := s.2)
  omega
end Ft
end Go.Proofs.YtagmlemlagbfkaaDoor
