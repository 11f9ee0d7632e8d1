/- small of chapter 38. The walk of FetchTells. A list of lists of numbers among a statement's arguments. -/
import Derived.Test.YtmlmdlbepppnlaaGreatDoorPkFTells3
import Derived.Test.YtmlmdlbepppnlaaGreatDoorPkFTells5
import Derived.Test.YtmlmdlbepppnlaaGreatDoorPkFTells1
namespace Go.Proofs.YtmlmdlbepppnlaaGreatDoor
open Go.RowKit
set_option linter.unusedVariables false
set_option linter.unusedSimpArgs false
attribute [local irreducible] Calls

theorem sl_lit {w : World} {b : Nat} {xs : List Value} {T : TypeId} (h : w.heap[b]? = some (.cells xs.toArray T (0, 0))) (hl : xs.length ≤ 1000) : Sl b (b + 1) w (.slice (some ⟨b, 0, none⟩) xs.length xs.length) xs :=
  Or.inr ⟨b, 0, xs.length, rfl, Nat.le_refl _, by unfold maxLen; omega, Nat.le_refl _, by omega, lt_of_block h, fun i hi => by rw [cells_cell h]; simp⟩
theorem rows_lit {w : World} {b : Nat} {C : List (Value × List Int)} {T : TypeId} (h : w.heap[b]? = some (.cells (C.map (·.1)).toArray T (0, 0))) (hl : C.length ≤ 1000) (he : ∀ c ∈ C, ∃ lo hi, Sl lo hi w c.1 (c.2.map intD)) : RowsI w (.slice (some ⟨b, 0, none⟩) C.length C.length) C := by
  have := sl_lit h (by rw [List.length_map]; exact hl)
  rw [List.length_map] at this
  exact ⟨⟨_, _, this⟩, he⟩
theorem sl_nilI (w : World) : Sl 0 0 w (.slice none 0 0) (([] : List Int).map intD) := Or.inl ⟨_, _, rfl, rfl⟩
theorem alloc3 (w : World) (A B C : Obj) : (((w.alloc A).alloc B).alloc C).heap[w.heap.size]? = some A ∧ (((w.alloc A).alloc B).alloc C).heap[w.heap.size + 1]? = some B ∧
    (((w.alloc A).alloc B).alloc C).heap[w.heap.size + 1 + 1]? = some C ∧ Nw w (((w.alloc A).alloc B).alloc C) ∧ (((w.alloc A).alloc B).alloc C).heap.size = w.heap.size + 3 := by
  have a1 := heap_new w A
  have a2 := heap_new (w.alloc A) B
  have a3 := heap_new ((w.alloc A).alloc B) C
  simp only [World.size_alloc] at a2 a3
  refine ⟨?_, ?_, a3, ((nw_alloc w A).alloc B).alloc C, by simp⟩
  · rw [heap_alloc _ _ _ (by simp only [World.size_alloc]; omega), heap_alloc _ _ _ (by simp only [World.size_alloc]; omega)]; exact a1
  · rw [heap_alloc _ _ _ (by simp only [World.size_alloc]; omega)]; exact a2
theorem alloc2 (w : World) (A B : Obj) : ((w.alloc A).alloc B).heap[w.heap.size]? = some A ∧ ((w.alloc A).alloc B).heap[w.heap.size + 1]? = some B ∧ Nw w ((w.alloc A).alloc B) ∧ ((w.alloc A).alloc B).heap.size = w.heap.size + 2 := by
  have a1 := heap_new w A
  have a2 := heap_new (w.alloc A) B
  simp only [World.size_alloc] at a2
  refine ⟨?_, a2, (nw_alloc w A).alloc B, by simp⟩
  rw [heap_alloc _ _ _ (by simp only [World.size_alloc]; omega)]; exact a1
abbrev slB (b n : Nat) : Value := .slice (some ⟨b, 0, none⟩) n n
/-- The contents, the chunks and the manifest of the example. -/
structure XM (w : World) (B : Nat) : Prop where
  b0 : w.heap[B]? = some (.cells (Ft.xcs.map bsMU).toArray 9 (0, 0))
  b1 : w.heap[B + 1]? = some (.cells (Ft.xm.chunks.map intD).toArray 3 (0, 0))
  b2 : w.heap[B + 1 + 1]? = some (.cells #[.int .i64 0, .int .i64 4, slB (B + 1) 2] tManU (0, 0))
theorem XM.upd {w w' : World} {B : Nat} {S : Nat → Prop} (h : XM w B) (u : Upd S w w') (hs : ∀ k, k < B + 3 → ¬ S k) : XM w' B := ⟨u.keep h.b0 (hs _ (by omega)), u.keep h.b1 (hs _ (by omega)), u.keep h.b2 (hs _ (by omega))⟩
theorem XM.nw {w w' : World} {B : Nat} (h : XM w B) (u : Nw w w') : XM w' B := h.upd u (fun _ _ s => s)
theorem XM.cells {w : World} {B : Nat} (h : XM w B) : w.cell? ⟨B + 1 + 1, 0, none⟩ = some (.int .i64 0) ∧ w.cell? ⟨B + 1 + 1, 1, none⟩ = some (.int .i64 4) ∧ w.cell? ⟨B + 1 + 1, 2, none⟩ = some (slB (B + 1) 2) := ⟨by rw [cells_cell h.b2]; rfl, by rw [cells_cell h.b2]; rfl, by rw [cells_cell h.b2]; rfl⟩
theorem XM.ch {w : World} {B : Nat} (h : XM w B) : Sl (B + 1) (B + 1 + 1) w (slB (B + 1) 2) (Ft.xm.chunks.map intD) := sl_lit h.b1 (by decide)
theorem XM.own {w : World} {B : Nat} (h : XM w B) : w.ownsRow B tStrMU 1 (slB B 3) 3 (Ft.xcs.map bsMU) :=
  ⟨by rfl, Or.inr ⟨B, 3, _, rfl, Nat.le_refl _, h.b0, Nat.le_refl _, by unfold maxLen; omega, by rfl, by rfl⟩⟩
theorem xm_made (w : World) : XM (((w.alloc (.cells #[.string ⟨#[97, 98, 99, 100]⟩, .string ⟨#[97, 98]⟩, .string ⟨#[99, 100]⟩] 9)).alloc (.cells #[.int .i64 1, .int .i64 2] 3)).alloc (.cells #[.int .i64 0, .int .i64 4, .slice (some ⟨w.heap.size + 1, 0, none⟩) 2 2] tManU)) w.heap.size := by
  obtain ⟨a1, a2, a3, a4, a5⟩ := alloc3 w (.cells #[.string ⟨#[97, 98, 99, 100]⟩, .string ⟨#[97, 98]⟩, .string ⟨#[99, 100]⟩] 9) (.cells #[.int .i64 1, .int .i64 2] 3) (.cells #[.int .i64 0, .int .i64 4, .slice (some ⟨w.heap.size + 1, 0, none⟩) 2 2] tManU)
  exact ⟨a1, a2, a3⟩
theorem xplan1 (W0 : World) (g : Gl W0) (B : Nat) (h : XM W0 B) : Calls Tryz.prog 7 #[.agg #[.int .i64 0, .int .i64 4, slB (B + 1) 2], slB (W0.heap.size + 1 + 1) 2]
    (((W0.alloc (.cells #[.int .i64 1, .int .i64 2] 3)).alloc (.cells #[.int .i64 2] 3)).alloc (.cells #[slB W0.heap.size 2, slB (W0.heap.size + 1) 1] 26))
    fun e w' => ∃ a c, e = .returned (.tuple #[.slice a 2 c, .int .i64 0]) ∧ w'.ownsRow W0.heap.size 3 1 (.slice a 2 c) 2 [.int .i64 0, .int .i64 1] ∧ Nw W0 w' := by
  obtain ⟨a1, a2, a3, a4, a5⟩ := alloc3 W0 (.cells #[.int .i64 1, .int .i64 2] 3) (.cells #[.int .i64 2] 3) (.cells #[slB W0.heap.size 2, slB (W0.heap.size + 1) 1] 26)
  have hr := rows_lit (C := [(slB W0.heap.size 2, [1, 2]), (slB (W0.heap.size + 1) 1, [2])]) a3 (by simp) (fun c hc => by
    simp only [List.mem_cons, List.not_mem_nil, or_false] at hc
    rcases hc with rfl | rfl
    · exact ⟨_, _, sl_lit (xs := [.int .i64 1, .int .i64 2]) a1 (by decide)⟩
    · exact ⟨_, _, sl_lit (xs := [.int .i64 2]) a2 (by decide)⟩)
  refine (plan_c _ _ 0 4 _ [1, 2] _ _ _ (g.upd a4) ((h.nw a4).ch) (by decide) hr (by simp) (by simp [totL]) (fun c hc => by
    simp only [List.mem_cons, List.not_mem_nil, or_false] at hc
    rcases hc with rfl | rfl <;> simp)).mono ?_
  rintro e w' ⟨v', rfl, o, u⟩
  have e8 := Ft.y8.1
  simp only [List.map_cons, List.map_nil, e8] at o ⊢
  obtain ⟨a, c, rfl⟩ := own_slG o
  exact ⟨a, c, rfl, owns_base o (by omega), a4.trans u⟩
theorem xplan2 (W0 : World) (g : Gl W0) (B : Nat) (h : XM W0 B) : Calls Tryz.prog 7 #[.agg #[.int .i64 0, .int .i64 4, slB (B + 1) 2], slB (W0.heap.size + 1) 2]
    ((W0.alloc (.cells #[.int .i64 1] 3)).alloc (.cells #[slB W0.heap.size 1, .slice none 0 0] 26))
    fun e w' => ∃ a c, e = .returned (.tuple #[.slice a 0 c, .int .i64 33]) ∧ Nw W0 w' := by
  obtain ⟨a1, a2, a4, a5⟩ := alloc2 W0 (.cells #[.int .i64 1] 3) (.cells #[slB W0.heap.size 1, .slice none 0 0] 26)
  have hr := rows_lit (C := [(slB W0.heap.size 1, [1]), (.slice none 0 0, [])]) a2 (by simp) (fun c hc => by
    simp only [List.mem_cons, List.not_mem_nil, or_false] at hc
    rcases hc with rfl | rfl
    · exact ⟨_, _, sl_lit (xs := [.int .i64 1]) a1 (by decide)⟩
    · exact ⟨_, _, sl_nilI _⟩)
  refine (plan_c _ _ 0 4 _ [1, 2] _ _ _ (g.upd a4) ((h.nw a4).ch) (by decide) hr (by simp) (by simp [totL]) (fun c hc => by
    simp only [List.mem_cons, List.not_mem_nil, or_false] at hc
    rcases hc with rfl | rfl <;> simp)).mono ?_
  rintro e w' ⟨v', rfl, o, u⟩
  have e8 := Ft.y8.2.1
  simp only [List.map_cons, List.map_nil, e8] at o ⊢
  obtain ⟨a, c, rfl⟩ := own_slG o
  exact ⟨a, c, rfl, a4.trans u⟩
theorem xshort (W0 : World) (g : Gl W0) (B : Nat) (h : XM W0 B) : Calls Tryz.prog 12 #[.agg #[.int .i64 0, .int .i64 4, slB (B + 1) 2], slB (W0.heap.size + 1) 2]
    ((W0.alloc (.cells #[.int .i64 1] 3)).alloc (.cells #[slB W0.heap.size 1, .slice none 0 0] 26))
    fun e w' => ∃ a c, e = .returned (.slice a 1 c) ∧ w'.ownsRow W0.heap.size 3 1 (.slice a 1 c) 1 [.int .i64 1] ∧ Nw W0 w' := by
  obtain ⟨a1, a2, a4, a5⟩ := alloc2 W0 (.cells #[.int .i64 1] 3) (.cells #[slB W0.heap.size 1, .slice none 0 0] 26)
  have hr := rows_lit (C := [(slB W0.heap.size 1, [1]), (.slice none 0 0, [])]) a2 (by simp) (fun c hc => by
    simp only [List.mem_cons, List.not_mem_nil, or_false] at hc
    rcases hc with rfl | rfl
    · exact ⟨_, _, sl_lit (xs := [.int .i64 1]) a1 (by decide)⟩
    · exact ⟨_, _, sl_nilI _⟩)
  refine (short_c _ _ 0 4 _ [1, 2] _ _ _ (g.upd a4) ((h.nw a4).ch) (by decide) hr (by simp) (by simp [totL])).mono ?_
  rintro e w' ⟨v', rfl, o, u⟩
  have e8 := Ft.y8.2.2
  simp only [List.map_cons, List.map_nil, List.flatten_cons, List.flatten_nil, List.append_nil, e8] at o
  obtain ⟨a, c, rfl⟩ := own_slG o
  exact ⟨a, c, rfl, owns_base o (by omega), a4.trans u⟩
/-- Comparing with a literal. -/
theorem xints (W0 : World) (v : Value) (l m : List Int) (B n : Nat) (o : W0.ownsRow B 3 1 v n (l.map intD)) (hl : l.length ≤ 1000) (hm : m.length ≤ 1000) : Calls Tryz.prog 11 #[v, slB W0.heap.size m.length] (W0.alloc (.cells (m.map intD).toArray 3)) fun e w' => e = .returned (.bool (decide (l = m))) ∧ Nw W0 w' := by
  have na := nw_alloc W0 (.cells (m.map intD).toArray 3)
  have hs := sl_lit (heap_new W0 (.cells (m.map intD).toArray 3)) (by rw [List.length_map]; exact hm)
  rw [List.length_map] at hs
  exact (ints_c _ _ _ _ v _ l m _ (Sl.of_owns (owns_upd' o na (fun _ _ e => e))) hs (by omega) (by omega)).mono fun _ _ ⟨h, u⟩ => ⟨h, na.trans u⟩
/-- A Take of the example. -/
theorem xtake {W0 w : World} {db fb : Nat} {x : FtR} {j j' : Jr.Jn} {D D' : Dk.Disk} {F : Nat → Prop} {n : Int} (h : FS W0 db x j Ft.xcs Ft.xm D F w) (g : Gl W0) (hfb : x.fb = fb) (i : Int) (t : List UInt8) (hi : I64 i) (ht : t.length ≤ 100) (hr : j.recs.length ≤ 1000) (e : Ft.take D Ft.xcs Ft.xm j i t = (D', j', n)) :
    Calls Tryz.prog 17 #[.pointer (some ⟨fb, 0, none⟩), .int .i64 i, .string ⟨t.toArray⟩] w fun e w' => e = .returned (.int .i64 n) ∧ ∃ x' : FtR, x'.fb = fb ∧ FS W0 db x' j' Ft.xcs Ft.xm D' F w' ∧ Moves W0 F w w' := by
  subst hfb
  refine (take_t h g (by decide) (by omega) (by decide) (by decide) hi (by omega)).mono ?_
  rintro _ w' ⟨rfl, x', h1, h2, h3⟩
  rw [e] at h2 ⊢
  exact ⟨rfl, x', h1, h2, h3⟩
set_option maxHeartbeats 8000000 in
set_option maxRecDepth 100000 in
theorem small38_c (w : World) (g : Gl w) : Calls Tryz.prog 4 #[] w fun e w' => e = .returned (.bool true) ∧ Nw w w' := by
  have hgb := g.big
  have X0 := xm_made w
  have n0 : Nw w _ := (alloc3 w (.cells #[.string ⟨#[97, 98, 99, 100]⟩, .string ⟨#[97, 98]⟩, .string ⟨#[99, 100]⟩] 9) (.cells #[.int .i64 1, .int .i64 2] 3) (.cells #[.int .i64 0, .int .i64 4, .slice (some ⟨w.heap.size + 1, 0, none⟩) 2 2] tManU)).2.2.2.1
  have z0 := (alloc3 w (.cells #[.string ⟨#[97, 98, 99, 100]⟩, .string ⟨#[97, 98]⟩, .string ⟨#[99, 100]⟩] 9) (.cells #[.int .i64 1, .int .i64 2] 3) (.cells #[.int .i64 0, .int .i64 4, .slice (some ⟨w.heap.size + 1, 0, none⟩) 2 2] tManU)).2.2.2.2
  generalize hW0 : (((w.alloc (.cells #[.string ⟨#[97, 98, 99, 100]⟩, .string ⟨#[97, 98]⟩, .string ⟨#[99, 100]⟩] 9)).alloc (.cells #[.int .i64 1, .int .i64 2] 3)).alloc (.cells #[.int .i64 0, .int .i64 4, .slice (some ⟨w.heap.size + 1, 0, none⟩) 2 2] tManU)) = W0 at *
  obtain ⟨c0, c1, c2⟩ := X0.cells
  have hp1 := Lib.hid (xplan1 W0 (g.upd n0) w.heap.size X0)
  have HX0 := Lib.hid X0
  have N0 := Lib.hid n0
  have Z0 := Lib.hid z0
  clear X0 n0 z0
  go_enter Tryz.func4, Tryz.ntmps4
  go_wp2_with fail
  (with_reducible refine (hp1.out).mono ?_)
  rintro _ w1 ⟨a1, e1, rfl, o1, u1⟩
  have HO1 := Lib.hid o1
  have N1 := Lib.hid (N0.out.trans u1)
  have X1 := HX0.out.nw u1
  have hz1 := u1.size
  obtain ⟨c0', c1', c2'⟩ := X1.cells
  have hp2 := Lib.hid (xplan2 w1 (g.upd N1.out) w.heap.size X1)
  have HX1 := Lib.hid X1
  have HZ1 : Hid (w.heap.size + 3 ≤ w1.heap.size) := by show _ ≤ _; have := Z0.out; omega
  clear o1 u1 X1 hp1 c0 c1 c2 hz1
  go_wp2_with fail
  (with_reducible refine (hp2.out).mono ?_)
  rintro _ w2 ⟨a2, e2, rfl, u2⟩
  have N2 := Lib.hid (N1.out.trans u2)
  have HX2 := Lib.hid (HX1.out.nw u2)
  have HO2 := Lib.hid (owns_upd' HO1.out u2 (fun _ _ e => e))
  have hz12 := u2.size
  have HZ2 : Hid (w.heap.size + 3 ≤ w2.heap.size) := by show _ ≤ _; have := HZ1.out; omega
  have hn := Lib.hid (new_t w2 (g.upd N2.out))
  clear u2 hp2 c0' c1' c2' hz12
  go_wp2_with fail
  (with_reducible refine (hn.out).mono ?_)
  rintro _ w3 ⟨db, rfl, s3⟩
  have S3 := Lib.hid s3
  have n3 := s3.nw0
  have X3 := HX2.out.nw n3
  have HX3 := Lib.hid X3
  have HO3 := Lib.hid (owns_upd' HO2.out n3 (fun _ _ e => e))
  obtain ⟨c0, c1, c2⟩ := X3.cells
  have ho := fopen_t (m := Ft.xm) (cs := Ft.xcs) s3 (g.upd N2.out) (f := 0) (I64_s (by decide)) X3.own (fun k e => Or.inr (by have := HZ2.out; obtain rfl : w.heap.size = k := (by simpa [Value.ownBlock] using e); omega)) X3.ch (fun k h1 h2 => Or.inr (by have := HZ2.out; omega)) ⟨by decide, by decide⟩ (by decide) (by decide)
  rw [Ft.y1] at ho
  have Ho : Hid (Calls Tryz.prog 14 #[.pointer (some ⟨db, 0, none⟩), .int .i64 0, slB w.heap.size 3, .agg #[.int .i64 0, .int .i64 4, slB (w.heap.size + 1) 2]] w3 _) := ho
  clear s3 n3 X3 hn ho
  go_wp2_with fail
  (with_reducible refine (Ho.out).mono ?_)
  rintro _ w4 ⟨pv, rfl, m4, f4⟩
  rcases f4 with ⟨e, _, _⟩ | ⟨j4, x4, e, rfl, s4⟩
  · cases e
  obtain rfl := Option.some.inj e
  have GW2 := Lib.hid (g.upd N2.out)
  have X4 := HX3.out.upd m4 (fun k hk s => by have := HZ2.out; have := s.2; omega)
  have HX4 := Lib.hid X4
  have HO4 := owns_kept HO3.out m4 (fun k e => Or.inr ((HO2.out.lt k e).2))
  have i1 := Lib.hid (xints w4 _ [0, 1] [0, 1] _ _ HO4 (by decide) (by decide))
  have I1 : Hid (Calls Tryz.prog 11 #[.slice a1 2 e1, slB w4.heap.size 2] (w4.alloc (.cells #[.int .i64 0, .int .i64 1] 3)) fun e w' => e = .returned (.bool true) ∧ Nw w4 w') := i1.out
  obtain ⟨fb, hfb⟩ : ∃ fb, x4.fb = fb := ⟨_, rfl⟩
  rw [hfb]
  have HFB := Lib.hid hfb
  have S4 := Lib.hid s4
  clear e s4 m4 X4 HO4 i1 hfb HX3 HO3 HO2 HO1 S3 Ho c0 c1 c2
  go_wp2_with fail
  (with_reducible refine (I1.out).mono ?_)
  rintro _ w5 ⟨rfl, u5⟩
  have X5 := HX4.out.nw u5
  have S5 := Lib.hid (S4.out.nw u5)
  obtain ⟨c0, c1, c2⟩ := X5.cells
  have HX5 := Lib.hid X5
  have Hs := Lib.hid (xshort w5 (g.upd (N2.out.trans S5.out.nw0)) w.heap.size X5)
  clear u5 X5 I1 HX4 S4
  go_wp2_with fail
  (with_reducible refine (Hs.out).mono ?_)
  rintro _ w6 ⟨a6, e6, rfl, o6, u6⟩
  have S6 := Lib.hid (S5.out.nw u6)
  have i2 := Lib.hid (xints w6 _ [1] [1] _ _ o6 (by decide) (by decide))
  have I2 : Hid (Calls Tryz.prog 11 #[.slice a6 1 e6, slB w6.heap.size 1] (w6.alloc (.cells #[.int .i64 1] 3)) fun e w' => e = .returned (.bool true) ∧ Nw w6 w') := i2.out
  clear u6 o6 i2 S5 Hs c0 c1 c2
  go_wp2_with fail
  (with_reducible refine (I2.out).mono ?_)
  rintro _ w7 ⟨rfl, u7⟩
  have S7 := Lib.hid (S6.out.nw u7)
  have t1 := xtake S7.out GW2.out HFB.out 0 [99, 100] (I64_s (by decide)) (by decide) (by decide) Ft.y2
  have T1 : Hid (Calls Tryz.prog 17 #[.pointer (some ⟨fb, 0, none⟩), .int .i64 0, .string ⟨#[99, 100]⟩] w7 _) := t1
  clear u7 I2 S6 t1
  go_wp2_with fail
  (with_reducible refine (T1.out).mono ?_)
  rintro _ w8 ⟨rfl, x8, f8, s8, m8⟩
  have t2 := xtake s8 GW2.out f8 2 [97, 98] (I64_s (by decide)) (by decide) (by decide) Ft.y3
  have T2 : Hid (Calls Tryz.prog 17 #[.pointer (some ⟨fb, 0, none⟩), .int .i64 2, .string ⟨#[97, 98]⟩] w8 _) := t2
  clear t2 s8 m8 T1 S7 f8 HFB
  go_wp2_with fail
  (with_reducible refine (T2.out).mono ?_)
  rintro _ w9 ⟨rfl, x9, f9, s9, m9⟩
  have t3 := xtake s9 GW2.out f9 1 [99, 100] (I64_s (by decide)) (by decide) (by decide) Ft.y4
  have T3 : Hid (Calls Tryz.prog 17 #[.pointer (some ⟨fb, 0, none⟩), .int .i64 1, .string ⟨#[99, 100]⟩] w9 _) := t3
  clear t3 s9 m9 T2 f9
  go_wp2_with fail
  (with_reducible refine (T3.out).mono ?_)
  rintro _ w10 ⟨rfl, x10, f10, s10, m10⟩
  have mi := fmissing_t s10 GW2.out (by decide) (by decide)
  rw [f10, Ft.y5.1] at mi
  have Mi := Lib.hid mi
  have F10 := Lib.hid f10
  have S10 := Lib.hid s10
  clear mi s10 m10 T3 f10
  go_wp2_with fail
  (with_reducible refine (Mi.out).mono ?_)
  rintro _ w11 ⟨v11, rfl, o11, u11⟩
  have s11 := S10.out.keep (F' := fun k => v11.ownBlock = some k) u11 (fun k e => Or.inr (o11.lt k e))
  have tx := ftext_t s11 GW2.out (by decide) (by decide) (by decide)
  rw [F10.out, Ft.y5.2] at tx
  have Tx : Hid (Calls Tryz.prog 21 #[.pointer (some ⟨fb, 0, none⟩)] w11 fun e w' => e = .returned (.tuple #[.string ⟨#[]⟩, .int .i64 33]) ∧ Nw w11 w') := tx
  have HO11 := Lib.hid o11
  have S11 := Lib.hid s11
  obtain ⟨a11, e11, rfl⟩ := own_slG o11
  clear tx s11 u11 o11 Mi S10
  go_wp2_with fail
  (with_reducible refine (Tx.out).mono ?_)
  rintro _ w12 ⟨rfl, u12⟩
  have s12 := S11.out.nw u12
  have o12 := owns_upd' HO11.out u12 (fun _ _ e => e)
  have t4 := xtake s12 GW2.out F10.out 0 [97, 98] (I64_s (by decide)) (by decide) (by decide) Ft.y6
  have T4 : Hid (Calls Tryz.prog 17 #[.pointer (some ⟨fb, 0, none⟩), .int .i64 0, .string ⟨#[97, 98]⟩] w12 _) := t4
  have HO12 := Lib.hid o12
  clear t4 s12 o12 u12 Tx S11 HO11
  go_wp2_with fail
  (with_reducible refine (T4.out).mono ?_)
  rintro _ w13 ⟨rfl, x13, f13, s13, m13⟩
  have o13 := owns_kept HO12.out m13 (fun k e => Or.inl e)
  have tx := ftext_t s13 GW2.out (by decide) (by decide) (by decide)
  rw [f13, Ft.y7] at tx
  have Tx2 : Hid (Calls Tryz.prog 21 #[.pointer (some ⟨fb, 0, none⟩)] w13 fun e w' => e = .returned (.tuple #[.string ⟨#[97, 98, 99, 100]⟩, .int .i64 0]) ∧ Nw w13 w') := tx
  have HO13 := Lib.hid o13
  have N13 := Lib.hid (N2.out.trans s13.nw0)
  clear tx s13 m13 o13 T4 HO12 F10
  go_wp2_with fail
  (with_reducible refine (Tx2.out).mono ?_)
  rintro _ w14 ⟨rfl, u14⟩
  have o14 := owns_upd' HO13.out u14 (fun _ _ e => e)
  have N14 := Lib.hid (N13.out.trans u14)
  have i3 := Lib.hid (xints w14 _ [0] [0] _ _ o14 (by decide) (by decide))
  have I3 : Hid (Calls Tryz.prog 11 #[.slice a11 1 e11, slB w14.heap.size 1] (w14.alloc (.cells #[.int .i64 0] 3)) fun e w' => e = .returned (.bool true) ∧ Nw w14 w') := i3.out
  clear u14 o14 i3 Tx2 HO13 f13
  go_wp2_with fail
  (with_reducible refine (I3.out).mono ?_)
  rintro _ w15 ⟨rfl, u15⟩
  have N15 := Lib.hid (N14.out.trans u15)
  clear u15 I3
  go_wp2_with fail
  go_ret
  exact ⟨rfl, N15.out⟩
end Go.Proofs.YtmlmdlbepppnlaaGreatDoor
namespace Go.Proofs.YtmlmdlbepppnlaaGreatDoor
open Go.RowKit
set_option linter.unusedVariables false
set_option linter.unusedSimpArgs false
attribute [local irreducible] Calls

theorem take60T (s : ByteArray) : s.extract 0 (min (s.size : Int) 60).toNat = ⟨(s.data.toList.take 60).toArray⟩ := by
  rw [← bs_eta (s.extract 0 (min (s.size : Int) 60).toNat), bs_extract_list]
  congr 2
  have h := bs_size s
  rw [List.drop_zero, Nat.sub_zero]
  by_cases hc : s.size ≤ 60
  · rw [List.take_of_length_le (by omega), List.take_of_length_le (by omega)]
  · have : (min (s.size : Int) 60).toNat = 60 := by omega
    rw [this]
theorem totK : ∀ {C : List (Value × List Int)}, (∀ c ∈ C, c.2.length ≤ 20) → totL C ≤ C.length * 20 := by
  intro C
  induction C with
  | nil => intro _; simp [totL]
  | cons c C ih =>
    intro h
    have h1 := h c (by simp)
    have h2 := ih (fun x hx => h x (by simp [hx]))
    unfold totL at h2 ⊢
    rw [List.map_cons, List.flatten_cons, List.length_append, List.length_cons]
    omega
theorem plan_lenT (l : List Int) (ls : List (List Int)) : (Ft.plan l ls).1.length ≤ l.length := by
  unfold Ft.plan
  split
  · exact Nat.zero_le _
  · split
    · exact Nat.zero_le _
    · exact Nat.le_of_eq (Ft.runP_len ls l).2
set_option maxHeartbeats 16000000 in
set_option maxRecDepth 100000 in
theorem tells38_w (s : ByteArray) (hs : s.size ≤ 9223372036854775807) (zb : Nat) (hzb : zb < 256) (v2 : Value) (L : List (Value × FOp)) (w : World) (g : Gl w) (hL : FOpS w.heap.size w v2 L) (ah : Option Addr) (ch : Nat) (C : List (Value × List Int)) (hC : RowsI w (.slice ah C.length ch) C) (hCl : C.length ≤ 9223372036854775807) (file : Int) (hfile : I64 file) :
    Calls Tryz.prog 3 #[.string s, .int .u8 zb, v2, .slice ah C.length ch, .int .i64 file] w fun e w' => e = .returned (.bool true) ∧ Nw w w' := by
  have hgb := g.big
  have HSm := Lib.hid (small38_c w g)
  have hs1 : (s.size : Int) ≤ 9223372036854775807 := by omega
  have hC1 : (C.length : Int) ≤ 9223372036854775807 := by omega
  have htl : (s.data.toList.take 60).length ≤ 60 := List.length_take_le _ _
  have HCut := Lib.hid (fun (y : World) (u : Nw w y) => cut_c (s.data.toList.take 60) htl zb hzb y (g.upd u))
  rw [← take60T s] at HCut
  have HC := Lib.hid (Ft.cut_ok (cs0 := [otherB]) (by decide) (t := s.data.toList.take 60) (by show 1 + _ ≤ 85; omega) (by decide) htl (n := zb % 9) (by omega))
  have hz1 : (zb : Int) ≤ 255 := by omega
  have HLr := Lib.hid hL
  have HCr := Lib.hid hC
  have Hfew := Lib.hid (fun (y : World) (u : Nw w y) => few38_c w.heap.size v2 L y (hL.nw u))
  obtain ⟨al, cl, rfl, hLm, -⟩ := fop_cells hL
  have hL1 : (L.length : Int) ≤ 9223372036854775807 := by unfold maxLen at hLm; omega
  have HFile := Lib.hid hfile
  clear htl hL hLm hC hfile
  go_enter Tryz.func3, Tryz.ntmps3
  go_wp2_with fail
  (with_reducible refine (HSm.out).mono ?_)
  rintro _ w1 ⟨rfl, u1⟩
  have U1 := Lib.hid u1
  have hcut := Lib.hid (HCut.out w1 u1)
  clear HSm HCut u1
  go_wp2_with fail
  (with_reducible refine (hcut.out).mono ?_)
  rintro _ w2 ⟨v2, kv, rfl, hd⟩
  clear hcut
  generalize s.data.toList.take 60 = tx at *
  generalize hcs : Ck.conts [otherB] tx (zb % 9) = cs at *
  generalize hm : Ck.man [otherB] tx (zb % 9) = m at *
  obtain ⟨d1, d2, d3⟩ := hd
  rw [hcs] at d2
  rw [hm] at d3
  clear hcs hm
  obtain ⟨mp, mz, mc⟩ := m
  dsimp only at *
  obtain ⟨av, cv, rfl⟩ := own_slG d2
  obtain ⟨ak, ck, rfl⟩ := own_slG d3
  have N2 := Lib.hid (U1.out.trans d1)
  have nm : Nw w2 (w2.alloc (.cells #[.int .i64 mp, .int .i64 mz, .slice ak mc.length ck] tManU)) := nw_alloc _ _
  have bm : (w2.alloc (.cells #[.int .i64 mp, .int .i64 mz, .slice ak mc.length ck] tManU)).heap[w2.heap.size]? = some (.cells #[.int .i64 mp, .int .i64 mz, .slice ak mc.length ck] tManU (0, 0)) := heap_new _ _
  have HV := Lib.hid (owns_upd' d2 nm (fun _ _ e => e))
  have HK := Lib.hid (owns_upd' d3 nm (fun _ _ e => e))
  have HBm := Lib.hid bm
  have HNm := Lib.hid (N2.out.trans nm)
  have hmc := HC.out.chunks
  dsimp only at hmc
  have hmc1 : (mc.length : Int) ≤ 60 := by omega
  clear d1 d2 d3 nm bm
  generalize hW : w2.alloc (.cells #[.int .i64 mp, .int .i64 mz, .slice ak mc.length ck] tManU) = W1 at *
  have HW := Lib.hid hW
  have hfew := Lib.hid (Hfew.out W1 HNm.out)
  clear Hfew
  go_wp2_with fail
  (with_reducible refine (hfew.out).mono ?_)
  rintro _ _ ⟨rfl, rfl⟩
  cases hB : fewFB L with
  | false =>
    clear hB
    go_wp2_with fail
    go_ret
    exact ⟨rfl, HNm.out⟩
  | true =>
  have hF := Lib.hid (fewFB_iff.1 hB)
  clear hB hfew
  have hL20 : (L.length : Int) ≤ 20 := by have := hF.out.2; omega
  by_cases h1 : 6 < C.length
  · have e1 : decide ((6 : Int) < C.length) = true := decide_eq_true (by omega)
    clear h1
    go_wp2_with fail
    go_ret
    exact ⟨rfl, HNm.out⟩
  have e1 : decide ((6 : Int) < C.length) = false := decide_eq_false (by omega)
  have hC6 : (C.length : Int) ≤ 6 := by omega
  have hrow := HCr.out.nw HNm.out
  have HRC := Lib.hid hrow.cells
  have HRE := Lib.hid hrow.each
  clear h1 hrow
  go_wp2_with fail
  go_loopw [15] (fun iv wr => ∃ n : Nat, n ≤ C.length ∧ iv = .int .i64 (n : Int) ∧ Hid (∀ i (h : i < C.length), i < n → C[i].2.length ≤ 20) ∧ W1 = wr) (fun iv _ => C.length - (intOf iv).toNat)
  case atStart => exact ⟨0, Nat.zero_le _, rfl, fun i _ h => absurd h (Nat.not_lt_zero _), rfl⟩
  case round =>
    obtain ⟨n, hn, rfl, HA, rfl⟩ := hrel
    by_cases hlt : n < C.length
    · have hlt1 : (n : Int) < C.length := by omega
      rcases HRC.out with ⟨_, _, e, _, hnil | ⟨bh, oh, e2, _, hcell⟩⟩
      · simp [hnil] at hlt
      injection e with e3 e4 e5
      subst e3 e5
      subst e2
      have c0 := hcell n hlt
      obtain ⟨lo3, hi3, hs3⟩ := HRE.out C[n] (List.getElem_mem hlt)
      obtain ⟨ai, ci, hvi, hm3, hci⟩ := int_cells hs3
      rw [hvi] at c0
      have hstep : Hid (C[n].2.length ≤ 20 → ∀ i (h : i < C.length), i < n + 1 → C[i].2.length ≤ 20) := fun h1 i hi hik => by
        by_cases e : i = n
        · subst e; exact h1
        · exact HA.out i hi (by omega)
      clear hcell hs3 hci hvi
      generalize C[n].2.length = kl at *
      have hkl : (kl : Int) ≤ 9223372036854775807 := by unfold maxLen at hm3; omega
      by_cases h2 : (20 : Int) < kl
      · clear hstep hm3
        go_wp2_with fail
        go_ret
        exact ⟨rfl, HNm.out⟩
      · have hz := Lib.hid (hstep.out (by omega))
        clear hstep hm3
        go_wp2_with fail
        go_roundw
        case rel => exact ⟨n + 1, by omega, by go_num, hz.out, by first | rfl | trivial⟩
        case measure => simp [intOf]; omega
    · obtain rfl : n = C.length := by omega
      have h20 : ∀ c ∈ C, c.2.length ≤ 20 := fun c hc => by
        obtain ⟨i, hi, rfl⟩ := List.getElem_of_mem hc
        exact HA.out i hi hi
      have htot := totK h20
      have H20 := Lib.hid (And.intro h20 htot)
      have hC6n : C.length ≤ 6 := by omega
      have hmcn : mc.length ≤ 60 := by omega
      have hrow := HCr.out.nw HNm.out
      have hpl := plan_c _ _ mp mz _ mc _ C W1 (g.upd HNm.out) (Sl.of_owns HK.out) (by omega) hrow (by omega) (by omega) (fun c hc => by have := h20 c hc; omega)
      have HPl := Lib.hid hpl
      have k0 : W1.cell? ⟨w2.heap.size, 0, none⟩ = some (.int .i64 mp) := by rw [cells_cell HBm.out]; rfl
      have k1 : W1.cell? ⟨w2.heap.size, 1, none⟩ = some (.int .i64 mz) := by rw [cells_cell HBm.out]; rfl
      have k2 : W1.cell? ⟨w2.heap.size, 2, none⟩ = some (.slice ak mc.length ck) := by rw [cells_cell HBm.out]; rfl
      clear h20 htot hrow hpl HA
      go_wp2_with fail
      (with_reducible refine (HPl.out).mono ?_)
      rintro _ w3 ⟨v3, rfl, o3, u3⟩
      have U3 := Lib.hid u3
      have HO3 := Lib.hid o3
      have hrow := HCr.out.nw (HNm.out.trans u3)
      have hpl := rplan_c _ _ mp mz _ mc _ C w3 (g.upd (HNm.out.trans u3)) ((Sl.of_owns HK.out).nw u3) (by omega) hrow (by omega) (by have := H20.out.2; omega) (fun c hc => by have := H20.out.1 c hc; omega)
      have HPq := Lib.hid hpl
      have k0 : w3.cell? ⟨w2.heap.size, 0, none⟩ = some (.int .i64 mp) := by rw [cells_cell (Nw.keep u3 HBm.out)]; rfl
      have k1 : w3.cell? ⟨w2.heap.size, 1, none⟩ = some (.int .i64 mz) := by rw [cells_cell (Nw.keep u3 HBm.out)]; rfl
      have k2 : w3.cell? ⟨w2.heap.size, 2, none⟩ = some (.slice ak mc.length ck) := by rw [cells_cell (Nw.keep u3 HBm.out)]; rfl
      clear u3 o3 HPl hrow hpl
      have HPL := Lib.hid (plan_lenT mc (C.map (·.2)))
      go_wp2_with fail
      (with_reducible refine (HPq.out).mono ?_)
      rintro _ W ⟨v4, rfl, o4, u4⟩
      generalize Ft.plan mc (C.map (·.2)) = PL at *
      obtain ⟨a3, c3, rfl⟩ := own_slG HO3.out
      obtain ⟨a4, c4, rfl⟩ := own_slG o4
      have NW := Lib.hid (HNm.out.trans (U3.out.trans u4))
      have U4 := Lib.hid (U3.out.trans u4)
      have HO3' := Lib.hid (owns_upd' HO3.out u4 (fun _ _ e => e))
      have HO4 := Lib.hid o4
      have hg4 := g.upd NW.out
      have G4 := Lib.hid hg4
      have hn := Lib.hid (new_t W hg4)
      have HBW := Lib.hid (Nw.keep U4.out HBm.out)
      have HVW := Lib.hid (owns_upd' HV.out U4.out (fun _ _ e => e))
      have HKW := Lib.hid (owns_upd' HK.out U4.out (fun _ _ e => e))
      clear o4 u4 HPq k0 k1 k2 hg4
      go_wp2_with fail
      (with_reducible refine (hn.out).mono ?_)
      rintro _ w5 ⟨db, rfl, s5⟩
      have S5 := Lib.hid s5
      have hrn := Lib.hid (new_rd w5 (s5.gl G4.out))
      clear hn s5
      go_wp2_with fail
      (with_reducible refine (hrn.out).mono ?_)
      rintro _ w6 ⟨r, rfl, k6, u6⟩
      have T6 := Lib.hid (ts_new S5.out k6 u6)
      generalize r.rb = rb at *
      clear hrn k6 u6
      have pe1 : (PL.2 == PL.2) = true := by simp
      have pe2 : (PL.2 != PL.2) = false := by simp
      have cl : ∀ y, Nw W y → y.cell? ⟨w2.heap.size, 0, none⟩ = some (.int .i64 mp) ∧ y.cell? ⟨w2.heap.size, 1, none⟩ = some (.int .i64 mz) ∧ y.cell? ⟨w2.heap.size, 2, none⟩ = some (.slice ak mc.length ck) := fun y u => ⟨by rw [cells_cell (Nw.keep u HBW.out)]; rfl, by rw [cells_cell (Nw.keep u HBW.out)]; rfl, by rw [cells_cell (Nw.keep u HBW.out)]; rfl⟩
      have CL := Lib.hid cl
      have hch : Calls Tryz.prog 11 #[.slice a3 PL.1.length c3, .slice a4 PL.1.length c4] w6.drew fun e y => e = .returned (.bool true) ∧ (y.cell? ⟨w2.heap.size, 0, none⟩ = some (.int .i64 mp) ∧ y.cell? ⟨w2.heap.size, 1, none⟩ = some (.int .i64 mz) ∧ y.cell? ⟨w2.heap.size, 2, none⟩ = some (.slice ak mc.length ck)) ∧
          Calls Tryz.prog 12 #[.agg #[.int .i64 mp, .int .i64 mz, .slice ak mc.length ck], .slice ah C.length ch] y fun e y2 => ∃ aS nS cS, e = .returned (.slice aS nS cS) ∧ (y2.cell? ⟨w2.heap.size, 0, none⟩ = some (.int .i64 mp) ∧ y2.cell? ⟨w2.heap.size, 1, none⟩ = some (.int .i64 mz) ∧ y2.cell? ⟨w2.heap.size, 2, none⟩ = some (.slice ak mc.length ck)) ∧
            Calls Tryz.prog 13 #[.agg #[.int .i64 mp, .int .i64 mz, .slice ak mc.length ck], .slice ah C.length ch] y2 fun e y3 => ∃ aq nq cq', e = .returned (.slice aq nq cq') ∧ (y3.cell? ⟨w2.heap.size, 0, none⟩ = some (.int .i64 mp) ∧ y3.cell? ⟨w2.heap.size, 1, none⟩ = some (.int .i64 mz) ∧ y3.cell? ⟨w2.heap.size, 2, none⟩ = some (.slice ak mc.length ck)) ∧
              Calls Tryz.prog 11 #[.slice aS nS cS, .slice aq nq cq'] y3 fun e y4 => e = .returned (.bool true) ∧ (y4.cell? ⟨w2.heap.size, 0, none⟩ = some (.int .i64 mp) ∧ y4.cell? ⟨w2.heap.size, 1, none⟩ = some (.int .i64 mz) ∧ y4.cell? ⟨w2.heap.size, 2, none⟩ = some (.slice ak mc.length ck)) ∧ Hid (Nw w6 y4) := by
        have nd : Nw w6 w6.drew := (Upd.refl _ _).drew
        have nW := T6.out.nw0.trans nd
        have hpl2 := HPL.out
        refine (ints_c _ _ _ _ _ _ _ _ w6.drew (Sl.of_owns (owns_upd' HO3'.out nW (fun _ _ e => e))) (Sl.of_owns (owns_upd' HO4.out nW (fun _ _ e => e))) (by omega) (by omega)).mono ?_
        rintro e y ⟨rfl, uy⟩
        have ny := nW.trans uy
        refine ⟨by rw [decide_eq_true rfl], cl y ny, (short_c _ _ mp mz _ mc _ C y (G4.out.upd ny) (Sl.of_owns (owns_upd' HKW.out ny (fun _ _ e => e))) (by omega) (HCr.out.nw (NW.out.trans ny)) (by omega) (by have := H20.out.2; omega)).mono ?_⟩
        rintro e y2 ⟨v', rfl, o2, uy2⟩
        obtain ⟨aS, cS, rfl⟩ := own_slG o2
        have ny2 := ny.trans uy2
        refine ⟨aS, _, cS, rfl, cl y2 ny2, (rshort_c _ _ mp mz _ mc _ C y2 (G4.out.upd ny2) (Sl.of_owns (owns_upd' HKW.out ny2 (fun _ _ e => e))) (HCr.out.nw (NW.out.trans ny2)) (by omega) (by omega) (fun c hc => by have := H20.out.1 c hc; omega)).mono ?_⟩
        rintro e y3 ⟨v', rfl, o3, uy3⟩
        obtain ⟨aq, cq', rfl⟩ := own_slG o3
        have ny3 := ny2.trans uy3
        have hgl := Ft.miss_len mc (C.map (·.2)).flatten
        refine ⟨aq, _, cq', rfl, cl y3 ny3, (ints_c _ _ _ _ _ _ _ _ y3 (Sl.of_owns (owns_upd' o2 uy3 (fun _ _ e => e))) (Sl.of_owns o3) (by omega) (by omega)).mono ?_⟩
        rintro e y4 ⟨rfl, uy4⟩
        exact ⟨by rw [decide_eq_true rfl], cl y4 (ny3.trans uy4), ((nd.trans uy).trans uy2).trans (uy3.trans uy4)⟩
      have HCh := Lib.hid hch
      obtain ⟨q0, q1, q2⟩ := cl w6 T6.out.nw0
      clear hch cl
      go_wp2_with fail
      go_region_held3 (fun y => y.cell? ⟨w2.heap.size, 0, none⟩ = some (.int .i64 mp) ∧ y.cell? ⟨w2.heap.size, 1, none⟩ = some (.int .i64 mz) ∧ y.cell? ⟨w2.heap.size, 2, none⟩ = some (.slice ak mc.length ck)) (first | exact ⟨q0, q1, q2⟩ | assumption | go_keep) (first | (go_at_call 12; (with_reducible refine HS1.mono ?_); rintro _ y2 ⟨aS, nS, cS, rfl, cy2, HS2⟩) | (go_at_call 13; (with_reducible refine HS2.mono ?_); rintro _ y3 ⟨aq, nq, cq', rfl, cy3, HS3⟩) | (go_at_call 11; (with_reducible refine HS3.mono ?_); rintro _ y4 ⟨rfl, cy4, U7⟩) | (go_at_call 11; (with_reducible refine HCh.out.mono ?_); rintro _ y1 ⟨rfl, cy1, HS1⟩))
      have T7 := Lib.hid (T6.out.nw U7.out)
      have nw7 := T7.out.nw0
      have hop := FtP.open_ (v := .slice av cs.length cv) (cv := .slice ak mc.length ck) (m := ⟨mp, mz, mc⟩) (cs := cs) T7.out G4.out HFile.out (owns_upd' HVW.out nw7 (fun _ _ e => e)) (fun i e => (HVW.out.lt i e).2) ((Sl.of_owns HVW.out).nw nw7) (Nat.le_refl _) ((Sl.of_owns HKW.out).nw nw7) (Nat.le_refl _) ⟨HC.out.len, HC.out.sm⟩ HC.out.nodup HC.out.right
      have HOp := Lib.hid hop
      obtain ⟨j0, j1, j2⟩ := CL.out y4 nw7
      have N7 := Lib.hid nw7
      clear hop nw7 cy4 q0 q1 q2 HCh T6
      generalize Ft.fopen Dk.new file cs ⟨mp, mz, mc⟩ = Rf at *
      go_wp2_with fail
      (with_reducible refine (HOp.out).mono ?_)
      rintro _ w9 ⟨pv, rfl, m9, ho⟩
      have Ho := Lib.hid ho
      have hb9 := m9.keep (Nw.keep N7.out HBW.out) (fun s => by have := lt_of_block HBW.out; omega)
      have i0 : w9.cell? ⟨w2.heap.size, 0, none⟩ = some (.int .i64 mp) := by rw [cells_cell hb9]; rfl
      have i1 : w9.cell? ⟨w2.heap.size, 1, none⟩ = some (.int .i64 mz) := by rw [cells_cell hb9]; rfl
      have i2 : w9.cell? ⟨w2.heap.size, 2, none⟩ = some (.slice ak mc.length ck) := by rw [cells_cell hb9]; rfl
      clear HOp m9 ho hb9 j0 j1 j2
      go_wp2_with fail
      (with_reducible refine (Ho.out).mono ?_)
      rintro _ w10 ⟨qv, rfl, m10, t10⟩
      have hI : FtL W db rb (.slice av cs.length cv) (.slice ak mc.length ck) cs ⟨mp, mz, mc⟩ w1.heap.size W.heap.size w1.heap.size W.heap.size pv (.int .i64 Rf.2.2) qv (.int .i64 Rf.2.2) w10 := ⟨_, _, rfl, rfl, t10⟩
      have HI := Lib.hid hI
      have hhi0 : w.heap.size ≤ W.heap.size := NW.out.size
      clear Ho m10 t10 i0 i1 i2 hI
      go_upto_block 2 with fail
      refine wp_normal (ft_loop G4.out db rb cs mp mz mc tx HC.out file HFile.out w.heap.size hhi0 al cl L (HLr.out.nw NW.out) hF.out av cv w1.heap.size HVW.out w2.heap.size ak ck w1.heap.size W.heap.size (Nat.le_refl _) (Sl.of_owns HKW.out) HBW.out pv _ qv _ HI.out _ (by kernel_rfl) ?_)
      intro u10 u27 u28 u29 u30 u31 u32 u127 u128 u129 u130 u131 u132 u133 u134 u135 u136 u137 u138 u139 u140 u141 u142 u143 u144 u145 u146 u147 u148 u149 u150 u151 u152 u153 u154 u155 u156 u157 u158 u159 u160 u161 u162 u163 u164 u165 u166 u167 u168 u169 u170 u171 u172 u173 u174 u175 u176 u177 u178 u179 u180 u181 u182 u183 u184 u185 u186 u187 u188 u189 u190 u191 u192 u193 u194 u195 u196 u197 u198 u199 u200 u201 u202 u203 u204 u205 u206 u207 u208 u209 u210 u211 u212 u213 u214 u215 u216 u217 u218 u219 u220 u221 u222 u223 u224 u225 u226 u227 u228 u229 u230 u231 u232 u233 u234 u235 u236 u237 u238 u239 u240 u241 u242 u243 u244 u245 u246 u247 u248 u249 u250 u251 u252 u253 u254 u255 u256 u257 u258 u259 u260 u261 u262 u263 u264 u265 u266 u267 u268 u269 xv gv yv hv iv w11 h11
      dsimp only [Exit.then]
      obtain ⟨D, er, rfl, rfl, HP⟩ := h11
      have NE := Lib.hid (NW.out.trans HP.nw0)
      have s5 : (er == er) = true := by simp
      rcases HP with ⟨rfl, rfl, T0⟩ | ⟨x, j, fb, kb, rfl, rfl, T0⟩
      · clear T0
        go_wp2_with fail
        go_ret
        exact ⟨rfl, NE.out⟩
      · clear T0
        go_wp2_with fail
        go_ret
        exact ⟨rfl, NE.out⟩
theorem tells38_i (s : ByteArray) (hs : s.size ≤ maxLen) (z : Int) (hz : 0 ≤ z ∧ z ≤ 255) (v2 : Value) (L : List (Value × FOp)) (w : World) (g : Gl w) (hL : FOpS w.heap.size w v2 L) (v3 : Value) (C : List (Value × List Int)) (hC : RowsI w v3 C) (file : Int) (hf : I64 file) :
    Calls Tryz.prog 3 #[.string s, .int .u8 z, v2, v3, .int .i64 file] w fun e w' => e = .returned (.bool true) ∧ Nw w w' := by
  obtain ⟨z', rfl⟩ : ∃ k : Nat, z = k := ⟨z.toNat, by omega⟩
  obtain ⟨a, c, rfl, hm, -⟩ := hC.cells
  exact tells38_w s hs z' (by omega) v2 L w g hL a c C hC hm file hf
end Go.Proofs.YtmlmdlbepppnlaaGreatDoor
namespace Go.Proofs.YtmlmdlbepppnlaaGreatDoor
open Go.ChangeShapes Go.WideShapes Go.ChangeAt Go.RowKit Go.Joins
set_option linter.unusedVariables false
set_option linter.unusedSimpArgs false
section
variable {H : Type} {enc : TypeId × Value → H} {w : World} {base : Nat} {sp : Nat → Bool} {held : Bool} {n : Nat} {x : DataW H × List MemPlace}
set_option maxRecDepth 100000 in
theorem trod_rows {cs : List Value} (h : DataW.trod enc Tryz.prog w base sp held n 23 cs = some x) : ∃ (v : Value) (C : List (Value × List Int)), cs = [v] ∧ RowsI w v C ∧ ∀ c ∈ C, ∀ k ∈ c.2, I64 k := by
  obtain ⟨v, xs, h1, h2, h3⟩ := trod_slice_cells Tryz.underlying23 (sz := 1) (by kernel_rfl) (by omega) h
  obtain ⟨C, h4, h5⟩ := sl_of_sls h2 (fun c : Value × List Int => c.1) (fun c : Value × List Int => Sl 0 w.heap.size w c.1 (c.2.map intD) ∧ ∀ k ∈ c.2, I64 k) (fun c hc => by
    obtain ⟨m, y, hy⟩ := h3 c hc
    obtain ⟨z2, l2, e2, w2, u2⟩ := trod_ints_cell Tryz.underlying26 Tryz.underlying3 (by kernel_rfl) hy
    exact ⟨(z2, l2), e2, w2, fun k hk => i64_of_wf (u2 k hk)⟩)
  exact ⟨v, C, h1, ⟨⟨_, _, h4⟩, fun c hc => ⟨_, _, (h5 c hc).1⟩⟩, fun c hc => (h5 c hc).2⟩
end
end Go.Proofs.YtmlmdlbepppnlaaGreatDoor
