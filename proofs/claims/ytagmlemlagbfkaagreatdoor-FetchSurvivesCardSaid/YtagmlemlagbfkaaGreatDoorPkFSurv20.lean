/- small of chapter 38. -/
import Derived.Test.YtagmlemlagbfkaaGreatDoorPkFSurv14
namespace Go.Proofs.YtagmlemlagbfkaaGreatDoor
open Go.RowKit
set_option linter.unusedVariables false
set_option linter.unusedSimpArgs false
attribute [local irreducible] Calls

theorem sl_lit {w : World} {b : Nat} {xs : List Value} {T : TypeId} (h : w.heap[b]? = some (.cells xs.toArray T (0, 0))) (hl : xs.length ≤ 1000) : Sl b (b + 1) w (.slice (some ⟨b, 0, none⟩) xs.length xs.length) xs :=
  Or.inr ⟨b, 0, xs.length, rfl, Nat.le_refl _, by unfold maxLen; omega, Nat.le_refl _, by omega, lt_of_block h, fun i hi => by rw [cells_cell h]; simp⟩
theorem rows_lit {w : World} {b : Nat} {C : List (Value × List Int)} {T : TypeId} (h : w.heap[b]? = some (.cells (C.map (·.1)).toArray T (0, 0))) (hl : C.length ≤ 1000) (he : ∀ c ∈ C, ∃ lo hi, Sl lo hi w c.1 (c.2.map intD)) : RowsI w (.slice (some ⟨b, 0, none⟩) C.length C.length) C := by
  have := sl_lit h (by rw [List.length_map]; exact hl)
  rw [List.length_map] at this
  exact ⟨⟨_, _, this⟩, he⟩
theorem sl_nilI (w : World) : Sl 0 0 w (.slice none 0 0) (([] : List Int).map intD) := Or.inl ⟨_, _, rfl, rfl⟩
theorem alloc3 (w : World) (A B C : Obj) : (((w.alloc A).alloc B).alloc C).heap[w.heap.size]? = some A ∧ (((w.alloc A).alloc B).alloc C).heap[w.heap.size + 1]? = some B ∧
    (((w.alloc A).alloc B).alloc C).heap[w.heap.size + 1 + 1]? = some C ∧ Nw w (((w.alloc A).alloc B).alloc C) ∧ (((w.alloc A).alloc B).alloc C).heap.size = w.heap.size + 3 := by
  have a1 := heap_new w A
  have a2 := heap_new (w.alloc A) B
  have a3 := heap_new ((w.alloc A).alloc B) C
  simp only [World.size_alloc] at a2 a3
  refine ⟨?_, ?_, a3, ((nw_alloc w A).alloc B).alloc C, by simp⟩
  · rw [heap_alloc _ _ _ (by simp only [World.size_alloc]; omega), heap_alloc _ _ _ (by simp only [World.size_alloc]; omega)]; exact a1
  · rw [heap_alloc _ _ _ (by simp only [World.size_alloc]; omega)]; exact a2
theorem alloc2 (w : World) (A B : Obj) : ((w.alloc A).alloc B).heap[w.heap.size]? = some A ∧ ((w.alloc A).alloc B).heap[w.heap.size + 1]? = some B ∧ Nw w ((w.alloc A).alloc B) ∧ ((w.alloc A).alloc B).heap.size = w.heap.size + 2 := by
  have a1 := heap_new w A
  have a2 := heap_new (w.alloc A) B
  simp only [World.size_alloc] at a2
  refine ⟨?_, a2, (nw_alloc w A).alloc B, by simp⟩
  rw [heap_alloc _ _ _ (by simp only [World.size_alloc]; omega)]; exact a1
abbrev slB (b n : Nat) : Value := .slice (some ⟨b, 0, none⟩) n n
/-- The contents, the chunks and the manifest of the example. -/
structure XM (w : World) (B : Nat) : Prop where
  b0 : w.heap[B]? = some (.cells (Ft.xcs.map bsMU).toArray 9 (0, 0))
  b1 : w.heap[B + 1]? = some (.cells (Ft.xm.chunks.map intD).toArray 3 (0, 0))
  b2 : w.heap[B + 1 + 1]? = some (.cells #[.int .i64 0, .int .i64 4, slB (B + 1) 2] tManU (0, 0))
theorem XM.upd {w w' : World} {B : Nat} {S : Nat → Prop} (h : XM w B) (u : Upd S w w') (hs : ∀ k, k < B + 3 → ¬ S k) : XM w' B := ⟨u.keep h.b0 (hs _ (by omega)), u.keep h.b1 (hs _ (by omega)), u.keep h.b2 (hs _ (by omega))⟩
theorem XM.nw {w w' : World} {B : Nat} (h : XM w B) (u : Nw w w') : XM w' B := h.upd u (fun _ _ s => s)
theorem XM.cells {w : World} {B : Nat} (h : XM w B) : w.cell? ⟨B + 1 + 1, 0, none⟩ = some (.int .i64 0) ∧ w.cell? ⟨B + 1 + 1, 1, none⟩ = some (.int .i64 4) ∧ w.cell? ⟨B + 1 + 1, 2, none⟩ = some (slB (B + 1) 2) := ⟨by rw [cells_cell h.b2]; rfl, by rw [cells_cell h.b2]; rfl, by rw [cells_cell h.b2]; rfl⟩
theorem XM.ch {w : World} {B : Nat} (h : XM w B) : Sl (B + 1) (B + 1 + 1) w (slB (B + 1) 2) (Ft.xm.chunks.map intD) := sl_lit h.b1 (by decide)
theorem XM.own {w : World} {B : Nat} (h : XM w B) : w.ownsRow B tStrMU 1 (slB B 3) 3 (Ft.xcs.map bsMU) :=
  ⟨by rfl, Or.inr ⟨B, 3, _, rfl, Nat.le_refl _, h.b0, Nat.le_refl _, by unfold maxLen; omega, by rfl, by rfl⟩⟩
theorem xm_made (w : World) : XM (((w.alloc (.cells #[.string ⟨#[97, 98, 99, 100]⟩, .string ⟨#[97, 98]⟩, .string ⟨#[99, 100]⟩] 9)).alloc (.cells #[.int .i64 1, .int .i64 2] 3)).alloc (.cells #[.int .i64 0, .int .i64 4, .slice (some ⟨w.heap.size + 1, 0, none⟩) 2 2] tManU)) w.heap.size := by
  obtain ⟨a1, a2, a3, a4, a5⟩ := alloc3 w (.cells #[.string ⟨#[97, 98, 99, 100]⟩, .string ⟨#[97, 98]⟩, .string ⟨#[99, 100]⟩] 9) (.cells #[.int .i64 1, .int .i64 2] 3) (.cells #[.int .i64 0, .int .i64 4, .slice (some ⟨w.heap.size + 1, 0, none⟩) 2 2] tManU)
  exact ⟨a1, a2, a3⟩
theorem xplan1 (W0 : World) (g : Gl W0) (B : Nat) (h : XM W0 B) : Calls Tryz.prog 37 #[.agg #[.int .i64 0, .int .i64 4, slB (B + 1) 2], slB (W0.heap.size + 1 + 1) 2]
    (((W0.alloc (.cells #[.int .i64 1, .int .i64 2] 3)).alloc (.cells #[.int .i64 2] 3)).alloc (.cells #[slB W0.heap.size 2, slB (W0.heap.size + 1) 1] 22))
    fun e w' => ∃ a c, e = .returned (.tuple #[.slice a 2 c, .int .i64 0]) ∧ w'.ownsRow W0.heap.size 3 1 (.slice a 2 c) 2 [.int .i64 0, .int .i64 1] ∧ Nw W0 w' := by
  obtain ⟨a1, a2, a3, a4, a5⟩ := alloc3 W0 (.cells #[.int .i64 1, .int .i64 2] 3) (.cells #[.int .i64 2] 3) (.cells #[slB W0.heap.size 2, slB (W0.heap.size + 1) 1] 22)
  have hr := rows_lit (C := [(slB W0.heap.size 2, [1, 2]), (slB (W0.heap.size + 1) 1, [2])]) a3 (by simp) (fun c hc => by
    simp only [List.mem_cons, List.not_mem_nil, or_false] at hc
    rcases hc with rfl | rfl
    · exact ⟨_, _, sl_lit (xs := [.int .i64 1, .int .i64 2]) a1 (by decide)⟩
    · exact ⟨_, _, sl_lit (xs := [.int .i64 2]) a2 (by decide)⟩)
  refine (plan_c _ _ 0 4 _ [1, 2] _ _ _ (g.upd a4) ((h.nw a4).ch) (by decide) hr (by simp) (by simp [totL]) (fun c hc => by
    simp only [List.mem_cons, List.not_mem_nil, or_false] at hc
    rcases hc with rfl | rfl <;> simp)).mono ?_
  rintro e w' ⟨v', rfl, o, u⟩
  have e8 := Ft.y8.1
  simp only [List.map_cons, List.map_nil, e8] at o ⊢
  obtain ⟨a, c, rfl⟩ := own_slG o
  exact ⟨a, c, rfl, owns_base o (by omega), a4.trans u⟩
theorem xplan2 (W0 : World) (g : Gl W0) (B : Nat) (h : XM W0 B) : Calls Tryz.prog 37 #[.agg #[.int .i64 0, .int .i64 4, slB (B + 1) 2], slB (W0.heap.size + 1) 2]
    ((W0.alloc (.cells #[.int .i64 1] 3)).alloc (.cells #[slB W0.heap.size 1, .slice none 0 0] 22))
    fun e w' => ∃ a c, e = .returned (.tuple #[.slice a 0 c, .int .i64 33]) ∧ Nw W0 w' := by
  obtain ⟨a1, a2, a4, a5⟩ := alloc2 W0 (.cells #[.int .i64 1] 3) (.cells #[slB W0.heap.size 1, .slice none 0 0] 22)
  have hr := rows_lit (C := [(slB W0.heap.size 1, [1]), (.slice none 0 0, [])]) a2 (by simp) (fun c hc => by
    simp only [List.mem_cons, List.not_mem_nil, or_false] at hc
    rcases hc with rfl | rfl
    · exact ⟨_, _, sl_lit (xs := [.int .i64 1]) a1 (by decide)⟩
    · exact ⟨_, _, sl_nilI _⟩)
  refine (plan_c _ _ 0 4 _ [1, 2] _ _ _ (g.upd a4) ((h.nw a4).ch) (by decide) hr (by simp) (by simp [totL]) (fun c hc => by
    simp only [List.mem_cons, List.not_mem_nil, or_false] at hc
    rcases hc with rfl | rfl <;> simp)).mono ?_
  rintro e w' ⟨v', rfl, o, u⟩
  have e8 := Ft.y8.2.1
  simp only [List.map_cons, List.map_nil, e8] at o ⊢
  obtain ⟨a, c, rfl⟩ := own_slG o
  exact ⟨a, c, rfl, a4.trans u⟩
theorem xshort (W0 : World) (g : Gl W0) (B : Nat) (h : XM W0 B) : Calls Tryz.prog 39 #[.agg #[.int .i64 0, .int .i64 4, slB (B + 1) 2], slB (W0.heap.size + 1) 2]
    ((W0.alloc (.cells #[.int .i64 1] 3)).alloc (.cells #[slB W0.heap.size 1, .slice none 0 0] 22))
    fun e w' => ∃ a c, e = .returned (.slice a 1 c) ∧ w'.ownsRow W0.heap.size 3 1 (.slice a 1 c) 1 [.int .i64 1] ∧ Nw W0 w' := by
  obtain ⟨a1, a2, a4, a5⟩ := alloc2 W0 (.cells #[.int .i64 1] 3) (.cells #[slB W0.heap.size 1, .slice none 0 0] 22)
  have hr := rows_lit (C := [(slB W0.heap.size 1, [1]), (.slice none 0 0, [])]) a2 (by simp) (fun c hc => by
    simp only [List.mem_cons, List.not_mem_nil, or_false] at hc
    rcases hc with rfl | rfl
    · exact ⟨_, _, sl_lit (xs := [.int .i64 1]) a1 (by decide)⟩
    · exact ⟨_, _, sl_nilI _⟩)
  refine (short_c _ _ 0 4 _ [1, 2] _ _ _ (g.upd a4) ((h.nw a4).ch) (by decide) hr (by simp) (by simp [totL])).mono ?_
  rintro e w' ⟨v', rfl, o, u⟩
  have e8 := Ft.y8.2.2
  simp only [List.map_cons, List.map_nil, List.flatten_cons, List.flatten_nil, List.append_nil, e8] at o
  obtain ⟨a, c, rfl⟩ := own_slG o
  exact ⟨a, c, rfl, owns_base o (by omega), a4.trans u⟩
/-- Comparing with a literal. -/
theorem xints (W0 : World) (v : Value) (l m : List Int) (B n : Nat) (o : W0.ownsRow B 3 1 v n (l.map intD)) (hl : l.length ≤ 1000) (hm : m.length ≤ 1000) : Calls Tryz.prog 53 #[v, slB W0.heap.size m.length] (W0.alloc (.cells (m.map intD).toArray 3)) fun e w' => e = .returned (.bool (decide (l = m))) ∧ Nw W0 w' := by
  have na := nw_alloc W0 (.cells (m.map intD).toArray 3)
  have hs := sl_lit (heap_new W0 (.cells (m.map intD).toArray 3)) (by rw [List.length_map]; exact hm)
  rw [List.length_map] at hs
  exact (ints_c _ _ _ _ v _ l m _ (Sl.of_owns (owns_upd' o na (fun _ _ e => e))) hs (by omega) (by omega)).mono fun _ _ ⟨h, u⟩ => ⟨h, na.trans u⟩
/-- A Take of the example. -/
theorem xtake {W0 w : World} {db fb : Nat} {x : FtR} {j j' : Jr.Jn} {D D' : Dk.Disk} {F : Nat → Prop} {n : Int} (h : FS W0 db x j Ft.xcs Ft.xm D F w) (g : Gl W0) (hfb : x.fb = fb) (i : Int) (t : List UInt8) (hi : I64 i) (ht : t.length ≤ 100) (hr : j.recs.length ≤ 1000) (e : Ft.take D Ft.xcs Ft.xm j i t = (D', j', n)) :
    Calls Tryz.prog 42 #[.pointer (some ⟨fb, 0, none⟩), .int .i64 i, .string ⟨t.toArray⟩] w fun e w' => e = .returned (.int .i64 n) ∧ ∃ x' : FtR, x'.fb = fb ∧ FS W0 db x' j' Ft.xcs Ft.xm D' F w' ∧ Moves W0 F w w' := by
  subst hfb
  refine (take_t h g (by decide) (by omega) (by decide) (by decide) hi (by omega)).mono ?_
  rintro _ w' ⟨rfl, x', h1, h2, h3⟩
  rw [e] at h2 ⊢
  exact ⟨rfl, x', h1, h2, h3⟩
set_option maxHeartbeats 8000000 in
set_option maxRecDepth 100000 in
theorem small38_c (w : World) (g : Gl w) : Calls Tryz.prog 34 #[] w fun e w' => e = .returned (.bool true) ∧ Nw w w' := by
  have hgb := g.big
  have X0 := xm_made w
  have n0 : Nw w _ := (alloc3 w (.cells #[.string ⟨#[97, 98, 99, 100]⟩, .string ⟨#[97, 98]⟩, .string ⟨#[99, 100]⟩] 9) (.cells #[.int .i64 1, .int .i64 2] 3) (.cells #[.int .i64 0, .int .i64 4, .slice (some ⟨w.heap.size + 1, 0, none⟩) 2 2] tManU)).2.2.2.1
  have z0 := (alloc3 w (.cells #[.string ⟨#[97, 98, 99, 100]⟩, .string ⟨#[97, 98]⟩, .string ⟨#[99, 100]⟩] 9) (.cells #[.int .i64 1, .int .i64 2] 3) (.cells #[.int .i64 0, .int .i64 4, .slice (some ⟨w.heap.size + 1, 0, none⟩) 2 2] tManU)).2.2.2.2
  generalize hW0 : (((w.alloc (.cells #[.string ⟨#[97, 98, 99, 100]⟩, .string ⟨#[97, 98]⟩, .string ⟨#[99, 100]⟩] 9)).alloc (.cells #[.int .i64 1, .int .i64 2] 3)).alloc (.cells #[.int .i64 0, .int .i64 4, .slice (some ⟨w.heap.size + 1, 0, none⟩) 2 2] tManU)) = W0 at *
  obtain ⟨c0, c1, c2⟩ := X0.cells
  have hp1 := Lib.hid (xplan1 W0 (g.upd n0) w.heap.size X0)
  have HX0 := Lib.hid X0
  have N0 := Lib.hid n0
  have Z0 := Lib.hid z0
  clear X0 n0 z0
  go_enter Tryz.func34, Tryz.ntmps34
  go_wp2_with fail
  (with_reducible refine (hp1.out).mono ?_)
  rintro _ w1 ⟨a1, e1, rfl, o1, u1⟩
  have HO1 := Lib.hid o1
  have N1 := Lib.hid (N0.out.trans u1)
  have X1 := HX0.out.nw u1
  have hz1 := u1.size
  obtain ⟨c0', c1', c2'⟩ := X1.cells
  have hp2 := Lib.hid (xplan2 w1 (g.upd N1.out) w.heap.size X1)
  have HX1 := Lib.hid X1
  have HZ1 : Hid (w.heap.size + 3 ≤ w1.heap.size) := by show _ ≤ _; have := Z0.out; omega
  clear o1 u1 X1 hp1 c0 c1 c2 hz1
  go_wp2_with fail
  (with_reducible refine (hp2.out).mono ?_)
  rintro _ w2 ⟨a2, e2, rfl, u2⟩
  have N2 := Lib.hid (N1.out.trans u2)
  have HX2 := Lib.hid (HX1.out.nw u2)
  have HO2 := Lib.hid (owns_upd' HO1.out u2 (fun _ _ e => e))
  have hz12 := u2.size
  have HZ2 : Hid (w.heap.size + 3 ≤ w2.heap.size) := by show _ ≤ _; have := HZ1.out; omega
  have hn := Lib.hid (new_t w2 (g.upd N2.out))
  clear u2 hp2 c0' c1' c2' hz12
  go_wp2_with fail
  (with_reducible refine (hn.out).mono ?_)
  rintro _ w3 ⟨db, rfl, s3⟩
  have S3 := Lib.hid s3
  have n3 := s3.nw0
  have X3 := HX2.out.nw n3
  have HX3 := Lib.hid X3
  have HO3 := Lib.hid (owns_upd' HO2.out n3 (fun _ _ e => e))
  obtain ⟨c0, c1, c2⟩ := X3.cells
  have ho := fopen_t (m := Ft.xm) (cs := Ft.xcs) s3 (g.upd N2.out) (f := 0) (I64_s (by decide)) X3.own (fun k e => Or.inr (by have := HZ2.out; obtain rfl : w.heap.size = k := (by simpa [Value.ownBlock] using e); omega)) X3.ch (fun k h1 h2 => Or.inr (by have := HZ2.out; omega)) ⟨by decide, by decide⟩ (by decide) (by decide)
  rw [Ft.y1] at ho
  have Ho : Hid (Calls Tryz.prog 38 #[.pointer (some ⟨db, 0, none⟩), .int .i64 0, slB w.heap.size 3, .agg #[.int .i64 0, .int .i64 4, slB (w.heap.size + 1) 2]] w3 _) := ho
  clear s3 n3 X3 hn ho
  go_wp2_with fail
  (with_reducible refine (Ho.out).mono ?_)
  rintro _ w4 ⟨pv, rfl, m4, f4⟩
  rcases f4 with ⟨e, _, _⟩ | ⟨j4, x4, e, rfl, s4⟩
  · cases e
  obtain rfl := Option.some.inj e
  have GW2 := Lib.hid (g.upd N2.out)
  have X4 := HX3.out.upd m4 (fun k hk s => by have := HZ2.out; have := s.2; omega)
  have HX4 := Lib.hid X4
  have HO4 := owns_kept HO3.out m4 (fun k e => Or.inr ((HO2.out.lt k e).2))
  have i1 := Lib.hid (xints w4 _ [0, 1] [0, 1] _ _ HO4 (by decide) (by decide))
  have I1 : Hid (Calls Tryz.prog 53 #[.slice a1 2 e1, slB w4.heap.size 2] (w4.alloc (.cells #[.int .i64 0, .int .i64 1] 3)) fun e w' => e = .returned (.bool true) ∧ Nw w4 w') := i1.out
  obtain ⟨fb, hfb⟩ : ∃ fb, x4.fb = fb := ⟨_, rfl⟩
  rw [hfb]
  have HFB := Lib.hid hfb
  have S4 := Lib.hid s4
  clear e s4 m4 X4 HO4 i1 hfb HX3 HO3 HO2 HO1 S3 Ho c0 c1 c2
  go_wp2_with fail
  (with_reducible refine (I1.out).mono ?_)
  rintro _ w5 ⟨rfl, u5⟩
  have X5 := HX4.out.nw u5
  have S5 := Lib.hid (S4.out.nw u5)
  obtain ⟨c0, c1, c2⟩ := X5.cells
  have HX5 := Lib.hid X5
  have Hs := Lib.hid (xshort w5 (g.upd (N2.out.trans S5.out.nw0)) w.heap.size X5)
  clear u5 X5 I1 HX4 S4
  go_wp2_with fail
  (with_reducible refine (Hs.out).mono ?_)
  rintro _ w6 ⟨a6, e6, rfl, o6, u6⟩
  have S6 := Lib.hid (S5.out.nw u6)
  have i2 := Lib.hid (xints w6 _ [1] [1] _ _ o6 (by decide) (by decide))
  have I2 : Hid (Calls Tryz.prog 53 #[.slice a6 1 e6, slB w6.heap.size 1] (w6.alloc (.cells #[.int .i64 1] 3)) fun e w' => e = .returned (.bool true) ∧ Nw w6 w') := i2.out
  clear u6 o6 i2 S5 Hs c0 c1 c2
  go_wp2_with fail
  (with_reducible refine (I2.out).mono ?_)
  rintro _ w7 ⟨rfl, u7⟩
  have S7 := Lib.hid (S6.out.nw u7)
  have t1 := xtake S7.out GW2.out HFB.out 0 [99, 100] (I64_s (by decide)) (by decide) (by decide) Ft.y2
  have T1 : Hid (Calls Tryz.prog 42 #[.pointer (some ⟨fb, 0, none⟩), .int .i64 0, .string ⟨#[99, 100]⟩] w7 _) := t1
  clear u7 I2 S6 t1
  go_wp2_with fail
  (with_reducible refine (T1.out).mono ?_)
  rintro _ w8 ⟨rfl, x8, f8, s8, m8⟩
  have t2 := xtake s8 GW2.out f8 2 [97, 98] (I64_s (by decide)) (by decide) (by decide) Ft.y3
  have T2 : Hid (Calls Tryz.prog 42 #[.pointer (some ⟨fb, 0, none⟩), .int .i64 2, .string ⟨#[97, 98]⟩] w8 _) := t2
  clear t2 s8 m8 T1 S7 f8 HFB
  go_wp2_with fail
  (with_reducible refine (T2.out).mono ?_)
  rintro _ w9 ⟨rfl, x9, f9, s9, m9⟩
  have t3 := xtake s9 GW2.out f9 1 [99, 100] (I64_s (by decide)) (by decide) (by decide) Ft.y4
  have T3 : Hid (Calls Tryz.prog 42 #[.pointer (some ⟨fb, 0, none⟩), .int .i64 1, .string ⟨#[99, 100]⟩] w9 _) := t3
  clear t3 s9 m9 T2 f9
  go_wp2_with fail
  (with_reducible refine (T3.out).mono ?_)
  rintro _ w10 ⟨rfl, x10, f10, s10, m10⟩
  have mi := fmissing_t s10 GW2.out (by decide) (by decide)
  rw [f10, Ft.y5.1] at mi
  have Mi := Lib.hid mi
  have F10 := Lib.hid f10
  have S10 := Lib.hid s10
  clear mi s10 m10 T3 f10
  go_wp2_with fail
  (with_reducible refine (Mi.out).mono ?_)
  rintro _ w11 ⟨v11, rfl, o11, u11⟩
  have s11 := S10.out.keep (F' := fun k => v11.ownBlock = some k) u11 (fun k e => Or.inr (o11.lt k e))
  have tx := ftext_t s11 GW2.out (by decide) (by decide) (by decide)
  rw [F10.out, Ft.y5.2] at tx
  have Tx : Hid (Calls Tryz.prog 44 #[.pointer (some ⟨fb, 0, none⟩)] w11 fun e w' => e = .returned (.tuple #[.string ⟨#[]⟩, .int .i64 33]) ∧ Nw w11 w') := tx
  have HO11 := Lib.hid o11
  have S11 := Lib.hid s11
  obtain ⟨a11, e11, rfl⟩ := own_slG o11
  clear tx s11 u11 o11 Mi S10
  go_wp2_with fail
  (with_reducible refine (Tx.out).mono ?_)
  rintro _ w12 ⟨rfl, u12⟩
  have s12 := S11.out.nw u12
  have o12 := owns_upd' HO11.out u12 (fun _ _ e => e)
  have t4 := xtake s12 GW2.out F10.out 0 [97, 98] (I64_s (by decide)) (by decide) (by decide) Ft.y6
  have T4 : Hid (Calls Tryz.prog 42 #[.pointer (some ⟨fb, 0, none⟩), .int .i64 0, .string ⟨#[97, 98]⟩] w12 _) := t4
  have HO12 := Lib.hid o12
  clear t4 s12 o12 u12 Tx S11 HO11
  go_wp2_with fail
  (with_reducible refine (T4.out).mono ?_)
  rintro _ w13 ⟨rfl, x13, f13, s13, m13⟩
  have o13 := owns_kept HO12.out m13 (fun k e => Or.inl e)
  have tx := ftext_t s13 GW2.out (by decide) (by decide) (by decide)
  rw [f13, Ft.y7] at tx
  have Tx2 : Hid (Calls Tryz.prog 44 #[.pointer (some ⟨fb, 0, none⟩)] w13 fun e w' => e = .returned (.tuple #[.string ⟨#[97, 98, 99, 100]⟩, .int .i64 0]) ∧ Nw w13 w') := tx
  have HO13 := Lib.hid o13
  have N13 := Lib.hid (N2.out.trans s13.nw0)
  clear tx s13 m13 o13 T4 HO12 F10
  go_wp2_with fail
  (with_reducible refine (Tx2.out).mono ?_)
  rintro _ w14 ⟨rfl, u14⟩
  have o14 := owns_upd' HO13.out u14 (fun _ _ e => e)
  have N14 := Lib.hid (N13.out.trans u14)
  have i3 := Lib.hid (xints w14 _ [0] [0] _ _ o14 (by decide) (by decide))
  have I3 : Hid (Calls Tryz.prog 53 #[.slice a11 1 e11, slB w14.heap.size 1] (w14.alloc (.cells #[.int .i64 0] 3)) fun e w' => e = .returned (.bool true) ∧ Nw w14 w') := i3.out
  clear u14 o14 i3 Tx2 HO13 f13
  go_wp2_with fail
  (with_reducible refine (I3.out).mono ?_)
  rintro _ w15 ⟨rfl, u15⟩
  have N15 := Lib.hid (N14.out.trans u15)
  clear u15 I3
  go_wp2_with fail
  go_ret
  exact ⟨rfl, N15.out⟩
end Go.Proofs.YtagmlemlagbfkaaGreatDoor
