/- The walk of the statement WireWrites; the contracts of number and write. -/
import Derived.Test.YtiaakidglmgmpaaDoorLawA
import Derived.Test.YtiaakidglmgmpaaDoorRefE
import Derived.Test.YtiaakidglmgmpaaDoorFew
namespace Go.Proofs.YtiaakidglmgmpaaDoor
open Go.RowKit
set_option linter.unusedVariables false
set_option linter.unusedSimpArgs false
attribute [local irreducible] Calls

theorem intE_len {n : Int} (h : I64 n) : (Wire.intE n).length ≤ 22 := by have := itoa_le h; simp only [Wire.intE, List.length_append, List.length_cons, List.length_nil]; omega
theorem itoaNat_len {k : Nat} (h : k ≤ 9223372036854775807) : (Lib.itoa (k : Int)).length ≤ 21 := itoa_le (by unfold I64; omega)
theorem textE_len {s : List UInt8} (h : s.length ≤ 9223372036854775807) : (Wire.textE s).length ≤ 23 + s.length := by
  have := itoaNat_len h; simp only [Wire.textE, List.length_append, List.length_cons, List.length_nil]; omega
theorem flat_len {α : Type} (f : α → List UInt8) (g : α → Nat) (l : List α) (h : ∀ x ∈ l, (f x).length ≤ g x) : (l.map f).flatten.length ≤ (l.map g).sum := by
  induction l with
  | nil => simp
  | cons x l ih =>
    have h1 := h x (by simp)
    have h2 := ih (fun y hy => h y (List.mem_cons_of_mem _ hy))
    simp only [List.map_cons, List.flatten_cons, List.length_append, List.sum_cons]; omega
theorem sum_const {α : Type} (c : Nat) (l : List α) : (l.map fun _ => c).sum = c * l.length := by
  induction l with
  | nil => rfl
  | cons x l ih => simp only [List.map_cons, List.sum_cons, ih, List.length_cons, Nat.mul_add]; omega
theorem sum_add {α : Type} (c : Nat) (f : α → Nat) (l : List α) : (l.map fun x => c + f x).sum = c * l.length + (l.map f).sum := by
  induction l with
  | nil => rfl
  | cons x l ih => simp only [List.map_cons, List.sum_cons, ih, List.length_cons, Nat.mul_add]; omega
theorem numsE_len {l : List Int} (h : ∀ n ∈ l, I64 n) (hl : l.length ≤ 9223372036854775807) : (Wire.numsE l).length ≤ 23 + 22 * l.length := by
  have h1 := flat_len Wire.intE (fun _ => 22) l (fun x hx => intE_len (h x hx))
  rw [sum_const] at h1
  have h2 := itoaNat_len hl
  simp only [Wire.numsE, Wire.listE, List.length_append, List.length_map, List.length_cons, List.length_nil]; omega
theorem mem_tsum {t : List (List UInt8)} {x : List UInt8} (h : x ∈ t) : x.length ≤ tsum t := by
  induction t with
  | nil => cases h
  | cons y t ih =>
    simp only [tsum, List.map_cons, List.sum_cons] at ih ⊢
    rcases List.mem_cons.1 h with rfl | h
    · omega
    · have := ih h; omega
theorem textsE_len {t : List (List UInt8)} (h : tsum t ≤ 9223372036854775807) (hl : t.length ≤ 9223372036854775807) : (Wire.textsE t).length ≤ 23 + 23 * t.length + tsum t := by
  have h1 := flat_len Wire.textE (fun x => 23 + x.length) t (fun x hx => textE_len (Nat.le_trans (mem_tsum hx) h))
  rw [sum_add] at h1
  have h2 := itoaNat_len hl
  simp only [Wire.textsE, Wire.listE, List.length_append, List.length_map, List.length_cons, List.length_nil, tsum] at h1 ⊢; omega
/-- The slice literal of one Value. -/
theorem vals_lit {hi : Nat} {w w' : World} {cs : List Value} {x : Val} {e : TypeId} (h : IsVal hi w cs x) (u : Nw w w') (hh : hi ≤ w'.heap.size) :
    Vals (w'.heap.size + 1) (w'.alloc (.cells cs.toArray e)) (.slice (some ⟨w'.heap.size, 0, none⟩) 1 1) [x] := by
  obtain ⟨vl, vt, h1, h2, h3, h4⟩ := h
  refine ⟨[cs], Or.inr ⟨w'.heap.size, 0, 1, rfl, Nat.le_refl _, by decide, Nat.zero_le _, by omega, by simp, fun i hi' => ?_⟩, rfl, fun i a b => ?_⟩
  · obtain rfl : i = 0 := by simpa using hi'
    refine ⟨by simp [h1], fun j hj => ?_⟩
    rw [cells_cell (heap_new w' _)]
    simp
  · obtain rfl : i = 0 := by simpa using a
    exact ⟨vl, vt, h1, ((h2.nw u).nw (nw_alloc _ _)).wider (Nat.le_refl _) (by omega), ((h3.nw u).nw (nw_alloc _ _)).wider (Nat.le_refl _) (by omega), h4⟩
set_option maxHeartbeats 1000000 in
set_option maxRecDepth 100000 in
theorem wireWrites_c (hi : Nat) (k n : Int) (s : List UInt8) (vl vt : Value) (x : Val) (w : World) (g : Gl w) (hh : hi ≤ w.heap.size)
    (hv : IsVal hi w [.int .i64 k, .int .i64 n, .string ⟨s.toArray⟩, vl, vt] x) :
    Calls Tryd.prog 3 #[.agg #[.int .i64 k, .int .i64 n, .string ⟨s.toArray⟩, vl, vt]] w fun e w' => e = .returned (.bool true) ∧ Nw w w' := by
  have hbx := heap_new w (.cells #[.int .i64 k, .int .i64 n, .string ⟨s.toArray⟩, vl, vt] 25)
  have Hbx := Lib.hid hbx; clear hbx
  go_enter Tryd.func3, Tryd.ntmps3
  go_wp2_with fail
  (with_reducible refine (small_c _ (g.upd (nw_alloc _ _))).mono ?_)
  rintro _ w1 ⟨rfl, u1⟩
  have hb1 := u1.keep Hbx.out
  replace u1 := (nw_alloc _ _).trans u1
  have g1 := g.upd u1
  have c0 : w1.cell? ⟨w.heap.size, 0, none⟩ = some (.int .i64 k) := by rw [cells_cell hb1]; rfl
  have c1 : w1.cell? ⟨w.heap.size, 1, none⟩ = some (.int .i64 n) := by rw [cells_cell hb1]; rfl
  have c2 : w1.cell? ⟨w.heap.size, 2, none⟩ = some (.string ⟨s.toArray⟩) := by rw [cells_cell hb1]; rfl
  have c3 : w1.cell? ⟨w.heap.size, 3, none⟩ = some vl := by rw [cells_cell hb1]; rfl
  have c4 : w1.cell? ⟨w.heap.size, 4, none⟩ = some vt := by rw [cells_cell hb1]; rfl
  go_wp2_with fail
  (with_reducible refine (few_c _ _ _ _ (vals_lit (e := 25) hv u1 (Nat.le_trans hh u1.size))).mono ?_)
  rintro _ w2 ⟨b, rfl, hfew, u2⟩
  replace u2 := (nw_alloc _ _).trans u2
  have hb2 := Nw.keep u2 hb1
  have g2 := g1.upd u2
  replace u2 := u1.trans u2
  clear c0 c1 c2 c3 c4 hb1 u1 g1 Hbx
  cases b with
  | false =>
    clear hfew
    go_wp2_with fail
    go_ret
    exact ⟨rfl, u2⟩
  | true =>
    obtain ⟨_, htot⟩ := hfew.1 rfl
    clear hfew
    obtain ⟨vl', vt', he, hsl, hst, hI1, hI2, hI3⟩ := hv
    simp only [List.cons.injEq, Value.int.injEq, Value.string.injEq, and_true, true_and] at he
    obtain ⟨rfl, rfl, hs', rfl, rfl⟩ := he
    have hs : s = x.s := by have := congrArg (fun t : ByteArray => t.data.toList) hs'; simpa using this
    clear hs'
    subst hs
    simp only [tot, Val.size, List.map_cons, List.map_nil, List.sum_cons, List.sum_nil] at htot
    have hls : x.s.length ≤ 400 := by omega
    have hll : (Wire.numsE x.l).length ≤ 140737488351232 := by have := numsE_len hI3 (by omega); omega
    have hlt : (Wire.textsE x.t).length ≤ 140737488351232 := by have := textsE_len (t := x.t) (by omega) (by omega); omega
    have c1 : ∀ i : Later w2, i.1.cell? ⟨w.heap.size, 1, none⟩ = some (.int .i64 x.n) := fun i => by rw [cells_cell (i.nw.keep hb2)]; rfl
    have c2 : ∀ i : Later w2, i.1.cell? ⟨w.heap.size, 2, none⟩ = some (.string ⟨x.s.toArray⟩) := fun i => by rw [cells_cell (i.nw.keep hb2)]; rfl
    clear htot
    have HI := Lib.hid hI3; clear hI3
    go_wp2_with fail
    refine wp_region_nw (by kernel_rfl) (by kernel_rfl) ?_
    repeat (go_big_quiet_step ((first | (go_at_call 11; exact later_call (Num_e x.n _ (g2.upd (Later.nw _)) hI2)) | (go_at_call 12; exact later_call (Num_q x.n _ hI2)) | (go_at_call 13; exact later_call (Int_e x.n _ (g2.upd (Later.nw _)) hI2)) | (go_at_call 14; exact later_call (Int_q x.n _ hI2)) | (go_at_call 15; exact later_call (Text_e _ x.s (bs_list _) _ (g2.upd (Later.nw _)) (by omega))) | (go_at_call 16; exact later_call (Text_q _ x.s (bs_list _) _ (by omega))))))
    refine wpQuiet_nil ?_
    intro w3 u3
    replace u3 := later_out u3
    have hb3 := Nw.keep u3 hb2
    have g3 := g2.upd u3
    replace u3 := u2.trans u3
    clear c1 c2 hb2 g2
    have c3 : ∀ i : Later w3, i.1.cell? ⟨w.heap.size, 3, none⟩ = some vl := fun i => by rw [cells_cell (i.nw.keep hb3)]; rfl
    have c4 : ∀ i : Later w3, i.1.cell? ⟨w.heap.size, 4, none⟩ = some vt := fun i => by rw [cells_cell (i.nw.keep hb3)]; rfl
    have hsl3 := hsl.nw u3
    have hst3 := hst.nw u3
    go_wp2_with fail
    refine wp_region_nw (by kernel_rfl) (by kernel_rfl) ?_
    repeat (go_big_quiet_step ((first | (go_at_call 17; exact later_call (Nums_e _ _ _ x.l _ (g3.upd (Later.nw _)) (hsl3.nw (Later.nw _)) HI.out hll)) | (go_at_call 18; exact later_call (Nums_q _ _ _ x.l _ (hsl3.nw (Later.nw _)) HI.out hll)) | (go_at_call 19; exact later_call (Texts_e _ _ _ x.t _ (g3.upd (Later.nw _)) (hst3.nw (Later.nw _)) hlt)) | (go_at_call 20; exact later_call (Texts_q _ _ _ x.t _ (hst3.nw (Later.nw _)) hlt)))))
    refine wpQuiet_nil ?_
    intro w4 u4
    replace u4 := later_out u4
    go_wp2_with fail
    go_ret
    exact ⟨rfl, u3.trans u4⟩
end Go.Proofs.YtiaakidglmgmpaaDoor
